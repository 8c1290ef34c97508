/- Contracts of functions of this program, walked. No condition but the ones each theorem states. -/
import Derived.Test.YtcmaildfhdddjaaDoorP1
import Derived.Lib.ParseIntBCases
namespace Go.Proofs.YtcmaildfhdddjaaDoor
open Go.RowKit

attribute [local go_sem ↓] Go.wp_at_zero Go.wp_at_succ

def P32 (s : ByteArray) (w : World) (e : Ending) (w' : World) : Prop :=
  ∃ (n : Nat) (er : Value), e = .returned (.tuple #[.int .u64 n, er]) ∧ n < 4294967296 ∧ (∀ u, Lib.parseUintB 32 s.data.toList = .ok u → n = u) ∧ Below w.heap.size w w'
theorem pu32_calls (s : ByteArray) (hs : s.size ≤ 1000) (w : World) (hG : Glob w) : Calls Tryd.prog 34 #[.string s, .int .i64 10, .int .i64 32] w (P32 s w) := by
  cases h : Lib.parseUintB 32 s.data.toList with
  | ok u =>
    refine (Tryd.strconv_ParseUint_10_at32_ok s (by omega) u h w).mono ?_
    rintro e w' ⟨rfl, hw⟩
    have hu := Lib.parseUintB_le h
    refine ⟨u, _, rfl, by omega, fun u' h' => by rw [h] at h'; cases h'; rfl, ?_⟩
    rcases hw with rfl | rfl
    · exact Below.refl _ _
    · exact Lib.bytesWorld_below w 5 s
  | range =>
    obtain ⟨ev, hev, hevk⟩ := hG.rng
    refine (Tryd.strconv_ParseUint_10_at32_range s (by omega) h ev w hev hevk).mono ?_
    rintro e w' ⟨N, rfl, _, _, hb⟩
    exact ⟨4294967295, _, rfl, by omega, fun u' h' => (by rw [h] at h'; cases h'), hb⟩
  | _ =>
    obtain ⟨ev, hev, hevk⟩ := hG.syn
    refine (Tryd.strconv_ParseUint_10_at32_syntax s (by omega) h ev w hev hevk).mono ?_
    rintro e w' ⟨N, rfl, _, _, hb⟩
    exact ⟨0, _, rfl, by omega, fun u' h' => (by rw [h] at h'; cases h'), hb⟩

def AtoiP (s : ByteArray) (w : World) (e : Ending) (w' : World) : Prop :=
  ∃ (v : Int) (er : Value), e = .returned (.tuple #[.int .i64 v, er]) ∧ (∀ u, Lib.atoiAll s.data.toList = .ok u → v = u) ∧ Below w.heap.size w w'
theorem atoi_calls (s : ByteArray) (hs : s.size ≤ 1000) (w : World) (hG : Glob w) : Calls Tryd.prog 36 #[.string s] w (AtoiP s w) := by
  cases h : Lib.atoiAll s.data.toList with
  | ok u =>
    refine (Tryd.strconv_Atoi_ok s (by omega) u h w).mono ?_
    rintro e w' ⟨rfl, hw⟩
    refine ⟨u, _, rfl, fun u' h' => by rw [h] at h'; cases h'; rfl, ?_⟩
    rcases hw with rfl | ⟨t, rfl⟩
    · exact Below.refl _ _
    · exact Lib.bytesWorld_below w 5 t
  | range =>
    obtain ⟨ev, hev, hevk⟩ := hG.rng
    refine (Tryd.strconv_Atoi_range s (by omega) h ev w hev hevk).mono ?_
    rintro e w' ⟨N, rfl, _, _, hb⟩
    exact ⟨_, _, rfl, fun u' h' => (by rw [h] at h'; cases h'), hb⟩
  | _ =>
    obtain ⟨ev, hev, hevk⟩ := hG.syn
    refine (Tryd.strconv_Atoi_syntax s (by omega) h ev w hev hevk).mono ?_
    rintro e w' ⟨N, rfl, _, _, hb⟩
    exact ⟨0, _, rfl, fun u' h' => (by rw [h] at h'; cases h'), hb⟩

theorem Blk.set_other {w : World} {g g' : Nat} {t : TypeId} {cs : Array Value} (h : Blk w g t cs) (hne : g ≠ g') (i : Nat) (u : Value) : Blk (w.setCell ⟨g', i, none⟩ u) g t cs := by
  unfold Blk at h ⊢
  rw [Below.heap_setCell _ _ _ _ hne]
  exact h

/-- the pieces at '/' -/
def cutS (s : ByteArray) : ByteArray := ⟨(Lib.trimPrefix s.data.toList [99, 104, 111, 105, 114, 58]).toArray⟩
def pcs (s : ByteArray) : List ByteArray := Lib.splitB ⟨#[47]⟩ 0 (Lib.countB (cutS s) ⟨#[47]⟩) (cutS s)
theorem pcs_len (s : ByteArray) : (pcs s).length = Lib.countB (cutS s) ⟨#[47]⟩ + 1 := Lib.splitB_all ⟨#[47]⟩ (by decide) 0 _ (cutS s) rfl
def nps (p : ByteArray) : List ByteArray := Lib.splitB ⟨#[44]⟩ 0 (Lib.countB p ⟨#[44]⟩) p
theorem nps_len (p : ByteArray) : (nps p).length = Lib.countB p ⟨#[44]⟩ + 1 := Lib.splitB_all ⟨#[44]⟩ (by decide) 0 _ p rfl

def isText (s : ByteArray) (t : List UInt8) (v : Nat) (ns : List Int) : Prop := rightB t.length ns = true ∧ v < 4294967296 ∧ sb s = textB t v ns

theorem isText_pcs {s : ByteArray} {t : List UInt8} {v : Nat} {ns : List Int} (h : isText s t v ns) : (pcs s).map (·.data.toList) = [hexL t, Lib.decDigits v, Lib.join (ns.map decI) [44]] ∧ Lib.countB (cutS s) ⟨#[47]⟩ = 2 := by
  obtain ⟨_, _, hs⟩ := h
  have hc : (cutS s).data.toList = bodyB t v ns := by
    unfold cutS
    show Lib.trimPrefix (sb s) _ = _
    rw [hs]
    exact text_trim t v ns
  have hcount : Lib.countB (cutS s) ⟨#[47]⟩ = 2 := by
    show Lib.count (cutS s).data.toList [47] = 2
    rw [hc]
    exact body_count t v ns
  refine ⟨?_, hcount⟩
  unfold pcs
  rw [hcount, Lib.splitB_data, hc]
  exact body_split t v ns

def ParsePost (s : ByteArray) (w : World) (e : Ending) (w' : World) : Prop :=
  ((∃ (t : List UInt8) (v : Nat) (ns : List Int) (x : Value), e = .returned (.tuple #[.agg #[.string ⟨t.toArray⟩, .int .u32 v, x], .bool true]) ∧ w'.ownsRow w.heap.size 3 1 x ns.length (ic ns) ∧ textR t v ns = sb s ∧ v < 4294967296 ∧ t.length ≤ 1000 ∧ ns.length ≤ 1001 ∧ (∀ t1 v1 ns1, isText s t1 v1 ns1 → t = t1 ∧ v = v1 ∧ ns = ns1)) ∨
    (e = .returned (.tuple #[.agg #[.string ⟨#[]⟩, .int .u32 0, .slice none 0 0], .bool false]) ∧ ∀ t1 v1 ns1, ¬ isText s t1 v1 ns1)) ∧ Below w.heap.size w w'

theorem ret_ref13 {R : Ending → World → Prop} {a : Act} {w : World} {g : Nat} {x y z b : Value} (hd : a.defers = []) (h2 : a.tmps.getD 2 undef = .pointer (some ⟨g, 0, none⟩)) (h3 : a.tmps.getD 3 undef = b)
    (hB : Blk w g 26 #[x, y, z]) (hR : R (.returned (.tuple #[.agg #[x, y, z], b])) w) : bodyPost Tryd.prog Tryd.f13 R .ret a w := by
  refine bodyPost_ret (v := .tuple #[.agg #[x, y, z], b]) ?_ hd hR
  rw [results_cell_tmp (p := 2) (u := 3) (ty := 26) rfl, h2, h3]
  simp only [asAddr, Sem.run_pure, Result.andThen_ok, load26 hB]

set_option maxRecDepth 100000 in
set_option maxHeartbeats 1600000 in
theorem parse_no (s : ByteArray) (hs : s.size ≤ 1000) (w : World) (hG : Glob w) (hK : Lib.countB (cutS s) ⟨#[47]⟩ ≠ 2) : Calls Tryd.prog 13 #[.string s] w (ParsePost s w) := by
  have hcs : (cutS s).size ≤ 1000 := by
    show (Lib.trimPrefix (sb s) [99, 104, 111, 105, 114, 58]).length ≤ 1000
    have := sb_len s
    unfold Lib.trimPrefix
    split
    · simp; omega
    · omega
  obtain ⟨m, hm⟩ := hG.cut
  have hsp := Lib.hid (fun W (hW : W.cell? ⟨3, 0, none⟩ = some (.int .i64 m)) => Tryd.strings_Split (cutS s) ⟨#[47]⟩ m W (by omega) hW (by decide))
  have hm1 : (w.alloc (.cells #[.string ⟨#[]⟩, .int .u32 0, .slice none 0 0] 26)).cell? ⟨3, 0, none⟩ = some (.int .i64 m) := (World.cell?_alloc_old w _ ⟨3, 0, none⟩ (by have := hG.big; simp; omega)).trans hm
  have htp := Lib.hid (fun W => Tryd.strings_TrimPrefix s ⟨#[99, 104, 111, 105, 114, 58]⟩ W)
  have hcutS : (⟨(Lib.trimPrefix s.data.toList [99, 104, 111, 105, 114, 58]).toArray⟩ : ByteArray) = cutS s := rfl
  have hnot : ∀ t1 v1 ns1, ¬ isText s t1 v1 ns1 := fun t1 v1 ns1 h => hK (isText_pcs h).2
  generalize Lib.countB (cutS s) ⟨#[47]⟩ = K at *
  have hne : (((K : Int) + 1) != 3) = true := by simp; omega
  go_enter Tryd.func13, Tryd.ntmps13
  go_wp2_with fail
  refine (htp.out _).mono ?_
  rintro e w1 ⟨rfl, rfl⟩
  go_wp2_with fail
  refine (hsp.out _ hm1).mono ?_
  rintro e w2 ⟨rfl, rfl⟩
  go_wp2_with fail
  exact ret_ref13 (g := w.heap.size) rfl rfl rfl ((Blk.new w 26 #[.string ⟨#[]⟩, .int .u32 0, .slice none 0 0]).alloc _) ⟨Or.inr ⟨rfl, hnot⟩, ((Below.refl _ w).alloc (Nat.le_refl _) _).alloc (by simp) _⟩

theorem toL (s : ByteArray) : s.toList = sb s := by
  exact ByteArray.toList_eq s

theorem three {α : Type} (l : List α) (h : l.length = 3) : ∃ a b c, l = [a, b, c] := by
  match l, h with
  | [a, b, c], _ => exact ⟨a, b, c, rfl⟩

theorem splitB_size (sep : ByteArray) : ∀ (k : Nat) (s : ByteArray), ∀ p ∈ Lib.splitB sep 0 k s, p.size ≤ s.size
  | 0, s, p, hp => by
    rw [Lib.splitB_zero] at hp
    simp only [List.mem_singleton] at hp
    subst hp
    exact Nat.le_refl _
  | k + 1, s, p, hp => by
    unfold Lib.splitB at hp
    split at hp
    · simp only [List.mem_singleton] at hp
      subst hp
      exact Nat.le_refl _
    · simp only [List.mem_cons] at hp
      rcases hp with rfl | hp
      · simp [ByteArray.size_extract]
        omega
      · refine Nat.le_trans (splitB_size sep k _ p hp) ?_
        simp [ByteArray.size_extract]

set_option maxRecDepth 100000 in
set_option maxHeartbeats 6400000 in
theorem parse_yes (s : ByteArray) (hs : s.size ≤ 1000) (w : World) (hG : Glob w) (hK : Lib.countB (cutS s) ⟨#[47]⟩ = 2) : Calls Tryd.prog 13 #[.string s] w (ParsePost s w) := by
  have hcs : (cutS s).size ≤ 1000 := by
    show (Lib.trimPrefix (sb s) [99, 104, 111, 105, 114, 58]).length ≤ 1000
    have := sb_len s
    unfold Lib.trimPrefix
    split
    · simp; omega
    · omega
  obtain ⟨p0, p1, p2, hP⟩ := three (pcs s) (by rw [pcs_len, hK])
  have hpz : ∀ p ∈ pcs s, p.size ≤ 1000 := fun p hp => Nat.le_trans (splitB_size _ _ _ p hp) hcs
  rw [hP] at hpz
  have z0 := hpz p0 (by simp)
  have z1 := hpz p1 (by simp)
  have z2 := hpz p2 (by simp)
  clear hpz
  obtain ⟨m, hm⟩ := hG.cut
  have hsp : ∀ (W : World) (H : Nat), W.heap.size = H → W.cell? ⟨3, 0, none⟩ = some (.int .i64 m) → Calls Tryd.prog 32 #[.string (cutS s), .string ⟨#[47]⟩] W fun e w' => e = .returned (.slice (some ⟨H, 0, none⟩) 3 3) ∧ w' = W.alloc (.cells #[.string p0, .string p1, .string p2] 9) := fun W H hH hW => by
    subst hH
    refine (Tryd.strings_Split (cutS s) ⟨#[47]⟩ m W (by omega) hW (by decide)).mono ?_
    rintro e w' ⟨rfl, rfl⟩
    rw [hK]
    refine ⟨rfl, ?_⟩
    have e : Lib.splitB ⟨#[47]⟩ 0 2 (cutS s) = [p0, p1, p2] := by rw [← hP]; unfold pcs; rw [hK]
    rw [e]
    rfl
  have HSP := Lib.hid hsp
  clear hsp
  have hP' : ∀ t1 v1 ns1, isText s t1 v1 ns1 → sb p0 = hexL t1 ∧ sb p1 = Lib.decDigits v1 ∧ sb p2 = Lib.join (ns1.map decI) [44] := fun t1 v1 ns1 h => by
    have := (isText_pcs h).1
    rw [hP] at this
    simp only [List.map_cons, List.map_nil, List.cons.injEq, and_true] at this
    exact this
  have HP := Lib.hid hP'
  clear hP hP'
  have hbig := hG.big
  have hm1 : (w.alloc (.cells #[.string ⟨#[]⟩, .int .u32 0, .slice none 0 0] 26)).cell? ⟨3, 0, none⟩ = some (.int .i64 m) := (World.cell?_alloc_old w _ ⟨3, 0, none⟩ (by simp; omega)).trans hm
  have htp := Lib.hid (fun W => Tryd.strings_TrimPrefix s ⟨#[99, 104, 111, 105, 114, 58]⟩ W)
  have hcutS : (⟨(Lib.trimPrefix s.data.toList [99, 104, 111, 105, 114, 58]).toArray⟩ : ByteArray) = cutS s := rfl
  go_enter Tryd.func13, Tryd.ntmps13
  go_wp2_with fail
  refine (htp.out _).mono ?_
  rintro e w1 ⟨rfl, rfl⟩
  go_wp2_with fail
  refine (HSP.out _ (w.heap.size + 1) (by simp) hm1).mono ?_
  rintro e w2 ⟨rfl, hw2⟩
  have hb2 : Below w.heap.size w w2 := by rw [hw2]; exact ((Below.refl _ w).alloc (Nat.le_refl _) _).alloc (by simp) _
  have hR2 : Blk w2 w.heap.size 26 #[.string ⟨#[]⟩, .int .u32 0, .slice none 0 0] := by rw [hw2]; exact (Blk.new w 26 _).alloc _
  have hL2 : Blk w2 (w.heap.size + 1) 9 #[.string p0, .string p1, .string p2] := by
    rw [hw2]
    have := Blk.new (w.alloc (.cells #[.string ⟨#[]⟩, .int .u32 0, .slice none 0 0] 26)) 9 #[.string p0, .string p1, .string p2]
    simpa using this
  clear hw2 hm1
  have c0 : w2.cell? ⟨w.heap.size + 1, 0, none⟩ = some (.string p0) := hL2.cell 0
  have c1 : w2.cell? ⟨w.heap.size + 1, 1, none⟩ = some (.string p1) := hL2.cell 1
  have c2 : w2.cell? ⟨w.heap.size + 1, 2, none⟩ = some (.string p2) := hL2.cell 2
  have hsz2 : w.heap.size + 1 < w2.heap.size := hL2.lt
  have hG2 := hG.below hb2
  go_wp2_with fail
  refine (pu32_calls p1 z1 w2 hG2).mono ?_
  rintro e w3 ⟨v, er3, rfl, hv, hvS, hb3⟩
  have HV := Lib.hid hvS
  clear hvS
  have hL3 := hL2.below hb3 hL2.lt
  have d0 : w3.cell? ⟨w.heap.size + 1, 0, none⟩ = some (.string p0) := hL3.cell 0
  have hG3 := hG2.below hb3
  go_wp2_with fail
  refine (unhexed_calls (sb p0) (by rw [sb_len]; exact z0) w3 hG3).mono ?_
  rintro e w4 ⟨t, rfl, htl, htS, hb4⟩
  have HT := Lib.hid htS
  clear htS
  rw [sb_len] at htl
  have hL4 := hL3.below hb4 hL3.lt
  have e2 : w4.cell? ⟨w.heap.size + 1, 2, none⟩ = some (.string p2) := hL4.cell 2
  have hG4 := hG3.below hb4
  have hb04 : Below w.heap.size w w4 := (hb2.trans (hb3.mono hb2.size)).trans (hb4.mono (Nat.le_trans hb2.size hb3.size))
  have hw32 : IntKind.u32.wrap (v : Int) = v := by simp [IntKind.wrap, IntKind.bits, IntKind.signed]; omega
  have hR4 := (hR2.below hb3 hR2.lt).below hb4 (Nat.lt_of_lt_of_le hR2.lt hb3.size)
  have hs4 : w.heap.size + 1 < w4.heap.size := hL4.lt
  clear hb2 hb3 hb4 hL2 hL3 hR2 hG2 hG3 c0 c1 c2 d0 hsz2
  have hm4 : w4.cell? ⟨3, 0, none⟩ = some (.int .i64 m) := (hb04.cell (p := ⟨3, 0, none⟩) (by simp; omega)).trans hm
  have hm5 : (w4.alloc (.cells #[.string ⟨t.toArray⟩, .int .u32 v, .slice none 0 0] 26)).cell? ⟨3, 0, none⟩ = some (.int .i64 m) := (World.cell?_alloc_old w4 _ ⟨3, 0, none⟩ (by simp; omega)).trans hm4
  have hsp2 := Lib.hid (fun (W : World) (H : Nat) (hH : W.heap.size = H) (hW : W.cell? ⟨3, 0, none⟩ = some (.int .i64 m)) => (Tryd.strings_Split p2 ⟨#[44]⟩ m W (by omega) hW (by decide)).mono (R' := fun e w' => e = .returned (.slice (some ⟨H, 0, none⟩) (Lib.countB p2 ⟨#[44]⟩ + 1) (Lib.countB p2 ⟨#[44]⟩ + 1)) ∧ w' = W.alloc (.cells ((nps p2).map Value.string).toArray 9))
    fun e w' ⟨h1, h2⟩ => ⟨by rw [h1, hH], h2⟩)
  have hnl := nps_len p2
  have hnz : ∀ p ∈ nps p2, p.size ≤ 1000 := fun p hp => Nat.le_trans (splitB_size _ _ _ p hp) z2
  have hcl : Lib.countB p2 ⟨#[44]⟩ ≤ 1000 := Nat.le_trans (Lib.countB_le ⟨#[44]⟩ (by decide) _ p2 (Nat.le_refl _)) z2
  generalize Lib.countB p2 ⟨#[44]⟩ = C at *
  have HNZ := Lib.hid hnz
  clear hnz
  go_wp2_with fail
  refine (hsp2.out _ (w4.heap.size + 1) (by simp) hm5).mono ?_
  rintro e w6 ⟨rfl, hw6⟩
  have hB6 : Blk w6 w4.heap.size 26 #[.string ⟨t.toArray⟩, .int .u32 v, .slice none 0 0] := by rw [hw6]; exact (Blk.new w4 26 _).alloc _
  have hN6 : Blk w6 (w4.heap.size + 1) 9 ((nps p2).map Value.string).toArray := by
    rw [hw6]
    have := Blk.new (w4.alloc (.cells #[.string ⟨t.toArray⟩, .int .u32 v, .slice none 0 0] 26)) 9 ((nps p2).map Value.string).toArray
    simpa using this
  have hb46 : Below w4.heap.size w4 w6 := by rw [hw6]; exact ((Below.refl _ w4).alloc (Nat.le_refl _) _).alloc (by simp) _
  clear hw6 hm5 hm4
  go_wp2_with fail
  go_loopw [9, 10, 11, 38] (fun _ _ _ i wr => ∃ (j : Nat) (x : Value) (nsj : List Int), j ≤ C + 1 ∧ i = .int .i64 j ∧ nsj.length = j ∧ Blk wr w4.heap.size 26 #[.string ⟨t.toArray⟩, .int .u32 v, x] ∧ Blk wr (w4.heap.size + 1) 9 ((nps p2).map Value.string).toArray ∧ wr.ownsRow (w4.heap.size + 1) 3 1 x j (ic nsj) ∧ Below w4.heap.size w4 wr ∧
      Hid (∀ k, k < j → ∀ p u, (nps p2)[k]? = some p → Lib.atoiAll p.data.toList = .ok u → nsj[k]? = some u)) (fun _ _ _ i _ => C + 1 - (intOf i).toNat)
  case atStart => exact ⟨0, _, [], by omega, rfl, rfl, hB6, hN6, World.ownsRow_nil _ _ _ _, hb46, Lib.hid fun k hk => absurd hk (by omega)⟩
  case round =>
    obtain ⟨j, x, nsj, hj, rfl, hnsl, hBx, hNx, hox, hbx, hh⟩ := hrel
    obtain ⟨Ax, cx, rfl, hcx, hrx⟩ := own_slice hox
    have q2 : wr.cell? ⟨w4.heap.size, 2, none⟩ = some (.slice Ax j cx) := hBx.cell 2
    have hb0r : Below w.heap.size w wr := hb04.trans (hbx.mono (by omega))
    have hGr := hG.below hb0r
    by_cases hlt : j < C + 1
    · have hjl : j < (nps p2).length := by rw [hnl]; exact hlt
      obtain ⟨p, hp⟩ : ∃ p, (nps p2)[j]? = some p := ⟨(nps p2)[j], List.getElem?_eq_getElem hjl⟩
      have hpc : wr.cell? ⟨w4.heap.size + 1, j, none⟩ = some (.string p) := by
        rw [hNx.cell j]
        simp [hp]
      have hpz := HNZ.out p (List.mem_of_getElem? hp)
      have hat := Lib.hid (atoi_calls p hpz wr hGr)
      clear hlt
      have hlt' : ((j : Nat) : Int) < (C : Int) + 1 := by omega
      have hltn : j < C + 1 := by omega
      go_wp2_with fail
      refine hat.out.mono ?_
      rintro e w7 ⟨y, er7, rfl, hyS, hb7⟩
      have HY := Lib.hid hyS
      clear hyS
      have hB7 := hBx.below hb7 hBx.lt
      have hN7 := hNx.below hb7 hNx.lt
      have ho7 := hox.below hb7
      have hbx7 := hbx.trans (hb7.mono hbx.size)
      have r2 : w7.cell? ⟨w4.heap.size, 2, none⟩ = some (.slice Ax j cx) := hB7.cell 2
      have hz7 : w4.heap.size + 1 < w7.heap.size := hN7.lt
      have hne26 := own_ne_blk ho7 hB7 (by decide)
      have hne9 := own_ne_blk ho7 hN7 (by decide)
      go_wp2_with (at_builtin; refine wpList_append_int rfl (.tmp 48) (.tmp 50) rfl (w4.heap.size + 1) (.slice Ax j cx) j nsj rfl w7.heap.size y rfl (ho7.alloc _) (by simp) (by omega) (by simp; omega) ?_; intro v8 w8 hown8 hg8 hat8; obtain ⟨A8, c8, rfl, hc8, hr8⟩ := own_slice hown8; have hB8 := (hB7.alloc _).grown hg8 hne26; have hN8 := (hN7.alloc _).grown hg8 hne9; have q8 : w8.cell? ⟨w4.heap.size, 2, none⟩ = some (.slice Ax j cx) := hB8.cell 2; have f8 := hB8.frozen 2)
      go_roundw
      case rel =>
        refine ⟨j + 1, _, nsj ++ [y], by omega, by go_num, by simp [hnsl], hB8.set_ 2 _, hN8.set_other (by omega) _ _, ?_, ?_, Lib.hid ?_⟩
        · exact ownsRow_setCell_other hown8 (fun e => own_ne_blk hown8 hB8 (by decide) e.symm) _
        · exact (below_app1 hbx7 hbx7.size _ ho7 (by omega) hg8).setCell (p := ⟨w4.heap.size, 2, none⟩) (Nat.le_refl _) _
        · intro k hk p' u hp' hu
          by_cases hkj : k < j
          · rw [List.getElem?_append_left (by omega)]
            exact hh.out k hkj p' u hp' hu
          · have hkj' : k = j := by omega
            subst hkj'
            rw [hp] at hp'
            cases hp'
            have hy := HY.out u hu
            subst hy
            rw [← hnsl]
            simp
      case measure => simp [intOf]; omega
    · have hjC : j = C + 1 := by omega
      clear hlt
      subst hjC
      have hlt' : decide (((C + 1 : Nat) : Int) < (C : Int) + 1) = false := by simp
      have q0 : wr.cell? ⟨w4.heap.size, 0, none⟩ = some (.string ⟨t.toArray⟩) := hBx.cell 0
      have q1 : wr.cell? ⟨w4.heap.size, 1, none⟩ = some (.int .u32 v) := hBx.cell 1
      have htx := Lib.hid (text_calls ⟨t.toArray⟩ v Ax (C + 1) cx nsj wr hv (show t.length ≤ 1000000 by omega) (by omega) hcx hrx hGr)
      have hsbt : sb ⟨t.toArray⟩ = t := rfl
      rw [hsbt] at htx
      have hRr := hR4.below hbx (by omega)
      cases hse : s.toList.isEmpty with
      | true =>
        have r0 : wr.cell? ⟨w.heap.size, 0, none⟩ = some (.string ⟨#[]⟩) := hRr.cell 0
        have r1 : wr.cell? ⟨w.heap.size, 1, none⟩ = some (.int .u32 0) := hRr.cell 1
        have r2 : wr.cell? ⟨w.heap.size, 2, none⟩ = some (.slice none 0 0) := hRr.cell 2
        have g0 := hRr.frozen 0
        have g1 := hRr.frozen 1
        have g2 := hRr.frozen 2
        go_wp2_with fail
        refine ret_ref13 (g := w.heap.size) rfl rfl rfl (hRr.set3 _ _ _) ⟨Or.inr ⟨rfl, fun t1 v1 ns1 hT => ?_⟩, below_set3 hb0r (Nat.le_refl _) _ _ _⟩
        have h0 : s = ByteArray.empty := of_decide_eq_true ((decide_eq_emptyBytes s).trans hse)
        have h1 := hT.2.2
        rw [h0] at h1
        have h2 : (textB t1 v1 ns1).length = 0 := by rw [← h1]; rfl
        simp [textB] at h2
      | false =>
        have hbig2 : t.length ≤ 1000 := by omega
        have hdone : ∀ t1 v1 ns1, isText s t1 v1 ns1 → t = t1 ∧ v = v1 ∧ nsj = ns1 := fun t1 v1 ns1 hT => by
          obtain ⟨h0, h1, h2⟩ := HP.out t1 v1 ns1 hT
          refine ⟨HT.out t1 h0, HV.out v1 (by rw [show p1.data.toList = Lib.decDigits v1 from h1]; exact parse32_dec v1 hT.2.1), ?_⟩
          have hlim := hT.1
          have hne : ns1 ≠ [] := fun e => by rw [e] at hlim; simp [rightB] at hlim
          have hup : ∀ i, i < ns1.length → 0 ≤ ns1.getD i 0 ∧ ns1.getD i 0 ≤ 255 := fun i hi => ⟨(upto_of hlim i hi).1, (upto_of hlim i hi).2.1⟩
          have hsp : (nps p2).map (·.data.toList) = ns1.map decI := by
            unfold nps
            rw [Lib.splitB_data]
            show Lib.splitK [44] 0 (Lib.count p2.data.toList [44]) p2.data.toList = _
            rw [show p2.data.toList = Lib.join (ns1.map decI) [44] from h2]
            exact nodes_split ns1 hne
          have hlen1 : ns1.length = C + 1 := by
            have := congrArg List.length hsp
            simp only [List.length_map] at this
            omega
          apply List.ext_getElem (by omega)
          intro i hi1 hi2
          have hpi : ((nps p2).map (·.data.toList))[i]? = (ns1.map decI)[i]? := by rw [hsp]
          simp only [List.getElem?_map] at hpi
          rw [List.getElem?_eq_getElem (show i < (nps p2).length by omega), List.getElem?_eq_getElem hi2] at hpi
          simp only [Option.map_some, Option.some.injEq] at hpi
          have hu := hup i hi2
          have hg1 : ns1.getD i 0 = ns1[i] := by simp [hi2]
          rw [hg1] at hu
          have hat2 : Lib.atoiAll ((nps p2)[i]'(by omega)).data.toList = .ok ns1[i] := by
            rw [hpi]
            show Lib.atoiAll (Lib.decDigits (ns1[i]).toNat) = _
            rw [atoi_dec _ (by omega)]
            congr 1
            omega
          have := hh.out i (by omega) _ _ (List.getElem?_eq_getElem (show i < (nps p2).length by omega)) hat2
          rw [List.getElem?_eq_getElem hi1] at this
          exact Option.some.inj this
        have HD := Lib.hid hdone
        clear hdone
        have hreR := Lib.hid (fun (h : textR t v nsj = sb s) => h)
        cases hcmp : (textR t v nsj == s.toList) with
        | false =>
          have hcmp' : (!(textR t v nsj == s.toList)) = true := by rw [hcmp]; rfl
          go_wp2_with (go_at_call 10; refine htx.out.mono ?_; rintro e w9 ⟨rfl, hb9⟩; have hR9 := hRr.below hb9 hRr.lt; have r0 : w9.cell? ⟨w.heap.size, 0, none⟩ = some (.string ⟨#[]⟩) := hR9.cell 0; have r1 : w9.cell? ⟨w.heap.size, 1, none⟩ = some (.int .u32 0) := hR9.cell 1; have r2 : w9.cell? ⟨w.heap.size, 2, none⟩ = some (.slice none 0 0) := hR9.cell 2; have g0 := hR9.frozen 0; have g1 := hR9.frozen 1; have g2 := hR9.frozen 2)
          refine ret_ref13 (g := w.heap.size) rfl rfl rfl (hR9.set3 _ _ _) ⟨Or.inr ⟨rfl, fun t1 v1 ns1 hT => ?_⟩, below_set3 (hb0r.trans (hb9.mono hb0r.size)) (Nat.le_refl _) _ _ _⟩
          obtain ⟨rfl, rfl, rfl⟩ := HD.out t1 v1 ns1 hT
          have h1 : textR t v nsj = s.toList := by
            rw [toL s, hT.2.2]
            unfold textR
            rw [if_pos hT.1]
          rw [h1] at hcmp
          simp at hcmp
        | true =>
          have hcmp' : (!(textR t v nsj == s.toList)) = false := by rw [hcmp]; rfl
          go_wp2_with (go_at_call 10; refine htx.out.mono ?_; rintro e w9 ⟨rfl, hb9⟩; have hR9 := hRr.below hb9 hRr.lt; have r0 : w9.cell? ⟨w.heap.size, 0, none⟩ = some (.string ⟨#[]⟩) := hR9.cell 0; have r1 : w9.cell? ⟨w.heap.size, 1, none⟩ = some (.int .u32 0) := hR9.cell 1; have r2 : w9.cell? ⟨w.heap.size, 2, none⟩ = some (.slice none 0 0) := hR9.cell 2; have g0 := hR9.frozen 0; have g1 := hR9.frozen 1; have g2 := hR9.frozen 2; have hB9 := hBx.below hb9 hBx.lt; have s0 : w9.cell? ⟨w4.heap.size, 0, none⟩ = some (.string ⟨t.toArray⟩) := hB9.cell 0; have s1 : w9.cell? ⟨w4.heap.size, 1, none⟩ = some (.int .u32 v) := hB9.cell 1; have s2 : w9.cell? ⟨w4.heap.size, 2, none⟩ = some (.slice Ax (C + 1) cx) := hB9.cell 2)
          refine ret_ref13 (g := w.heap.size) rfl rfl rfl (hR9.set3 _ _ _) ⟨Or.inl ⟨t, v, nsj, _, rfl, ?_, ?_, hv, hbig2, by omega, HD.out⟩, below_set3 (hb0r.trans (hb9.mono hb0r.size)) (Nat.le_refl _) _ _ _⟩
          · rw [hnsl]
            exact ownsRow_set3 ((hox.below hb9).rebase (by omega)) (own_ne_blk hox hRr (by decide)) _ _ _
          · have := eq_of_beq hcmp
            rw [this, toL]

end Go.Proofs.YtcmaildfhdddjaaDoor
