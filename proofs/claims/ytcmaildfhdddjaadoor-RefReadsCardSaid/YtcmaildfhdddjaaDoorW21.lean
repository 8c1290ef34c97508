/- Contracts of functions of this program, walked. No condition but the ones each theorem states. -/
import Derived.Test.YtcmaildfhdddjaaDoorW20
namespace Go.Proofs.YtcmaildfhdddjaaDoor
open Go.RowKit

attribute [local go_sem ↓] Go.wp_at_zero Go.wp_at_succ

theorem str_ne {s s' : ByteArray} (h : s ≠ s') : (s.toList == s'.toList) = false := by
  rw [toL, toL, beq_eq_false_iff_ne]
  intro e
  apply h
  apply ByteArray.ext
  exact Array.ext' e

set_option maxRecDepth 100000 in
set_option maxHeartbeats 1600000 in
theorem like_calls (s : ByteArray) (v : Nat) (A : Option Addr) (n c : Nat) (ks : List Int) (s' : ByteArray) (v' : Nat) (B : Option Addr) (m d : Nat) (bs : List Int) (w : World) (hn : n ≤ 1000000) (hm : m ≤ 1000000) (hc : n ≤ c) (hd : m ≤ d)
    (hr : Reads w w.heap.size 1 A n (ic ks)) (hq : Reads w w.heap.size 1 B m (ic bs)) :
    Calls Tryd.prog 17 #[.agg #[.string s, .int .u32 v, .slice A n c], .agg #[.string s', .int .u32 v', .slice B m d]] w (Says w (sameB s v ks s' v' bs)) := by
  have hb0 : Below w.heap.size w ((w.alloc (.cells #[.string s, .int .u32 v, .slice A n c] 26)).alloc (.cells #[.string s', .int .u32 v', .slice B m d] 36)) := ((Below.refl _ w).alloc (Nat.le_refl _) _).alloc (by simp) _
  have hcall := Lib.hid (ints_calls A n c ks B m d bs _ hn hm hc hd ((hr.below hb0).more hb0.size) ((hq.below hb0).more hb0.size))
  by_cases hss : s = s'
  · subst hss
    by_cases hvv : v = v'
    · subst hvv
      have HS := Lib.hid (show sameB s v ks s v bs = decide (ks = bs) by simp [sameB])
      go_enter Tryd.func17, Tryd.ntmps17
      go_wp2_with (go_at_call 37; refine hcall.out.mono ?_; rintro e w1 ⟨rfl, hb1⟩)
      go_ret
      exact ⟨by rw [HS.out]; rfl, hb0.trans (hb1.mono hb0.size)⟩
    · have HS := Lib.hid (show sameB s v ks s v' bs = false by simp [sameB, hvv])
      have hv1 : ((v : Int) == (v' : Int)) = false := by simp; omega
      have hv2 : ¬ v = v' := hvv
      go_enter Tryd.func17, Tryd.ntmps17
      go_wp2_with fail
      go_ret
      exact ⟨by rw [HS.out]; rfl, hb0⟩
  · have HS := Lib.hid (show sameB s v ks s' v' bs = false by simp [sameB, hss])
    have hs1 := str_ne hss
    go_enter Tryd.func17, Tryd.ntmps17
    go_wp2_with fail
    go_ret
    exact ⟨by rw [HS.out]; rfl, hb0⟩

set_option maxRecDepth 100000 in
set_option maxHeartbeats 1600000 in
theorem newer_calls (s : ByteArray) (v : Nat) (x : Value) (s' : ByteArray) (v' : Nat) (y : Value) (w : World) (A B : Option Addr) (n c m d : Nat) (hx : x = .slice A n c) (hy : y = .slice B m d) :
    Calls Tryd.prog 15 #[.agg #[.string s, .int .u32 v, x], .agg #[.string s', .int .u32 v', y]] w (Says w (decide (s = s') && decide (v' < v))) := by
  subst hx
  subst hy
  have hb0 : Below w.heap.size w ((w.alloc (.cells #[.string s, .int .u32 v, .slice A n c] 26)).alloc (.cells #[.string s', .int .u32 v', .slice B m d] 26)) := ((Below.refl _ w).alloc (Nat.le_refl _) _).alloc (by simp) _
  by_cases hss : s = s'
  · subst hss
    go_enter Tryd.func15, Tryd.ntmps15
    go_wp2_with fail
    go_ret
    refine ⟨?_, hb0⟩
    first | rfl | simp
  · have HS := Lib.hid (show (decide (s = s') && decide (v' < v)) = false by simp [hss])
    have hs1 := str_ne hss
    go_enter Tryd.func15, Tryd.ntmps15
    go_wp2_with fail
    go_ret
    exact ⟨by rw [HS.out]; rfl, hb0⟩

theorem results_cell1 {fn : Func} {p : Tmp} {ty : TypeId} (h : fn.results = #[.cell p ty]) (tmps : Array Value) (P : Program) (w : World) :
    (results fn tmps).run P w = ((asAddr (tmps.getD p undef)).run P w).andThen fun a w₁ => (loadVar ty a).run P w₁ := by
  simp only [results, h]
  simp [Sem.run_bind, Result.andThen]

theorem ret_of {R : Ending → World → Prop} {a : Act} {w : World} {g : Nat} {x y z : Value} (hd : a.defers = []) (h2 : a.tmps.getD 2 undef = .pointer (some ⟨g, 0, none⟩))
    (hB : Blk w g 36 #[x, y, z]) (hR : R (.returned (.agg #[x, y, z])) w) : bodyPost Tryd.prog Tryd.f9 R .ret a w := by
  refine bodyPost_ret (v := .agg #[x, y, z]) ?_ hd hR
  rw [results_cell1 (p := 2) (ty := 36) rfl, h2]
  simp only [asAddr, Sem.run_pure, Result.andThen_ok, load36 hB]

set_option maxRecDepth 100000 in
set_option maxHeartbeats 1600000 in
theorem of_calls (s : ByteArray) (v : Nat) (A : Option Addr) (n c : Nat) (w : World) :
    Calls Tryd.prog 9 #[.agg #[.string s, .int .u32 v, .slice A n c]] w fun e w' => e = .returned (.agg #[.string s, .int .u32 v, .slice A n c]) ∧ Below w.heap.size w w' := by
  go_enter Tryd.func9, Tryd.ntmps9
  go_wp2_with fail
  have hB := Blk.new (w.alloc (.cells #[.string s, .int .u32 v, .slice A n c] 26)) 36 #[.string s, .int .u32 v, .slice A n c]
  exact ret_of (g := w.heap.size + 1) rfl rfl (by simpa using hB) ⟨rfl, ((Below.refl _ w).alloc (Nat.le_refl _) _).alloc (by simp) _⟩

theorem ret_made {R : Ending → World → Prop} {a : Act} {w : World} {g : Nat} {x y z : Value} (hd : a.defers = []) (h2 : a.tmps.getD 6 undef = .pointer (some ⟨g, 0, none⟩))
    (hB : Blk w g 26 #[x, y, z]) (hR : R (.returned (.agg #[x, y, z])) w) : bodyPost Tryd.prog Tryd.f6 R .ret a w := by
  refine bodyPost_ret (v := .agg #[x, y, z]) ?_ hd hR
  rw [results_cell1 (p := 6) (ty := 26) rfl, h2]
  simp only [asAddr, Sem.run_pure, Result.andThen_ok, load26 hB]

/-- a made reference: some right one -/
def MadeP (v : Nat) (w : World) (e : Ending) (w' : World) : Prop :=
  ∃ (s : ByteArray) (ns : List Int) (x : Value), e = .returned (.agg #[.string s, .int .u32 v, x]) ∧ w'.ownsRow w.heap.size 3 1 x ns.length (ic ns) ∧ rightB s.size ns = true ∧ Below w.heap.size w w'

/-- nodes so far: in order, each under k -/
def okN (ns : List Int) (k : Int) : Prop := upto ns ns.length ∧ ∀ x ∈ ns, x < k
theorem okN_nil (k : Int) : okN [] k := ⟨fun i hi => absurd hi (by simp), fun x hx => absurd hx (by simp)⟩
theorem okN_more {ns : List Int} {k k' : Int} (h : okN ns k) (hk : k ≤ k') : okN ns k' := ⟨h.1, fun x hx => Int.lt_of_lt_of_le (h.2 x hx) hk⟩
theorem okN_snoc {ns : List Int} {k : Int} (h : okN ns k) (h0 : 0 ≤ k) (h1 : k ≤ 255) : okN (ns ++ [k]) (k + 1) := by
  refine ⟨?_, ?_⟩
  · intro i hi
    rw [List.length_append, List.length_cons, List.length_nil] at hi
    by_cases hl : i < ns.length
    · have := h.1 i hl
      have e : (ns ++ [k]).getD i 0 = ns.getD i 0 := by simp [List.getD, List.getElem?_append_left hl]
      rw [e]
      refine ⟨this.1, this.2.1, fun hp => ?_⟩
      have e2 : (ns ++ [k]).getD (i - 1) 0 = ns.getD (i - 1) 0 := by simp [List.getD, List.getElem?_append_left (show i - 1 < ns.length by omega)]
      rw [e2]
      exact this.2.2 hp
    · have hi' : i = ns.length := by omega
      subst hi'
      have e : (ns ++ [k]).getD ns.length 0 = k := by simp [List.getD]
      rw [e]
      refine ⟨h0, h1, fun hp => ?_⟩
      have hlt : ns.length - 1 < ns.length := by omega
      have e2 : (ns ++ [k]).getD (ns.length - 1) 0 = ns[ns.length - 1] := by simp [List.getD, List.getElem?_append_left hlt, hlt]
      rw [e2]
      exact h.2 _ (List.getElem_mem _)
  · intro x hx
    rw [List.mem_append, List.mem_singleton] at hx
    rcases hx with hx | rfl
    · have := h.2 x hx
      omega
    · omega
theorem right_made {s : ByteArray} {ns : List Int} {k : Int} (h1 : 1 ≤ s.size) (h2 : s.size ≤ 32) (h3 : 1 ≤ ns.length) (h4 : ns.length ≤ 7) (h : okN ns k) : rightB s.size ns = true := by
  unfold rightB
  simp only [Bool.and_eq_true, decide_eq_true_eq]
  exact ⟨⟨⟨⟨h1, h2⟩, h3⟩, h4⟩, h.1⟩

set_option maxRecDepth 100000 in
set_option maxHeartbeats 3200000 in
theorem made_calls (s0 : ByteArray) (v k : Nat) (hk : k < 65536) (w : World) (hlong : s0.size ≤ 1000) :
    Calls Tryd.prog 6 #[.string s0, .int .u32 v, .int .u16 k] w (MadeP v w) := by
  obtain ⟨s, hs⟩ : ∃ s, s = if 32 < s0.size then s0.extract 0 32 else if s0.size = 0 then (⟨#[103]⟩ : ByteArray) else s0 := ⟨_, rfl⟩
  have hdim : 1 ≤ s.size ∧ s.size ≤ 32 := by
    rw [hs]
    split
    · simp [ByteArray.size_extract]
      omega
    · split
      · decide
      · omega
  obtain ⟨h1, h2⟩ := hdim
  have hem : ∀ t : ByteArray, t.size ≠ 0 → t.toList.isEmpty = false := fun t ht => by
    rw [← decide_eq_emptyBytes, decide_eq_false_iff_not]
    intro e
    rw [e] at ht
    exact ht rfl
  by_cases h32 : 32 < s0.size
  · rw [if_pos h32] at hs
    have i32 : (32 : Int) < (s0.size : Int) := by omega
    have he : (s0.extract 0 32).toList.isEmpty = false := hem _ (by rw [← hs]; omega)
    have HS := Lib.hid hs
    clear hs hem
    go_enter Tryd.func6, Tryd.ntmps6
    go_wp2_with fail
    go_loopw [8] (fun i wr => ∃ (j : Nat) (ns : List Int) (x : Value), j ≤ 16 ∧ i = .int .i64 j ∧ ns.length ≤ 7 ∧ Blk wr w.heap.size 26 #[.string ⟨#[]⟩, .int .u32 0, .slice none 0 0] ∧ Blk wr (w.heap.size + 1) 26 #[.string s, .int .u32 v, x] ∧ wr.ownsRow (w.heap.size + 2) 3 1 x ns.length (ic ns) ∧ Below w.heap.size w wr ∧ Hid (okN ns (17 * j))) (fun i _ => 16 - (intOf i).toNat)
    case atStart =>
      refine ⟨0, [], .slice none 0 0, by omega, rfl, by simp, (Blk.new w 26 _).alloc _, ?_, World.ownsRow_nil _ _ _ _, ((Below.refl _ w).alloc (Nat.le_refl _) _).alloc (by simp) _, Lib.hid (okN_nil _)⟩
      have hB := Blk.new (w.alloc (.cells #[.string ⟨#[]⟩, .int .u32 0, .slice none 0 0] 26)) 26 #[.string s, .int .u32 v, .slice none 0 0]
      rw [HS.out] at hB ⊢
      simpa using hB
    case round =>
      obtain ⟨j, ns, x, hj, rfl, hn7, hZ, hB, hox, hbx, hok⟩ := hrel
      obtain ⟨Ax, cx, rfl, hcx, hrx⟩ := own_slice hox
      have q0 : wr.cell? ⟨w.heap.size + 1, 0, none⟩ = some (.string s) := hB.cell 0
      have q1 : wr.cell? ⟨w.heap.size + 1, 1, none⟩ = some (.int .u32 v) := hB.cell 1
      have q2 : wr.cell? ⟨w.heap.size + 1, 2, none⟩ = some (.slice Ax ns.length cx) := hB.cell 2
      have q3 := hB.frozen 2
      have z0 : wr.cell? ⟨w.heap.size, 0, none⟩ = some (.string ⟨#[]⟩) := hZ.cell 0
      have z1 : wr.cell? ⟨w.heap.size, 1, none⟩ = some (.int .u32 0) := hZ.cell 1
      have z2 : wr.cell? ⟨w.heap.size, 2, none⟩ = some (.slice none 0 0) := hZ.cell 2
      have g0 := hZ.frozen 0
      have g1 := hZ.frozen 1
      have g2 := hZ.frozen 2
      have hszB : w.heap.size + 1 < wr.heap.size := hB.lt
      by_cases hin : j < 16 ∧ ns.length < 7
      · obtain ⟨hj16, hn6⟩ := hin
        have i1 : (j : Int) < 16 := by omega
        have i2 : (ns.length : Int) < 7 := by omega
        have hneB := own_ne_blk hox hB (by decide)
        have hneZ := own_ne_blk hox hZ (by decide)
        go_wp2_with (at_builtin; refine wpList_append_int rfl (.tmp 40) (.tmp 43) rfl (w.heap.size + 2) (.slice Ax ns.length cx) ns.length ns rfl wr.heap.size (17 * (j : Int)) rfl (hox.alloc _) (by simp) (by omega) (by simp; omega) ?_; intro v8 w8 hown8 hg8 hat8; obtain ⟨A8, c8, rfl, hc8, hr8⟩ := own_slice hown8; have hB8 := (hB.alloc _).grown hg8 hneB; have hZ8 := (hZ.alloc _).grown hg8 hneZ; have q8 : w8.cell? ⟨w.heap.size + 1, 2, none⟩ = some (.slice Ax ns.length cx) := hB8.cell 2; have f8 := hB8.frozen 2)
        · refine ⟨⟨j + 1, ns ++ [17 * (j : Int)], .slice A8 (ns.length + 1) c8, by omega, by go_num, by simp; omega, hZ8.set_other (by omega) _ _, hB8.set_ 2 _, ?_, ?_, Lib.hid ?_⟩, by simp [intOf]; omega⟩
          · rw [List.length_append]
            exact ownsRow_setCell_other hown8 (fun e => own_ne_blk hown8 hB8 (by decide) e.symm) _
          · exact (below_app1 hbx hbx.size _ hox (by omega) hg8).setCell (p := ⟨w.heap.size + 1, 2, none⟩) (by simp) _
          · refine okN_more (okN_snoc hok.out (by omega) (by omega)) ?_
            omega
        · exact ⟨⟨j + 1, ns, _, by omega, by go_num, hn7, hZ, hB, hox, hbx, Lib.hid (okN_more hok.out (by omega))⟩, by simp [intOf]; omega⟩
      · have hneZ := own_ne_blk hox hZ (by decide)
        by_cases hn0 : ns.length = 0
        · have hj16 : ¬ (j : Int) < 16 := by omega
          obtain rfl : ns = [] := List.eq_nil_of_length_eq_zero hn0
          clear hin hn0
          have hszZ : w.heap.size < wr.heap.size := hZ.lt
          have hneW : w.heap.size ≠ wr.heap.size := by omega
          have hneW1 : w.heap.size + 1 ≠ wr.heap.size := by omega
          go_wp2_with fail
          have hsz : ((((wr.setCell ⟨w.heap.size + 1, 2, none⟩ (.slice (some ⟨wr.heap.size, 0, none⟩) 1 1)).setCell ⟨w.heap.size, 0, none⟩ (.string s)).setCell ⟨w.heap.size, 1, none⟩ (.int .u32 v)).setCell ⟨w.heap.size, 2, none⟩ (.slice (some ⟨wr.heap.size, 0, none⟩) 1 1)).heap.size = wr.heap.size := by simp
          have hO := World.ownsRow_lit (base := w.heap.size) (e := 3) (size := 1) ((((wr.setCell ⟨w.heap.size + 1, 2, none⟩ (.slice (some ⟨wr.heap.size, 0, none⟩) 1 1)).setCell ⟨w.heap.size, 0, none⟩ (.string s)).setCell ⟨w.heap.size, 1, none⟩ (.int .u32 v)).setCell ⟨w.heap.size, 2, none⟩ (.slice (some ⟨wr.heap.size, 0, none⟩) 1 1)) #[.int .i64 255] 1 (by rw [hsz]; omega) (by decide) rfl
          rw [hsz] at hO
          exact ret_made (g := w.heap.size) rfl rfl (((hZ.set_other (by omega) _ _).set3 _ _ _).alloc _) ⟨s, [255], _, rfl, hO, right_made (k := 256) h1 h2 (by simp) (by simp) (okN_more (okN_snoc (okN_nil 255) (by omega) (by omega)) (by omega)), (below_set3 (hbx.setCell (p := ⟨w.heap.size + 1, 2, none⟩) (by simp) _) (Nat.le_refl _) _ _ _).alloc (by simp; omega) _⟩
        · have hn0' : ((ns.length : Int) == 0) = false := by rw [beq_eq_false_iff_ne]; omega
          have HR := Lib.hid (right_made (s := s) h1 h2 (show 1 ≤ ns.length by omega) hn7 hok.out)
          by_cases hj16 : j < 16
          · have i1 : (j : Int) < 16 := by omega
            have i2 : ¬ (ns.length : Int) < 7 := by omega
            go_wp2_with fail
            exact ret_made (g := w.heap.size) rfl rfl (hZ.set3 _ _ _) ⟨s, ns, _, rfl, ownsRow_set3 (hox.rebase (by omega)) hneZ _ _ _, HR.out, below_set3 hbx (Nat.le_refl _) _ _ _⟩
          · have i1 : ¬ (j : Int) < 16 := by omega
            go_wp2_with fail
            exact ret_made (g := w.heap.size) rfl rfl (hZ.set3 _ _ _) ⟨s, ns, _, rfl, ownsRow_set3 (hox.rebase (by omega)) hneZ _ _ _, HR.out, below_set3 hbx (Nat.le_refl _) _ _ _⟩
  · rw [if_neg h32] at hs
    have i32 : ¬ (32 : Int) < (s0.size : Int) := by omega
    by_cases h0 : s0.size = 0
    · rw [if_pos h0] at hs
      obtain rfl : s0 = ByteArray.empty := by
        apply ByteArray.ext
        exact Array.eq_empty_of_size_eq_zero h0
      have HS := Lib.hid hs
      clear hs hem
      go_enter Tryd.func6, Tryd.ntmps6
      go_wp2_with fail
      go_loopw [8] (fun i wr => ∃ (j : Nat) (ns : List Int) (x : Value), j ≤ 16 ∧ i = .int .i64 j ∧ ns.length ≤ 7 ∧ Blk wr w.heap.size 26 #[.string ⟨#[]⟩, .int .u32 0, .slice none 0 0] ∧ Blk wr (w.heap.size + 1) 26 #[.string s, .int .u32 v, x] ∧ wr.ownsRow (w.heap.size + 2) 3 1 x ns.length (ic ns) ∧ Below w.heap.size w wr ∧ Hid (okN ns (17 * j))) (fun i _ => 16 - (intOf i).toNat)
      case atStart =>
        refine ⟨0, [], .slice none 0 0, by omega, rfl, by simp, (Blk.new w 26 _).alloc _, ?_, World.ownsRow_nil _ _ _ _, ((Below.refl _ w).alloc (Nat.le_refl _) _).alloc (by simp) _, Lib.hid (okN_nil _)⟩
        have hB := Blk.new (w.alloc (.cells #[.string ⟨#[]⟩, .int .u32 0, .slice none 0 0] 26)) 26 #[.string s, .int .u32 v, .slice none 0 0]
        rw [HS.out] at hB ⊢
        simpa using hB
      case round =>
        obtain ⟨j, ns, x, hj, rfl, hn7, hZ, hB, hox, hbx, hok⟩ := hrel
        obtain ⟨Ax, cx, rfl, hcx, hrx⟩ := own_slice hox
        have q0 : wr.cell? ⟨w.heap.size + 1, 0, none⟩ = some (.string s) := hB.cell 0
        have q1 : wr.cell? ⟨w.heap.size + 1, 1, none⟩ = some (.int .u32 v) := hB.cell 1
        have q2 : wr.cell? ⟨w.heap.size + 1, 2, none⟩ = some (.slice Ax ns.length cx) := hB.cell 2
        have q3 := hB.frozen 2
        have z0 : wr.cell? ⟨w.heap.size, 0, none⟩ = some (.string ⟨#[]⟩) := hZ.cell 0
        have z1 : wr.cell? ⟨w.heap.size, 1, none⟩ = some (.int .u32 0) := hZ.cell 1
        have z2 : wr.cell? ⟨w.heap.size, 2, none⟩ = some (.slice none 0 0) := hZ.cell 2
        have g0 := hZ.frozen 0
        have g1 := hZ.frozen 1
        have g2 := hZ.frozen 2
        have hszB : w.heap.size + 1 < wr.heap.size := hB.lt
        by_cases hin : j < 16 ∧ ns.length < 7
        · obtain ⟨hj16, hn6⟩ := hin
          have i1 : (j : Int) < 16 := by omega
          have i2 : (ns.length : Int) < 7 := by omega
          have hneB := own_ne_blk hox hB (by decide)
          have hneZ := own_ne_blk hox hZ (by decide)
          go_wp2_with (at_builtin; refine wpList_append_int rfl (.tmp 40) (.tmp 43) rfl (w.heap.size + 2) (.slice Ax ns.length cx) ns.length ns rfl wr.heap.size (17 * (j : Int)) rfl (hox.alloc _) (by simp) (by omega) (by simp; omega) ?_; intro v8 w8 hown8 hg8 hat8; obtain ⟨A8, c8, rfl, hc8, hr8⟩ := own_slice hown8; have hB8 := (hB.alloc _).grown hg8 hneB; have hZ8 := (hZ.alloc _).grown hg8 hneZ; have q8 : w8.cell? ⟨w.heap.size + 1, 2, none⟩ = some (.slice Ax ns.length cx) := hB8.cell 2; have f8 := hB8.frozen 2)
          · refine ⟨⟨j + 1, ns ++ [17 * (j : Int)], .slice A8 (ns.length + 1) c8, by omega, by go_num, by simp; omega, hZ8.set_other (by omega) _ _, hB8.set_ 2 _, ?_, ?_, Lib.hid ?_⟩, by simp [intOf]; omega⟩
            · rw [List.length_append]
              exact ownsRow_setCell_other hown8 (fun e => own_ne_blk hown8 hB8 (by decide) e.symm) _
            · exact (below_app1 hbx hbx.size _ hox (by omega) hg8).setCell (p := ⟨w.heap.size + 1, 2, none⟩) (by simp) _
            · refine okN_more (okN_snoc hok.out (by omega) (by omega)) ?_
              omega
          · exact ⟨⟨j + 1, ns, _, by omega, by go_num, hn7, hZ, hB, hox, hbx, Lib.hid (okN_more hok.out (by omega))⟩, by simp [intOf]; omega⟩
        · have hneZ := own_ne_blk hox hZ (by decide)
          by_cases hn0 : ns.length = 0
          · have hj16 : ¬ (j : Int) < 16 := by omega
            obtain rfl : ns = [] := List.eq_nil_of_length_eq_zero hn0
            clear hin hn0
            have hszZ : w.heap.size < wr.heap.size := hZ.lt
            have hneW : w.heap.size ≠ wr.heap.size := by omega
            have hneW1 : w.heap.size + 1 ≠ wr.heap.size := by omega
            go_wp2_with fail
            have hsz : ((((wr.setCell ⟨w.heap.size + 1, 2, none⟩ (.slice (some ⟨wr.heap.size, 0, none⟩) 1 1)).setCell ⟨w.heap.size, 0, none⟩ (.string s)).setCell ⟨w.heap.size, 1, none⟩ (.int .u32 v)).setCell ⟨w.heap.size, 2, none⟩ (.slice (some ⟨wr.heap.size, 0, none⟩) 1 1)).heap.size = wr.heap.size := by simp
            have hO := World.ownsRow_lit (base := w.heap.size) (e := 3) (size := 1) ((((wr.setCell ⟨w.heap.size + 1, 2, none⟩ (.slice (some ⟨wr.heap.size, 0, none⟩) 1 1)).setCell ⟨w.heap.size, 0, none⟩ (.string s)).setCell ⟨w.heap.size, 1, none⟩ (.int .u32 v)).setCell ⟨w.heap.size, 2, none⟩ (.slice (some ⟨wr.heap.size, 0, none⟩) 1 1)) #[.int .i64 255] 1 (by rw [hsz]; omega) (by decide) rfl
            rw [hsz] at hO
            exact ret_made (g := w.heap.size) rfl rfl (((hZ.set_other (by omega) _ _).set3 _ _ _).alloc _) ⟨s, [255], _, rfl, hO, right_made (k := 256) h1 h2 (by simp) (by simp) (okN_more (okN_snoc (okN_nil 255) (by omega) (by omega)) (by omega)), (below_set3 (hbx.setCell (p := ⟨w.heap.size + 1, 2, none⟩) (by simp) _) (Nat.le_refl _) _ _ _).alloc (by simp; omega) _⟩
          · have hn0' : ((ns.length : Int) == 0) = false := by rw [beq_eq_false_iff_ne]; omega
            have HR := Lib.hid (right_made (s := s) h1 h2 (show 1 ≤ ns.length by omega) hn7 hok.out)
            by_cases hj16 : j < 16
            · have i1 : (j : Int) < 16 := by omega
              have i2 : ¬ (ns.length : Int) < 7 := by omega
              go_wp2_with fail
              exact ret_made (g := w.heap.size) rfl rfl (hZ.set3 _ _ _) ⟨s, ns, _, rfl, ownsRow_set3 (hox.rebase (by omega)) hneZ _ _ _, HR.out, below_set3 hbx (Nat.le_refl _) _ _ _⟩
            · have i1 : ¬ (j : Int) < 16 := by omega
              go_wp2_with fail
              exact ret_made (g := w.heap.size) rfl rfl (hZ.set3 _ _ _) ⟨s, ns, _, rfl, ownsRow_set3 (hox.rebase (by omega)) hneZ _ _ _, HR.out, below_set3 hbx (Nat.le_refl _) _ _ _⟩
    · rw [if_neg h0] at hs
      have he : s0.toList.isEmpty = false := hem _ h0
      have HS := Lib.hid hs
      clear hs hem
      go_enter Tryd.func6, Tryd.ntmps6
      go_wp2_with fail
      go_loopw [8] (fun i wr => ∃ (j : Nat) (ns : List Int) (x : Value), j ≤ 16 ∧ i = .int .i64 j ∧ ns.length ≤ 7 ∧ Blk wr w.heap.size 26 #[.string ⟨#[]⟩, .int .u32 0, .slice none 0 0] ∧ Blk wr (w.heap.size + 1) 26 #[.string s, .int .u32 v, x] ∧ wr.ownsRow (w.heap.size + 2) 3 1 x ns.length (ic ns) ∧ Below w.heap.size w wr ∧ Hid (okN ns (17 * j))) (fun i _ => 16 - (intOf i).toNat)
      case atStart =>
        refine ⟨0, [], .slice none 0 0, by omega, rfl, by simp, (Blk.new w 26 _).alloc _, ?_, World.ownsRow_nil _ _ _ _, ((Below.refl _ w).alloc (Nat.le_refl _) _).alloc (by simp) _, Lib.hid (okN_nil _)⟩
        have hB := Blk.new (w.alloc (.cells #[.string ⟨#[]⟩, .int .u32 0, .slice none 0 0] 26)) 26 #[.string s, .int .u32 v, .slice none 0 0]
        rw [HS.out] at hB ⊢
        simpa using hB
      case round =>
        obtain ⟨j, ns, x, hj, rfl, hn7, hZ, hB, hox, hbx, hok⟩ := hrel
        obtain ⟨Ax, cx, rfl, hcx, hrx⟩ := own_slice hox
        have q0 : wr.cell? ⟨w.heap.size + 1, 0, none⟩ = some (.string s) := hB.cell 0
        have q1 : wr.cell? ⟨w.heap.size + 1, 1, none⟩ = some (.int .u32 v) := hB.cell 1
        have q2 : wr.cell? ⟨w.heap.size + 1, 2, none⟩ = some (.slice Ax ns.length cx) := hB.cell 2
        have q3 := hB.frozen 2
        have z0 : wr.cell? ⟨w.heap.size, 0, none⟩ = some (.string ⟨#[]⟩) := hZ.cell 0
        have z1 : wr.cell? ⟨w.heap.size, 1, none⟩ = some (.int .u32 0) := hZ.cell 1
        have z2 : wr.cell? ⟨w.heap.size, 2, none⟩ = some (.slice none 0 0) := hZ.cell 2
        have g0 := hZ.frozen 0
        have g1 := hZ.frozen 1
        have g2 := hZ.frozen 2
        have hszB : w.heap.size + 1 < wr.heap.size := hB.lt
        by_cases hin : j < 16 ∧ ns.length < 7
        · obtain ⟨hj16, hn6⟩ := hin
          have i1 : (j : Int) < 16 := by omega
          have i2 : (ns.length : Int) < 7 := by omega
          have hneB := own_ne_blk hox hB (by decide)
          have hneZ := own_ne_blk hox hZ (by decide)
          go_wp2_with (at_builtin; refine wpList_append_int rfl (.tmp 40) (.tmp 43) rfl (w.heap.size + 2) (.slice Ax ns.length cx) ns.length ns rfl wr.heap.size (17 * (j : Int)) rfl (hox.alloc _) (by simp) (by omega) (by simp; omega) ?_; intro v8 w8 hown8 hg8 hat8; obtain ⟨A8, c8, rfl, hc8, hr8⟩ := own_slice hown8; have hB8 := (hB.alloc _).grown hg8 hneB; have hZ8 := (hZ.alloc _).grown hg8 hneZ; have q8 : w8.cell? ⟨w.heap.size + 1, 2, none⟩ = some (.slice Ax ns.length cx) := hB8.cell 2; have f8 := hB8.frozen 2)
          · refine ⟨⟨j + 1, ns ++ [17 * (j : Int)], .slice A8 (ns.length + 1) c8, by omega, by go_num, by simp; omega, hZ8.set_other (by omega) _ _, hB8.set_ 2 _, ?_, ?_, Lib.hid ?_⟩, by simp [intOf]; omega⟩
            · rw [List.length_append]
              exact ownsRow_setCell_other hown8 (fun e => own_ne_blk hown8 hB8 (by decide) e.symm) _
            · exact (below_app1 hbx hbx.size _ hox (by omega) hg8).setCell (p := ⟨w.heap.size + 1, 2, none⟩) (by simp) _
            · refine okN_more (okN_snoc hok.out (by omega) (by omega)) ?_
              omega
          · exact ⟨⟨j + 1, ns, _, by omega, by go_num, hn7, hZ, hB, hox, hbx, Lib.hid (okN_more hok.out (by omega))⟩, by simp [intOf]; omega⟩
        · have hneZ := own_ne_blk hox hZ (by decide)
          by_cases hn0 : ns.length = 0
          · have hj16 : ¬ (j : Int) < 16 := by omega
            obtain rfl : ns = [] := List.eq_nil_of_length_eq_zero hn0
            clear hin hn0
            have hszZ : w.heap.size < wr.heap.size := hZ.lt
            have hneW : w.heap.size ≠ wr.heap.size := by omega
            have hneW1 : w.heap.size + 1 ≠ wr.heap.size := by omega
            go_wp2_with fail
            have hsz : ((((wr.setCell ⟨w.heap.size + 1, 2, none⟩ (.slice (some ⟨wr.heap.size, 0, none⟩) 1 1)).setCell ⟨w.heap.size, 0, none⟩ (.string s)).setCell ⟨w.heap.size, 1, none⟩ (.int .u32 v)).setCell ⟨w.heap.size, 2, none⟩ (.slice (some ⟨wr.heap.size, 0, none⟩) 1 1)).heap.size = wr.heap.size := by simp
            have hO := World.ownsRow_lit (base := w.heap.size) (e := 3) (size := 1) ((((wr.setCell ⟨w.heap.size + 1, 2, none⟩ (.slice (some ⟨wr.heap.size, 0, none⟩) 1 1)).setCell ⟨w.heap.size, 0, none⟩ (.string s)).setCell ⟨w.heap.size, 1, none⟩ (.int .u32 v)).setCell ⟨w.heap.size, 2, none⟩ (.slice (some ⟨wr.heap.size, 0, none⟩) 1 1)) #[.int .i64 255] 1 (by rw [hsz]; omega) (by decide) rfl
            rw [hsz] at hO
            exact ret_made (g := w.heap.size) rfl rfl (((hZ.set_other (by omega) _ _).set3 _ _ _).alloc _) ⟨s, [255], _, rfl, hO, right_made (k := 256) h1 h2 (by simp) (by simp) (okN_more (okN_snoc (okN_nil 255) (by omega) (by omega)) (by omega)), (below_set3 (hbx.setCell (p := ⟨w.heap.size + 1, 2, none⟩) (by simp) _) (Nat.le_refl _) _ _ _).alloc (by simp; omega) _⟩
          · have hn0' : ((ns.length : Int) == 0) = false := by rw [beq_eq_false_iff_ne]; omega
            have HR := Lib.hid (right_made (s := s) h1 h2 (show 1 ≤ ns.length by omega) hn7 hok.out)
            by_cases hj16 : j < 16
            · have i1 : (j : Int) < 16 := by omega
              have i2 : ¬ (ns.length : Int) < 7 := by omega
              go_wp2_with fail
              exact ret_made (g := w.heap.size) rfl rfl (hZ.set3 _ _ _) ⟨s, ns, _, rfl, ownsRow_set3 (hox.rebase (by omega)) hneZ _ _ _, HR.out, below_set3 hbx (Nat.le_refl _) _ _ _⟩
            · have i1 : ¬ (j : Int) < 16 := by omega
              go_wp2_with fail
              exact ret_made (g := w.heap.size) rfl rfl (hZ.set3 _ _ _) ⟨s, ns, _, rfl, ownsRow_set3 (hox.rebase (by omega)) hneZ _ _ _, HR.out, below_set3 hbx (Nat.le_refl _) _ _ _⟩

end Go.Proofs.YtcmaildfhdddjaaDoor
