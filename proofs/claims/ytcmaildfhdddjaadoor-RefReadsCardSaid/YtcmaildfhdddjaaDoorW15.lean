/- Contracts of functions of this program, walked. No condition but the ones each theorem states. -/
import Derived.Test.YtcmaildfhdddjaaDoorW14
namespace Go.Proofs.YtcmaildfhdddjaaDoor
open Go.RowKit

attribute [local go_sem ↓] Go.wp_at_zero Go.wp_at_succ

/-- strings as cells -/
def sc (l : List ByteArray) : List Value := l.map Value.string
theorem sc_len (l : List ByteArray) : (sc l).length = l.length := by simp [sc]
theorem sc_append (a b : List ByteArray) : sc (a ++ b) = sc a ++ sc b := by simp [sc]
theorem Tryd.info9 : (Tryd.prog.info? 9).map (fun i => (i.zero, i.size, i.bytes)) = some (some (.string ByteArray.empty), 1, 16) := by kernel_rfl

theorem wpList_append_str {ops : Array Oper} {rest : List Oper} {o : Oper} {a : Act} {w : World} {Q : Exit → Act → World → Prop} (hgd : o.guard = none) (s x : Operand)
    (ho : o.op = .call { callee := .builtin .append, args := #[s, x], argTypes := #[50, 50] })
    (base : Nat) (v : Value) (n : Nat) (xs : List ByteArray) (hs : a.eval s = v) (g : Nat) (k : ByteArray) (hx : a.eval x = .slice (some ⟨g, 0, none⟩) 1 1) (hown : w.ownsRow base 9 1 v n (sc xs))
    (hr : w.cell? ⟨g, 0, none⟩ = some (.string k)) (hb : n ≤ 1000000) (hbase : base ≤ w.heap.size)
    (h : ∀ v' w', w'.ownsRow base 9 1 v' (n + 1) (sc (xs ++ [k])) → w.grownBy w' v.ownBlock → (v'.ownBlock = v.ownBlock ∨ v'.ownBlock = some w.heap.size) → wpList Tryd.prog ops Q rest (a.put o.dst v') w') : wpList Tryd.prog ops Q (o :: rest) a w :=
  wpList_plain hgd fun K hK => by
    obtain ⟨i0, hi, hz0, hz1, hz2⟩ := info_parts Tryd.info9
    obtain ⟨v', w', hrun, h2, h3, _, h4⟩ := run_append_own_at (P := Tryd.prog) w base 50 o.type 9 i0 _ 1 16 Tryd.underlying50 hi hz0 hz1 hz2 rfl (by omega) v n _ hown ⟨g, 0, none⟩ 1 1 [.string k] rfl (fun j u hj => by
      match j, hj with
      | 0, hj =>
        simp at hj
        subst hj
        simpa [Addr.add] using hr) (by simp [Value.oneCell']) (by simp only [maxLen]; omega) (by omega) hbase
    unfold Oper.wp execOp
    simp only [ho, resolve, invoke, builtin, Sem.run_bind, Sem.run_pure, Result.andThen_ok, List.map_toArray, List.map_cons, List.map_nil, hs, hx, hrun]
    exact hK _ _ (h v' w' (by rw [sc_append]; exact h2) h3 h4)

/-- the decimal digits of a node -/
def decI (x : Int) : List UInt8 := Lib.decDigits x.toNat
def decB (x : Int) : ByteArray := ⟨(decI x).toArray⟩
/-- a reference's text -/
def textB (s : List UInt8) (v : Nat) (ns : List Int) : List UInt8 :=
  [99, 104, 111, 105, 114, 58] ++ hexL s ++ [47] ++ Lib.decDigits v ++ [47] ++ Lib.join (ns.map decI) [44]
def textR (s : List UInt8) (v : Nat) (ns : List Int) : List UInt8 := if rightB s.length ns = true then textB s v ns else []

theorem join_len (l : List (List UInt8)) (k : Nat) (h : ∀ x ∈ l, x.length ≤ k) : (Lib.join l [44]).length ≤ l.length * (k + 1) := by
  cases l with
  | nil => simp [Lib.join_nil]
  | cons a l =>
    have ha := h a (by simp)
    rw [Lib.join_cons]
    have ht : (Lib.joinTail [44] l).length ≤ l.length * (k + 1) := by
      have hl : ∀ x ∈ l, x.length ≤ k := fun x hx => h x (by simp [hx])
      clear h ha
      induction l with
      | nil => simp [Lib.joinTail]
      | cons b l ih =>
        have hb := hl b (by simp)
        have := ih (fun x hx => hl x (by simp [hx]))
        have e : Lib.joinTail [44] (b :: l) = 44 :: (b ++ Lib.joinTail [44] l) := by simp [Lib.joinTail]
        rw [e]
        simp only [List.length_cons, List.length_append]
        rw [Nat.add_mul]
        omega
    simp only [List.length_append, List.length_cons]
    rw [Nat.add_mul]
    omega

theorem text_eq (a b c : List UInt8) : (⟨#[99, 104, 111, 105, 114, 58]⟩ : ByteArray) ++ ⟨a.toArray⟩ ++ ⟨#[47]⟩ ++ ⟨b.toArray⟩ ++ ⟨#[47]⟩ ++ ⟨c.toArray⟩ = ⟨([99, 104, 111, 105, 114, 58] ++ a ++ [47] ++ b ++ [47] ++ c).toArray⟩ := by
  apply ByteArray.ext
  simp

def Tells (w : World) (t : List UInt8) (e : Ending) (w' : World) : Prop := e = .returned (.string ⟨t.toArray⟩) ∧ Below w.heap.size w w'

set_option maxRecDepth 100000 in
set_option maxHeartbeats 1600000 in
theorem text_no (s : ByteArray) (v : Nat) (A : Option Addr) (n c : Nat) (ns : List Int) (w : World) (hn : n ≤ 1000000) (hs : s.size ≤ 1000000) (hc : n ≤ c)
    (hr : Reads w w.heap.size 1 A n (ic ns)) (hok : rightB s.size ns = false) :
    Calls Tryd.prog 10 #[.agg #[.string s, .int .u32 v, .slice A n c]] w (Tells w []) := by
  have hcall := Lib.hid (fun w1 (hr1 : Reads w1 w1.heap.size 1 A n (ic ns)) => right_calls s v A n c ns w1 hs hn hc hr1)
  rw [hok] at hcall
  go_enter Tryd.func10, Tryd.ntmps10
  go_wp2_with (go_at_call 18; refine (hcall.out _ ((hr.alloc (Nat.le_refl _) _).more (by simp))).mono ?_; rintro e w1 ⟨rfl, hb1⟩)
  go_ret
  exact ⟨rfl, ((Below.refl _ w).alloc (Nat.le_refl _) _).trans (hb1.mono (by simp))⟩

set_option maxRecDepth 100000 in
set_option maxHeartbeats 3200000 in
theorem text_yes (s : ByteArray) (v : Nat) (A : Option Addr) (n c : Nat) (ns : List Int) (w : World) (hv : v < 4294967296) (hc : n ≤ c)
    (hr : Reads w w.heap.size 1 A n (ic ns)) (hok : rightB s.size ns = true) (hG : Glob w) :
    Calls Tryd.prog 10 #[.agg #[.string s, .int .u32 v, .slice A n c]] w (Tells w (textB (sb s) v ns)) := by
  have hl : ns.length = n := by have := hr.1; rw [ic_len] at this; omega
  have hdim : s.size ≤ 32 ∧ 1 ≤ n ∧ n ≤ 7 := by
    have h := hok
    unfold rightB at h
    simp only [Bool.and_eq_true, decide_eq_true_eq] at h
    omega
  obtain ⟨hs, hn1, hn⟩ := hdim
  have hcall := Lib.hid (fun w1 (hr1 : Reads w1 w1.heap.size 1 A n (ic ns)) => right_calls s v A n c ns w1 (by omega) (by omega) hc hr1)
  rw [hok] at hcall
  go_enter Tryd.func10, Tryd.ntmps10
  go_wp2_with fail
  refine (hcall.out _ ((hr.alloc (Nat.le_refl _) _).more (by simp))).mono ?_
  rintro e w1 ⟨rfl, hb1⟩
  have hB1 : Blk w1 w.heap.size 26 #[.string s, .int .u32 v, .slice A n c] := (Blk.new w 26 _).below hb1 (by simp)
  have hz1 : w.heap.size < w1.heap.size := hB1.lt
  have h2 : w1.cell? ⟨w.heap.size, 2, none⟩ = some (.slice A n c) := hB1.cell 2
  have hb01 : Below w.heap.size w w1 := ((Below.refl _ w).alloc (Nat.le_refl _) _).trans (hb1.mono (by simp))
  go_wp2_with fail
  go_loopw [3, 5, 12] (fun o _ i wr => ∃ j : Nat, j ≤ n ∧ i = .int .i64 j ∧ wr.ownsRow w1.heap.size 9 1 o j (sc ((ns.map decB).take j)) ∧ Below w1.heap.size w1 wr) (fun _ _ i _ => n - (intOf i).toNat)
  case atStart => exact ⟨0, by omega, rfl, World.ownsRow_nil _ _ _ _, Below.refl _ _⟩
  case round =>
    obtain ⟨j, hj, rfl, hown, hbx⟩ := hrel
    have hbx0 : Below w.heap.size w wr := hb01.trans (hbx.mono (Nat.le_of_lt hz1))
    by_cases hlt : j < n
    · obtain ⟨b, off, rfl, hbB, hcell⟩ := hr.litI (by omega)
      have hu := upto_of hok j (by omega)
      have hc1 := (hbx0.cell (p := ⟨b, off + j, none⟩) hbB).trans (hcell j (by omega))
      have HT := Lib.hid (show (ns.map decB).take (j + 1) = (ns.map decB).take j ++ [decB (ns.getD j 0)] by
        rw [List.take_succ_eq_append_getElem (by simpa using (show j < ns.length by omega))]
        simp [show j < ns.length by omega])
      obtain ⟨hu0, hu1, _⟩ := hu
      clear hcell
      generalize ns.getD j 0 = x at *
      obtain ⟨k, rfl⟩ := Int.eq_ofNat_of_zero_le hu0
      have hit := Lib.hid (itoa_calls k (by omega) wr (hG.below hbx0))
      have hkB : (⟨(Lib.decDigits k).toArray⟩ : ByteArray) = decB (k : Int) := rfl
      rw [hkB] at hit
      go_wp2_with (first | (go_at_call 26; refine hit.out.mono ?_; rintro e w2 ⟨rfl, hb2⟩) | (at_builtin; refine wpList_append_str rfl (.tmp 16) (.tmp 19) rfl w1.heap.size _ j _ rfl w2.heap.size (decB (k : Int)) rfl ((hown.below (hb2)).alloc _) (by simp) (by omega) (by have := hb2.size; have := hbx.size; simp; omega) ?_; intro v4 w4 hown4 hg4 hat4))
      go_roundw
      case rel =>
        have h12 := hbx.trans (hb2.mono hbx.size)
        exact ⟨j + 1, by omega, by go_num, by rw [HT.out]; exact hown4, below_app1 h12 h12.size _ (hown.below hb2) (Nat.le_refl _) hg4⟩
      case measure => simp [intOf]; omega
    · have hjn : j = n := by omega
      subst hjn
      rw [List.take_of_length_le (by simp; omega)] at hown
      clear hlt hj
      have hBr := hB1.below hbx hz1
      have q0 : wr.cell? ⟨w.heap.size, 0, none⟩ = some (.string s) := hBr.cell 0
      have q1 : wr.cell? ⟨w.heap.size, 1, none⟩ = some (.int .u32 v) := hBr.cell 1
      have hG' := hG.below hbx0
      have hzr : w.heap.size < wr.heap.size := hBr.lt
      have hml : (ns.map decB).length = j := by simp [hl]
      obtain ⟨A3, c3, rfl, hc3, hr3⟩ := own_slice hown
      obtain ⟨bk, ok, rfl, hbk, hlit⟩ : ∃ bk ok, A3 = some ⟨bk, ok, none⟩ ∧ bk < wr.heap.size ∧ ∀ (i : Nat) (x : ByteArray), (ns.map decB)[i]? = some x → wr.cell? ⟨bk, ok + i, none⟩ = some (.string x) := by
        obtain ⟨b, off, rfl, hbB, hcell⟩ := hr3.lit (by omega)
        exact ⟨b, off, rfl, hbB, fun i x hx => hcell i (.string x) (by simp only [sc, List.getElem?_map, hx, Option.map_some])⟩
      have hw : IntKind.u64.wrap (v : Int) = v := wrap_u64_nat v (by omega)
      have l1 : (hexL (sb s)).length ≤ 64 := by rw [hexL_len, sb_len]; omega
      have l2 := dec_len v (by omega)
      have hjl : ((ns.map decB).map (·.data.toList)) = ns.map decI := by simp [decB, Function.comp_def]
      have l3 : (Lib.join (ns.map decI) [44]).length ≤ 147 := by
        have h21 := join_len (ns.map decI) 20 (fun x hx => by
          simp only [List.mem_map] at hx
          obtain ⟨y, hy, rfl⟩ := hx
          obtain ⟨i, hi, rfl⟩ := List.getElem_of_mem hy
          have hu := upto_of hok i hi
          refine dec_len _ ?_
          have e : ns.getD i 0 = ns[i] := by simp [hi]
          rw [e] at hu
          omega)
        have : (ns.map decI).length = j := by simp [hl]
        rw [this] at h21
        have : j * (20 + 1) ≤ 147 := by omega
        omega
      have keepc : ∀ {W : World}, Below wr.heap.size wr W → W.cell? ⟨w.heap.size, 0, none⟩ = some (.string s) ∧ W.cell? ⟨w.heap.size, 1, none⟩ = some (.int .u32 v) := fun hb => ⟨(hb.cell (p := ⟨w.heap.size, 0, none⟩) hzr).trans q0, (hb.cell (p := ⟨w.heap.size, 1, none⟩) hzr).trans q1⟩
      have hX := Lib.hid (fun W (hb : Below wr.heap.size wr W) => (hexed_calls s (by omega) W).mono (R' := fun e w' => e = .returned (.string ⟨(hexL (sb s)).toArray⟩) ∧ Below wr.heap.size wr w' ∧ w'.cell? ⟨w.heap.size, 0, none⟩ = some (.string s) ∧ w'.cell? ⟨w.heap.size, 1, none⟩ = some (.int .u32 v))
        fun e w' ⟨h1, h2⟩ => ⟨h1, hb.trans (h2.mono hb.size), (keepc (hb.trans (h2.mono hb.size))).1, (keepc (hb.trans (h2.mono hb.size))).2⟩)
      have hF := Lib.hid (fun W (hb : Below wr.heap.size wr W) => (fmtUint_calls v (by omega) W (hG'.below hb)).mono (R' := fun e w' => e = .returned (.string ⟨(Lib.decDigits v).toArray⟩) ∧ Below wr.heap.size wr w' ∧ w'.cell? ⟨w.heap.size, 0, none⟩ = some (.string s) ∧ w'.cell? ⟨w.heap.size, 1, none⟩ = some (.int .u32 v))
        fun e w' ⟨h1, h2⟩ => ⟨h1, hb.trans (h2.mono hb.size), (keepc (hb.trans (h2.mono hb.size))).1, (keepc (hb.trans (h2.mono hb.size))).2⟩)
      have hJ := Lib.hid (fun W (hb : Below wr.heap.size wr W) => (Tryd.strings_Join bk ok c3 (ns.map decB) ⟨#[44]⟩ W (fun i x hx => (hb.cell (p := ⟨bk, ok + i, none⟩) hbk).trans (hlit i x hx)) (Nat.lt_of_lt_of_le hbk hb.size) (by rw [hml]; omega) (by rw [hml]; omega) (by rw [hjl]; exact Nat.le_trans l3 (by omega))).mono (R' := fun e w' => e = .returned (.string ⟨(Lib.join (ns.map decI) [44]).toArray⟩) ∧ Below wr.heap.size wr w' ∧ w'.cell? ⟨w.heap.size, 0, none⟩ = some (.string s) ∧ w'.cell? ⟨w.heap.size, 1, none⟩ = some (.int .u32 v))
        fun e w' ⟨h1, h2⟩ => ⟨by rw [hjl] at h1; exact h1, hb.trans (h2.mono hb.size), (keepc (hb.trans (h2.mono hb.size))).1, (keepc (hb.trans (h2.mono hb.size))).2⟩)
      rw [hml] at hJ
      have hzs : Below w.heap.size w wr := hbx0
      clear hlit hcall hown hr3 keepc hr
      have hTX : textB (sb s) v ns = [99, 104, 111, 105, 114, 58] ++ hexL (sb s) ++ [47] ++ Lib.decDigits v ++ [47] ++ Lib.join (ns.map decI) [44] := rfl
      generalize hexL (sb s) = X at *
      generalize Lib.decDigits v = F at *
      generalize Lib.join (ns.map decI) [44] = J at *
      have HTX := Lib.hid hTX
      clear hTX
      have n1 : ¬ 9223372036854775807 < 6 + X.length := by omega
      have n2 : ¬ 9223372036854775807 < 6 + X.length + 1 := by omega
      have n3 : ¬ 9223372036854775807 < 6 + X.length + 1 + F.length := by omega
      have n4 : ¬ 9223372036854775807 < 6 + X.length + 1 + F.length + 1 := by omega
      have n5 : ¬ 9223372036854775807 < 6 + X.length + 1 + F.length + 1 + J.length := by omega
      go_wp2_with fail
      go_region_held3 (fun w' => w'.cell? ⟨w.heap.size, 0, none⟩ = some (.string s) ∧ w'.cell? ⟨w.heap.size, 1, none⟩ = some (.int .u32 v)) (first | exact ⟨kX0, kX1⟩ | exact ⟨kF0, kF1⟩ | exact ⟨kJ0, kJ1⟩ | go_keep)
        (first
          | (go_at_call 27; refine (hX.out _ ?_).mono ?_; (first | exact hbF | exact hbJ | exact (Below.refl _ _).drew); rintro e wX ⟨rfl, hbX, kX0, kX1⟩)
          | (go_at_call 28; refine (hF.out _ ?_).mono ?_; (first | exact hbX | exact hbJ | exact (Below.refl _ _).drew); rintro e wF ⟨rfl, hbF, kF0, kF1⟩)
          | (go_at_call 29; refine (hJ.out _ ?_).mono ?_; (first | exact hbX | exact hbF | exact (Below.refl _ _).drew); rintro e wJ ⟨rfl, hbJ, kJ0, kJ1⟩))
      all_goals (
        go_wp2_with fail
        go_ret
        refine ⟨by rw [HTX.out, text_eq]; rfl, ?_⟩
        (first | exact hzs.trans (hbX.mono hzs.size) | exact hzs.trans (hbF.mono hzs.size) | exact hzs.trans (hbJ.mono hzs.size)))

theorem text_calls (s : ByteArray) (v : Nat) (A : Option Addr) (n c : Nat) (ns : List Int) (w : World) (hv : v < 4294967296) (hs : s.size ≤ 1000000) (hn : n ≤ 1000000) (hc : n ≤ c)
    (hr : Reads w w.heap.size 1 A n (ic ns)) (hG : Glob w) :
    Calls Tryd.prog 10 #[.agg #[.string s, .int .u32 v, .slice A n c]] w (Tells w (textR (sb s) v ns)) := by
  unfold textR
  rw [sb_len]
  cases hok : rightB s.size ns with
  | false => rw [if_neg (by simp)]; exact text_no s v A n c ns w hn hs hc hr hok
  | true => rw [if_pos rfl]; exact text_yes s v A n c ns w hv hc hr hok hG

end Go.Proofs.YtcmaildfhdddjaaDoor
