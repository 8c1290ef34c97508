/- Contracts of functions of this program, walked. No condition but the ones each theorem states. -/
import Derived.Test.YtcmaildfhdddjaaDoorP2
namespace Go.Proofs.YtcmaildfhdddjaaDoor
open Go.RowKit

attribute [local go_sem ↓] Go.wp_at_zero Go.wp_at_succ

theorem take_same {ks bs : List Int} {j : Nat} (h : ks.take j = bs.take j) (ha : j < ks.length) (hb : j < bs.length) (e : ks.getD j 0 = bs.getD j 0) : ks.take (j + 1) = bs.take (j + 1) := by
  rw [List.take_succ_eq_append_getElem ha, List.take_succ_eq_append_getElem hb, h]
  simp [ha, hb] at e
  rw [e]

set_option maxRecDepth 100000 in
set_option maxHeartbeats 1600000 in
theorem ints_calls (A : Option Addr) (n c : Nat) (ks : List Int) (B : Option Addr) (m d : Nat) (bs : List Int) (w : World) (hn : n ≤ 1000000) (hm : m ≤ 1000000) (hc : n ≤ c) (hd : m ≤ d)
    (hr : Reads w w.heap.size 1 A n (ic ks)) (hq : Reads w w.heap.size 1 B m (ic bs)) :
    Calls Tryd.prog 37 #[.slice A n c, .slice B m d] w (Says w (decide (ks = bs))) := by
  have hla : ks.length = n := by have := hr.1; rw [ic_len] at this; omega
  have hlb : bs.length = m := by have := hq.1; rw [ic_len] at this; omega
  by_cases hnm : n = m
  · subst hnm
    have hne : ((n : Int) != (n : Int)) = false := by simp
    go_enter Tryd.func37, Tryd.ntmps37
    go_wp2_with fail
    go_loopw [5] (fun i wr => ∃ j : Nat, j ≤ n ∧ i = .int .i64 j ∧ ks.take j = bs.take j ∧ ∃ k, wr = w.drewN k) (fun i _ => n - (intOf i).toNat)
    case atStart => exact ⟨0, by omega, rfl, rfl, 0, rfl⟩
    case round =>
      obtain ⟨j, hj, rfl, htk, k, rfl⟩ := hrel
      by_cases hlt : j < n
      · obtain ⟨b1, o1, rfl, hb1, hcell1⟩ := hr.litI (by omega)
        obtain ⟨b2, o2, rfl, hb2, hcell2⟩ := hq.litI (by omega)
        have k1 : w.cell? ⟨b1, o1 + j, none⟩ = some (.int .i64 (ks.getD j 0)) := hcell1 j (by omega)
        have k2 : w.cell? ⟨b2, o2 + j, none⟩ = some (.int .i64 (bs.getD j 0)) := hcell2 j (by omega)
        have HS := Lib.hid (fun e => take_same htk (show j < ks.length by omega) (show j < bs.length by omega) e)
        have HD := Lib.hid (fun (e : ks = bs) => congrArg (fun l => l.getD j 0) e)
        clear hcell1 hcell2 htk
        by_cases hxy : ks.getD j 0 = bs.getD j 0
        · have HN := Lib.hid (HS.out hxy)
          clear HS HD
          rw [← hxy] at k2
          generalize ks.getD j 0 = x at *
          have hxx : (x != x) = false := by simp
          go_upto_region 6 with (fail)
          go_quiet (fail)
          go_wp2_with fail
          go_roundw
          case rel => exact ⟨j + 1, by omega, by go_num, HN.out, _, rfl⟩
          case measure => simp [intOf]; omega
        · have hD : decide (ks = bs) = false := by
            rw [decide_eq_false_iff_not]
            intro e
            exact hxy (HD.out e)
          clear HS HD
          have HD := Lib.hid hD
          clear hD
          generalize ks.getD j 0 = x at *
          generalize bs.getD j 0 = y at *
          have hxx : (x != y) = true := by simp [hxy]
          go_upto_region 6 with (fail)
          go_quiet (fail)
          go_wp2_with fail
          go_ret
          exact ⟨by rw [HD.out]; rfl, ⟨rfl, rfl, rfl, Nat.le_refl _, fun _ _ => rfl⟩⟩
      · have hjn : j = n := by omega
        subst hjn
        rw [List.take_of_length_le (by omega), List.take_of_length_le (by omega)] at htk
        have HD := Lib.hid (show decide (ks = bs) = true by simp [htk])
        clear htk hlt hj
        go_wp2_with fail
        go_ret
        exact ⟨by rw [HD.out]; rfl, ⟨rfl, rfl, rfl, Nat.le_refl _, fun _ _ => rfl⟩⟩
  · have hne : ((n : Int) != (m : Int)) = true := by simp; omega
    have HD := Lib.hid (show decide (ks = bs) = false by
      rw [decide_eq_false_iff_not]
      intro e
      rw [e] at hla
      omega)
    go_enter Tryd.func37, Tryd.ntmps37
    go_wp2_with fail
    go_ret
    exact ⟨by rw [HD.out]; rfl, Below.refl _ _⟩

def sameB (s : ByteArray) (v : Nat) (ks : List Int) (s' : ByteArray) (v' : Nat) (bs : List Int) : Bool := decide (s = s') && decide (v = v') && decide (ks = bs)

set_option maxRecDepth 100000 in
set_option maxHeartbeats 1600000 in
theorem same_calls (s : ByteArray) (v : Nat) (A : Option Addr) (n c : Nat) (ks : List Int) (s' : ByteArray) (v' : Nat) (B : Option Addr) (m d : Nat) (bs : List Int) (w : World) (hn : n ≤ 1000000) (hm : m ≤ 1000000) (hc : n ≤ c) (hd : m ≤ d)
    (hr : Reads w w.heap.size 1 A n (ic ks)) (hq : Reads w w.heap.size 1 B m (ic bs)) :
    Calls Tryd.prog 14 #[.agg #[.string s, .int .u32 v, .slice A n c], .agg #[.string s', .int .u32 v', .slice B m d]] w (Says w (sameB s v ks s' v' bs)) := by
  have hb0 : Below w.heap.size w ((w.alloc (.cells #[.string s, .int .u32 v, .slice A n c] 26)).alloc (.cells #[.string s', .int .u32 v', .slice B m d] 26)) := ((Below.refl _ w).alloc (Nat.le_refl _) _).alloc (by simp) _
  have hcall := Lib.hid (ints_calls A n c ks B m d bs _ hn hm hc hd ((hr.below hb0).more hb0.size) ((hq.below hb0).more hb0.size))
  by_cases hss : s = s'
  · subst hss
    by_cases hvv : v = v'
    · subst hvv
      have HS := Lib.hid (show sameB s v ks s v bs = decide (ks = bs) by simp [sameB])
      go_enter Tryd.func14, Tryd.ntmps14
      go_wp2_with (go_at_call 37; refine hcall.out.mono ?_; rintro e w1 ⟨rfl, hb1⟩)
      go_ret
      exact ⟨by rw [HS.out]; rfl, hb0.trans (hb1.mono hb0.size)⟩
    · have HS := Lib.hid (show sameB s v ks s v' bs = false by simp [sameB, hvv])
      have hv1 : ((v : Int) == (v' : Int)) = false := by simp; omega
      have hv2 : ¬ v = v' := hvv
      go_enter Tryd.func14, Tryd.ntmps14
      go_wp2_with fail
      go_ret
      exact ⟨by rw [HS.out]; rfl, hb0⟩
  · have HS := Lib.hid (show sameB s v ks s' v' bs = false by simp [sameB, hss])
    have hs1 : (s.toList == s'.toList) = false := by
      rw [toL, toL, beq_eq_false_iff_ne]
      intro e
      apply hss
      apply ByteArray.ext
      exact Array.ext' e
    go_enter Tryd.func14, Tryd.ntmps14
    go_wp2_with fail
    go_ret
    exact ⟨by rw [HS.out]; rfl, hb0⟩

end Go.Proofs.YtcmaildfhdddjaaDoor
