/- Comparisons of numbers, of kinds, of Floats: contracts. -/
import Derived.Test.YthmdfliimlimhaaGreatDoorW2
namespace Go.Proofs.YthmdfliimlimhaaGreatDoor
open Go.RowKit

attribute [local go_sem ↓] Go.wp_at_zero Go.wp_at_succ

abbrev Same (w : World) (v : Value) (e : Ending) (w' : World) : Prop := e = .returned v ∧ w = w'

theorem nan_int (a : Int) (w : World) : Calls Tryz.prog 52 #[.int .i64 a] w (Same w (.bool false)) := by
  have h : (a != a) = false := by simp
  go_enter Tryz.func52, Tryz.ntmps52
  go_wp2_with fail
  go_ret
  exact ⟨rfl, rfl⟩
theorem nan_int64 (a : Int) (w : World) : Calls Tryz.prog 53 #[.int .i64 a] w (Same w (.bool false)) := by
  have h : (a != a) = false := by simp
  go_enter Tryz.func53, Tryz.ntmps53
  go_wp2_with fail
  go_ret
  exact ⟨rfl, rfl⟩

set_option maxHeartbeats 800000 in
theorem cmp_int (a b : Int) (w : World) : Calls Tryz.prog 30 #[.int .i64 a, .int .i64 b] w (Same w (.int .i64 (cmpI a b))) := by
  rcases cmpI_cases a b with ⟨h, e⟩ | ⟨h, e⟩ | ⟨h, e⟩
  · have HE := Lib.hid e
    clear e
    go_enter Tryz.func30, Tryz.ntmps30
    go_wp2_with (go_at_call 52; refine (nan_int _ _).mono ?_; rintro e w' ⟨rfl, rfl⟩)
    go_ret
    exact ⟨by rw [HE.out]; rfl, rfl⟩
  · have HE := Lib.hid e
    clear e
    have h1 : ¬ a < b := by omega
    have h2 : ¬ b < a := by omega
    clear h
    go_enter Tryz.func30, Tryz.ntmps30
    go_wp2_with (go_at_call 52; refine (nan_int _ _).mono ?_; rintro e w' ⟨rfl, rfl⟩)
    go_ret
    exact ⟨by rw [HE.out]; rfl, rfl⟩
  · have HE := Lib.hid e
    clear e
    have h1 : ¬ a < b := by omega
    go_enter Tryz.func30, Tryz.ntmps30
    go_wp2_with (go_at_call 52; refine (nan_int _ _).mono ?_; rintro e w' ⟨rfl, rfl⟩)
    go_ret
    exact ⟨by rw [HE.out]; rfl, rfl⟩
set_option maxHeartbeats 800000 in
theorem cmp_int64 (a b : Int) (w : World) : Calls Tryz.prog 32 #[.int .i64 a, .int .i64 b] w (Same w (.int .i64 (cmpI a b))) := by
  rcases cmpI_cases a b with ⟨h, e⟩ | ⟨h, e⟩ | ⟨h, e⟩
  · have HE := Lib.hid e
    clear e
    go_enter Tryz.func32, Tryz.ntmps32
    go_wp2_with (go_at_call 53; refine (nan_int64 _ _).mono ?_; rintro e w' ⟨rfl, rfl⟩)
    go_ret
    exact ⟨by rw [HE.out]; rfl, rfl⟩
  · have HE := Lib.hid e
    clear e
    have h1 : ¬ a < b := by omega
    have h2 : ¬ b < a := by omega
    clear h
    go_enter Tryz.func32, Tryz.ntmps32
    go_wp2_with (go_at_call 53; refine (nan_int64 _ _).mono ?_; rintro e w' ⟨rfl, rfl⟩)
    go_ret
    exact ⟨by rw [HE.out]; rfl, rfl⟩
  · have HE := Lib.hid e
    clear e
    have h1 : ¬ a < b := by omega
    go_enter Tryz.func32, Tryz.ntmps32
    go_wp2_with (go_at_call 53; refine (nan_int64 _ _).mono ?_; rintro e w' ⟨rfl, rfl⟩)
    go_ret
    exact ⟨by rw [HE.out]; rfl, rfl⟩

theorem f64_lss (a b : Nat) : ((FloatKind.format .f64).order a b == some .lt) = ltF a b := order_lt a b
theorem f64_gtr (a b : Nat) : ((FloatKind.format .f64).order a b == some .gt) = ltF b a := order_gt a b
theorem f64_eql (a b : Nat) : ((FloatKind.format .f64).order a b == some .eq) = eqF a b := order_eq a b
theorem f64_neq (a b : Nat) : ((FloatKind.format .f64).order a b != some .eq) = !eqF a b := by rw [bne, f64_eql]

theorem nan_float (a : Nat) (w : World) : Calls Tryz.prog 69 #[.float .f64 a] w (Same w (.bool (nanF a))) := by
  have h : ((FloatKind.format .f64).order a a != some .eq) = nanF a := by rw [f64_neq, eqF_self]; simp
  go_enter Tryz.func69, Tryz.ntmps69
  go_wp2_with fail
  go_ret
  exact ⟨by rfl, rfl⟩

theorem bits_calls (a : Nat) (w : World) : (callFunc 38 #[.float .f64 a]).run Tryz.prog w = .ok (.value (.int .u64 a)) w := by
  rw [run_callFunc_extern Tryz.func38 (by kernel_rfl) (by kernel_rfl) (by kernel_rfl) (e := Extern.MathFloatBits.float64bits) (by kernel_rfl)]
  rfl

theorem i64_neg (a : Nat) (h : 2 ^ 63 ≤ a) (h2 : a < 2 ^ 64) : decide (wrap64 (a : Int) < 0) = true := by
  rw [decide_eq_true_eq]; unfold wrap64; omega
theorem i64_pos (a : Nat) (h : ¬ 2 ^ 63 ≤ a) : decide (wrap64 (a : Int) < 0) = false := by
  rw [decide_eq_false_iff_not]; unfold wrap64; omega

set_option maxHeartbeats 800000 in
set_option maxRecDepth 100000 in
theorem signbit_calls (a : Nat) (w : World) (ha : a < 2 ^ 64) : Calls Tryz.prog 59 #[.float .f64 a] w (Same w (.bool (signF a))) := by
  have HB := Lib.hid (fun W => bits_calls a W)
  by_cases hs : 2 ^ 63 ≤ a
  · have HR := Lib.hid (show signF a = true by simpa [signF] using hs)
    have HW := Lib.hid (i64_neg a hs ha)
    clear hs ha
    go_enter Tryz.func59, Tryz.ntmps59
    go_wp2_with fail
    rw [HB.out]
    rw [Oper.upon_value]
    go_wp2_with fail
    go_ret
    refine ⟨?_, rfl⟩
    show Ending.returned (.bool (decide (wrap64 (a : Int) < 0))) = _
    rw [HR.out, HW.out]
  · have HR := Lib.hid (show signF a = false by simpa [signF] using hs)
    have HW := Lib.hid (i64_pos a hs)
    clear hs ha
    go_enter Tryz.func59, Tryz.ntmps59
    go_wp2_with fail
    rw [HB.out]
    rw [Oper.upon_value]
    go_wp2_with fail
    go_ret
    refine ⟨?_, rfl⟩
    show Ending.returned (.bool (decide (wrap64 (a : Int) < 0))) = _
    rw [HR.out, HW.out]

set_option maxRecDepth 100000 in
set_option maxHeartbeats 800000 in
theorem sign_calls (a : Nat) (w : World) (ha : a < 2 ^ 64) : Calls Tryz.prog 54 #[.float .f64 a] w (Same w (.int .i64 (sgn a))) := by
  have HS := Lib.hid (signbit_calls a w ha)
  clear ha
  by_cases hs : signF a = true
  · have HR := Lib.hid (show sgn a = 0 by simp [sgn, hs])
    go_enter Tryz.func54, Tryz.ntmps54
    go_wp2_with (go_at_call 59; refine HS.out.mono ?_; rintro e w' ⟨rfl, rfl⟩)
    go_ret
    exact ⟨by rw [HR.out]; rfl, rfl⟩
  · have HR := Lib.hid (show sgn a = 1 by simp [sgn, hs])
    have hs' : signF a = false := by simpa using hs
    clear hs
    go_enter Tryz.func54, Tryz.ntmps54
    go_wp2_with (go_at_call 59; refine HS.out.mono ?_; rintro e w' ⟨rfl, rfl⟩)
    go_ret
    exact ⟨by rw [HR.out]; rfl, rfl⟩

set_option maxRecDepth 100000 in
set_option maxHeartbeats 1600000 in
theorem cmp_float (a b : Nat) (w : World) : Calls Tryz.prog 55 #[.float .f64 a, .float .f64 b] w (Same w (.int .i64 (cmpF a b))) := by
  have h1 := f64_lss a b
  have h2 := f64_gtr a b
  cases ha : nanF a
  · cases hb : nanF b
    · cases hl : ltF a b
      · cases hg : ltF b a
        · have HR := Lib.hid (show cmpF a b = 0 by simp [cmpF, ha, hb, hl, hg])
          go_enter Tryz.func55, Tryz.ntmps55
          go_wp2_with (go_at_call 69; refine (nan_float _ _).mono ?_; rintro e w' ⟨rfl, rfl⟩)
          go_ret
          exact ⟨by rw [HR.out]; rfl, rfl⟩
        · have HR := Lib.hid (show cmpF a b = 1 by simp [cmpF, ha, hb, hl, hg])
          go_enter Tryz.func55, Tryz.ntmps55
          go_wp2_with (go_at_call 69; refine (nan_float _ _).mono ?_; rintro e w' ⟨rfl, rfl⟩)
          go_ret
          exact ⟨by rw [HR.out]; rfl, rfl⟩
      · have HR := Lib.hid (show cmpF a b = -1 by simp [cmpF, ha, hb, hl])
        go_enter Tryz.func55, Tryz.ntmps55
        go_wp2_with (go_at_call 69; refine (nan_float _ _).mono ?_; rintro e w' ⟨rfl, rfl⟩)
        go_ret
        exact ⟨by rw [HR.out]; rfl, rfl⟩
    · have HR := Lib.hid (show cmpF a b = 1 by simp [cmpF, ha, hb])
      go_enter Tryz.func55, Tryz.ntmps55
      go_wp2_with (go_at_call 69; refine (nan_float _ _).mono ?_; rintro e w' ⟨rfl, rfl⟩)
      go_ret
      exact ⟨by rw [HR.out]; rfl, rfl⟩
  · cases hb : nanF b
    · have HR := Lib.hid (show cmpF a b = -1 by simp [cmpF, ha, hb])
      go_enter Tryz.func55, Tryz.ntmps55
      go_wp2_with (go_at_call 69; refine (nan_float _ _).mono ?_; rintro e w' ⟨rfl, rfl⟩)
      go_ret
      exact ⟨by rw [HR.out]; rfl, rfl⟩
    · have HR := Lib.hid (show cmpF a b = 0 by simp [cmpF, ha, hb])
      go_enter Tryz.func55, Tryz.ntmps55
      go_wp2_with (go_at_call 69; refine (nan_float _ _).mono ?_; rintro e w' ⟨rfl, rfl⟩)
      go_ret
      exact ⟨by rw [HR.out]; rfl, rfl⟩

set_option maxRecDepth 100000 in
set_option maxHeartbeats 1600000 in
theorem floats_calls (a b : Nat) (w : World) (ha : a < 2 ^ 64) (hb : b < 2 ^ 64) : Calls Tryz.prog 33 #[.float .f64 a, .float .f64 b] w (Same w (.int .i64 (floatsO a b))) := by
  have h1 := f64_eql a 0
  have h2 := f64_eql b 0
  have HA := Lib.hid (fun W => sign_calls a W ha)
  have HB := Lib.hid (fun W => sign_calls b W hb)
  clear ha hb
  cases ea : eqF a 0
  · have HR := Lib.hid (show floatsO a b = cmpF a b by simp [floatsO, ea])
    go_enter Tryz.func33, Tryz.ntmps33
    go_wp2_with (go_at_call 55; refine (cmp_float _ _ _).mono ?_; rintro e w' ⟨rfl, rfl⟩)
    go_ret
    exact ⟨by rw [HR.out]; rfl, rfl⟩
  · cases eb : eqF b 0
    · have HR := Lib.hid (show floatsO a b = cmpF a b by simp [floatsO, eb])
      go_enter Tryz.func33, Tryz.ntmps33
      go_wp2_with (go_at_call 55; refine (cmp_float _ _ _).mono ?_; rintro e w' ⟨rfl, rfl⟩)
      go_ret
      exact ⟨by rw [HR.out]; rfl, rfl⟩
    · have HR := Lib.hid (show floatsO a b = cmpI (sgn a) (sgn b) by simp [floatsO, ea, eb])
      go_enter Tryz.func33, Tryz.ntmps33
      go_wp2_with fail
      refine (HA.out _).mono ?_
      rintro e w' ⟨rfl, rfl⟩
      go_wp2_with fail
      refine (HB.out _).mono ?_
      rintro e w' ⟨rfl, rfl⟩
      go_wp2_with (go_at_call 30; refine (cmp_int _ _ _).mono ?_; rintro e w' ⟨rfl, rfl⟩)
      go_ret
      exact ⟨by rw [HR.out]; rfl, rfl⟩

set_option maxRecDepth 100000 in
set_option maxHeartbeats 1600000 in
theorem kind_calls (k i : Int) (f : Nat) (s : ByteArray) (A : Option Addr) (n c : Nat) (w : World) : Calls Tryz.prog 31 #[.agg (vcells k i f s A n c)] w (Says w (.int .i64 (kd k))) := by
  have hb0 : Below w.heap.size w (w.alloc (.cells (vcells k i f s A n c) 25)) := (Below.refl _ w).alloc (Nat.le_refl _) _
  by_cases h1 : k < 0
  · have HR := Lib.hid (show kd k = 0 by simp [kd, h1])
    go_enter Tryz.func31, Tryz.ntmps31
    go_wp2_with fail
    go_ret
    exact ⟨by rw [HR.out]; rfl, hb0⟩
  · by_cases h2 : 4 < k
    · have HR := Lib.hid (show kd k = 0 by simp [kd, h2])
      go_enter Tryz.func31, Tryz.ntmps31
      go_wp2_with fail
      go_ret
      exact ⟨by rw [HR.out]; rfl, hb0⟩
    · have HR := Lib.hid (show kd k = k by simp [kd, h1, h2])
      go_enter Tryz.func31, Tryz.ntmps31
      go_wp2_with fail
      go_ret
      exact ⟨by rw [HR.out]; rfl, hb0⟩

end Go.Proofs.YthmdfliimlimhaaGreatDoor
