/- Two Floats' texts: the program's float: contracts. -/
import Derived.Test.YthmdfliimlimhaaGreatDoorF8
namespace Go.Proofs.YthmdfliimlimhaaGreatDoor
open Go.RowKit Go.Sort

attribute [local go_sem ↓] Go.wp_at_zero Go.wp_at_succ

theorem has_calls (s : ByteArray) (c : UInt8) (b : Bool) (w : World) (h : decide (0 ≤ Lib.indexByte s.data.toList c) = b) : Calls Tryz.prog 62 #[.string s, .string ⟨#[c]⟩] w (Same w (.bool b)) :=
  h ▸ (Tryz.strings_Contains_one s c w).mono fun _ _ ⟨a, b⟩ => ⟨a, b.symm⟩

set_option maxRecDepth 100000 in
set_option maxHeartbeats 3200000 in
theorem float_two (w : World) (hG : Glob w) : Calls Tryz.prog 45 #[.float .f64 4611686018427387904] w (Says w (.string ⟨#[50, 46, 48]⟩)) := by
  have HF := Lib.hid (format_two w hG)
  have HI := Lib.hid (fun W => inf_calls 4611686018427387904 (by decide) W)
  rw [show infF 4611686018427387904 = false by kernel_rfl] at HI
  have HN := Lib.hid (fun W => isNaN_calls 4611686018427387904 W)
  rw [show nanF 4611686018427387904 = false by kernel_rfl] at HN
  have H1 := Lib.hid (fun W => has_calls ⟨#[50]⟩ 46 false W (by decide))
  have H2 := Lib.hid (fun W => has_calls ⟨#[50]⟩ 101 false W (by decide))
  clear hG
  go_enter Tryz.func45, Tryz.ntmps45
  go_wp2_with fail
  refine HF.out.mono ?_
  rintro e w1 ⟨rfl, hb1⟩
  have HB := Lib.hid hb1
  clear hb1
  go_wp2_with (first
    | (go_at_call 61; refine (HI.out _).mono ?_; rintro e w2 ⟨rfl, rfl⟩)
    | (go_at_call 36; refine (HN.out _).mono ?_; rintro e w2 ⟨rfl, rfl⟩)
    | (go_at_call 62; (with_reducible refine (H1.out _).mono ?_); rintro e w2 ⟨rfl, rfl⟩)
    | (go_at_call 62; (with_reducible refine (H2.out _).mono ?_); rintro e w2 ⟨rfl, rfl⟩))
  go_ret
  exact ⟨rfl, HB.out⟩

set_option maxRecDepth 100000 in
set_option maxHeartbeats 3200000 in
theorem float_half (w : World) (hG : Glob w) : Calls Tryz.prog 45 #[.float .f64 4602678819172646912] w (Says w (.string ⟨#[48, 46, 53]⟩)) := by
  have HF := Lib.hid (format_half w hG)
  have HI := Lib.hid (fun W => inf_calls 4602678819172646912 (by decide) W)
  rw [show infF 4602678819172646912 = false by kernel_rfl] at HI
  have HN := Lib.hid (fun W => isNaN_calls 4602678819172646912 W)
  rw [show nanF 4602678819172646912 = false by kernel_rfl] at HN
  have H1 := Lib.hid (fun W => has_calls ⟨#[48, 46, 53]⟩ 46 true W (by decide))
  clear hG
  go_enter Tryz.func45, Tryz.ntmps45
  go_wp2_with fail
  refine HF.out.mono ?_
  rintro e w1 ⟨rfl, hb1⟩
  have HB := Lib.hid hb1
  clear hb1
  go_wp2_with (first
    | (go_at_call 61; refine (HI.out _).mono ?_; rintro e w2 ⟨rfl, rfl⟩)
    | (go_at_call 36; refine (HN.out _).mono ?_; rintro e w2 ⟨rfl, rfl⟩)
    | (go_at_call 62; (with_reducible refine (H1.out _).mono ?_); rintro e w2 ⟨rfl, rfl⟩))
  go_ret
  exact ⟨rfl, HB.out⟩

end Go.Proofs.YthmdfliimlimhaaGreatDoor
