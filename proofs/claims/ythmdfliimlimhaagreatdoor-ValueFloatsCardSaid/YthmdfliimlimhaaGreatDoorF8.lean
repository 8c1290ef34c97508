/- Two Floats' texts: FormatFloat, the program's float: contracts. -/
import Derived.Test.YthmdfliimlimhaaGreatDoorF7
import Derived.Laws.BitsAllLaws
namespace Go.Proofs.YthmdfliimlimhaaGreatDoor
open Go.RowKit Go.Sort

attribute [local go_sem ↓] Go.wp_at_zero Go.wp_at_succ

theorem run_text {w : World} {B : Nat} {A : Option Addr} {n : Nat} {xs : List UInt8} (hr : Reads w B 1 A n (bc xs)) (c : Nat) : (convert 36 9 (.slice A n c)).run Tryz.prog w = .ok (.string ⟨xs.toArray⟩) w := by
  have hl : xs.length = n := by have := hr.1; rw [bc_len] at this; omega
  subst hl
  rcases Nat.eq_zero_or_pos xs.length with h0 | h0
  · have hx : xs = [] := List.eq_nil_of_length_eq_zero h0
    subst hx
    rw [run_convert_bytes_string w 36 9 5 _ _ c Tryz.underlying36 Tryz.underlying5 Tryz.underlying9]
    cases A <;> simp [Conv.bytesToString, loadCells]
    all_goals rfl
  · obtain ⟨ad, rfl, _, hc⟩ := hr.2 h0
    exact run_convert_bytes_back (P := Tryz.prog) w 36 9 5 ad c xs Tryz.underlying36 Tryz.underlying5 Tryz.underlying9 fun j hj => hc j _ (by simp [Lib.byteCells, hj])

theorem own_slice {w : World} {base n : Nat} {e : TypeId} {size : Nat} {v : Value} {xs : List Value} (h : w.ownsRow base e size v n xs) : ∃ A c, v = .slice A n c ∧ n ≤ c ∧ Reads w w.heap.size size A n xs := by
  have h0 := h
  rcases h.2 with ⟨rfl, rfl⟩ | ⟨g, cap, cur, rfl, _, _, hc, _⟩
  · exact ⟨none, 0, rfl, Nat.le_refl _, Reads.of_own h0⟩
  · exact ⟨_, cap, rfl, hc, Reads.of_own h0⟩

theorem make24 (W : World) : (Instr.makeSlice 36 (.int .i64 0) (.int .i64 24)).run Tryz.prog W = .ok (.slice (some ⟨W.heap.size, 0, none⟩) 0 24) (W.alloc (.cells (Array.replicate 24 (.int .u8 0)) 5)) := by kernel_rfl

set_option maxRecDepth 100000 in
set_option maxHeartbeats 3200000 in
theorem fmt_two (w : World) (hG : Glob w) :
    Calls Tryz.prog 67 #[.float .f64 4611686018427387904, .int .u8 103, .int .i64 (-1), .int .i64 64] w fun e w' => e = .returned (.string ⟨#[50]⟩) ∧ Below w.heap.size w w' := by
  have m1 : max (3 : Int) 24 = 24 := by decide
  have hmk := make24
  have HO := Lib.hid (World.ownsRow_made (e := 5) (base := w.heap.size) (size := 1) w (Array.replicate 24 (.int .u8 0)) 24 (Nat.le_refl _) (by decide) (by simp))
  have hb : Below w.heap.size w (w.alloc (.cells (Array.replicate 24 (.int .u8 0)) 5)) := (Below.refl _ w).alloc (Nat.le_refl _) _
  have HF := Lib.hid (ftoa_two w.heap.size w (.slice (some ⟨w.heap.size, 0, none⟩) 0 24) _ HO.out hb hb.size (hG.below hG.big hb))
  clear hG hb HO
  go_enter Tryz.func67, Tryz.ntmps67
  go_wp2_with fail
  refine HF.out.mono ?_
  rintro e w1 ⟨v1, rfl, hown, hb1⟩
  obtain ⟨A, c, rfl, _, hr⟩ := own_slice hown
  have hcv := run_text hr c
  have HB := Lib.hid hb1
  clear hown hr hb1
  go_wp2_with fail
  go_ret
  exact ⟨rfl, HB.out⟩

set_option maxRecDepth 100000 in
set_option maxHeartbeats 3200000 in
theorem format_two (w : World) (hG : Glob w) :
    Calls Tryz.prog 48 #[.float .f64 4611686018427387904, .int .u8 103, .int .i64 (-1), .int .i64 64] w fun e w' => e = .returned (.string ⟨#[50]⟩) ∧ Below w.heap.size w w' := by
  have H := Lib.hid (fmt_two w hG)
  clear hG
  go_enter Tryz.func48, Tryz.ntmps48
  go_wp2_with fail
  refine H.out.mono ?_
  rintro e w1 ⟨rfl, hb1⟩
  go_wp2_with fail
  go_ret
  exact ⟨rfl, hb1⟩

set_option maxRecDepth 100000 in
set_option maxHeartbeats 3200000 in
theorem fmt_half (w : World) (hG : Glob w) :
    Calls Tryz.prog 67 #[.float .f64 4602678819172646912, .int .u8 103, .int .i64 (-1), .int .i64 64] w fun e w' => e = .returned (.string ⟨#[48, 46, 53]⟩) ∧ Below w.heap.size w w' := by
  have m1 : max (3 : Int) 24 = 24 := by decide
  have hmk := make24
  have HO := Lib.hid (World.ownsRow_made (e := 5) (base := w.heap.size) (size := 1) w (Array.replicate 24 (.int .u8 0)) 24 (Nat.le_refl _) (by decide) (by simp))
  have hb : Below w.heap.size w (w.alloc (.cells (Array.replicate 24 (.int .u8 0)) 5)) := (Below.refl _ w).alloc (Nat.le_refl _) _
  have HF := Lib.hid (ftoa_half w.heap.size w (.slice (some ⟨w.heap.size, 0, none⟩) 0 24) _ HO.out hb hb.size (hG.below hG.big hb))
  clear hG hb HO
  go_enter Tryz.func67, Tryz.ntmps67
  go_wp2_with fail
  refine HF.out.mono ?_
  rintro e w1 ⟨v1, rfl, hown, hb1⟩
  obtain ⟨A, c, rfl, _, hr⟩ := own_slice hown
  have hcv := run_text hr c
  have HB := Lib.hid hb1
  clear hown hr hb1
  go_wp2_with fail
  go_ret
  exact ⟨rfl, HB.out⟩

set_option maxRecDepth 100000 in
set_option maxHeartbeats 3200000 in
theorem format_half (w : World) (hG : Glob w) :
    Calls Tryz.prog 48 #[.float .f64 4602678819172646912, .int .u8 103, .int .i64 (-1), .int .i64 64] w fun e w' => e = .returned (.string ⟨#[48, 46, 53]⟩) ∧ Below w.heap.size w w' := by
  have H := Lib.hid (fmt_half w hG)
  clear hG
  go_enter Tryz.func48, Tryz.ntmps48
  go_wp2_with fail
  refine H.out.mono ?_
  rintro e w1 ⟨rfl, hb1⟩
  go_wp2_with fail
  go_ret
  exact ⟨rfl, hb1⟩


theorem frombits_run (a : Nat) (w : World) : (callFunc 51 #[.int .u64 a]).run Tryz.prog w = .ok (.value (.float .f64 a)) w := by
  rw [run_callFunc_extern Tryz.func51 (by kernel_rfl) (by kernel_rfl) (by kernel_rfl) (e := Extern.MathFloatBits.float64frombits) (by kernel_rfl)]
  rfl

/-- what is left of a Float without its sign -/
def absF (f : Nat) : Nat := f % 9223372036854775808
theorem andNot_abs (f : Nat) (h : f < 18446744073709551616) : bits .andNot .u64 (f : Int) 9223372036854775808 = (absF f : Int) := by
  have h1 := u64_andNot_nat f 9223372036854775808 h (by decide)
  rw [show 18446744073709551615 - 9223372036854775808 = 2 ^ 63 - 1 by decide, Nat.and_two_pow_sub_one_eq_mod] at h1
  exact h1
def infF (f : Nat) : Bool := ltF 9218868437227405311 (absF f)

set_option maxRecDepth 100000 in
theorem abs_calls (f : Nat) (hf : f < 18446744073709551616) (w : World) : Calls Tryz.prog 76 #[.float .f64 f] w (Same w (.float .f64 (absF f))) := by
  have HB := Lib.hid (fun W => bits_calls f W)
  have HF := Lib.hid (fun W => frombits_run (absF f) W)
  have ha := andNot_abs f hf
  clear hf
  generalize absF f = g at *
  go_enter Tryz.func76, Tryz.ntmps76
  go_wp2_with fail
  rw [HB.out, Oper.upon_value]
  go_wp2_with fail
  rw [HF.out, Oper.upon_value]
  go_wp2_with fail
  go_ret
  exact ⟨rfl, rfl⟩

set_option maxRecDepth 100000 in
theorem inf_calls (f : Nat) (hf : f < 18446744073709551616) (w : World) : Calls Tryz.prog 61 #[.float .f64 f, .int .i64 0] w (Same w (.bool (infF f))) := by
  have hg := f64_gtr (absF f) 9218868437227405311
  have HA := Lib.hid (fun W => abs_calls f hf W)
  have HR : Hid (infF f = ltF 9218868437227405311 (absF f)) := Lib.hid rfl
  clear hf
  generalize absF f = g at *
  go_enter Tryz.func61, Tryz.ntmps61
  go_wp2_with (go_at_call 76; refine (HA.out _).mono ?_; rintro e w1 ⟨rfl, rfl⟩)
  go_ret
  exact ⟨by rw [HR.out]; rfl, rfl⟩

end Go.Proofs.YthmdfliimlimhaaGreatDoor
