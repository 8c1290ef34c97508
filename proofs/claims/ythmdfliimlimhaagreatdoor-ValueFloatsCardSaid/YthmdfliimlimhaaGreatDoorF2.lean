/- Shortest decimals of a Float: scaling: contract. -/
import Derived.Test.YthmdfliimlimhaaGreatDoorF1
namespace Go.Proofs.YthmdfliimlimhaaGreatDoor
open Go.RowKit

attribute [local go_sem ↓] Go.wp_at_zero Go.wp_at_succ

def M64 : Nat := 18446744073709551616
def lo1 (mid mid2 : Nat) : Nat := if 1 < (mid + (M64 - mid2)) % M64 then 1 else 0
def uscH (hi mid mid2 T : Nat) : Nat := if hi / T * T = hi then ((hi - (if mid < mid2 then 1 else 0)) / T) ||| lo1 mid mid2 else (hi / T) ||| 1
/-- scaling -/
def usc (x H L T : Nat) : Nat := uscH (x * H / M64) (x * H % M64) (x * L / M64) T

theorem and63 (s : Nat) (hs : s ≤ 63) : bits .and .i64 (s : Int) 63 = s := by
  have : ∀ k : Nat, k < 64 → bits .and .i64 (k : Int) 63 = k := by decide
  exact this s (by omega)

theorem div_pow (h s T : Nat) (hT : T = 2 ^ s) : (h : Int) / 2 ^ s = ((h / T : Nat) : Int) := by subst hT; simp
theorem wrap_back (h s T : Nat) (hT : T = 2 ^ s) (hh : h < 18446744073709551616) : IntKind.u64.wrap ((h : Int) / 2 ^ s * 2 ^ s) = ((h / T * T : Nat) : Int) := by
  have h1 : h / T * T ≤ h := Nat.div_mul_le_self h T
  have e : (h : Int) / 2 ^ s * 2 ^ s = ((h / T * T : Nat) : Int) := by subst hT; simp
  rw [e, IntKind.wrap_u64]
  omega
theorem or_pow (h s T b : Nat) (hT : T = 2 ^ s) (hh : h < 18446744073709551616) (hb : b < 2) : bits .or .u64 ((h : Int) / 2 ^ s) (b : Int) = ((h / T ||| b : Nat) : Int) := by
  rw [div_pow h s T hT]
  exact bits_or_u64_nat _ _ (Nat.lt_of_le_of_lt (Nat.div_le_self _ _) hh) (by omega)

theorem b2_true (w : World) : Calls Tryz.prog 141 #[.bool true] w (Same w (.int .u64 1)) := b2_calls true w
theorem b2_false (w : World) : Calls Tryz.prog 141 #[.bool false] w (Same w (.int .u64 0)) := b2_calls false w

set_option maxRecDepth 100000 in
set_option maxHeartbeats 3200000 in
theorem uscale_at (x H L s g hi mid mid2 r T : Nat) (hT : T = 2 ^ s) (hs : s ≤ 63)
    (h1 : ∀ W, Calls Tryz.prog 140 #[.int .u64 x, .int .u64 H] W (Same W (.tuple #[.int .u64 hi, .int .u64 mid])))
    (h2 : ∀ W, Calls Tryz.prog 140 #[.int .u64 x, .int .u64 L] W (Same W (.tuple #[.int .u64 mid2, .int .u64 r])))
    (b1 : hi < 18446744073709551616) (b0 : 1 ≤ hi) (b2 : mid < 18446744073709551616) (b3 : mid2 < 18446744073709551616) (w : World)
    (c0 : w.cell? ⟨g, 0, none⟩ = some (.int .u64 H)) (c1 : w.cell? ⟨g, 1, none⟩ = some (.int .u64 L)) (c2 : w.cell? ⟨g, 2, none⟩ = some (.int .i64 s)) :
    Calls Tryz.prog 122 #[.int .u64 x, .pointer (some ⟨g, 0, none⟩)] w fun e w' => e = .returned (.int .u64 (uscH hi mid mid2 T : Nat)) ∧ ∃ k, w' = w.drewN k := by
  have hand := and63 s hs
  have H1 := Lib.hid h1
  have H2 := Lib.hid h2
  have d1 : (hi : Int) ≤ 18446744073709551615 := by omega
  have d2 : (mid : Int) ≤ 18446744073709551615 := by omega
  have d3 : (mid2 : Int) ≤ 18446744073709551615 := by omega
  have hwb := wrap_back hi s T hT b1
  have hor1 := fun (b : Nat) => or_pow hi s T b hT b1
  have hor2 := fun (b : Nat) => or_pow (hi - 1) s T b hT (by omega)
  have hsub : ((hi - 1 : Nat) : Int) = (hi : Int) - 1 := by omega
  rw [hsub] at hor2
  have hq : IntKind.u64.wrap ((mid : Int) - (mid2 : Int)) = (((mid + (M64 - mid2)) % M64 : Nat) : Int) := by rw [IntKind.wrap_u64]; unfold M64; omega
  have HU : Hid (uscH hi mid mid2 T = if hi / T * T = hi then ((hi - (if mid < mid2 then 1 else 0)) / T) ||| (if 1 < (mid + (M64 - mid2)) % M64 then 1 else 0) else (hi / T) ||| 1) := Lib.hid rfl
  generalize (mid + (M64 - mid2)) % M64 = q at *
  by_cases hc : hi / T * T = hi
  · have hne : (IntKind.u64.wrap ((hi : Int) / 2 ^ s * 2 ^ s) != (hi : Int)) = false := by rw [hwb, hc]; simp
    by_cases hm : mid < mid2
    · by_cases hg : 1 < q
      · have HR := Lib.hid (show bits .or .u64 (((hi : Int) - 1) / 2 ^ s) 1 = ((uscH hi mid mid2 T : Nat) : Int) by rw [HU.out, if_pos hc, if_pos hm, if_pos hg]; exact hor2 1 (by omega))
        clear hor1 hor2 hwb h1 h2 hsub b1 b2 b3 hc hT
        go_enter Tryz.func122, Tryz.ntmps122
        go_wp2_with fail
        refine (H1.out _).mono ?_
        rintro e w' ⟨rfl, rfl⟩
        go_wp2_with fail
        refine (H2.out _).mono ?_
        rintro e w' ⟨rfl, rfl⟩
        go_wp2_with (go_at_call 141; refine (b2_true _).mono ?_; rintro e w' ⟨rfl, rfl⟩)
        go_quiet ((go_at_call 141; exact Calls.quiet_of_same ((b2_calls _ _).mono fun _ _ ⟨a, b⟩ => ⟨a, b.symm⟩)))
        go_wp2_with fail
        all_goals first
          | (exfalso; simp only [decide_eq_true_eq] at *; omega)
          | (go_ret; exact ⟨(congrArg Ending.returned rfl).trans (ret_u64 HR.out), _, rfl⟩)
      · have HR := Lib.hid (show bits .or .u64 (((hi : Int) - 1) / 2 ^ s) 0 = ((uscH hi mid mid2 T : Nat) : Int) by rw [HU.out, if_pos hc, if_pos hm, if_neg hg]; exact hor2 0 (by omega))
        clear hor1 hor2 hwb h1 h2 hsub b1 b2 b3 hc hT
        go_enter Tryz.func122, Tryz.ntmps122
        go_wp2_with fail
        refine (H1.out _).mono ?_
        rintro e w' ⟨rfl, rfl⟩
        go_wp2_with fail
        refine (H2.out _).mono ?_
        rintro e w' ⟨rfl, rfl⟩
        go_wp2_with (go_at_call 141; refine (b2_true _).mono ?_; rintro e w' ⟨rfl, rfl⟩)
        go_quiet ((go_at_call 141; exact Calls.quiet_of_same ((b2_calls _ _).mono fun _ _ ⟨a, b⟩ => ⟨a, b.symm⟩)))
        go_wp2_with fail
        all_goals first
          | (exfalso; simp only [decide_eq_true_eq] at *; omega)
          | (go_ret; exact ⟨(congrArg Ending.returned rfl).trans (ret_u64 HR.out), _, rfl⟩)
    · by_cases hg : 1 < q
      · have HR := Lib.hid (show bits .or .u64 ((hi : Int) / 2 ^ s) 1 = ((uscH hi mid mid2 T : Nat) : Int) by rw [HU.out, if_pos hc, if_neg hm, if_pos hg]; exact hor1 1 (by omega))
        clear hor1 hor2 hwb h1 h2 hsub b1 b2 b3 hc hT
        go_enter Tryz.func122, Tryz.ntmps122
        go_wp2_with fail
        refine (H1.out _).mono ?_
        rintro e w' ⟨rfl, rfl⟩
        go_wp2_with fail
        refine (H2.out _).mono ?_
        rintro e w' ⟨rfl, rfl⟩
        go_wp2_with (go_at_call 141; refine (b2_false _).mono ?_; rintro e w' ⟨rfl, rfl⟩)
        go_quiet ((go_at_call 141; exact Calls.quiet_of_same ((b2_calls _ _).mono fun _ _ ⟨a, b⟩ => ⟨a, b.symm⟩)))
        go_wp2_with fail
        all_goals first
          | (exfalso; simp only [decide_eq_true_eq] at *; omega)
          | (go_ret; exact ⟨(congrArg Ending.returned rfl).trans (ret_u64 HR.out), _, rfl⟩)
      · have HR := Lib.hid (show bits .or .u64 ((hi : Int) / 2 ^ s) 0 = ((uscH hi mid mid2 T : Nat) : Int) by rw [HU.out, if_pos hc, if_neg hm, if_neg hg]; exact hor1 0 (by omega))
        clear hor1 hor2 hwb h1 h2 hsub b1 b2 b3 hc hT
        go_enter Tryz.func122, Tryz.ntmps122
        go_wp2_with fail
        refine (H1.out _).mono ?_
        rintro e w' ⟨rfl, rfl⟩
        go_wp2_with fail
        refine (H2.out _).mono ?_
        rintro e w' ⟨rfl, rfl⟩
        go_wp2_with (go_at_call 141; refine (b2_false _).mono ?_; rintro e w' ⟨rfl, rfl⟩)
        go_quiet ((go_at_call 141; exact Calls.quiet_of_same ((b2_calls _ _).mono fun _ _ ⟨a, b⟩ => ⟨a, b.symm⟩)))
        go_wp2_with fail
        all_goals first
          | (exfalso; simp only [decide_eq_true_eq] at *; omega)
          | (go_ret; exact ⟨(congrArg Ending.returned rfl).trans (ret_u64 HR.out), _, rfl⟩)
  · have hne : (IntKind.u64.wrap ((hi : Int) / 2 ^ s * 2 ^ s) != (hi : Int)) = true := by rw [hwb]; simp; intro e; exact hc (by exact_mod_cast e)
    have HR := Lib.hid (show bits .or .u64 ((hi : Int) / 2 ^ s) 1 = ((uscH hi mid mid2 T : Nat) : Int) by rw [HU.out, if_neg hc]; exact hor1 1 (by omega))
    clear hor1 hor2 hwb h1 h2 hsub b1 b2 b3 hc hT
    go_enter Tryz.func122, Tryz.ntmps122
    go_wp2_with fail
    refine (H1.out _).mono ?_
    rintro e w' ⟨rfl, rfl⟩
    go_wp2_with fail
    go_ret
    exact ⟨ret_u64 HR.out, 0, rfl⟩

end Go.Proofs.YthmdfliimlimhaaGreatDoor
