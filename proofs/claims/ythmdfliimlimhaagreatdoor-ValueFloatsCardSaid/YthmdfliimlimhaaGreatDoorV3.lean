/- The Floats' law, in plain: what the order of values and Go's own orders say of each other. -/
import Derived.Test.YthmdfliimlimhaaGreatDoorV2
namespace Go.Proofs.YthmdfliimlimhaaGreatDoor
open Ieee

theorem signed_zero {s : Bool} {m k : Nat} (h : signed s m k = 0) : m = 0 := by
  have hp : 0 < 2 ^ k := Nat.pow_pos (by decide)
  unfold signed at h
  rw [Nat.shiftLeft_eq] at h
  have h2 : m * 2 ^ k = 0 := by
    generalize m * 2 ^ k = z at h ⊢
    cases s <;> simp at h <;> omega
  rcases Nat.mul_eq_zero.1 h2 with h3 | h3
  · exact h3
  · omega

theorem keyF_zero (f : Nat) (hf : f < 2 ^ 64) (h : keyF f = 0) (hn : nanF f = false) : f = 0 ∨ f = 9223372036854775808 := by
  unfold keyF at h
  unfold nanF at hn
  unfold Format.read at h hn
  have hb : double.binade = 2 ^ 52 := rfl
  have hr : double.infRung = 2047 * 2 ^ 52 := rfl
  have hs : double.signWeight = 2 ^ 63 := rfl
  generalize hg : f % double.signWeight = r at h hn
  dsimp only at h hn
  rw [hb, hr] at h hn
  rw [hs] at hg
  by_cases h1 : r < 2 ^ 52
  · rw [if_pos h1] at h
    have := signed_zero h
    omega
  · rw [if_neg h1] at h hn
    by_cases h2 : r < 2047 * 2 ^ 52
    · rw [if_pos h2] at h
      have := signed_zero h
      omega
    · rw [if_neg h2] at h hn
      by_cases h3 : r = 2047 * 2 ^ 52
      · rw [if_pos h3] at h
        have h0 := top_pos
        simp only [dkey] at h
        split at h <;> omega
      · rw [if_neg h3] at hn
        simp [Datum.isNaN] at hn

theorem floats_cases (a b : Nat) (ha : nanF a = false) (hb : nanF b = false) (hz : ¬ (keyF a = 0 ∧ keyF b = 0)) :
    (floatsO a b = -1 ∧ ltF a b = true ∧ ltF b a = false ∧ eqF a b = false) ∨ (floatsO a b = 0 ∧ ltF a b = false ∧ ltF b a = false ∧ eqF a b = true) ∨ (floatsO a b = 1 ∧ ltF a b = false ∧ ltF b a = true ∧ eqF a b = false) := by
  rw [floatsO_key]
  have k1 : keyO a = 2 * keyF a + (if keyF a = 0 then sgn a else 0) := by simp [keyO, ha]
  have k2 : keyO b = 2 * keyF b + (if keyF b = 0 then sgn b else 0) := by simp [keyO, hb]
  have s1 := sgn_01 a
  have s2 := sgn_01 b
  have hc := cmpI_cases (keyO a) (keyO b)
  simp only [ltF, eqF, ha, hb, Bool.not_false, Bool.true_and, decide_eq_true_eq, decide_eq_false_iff_not]
  split at k1 <;> split at k2 <;> omega

theorem nan_left (f : Nat) (h : nanF f = false) : floatsO 9221120237041090561 f = -1 := by
  rw [floatsO_key]
  have hb := keyF_bound f
  have s1 := sgn_01 f
  have k1 : keyO 9221120237041090561 = -(2 * top) - 2 := by
    unfold keyO
    rw [if_pos (by decide)]
  have k2 : keyO f = 2 * keyF f + (if keyF f = 0 then sgn f else 0) := by simp [keyO, h]
  have hc := cmpI_cases (keyO 9221120237041090561) (keyO f)
  have h0 := top_pos
  split at k2 <;> omega
theorem nan_right (f : Nat) (h : nanF f = false) : floatsO f 9221120237041090561 = 1 := by
  have h1 := nan_left f h
  have h2 := (floatsO_three 9221120237041090561).anti f
  omega
theorem nan_both : floatsO 9221120237041090561 9221120237041090561 = 0 := (floatsO_three 9221120237041090561).self
theorem nan_N0 : nanF 9221120237041090561 = true := by decide
theorem floatsO_zero : floatsO 0 0 = 0 ∧ floatsO 9223372036854775808 9223372036854775808 = 0 ∧ floatsO 0 9223372036854775808 = 1 ∧ floatsO 9223372036854775808 0 = -1 := by
  refine ⟨(floatsO_three 0).self, (floatsO_three 9223372036854775808).self, by decide, by decide⟩

end Go.Proofs.YthmdfliimlimhaaGreatDoor
