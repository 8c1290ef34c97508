/- ValueFloats: contract. -/
import Derived.Test.YthmdfliimlimhaaGreatDoorV3
import Derived.Test.YthmdfliimlimhaaGreatDoorW11
namespace Go.Proofs.YthmdfliimlimhaaGreatDoor
open Go.RowKit

attribute [local go_sem ↓] Go.wp_at_zero Go.wp_at_succ

theorem canonF_not {f : Nat} (h : nanF f = false) : canonF f = f := by simp [canonF, h]
theorem canonF_nan {f : Nat} (h : nanF f = true) : canonF f = 9221120237041090561 := by simp [canonF, h]
theorem ordV_vf (f g : Nat) : ordV (vf f) (vf g) = floatsO f g := by
  simp [ordV, kd, cmpI, pick]
theorem eqV_vf (f g : Nat) : eqV (vf f) (vf g) = eqF2 f g := by
  simp [eqV, kd, pickB]

set_option maxRecDepth 100000 in
set_option maxHeartbeats 1600000 in
theorem bitsOf_calls (f : Nat) (w : World) : Calls Tryz.prog 14 #[.float .f64 f] w (Says w (.int .u64 (canonF f))) := by
  have HC := Lib.hid (fun W => canon_calls f W)
  have HB := Lib.hid (fun W => bits_calls (canonF f) W)
  generalize canonF f = g at *
  go_enter Tryz.func14, Tryz.ntmps14
  go_wp2_with fail
  refine (HC.out _).mono ?_
  rintro e w1 ⟨rfl, rfl⟩
  go_wp2_with fail
  rw [HB.out, Oper.upon_value]
  go_wp2_with fail
  go_ret
  exact ⟨rfl, Below.refl _ _⟩

/-- what the two Floats are to each other: one of thirteen ways -/
def Ways (na nb za zb lt gt q e : Bool) (o b1 b2 : Int) : Prop :=
  (na = true ∧ nb = true ∧ o = 0 ∧ e = true) ∨ (na = true ∧ nb = false ∧ o = -1 ∧ e = false) ∨ (na = false ∧ nb = true ∧ o = 1 ∧ e = false) ∨
  (na = false ∧ nb = false ∧ za = true ∧ zb = true ∧ e = true ∧ b1 = 0 ∧ b2 = 0 ∧ o = 0) ∨ (na = false ∧ nb = false ∧ za = true ∧ zb = true ∧ e = true ∧ b1 = 9223372036854775808 ∧ b2 = 9223372036854775808 ∧ o = 0) ∨
  (na = false ∧ nb = false ∧ za = true ∧ zb = true ∧ e = true ∧ b1 = 0 ∧ b2 = 9223372036854775808 ∧ o = 1) ∨ (na = false ∧ nb = false ∧ za = true ∧ zb = true ∧ e = true ∧ b1 = 9223372036854775808 ∧ b2 = 0 ∧ o = -1) ∨
  (na = false ∧ nb = false ∧ za = false ∧ o = -1 ∧ lt = true ∧ gt = false ∧ q = false ∧ e = false) ∨ (na = false ∧ nb = false ∧ za = false ∧ o = 0 ∧ lt = false ∧ gt = false ∧ q = true ∧ e = true) ∨ (na = false ∧ nb = false ∧ za = false ∧ o = 1 ∧ lt = false ∧ gt = true ∧ q = false ∧ e = false) ∨
  (na = false ∧ nb = false ∧ za = true ∧ zb = false ∧ o = -1 ∧ lt = true ∧ gt = false ∧ q = false ∧ e = false) ∨ (na = false ∧ nb = false ∧ za = true ∧ zb = false ∧ o = 0 ∧ lt = false ∧ gt = false ∧ q = true ∧ e = true) ∨ (na = false ∧ nb = false ∧ za = true ∧ zb = false ∧ o = 1 ∧ lt = false ∧ gt = true ∧ q = false ∧ e = false)

theorem ways_of (a b : Nat) (ha : a < 2 ^ 64) (hb : b < 2 ^ 64) : Ways (nanF a) (nanF b) (eqF a 0) (eqF b 0) (ltF a b) (ltF b a) (eqF a b) (eqF2 (canonF a) (canonF b)) (floatsO (canonF a) (canonF b)) (canonF a) (canonF b) := by
  unfold Ways
  cases h1 : nanF a <;> cases h2 : nanF b
  · rw [canonF_not h1, canonF_not h2]
    have e2 : eqF2 a b = eqF a b := by simp [eqF2, h1]
    rw [e2]
    have z1 : eqF a 0 = decide (keyF a = 0) := by rw [eqF_zero, h1]; simp
    have z2 : eqF b 0 = decide (keyF b = 0) := by rw [eqF_zero, h2]; simp
    by_cases hz : keyF a = 0 ∧ keyF b = 0
    · obtain ⟨k1, k2⟩ := hz
      have q : eqF a b = true := by simp [eqF, h1, h2, k1, k2]
      obtain ⟨f1, f2, f3, f4⟩ := floatsO_zero
      rw [z1, z2, q]
      rcases keyF_zero a ha k1 h1 with rfl | rfl <;> rcases keyF_zero b hb k2 h2 with rfl | rfl <;> simp [k1, k2, f1, f2, f3, f4]
    · have hc := floats_cases a b h1 h2 hz
      rw [z1, z2]
      by_cases k1 : keyF a = 0
      · have k2 : ¬ keyF b = 0 := fun k2 => hz ⟨k1, k2⟩
        rcases hc with ⟨c1, c2, c3, c4⟩ | ⟨c1, c2, c3, c4⟩ | ⟨c1, c2, c3, c4⟩ <;> simp [k1, k2, c1, c2, c3, c4]
      · rcases hc with ⟨c1, c2, c3, c4⟩ | ⟨c1, c2, c3, c4⟩ | ⟨c1, c2, c3, c4⟩ <;> simp [k1, c1, c2, c3, c4]
  · rw [canonF_not h1, canonF_nan h2]
    have e2 : eqF2 a 9221120237041090561 = false := by simp [eqF2, eqF, h1, nan_N0]
    simp [e2, nan_right a h1]
  · rw [canonF_nan h1, canonF_not h2]
    have e2 : eqF2 9221120237041090561 b = false := by simp [eqF2, eqF, h2, nan_N0]
    simp [e2, nan_left b h2]
  · rw [canonF_nan h1, canonF_nan h2]
    have e2 : eqF2 9221120237041090561 9221120237041090561 = true := by simp [eqF2, nan_N0]
    simp [e2, nan_both]

theorem canonF_lt {f : Nat} (h : f < 2 ^ 64) : canonF f < 2 ^ 64 := by
  unfold canonF
  split
  · decide
  · exact h

abbrev Boxes2 (p q x y : Nat) (w : World) : Prop :=
  (w.cell? ⟨p, 0, none⟩ = some (.int .i64 2) ∧ w.cell? ⟨p, 1, none⟩ = some (.int .i64 0) ∧ w.cell? ⟨p, 2, none⟩ = some (.float .f64 x) ∧ w.cell? ⟨p, 3, none⟩ = some (.string ⟨#[]⟩) ∧ w.cell? ⟨p, 4, none⟩ = some (.slice none 0 0)) ∧ (w.cell? ⟨q, 0, none⟩ = some (.int .i64 2) ∧ w.cell? ⟨q, 1, none⟩ = some (.int .i64 0) ∧ w.cell? ⟨q, 2, none⟩ = some (.float .f64 y) ∧ w.cell? ⟨q, 3, none⟩ = some (.string ⟨#[]⟩) ∧ w.cell? ⟨q, 4, none⟩ = some (.slice none 0 0))

set_option maxRecDepth 100000 in
set_option maxHeartbeats 6400000 in
theorem vfloats_calls (a b : Nat) (w : World) (hG : Globs w) (ha : a < 2 ^ 64) (hb : b < 2 ^ 64) : Calls Tryz.prog 4 #[.float .f64 a, .float .f64 b] w (Says w (.bool true)) := by
  have hst := run_store_f64
  have HK := Lib.hid (known_calls w hG)
  have H1 := Lib.hid (fun W => mkFloat_calls a W)
  have H2 := Lib.hid (fun W => mkFloat_calls b W)
  have hW := ways_of a b ha hb
  have hca := canonF_lt ha
  have hcb := canonF_lt hb
  have n1 : ((FloatKind.format .f64).order a a != some .eq) = nanF a := by rw [f64_neq, eqF_self]; simp
  have n2 : ((FloatKind.format .f64).order b b != some .eq) = nanF b := by rw [f64_neq, eqF_self]; simp
  have z1 := f64_eql a 0
  have z2 := f64_eql b 0
  have l1 := f64_lss a b
  have g1 := f64_gtr a b
  have q1 := f64_eql a b
  have HO0 := fun W => order_calls (vf (canonF a)) (vf (canonF b)) _ _ W (leaf_at W _ 2 0 (canonF a) ⟨#[]⟩ (by decide) hca) (leaf_at W _ 2 0 (canonF b) ⟨#[]⟩ (by decide) hcb)
  have HE0 := fun W => equal_calls (vf (canonF a)) (vf (canonF b)) _ _ W (leaf_at W _ 2 0 (canonF a) ⟨#[]⟩ (by decide) hca) (leaf_at W _ 2 0 (canonF b) ⟨#[]⟩ (by decide) hcb)
  have HB10 := fun W => bitsOf_calls a W
  have HB20 := fun W => bitsOf_calls b W
  rw [ordV_vf] at HO0
  rw [eqV_vf] at HE0
  clear ha hb hca hcb
  generalize nanF a = na at *
  generalize nanF b = nb at *
  generalize eqF a 0 = za at *
  generalize eqF b 0 = zb at *
  generalize ltF a b = lt at *
  generalize ltF b a = gt at *
  generalize eqF a b = q at *
  generalize eqF2 (canonF a) (canonF b) = ev at *
  generalize floatsO (canonF a) (canonF b) = o at *
  generalize hca : canonF a = ca at *
  generalize hcb : canonF b = cb at *
  clear hca hcb
  have HW := Lib.hid hW
  have N1 := Lib.hid n1
  have N2 := Lib.hid n2
  have Z1 := Lib.hid z1
  have Z2 := Lib.hid z2
  have L1 := Lib.hid l1
  have G1 := Lib.hid g1
  have Q1 := Lib.hid q1
  clear hW n1 n2 z1 z2 l1 g1 q1
  go_enter Tryz.func4, Tryz.ntmps4
  go_wp2_with fail
  refine HK.out.mono ?_
  rintro e w1 ⟨rfl, hb1⟩
  go_wp2_with fail
  refine (H1.out _).mono ?_
  rintro e w2 ⟨rfl, hb2⟩
  go_wp2_with fail
  refine (H2.out _).mono ?_
  rintro e w3 ⟨rfl, hb3⟩
  go_wp2_with fail
  obtain ⟨wC, hwC⟩ : ∃ wC, wC = (w3.alloc (.cells (vcells 2 0 ca ⟨#[]⟩ none 0 0) 25)).alloc (.cells (vcells 2 0 cb ⟨#[]⟩ none 0 0) 25) := ⟨_, rfl⟩
  rw [← hwC]
  have hb13 := (hb1.trans (hb2.mono hb1.size)).trans (hb3.mono (hb1.trans (hb2.mono hb1.size)).size)
  have hbC : Below w.heap.size w wC := hwC ▸ (hb13.alloc hb13.size _).alloc (by have := hb13.size; simp; omega) _
  have hP1 : Blk wC w3.heap.size 25 (vcells 2 0 ca ⟨#[]⟩ none 0 0) := hwC ▸ (Blk.new w3 25 _).alloc _
  have hP2 : Blk wC (w3.heap.size + 1) 25 (vcells 2 0 cb ⟨#[]⟩ none 0 0) := by
    have := Blk.new (w3.alloc (.cells (vcells 2 0 ca ⟨#[]⟩ none 0 0) 25)) 25 (vcells 2 0 cb ⟨#[]⟩ none 0 0)
    rw [hwC]
    simpa using this
  generalize w3.heap.size = p at *
  generalize hp1 : p + 1 = r at *
  have keep : ∀ W, Below wC.heap.size wC W → Boxes2 p r ca cb W := fun W hb => ⟨(hP1.below hb hP1.lt).five, (hP2.below hb hP2.lt).five⟩
  have lift : ∀ {N : Nat} {args : Array Value} {W : World} {v : Value}, Calls Tryz.prog N args W (Says W v) → Below wC.heap.size wC W → Calls Tryz.prog N args W (fun e w' => e = .returned v ∧ Below wC.heap.size wC w' ∧ Boxes2 p r ca cb w') :=
    fun h hb => h.mono fun e w' ⟨h1, h2⟩ => ⟨h1, hb.trans (h2.mono hb.size), keep _ (hb.trans (h2.mono hb.size))⟩
  have HO := Lib.hid (fun W hb => lift (HO0 W) hb)
  have HE := Lib.hid (fun W hb => lift (HE0 W) hb)
  have HB1 := Lib.hid (fun W hb => lift (HB10 W) hb)
  have HB2 := Lib.hid (fun W hb => lift (HB20 W) hb)
  have hb := Below.refl wC.heap.size wC
  obtain ⟨⟨a0, a1, a2, a3, a4⟩, b0, b1, b2, b3, b4⟩ := keep _ hb
  have HU : Hid (∀ W, Below wC.heap.size wC W → Below w.heap.size w W) := Lib.hid (fun W hb => hbC.trans (hb.mono hbC.size))
  clear hst HK H1 H2 hwC hb13 hbC hP1 hP2 keep lift HO0 HE0 HB10 HB20 hb1 hb2 hb3 hp1
  have n1 := N1.out
  have n2 := N2.out
  have z1 := Z1.out
  have z2 := Z2.out
  have l1 := L1.out
  have g1 := G1.out
  have q1 := Q1.out
  have hW := HW.out
  clear N1 N2 Z1 Z2 L1 G1 Q1 HW
  unfold Ways at hW
  generalize hc1 : (ca : Int) = b1v at HB1 hW
  generalize hc2 : (cb : Int) = b2v at HB2 hW
  clear hc1 hc2
  rcases hW with ⟨rfl, rfl, rfl, rfl⟩ | ⟨rfl, rfl, rfl, rfl⟩ | ⟨rfl, rfl, rfl, rfl⟩ | ⟨rfl, rfl, rfl, rfl, rfl, rfl, rfl, rfl⟩ | ⟨rfl, rfl, rfl, rfl, rfl, rfl, rfl, rfl⟩ | ⟨rfl, rfl, rfl, rfl, rfl, rfl, rfl, rfl⟩ | ⟨rfl, rfl, rfl, rfl, rfl, rfl, rfl, rfl⟩ | ⟨rfl, rfl, rfl, rfl, rfl, rfl, rfl, rfl⟩ | ⟨rfl, rfl, rfl, rfl, rfl, rfl, rfl, rfl⟩ | ⟨rfl, rfl, rfl, rfl, rfl, rfl, rfl, rfl⟩ | ⟨rfl, rfl, rfl, rfl, rfl, rfl, rfl, rfl, rfl⟩ | ⟨rfl, rfl, rfl, rfl, rfl, rfl, rfl, rfl, rfl⟩ | ⟨rfl, rfl, rfl, rfl, rfl, rfl, rfl, rfl, rfl⟩
  all_goals (
    go_wp2_with (first
    | (go_at_call 11; (with_reducible refine (HO.out _ ?_).mono ?_); (first | exact hb | exact hb.drew); clear hb a0 a1 a2 a3 a4 b0 b1 b2 b3 b4; rintro e w5 ⟨rfl, hb, ⟨a0, a1, a2, a3, a4⟩, b0, b1, b2, b3, b4⟩)
    | (go_at_call 13; (with_reducible refine (HE.out _ ?_).mono ?_); (first | exact hb | exact hb.drew); clear hb a0 a1 a2 a3 a4 b0 b1 b2 b3 b4; rintro e w6 ⟨rfl, hb, ⟨a0, a1, a2, a3, a4⟩, b0, b1, b2, b3, b4⟩)
    | (go_at_call 14; (with_reducible refine (HB1.out _ ?_).mono ?_); (first | exact hb | exact hb.drew); clear hb a0 a1 a2 a3 a4 b0 b1 b2 b3 b4; rintro e w7 ⟨rfl, hb, ⟨a0, a1, a2, a3, a4⟩, b0, b1, b2, b3, b4⟩)
    | (go_at_call 14; (with_reducible refine (HB2.out _ ?_).mono ?_); (first | exact hb | exact hb.drew); clear hb a0 a1 a2 a3 a4 b0 b1 b2 b3 b4; rintro e w8 ⟨rfl, hb, ⟨a0, a1, a2, a3, a4⟩, b0, b1, b2, b3, b4⟩))
    go_ret
    exact ⟨rfl, HU.out _ hb⟩)

end Go.Proofs.YthmdfliimlimhaaGreatDoor
