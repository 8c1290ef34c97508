/- Shortest decimals of a Float: shortFloat: contract. -/
import Derived.Test.YthmdfliimlimhaaGreatDoorF2
namespace Go.Proofs.YthmdfliimlimhaaGreatDoor
open Go.RowKit

attribute [local go_sem ↓] Go.wp_at_zero Go.wp_at_succ

theorem uscH_lt (hi mid mid2 T : Nat) (h : hi < 18446744073709551616) (hT : 4 ≤ T) : uscH hi mid mid2 T < 2 ^ 62 := by
  have h2 : ∀ x, x ≤ hi → x / T < 2 ^ 62 := fun x hx => by
    have : x / T ≤ x / 4 := Nat.div_le_div_left hT (by decide)
    omega
  have h3 : lo1 mid mid2 < 2 ^ 62 := by unfold lo1; split <;> decide
  unfold uscH
  split
  · exact Nat.or_lt_two_pow (h2 _ (Nat.sub_le _ _)) h3
  · exact Nat.or_lt_two_pow (h2 _ (Nat.le_refl _)) (by decide)
theorem uscH_pos (hi mid mid2 T : Nat) (h : 1 ≤ hi) (hT : 1 ≤ T) (hm : mid < M64) (hm2 : mid2 + 1 < M64) : 1 ≤ uscH hi mid mid2 T := by
  unfold uscH
  split
  · rename_i hc
    have hq : 1 ≤ hi / T := by
      rcases Nat.eq_zero_or_pos (hi / T) with h0 | h0
      · rw [h0] at hc; omega
      · exact h0
    have hTh : T ≤ hi := by
      have := Nat.div_mul_le_self hi T
      have := Nat.mul_le_mul_right T hq
      omega
    by_cases hlt : mid < mid2
    · rw [if_pos hlt]
      have h1 : lo1 mid mid2 = 1 := by
        unfold lo1
        rw [if_pos]
        rw [Nat.mod_eq_of_lt (by omega)]
        omega
      rw [h1]
      exact Nat.le_trans (by decide) (Nat.right_le_or)
    · rw [if_neg hlt, Nat.sub_zero]
      exact Nat.le_trans hq Nat.left_le_or
  · exact Nat.le_trans (by decide) (Nat.right_le_or)

theorem mulhi_lt (x y : Nat) (hx : x < 18446744073709551616) (hy : y < 18446744073709551616) : x * y / 18446744073709551616 + 1 < 18446744073709551616 := by
  have h : x * y ≤ 18446744073709551615 * 18446744073709551615 := Nat.mul_le_mul (by omega) (by omega)
  omega

theorem uscale_calls (x H L s g : Nat) (w : World) (hx : x < 18446744073709551616) (hH : H < 18446744073709551616) (hL : L < 18446744073709551616) (hs : s ≤ 63) (hhi : 1 ≤ x * H / M64)
    (c0 : w.cell? ⟨g, 0, none⟩ = some (.int .u64 H)) (c1 : w.cell? ⟨g, 1, none⟩ = some (.int .u64 L)) (c2 : w.cell? ⟨g, 2, none⟩ = some (.int .i64 s)) :
    Calls Tryz.prog 122 #[.int .u64 x, .pointer (some ⟨g, 0, none⟩)] w fun e w' => e = .returned (.int .u64 (usc x H L (2 ^ s) : Nat)) ∧ ∃ k, w' = w.drewN k :=
  uscale_at x H L s g (x * H / M64) (x * H % M64) (x * L / M64) (x * L % M64) (2 ^ s) rfl hs
    (fun W => (Tryz.bits_Mul64 x H hx hH W).mono fun _ _ ⟨a, b⟩ => ⟨a, b.symm⟩) (fun W => (Tryz.bits_Mul64 x L hx hL W).mono fun _ _ ⟨a, b⟩ => ⟨a, b.symm⟩)
    (by have := mulhi_lt x H hx hH; unfold M64; omega) hhi (Nat.mod_lt _ (by decide)) (by have := mulhi_lt x L hx hL; unfold M64; omega) w c0 c1 c2

/-- the digits and the power, out of the bounds and the scale -/
def sfOut (lo m hi odd i s : Nat) (p : Int) : Nat × Int :=
  let dmin := (usc lo (P10 i).1 (P10 i).2 (2 ^ s) + odd + 3) / 4
  let dmax := (usc hi (P10 i).1 (P10 i).2 (2 ^ s) - odd) / 4
  if dmin ≤ dmax / 10 * 10 then (dmax / 10, -(p - 1)) else if dmin < dmax then (roundU (usc m (P10 i).1 (P10 i).2 (2 ^ s)), -p) else (dmin, -p)

theorem nudge0_calls (u : Nat) (w : World) (h : u < 2 ^ 63) (h2 : 1 ≤ u) : Calls Tryz.prog 123 #[.int .u64 u, .int .i64 0] w (Same w (.int .u64 u)) := by
  have := nudge_calls u 0 w h h2 (by omega) (by omega)
  rw [show ((u : Int) + 0).toNat = u by omega] at this
  exact this

theorem drewn_below {B : Nat} {w w1 : World} (h : Below B w w1) (k : Nat) : Below B w (w1.drewN k) := ⟨h.os, h.tape, h.output, h.size, h.block⟩

/-- what the digits are, out of the three scaled numbers -/
def sfPick (A B C odd : Nat) (p : Int) : Nat × Int :=
  if (A + odd + 3) / 4 ≤ (B - odd) / 4 / 10 * 10 then ((B - odd) / 4 / 10, -(p - 1)) else if (A + odd + 3) / 4 < (B - odd) / 4 then (roundU C, -p) else ((A + odd + 3) / 4, -p)

set_option maxRecDepth 100000 in
set_option maxHeartbeats 3200000 in
/-- a power of two -/
theorem short_a (e K Lp : Int) (i s A B C : Nat) (w : World) (he : -1085 < e) (he2 : e ≤ 1000) (hi : i < 696) (hK : skew (e + 11) = K) (hP : -K = (i : Int) - 348) (hLp : l2 (-K) = Lp) (hs : -(e + Lp + 3) = (s : Int)) (hs2 : 2 ≤ s) (hs3 : s ≤ 61)
    (hl : -5000 ≤ Lp) (hl2 : Lp ≤ 5000)
    (hT : PowAt w) (hH : (P10 i).1 < 18446744073709551616) (hL : (P10 i).2 < 18446744073709551616) (hH2 : 9223372036854775808 ≤ (P10 i).1) (hbig : 14 ≤ w.heap.size)
    (hA : usc 9223372036854775296 (P10 i).1 (P10 i).2 (2 ^ s) = A) (hB : usc 9223372036854776832 (P10 i).1 (P10 i).2 (2 ^ s) = B) (hC : usc 9223372036854775808 (P10 i).1 (P10 i).2 (2 ^ s) = C)
    (hA1 : 1 ≤ A) (hA2 : A < 4611686018427387904) (hB1 : 1 ≤ B) (hB2 : B < 4611686018427387904) (hC2 : C < 4611686018427387904) (d : Nat) (q : Int)
    (hout : sfPick A B C 0 (-K) = (d, q)) :
    Calls Tryz.prog 104 #[.int .u64 9223372036854775808, .int .i64 e] w fun ee w' => ee = .returned (.tuple #[.int .u64 d, .int .i64 q]) ∧ Below w.heap.size w w' := by
  have HT := Lib.hid hT
  have hB0 := Lib.hid (Blk.new w 130 #[.int .u64 0, .int .u64 0, .int .i64 0])
  have hT0 : PowAt (w.alloc (.cells #[.int .u64 0, .int .u64 0, .int .i64 0] 130)) := fun j hj => ⟨(World.cell?_alloc_lt w _ ⟨13, j * 2, none⟩ (by show 13 < _; omega)).trans (hT j hj).1, (World.cell?_alloc_lt w _ ⟨13, j * 2 + 1, none⟩ (by show 13 < _; omega)).trans (hT j hj).2⟩
  have HP := Lib.hid (prescale_calls w.heap.size _ _ _ e Lp i (-K) _ hi hP (by omega) (by omega) hl hl2 hT0 hB0.out hbig)
  have HSK := Lib.hid (fun W => hK ▸ skew_calls (e + 11) W (by omega) (by omega))
  have HL2 := Lib.hid (fun W => hLp ▸ l2_calls (-K) W (by omega) (by omega))
  have HS := Lib.hid hs
  have hbA : 1 ≤ 9223372036854775296 * (P10 i).1 / M64 := by unfold M64; omega
  have hbB : 1 ≤ 9223372036854776832 * (P10 i).1 / M64 := by unfold M64; omega
  have hbC : 1 ≤ 9223372036854775808 * (P10 i).1 / M64 := by unfold M64; omega
  have HUA := Lib.hid (fun W g c0 c1 c2 => hA ▸ uscale_calls 9223372036854775296 _ _ s g W (by decide) hH hL (by omega) hbA c0 c1 c2)
  have HUB := Lib.hid (fun W g c0 c1 c2 => hB ▸ uscale_calls 9223372036854776832 _ _ s g W (by decide) hH hL (by omega) hbB c0 c1 c2)
  have HUC := Lib.hid (fun W g c0 c1 c2 => hC ▸ uscale_calls 9223372036854775808 _ _ s g W (by decide) hH hL (by omega) hbC c0 c1 c2)
  have HNA := Lib.hid (fun W => nudge0_calls A W (by omega) hA1)
  have HNB := Lib.hid (fun W => nudge0_calls B W (by omega) hB1)
  have HCE := Lib.hid (fun W => ceil_calls A W (by omega))
  have HFL := Lib.hid (fun W => floor_calls B W (by omega))
  have HRO := Lib.hid (fun W => round_calls C W (by omega))
  unfold sfPick at hout
  simp only [Nat.add_zero, Nat.sub_zero] at hout
  have hDM : (A + 3) / 4 < 4611686018427387904 := by omega
  have hDX : B / 4 < 4611686018427387904 := by omega
  have hRC : roundU C < 4611686018427387904 := by unfold roundU; omega
  generalize (A + 3) / 4 = DM at *
  generalize B / 4 = DX at *
  generalize roundU C = RC at *
  have hand0 : bits .and .i64 4503599627370496 1 = 0 := by kernel_rfl
  have HPP := Lib.hid hP
  have hk1 : -348 ≤ K := by omega
  have hk2 : K ≤ 348 := by omega
  clear hT hT0 hK hLp hA hB hC hbA hbB hbC hs hH hL hH2 hP
  generalize (P10 i).1 = X at *
  generalize (P10 i).2 = Y at *
  by_cases c1 : DM ≤ DX / 10 * 10
  · rw [if_pos c1] at hout
    obtain ⟨rfl, rfl⟩ : DX / 10 = d ∧ -(-K - 1) = q := by simpa using hout
    clear hout
    go_enter Tryz.func104, Tryz.ntmps104
    go_wp2_with fail
    refine (HSK.out _).mono ?_
    rintro ee w1 ⟨rfl, rfl⟩
    go_wp2_with fail
    refine (HL2.out _).mono ?_
    rintro ee w1 ⟨rfl, rfl⟩
    go_wp2_with fail
    refine HP.out.mono ?_
    rintro ee w1 ⟨rfl, hw1⟩
    have hB1' : Blk w1 w.heap.size 130 #[.int .u64 X, .int .u64 Y, .int .i64 s] := by
      rw [hw1, HS.out]
      exact ((hB0.out.set_ 0 _).set_ 1 _).set_ 2 _
    have hb1 : Below w.heap.size w w1 := by
      rw [hw1]
      exact ((((Below.refl _ w).alloc (Nat.le_refl _) _).setCell (p := ⟨w.heap.size, 0, none⟩) (Nat.le_refl _) _).setCell (p := ⟨w.heap.size, 1, none⟩) (Nat.le_refl _) _).setCell (p := ⟨w.heap.size, 2, none⟩) (Nat.le_refl _) _
    have HB := Lib.hid hb1
    have HBk := Lib.hid hB1'
    clear hw1 hb1 hB1'
    go_wp2_with fail
    refine (HUA.out _ _ (HBk.out.cell 0) (HBk.out.cell 1) (HBk.out.cell 2)).mono ?_
    rintro ee w2 ⟨rfl, k2, rfl⟩
    go_wp2_with (first
      | (go_at_call 123; refine (HNA.out _).mono ?_; rintro ee w3 ⟨rfl, rfl⟩)
      | (go_at_call 124; refine (HCE.out _).mono ?_; rintro ee w3 ⟨rfl, rfl⟩))
    refine (HUB.out (w1.drewN k2) _ ((HBk.out.drewN k2).cell 0) ((HBk.out.drewN k2).cell 1) ((HBk.out.drewN k2).cell 2)).mono ?_
    rintro ee w4 ⟨rfl, k4, rfl⟩
    go_wp2_with (first
      | (go_at_call 123; refine (HNB.out _).mono ?_; rintro ee w3 ⟨rfl, rfl⟩)
      | (go_at_call 125; refine (HFL.out _).mono ?_; rintro ee w3 ⟨rfl, rfl⟩))
    go_ret2
    refine ⟨rfl, ?_⟩
    exact drewn_below HB.out _
  · rw [if_neg c1] at hout
    by_cases c2 : DM < DX
    · rw [if_pos c2] at hout
      obtain ⟨e1, e2⟩ : RC = d ∧ K = q := by simpa using hout
      subst e1; subst e2
      clear hout
      go_enter Tryz.func104, Tryz.ntmps104
      go_wp2_with fail
      refine (HSK.out _).mono ?_
      rintro ee w1 ⟨rfl, rfl⟩
      go_wp2_with fail
      refine (HL2.out _).mono ?_
      rintro ee w1 ⟨rfl, rfl⟩
      go_wp2_with fail
      refine HP.out.mono ?_
      rintro ee w1 ⟨rfl, hw1⟩
      have hB1' : Blk w1 w.heap.size 130 #[.int .u64 X, .int .u64 Y, .int .i64 s] := by
        rw [hw1, HS.out]
        exact ((hB0.out.set_ 0 _).set_ 1 _).set_ 2 _
      have hb1 : Below w.heap.size w w1 := by
        rw [hw1]
        exact ((((Below.refl _ w).alloc (Nat.le_refl _) _).setCell (p := ⟨w.heap.size, 0, none⟩) (Nat.le_refl _) _).setCell (p := ⟨w.heap.size, 1, none⟩) (Nat.le_refl _) _).setCell (p := ⟨w.heap.size, 2, none⟩) (Nat.le_refl _) _
      have HB := Lib.hid hb1
      have HBk := Lib.hid hB1'
      clear hw1 hb1 hB1'
      go_wp2_with fail
      refine (HUA.out _ _ (HBk.out.cell 0) (HBk.out.cell 1) (HBk.out.cell 2)).mono ?_
      rintro ee w2 ⟨rfl, k2, rfl⟩
      go_wp2_with (first
        | (go_at_call 123; refine (HNA.out _).mono ?_; rintro ee w3 ⟨rfl, rfl⟩)
        | (go_at_call 124; refine (HCE.out _).mono ?_; rintro ee w3 ⟨rfl, rfl⟩))
      refine (HUB.out (w1.drewN k2) _ ((HBk.out.drewN k2).cell 0) ((HBk.out.drewN k2).cell 1) ((HBk.out.drewN k2).cell 2)).mono ?_
      rintro ee w4 ⟨rfl, k4, rfl⟩
      go_wp2_with (first
        | (go_at_call 123; refine (HNB.out _).mono ?_; rintro ee w3 ⟨rfl, rfl⟩)
        | (go_at_call 125; refine (HFL.out _).mono ?_; rintro ee w3 ⟨rfl, rfl⟩))
      refine (HUC.out (w1.drewN (k2 + k4)) _ ((HBk.out.drewN _).cell 0) ((HBk.out.drewN _).cell 1) ((HBk.out.drewN _).cell 2)).mono ?_
      rintro ee w5 ⟨rfl, k5, rfl⟩
      go_wp2_with (first
        | (go_at_call 126; refine (HRO.out _).mono ?_; rintro ee w3 ⟨rfl, rfl⟩))
      go_ret2
      refine ⟨rfl, ?_⟩
      exact drewn_below HB.out _
    · rw [if_neg c2] at hout
      obtain ⟨e1, e2⟩ : DM = d ∧ K = q := by simpa using hout
      subst e1; subst e2
      clear hout
      go_enter Tryz.func104, Tryz.ntmps104
      go_wp2_with fail
      refine (HSK.out _).mono ?_
      rintro ee w1 ⟨rfl, rfl⟩
      go_wp2_with fail
      refine (HL2.out _).mono ?_
      rintro ee w1 ⟨rfl, rfl⟩
      go_wp2_with fail
      refine HP.out.mono ?_
      rintro ee w1 ⟨rfl, hw1⟩
      have hB1' : Blk w1 w.heap.size 130 #[.int .u64 X, .int .u64 Y, .int .i64 s] := by
        rw [hw1, HS.out]
        exact ((hB0.out.set_ 0 _).set_ 1 _).set_ 2 _
      have hb1 : Below w.heap.size w w1 := by
        rw [hw1]
        exact ((((Below.refl _ w).alloc (Nat.le_refl _) _).setCell (p := ⟨w.heap.size, 0, none⟩) (Nat.le_refl _) _).setCell (p := ⟨w.heap.size, 1, none⟩) (Nat.le_refl _) _).setCell (p := ⟨w.heap.size, 2, none⟩) (Nat.le_refl _) _
      have HB := Lib.hid hb1
      have HBk := Lib.hid hB1'
      clear hw1 hb1 hB1'
      go_wp2_with fail
      refine (HUA.out _ _ (HBk.out.cell 0) (HBk.out.cell 1) (HBk.out.cell 2)).mono ?_
      rintro ee w2 ⟨rfl, k2, rfl⟩
      go_wp2_with (first
        | (go_at_call 123; refine (HNA.out _).mono ?_; rintro ee w3 ⟨rfl, rfl⟩)
        | (go_at_call 124; refine (HCE.out _).mono ?_; rintro ee w3 ⟨rfl, rfl⟩))
      refine (HUB.out (w1.drewN k2) _ ((HBk.out.drewN k2).cell 0) ((HBk.out.drewN k2).cell 1) ((HBk.out.drewN k2).cell 2)).mono ?_
      rintro ee w4 ⟨rfl, k4, rfl⟩
      go_wp2_with (first
        | (go_at_call 123; refine (HNB.out _).mono ?_; rintro ee w3 ⟨rfl, rfl⟩)
        | (go_at_call 125; refine (HFL.out _).mono ?_; rintro ee w3 ⟨rfl, rfl⟩))
      go_ret2
      refine ⟨rfl, ?_⟩
      exact drewn_below HB.out _

end Go.Proofs.YthmdfliimlimhaaGreatDoor
