/- known: what the law asks first of the program, at its own values: true. -/
import Derived.Test.YthmdfliimlimhaaGreatDoorW9
import Derived.Test.YthmdfliimlimhaaGreatDoorW10
namespace Go.Proofs.YthmdfliimlimhaaGreatDoor
open Go.RowKit

attribute [local go_sem ↓] Go.wp_at_zero Go.wp_at_succ

abbrev half : Nat := 4602678819172646912
abbrev v1 : Val := .mk 1 1 0 ⟨#[]⟩ []
abbrev v2 : Val := .mk 2 0 half ⟨#[]⟩ []
abbrev v3 : Val := .mk 3 0 0 ⟨#[97]⟩ []
/-- the list that known makes -/
abbrev vl : Val := .mk 4 0 0 ⟨#[]⟩ [v1, v2, v3]
/-- a Float -/
abbrev vf (f : Nat) : Val := .mk 2 0 f ⟨#[]⟩ []

theorem leaf_at (w : World) (B : Nat) (k i : Int) (f : Nat) (s : ByteArray) (hs : s.size ≤ 1000) (hf : f < 2 ^ 64) : VAt w B (.mk k i f s []) (.agg (vcells k i f s none 0 0)) :=
  VAt.of (Nat.le_refl _) (Nat.zero_le _) (by omega) hf (SAt.none_ w B)

theorem list_at {w : World} {b B : Nat} (hb : b < B) (h : Blk w b 25 #[.int .i64 1, .int .i64 1, .float .f64 0, .string ⟨#[]⟩, .slice none 0 0, .int .i64 2, .int .i64 0, .float .f64 half, .string ⟨#[]⟩, .slice none 0 0, .int .i64 3, .int .i64 0, .float .f64 0, .string ⟨#[97]⟩, .slice none 0 0]) :
    VAt w B vl (.agg (vcells 4 0 0 ⟨#[]⟩ (some ⟨b, 0, none⟩) 3 3)) := by
  refine VAt.of (Nat.le_refl _) (by decide) (by decide) (by decide) ⟨rfl, fun _ => ⟨b, 0, rfl, hb, ?_⟩⟩
  simp only [LAt]
  exact ⟨⟨_, _, _, _, _, _, _, ⟨h.cell 0, h.cell 1, h.cell 2, h.cell 3, h.cell 4⟩, leaf_at w B 1 1 0 ⟨#[]⟩ (by decide) (by decide)⟩,
    ⟨_, _, _, _, _, _, _, ⟨h.cell 5, h.cell 6, h.cell 7, h.cell 8, h.cell 9⟩, leaf_at w B 2 0 half ⟨#[]⟩ (by decide) (by decide)⟩,
    ⟨_, _, _, _, _, _, _, ⟨h.cell 10, h.cell 11, h.cell 12, h.cell 13, h.cell 14⟩, leaf_at w B 3 0 0 ⟨#[97]⟩ (by decide) (by decide)⟩, trivial⟩

theorem vl_text : TextC vl ⟨#[91, 49, 44, 32, 48, 46, 53, 44, 32, 34, 97, 34, 93]⟩ := by
  refine text_list 0 0 ⟨#[]⟩ [v1, v2, v3] [⟨#[49]⟩, ⟨#[48, 46, 53]⟩, ⟨#[34, 97, 34]⟩] rfl (by decide) (by decide) ?_ (by decide) _ (by decide)
  intro j x t hx ht
  match j, hx, ht with
  | 0, hx, ht =>
    simp at hx ht
    subst hx ht
    exact (show (⟨(Lib.decDigits 1).toArray⟩ : ByteArray) = ⟨#[49]⟩ by simp [Lib.decDigits_eq, Lib.nDigits_unique 0 1 (by decide) (by decide), Lib.dg]) ▸ text_int 1 (by decide) 0 ⟨#[]⟩ []
  | 1, hx, ht =>
    simp at hx ht
    subst hx ht
    exact text_half 0 ⟨#[]⟩ []
  | 2, hx, ht =>
    simp at hx ht
    subst hx ht
    exact (show strOfNums (Lib.quoteZ Lib.goPrintTabs ⟨#[97]⟩) = ⟨#[34, 97, 34]⟩ by decide) ▸ text_str 0 0 ⟨#[97]⟩ [] (by decide)
  | j + 3, hx, ht => simp at hx

theorem vl_eq : eqV vl vl = true := by
  have h1 : eqF2 half half = true := by decide
  have h2 : eqF2 0 0 = true := by decide
  simp [eqV, eqL, kd, pickB, h1, h2]
theorem vl_check : checkV vl = 0 := by simp [checkV, strV, strL, greatV, greatL, sizeV, sizeL, kd, wrap64]; decide
theorem v9_check : checkV (.mk 9 0 0 ⟨#[]⟩ []) = 31 := by decide
theorem vl_size : sizeV vl = 24 := by simp [sizeV, sizeL, wrap64]; decide
theorem zero_one : ordV (vf 0) (vf 4607182418800017408) = -1 := by decide
theorem canon_zero : canonF 0 = 0 := by decide
theorem canon_half : canonF half = half := by decide
theorem canon_two : canonF 4611686018427387904 = 4611686018427387904 := by decide
theorem canon_one : canonF 4607182418800017408 = 4607182418800017408 := by decide

/-- what known's two boxes hold -/
abbrev Boxes (p q : Nat) (A : Option Addr) (w : World) : Prop :=
  (w.cell? ⟨p, 0, none⟩ = some (.int .i64 2) ∧ w.cell? ⟨p, 1, none⟩ = some (.int .i64 0) ∧ w.cell? ⟨p, 2, none⟩ = some (.float .f64 0) ∧ w.cell? ⟨p, 3, none⟩ = some (.string ⟨#[]⟩) ∧ w.cell? ⟨p, 4, none⟩ = some (.slice none 0 0) ∧ w.cell? ⟨q, 0, none⟩ = some (.int .i64 4) ∧ w.cell? ⟨q, 1, none⟩ = some (.int .i64 0) ∧ w.cell? ⟨q, 2, none⟩ = some (.float .f64 0) ∧ w.cell? ⟨q, 3, none⟩ = some (.string ⟨#[]⟩) ∧ w.cell? ⟨q, 4, none⟩ = some (.slice A 3 3))

set_option maxRecDepth 100000 in
set_option maxHeartbeats 3200000 in
theorem known_calls (w : World) (hG : Globs w) : Calls Tryz.prog 9 #[] w (Says w (.bool true)) := by
  have hst := run_store_f64
  have H28 := Lib.hid (fun W => canon_calls 0 W)
  have H12 := Lib.hid (fun W => mkFloat_calls 0 W)
  have H23 := Lib.hid (fun W => mkInt_calls 1 W)
  have H12h := Lib.hid (fun W => mkFloat_calls half W)
  have H15 := Lib.hid (fun W => mkText_calls ⟨#[97]⟩ W)
  have H16 := Lib.hid (fun A W => mkList_calls A 3 3 W)
  rw [canon_zero] at H28 H12
  rw [canon_half] at H12h
  have HG := Lib.hid hG
  clear hG
  go_enter Tryz.func9, Tryz.ntmps9
  go_wp2_with fail
  refine (H28.out _).mono ?_
  rintro e w1 ⟨rfl, rfl⟩
  go_wp2_with fail
  refine (H12.out _).mono ?_
  rintro e w2 ⟨rfl, hb2⟩
  go_wp2_with fail
  refine (H23.out _).mono ?_
  rintro e w3 ⟨rfl, hb3⟩
  go_wp2_with fail
  refine (H12h.out _).mono ?_
  rintro e w4 ⟨rfl, hb4⟩
  go_wp2_with fail
  refine (H15.out _).mono ?_
  rintro e w5 ⟨rfl, hb5⟩
  go_wp2_with fail
  refine (H16.out _ _).mono ?_
  rintro e w6 ⟨rfl, hb6⟩
  go_wp2_with fail
  obtain ⟨wC, hwC⟩ : ∃ wC, wC = w6.alloc (.cells (vcells 4 0 0 ⟨#[]⟩ (some ⟨w5.heap.size, 0, none⟩) 3 3) 25) := ⟨_, rfl⟩
  rw [← hwC]
  have hb26 := (((hb3.trans (hb4.mono hb3.size)).trans (hb5.mono (hb3.trans (hb4.mono hb3.size)).size)))
  have hz2 : w2.heap.size + 1 ≤ w5.heap.size := by simpa using hb26.size
  have hz5 : w5.heap.size + 1 ≤ w6.heap.size := by simpa using hb6.size
  have hbC6 : Below w6.heap.size w6 wC := hwC ▸ (Below.refl _ w6).alloc (Nat.le_refl _) _
  have hz6 : w6.heap.size + 1 ≤ wC.heap.size := by rw [hwC]; simp
  have hP1 : Blk wC w2.heap.size 25 (vcells 2 0 0 ⟨#[]⟩ none 0 0) := (((((Blk.new w2 25 _).below hb26 (by simp)).alloc _).below hb6 (by simp; omega))).below hbC6 (by omega)
  have hP2 : Blk wC w6.heap.size 25 (vcells 4 0 0 ⟨#[]⟩ (some ⟨w5.heap.size, 0, none⟩) 3 3) := hwC ▸ Blk.new w6 25 _
  have hg3 := ((Blk.new w5 25 _).below hb6 (by simp)).below hbC6 (by omega)
  have hbC : Below w.heap.size w wC := by
    have a2 := (hb2.alloc hb2.size (.cells (vcells 2 0 0 ⟨#[]⟩ none 0 0) 25))
    have a5 := a2.trans (hb26.mono (by have := hb2.size; simp; omega))
    have a6 := (a5.alloc a5.size _).trans (hb6.mono (by have := a5.size; simp; omega))
    exact a6.trans (hbC6.mono a6.size)
  generalize w2.heap.size = p at *
  generalize w5.heap.size = g at *
  generalize w6.heap.size = q at *
  have keep : ∀ W, Below wC.heap.size wC W → Boxes p q (some ⟨g, 0, none⟩) W := fun W hb => by
    obtain ⟨a0, a1, a2, a3, a4⟩ := (hP1.below hb (by omega)).five
    exact ⟨a0, a1, a2, a3, a4, (hP2.below hb (by omega)).five⟩
  have lift : ∀ {N : Nat} {args : Array Value} {W : World} {v : Value}, Calls Tryz.prog N args W (Says W v) → Below wC.heap.size wC W → Calls Tryz.prog N args W (fun e w' => e = .returned v ∧ Below wC.heap.size wC w' ∧ Boxes p q (some ⟨g, 0, none⟩) w') :=
    fun h hb => h.mono fun e w' ⟨h1, h2⟩ => ⟨h1, hb.trans (h2.mono hb.size), keep _ (hb.trans (h2.mono hb.size))⟩
  have VL : ∀ W, Below wC.heap.size wC W → VAt W W.heap.size vl (.agg (vcells 4 0 0 ⟨#[]⟩ (some ⟨g, 0, none⟩) 3 3)) := fun W hb => list_at (by have := hb.size; omega) (hg3.below hb (by omega))
  have GL : ∀ W, Below wC.heap.size wC W → Globs W := fun W hb => HG.out.up (hbC.trans (hb.mono hbC.size))
  have HA := Lib.hid (fun W hb => lift (vl_text _ W (GL W hb) (VL W hb)) hb)
  have HB := Lib.hid (fun W hb => lift (canon_two ▸ mkFloat_calls 4611686018427387904 W) hb)
  have HC := Lib.hid (fun W hb => lift (text_two 0 ⟨#[]⟩ [] _ W (GL W hb) (leaf_at W _ 2 0 4611686018427387904 ⟨#[]⟩ (by decide) (by decide))) hb)
  have HD := Lib.hid (fun W hb => lift (vl_eq ▸ equal_calls vl vl _ _ W (VL W hb) (VL W hb)) hb)
  have HE := Lib.hid (fun W hb => lift (canon_one ▸ mkFloat_calls 4607182418800017408 W) hb)
  have HF := Lib.hid (fun W hb => lift (zero_one ▸ order_calls (vf 0) (vf 4607182418800017408) _ _ W (leaf_at W _ 2 0 0 ⟨#[]⟩ (by decide) (by decide)) (leaf_at W _ 2 0 4607182418800017408 ⟨#[]⟩ (by decide) (by decide))) hb)
  have HK := Lib.hid (fun W hb => lift (vl_check ▸ check_calls vl _ W (VL W hb)) hb)
  have HN := Lib.hid (fun W hb => lift (v9_check ▸ check_calls (.mk 9 0 0 ⟨#[]⟩ []) _ W (leaf_at W _ 9 0 0 ⟨#[]⟩ (by decide) (by decide))) hb)
  have HS := Lib.hid (fun W hb => lift (vl_size ▸ size2_calls vl _ W (VL W hb)) hb)
  have k0 := keep wC (Below.refl _ _)
  have HBC := Lib.hid hbC
  clear hst H28 H12 H23 H12h H15 H16 HG hb2 hb3 hb4 hb5 hb6 hb26 hwC hbC6 hP1 hP2 hg3 hbC keep lift VL GL
  have H0 := Lib.hid (Below.refl wC.heap.size wC)
  obtain ⟨c0, c1, c2, c3, c4, d0, d1, d2, d3, d4⟩ := k0
  go_region_held3 (fun w' => (w'.cell? ⟨p, 0, none⟩ = some (.int .i64 2) ∧ w'.cell? ⟨p, 1, none⟩ = some (.int .i64 0) ∧ w'.cell? ⟨p, 2, none⟩ = some (.float .f64 0) ∧ w'.cell? ⟨p, 3, none⟩ = some (.string ⟨#[]⟩) ∧ w'.cell? ⟨p, 4, none⟩ = some (.slice none 0 0) ∧ w'.cell? ⟨q, 0, none⟩ = some (.int .i64 4) ∧ w'.cell? ⟨q, 1, none⟩ = some (.int .i64 0) ∧ w'.cell? ⟨q, 2, none⟩ = some (.float .f64 0) ∧ w'.cell? ⟨q, 3, none⟩ = some (.string ⟨#[]⟩) ∧ w'.cell? ⟨q, 4, none⟩ = some (.slice (some ⟨g, 0, none⟩) 3 3))) (first | exact kS | exact kN | exact kK | exact kF | exact kE | exact kD | exact kC | exact kB | exact kA | exact ⟨c0, c1, c2, c3, c4, d0, d1, d2, d3, d4⟩ | go_keep)
    (first
      | (go_at_call 22; (with_reducible refine (HA.out _ ?_).mono ?_); (first | exact H0.out | exact H0.out.drew); rintro e wA ⟨rfl, hbA, kA⟩)
      | (go_at_call 12; (with_reducible refine (HB.out _ ?_).mono ?_); (first | exact hbA); rintro e wB ⟨rfl, hbB, kB⟩)
      | (go_at_call 22; (with_reducible refine (HC.out _ ?_).mono ?_); (first | exact hbB); rintro e wCC ⟨rfl, hbCC, kC⟩)
      | (go_at_call 13; (with_reducible refine (HD.out _ ?_).mono ?_); (first | exact hbCC); rintro e wD ⟨rfl, hbD, kD⟩)
      | (go_at_call 12; (with_reducible refine (HE.out _ ?_).mono ?_); (first | exact hbD); rintro e wE ⟨rfl, hbE, kE⟩)
      | (go_at_call 11; (with_reducible refine (HF.out _ ?_).mono ?_); (first | exact hbE); rintro e wF ⟨rfl, hbF, kF⟩)
      | (go_at_call 17; (with_reducible refine (HK.out _ ?_).mono ?_); (first | exact hbF); rintro e wK ⟨rfl, hbK, kK⟩)
      | (go_at_call 17; (with_reducible refine (HN.out _ ?_).mono ?_); (first | exact hbK); rintro e wN ⟨rfl, hbN, kN⟩)
      | (go_at_call 18; (with_reducible refine (HS.out _ ?_).mono ?_); (first | exact hbN); rintro e wS ⟨rfl, hbS, kS⟩))
  all_goals (
    go_wp2_with fail
    go_ret
    exact ⟨rfl, HBC.out.trans (hbS.mono HBC.out.size)⟩)

end Go.Proofs.YthmdfliimlimhaaGreatDoor
