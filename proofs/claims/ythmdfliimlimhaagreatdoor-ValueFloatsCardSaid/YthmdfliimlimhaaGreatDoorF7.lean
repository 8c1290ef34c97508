/- Two Floats' texts: ftoa64, FormatFloat: contracts. -/
import Derived.Test.YthmdfliimlimhaaGreatDoorF6
namespace Go.Proofs.YthmdfliimlimhaaGreatDoor
open Go.RowKit Go.Sort

attribute [local go_sem ↓] Go.wp_at_zero Go.wp_at_succ

/-- what of the package-level variables the library's functions read -/
structure Glob (w : World) : Prop where
  ten : PowAt w
  pow : Lib.TabIs Tryz.prog w "internal/strconv.uint64pow10" .u64 Lib.pow10Tab
  big : 15 ≤ w.heap.size

theorem tabIs_below {w w' : World} (h : Lib.TabIs Tryz.prog w "internal/strconv.uint64pow10" .u64 Lib.pow10Tab) {B : Nat} (hB : 15 ≤ B) (hb : Below B w w') : Lib.TabIs Tryz.prog w' "internal/strconv.uint64pow10" .u64 Lib.pow10Tab := by
  unfold Lib.TabIs World.var? at h ⊢
  have hg : Tryz.prog.globalNamed "internal/strconv.uint64pow10" = some 2 := by kernel_rfl
  rw [hg] at h ⊢
  simp only [Option.bind_some] at h ⊢
  rw [hb.block 2 (by omega)]
  exact h
theorem Glob.below {w w' : World} (h : Glob w) {B : Nat} (hB : 15 ≤ B) (hb : Below B w w') : Glob w' := by
  refine ⟨fun i hi => ?_, tabIs_below h.pow hB hb, Nat.le_trans h.big hb.size⟩
  obtain ⟨a, b⟩ := h.ten i hi
  exact ⟨(hb.cell (p := ⟨13, i * 2, none⟩) (show 13 < B by omega)).trans a, (hb.cell (p := ⟨13, i * 2 + 1, none⟩) (show 13 < B by omega)).trans b⟩
theorem Glob.alloc {w : World} (h : Glob w) (o : Obj) : Glob (w.alloc o) := h.below (Nat.le_trans h.big (Nat.le_refl _)) ((Below.refl _ w).alloc (Nat.le_refl _) o)

theorem f64bits_run (a : Nat) (w : World) : (callFunc 94 #[.float .f64 a]).run Tryz.prog w = .ok (.value (.int .u64 a)) w := by
  rw [run_callFunc_extern Tryz.func94 (by kernel_rfl) (by kernel_rfl) (by kernel_rfl) (e := Extern.MathFloatBits.float64bits) (by kernel_rfl)]
  rfl

theorem short_two (w : World) (hG : Glob w) : Calls Tryz.prog 104 #[.int .u64 9223372036854775808, .int .i64 (-62)] w fun ee w' => ee = .returned (.tuple #[.int .u64 2000000000000000, .int .i64 (-15)]) ∧ Below w.heap.size w w' :=
  short_a (-62) (-16) 53 364 6 79999999999999995 80000000000000009 80000000000000000 w (by decide) (by decide) (by decide) (by kernel_rfl) (by decide) (by kernel_rfl) (by decide) (by decide) (by decide) (by decide) (by decide) hG.ten
    (of_decide_eq_true (by kernel_rfl)) (of_decide_eq_true (by kernel_rfl)) (of_decide_eq_true (by kernel_rfl)) (by have := hG.big; omega) (by kernel_rfl) (by kernel_rfl) (by kernel_rfl) (by decide) (by decide) (by decide) (by decide) (by decide) 2000000000000000 (-15) (by kernel_rfl)
theorem short_half (w : World) (hG : Glob w) : Calls Tryz.prog 104 #[.int .u64 9223372036854775808, .int .i64 (-64)] w fun ee w' => ee = .returned (.tuple #[.int .u64 5000000000000000, .int .i64 (-16)]) ∧ Below w.heap.size w w' :=
  short_a (-64) (-17) 56 365 5 199999999999999989 200000000000000023 200000000000000000 w (by decide) (by decide) (by decide) (by kernel_rfl) (by decide) (by kernel_rfl) (by decide) (by decide) (by decide) (by decide) (by decide) hG.ten
    (of_decide_eq_true (by kernel_rfl)) (of_decide_eq_true (by kernel_rfl)) (of_decide_eq_true (by kernel_rfl)) (by have := hG.big; omega) (by kernel_rfl) (by kernel_rfl) (by kernel_rfl) (by decide) (by decide) (by decide) (by decide) (by decide) 5000000000000000 (-16) (by kernel_rfl)

theorem ownsRow_below {B : Nat} {e : TypeId} {k : Nat} {v : Value} {n : Nat} {xs : List Value} {w w' : World} (h : w.ownsRow B e k v n xs) (hb : Below w.heap.size w w') : w'.ownsRow B e k v n xs :=
  h.kept (row := none) ⟨hb.os, hb.tape, hb.output, hb.size, fun j hj _ => hb.block j hj⟩ (by cases hv : v.ownBlock <;> simp)
theorem holds_of_blk {w : World} {g : Nat} {t : TypeId} (h : Blk w g t (Array.replicate 32 (.int .u8 0))) : Holds encB w g 0 (Array.replicate 16 0) := by
  intro j hj
  rw [Array.size_replicate] at hj
  refine ⟨?_, h.frozen _⟩
  rw [Nat.zero_add, h.cell j]
  simp [show j < 32 by omega, hj]

theorem lit_two : Lib.nDigits 2000000000000000 = 16 ∧ Lib.decDigits 2000000000000000 = [50, 48, 48, 48, 48, 48, 48, 48, 48, 48, 48, 48, 48, 48, 48, 48] := by
  have h : Lib.nDigits 2000000000000000 = 16 := Lib.nDigits_unique 15 2000000000000000 (by decide) (by decide)
  refine ⟨h, ?_⟩
  rw [Lib.decDigits_eq, h]
  decide
theorem num_two (w : World) (hG : Glob w) : Calls Tryz.prog 73 #[.int .u64 2000000000000000] w (Same w (.int .i64 16)) := by
  have h := Tryz.internal_strconv_numDigits 2000000000000000 (by decide) (by decide) w hG.pow
  rw [lit_two.1] at h
  exact h.mono fun _ _ ⟨a, b⟩ => ⟨a, b.symm⟩
theorem set_two (g : Nat) (w : World) (hH : Holds encB w g 0 (Array.replicate 16 0)) (hty : OfType w g 111) : Calls Tryz.prog 99 #[.slice (some ⟨g, 0, none⟩) 32 32, .int .u64 2000000000000000, .int .i64 (-15), .int .i64 16] w fun e w' => e = .returned (.tuple #[.int .i64 1, .int .i64 1]) ∧ DigB w' g [50, 48, 48, 48, 48, 48, 48, 48, 48, 48, 48, 48, 48, 48, 48, 48] ∧ Below g w w' := by
  have h := setDigits_calls g 2000000000000000 (-15) w (by decide) (by decide) (by decide) (by decide) (by rw [lit_two.1]; exact hH) hty
  rw [lit_two.1, lit_two.2] at h
  refine h.mono fun e w' ⟨h1, h2, h3, h4⟩ => ⟨?_, ⟨h2, h4⟩, h3⟩
  rw [h1]
  rfl
theorem len_two (w : World) : Calls Tryz.prog 84 #[.int .u64 4503599627370496] w (Same w (.int .i64 53)) := by
  have h := Tryz.bits_Len64 4503599627370496 w (by decide) (by decide)
  rw [show Lib.bitLen (4503599627370496 : Int).toNat = 53 by kernel_rfl] at h
  exact h.mono fun _ _ ⟨a, b⟩ => ⟨a, b.symm⟩

set_option maxRecDepth 100000 in
set_option maxHeartbeats 3200000 in
theorem ftoa_two (B : Nat) (w0 : World) (v : Value) (w : World) (hown : w.ownsRow B 5 1 v 0 (bc [])) (hb : Below B w0 w) (hB : B ≤ w.heap.size) (hG : Glob w) :
    Calls Tryz.prog 82 #[v, .float .f64 4611686018427387904, .int .u8 103, .int .i64 (-1)] w fun e w' => ∃ v', e = .returned v' ∧ w'.ownsRow B 5 1 v' 1 (bc [50]) ∧ Below B w0 w' := by
  have HB := Lib.hid (fun W => f64bits_run 4611686018427387904 W)
  have hal : Tryz.prog.arrayLen 111 = 32 := by kernel_rfl
  have b1 : bits .and .i64 1024 2047 = 1024 := by kernel_rfl
  have b2 : bits .and .u64 4611686018427387904 4503599627370495 = 0 := by kernel_rfl
  have b3 : bits .or .u64 0 4503599627370496 = 4503599627370496 := by kernel_rfl
  have HO := Lib.hid hown
  have HBL := Lib.hid hb
  have HG := Lib.hid hG
  clear hown hb hG
  go_enter Tryz.func82, Tryz.ntmps82
  go_wp2_with fail
  rw [HB.out, Oper.upon_value]
  go_wp2_with fail
  go_quiet (fail)
  go_wp2_with fail
  refine (len_two _).mono ?_
  rintro e w1 ⟨rfl, rfl⟩
  go_wp2_with fail
  refine (short_two _ ?_).mono ?_
  · exact (HG.out.below (B := w.heap.size) HG.out.big (drewn_below ((Below.refl _ w).alloc (Nat.le_refl _) _) _))
  rintro e w1 ⟨rfl, hb1⟩
  go_wp2_with fail
  have hB1 : Blk w1 w.heap.size 111 (Array.replicate 32 (.int .u8 0)) := (show Blk ((w.drewN nq).alloc (.cells (Array.replicate 32 (.int .u8 0)) 111)) w.heap.size 111 (Array.replicate 32 (.int .u8 0)) from Blk.new (w.drewN nq) 111 _).below hb1 (by simp)
  have HH1 := Lib.hid (holds_of_blk hB1)
  have HBk := Lib.hid hB1
  have HW := Lib.hid (((drewn_below (Below.refl w.heap.size w) nq).alloc (Nat.le_refl _) _).trans (hb1.mono (by simp)))
  clear hb1 hB1
  go_region_with (first
    | (go_at_call 73; refine (num_two _ ?_).mono ?_; (first | exact (HG.out.below HG.out.big HW.out.drew)); rintro e w2 ⟨rfl, rfl⟩)
    | (go_at_call 99; refine (set_two _ _ ?_ ?_).mono ?_; (first | exact HH1.out); (first | exact ⟨_, _, HBk.out⟩); rintro e w2 ⟨rfl, hd2, hb2⟩))
  have HW2 : Below w.heap.size w w2 := HW.out.drew.trans hb2
  have HO2 := Lib.hid (show Out B w0 w.heap.size [50, 48, 48, 48, 48, 48, 48, 48, 48, 48, 48, 48, 48, 48, 48, 48] v [] w2 from ⟨ownsRow_below HO.out HW2, HBL.out.trans (HW2.mono hB), Nat.le_trans hB HW2.size, hd2⟩)
  clear hd2 hb2
  go_wp2_with fail
  refine (efg_two B w0 w.heap.size _ v _ HO2.out rfl (by decide)).mono ?_
  rintro e w3 ⟨v3, rfl, hO3⟩
  go_wp2_with fail
  go_ret
  exact ⟨v3, rfl, hO3.1, hO3.2.1⟩

theorem lit_half : Lib.nDigits 5000000000000000 = 16 ∧ Lib.decDigits 5000000000000000 = [53, 48, 48, 48, 48, 48, 48, 48, 48, 48, 48, 48, 48, 48, 48, 48] := by
  have h : Lib.nDigits 5000000000000000 = 16 := Lib.nDigits_unique 15 5000000000000000 (by decide) (by decide)
  refine ⟨h, ?_⟩
  rw [Lib.decDigits_eq, h]
  decide
theorem num_half (w : World) (hG : Glob w) : Calls Tryz.prog 73 #[.int .u64 5000000000000000] w (Same w (.int .i64 16)) := by
  have h := Tryz.internal_strconv_numDigits 5000000000000000 (by decide) (by decide) w hG.pow
  rw [lit_half.1] at h
  exact h.mono fun _ _ ⟨a, b⟩ => ⟨a, b.symm⟩
theorem set_half (g : Nat) (w : World) (hH : Holds encB w g 0 (Array.replicate 16 0)) (hty : OfType w g 111) : Calls Tryz.prog 99 #[.slice (some ⟨g, 0, none⟩) 32 32, .int .u64 5000000000000000, .int .i64 (-16), .int .i64 16] w fun e w' => e = .returned (.tuple #[.int .i64 0, .int .i64 1]) ∧ DigB w' g [53, 48, 48, 48, 48, 48, 48, 48, 48, 48, 48, 48, 48, 48, 48, 48] ∧ Below g w w' := by
  have h := setDigits_calls g 5000000000000000 (-16) w (by decide) (by decide) (by decide) (by decide) (by rw [lit_half.1]; exact hH) hty
  rw [lit_half.1, lit_half.2] at h
  refine h.mono fun e w' ⟨h1, h2, h3, h4⟩ => ⟨?_, ⟨h2, h4⟩, h3⟩
  rw [h1]
  rfl
theorem len_half (w : World) : Calls Tryz.prog 84 #[.int .u64 4503599627370496] w (Same w (.int .i64 53)) := by
  have h := Tryz.bits_Len64 4503599627370496 w (by decide) (by decide)
  rw [show Lib.bitLen (4503599627370496 : Int).toNat = 53 by kernel_rfl] at h
  exact h.mono fun _ _ ⟨a, b⟩ => ⟨a, b.symm⟩

set_option maxRecDepth 100000 in
set_option maxHeartbeats 3200000 in
theorem ftoa_half (B : Nat) (w0 : World) (v : Value) (w : World) (hown : w.ownsRow B 5 1 v 0 (bc [])) (hb : Below B w0 w) (hB : B ≤ w.heap.size) (hG : Glob w) :
    Calls Tryz.prog 82 #[v, .float .f64 4602678819172646912, .int .u8 103, .int .i64 (-1)] w fun e w' => ∃ v', e = .returned v' ∧ w'.ownsRow B 5 1 v' 3 (bc [48, 46, 53]) ∧ Below B w0 w' := by
  have HB := Lib.hid (fun W => f64bits_run 4602678819172646912 W)
  have hal : Tryz.prog.arrayLen 111 = 32 := by kernel_rfl
  have b1 : bits .and .i64 1022 2047 = 1022 := by kernel_rfl
  have b2 : bits .and .u64 4602678819172646912 4503599627370495 = 0 := by kernel_rfl
  have b3 : bits .or .u64 0 4503599627370496 = 4503599627370496 := by kernel_rfl
  have HO := Lib.hid hown
  have HBL := Lib.hid hb
  have HG := Lib.hid hG
  clear hown hb hG
  go_enter Tryz.func82, Tryz.ntmps82
  go_wp2_with fail
  rw [HB.out, Oper.upon_value]
  go_wp2_with fail
  go_quiet (fail)
  go_wp2_with fail
  refine (len_half _).mono ?_
  rintro e w1 ⟨rfl, rfl⟩
  go_wp2_with fail
  refine (short_half _ ?_).mono ?_
  · exact (HG.out.below (B := w.heap.size) HG.out.big (drewn_below ((Below.refl _ w).alloc (Nat.le_refl _) _) _))
  rintro e w1 ⟨rfl, hb1⟩
  go_wp2_with fail
  have hB1 : Blk w1 w.heap.size 111 (Array.replicate 32 (.int .u8 0)) := (show Blk ((w.drewN nq).alloc (.cells (Array.replicate 32 (.int .u8 0)) 111)) w.heap.size 111 (Array.replicate 32 (.int .u8 0)) from Blk.new (w.drewN nq) 111 _).below hb1 (by simp)
  have HH1 := Lib.hid (holds_of_blk hB1)
  have HBk := Lib.hid hB1
  have HW := Lib.hid (((drewn_below (Below.refl w.heap.size w) nq).alloc (Nat.le_refl _) _).trans (hb1.mono (by simp)))
  clear hb1 hB1
  go_region_with (first
    | (go_at_call 73; refine (num_half _ ?_).mono ?_; (first | exact (HG.out.below HG.out.big HW.out.drew)); rintro e w2 ⟨rfl, rfl⟩)
    | (go_at_call 99; refine (set_half _ _ ?_ ?_).mono ?_; (first | exact HH1.out); (first | exact ⟨_, _, HBk.out⟩); rintro e w2 ⟨rfl, hd2, hb2⟩))
  have HW2 : Below w.heap.size w w2 := HW.out.drew.trans hb2
  have HO2 := Lib.hid (show Out B w0 w.heap.size [53, 48, 48, 48, 48, 48, 48, 48, 48, 48, 48, 48, 48, 48, 48, 48] v [] w2 from ⟨ownsRow_below HO.out HW2, HBL.out.trans (HW2.mono hB), Nat.le_trans hB HW2.size, hd2⟩)
  clear hd2 hb2
  go_wp2_with fail
  refine (efg_half B w0 w.heap.size _ v _ HO2.out rfl (by decide)).mono ?_
  rintro e w3 ⟨v3, rfl, hO3⟩
  go_wp2_with fail
  go_ret
  exact ⟨v3, rfl, hO3.1, hO3.2.1⟩


end Go.Proofs.YthmdfliimlimhaaGreatDoor
