/- The order of values: CompareFunc over lists of values, Order: contracts. -/
import Derived.Test.YthmdfliimlimhaaGreatDoorW3
import Derived.Test.YthmdfliimlimhaaGreatDoorShelf
namespace Go.Proofs.YthmdfliimlimhaaGreatDoor
open Go.RowKit

attribute [local go_sem ↓] Go.wp_at_zero Go.wp_at_succ

theorem run_store_f64 (w : World) (a : Addr) (b : Nat) (m : Mode) : (store a (.float .f64 b) m).run Tryz.prog w = stored Tryz.prog w a (.float .f64 b) m := run_store Tryz.prog w a _ m rfl

def OrdC (x : Val) : Prop := ∀ (y : Val) (v u : Value) (w : World), VAt w w.heap.size x v → VAt w w.heap.size y u → Calls Tryz.prog 11 #[v, u] w (Says w (.int .i64 (ordV x y)))

set_option maxRecDepth 100000 in
set_option maxHeartbeats 3200000 in
theorem cmpfunc_calls (l l2 : List Val) (ih : ∀ x ∈ l, OrdC x) (A : Option Addr) (n c : Nat) (B : Option Addr) (m d : Nat) (w : World) (hn : n ≤ 281474976710656) (hm : m ≤ 281474976710656) (hc : n ≤ c) (hd : m ≤ d)
    (h1 : SAt w w.heap.size A n l) (h2 : SAt w w.heap.size B m l2) :
    Calls Tryz.prog 35 #[.slice A n c, .slice B m d, .func (.func 11) #[] #[]] w (Says w (.int .i64 (ordL l l2))) := by
  have hl1 := h1.1
  have hl2 := h2.1
  have hst := run_store_f64
  go_enter Tryz.func35, Tryz.ntmps35
  go_wp2_with fail
  go_loopw [13] (fun t wr => ∃ j : Nat, j ≤ n ∧ j ≤ m ∧ t = .int .i64 j ∧ ordL l l2 = ordL (l.drop j) (l2.drop j) ∧ Below w.heap.size w wr) (fun t _ => n - (intOf t).toNat)
  case atStart => exact ⟨0, by omega, by omega, rfl, rfl, Below.refl _ _⟩
  case round =>
    obtain ⟨j, hj, hj2, rfl, hd0, hb⟩ := hrel
    by_cases hlt : j < n
    · obtain ⟨b, o, rfl, hbl, hL⟩ := h1.2 (by omega)
      obtain ⟨x, hx⟩ : ∃ x, l[j]? = some x := ⟨_, List.getElem?_eq_getElem (by omega)⟩
      obtain ⟨k', i', f', s', A', n', c', ⟨q0, q1, q2, q3, q4⟩, hv'⟩ := hL.at_ j x hx
      have p0 := (hb.cell (p := ⟨b, o + j * 5, none⟩) hbl).trans q0
      have p1 := (hb.cell (p := ⟨b, o + j * 5 + 1, none⟩) hbl).trans q1
      have p2 := (hb.cell (p := ⟨b, o + j * 5 + 2, none⟩) hbl).trans q2
      have p3 := (hb.cell (p := ⟨b, o + j * 5 + 3, none⟩) hbl).trans q3
      have p4 := (hb.cell (p := ⟨b, o + j * 5 + 4, none⟩) hbl).trans q4
      clear q0 q1 q2 q3 q4
      have HX := Lib.hid hx
      have HD0 := Lib.hid hd0
      have HB := Lib.hid hb
      clear hx hd0
      by_cases hlt2 : j < m
      · obtain ⟨b2, o2, rfl, hbl2, hL2⟩ := h2.2 (by omega)
        obtain ⟨y, hy⟩ : ∃ y, l2[j]? = some y := ⟨_, List.getElem?_eq_getElem (by omega)⟩
        obtain ⟨k2, i2, f2, s2, A2, n2, c2, ⟨q0, q1, q2, q3, q4⟩, hv2⟩ := hL2.at_ j y hy
        have HY := Lib.hid hy
        have hbw : b2 < wr.heap.size := Nat.lt_of_lt_of_le hbl2 hb.size
        have z0 := fun ob : Obj => (World.cell?_alloc_lt wr ob ⟨b2, o2 + j * 5, none⟩ hbw).trans ((hb.cell (p := ⟨b2, o2 + j * 5, none⟩) hbl2).trans q0)
        have z1 := fun ob : Obj => (World.cell?_alloc_lt wr ob ⟨b2, o2 + j * 5 + 1, none⟩ hbw).trans ((hb.cell (p := ⟨b2, o2 + j * 5 + 1, none⟩) hbl2).trans q1)
        have z2 := fun ob : Obj => (World.cell?_alloc_lt wr ob ⟨b2, o2 + j * 5 + 2, none⟩ hbw).trans ((hb.cell (p := ⟨b2, o2 + j * 5 + 2, none⟩) hbl2).trans q2)
        have z3 := fun ob : Obj => (World.cell?_alloc_lt wr ob ⟨b2, o2 + j * 5 + 3, none⟩ hbw).trans ((hb.cell (p := ⟨b2, o2 + j * 5 + 3, none⟩) hbl2).trans q3)
        have z4 := fun ob : Obj => (World.cell?_alloc_lt wr ob ⟨b2, o2 + j * 5 + 4, none⟩ hbw).trans ((hb.cell (p := ⟨b2, o2 + j * 5 + 4, none⟩) hbl2).trans q4)
        clear q0 q1 q2 q3 q4 hy
        have hgt : ¬ m ≤ j := by omega
        have hbb : Below w.heap.size w ((wr.alloc (.cells (vcells k' i' f' s' A' n' c') 25)).alloc (.cells (vcells k2 i2 f2 s2 A2 n2 c2) 25)) := (hb.alloc hb.size _).alloc (by have := hb.size; simp; omega) _
        have HC := Lib.hid (ih x (List.mem_of_getElem? HX.out) y _ _ _ ((hv'.below hbb).more hbb.size) ((hv2.below hbb).more hbb.size))
        have HBB := Lib.hid hbb
        clear hbb hv' hv2 hb
        by_cases hz : ordV x y = 0
        · rw [hz] at HC
          have HD := Lib.hid (show ordL l l2 = ordL (l.drop (j + 1)) (l2.drop (j + 1)) by rw [HD0.out, drop_at HX.out, drop_at HY.out, ordL, if_pos hz])
          clear hz HD0 HX HY
          go_wp2_with fail
          refine HC.out.mono ?_
          rintro e w2 ⟨rfl, hb2⟩
          go_wp2_with fail
          go_roundw
          case rel => exact ⟨j + 1, by omega, by omega, by go_num, HD.out, HBB.out.trans (hb2.mono HBB.out.size)⟩
          case measure => simp [intOf]; omega
        · have HD := Lib.hid (show ordL l l2 = ordV x y by rw [HD0.out, drop_at HX.out, drop_at HY.out, ordL, if_neg hz])
          generalize ordV x y = r at *
          have hr : (r != 0) = true := by simpa using hz
          clear hz HD0 HX HY
          go_wp2_with fail
          refine HC.out.mono ?_
          rintro e w2 ⟨rfl, hb2⟩
          go_wp2_with fail
          go_ret
          exact ⟨by rw [HD.out]; rfl, HBB.out.trans (hb2.mono HBB.out.size)⟩
      · have hjm : j = m := by omega
        subst hjm
        have HD := Lib.hid (show ordL l l2 = 1 by rw [HD0.out, drop_at HX.out, show l2.drop j = [] from List.drop_of_length_le (by omega), ordL])
        clear hv' hb HD0 HX hj2
        go_wp2_with fail
        go_ret
        exact ⟨by rw [HD.out]; rfl, HB.out.alloc (HB.out.size) _⟩
    · have hjn : j = n := by omega
      subst hjn
      have HB := Lib.hid hb
      by_cases hlt2 : j < m
      · obtain ⟨y, hy⟩ : ∃ y, l2[j]? = some y := ⟨_, List.getElem?_eq_getElem (by omega)⟩
        have HD := Lib.hid (show ordL l l2 = -1 by rw [hd0, drop_at hy, show l.drop j = [] from List.drop_of_length_le (by omega), ordL])
        clear hb hd0 hj hy
        go_wp2_with fail
        go_ret
        exact ⟨by rw [HD.out]; rfl, HB.out⟩
      · have hjm : j = m := by omega
        subst hjm
        have HD := Lib.hid (show ordL l l2 = 0 by rw [hd0, List.drop_of_length_le (by omega), List.drop_of_length_le (by omega), ordL])
        clear hb hd0 hj hj2
        go_wp2_with fail
        go_ret
        exact ⟨by rw [HD.out]; rfl, HB.out⟩

theorem kd_range (k : Int) : kd k = 0 ∨ kd k = 1 ∨ kd k = 2 ∨ kd k = 3 ∨ kd k = 4 := by unfold kd; split <;> omega

/-- the two boxes of a comparison, cell by cell -/
abbrev Cells2 (g g2 : Nat) (k i : Int) (f : Nat) (s : ByteArray) (A : Option Addr) (n c : Nat) (k2 i2 : Int) (f2 : Nat) (s2 : ByteArray) (A2 : Option Addr) (n2 c2 : Nat) (w : World) : Prop :=
  (w.cell? ⟨g, 0, none⟩ = some (.int .i64 k) ∧ w.cell? ⟨g, 1, none⟩ = some (.int .i64 i) ∧ w.cell? ⟨g, 2, none⟩ = some (.float .f64 f) ∧ w.cell? ⟨g, 3, none⟩ = some (.string s) ∧ w.cell? ⟨g, 4, none⟩ = some (.slice A n c)) ∧
  (w.cell? ⟨g2, 0, none⟩ = some (.int .i64 k2) ∧ w.cell? ⟨g2, 1, none⟩ = some (.int .i64 i2) ∧ w.cell? ⟨g2, 2, none⟩ = some (.float .f64 f2) ∧ w.cell? ⟨g2, 3, none⟩ = some (.string s2) ∧ w.cell? ⟨g2, 4, none⟩ = some (.slice A2 n2 c2))

set_option maxRecDepth 100000 in
set_option maxHeartbeats 3200000 in
theorem order_step (k i : Int) (f : Nat) (s : ByteArray) (l : List Val) (ih : ∀ x ∈ l, OrdC x) : OrdC (.mk k i f s l) := by
  intro y v u w hv hu
  obtain ⟨k2, i2, f2, s2, l2⟩ := y
  obtain ⟨A, n, c, rfl, hc, hn, hs, hf, hS⟩ := hv.parts
  obtain ⟨A2, n2, c2, rfl, hc2, hn2, hs2, hf2, hS2⟩ := hu.parts
  have hb0 : Below w.heap.size w ((w.alloc (.cells (vcells k i f s A n c) 25)).alloc (.cells (vcells k2 i2 f2 s2 A2 n2 c2) 25)) := ((Below.refl _ w).alloc (Nat.le_refl _) _).alloc (by simp) _
  have hB1 := Blk.alloc (Blk.new w 25 (vcells k i f s A n c)) (.cells (vcells k2 i2 f2 s2 A2 n2 c2) 25)
  have hB2 := Blk.new (w.alloc (.cells (vcells k i f s A n c) 25)) 25 (vcells k2 i2 f2 s2 A2 n2 c2)
  rw [show (w.alloc (.cells (vcells k i f s A n c) 25)).heap.size = w.heap.size + 1 by simp] at hB2
  have hsz : ((w.alloc (.cells (vcells k i f s A n c) 25)).alloc (.cells (vcells k2 i2 f2 s2 A2 n2 c2) 25)).heap.size = w.heap.size + 2 := by simp
  obtain ⟨W0, hW0⟩ : ∃ W0, W0 = (w.alloc (.cells (vcells k i f s A n c) 25)).alloc (.cells (vcells k2 i2 f2 s2 A2 n2 c2) 25) := ⟨_, rfl⟩
  rw [← hW0] at hB1 hB2 hsz hb0
  have keep : ∀ {W : World}, Below (w.heap.size + 2) W0 W → Cells2 w.heap.size (w.heap.size + 1) k i f s A n c k2 i2 f2 s2 A2 n2 c2 W := fun hb => ⟨(hB1.below hb (by omega)).five, (hB2.below hb (by omega)).five⟩
  have HK1 := Lib.hid (fun W (hb : Below (w.heap.size + 2) W0 W) => (kind_calls k i f s A n c W).mono (R' := fun e w' => e = .returned (.int .i64 (kd k)) ∧ Below (w.heap.size + 2) W0 w' ∧ Cells2 w.heap.size (w.heap.size + 1) _ _ _ _ _ _ _ _ _ _ _ _ _ _ w')
    fun e w' ⟨h1, h2⟩ => ⟨h1, hb.trans (h2.mono (hsz ▸ hb.size)), keep (hb.trans (h2.mono (hsz ▸ hb.size)))⟩)
  have HK2 := Lib.hid (fun W (hb : Below (w.heap.size + 2) W0 W) => (kind_calls k2 i2 f2 s2 A2 n2 c2 W).mono (R' := fun e w' => e = .returned (.int .i64 (kd k2)) ∧ Below (w.heap.size + 2) W0 w' ∧ Cells2 w.heap.size (w.heap.size + 1) _ _ _ _ _ _ _ _ _ _ _ _ _ _ w')
    fun e w' ⟨h1, h2⟩ => ⟨h1, hb.trans (h2.mono (hsz ▸ hb.size)), keep (hb.trans (h2.mono (hsz ▸ hb.size)))⟩)
  have HM := Lib.hid (fun W => cmp_int (kd k) (kd k2) W)
  have HB0 := Lib.hid hb0
  have H0 := Lib.hid (Below.refl (w.heap.size + 2) W0)
  have HC := Lib.hid (keep (Below.refl (w.heap.size + 2) W0))
  have HSZ := Lib.hid hsz
  have HL := Lib.hid (fun W (hb : Below (w.heap.size + 2) W0 W) => cmpfunc_calls l l2 ih A n c A2 n2 c2 W hn hn2 hc hc2 (hS.up (hb0.trans (hb.mono (by omega)))) (hS2.up (hb0.trans (hb.mono (by omega)))))
  have HF := Lib.hid (fun W => floats_calls f f2 W hf hf2)
  have HD : Hid (ordV (.mk k i f s l) (.mk k2 i2 f2 s2 l2) = if cmpI (kd k) (kd k2) = 0 then pick (kd k) (cmpI i i2) (floatsO f f2) (Lib.compareBytes s.data.toList s2.data.toList) (ordL l l2) else cmpI (kd k) (kd k2)) := Lib.hid (by rw [ordV])
  have hrg := kd_range k
  clear hv hu hb0 hS hS2 keep hB1 hB2 ih hsz hf hf2
  by_cases he : kd k2 = kd k
  · rw [he, (cmpI_three (kd k)).self] at HM
    rw [he, (cmpI_three (kd k)).self, if_pos rfl] at HD
    rw [he] at HK2
    generalize kd k = K at *
    generalize floatsO f f2 = F at *
    generalize ordL l l2 = L at *
    generalize hbs : Lib.compareBytes s.data.toList s2.data.toList = T at *
    have HT := Lib.hid (fun W => (Tryz.strings_Compare s s2 W))
    rw [hbs] at HT
    clear he hbs
    rcases hrg with rfl | rfl | rfl | rfl | rfl
    all_goals (
      go_enter Tryz.func11, Tryz.ntmps11
      go_wp2_with fail
      rw [← hW0]
      obtain ⟨⟨q0, q1, q2, q3, q4⟩, ⟨z0, z1, z2, z3, z4⟩⟩ := HC.out
      clear hW0
      go_region_held3 (fun w' => (w'.cell? ⟨w.heap.size, 0, none⟩ = some (.int .i64 k) ∧ w'.cell? ⟨w.heap.size, 1, none⟩ = some (.int .i64 i) ∧ w'.cell? ⟨w.heap.size, 2, none⟩ = some (.float .f64 f) ∧ w'.cell? ⟨w.heap.size, 3, none⟩ = some (.string s) ∧ w'.cell? ⟨w.heap.size, 4, none⟩ = some (.slice A n c)) ∧
          (w'.cell? ⟨w.heap.size + 1, 0, none⟩ = some (.int .i64 k2) ∧ w'.cell? ⟨w.heap.size + 1, 1, none⟩ = some (.int .i64 i2) ∧ w'.cell? ⟨w.heap.size + 1, 2, none⟩ = some (.float .f64 f2) ∧ w'.cell? ⟨w.heap.size + 1, 3, none⟩ = some (.string s2) ∧ w'.cell? ⟨w.heap.size + 1, 4, none⟩ = some (.slice A2 n2 c2)))
        (first | exact kB | exact kA | exact HC.out | go_keep)
        (first
          | (go_at_call 31; (with_reducible refine (HK1.out _ ?_).mono ?_); (first | exact hbB | exact H0.out.drew); rintro e wA ⟨rfl, hbA, kA⟩)
          | (go_at_call 31; (with_reducible refine (HK2.out _ ?_).mono ?_); (first | exact hbA | exact H0.out.drew); rintro e wB ⟨rfl, hbB, kB⟩)
          | (go_at_call 30; refine (HM.out _).mono ?_; rintro e wC ⟨rfl, rfl⟩))
      have HBB := Lib.hid hbB
      obtain ⟨⟨q0, q1, q2, q3, q4⟩, ⟨z0, z1, z2, z3, z4⟩⟩ := kB
      clear hbB hbA kA
      go_wp2_with fail
      refine (HK1.out _ HBB.out).mono ?_
      rintro e wD ⟨rfl, hbD, ⟨q0, q1, q2, q3, q4⟩, ⟨z0, z1, z2, z3, z4⟩⟩
      have HBD := Lib.hid hbD
      clear hbD
      go_wp2_with (first
          | (go_at_call 32; refine (cmp_int64 _ _ _).mono ?_; rintro e wE ⟨rfl, rfl⟩)
          | (go_at_call 33; refine (HF.out _).mono ?_; rintro e wE ⟨rfl, rfl⟩)
          | (go_at_call 34; refine (HT.out _).mono ?_; rintro e wE ⟨rfl, rfl⟩)
          | (go_at_call 35; refine (HL.out _ HBD.out).mono ?_; rintro e wE ⟨rfl, hbE⟩))
      go_ret
      refine ⟨by rw [HD.out]; rfl, ?_⟩
      first
        | exact HB0.out.trans ((HBD.out.trans (hbE.mono (HSZ.out ▸ HBD.out.size))).mono (by omega))
        | exact HB0.out.trans (HBD.out.mono (by omega)))
  · have hz : cmpI (kd k) (kd k2) ≠ 0 := by have := cmpI_cases (kd k) (kd k2); omega
    rw [if_neg hz] at HD
    generalize cmpI (kd k) (kd k2) = r at *
    generalize kd k = K at *
    generalize kd k2 = K2 at *
    have hr : (r != 0) = true := by simpa using hz
    clear hz he hrg
    go_enter Tryz.func11, Tryz.ntmps11
    go_wp2_with fail
    rw [← hW0]
    obtain ⟨⟨q0, q1, q2, q3, q4⟩, ⟨z0, z1, z2, z3, z4⟩⟩ := HC.out
    clear hW0
    go_region_held3 (fun w' => (w'.cell? ⟨w.heap.size, 0, none⟩ = some (.int .i64 k) ∧ w'.cell? ⟨w.heap.size, 1, none⟩ = some (.int .i64 i) ∧ w'.cell? ⟨w.heap.size, 2, none⟩ = some (.float .f64 f) ∧ w'.cell? ⟨w.heap.size, 3, none⟩ = some (.string s) ∧ w'.cell? ⟨w.heap.size, 4, none⟩ = some (.slice A n c)) ∧
        (w'.cell? ⟨w.heap.size + 1, 0, none⟩ = some (.int .i64 k2) ∧ w'.cell? ⟨w.heap.size + 1, 1, none⟩ = some (.int .i64 i2) ∧ w'.cell? ⟨w.heap.size + 1, 2, none⟩ = some (.float .f64 f2) ∧ w'.cell? ⟨w.heap.size + 1, 3, none⟩ = some (.string s2) ∧ w'.cell? ⟨w.heap.size + 1, 4, none⟩ = some (.slice A2 n2 c2)))
      (first | exact kB | exact kA | exact HC.out | go_keep)
      (first
        | (go_at_call 31; (with_reducible refine (HK1.out _ ?_).mono ?_); (first | exact hbB | exact H0.out.drew); rintro e wA ⟨rfl, hbA, kA⟩)
        | (go_at_call 31; (with_reducible refine (HK2.out _ ?_).mono ?_); (first | exact hbA | exact H0.out.drew); rintro e wB ⟨rfl, hbB, kB⟩)
        | (go_at_call 30; refine (HM.out _).mono ?_; rintro e wC ⟨rfl, rfl⟩))
    have HBB := Lib.hid hbB
    clear hbB hbA kA kB
    go_wp2_with fail
    go_ret
    exact ⟨by rw [HD.out]; rfl, HB0.out.trans (HBB.out.mono (by omega))⟩

theorem order_calls (x : Val) : OrdC x := Val.ind (p := OrdC) order_step x

end Go.Proofs.YthmdfliimlimhaaGreatDoor
