/- ValueLine: contract. -/
import Derived.Test.YthmdfliimlimhaaGreatDoorW11
namespace Go.Proofs.YthmdfliimlimhaaGreatDoor
open Go.RowKit

attribute [local go_sem ↓] Go.wp_at_zero Go.wp_at_succ

abbrev Boxes3 (p q r : Nat) (k1 i1 : Int) (f1 : Nat) (s1 : ByteArray) (A1 : Option Addr) (n1 c1 : Nat) (k2 i2 : Int) (f2 : Nat) (s2 : ByteArray) (A2 : Option Addr) (n2 c2 : Nat) (k3 i3 : Int) (f3 : Nat) (s3 : ByteArray) (A3 : Option Addr) (n3 c3 : Nat) (w : World) : Prop :=
  (w.cell? ⟨p, 0, none⟩ = some (.int .i64 k1) ∧ w.cell? ⟨p, 1, none⟩ = some (.int .i64 i1) ∧ w.cell? ⟨p, 2, none⟩ = some (.float .f64 f1) ∧ w.cell? ⟨p, 3, none⟩ = some (.string s1) ∧ w.cell? ⟨p, 4, none⟩ = some (.slice A1 n1 c1)) ∧ (w.cell? ⟨q, 0, none⟩ = some (.int .i64 k2) ∧ w.cell? ⟨q, 1, none⟩ = some (.int .i64 i2) ∧ w.cell? ⟨q, 2, none⟩ = some (.float .f64 f2) ∧ w.cell? ⟨q, 3, none⟩ = some (.string s2) ∧ w.cell? ⟨q, 4, none⟩ = some (.slice A2 n2 c2)) ∧ (w.cell? ⟨r, 0, none⟩ = some (.int .i64 k3) ∧ w.cell? ⟨r, 1, none⟩ = some (.int .i64 i3) ∧ w.cell? ⟨r, 2, none⟩ = some (.float .f64 f3) ∧ w.cell? ⟨r, 3, none⟩ = some (.string s3) ∧ w.cell? ⟨r, 4, none⟩ = some (.slice A3 n3 c3))

set_option maxRecDepth 100000 in
set_option maxHeartbeats 6400000 in
theorem line_calls (x y z : Val) (v u t : Value) (w : World) (hG : Globs w) (hx : VAt w w.heap.size x v) (hy : VAt w w.heap.size y u) (hz : VAt w w.heap.size z t) : Calls Tryz.prog 3 #[v, u, t] w (Says w (.bool true)) := by
  have T1 := ordV_three x
  have t1 := T1.ways y
  have t2 := (ordV_three y).ways z
  have t3 := T1.ways z
  have t4 := T1.anti y
  have t5 := T1.line y z
  clear T1
  obtain ⟨k1, i1, f1, s1, l1⟩ := x
  obtain ⟨k2, i2, f2, s2, l2⟩ := y
  obtain ⟨k3, i3, f3, s3, l3⟩ := z
  obtain ⟨A1, n1, c1, rfl, _, _, _, _, _⟩ := hx.parts
  obtain ⟨A2, n2, c2, rfl, _, _, _, _, _⟩ := hy.parts
  obtain ⟨A3, n3, c3, rfl, _, _, _, _, _⟩ := hz.parts
  obtain ⟨W0, hW0⟩ : ∃ W0, W0 = ((w.alloc (.cells (vcells k1 i1 f1 s1 A1 n1 c1) 25)).alloc (.cells (vcells k2 i2 f2 s2 A2 n2 c2) 25)).alloc (.cells (vcells k3 i3 f3 s3 A3 n3 c3) 25) := ⟨_, rfl⟩
  have hb0 : Below w.heap.size w W0 := hW0 ▸ (((Below.refl _ w).alloc (Nat.le_refl _) _).alloc (by simp) _).alloc (by simp; omega) _
  have hsz : W0.heap.size = w.heap.size + 3 := by rw [hW0]; simp
  have hP1 : Blk W0 w.heap.size 25 (vcells k1 i1 f1 s1 A1 n1 c1) := hW0 ▸ ((Blk.new w 25 _).alloc _).alloc _
  have hP2 : Blk W0 (w.heap.size + 1) 25 (vcells k2 i2 f2 s2 A2 n2 c2) := by
    have := (Blk.new (w.alloc (.cells (vcells k1 i1 f1 s1 A1 n1 c1) 25)) 25 (vcells k2 i2 f2 s2 A2 n2 c2)).alloc (.cells (vcells k3 i3 f3 s3 A3 n3 c3) 25)
    rw [hW0]
    simpa using this
  have hP3 : Blk W0 (w.heap.size + 1 + 1) 25 (vcells k3 i3 f3 s3 A3 n3 c3) := by
    have := Blk.new ((w.alloc (.cells (vcells k1 i1 f1 s1 A1 n1 c1) 25)).alloc (.cells (vcells k2 i2 f2 s2 A2 n2 c2) 25)) 25 (vcells k3 i3 f3 s3 A3 n3 c3)
    rw [hW0]
    simpa using this
  go_enter Tryz.func3, Tryz.ntmps3
  go_wp2_with fail
  rw [← hW0]
  generalize hp : w.heap.size = p at *
  generalize hq : p + 1 = q at *
  generalize hr : q + 1 = r at *
  have keep : ∀ W, Below W0.heap.size W0 W → Boxes3 p q r k1 i1 f1 s1 A1 n1 c1 k2 i2 f2 s2 A2 n2 c2 k3 i3 f3 s3 A3 n3 c3 W := fun W hb => ⟨(hP1.below hb hP1.lt).five, (hP2.below hb hP2.lt).five, (hP3.below hb hP3.lt).five⟩
  have lift : ∀ {N : Nat} {args : Array Value} {W : World} {v : Value}, Calls Tryz.prog N args W (Says W v) → Below W0.heap.size W0 W → Calls Tryz.prog N args W (fun e w' => e = .returned v ∧ Below W0.heap.size W0 w' ∧ Boxes3 p q r k1 i1 f1 s1 A1 n1 c1 k2 i2 f2 s2 A2 n2 c2 k3 i3 f3 s3 A3 n3 c3 w') :=
    fun h hb => h.mono fun e w' ⟨h1, h2⟩ => ⟨h1, hb.trans (h2.mono hb.size), keep _ (hb.trans (h2.mono hb.size))⟩
  have up : ∀ W, Below W0.heap.size W0 W → Below p w W := fun W hb => hb0.trans (hb.mono (by omega))
  have X1 : ∀ W, Below W0.heap.size W0 W → VAt W W.heap.size (.mk k1 i1 f1 s1 l1) (.agg (vcells k1 i1 f1 s1 A1 n1 c1)) := fun W hb => (hx.below (up W hb)).more (by have := (up W hb).size; omega)
  have X2 : ∀ W, Below W0.heap.size W0 W → VAt W W.heap.size (.mk k2 i2 f2 s2 l2) (.agg (vcells k2 i2 f2 s2 A2 n2 c2)) := fun W hb => (hy.below (up W hb)).more (by have := (up W hb).size; omega)
  have X3 : ∀ W, Below W0.heap.size W0 W → VAt W W.heap.size (.mk k3 i3 f3 s3 l3) (.agg (vcells k3 i3 f3 s3 A3 n3 c3)) := fun W hb => (hz.below (up W hb)).more (by have := (up W hb).size; omega)
  have HKN := Lib.hid (fun W hb => lift (known_calls W (hG.up (hp ▸ up W hb))) hb)
  have HL1 := Lib.hid (fun W hb => lift (light_calls _ _ _ W rfl (X1 W hb)) hb)
  have HL2 := Lib.hid (fun W hb => lift (light_calls _ _ _ W rfl (X2 W hb)) hb)
  have HL3 := Lib.hid (fun W hb => lift (light_calls _ _ _ W rfl (X3 W hb)) hb)
  have HAB := Lib.hid (fun W hb => lift (order_calls _ _ _ _ W (X1 W hb) (X2 W hb)) hb)
  have HBC := Lib.hid (fun W hb => lift (order_calls _ _ _ _ W (X2 W hb) (X3 W hb)) hb)
  have HAC := Lib.hid (fun W hb => lift (order_calls _ _ _ _ W (X1 W hb) (X3 W hb)) hb)
  have HBA := Lib.hid (fun W hb => lift (order_calls _ _ _ _ W (X2 W hb) (X1 W hb)) hb)
  have hb := Below.refl W0.heap.size W0
  obtain ⟨⟨a0, a1, a2, a3, a4⟩, ⟨b0, b1, b2, b3, b4⟩, d0, d1, d2, d3, d4⟩ := keep _ hb
  have HU : Hid (∀ W, Below W0.heap.size W0 W → Below w.heap.size w W) := Lib.hid (fun W hb => by rw [hp]; exact up W hb)
  clear hW0 hb0 hP1 hP2 hP3 keep lift up X1 X2 X3 hx hy hz hG
  generalize ordV (.mk k1 i1 f1 s1 l1) (.mk k2 i2 f2 s2 l2) = ab at *
  generalize ordV (.mk k2 i2 f2 s2 l2) (.mk k3 i3 f3 s3 l3) = bc at *
  generalize ordV (.mk k1 i1 f1 s1 l1) (.mk k3 i3 f3 s3 l3) = ac at *
  generalize ordV (.mk k2 i2 f2 s2 l2) (.mk k1 i1 f1 s1 l1) = ba at *
  generalize lightV (.mk k1 i1 f1 s1 l1) = la at *
  generalize lightV (.mk k2 i2 f2 s2 l2) = lb at *
  generalize lightV (.mk k3 i3 f3 s3 l3) = lc at *
  clear hp hq hr hsz
  subst t4
  cases la with
  | false =>
    go_wp2_with (first
      | (go_at_call 9; (with_reducible refine (HKN.out _ ?_).mono ?_); (first | exact hb | exact hb.drew); clear hb a0 a1 a2 a3 a4 b0 b1 b2 b3 b4 d0 d1 d2 d3 d4; rintro e w1 ⟨rfl, hb, ⟨a0, a1, a2, a3, a4⟩, ⟨b0, b1, b2, b3, b4⟩, d0, d1, d2, d3, d4⟩)
      | (go_at_call 10; (with_reducible refine (HL1.out _ ?_).mono ?_); (first | exact hb | exact hb.drew); clear hb a0 a1 a2 a3 a4 b0 b1 b2 b3 b4 d0 d1 d2 d3 d4; rintro e w2 ⟨rfl, hb, ⟨a0, a1, a2, a3, a4⟩, ⟨b0, b1, b2, b3, b4⟩, d0, d1, d2, d3, d4⟩)
      | (go_at_call 10; (with_reducible refine (HL2.out _ ?_).mono ?_); (first | exact hb | exact hb.drew); clear hb a0 a1 a2 a3 a4 b0 b1 b2 b3 b4 d0 d1 d2 d3 d4; rintro e w3 ⟨rfl, hb, ⟨a0, a1, a2, a3, a4⟩, ⟨b0, b1, b2, b3, b4⟩, d0, d1, d2, d3, d4⟩)
      | (go_at_call 10; (with_reducible refine (HL3.out _ ?_).mono ?_); (first | exact hb | exact hb.drew); clear hb a0 a1 a2 a3 a4 b0 b1 b2 b3 b4 d0 d1 d2 d3 d4; rintro e w4 ⟨rfl, hb, ⟨a0, a1, a2, a3, a4⟩, ⟨b0, b1, b2, b3, b4⟩, d0, d1, d2, d3, d4⟩)
      | (go_at_call 11; (with_reducible refine (HAB.out _ ?_).mono ?_); (first | exact hb | exact hb.drew); clear hb a0 a1 a2 a3 a4 b0 b1 b2 b3 b4 d0 d1 d2 d3 d4; rintro e w5 ⟨rfl, hb, ⟨a0, a1, a2, a3, a4⟩, ⟨b0, b1, b2, b3, b4⟩, d0, d1, d2, d3, d4⟩)
      | (go_at_call 11; (with_reducible refine (HBC.out _ ?_).mono ?_); (first | exact hb | exact hb.drew); clear hb a0 a1 a2 a3 a4 b0 b1 b2 b3 b4 d0 d1 d2 d3 d4; rintro e w6 ⟨rfl, hb, ⟨a0, a1, a2, a3, a4⟩, ⟨b0, b1, b2, b3, b4⟩, d0, d1, d2, d3, d4⟩)
      | (go_at_call 11; (with_reducible refine (HAC.out _ ?_).mono ?_); (first | exact hb | exact hb.drew); clear hb a0 a1 a2 a3 a4 b0 b1 b2 b3 b4 d0 d1 d2 d3 d4; rintro e w7 ⟨rfl, hb, ⟨a0, a1, a2, a3, a4⟩, ⟨b0, b1, b2, b3, b4⟩, d0, d1, d2, d3, d4⟩))
    go_ret
    exact ⟨rfl, HU.out _ hb⟩
  | true =>
  cases lb with
  | false =>
    go_wp2_with (first
      | (go_at_call 9; (with_reducible refine (HKN.out _ ?_).mono ?_); (first | exact hb | exact hb.drew); clear hb a0 a1 a2 a3 a4 b0 b1 b2 b3 b4 d0 d1 d2 d3 d4; rintro e w1 ⟨rfl, hb, ⟨a0, a1, a2, a3, a4⟩, ⟨b0, b1, b2, b3, b4⟩, d0, d1, d2, d3, d4⟩)
      | (go_at_call 10; (with_reducible refine (HL1.out _ ?_).mono ?_); (first | exact hb | exact hb.drew); clear hb a0 a1 a2 a3 a4 b0 b1 b2 b3 b4 d0 d1 d2 d3 d4; rintro e w2 ⟨rfl, hb, ⟨a0, a1, a2, a3, a4⟩, ⟨b0, b1, b2, b3, b4⟩, d0, d1, d2, d3, d4⟩)
      | (go_at_call 10; (with_reducible refine (HL2.out _ ?_).mono ?_); (first | exact hb | exact hb.drew); clear hb a0 a1 a2 a3 a4 b0 b1 b2 b3 b4 d0 d1 d2 d3 d4; rintro e w3 ⟨rfl, hb, ⟨a0, a1, a2, a3, a4⟩, ⟨b0, b1, b2, b3, b4⟩, d0, d1, d2, d3, d4⟩)
      | (go_at_call 10; (with_reducible refine (HL3.out _ ?_).mono ?_); (first | exact hb | exact hb.drew); clear hb a0 a1 a2 a3 a4 b0 b1 b2 b3 b4 d0 d1 d2 d3 d4; rintro e w4 ⟨rfl, hb, ⟨a0, a1, a2, a3, a4⟩, ⟨b0, b1, b2, b3, b4⟩, d0, d1, d2, d3, d4⟩)
      | (go_at_call 11; (with_reducible refine (HAB.out _ ?_).mono ?_); (first | exact hb | exact hb.drew); clear hb a0 a1 a2 a3 a4 b0 b1 b2 b3 b4 d0 d1 d2 d3 d4; rintro e w5 ⟨rfl, hb, ⟨a0, a1, a2, a3, a4⟩, ⟨b0, b1, b2, b3, b4⟩, d0, d1, d2, d3, d4⟩)
      | (go_at_call 11; (with_reducible refine (HBC.out _ ?_).mono ?_); (first | exact hb | exact hb.drew); clear hb a0 a1 a2 a3 a4 b0 b1 b2 b3 b4 d0 d1 d2 d3 d4; rintro e w6 ⟨rfl, hb, ⟨a0, a1, a2, a3, a4⟩, ⟨b0, b1, b2, b3, b4⟩, d0, d1, d2, d3, d4⟩)
      | (go_at_call 11; (with_reducible refine (HAC.out _ ?_).mono ?_); (first | exact hb | exact hb.drew); clear hb a0 a1 a2 a3 a4 b0 b1 b2 b3 b4 d0 d1 d2 d3 d4; rintro e w7 ⟨rfl, hb, ⟨a0, a1, a2, a3, a4⟩, ⟨b0, b1, b2, b3, b4⟩, d0, d1, d2, d3, d4⟩))
    go_ret
    exact ⟨rfl, HU.out _ hb⟩
  | true =>
  cases lc with
  | false =>
    go_wp2_with (first
      | (go_at_call 9; (with_reducible refine (HKN.out _ ?_).mono ?_); (first | exact hb | exact hb.drew); clear hb a0 a1 a2 a3 a4 b0 b1 b2 b3 b4 d0 d1 d2 d3 d4; rintro e w1 ⟨rfl, hb, ⟨a0, a1, a2, a3, a4⟩, ⟨b0, b1, b2, b3, b4⟩, d0, d1, d2, d3, d4⟩)
      | (go_at_call 10; (with_reducible refine (HL1.out _ ?_).mono ?_); (first | exact hb | exact hb.drew); clear hb a0 a1 a2 a3 a4 b0 b1 b2 b3 b4 d0 d1 d2 d3 d4; rintro e w2 ⟨rfl, hb, ⟨a0, a1, a2, a3, a4⟩, ⟨b0, b1, b2, b3, b4⟩, d0, d1, d2, d3, d4⟩)
      | (go_at_call 10; (with_reducible refine (HL2.out _ ?_).mono ?_); (first | exact hb | exact hb.drew); clear hb a0 a1 a2 a3 a4 b0 b1 b2 b3 b4 d0 d1 d2 d3 d4; rintro e w3 ⟨rfl, hb, ⟨a0, a1, a2, a3, a4⟩, ⟨b0, b1, b2, b3, b4⟩, d0, d1, d2, d3, d4⟩)
      | (go_at_call 10; (with_reducible refine (HL3.out _ ?_).mono ?_); (first | exact hb | exact hb.drew); clear hb a0 a1 a2 a3 a4 b0 b1 b2 b3 b4 d0 d1 d2 d3 d4; rintro e w4 ⟨rfl, hb, ⟨a0, a1, a2, a3, a4⟩, ⟨b0, b1, b2, b3, b4⟩, d0, d1, d2, d3, d4⟩)
      | (go_at_call 11; (with_reducible refine (HAB.out _ ?_).mono ?_); (first | exact hb | exact hb.drew); clear hb a0 a1 a2 a3 a4 b0 b1 b2 b3 b4 d0 d1 d2 d3 d4; rintro e w5 ⟨rfl, hb, ⟨a0, a1, a2, a3, a4⟩, ⟨b0, b1, b2, b3, b4⟩, d0, d1, d2, d3, d4⟩)
      | (go_at_call 11; (with_reducible refine (HBC.out _ ?_).mono ?_); (first | exact hb | exact hb.drew); clear hb a0 a1 a2 a3 a4 b0 b1 b2 b3 b4 d0 d1 d2 d3 d4; rintro e w6 ⟨rfl, hb, ⟨a0, a1, a2, a3, a4⟩, ⟨b0, b1, b2, b3, b4⟩, d0, d1, d2, d3, d4⟩)
      | (go_at_call 11; (with_reducible refine (HAC.out _ ?_).mono ?_); (first | exact hb | exact hb.drew); clear hb a0 a1 a2 a3 a4 b0 b1 b2 b3 b4 d0 d1 d2 d3 d4; rintro e w7 ⟨rfl, hb, ⟨a0, a1, a2, a3, a4⟩, ⟨b0, b1, b2, b3, b4⟩, d0, d1, d2, d3, d4⟩))
    go_ret
    exact ⟨rfl, HU.out _ hb⟩
  | true =>
  have hcase : ab = 1 ∨ (ab = -1 ∧ bc = 1) ∨ (ab = 0 ∧ bc = 1) ∨ (ab = -1 ∧ bc = -1 ∧ ac = -1) ∨ (ab = -1 ∧ bc = 0 ∧ ac = -1) ∨ (ab = 0 ∧ bc = -1 ∧ ac = -1) ∨ (ab = 0 ∧ bc = 0 ∧ ac = -1) ∨ (ab = 0 ∧ bc = 0 ∧ ac = 0) := by omega
  clear t1 t2 t3 t5
  rcases hcase with rfl | ⟨rfl, rfl⟩ | ⟨rfl, rfl⟩ | ⟨rfl, rfl, rfl⟩ | ⟨rfl, rfl, rfl⟩ | ⟨rfl, rfl, rfl⟩ | ⟨rfl, rfl, rfl⟩ | ⟨rfl, rfl, rfl⟩
  · go_wp2_with (first
      | (go_at_call 9; (with_reducible refine (HKN.out _ ?_).mono ?_); (first | exact hb | exact hb.drew); clear hb a0 a1 a2 a3 a4 b0 b1 b2 b3 b4 d0 d1 d2 d3 d4; rintro e w1 ⟨rfl, hb, ⟨a0, a1, a2, a3, a4⟩, ⟨b0, b1, b2, b3, b4⟩, d0, d1, d2, d3, d4⟩)
      | (go_at_call 10; (with_reducible refine (HL1.out _ ?_).mono ?_); (first | exact hb | exact hb.drew); clear hb a0 a1 a2 a3 a4 b0 b1 b2 b3 b4 d0 d1 d2 d3 d4; rintro e w2 ⟨rfl, hb, ⟨a0, a1, a2, a3, a4⟩, ⟨b0, b1, b2, b3, b4⟩, d0, d1, d2, d3, d4⟩)
      | (go_at_call 10; (with_reducible refine (HL2.out _ ?_).mono ?_); (first | exact hb | exact hb.drew); clear hb a0 a1 a2 a3 a4 b0 b1 b2 b3 b4 d0 d1 d2 d3 d4; rintro e w3 ⟨rfl, hb, ⟨a0, a1, a2, a3, a4⟩, ⟨b0, b1, b2, b3, b4⟩, d0, d1, d2, d3, d4⟩)
      | (go_at_call 10; (with_reducible refine (HL3.out _ ?_).mono ?_); (first | exact hb | exact hb.drew); clear hb a0 a1 a2 a3 a4 b0 b1 b2 b3 b4 d0 d1 d2 d3 d4; rintro e w4 ⟨rfl, hb, ⟨a0, a1, a2, a3, a4⟩, ⟨b0, b1, b2, b3, b4⟩, d0, d1, d2, d3, d4⟩)
      | (go_at_call 11; (with_reducible refine (HAB.out _ ?_).mono ?_); (first | exact hb | exact hb.drew); clear hb a0 a1 a2 a3 a4 b0 b1 b2 b3 b4 d0 d1 d2 d3 d4; rintro e w5 ⟨rfl, hb, ⟨a0, a1, a2, a3, a4⟩, ⟨b0, b1, b2, b3, b4⟩, d0, d1, d2, d3, d4⟩)
      | (go_at_call 11; (with_reducible refine (HBC.out _ ?_).mono ?_); (first | exact hb | exact hb.drew); clear hb a0 a1 a2 a3 a4 b0 b1 b2 b3 b4 d0 d1 d2 d3 d4; rintro e w6 ⟨rfl, hb, ⟨a0, a1, a2, a3, a4⟩, ⟨b0, b1, b2, b3, b4⟩, d0, d1, d2, d3, d4⟩)
      | (go_at_call 11; (with_reducible refine (HAC.out _ ?_).mono ?_); (first | exact hb | exact hb.drew); clear hb a0 a1 a2 a3 a4 b0 b1 b2 b3 b4 d0 d1 d2 d3 d4; rintro e w7 ⟨rfl, hb, ⟨a0, a1, a2, a3, a4⟩, ⟨b0, b1, b2, b3, b4⟩, d0, d1, d2, d3, d4⟩))
    go_region_held3 (fun w' => (w'.cell? ⟨p, 0, none⟩ = some (.int .i64 k1) ∧ w'.cell? ⟨p, 1, none⟩ = some (.int .i64 i1) ∧ w'.cell? ⟨p, 2, none⟩ = some (.float .f64 f1) ∧ w'.cell? ⟨p, 3, none⟩ = some (.string s1) ∧ w'.cell? ⟨p, 4, none⟩ = some (.slice A1 n1 c1)) ∧ (w'.cell? ⟨q, 0, none⟩ = some (.int .i64 k2) ∧ w'.cell? ⟨q, 1, none⟩ = some (.int .i64 i2) ∧ w'.cell? ⟨q, 2, none⟩ = some (.float .f64 f2) ∧ w'.cell? ⟨q, 3, none⟩ = some (.string s2) ∧ w'.cell? ⟨q, 4, none⟩ = some (.slice A2 n2 c2)) ∧ (w'.cell? ⟨r, 0, none⟩ = some (.int .i64 k3) ∧ w'.cell? ⟨r, 1, none⟩ = some (.int .i64 i3) ∧ w'.cell? ⟨r, 2, none⟩ = some (.float .f64 f3) ∧ w'.cell? ⟨r, 3, none⟩ = some (.string s3) ∧ w'.cell? ⟨r, 4, none⟩ = some (.slice A3 n3 c3))) (first | exact ⟨⟨a0, a1, a2, a3, a4⟩, ⟨b0, b1, b2, b3, b4⟩, d0, d1, d2, d3, d4⟩ | go_keep)
      (first
        | (go_at_call 11; (with_reducible refine (HAB.out _ ?_).mono ?_); (first | exact hb | exact hb.drew); clear hb a0 a1 a2 a3 a4 b0 b1 b2 b3 b4 d0 d1 d2 d3 d4; rintro e w8 ⟨rfl, hb, ⟨a0, a1, a2, a3, a4⟩, ⟨b0, b1, b2, b3, b4⟩, d0, d1, d2, d3, d4⟩)
        | (go_at_call 11; (with_reducible refine (HBA.out _ ?_).mono ?_); (first | exact hb | exact hb.drew); clear hb a0 a1 a2 a3 a4 b0 b1 b2 b3 b4 d0 d1 d2 d3 d4; rintro e w9 ⟨rfl, hb, ⟨a0, a1, a2, a3, a4⟩, ⟨b0, b1, b2, b3, b4⟩, d0, d1, d2, d3, d4⟩))
    all_goals (
      go_wp2_with fail
      go_ret
      exact ⟨rfl, HU.out _ hb⟩)
  · go_wp2_with (first
      | (go_at_call 9; (with_reducible refine (HKN.out _ ?_).mono ?_); (first | exact hb | exact hb.drew); clear hb a0 a1 a2 a3 a4 b0 b1 b2 b3 b4 d0 d1 d2 d3 d4; rintro e w1 ⟨rfl, hb, ⟨a0, a1, a2, a3, a4⟩, ⟨b0, b1, b2, b3, b4⟩, d0, d1, d2, d3, d4⟩)
      | (go_at_call 10; (with_reducible refine (HL1.out _ ?_).mono ?_); (first | exact hb | exact hb.drew); clear hb a0 a1 a2 a3 a4 b0 b1 b2 b3 b4 d0 d1 d2 d3 d4; rintro e w2 ⟨rfl, hb, ⟨a0, a1, a2, a3, a4⟩, ⟨b0, b1, b2, b3, b4⟩, d0, d1, d2, d3, d4⟩)
      | (go_at_call 10; (with_reducible refine (HL2.out _ ?_).mono ?_); (first | exact hb | exact hb.drew); clear hb a0 a1 a2 a3 a4 b0 b1 b2 b3 b4 d0 d1 d2 d3 d4; rintro e w3 ⟨rfl, hb, ⟨a0, a1, a2, a3, a4⟩, ⟨b0, b1, b2, b3, b4⟩, d0, d1, d2, d3, d4⟩)
      | (go_at_call 10; (with_reducible refine (HL3.out _ ?_).mono ?_); (first | exact hb | exact hb.drew); clear hb a0 a1 a2 a3 a4 b0 b1 b2 b3 b4 d0 d1 d2 d3 d4; rintro e w4 ⟨rfl, hb, ⟨a0, a1, a2, a3, a4⟩, ⟨b0, b1, b2, b3, b4⟩, d0, d1, d2, d3, d4⟩)
      | (go_at_call 11; (with_reducible refine (HAB.out _ ?_).mono ?_); (first | exact hb | exact hb.drew); clear hb a0 a1 a2 a3 a4 b0 b1 b2 b3 b4 d0 d1 d2 d3 d4; rintro e w5 ⟨rfl, hb, ⟨a0, a1, a2, a3, a4⟩, ⟨b0, b1, b2, b3, b4⟩, d0, d1, d2, d3, d4⟩)
      | (go_at_call 11; (with_reducible refine (HBC.out _ ?_).mono ?_); (first | exact hb | exact hb.drew); clear hb a0 a1 a2 a3 a4 b0 b1 b2 b3 b4 d0 d1 d2 d3 d4; rintro e w6 ⟨rfl, hb, ⟨a0, a1, a2, a3, a4⟩, ⟨b0, b1, b2, b3, b4⟩, d0, d1, d2, d3, d4⟩)
      | (go_at_call 11; (with_reducible refine (HAC.out _ ?_).mono ?_); (first | exact hb | exact hb.drew); clear hb a0 a1 a2 a3 a4 b0 b1 b2 b3 b4 d0 d1 d2 d3 d4; rintro e w7 ⟨rfl, hb, ⟨a0, a1, a2, a3, a4⟩, ⟨b0, b1, b2, b3, b4⟩, d0, d1, d2, d3, d4⟩))
    go_region_held3 (fun w' => (w'.cell? ⟨p, 0, none⟩ = some (.int .i64 k1) ∧ w'.cell? ⟨p, 1, none⟩ = some (.int .i64 i1) ∧ w'.cell? ⟨p, 2, none⟩ = some (.float .f64 f1) ∧ w'.cell? ⟨p, 3, none⟩ = some (.string s1) ∧ w'.cell? ⟨p, 4, none⟩ = some (.slice A1 n1 c1)) ∧ (w'.cell? ⟨q, 0, none⟩ = some (.int .i64 k2) ∧ w'.cell? ⟨q, 1, none⟩ = some (.int .i64 i2) ∧ w'.cell? ⟨q, 2, none⟩ = some (.float .f64 f2) ∧ w'.cell? ⟨q, 3, none⟩ = some (.string s2) ∧ w'.cell? ⟨q, 4, none⟩ = some (.slice A2 n2 c2)) ∧ (w'.cell? ⟨r, 0, none⟩ = some (.int .i64 k3) ∧ w'.cell? ⟨r, 1, none⟩ = some (.int .i64 i3) ∧ w'.cell? ⟨r, 2, none⟩ = some (.float .f64 f3) ∧ w'.cell? ⟨r, 3, none⟩ = some (.string s3) ∧ w'.cell? ⟨r, 4, none⟩ = some (.slice A3 n3 c3))) (first | exact ⟨⟨a0, a1, a2, a3, a4⟩, ⟨b0, b1, b2, b3, b4⟩, d0, d1, d2, d3, d4⟩ | go_keep)
      (first
        | (go_at_call 11; (with_reducible refine (HAB.out _ ?_).mono ?_); (first | exact hb | exact hb.drew); clear hb a0 a1 a2 a3 a4 b0 b1 b2 b3 b4 d0 d1 d2 d3 d4; rintro e w8 ⟨rfl, hb, ⟨a0, a1, a2, a3, a4⟩, ⟨b0, b1, b2, b3, b4⟩, d0, d1, d2, d3, d4⟩)
        | (go_at_call 11; (with_reducible refine (HBA.out _ ?_).mono ?_); (first | exact hb | exact hb.drew); clear hb a0 a1 a2 a3 a4 b0 b1 b2 b3 b4 d0 d1 d2 d3 d4; rintro e w9 ⟨rfl, hb, ⟨a0, a1, a2, a3, a4⟩, ⟨b0, b1, b2, b3, b4⟩, d0, d1, d2, d3, d4⟩))
    all_goals (
      go_wp2_with fail
      go_ret
      exact ⟨rfl, HU.out _ hb⟩)
  · go_wp2_with (first
      | (go_at_call 9; (with_reducible refine (HKN.out _ ?_).mono ?_); (first | exact hb | exact hb.drew); clear hb a0 a1 a2 a3 a4 b0 b1 b2 b3 b4 d0 d1 d2 d3 d4; rintro e w1 ⟨rfl, hb, ⟨a0, a1, a2, a3, a4⟩, ⟨b0, b1, b2, b3, b4⟩, d0, d1, d2, d3, d4⟩)
      | (go_at_call 10; (with_reducible refine (HL1.out _ ?_).mono ?_); (first | exact hb | exact hb.drew); clear hb a0 a1 a2 a3 a4 b0 b1 b2 b3 b4 d0 d1 d2 d3 d4; rintro e w2 ⟨rfl, hb, ⟨a0, a1, a2, a3, a4⟩, ⟨b0, b1, b2, b3, b4⟩, d0, d1, d2, d3, d4⟩)
      | (go_at_call 10; (with_reducible refine (HL2.out _ ?_).mono ?_); (first | exact hb | exact hb.drew); clear hb a0 a1 a2 a3 a4 b0 b1 b2 b3 b4 d0 d1 d2 d3 d4; rintro e w3 ⟨rfl, hb, ⟨a0, a1, a2, a3, a4⟩, ⟨b0, b1, b2, b3, b4⟩, d0, d1, d2, d3, d4⟩)
      | (go_at_call 10; (with_reducible refine (HL3.out _ ?_).mono ?_); (first | exact hb | exact hb.drew); clear hb a0 a1 a2 a3 a4 b0 b1 b2 b3 b4 d0 d1 d2 d3 d4; rintro e w4 ⟨rfl, hb, ⟨a0, a1, a2, a3, a4⟩, ⟨b0, b1, b2, b3, b4⟩, d0, d1, d2, d3, d4⟩)
      | (go_at_call 11; (with_reducible refine (HAB.out _ ?_).mono ?_); (first | exact hb | exact hb.drew); clear hb a0 a1 a2 a3 a4 b0 b1 b2 b3 b4 d0 d1 d2 d3 d4; rintro e w5 ⟨rfl, hb, ⟨a0, a1, a2, a3, a4⟩, ⟨b0, b1, b2, b3, b4⟩, d0, d1, d2, d3, d4⟩)
      | (go_at_call 11; (with_reducible refine (HBC.out _ ?_).mono ?_); (first | exact hb | exact hb.drew); clear hb a0 a1 a2 a3 a4 b0 b1 b2 b3 b4 d0 d1 d2 d3 d4; rintro e w6 ⟨rfl, hb, ⟨a0, a1, a2, a3, a4⟩, ⟨b0, b1, b2, b3, b4⟩, d0, d1, d2, d3, d4⟩)
      | (go_at_call 11; (with_reducible refine (HAC.out _ ?_).mono ?_); (first | exact hb | exact hb.drew); clear hb a0 a1 a2 a3 a4 b0 b1 b2 b3 b4 d0 d1 d2 d3 d4; rintro e w7 ⟨rfl, hb, ⟨a0, a1, a2, a3, a4⟩, ⟨b0, b1, b2, b3, b4⟩, d0, d1, d2, d3, d4⟩))
    go_region_held3 (fun w' => (w'.cell? ⟨p, 0, none⟩ = some (.int .i64 k1) ∧ w'.cell? ⟨p, 1, none⟩ = some (.int .i64 i1) ∧ w'.cell? ⟨p, 2, none⟩ = some (.float .f64 f1) ∧ w'.cell? ⟨p, 3, none⟩ = some (.string s1) ∧ w'.cell? ⟨p, 4, none⟩ = some (.slice A1 n1 c1)) ∧ (w'.cell? ⟨q, 0, none⟩ = some (.int .i64 k2) ∧ w'.cell? ⟨q, 1, none⟩ = some (.int .i64 i2) ∧ w'.cell? ⟨q, 2, none⟩ = some (.float .f64 f2) ∧ w'.cell? ⟨q, 3, none⟩ = some (.string s2) ∧ w'.cell? ⟨q, 4, none⟩ = some (.slice A2 n2 c2)) ∧ (w'.cell? ⟨r, 0, none⟩ = some (.int .i64 k3) ∧ w'.cell? ⟨r, 1, none⟩ = some (.int .i64 i3) ∧ w'.cell? ⟨r, 2, none⟩ = some (.float .f64 f3) ∧ w'.cell? ⟨r, 3, none⟩ = some (.string s3) ∧ w'.cell? ⟨r, 4, none⟩ = some (.slice A3 n3 c3))) (first | exact ⟨⟨a0, a1, a2, a3, a4⟩, ⟨b0, b1, b2, b3, b4⟩, d0, d1, d2, d3, d4⟩ | go_keep)
      (first
        | (go_at_call 11; (with_reducible refine (HAB.out _ ?_).mono ?_); (first | exact hb | exact hb.drew); clear hb a0 a1 a2 a3 a4 b0 b1 b2 b3 b4 d0 d1 d2 d3 d4; rintro e w8 ⟨rfl, hb, ⟨a0, a1, a2, a3, a4⟩, ⟨b0, b1, b2, b3, b4⟩, d0, d1, d2, d3, d4⟩)
        | (go_at_call 11; (with_reducible refine (HBA.out _ ?_).mono ?_); (first | exact hb | exact hb.drew); clear hb a0 a1 a2 a3 a4 b0 b1 b2 b3 b4 d0 d1 d2 d3 d4; rintro e w9 ⟨rfl, hb, ⟨a0, a1, a2, a3, a4⟩, ⟨b0, b1, b2, b3, b4⟩, d0, d1, d2, d3, d4⟩))
    all_goals (
      go_wp2_with fail
      go_ret
      exact ⟨rfl, HU.out _ hb⟩)
  all_goals (
    go_wp2_with (first
      | (go_at_call 9; (with_reducible refine (HKN.out _ ?_).mono ?_); (first | exact hb | exact hb.drew); clear hb a0 a1 a2 a3 a4 b0 b1 b2 b3 b4 d0 d1 d2 d3 d4; rintro e w1 ⟨rfl, hb, ⟨a0, a1, a2, a3, a4⟩, ⟨b0, b1, b2, b3, b4⟩, d0, d1, d2, d3, d4⟩)
      | (go_at_call 10; (with_reducible refine (HL1.out _ ?_).mono ?_); (first | exact hb | exact hb.drew); clear hb a0 a1 a2 a3 a4 b0 b1 b2 b3 b4 d0 d1 d2 d3 d4; rintro e w2 ⟨rfl, hb, ⟨a0, a1, a2, a3, a4⟩, ⟨b0, b1, b2, b3, b4⟩, d0, d1, d2, d3, d4⟩)
      | (go_at_call 10; (with_reducible refine (HL2.out _ ?_).mono ?_); (first | exact hb | exact hb.drew); clear hb a0 a1 a2 a3 a4 b0 b1 b2 b3 b4 d0 d1 d2 d3 d4; rintro e w3 ⟨rfl, hb, ⟨a0, a1, a2, a3, a4⟩, ⟨b0, b1, b2, b3, b4⟩, d0, d1, d2, d3, d4⟩)
      | (go_at_call 10; (with_reducible refine (HL3.out _ ?_).mono ?_); (first | exact hb | exact hb.drew); clear hb a0 a1 a2 a3 a4 b0 b1 b2 b3 b4 d0 d1 d2 d3 d4; rintro e w4 ⟨rfl, hb, ⟨a0, a1, a2, a3, a4⟩, ⟨b0, b1, b2, b3, b4⟩, d0, d1, d2, d3, d4⟩)
      | (go_at_call 11; (with_reducible refine (HAB.out _ ?_).mono ?_); (first | exact hb | exact hb.drew); clear hb a0 a1 a2 a3 a4 b0 b1 b2 b3 b4 d0 d1 d2 d3 d4; rintro e w5 ⟨rfl, hb, ⟨a0, a1, a2, a3, a4⟩, ⟨b0, b1, b2, b3, b4⟩, d0, d1, d2, d3, d4⟩)
      | (go_at_call 11; (with_reducible refine (HBC.out _ ?_).mono ?_); (first | exact hb | exact hb.drew); clear hb a0 a1 a2 a3 a4 b0 b1 b2 b3 b4 d0 d1 d2 d3 d4; rintro e w6 ⟨rfl, hb, ⟨a0, a1, a2, a3, a4⟩, ⟨b0, b1, b2, b3, b4⟩, d0, d1, d2, d3, d4⟩)
      | (go_at_call 11; (with_reducible refine (HAC.out _ ?_).mono ?_); (first | exact hb | exact hb.drew); clear hb a0 a1 a2 a3 a4 b0 b1 b2 b3 b4 d0 d1 d2 d3 d4; rintro e w7 ⟨rfl, hb, ⟨a0, a1, a2, a3, a4⟩, ⟨b0, b1, b2, b3, b4⟩, d0, d1, d2, d3, d4⟩))
    go_ret
    exact ⟨rfl, HU.out _ hb⟩)

end Go.Proofs.YthmdfliimlimhaaGreatDoor
