/- Equality of values: EqualFunc over lists of values, Equal: contracts. -/
import Derived.Test.YthmdfliimlimhaaGreatDoorW4
namespace Go.Proofs.YthmdfliimlimhaaGreatDoor
open Go.RowKit

attribute [local go_sem ↓] Go.wp_at_zero Go.wp_at_succ

def pickB (k : Int) (a b c d : Bool) : Bool := if k = 1 then a else if k = 2 then b else if k = 3 then c else if k = 4 then d else true
def eqF2 (f g : Nat) : Bool := eqF f g || (nanF f && nanF g)

mutual
def eqV : Val → Val → Bool
  | .mk k i f s l, .mk k2 i2 f2 s2 l2 => if kd k2 = kd k then pickB (kd k) (i == i2) (eqF2 f f2) (s.toList == s2.toList) (eqL l l2) else false
def eqL : List Val → List Val → Bool
  | [], [] => true
  | x :: xs, y :: ys => eqV x y && eqL xs ys
  | [], _ :: _ => false
  | _ :: _, [] => false
end
theorem eqL_len : ∀ (l l2 : List Val), l.length ≠ l2.length → eqL l l2 = false
  | [], [], h => absurd rfl h
  | [], _ :: _, _ => by rw [eqL]
  | _ :: _, [], _ => by rw [eqL]
  | x :: xs, y :: ys, h => by rw [eqL, eqL_len xs ys (by simpa using h)]; simp

def EqC (x : Val) : Prop := ∀ (y : Val) (v u : Value) (w : World), VAt w w.heap.size x v → VAt w w.heap.size y u → Calls Tryz.prog 13 #[v, u] w (Says w (.bool (eqV x y)))

set_option maxRecDepth 100000 in
set_option maxHeartbeats 3200000 in
theorem eqfunc_calls (l l2 : List Val) (ih : ∀ x ∈ l, EqC x) (A : Option Addr) (n c : Nat) (B : Option Addr) (m d : Nat) (w : World) (hn : n ≤ 281474976710656) (hm : m ≤ 281474976710656) (hc : n ≤ c) (hd : m ≤ d)
    (h1 : SAt w w.heap.size A n l) (h2 : SAt w w.heap.size B m l2) :
    Calls Tryz.prog 37 #[.slice A n c, .slice B m d, .func (.func 13) #[] #[]] w (Says w (.bool (eqL l l2))) := by
  have hl1 := h1.1
  have hl2 := h2.1
  have hst := run_store_f64
  by_cases hnm : n = m
  · subst hnm
    have hne : ((n : Int) != (n : Int)) = false := by simp
    go_enter Tryz.func37, Tryz.ntmps37
    go_wp2_with fail
    go_loopw [17] (fun t wr => ∃ j : Nat, j ≤ n ∧ t = .int .i64 j ∧ eqL l l2 = eqL (l.drop j) (l2.drop j) ∧ Below w.heap.size w wr) (fun t _ => n - (intOf t).toNat)
    case atStart => exact ⟨0, by omega, rfl, rfl, Below.refl _ _⟩
    case round =>
      obtain ⟨j, hj, rfl, hd0, hb⟩ := hrel
      by_cases hlt : j < n
      · obtain ⟨b, o, rfl, hbl, hL⟩ := h1.2 (by omega)
        obtain ⟨x, hx⟩ : ∃ x, l[j]? = some x := ⟨_, List.getElem?_eq_getElem (by omega)⟩
        obtain ⟨k', i', f', s', A', n', c', ⟨q0, q1, q2, q3, q4⟩, hv'⟩ := hL.at_ j x hx
        have p0 := (hb.cell (p := ⟨b, o + j * 5, none⟩) hbl).trans q0
        have p1 := (hb.cell (p := ⟨b, o + j * 5 + 1, none⟩) hbl).trans q1
        have p2 := (hb.cell (p := ⟨b, o + j * 5 + 2, none⟩) hbl).trans q2
        have p3 := (hb.cell (p := ⟨b, o + j * 5 + 3, none⟩) hbl).trans q3
        have p4 := (hb.cell (p := ⟨b, o + j * 5 + 4, none⟩) hbl).trans q4
        clear q0 q1 q2 q3 q4
        have HX := Lib.hid hx
        have HD0 := Lib.hid hd0
        clear hx hd0
        obtain ⟨b2, o2, rfl, hbl2, hL2⟩ := h2.2 (by omega)
        obtain ⟨y, hy⟩ : ∃ y, l2[j]? = some y := ⟨_, List.getElem?_eq_getElem (by omega)⟩
        obtain ⟨k2, i2, f2, s2, A2, n2, c2, ⟨q0, q1, q2, q3, q4⟩, hv2⟩ := hL2.at_ j y hy
        have HY := Lib.hid hy
        have hbw : b2 < wr.heap.size := Nat.lt_of_lt_of_le hbl2 hb.size
        have z0 := fun ob : Obj => (World.cell?_alloc_lt wr ob ⟨b2, o2 + j * 5, none⟩ hbw).trans ((hb.cell (p := ⟨b2, o2 + j * 5, none⟩) hbl2).trans q0)
        have z1 := fun ob : Obj => (World.cell?_alloc_lt wr ob ⟨b2, o2 + j * 5 + 1, none⟩ hbw).trans ((hb.cell (p := ⟨b2, o2 + j * 5 + 1, none⟩) hbl2).trans q1)
        have z2 := fun ob : Obj => (World.cell?_alloc_lt wr ob ⟨b2, o2 + j * 5 + 2, none⟩ hbw).trans ((hb.cell (p := ⟨b2, o2 + j * 5 + 2, none⟩) hbl2).trans q2)
        have z3 := fun ob : Obj => (World.cell?_alloc_lt wr ob ⟨b2, o2 + j * 5 + 3, none⟩ hbw).trans ((hb.cell (p := ⟨b2, o2 + j * 5 + 3, none⟩) hbl2).trans q3)
        have z4 := fun ob : Obj => (World.cell?_alloc_lt wr ob ⟨b2, o2 + j * 5 + 4, none⟩ hbw).trans ((hb.cell (p := ⟨b2, o2 + j * 5 + 4, none⟩) hbl2).trans q4)
        clear q0 q1 q2 q3 q4 hy
        have hbb : Below w.heap.size w ((wr.alloc (.cells (vcells k' i' f' s' A' n' c') 25)).alloc (.cells (vcells k2 i2 f2 s2 A2 n2 c2) 25)) := (hb.alloc hb.size _).alloc (by have := hb.size; simp; omega) _
        have HC := Lib.hid (ih x (List.mem_of_getElem? HX.out) y _ _ _ ((hv'.below hbb).more hbb.size) ((hv2.below hbb).more hbb.size))
        have HBB := Lib.hid hbb
        clear hbb hv' hv2 hb
        cases hz : eqV x y
        · rw [hz] at HC
          have HD := Lib.hid (show eqL l l2 = false by rw [HD0.out, drop_at HX.out, drop_at HY.out, eqL, hz]; rfl)
          clear hz HD0 HX HY
          go_wp2_with fail
          refine HC.out.mono ?_
          rintro e w2 ⟨rfl, hb2⟩
          go_wp2_with fail
          go_ret
          exact ⟨by rw [HD.out]; rfl, HBB.out.trans (hb2.mono HBB.out.size)⟩
        · rw [hz] at HC
          have HD := Lib.hid (show eqL l l2 = eqL (l.drop (j + 1)) (l2.drop (j + 1)) by rw [HD0.out, drop_at HX.out, drop_at HY.out, eqL, hz]; rfl)
          clear hz HD0 HX HY
          go_wp2_with fail
          refine HC.out.mono ?_
          rintro e w2 ⟨rfl, hb2⟩
          go_wp2_with fail
          go_roundw
          case rel => exact ⟨j + 1, by omega, by go_num, HD.out, HBB.out.trans (hb2.mono HBB.out.size)⟩
          case measure => simp [intOf]; omega
      · have hjn : j = n := by omega
        subst hjn
        have HB := Lib.hid hb
        have HD := Lib.hid (show eqL l l2 = true by rw [hd0, show l.drop j = [] from List.drop_of_length_le (by omega), show l2.drop j = [] from List.drop_of_length_le (by omega), eqL])
        clear hb hd0 hj
        go_wp2_with fail
        go_ret
        exact ⟨by rw [HD.out]; rfl, HB.out⟩
  · have hne : ((n : Int) != (m : Int)) = true := by simp; omega
    have HD := Lib.hid (show eqL l l2 = false from eqL_len l l2 (by omega))
    clear hnm
    go_enter Tryz.func37, Tryz.ntmps37
    go_wp2_with fail
    go_ret
    exact ⟨by rw [HD.out]; rfl, Below.refl _ _⟩

theorem isNaN_calls (a : Nat) (w : World) : Calls Tryz.prog 36 #[.float .f64 a] w (Same w (.bool (nanF a))) := by
  have h : ((FloatKind.format .f64).order a a != some .eq) = nanF a := by rw [f64_neq, eqF_self]; simp
  go_enter Tryz.func36, Tryz.ntmps36
  go_wp2_with fail
  go_ret
  exact ⟨by rfl, rfl⟩

set_option maxRecDepth 100000 in
set_option maxHeartbeats 3200000 in
theorem equal_step (k i : Int) (f : Nat) (s : ByteArray) (l : List Val) (ih : ∀ x ∈ l, EqC x) : EqC (.mk k i f s l) := by
  intro y v u w hv hu
  obtain ⟨k2, i2, f2, s2, l2⟩ := y
  obtain ⟨A, n, c, rfl, hc, hn, hs, hf, hS⟩ := hv.parts
  obtain ⟨A2, n2, c2, rfl, hc2, hn2, hs2, hf2, hS2⟩ := hu.parts
  have hb0 : Below w.heap.size w ((w.alloc (.cells (vcells k i f s A n c) 25)).alloc (.cells (vcells k2 i2 f2 s2 A2 n2 c2) 25)) := ((Below.refl _ w).alloc (Nat.le_refl _) _).alloc (by simp) _
  have hB1 := Blk.alloc (Blk.new w 25 (vcells k i f s A n c)) (.cells (vcells k2 i2 f2 s2 A2 n2 c2) 25)
  have hB2 := Blk.new (w.alloc (.cells (vcells k i f s A n c) 25)) 25 (vcells k2 i2 f2 s2 A2 n2 c2)
  rw [show (w.alloc (.cells (vcells k i f s A n c) 25)).heap.size = w.heap.size + 1 by simp] at hB2
  have hsz : ((w.alloc (.cells (vcells k i f s A n c) 25)).alloc (.cells (vcells k2 i2 f2 s2 A2 n2 c2) 25)).heap.size = w.heap.size + 2 := by simp
  obtain ⟨W0, hW0⟩ : ∃ W0, W0 = (w.alloc (.cells (vcells k i f s A n c) 25)).alloc (.cells (vcells k2 i2 f2 s2 A2 n2 c2) 25) := ⟨_, rfl⟩
  rw [← hW0] at hB1 hB2 hsz hb0
  have keep : ∀ {W : World}, Below (w.heap.size + 2) W0 W → Cells2 w.heap.size (w.heap.size + 1) k i f s A n c k2 i2 f2 s2 A2 n2 c2 W := fun hb => ⟨(hB1.below hb (by omega)).five, (hB2.below hb (by omega)).five⟩
  have HK1 := Lib.hid (fun W (hb : Below (w.heap.size + 2) W0 W) => (kind_calls k i f s A n c W).mono (R' := fun e w' => e = .returned (.int .i64 (kd k)) ∧ Below (w.heap.size + 2) W0 w' ∧ Cells2 w.heap.size (w.heap.size + 1) _ _ _ _ _ _ _ _ _ _ _ _ _ _ w')
    fun e w' ⟨h1, h2⟩ => ⟨h1, hb.trans (h2.mono (hsz ▸ hb.size)), keep (hb.trans (h2.mono (hsz ▸ hb.size)))⟩)
  have HK2 := Lib.hid (fun W (hb : Below (w.heap.size + 2) W0 W) => (kind_calls k2 i2 f2 s2 A2 n2 c2 W).mono (R' := fun e w' => e = .returned (.int .i64 (kd k2)) ∧ Below (w.heap.size + 2) W0 w' ∧ Cells2 w.heap.size (w.heap.size + 1) _ _ _ _ _ _ _ _ _ _ _ _ _ _ w')
    fun e w' ⟨h1, h2⟩ => ⟨h1, hb.trans (h2.mono (hsz ▸ hb.size)), keep (hb.trans (h2.mono (hsz ▸ hb.size)))⟩)
  have HB0 := Lib.hid hb0
  have H0 := Lib.hid (Below.refl (w.heap.size + 2) W0)
  have HC := Lib.hid (keep (Below.refl (w.heap.size + 2) W0))
  have HSZ := Lib.hid hsz
  have HL := Lib.hid (fun W (hb : Below (w.heap.size + 2) W0 W) => eqfunc_calls l l2 ih A n c A2 n2 c2 W hn hn2 hc hc2 (hS.up (hb0.trans (hb.mono (by omega)))) (hS2.up (hb0.trans (hb.mono (by omega)))))
  have HD : Hid (eqV (.mk k i f s l) (.mk k2 i2 f2 s2 l2) = if kd k2 = kd k then pickB (kd k) (i == i2) (eqF2 f f2) (s.toList == s2.toList) (eqL l l2) else false) := Lib.hid (by rw [eqV])
  have hrg := kd_range k
  have hfe := f64_eql f f2
  clear hv hu hb0 hS hS2 keep hB1 hB2 ih hsz hf hf2
  by_cases he : kd k2 = kd k
  · rw [if_pos he] at HD
    rw [he] at HK2
    generalize kd k = K at *
    generalize eqL l l2 = L at *
    clear he
    have hKK : (K != K) = false := by simp
    have HN := Lib.hid (fun (a : Nat) W => isNaN_calls a W)
    have hE : eqF2 f f2 = (eqF f f2 || (nanF f && nanF f2)) := rfl
    generalize hE2 : eqF2 f f2 = E at *
    clear hE2
    have HN1 := Lib.hid (fun W => HN.out f W)
    have HN2 := Lib.hid (fun W => HN.out f2 W)
    clear HN
    generalize eqF f f2 = E1 at *
    generalize nanF f = N1 at *
    generalize nanF f2 = N2 at *
    have HE := Lib.hid hE
    clear hE
    rcases hrg with rfl | rfl | rfl | rfl | rfl
    all_goals (
      cases E1 <;> cases N1 <;> (
      go_enter Tryz.func13, Tryz.ntmps13
      go_wp2_with fail
      rw [← hW0]
      obtain ⟨⟨q0, q1, q2, q3, q4⟩, ⟨z0, z1, z2, z3, z4⟩⟩ := HC.out
      clear hW0
      go_region_held3 (fun w' => (w'.cell? ⟨w.heap.size, 0, none⟩ = some (.int .i64 k) ∧ w'.cell? ⟨w.heap.size, 1, none⟩ = some (.int .i64 i) ∧ w'.cell? ⟨w.heap.size, 2, none⟩ = some (.float .f64 f) ∧ w'.cell? ⟨w.heap.size, 3, none⟩ = some (.string s) ∧ w'.cell? ⟨w.heap.size, 4, none⟩ = some (.slice A n c)) ∧
          (w'.cell? ⟨w.heap.size + 1, 0, none⟩ = some (.int .i64 k2) ∧ w'.cell? ⟨w.heap.size + 1, 1, none⟩ = some (.int .i64 i2) ∧ w'.cell? ⟨w.heap.size + 1, 2, none⟩ = some (.float .f64 f2) ∧ w'.cell? ⟨w.heap.size + 1, 3, none⟩ = some (.string s2) ∧ w'.cell? ⟨w.heap.size + 1, 4, none⟩ = some (.slice A2 n2 c2)))
        (first | exact kB | exact kA | exact HC.out | go_keep)
        (first
          | (go_at_call 31; (with_reducible refine (HK1.out _ ?_).mono ?_); (first | exact hbB | exact H0.out.drew); rintro e wA ⟨rfl, hbA, kA⟩)
          | (go_at_call 31; (with_reducible refine (HK2.out _ ?_).mono ?_); (first | exact hbA | exact H0.out.drew); rintro e wB ⟨rfl, hbB, kB⟩))
      have HBB := Lib.hid hbB
      obtain ⟨⟨q0, q1, q2, q3, q4⟩, ⟨z0, z1, z2, z3, z4⟩⟩ := kB
      clear hbB hbA kA
      go_wp2_with fail
      refine (HK1.out _ HBB.out).mono ?_
      rintro e wD ⟨rfl, hbD, ⟨q0, q1, q2, q3, q4⟩, ⟨z0, z1, z2, z3, z4⟩⟩
      have HBD := Lib.hid hbD
      clear hbD
      go_wp2_with (first
          | (go_at_call 36; (with_reducible refine (HN1.out _).mono ?_); rintro e wE ⟨rfl, rfl⟩)
          | (go_at_call 36; (with_reducible refine (HN2.out _).mono ?_); rintro e wE ⟨rfl, rfl⟩)
          | (go_at_call 37; refine (HL.out _ HBD.out).mono ?_; rintro e wE ⟨rfl, hbE⟩))
      go_ret
      refine ⟨by rw [HD.out]; first | rfl | (rw [HE.out]; rfl) | (rw [HE.out]; simp [pickB]), ?_⟩
      first
        | exact HB0.out.trans ((HBD.out.trans (hbE.mono (HSZ.out ▸ HBD.out.size))).mono (by omega))
        | exact HB0.out.trans (HBD.out.mono (by omega))))
  · rw [if_neg he] at HD
    have hr : (kd k != kd k2) = true := by simp; omega
    generalize kd k = K at *
    generalize kd k2 = K2 at *
    clear he hrg
    go_enter Tryz.func13, Tryz.ntmps13
    go_wp2_with fail
    rw [← hW0]
    obtain ⟨⟨q0, q1, q2, q3, q4⟩, ⟨z0, z1, z2, z3, z4⟩⟩ := HC.out
    clear hW0
    go_region_held3 (fun w' => (w'.cell? ⟨w.heap.size, 0, none⟩ = some (.int .i64 k) ∧ w'.cell? ⟨w.heap.size, 1, none⟩ = some (.int .i64 i) ∧ w'.cell? ⟨w.heap.size, 2, none⟩ = some (.float .f64 f) ∧ w'.cell? ⟨w.heap.size, 3, none⟩ = some (.string s) ∧ w'.cell? ⟨w.heap.size, 4, none⟩ = some (.slice A n c)) ∧
        (w'.cell? ⟨w.heap.size + 1, 0, none⟩ = some (.int .i64 k2) ∧ w'.cell? ⟨w.heap.size + 1, 1, none⟩ = some (.int .i64 i2) ∧ w'.cell? ⟨w.heap.size + 1, 2, none⟩ = some (.float .f64 f2) ∧ w'.cell? ⟨w.heap.size + 1, 3, none⟩ = some (.string s2) ∧ w'.cell? ⟨w.heap.size + 1, 4, none⟩ = some (.slice A2 n2 c2)))
      (first | exact kB | exact kA | exact HC.out | go_keep)
      (first
        | (go_at_call 31; (with_reducible refine (HK1.out _ ?_).mono ?_); (first | exact hbB | exact H0.out.drew); rintro e wA ⟨rfl, hbA, kA⟩)
        | (go_at_call 31; (with_reducible refine (HK2.out _ ?_).mono ?_); (first | exact hbA | exact H0.out.drew); rintro e wB ⟨rfl, hbB, kB⟩))
    have HBB := Lib.hid hbB
    clear hbB hbA kA kB
    go_wp2_with fail
    go_ret
    exact ⟨by rw [HD.out]; rfl, HB0.out.trans (HBB.out.mono (by omega))⟩

theorem equal_calls (x : Val) : EqC x := Val.ind (p := EqC) equal_step x

end Go.Proofs.YthmdfliimlimhaaGreatDoor
