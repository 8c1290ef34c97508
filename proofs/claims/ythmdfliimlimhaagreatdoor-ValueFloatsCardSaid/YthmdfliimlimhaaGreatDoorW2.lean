/- Size, of the reference and of the program; Light: contracts. -/
import Derived.Test.YthmdfliimlimhaaGreatDoorW1
namespace Go.Proofs.YthmdfliimlimhaaGreatDoor
open Go.RowKit

attribute [local go_sem ↓] Go.wp_at_zero Go.wp_at_succ

mutual
/-- how great a value is, in int's arithmetic -/
def sizeV : Val → Int
  | .mk k _ _ s l => if k = 1 then 9 else if k = 2 then 9 else if k = 3 then 3 + s.size else if k = 4 then sizeL 2 l else 1
def sizeL : Int → List Val → Int
  | n, [] => n
  | n, x :: xs => sizeL (wrap64 (n + sizeV x)) xs
end

def SizeC (x : Val) : Prop := ∀ (v : Value) (w : World), VAt w w.heap.size x v → Calls Tryz.prog 19 #[v] w (Says w (.int .i64 (sizeV x)))

set_option maxRecDepth 100000 in
set_option maxHeartbeats 1600000 in
theorem size_step (k i : Int) (f : Nat) (s : ByteArray) (l : List Val) (ih : ∀ x ∈ l, SizeC x) : SizeC (.mk k i f s l) := by
  intro v w hv
  obtain ⟨A, n, c, rfl, hc, hn, hs, hf, hS⟩ := hv.parts
  have hb0 : Below w.heap.size w (w.alloc (.cells (vcells k i f s A n c) 25)) := (Below.refl _ w).alloc (Nat.le_refl _) _
  clear hv
  by_cases h1 : k = 1
  · subst h1
    have HR := Lib.hid (show sizeV (.mk 1 i f s l) = 9 by simp [sizeV])
    clear ih hS
    go_enter Tryz.func19, Tryz.ntmps19
    go_wp2_with fail
    go_ret
    exact ⟨by rw [HR.out]; rfl, hb0⟩
  have e1 : ((k : Int) == 1) = false := by simpa using h1
  by_cases h2 : k = 2
  · subst h2
    have HR := Lib.hid (show sizeV (.mk 2 i f s l) = 9 by simp [sizeV])
    clear ih hS
    go_enter Tryz.func19, Tryz.ntmps19
    go_wp2_with fail
    go_ret
    exact ⟨by rw [HR.out]; rfl, hb0⟩
  have e2 : ((k : Int) == 2) = false := by simpa using h2
  by_cases h3 : k = 3
  · subst h3
    have HR := Lib.hid (show sizeV (.mk 3 i f s l) = 3 + s.size by simp [sizeV])
    clear ih hS
    go_enter Tryz.func19, Tryz.ntmps19
    go_wp2_with fail
    go_ret
    exact ⟨by rw [HR.out]; rfl, hb0⟩
  have e3 : ((k : Int) == 3) = false := by simpa using h3
  by_cases h4 : k = 4
  · subst h4
    have HR := Lib.hid (show sizeV (.mk 4 i f s l) = sizeL 2 l by simp [sizeV])
    have hl := hS.1
    go_enter Tryz.func19, Tryz.ntmps19
    go_wp2_with fail
    have hB0 := Lib.hid (Blk.new w 25 (vcells 4 i f s A n c))
    go_loopw [3, 4] (fun a t wr => ∃ (j : Nat) (N : Int), j ≤ n ∧ t = .int .i64 j ∧ a = .int .i64 N ∧ sizeL 2 l = sizeL N (l.drop j) ∧ Blk wr w.heap.size 25 (vcells 4 i f s A n c) ∧ Below w.heap.size w wr ∧ w.heap.size < wr.heap.size) (fun _ t _ => n - (intOf t).toNat)
    case atStart => exact ⟨0, 2, by omega, rfl, rfl, rfl, hB0.out, hb0, by simp⟩
    case round =>
      obtain ⟨j, N, hj, rfl, rfl, hd, hB, hb, hz⟩ := hrel
      by_cases hlt : j < n
      · obtain ⟨b, o, rfl, hbl, hL⟩ := hS.2 (by omega)
        obtain ⟨x, hx⟩ : ∃ x, l[j]? = some x := ⟨_, List.getElem?_eq_getElem (by omega)⟩
        obtain ⟨k', i', f', s', A', n', c', ⟨q0, q1, q2, q3, q4⟩, hv'⟩ := hL.at_ j x hx
        have hv1 := Lib.hid ((hv'.below hb).more hb.size)
        have r0 : wr.cell? ⟨w.heap.size, 4, none⟩ = some (.slice (some ⟨b, o, none⟩) n c) := hB.cell 4
        have p0 := (hb.cell (p := ⟨b, o + j * 5, none⟩) hbl).trans q0
        have p1 := (hb.cell (p := ⟨b, o + j * 5 + 1, none⟩) hbl).trans q1
        have p2 := (hb.cell (p := ⟨b, o + j * 5 + 2, none⟩) hbl).trans q2
        have p3 := (hb.cell (p := ⟨b, o + j * 5 + 3, none⟩) hbl).trans q3
        have p4 := (hb.cell (p := ⟨b, o + j * 5 + 4, none⟩) hbl).trans q4
        have HD := Lib.hid (show sizeL 2 l = sizeL (wrap64 (N + sizeV x)) (l.drop (j + 1)) by rw [hd, drop_at hx, sizeL])
        have HX := Lib.hid (ih x (List.mem_of_getElem? hx) (.agg (vcells k' i' f' s' A' n' c')) wr hv1.out)
        clear q0 q1 q2 q3 q4 hv' hx hd
        generalize sizeV x = y at *
        go_wp2_with (go_at_call 19; refine HX.out.mono ?_; rintro e w' ⟨rfl, hb2⟩)
        go_roundw
        case rel => exact ⟨j + 1, _, by omega, by go_num, rfl, HD.out, hB.below hb2 hz, hb.trans (hb2.mono hb.size), by have := hb2.size; omega⟩
        case measure => simp [intOf]; omega
      · have hjn : j = n := by omega
        subst hjn
        have HD := Lib.hid (show sizeL 2 l = N by rw [hd, List.drop_of_length_le (by omega), sizeL])
        have r0 : wr.cell? ⟨w.heap.size, 4, none⟩ = some (.slice A j c) := hB.cell 4
        clear hd hj
        go_wp2_with fail
        go_ret
        exact ⟨by rw [HR.out, HD.out]; rfl, hb⟩
  · have e4 : ((k : Int) == 4) = false := by simpa using h4
    have HR := Lib.hid (show sizeV (.mk k i f s l) = 1 by simp [sizeV, h1, h2, h3, h4])
    clear ih hS h1 h2 h3 h4
    go_enter Tryz.func19, Tryz.ntmps19
    go_wp2_with fail
    go_ret
    exact ⟨by rw [HR.out]; rfl, hb0⟩

theorem Blk.five {w : World} {g : Nat} {t : TypeId} {k i : Int} {f : Nat} {s : ByteArray} {A : Option Addr} {n c : Nat} (h : Blk w g t (vcells k i f s A n c)) :
    w.cell? ⟨g, 0, none⟩ = some (.int .i64 k) ∧ w.cell? ⟨g, 1, none⟩ = some (.int .i64 i) ∧ w.cell? ⟨g, 2, none⟩ = some (.float .f64 f) ∧ w.cell? ⟨g, 3, none⟩ = some (.string s) ∧ w.cell? ⟨g, 4, none⟩ = some (.slice A n c) :=
  ⟨h.cell 0, h.cell 1, h.cell 2, h.cell 3, h.cell 4⟩

theorem deep_calls (x : Val) : DeepC x := Val.ind (p := DeepC) deep_step x
theorem size_calls (x : Val) : SizeC x := Val.ind (p := SizeC) size_step x

def lightV (x : Val) : Bool := !deepV x 20 && decide (sizeV x ≤ 6000)

set_option maxRecDepth 100000 in
set_option maxHeartbeats 1600000 in
theorem light_calls (x : Val) (v : Value) (b : Bool) (w : World) (hb : lightV x = b) (hv : VAt w w.heap.size x v) : Calls Tryz.prog 10 #[v] w (Says w (.bool b)) := by
  obtain ⟨k, i, f, s, l⟩ := x
  obtain ⟨A, n, c, rfl, hc, hn, hs, hf, hS⟩ := hv.parts
  have hb0 : Below w.heap.size w (w.alloc (.cells (vcells k i f s A n c) 25)) := (Below.refl _ w).alloc (Nat.le_refl _) _
  have HB := Lib.hid hb
  have HV := Lib.hid (hv.up hb0)
  have hB0 := Blk.new w 25 (vcells k i f s A n c)
  clear hv hb hS
  by_cases hd : deepV (.mk k i f s l) 20 = true
  · have HR := Lib.hid (show b = false by rw [← HB.out, lightV, hd]; rfl)
    have HX := Lib.hid (deep_calls _ _ 20 20 true _ rfl hd (by omega) HV.out)
    clear HB hd HV
    go_enter Tryz.func10, Tryz.ntmps10
    go_wp2_with (go_at_call 29; refine HX.out.mono ?_; rintro e w' ⟨rfl, hb2⟩)
    go_ret
    exact ⟨by rw [HR.out]; rfl, hb0.trans (hb2.mono hb0.size)⟩
  · have hd' : deepV (.mk k i f s l) 20 = false := by simpa using hd
    have HR := Lib.hid (show b = decide (sizeV (.mk k i f s l) ≤ 6000) by rw [← HB.out, lightV, hd']; rfl)
    have HX := Lib.hid (deep_calls _ _ 20 20 false _ rfl hd' (by omega) HV.out)
    have HY := Lib.hid (fun W h => size_calls (.mk k i f s l) (.agg (vcells k i f s A n c)) W h)
    have HZ := Lib.hid (fun W (hh : Below (w.heap.size + 1) (w.alloc (.cells (vcells k i f s A n c) 25)) W) => (HV.out.up (w' := W) (by simpa using hh)))
    clear HB hd hd' HV
    generalize sizeV (.mk k i f s l) = y at *
    go_enter Tryz.func10, Tryz.ntmps10
    go_wp2_with fail
    refine HX.out.mono ?_
    rintro e w1 ⟨rfl, hb2⟩
    have hbb : Below (w.heap.size + 1) (w.alloc (.cells (vcells k i f s A n c) 25)) w1 := by simpa using hb2
    obtain ⟨r0, r1, r2, r3, r4⟩ := (hB0.below hbb (by omega)).five
    have hv1 := Lib.hid (HZ.out w1 hbb)
    have HB2 := Lib.hid (hb0.trans (hb2.mono hb0.size))
    clear hb2 hbb HZ hB0
    go_wp2_with (go_at_call 19; refine (HY.out _ hv1.out).mono ?_; rintro e w2 ⟨rfl, hb3⟩)
    go_ret
    exact ⟨by rw [HR.out]; rfl, HB2.out.trans (hb3.mono HB2.out.size)⟩

end Go.Proofs.YthmdfliimlimhaaGreatDoor
