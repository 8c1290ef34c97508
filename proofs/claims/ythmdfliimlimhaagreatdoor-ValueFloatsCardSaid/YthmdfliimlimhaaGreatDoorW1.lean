/- Deep, Size, Light of the reference: contracts. -/
import Derived.Test.YthmdfliimlimhaaGreatDoorBase
namespace Go.Proofs.YthmdfliimlimhaaGreatDoor
open Go.RowKit

attribute [local go_sem ↓] Go.wp_at_zero Go.wp_at_succ

mutual
theorem Val.ind {p : Val → Prop} (h : ∀ k i f s l, (∀ x ∈ l, p x) → p (.mk k i f s l)) : ∀ x, p x
  | .mk k i f s l => h k i f s l (Val.indL h l)
theorem Val.indL {p : Val → Prop} (h : ∀ k i f s l, (∀ x ∈ l, p x) → p (.mk k i f s l)) : ∀ (l : List Val), ∀ x ∈ l, p x
  | [], _, hx => by cases hx
  | y :: ys, x, hx => by
    rcases List.mem_cons.1 hx with e | e
    · rw [e]; exact Val.ind h y
    · exact Val.indL h ys x e
end

mutual
def deepV : Val → Nat → Bool
  | .mk k _ _ _ l, m => if k = 4 then (if m = 0 then true else deepL l (m - 1)) else false
def deepL : List Val → Nat → Bool
  | [], _ => false
  | x :: xs, m => deepV x m || deepL xs m
end

def DeepC (x : Val) : Prop := ∀ (v : Value) (m : Nat) (M : Int) (b : Bool) (w : World), M = m → deepV x m = b → m ≤ 20 → VAt w w.heap.size x v → Calls Tryz.prog 29 #[v, .int .i64 M] w (Says w (.bool b))

theorem drop_at {α : Type} {l : List α} {j : Nat} {x : α} (h : l[j]? = some x) : l.drop j = x :: l.drop (j + 1) := by
  have hj := (List.getElem?_eq_some_iff.1 h).1
  rw [List.drop_eq_getElem_cons hj]
  rw [List.getElem?_eq_getElem hj] at h
  simp at h
  rw [h]

set_option maxRecDepth 100000 in
set_option maxHeartbeats 1600000 in
theorem deep_step (k i : Int) (f : Nat) (s : ByteArray) (l : List Val) (ih : ∀ x ∈ l, DeepC x) : DeepC (.mk k i f s l) := by
  intro v m M bb w hM hbb hm hv
  subst hM
  subst hbb
  obtain ⟨A, n, c, rfl, hc, hn, hs, hf, hS⟩ := hv.parts
  have hb0 : Below w.heap.size w (w.alloc (.cells (vcells k i f s A n c) 25)) := (Below.refl _ w).alloc (Nat.le_refl _) _
  by_cases hk : k = 4
  · subst hk
    by_cases hz : m = 0
    · subst hz
      have HR := Lib.hid (show deepV (.mk 4 i f s l) 0 = true by simp [deepV])
      clear hv ih hm
      rw [show ((0 : Nat) : Int) = 0 from rfl]
      go_enter Tryz.func29, Tryz.ntmps29
      go_wp2_with fail
      go_ret
      exact ⟨by rw [HR.out]; rfl, hb0⟩
    · have HR := Lib.hid (show deepV (.mk 4 i f s l) m = deepL l (m - 1) by simp [deepV, hz])
      have hm1 : ((m : Int) == 0) = false := by simp; omega
      have hl := hS.1
      clear hv
      go_enter Tryz.func29, Tryz.ntmps29
      go_wp2_with fail
      have hB0 := Lib.hid (Blk.new w 25 (vcells 4 i f s A n c))
      go_loopw [5] (fun t wr => ∃ j : Nat, j ≤ n ∧ t = .int .i64 j ∧ deepL l (m - 1) = deepL (l.drop j) (m - 1) ∧ Blk wr w.heap.size 25 (vcells 4 i f s A n c) ∧ Below w.heap.size w wr ∧ w.heap.size < wr.heap.size) (fun t _ => n - (intOf t).toNat)
      case atStart => exact ⟨0, by omega, rfl, rfl, hB0.out, hb0, by simp⟩
      case round =>
        obtain ⟨j, hj, rfl, hd, hB, hb, hz⟩ := hrel
        by_cases hlt : j < n
        · obtain ⟨b, o, rfl, hbl, hL⟩ := hS.2 (by omega)
          obtain ⟨x, hx⟩ : ∃ x, l[j]? = some x := ⟨_, List.getElem?_eq_getElem (by omega)⟩
          obtain ⟨k', i', f', s', A', n', c', ⟨q0, q1, q2, q3, q4⟩, hv'⟩ := hL.at_ j x hx
          have hv1 := Lib.hid ((hv'.below hb).more hb.size)
          have r0 : wr.cell? ⟨w.heap.size, 4, none⟩ = some (.slice (some ⟨b, o, none⟩) n c) := hB.cell 4
          have p0 := (hb.cell (p := ⟨b, o + j * 5, none⟩) hbl).trans q0
          have p1 := (hb.cell (p := ⟨b, o + j * 5 + 1, none⟩) hbl).trans q1
          have p2 := (hb.cell (p := ⟨b, o + j * 5 + 2, none⟩) hbl).trans q2
          have p3 := (hb.cell (p := ⟨b, o + j * 5 + 3, none⟩) hbl).trans q3
          have p4 := (hb.cell (p := ⟨b, o + j * 5 + 4, none⟩) hbl).trans q4
          have hx2 := Lib.hid hx
          have hd2 := Lib.hid hd
          clear q0 q1 q2 q3 q4 hv' hx hd
          have ihx := Lib.hid (fun bb hbb => ih x (List.mem_of_getElem? hx2.out) (.agg (vcells k' i' f' s' A' n' c')) (m - 1) ((m : Int) - 1) bb wr (by omega) hbb (by omega) hv1.out)
          by_cases hdx : deepV x (m - 1) = true
          · have HX := Lib.hid (ihx.out true hdx)
            have HD := Lib.hid (show deepL l (m - 1) = true by rw [hd2.out, drop_at hx2.out, deepL, hdx]; rfl)
            clear hd2 hdx ihx hx2
            go_wp2_with (go_at_call 29; refine HX.out.mono ?_; rintro e w' ⟨rfl, hb2⟩)
            go_ret
            exact ⟨by rw [HR.out, HD.out]; rfl, hb.trans (hb2.mono hb.size)⟩
          · have HX := Lib.hid (ihx.out false (by simpa using hdx))
            have HD := Lib.hid (show deepL l (m - 1) = deepL (l.drop (j + 1)) (m - 1) by rw [hd2.out, drop_at hx2.out, deepL, show deepV x (m - 1) = false by simpa using hdx]; simp)
            clear hd2 hdx ihx hx2
            go_wp2_with (go_at_call 29; refine HX.out.mono ?_; rintro e w' ⟨rfl, hb2⟩)
            go_roundw
            case rel => exact ⟨j + 1, by omega, by go_num, HD.out, hB.below hb2 hz, hb.trans (hb2.mono hb.size), by have := hb2.size; omega⟩
            case measure => simp [intOf]; omega
        · have hjn : j = n := by omega
          subst hjn
          have HD := Lib.hid (show deepL l (m - 1) = false by rw [hd, List.drop_of_length_le (by omega), deepL])
          have r0 : wr.cell? ⟨w.heap.size, 4, none⟩ = some (.slice A j c) := hB.cell 4
          clear hd hj
          go_wp2_with fail
          go_ret
          exact ⟨by rw [HR.out, HD.out]; rfl, hb⟩
  · have HR := Lib.hid (show deepV (.mk k i f s l) m = false by simp [deepV, hk])
    have hk1 : ((k : Int) != 4) = true := by simpa using hk
    clear hv ih
    go_enter Tryz.func29, Tryz.ntmps29
    go_wp2_with fail
    go_ret
    exact ⟨by rw [HR.out]; rfl, hb0⟩

end Go.Proofs.YthmdfliimlimhaaGreatDoor
