/- great, Size of the program, Check: contracts. -/
import Derived.Test.YthmdfliimlimhaaGreatDoorW6
namespace Go.Proofs.YthmdfliimlimhaaGreatDoor
open Go.RowKit

attribute [local go_sem ↓] Go.wp_at_zero Go.wp_at_succ

set_option maxRecDepth 100000 in
set_option maxHeartbeats 1600000 in
theorem great1_of (x : Val) (h : GreatC x) : Great1C x := by
  intro v d G w hd1 hd8 hG hcell hv
  obtain ⟨k, i, f, s, l⟩ := x
  obtain ⟨A, n, c, rfl, hc, hn, hs, hf, hS⟩ := hv.parts
  have hb0 : Below w.heap.size w (w.alloc (.cells (vcells k i f s A n c) 25)) := (Below.refl _ w).alloc (Nat.le_refl _) _
  have HC := Lib.hid (h _ (d - 1) ((d : Int) - 1) _ (by omega) (by omega) (hv.up hb0))
  have g0 := (World.cell?_alloc_lt w (.cells (vcells k i f s A n c) 25) ⟨G, 0, none⟩ hG).trans hcell
  have hcell' := Lib.hid hcell
  clear hv hS hcell h
  go_enter Tryz.func58, Tryz.ntmps58
  go_wp2_with fail
  refine HC.out.mono ?_
  rintro e w2 ⟨rfl, hb2⟩
  go_wp2_with fail
  go_ret
  exact ⟨rfl, hb0.trans (hb2.mono hb0.size)⟩

set_option maxRecDepth 100000 in
set_option maxHeartbeats 1600000 in
theorem great_step (k i : Int) (f : Nat) (s : ByteArray) (l : List Val) (ih : ∀ x ∈ l, GreatC x) : GreatC (.mk k i f s l) := by
  intro v d D w hD hd8 hv
  subst hD
  obtain ⟨A, n, c, rfl, hc, hn, hs, hf, hS⟩ := hv.parts
  have hb0 : Below w.heap.size w ((w.alloc (.cells (vcells k i f s A n c) 25)).alloc (.cells #[.int .i64 d] 3)) := ((Below.refl _ w).alloc (Nat.le_refl _) _).alloc (by simp) _
  have hl := hS.1
  by_cases h3 : k = 3
  · subst h3
    have HR := Lib.hid (show greatV (.mk 3 i f s l) d = decide ((256 : Int) < (s.size : Int)) by rw [greatV, if_pos rfl]; exact decide_eq_decide.2 (by omega))
    clear hv hS ih
    go_enter Tryz.func40, Tryz.ntmps40
    go_wp2_with fail
    go_ret
    exact ⟨by rw [HR.out]; rfl, hb0⟩
  · have e3 : ((k : Int) == 3) = false := by simpa using h3
    by_cases h4 : k = 4
    · subst h4
      by_cases hb : 64 < n
      · have HR := Lib.hid (show greatV (.mk 4 i f s l) d = true by simp [greatV, hl, hb])
        have hb1 : decide ((64 : Int) < (n : Int)) = true := by simp; omega
        clear hv hS ih
        go_enter Tryz.func40, Tryz.ntmps40
        go_wp2_with fail
        go_ret
        exact ⟨by rw [HR.out]; rfl, hb0⟩
      · by_cases hd : d < 1
        · have HR := Lib.hid (show greatV (.mk 4 i f s l) d = true by simp [greatV, hd])
          have hb1 : decide ((64 : Int) < (n : Int)) = false := by simp; omega
          clear hb
          obtain rfl : d = 0 := by omega
          rw [show ((0 : Nat) : Int) = 0 from rfl] at hb0 ⊢
          clear hv hS ih
          go_enter Tryz.func40, Tryz.ntmps40
          go_wp2_with fail
          go_ret
          exact ⟨by rw [HR.out]; rfl, hb0⟩
        · have HR := Lib.hid (show greatV (.mk 4 i f s l) d = greatL l (d - 1) by simp [greatV, hl, hb, hd])
          have hb1 : decide ((64 : Int) < (n : Int)) = false := by simp; omega
          have hd1 : decide ((d : Int) < 1) = false := by simp; omega
          have hmf : ∀ (fn : Fn) (first cap : Array Value) (w : World), (Instr.makeFunc fn first cap).run Tryz.prog w = .ok (.func fn first cap) w := fun _ _ _ _ => rfl
          have HC := Lib.hid (contfunc_gr l (fun x hx => great1_of x (ih x hx)) A n c d (w.heap.size + 1) ((w.alloc (.cells (vcells 4 i f s A n c) 25)).alloc (.cells #[.int .i64 d] 3)) hn hc (by omega) hd8 (by simp) (by rw [World.cell?_alloc_at _ _ _ _ (by simp)]; rfl) (hS.up hb0))
          clear hv hS ih hb hd
          generalize greatL l (d - 1) = L at *
          go_enter Tryz.func40, Tryz.ntmps40
          go_wp2_with fail
          refine HC.out.mono ?_
          rintro e w2 ⟨rfl, hb2⟩
          go_wp2_with fail
          go_ret
          exact ⟨by rw [HR.out]; rfl, hb0.trans (hb2.mono hb0.size)⟩
    · have e4 : ((k : Int) == 4) = false := by simpa using h4
      have HR := Lib.hid (show greatV (.mk k i f s l) d = false by simp [greatV, h3, h4])
      clear hv hS ih h3 h4
      go_enter Tryz.func40, Tryz.ntmps40
      go_wp2_with fail
      go_ret
      exact ⟨by rw [HR.out]; rfl, hb0⟩
theorem great_calls (x : Val) : GreatC x := Val.ind (p := GreatC) great_step x

def Size2C (x : Val) : Prop := ∀ (v : Value) (w : World), VAt w w.heap.size x v → Calls Tryz.prog 18 #[v] w (Says w (.int .i64 (sizeV x)))

set_option maxRecDepth 100000 in
set_option maxHeartbeats 1600000 in
theorem size2_step (k i : Int) (f : Nat) (s : ByteArray) (l : List Val) (ih : ∀ x ∈ l, Size2C x) : Size2C (.mk k i f s l) := by
  intro v w hv
  obtain ⟨A, n, c, rfl, hc, hn, hs, hf, hS⟩ := hv.parts
  have hb0 : Below w.heap.size w (w.alloc (.cells (vcells k i f s A n c) 25)) := (Below.refl _ w).alloc (Nat.le_refl _) _
  clear hv
  by_cases h1 : k = 1
  · subst h1
    have HR := Lib.hid (show sizeV (.mk 1 i f s l) = 9 by simp [sizeV])
    clear ih hS
    go_enter Tryz.func18, Tryz.ntmps18
    go_wp2_with fail
    go_ret
    exact ⟨by rw [HR.out]; rfl, hb0⟩
  have e1 : ((k : Int) == 1) = false := by simpa using h1
  by_cases h2 : k = 2
  · subst h2
    have HR := Lib.hid (show sizeV (.mk 2 i f s l) = 9 by simp [sizeV])
    clear ih hS
    go_enter Tryz.func18, Tryz.ntmps18
    go_wp2_with fail
    go_ret
    exact ⟨by rw [HR.out]; rfl, hb0⟩
  have e2 : ((k : Int) == 2) = false := by simpa using h2
  by_cases h3 : k = 3
  · subst h3
    have HR := Lib.hid (show sizeV (.mk 3 i f s l) = 1 + (2 + s.size) by simp [sizeV]; omega)
    clear ih hS
    go_enter Tryz.func18, Tryz.ntmps18
    go_wp2_with fail
    go_ret
    exact ⟨by rw [HR.out]; rfl, hb0⟩
  have e3 : ((k : Int) == 3) = false := by simpa using h3
  by_cases h4 : k = 4
  · subst h4
    have HR := Lib.hid (show sizeV (.mk 4 i f s l) = sizeL 2 l by simp [sizeV])
    have hl := hS.1
    have hst := run_store_f64
    go_enter Tryz.func18, Tryz.ntmps18
    go_wp2_with fail
    go_loopw [3, 28] (fun a t wr => ∃ (j : Nat) (N : Int), j ≤ n ∧ t = .int .i64 j ∧ a = .int .i64 N ∧ sizeL 2 l = sizeL N (l.drop j) ∧ Below w.heap.size w wr ∧ w.heap.size < wr.heap.size) (fun _ t _ => n - (intOf t).toNat)
    case atStart => exact ⟨0, 2, by omega, rfl, rfl, rfl, hb0, by simp⟩
    case round =>
      obtain ⟨j, N, hj, rfl, rfl, hd, hb, hz⟩ := hrel
      by_cases hlt : j < n
      · obtain ⟨b, o, rfl, hbl, hL⟩ := hS.2 (by omega)
        obtain ⟨x, hx⟩ : ∃ x, l[j]? = some x := ⟨_, List.getElem?_eq_getElem (by omega)⟩
        obtain ⟨k', i', f', s', A', n', c', ⟨q0, q1, q2, q3, q4⟩, hv'⟩ := hL.at_ j x hx
        have p0 := (hb.cell (p := ⟨b, o + j * 5, none⟩) hbl).trans q0
        have p1 := (hb.cell (p := ⟨b, o + j * 5 + 1, none⟩) hbl).trans q1
        have p2 := (hb.cell (p := ⟨b, o + j * 5 + 2, none⟩) hbl).trans q2
        have p3 := (hb.cell (p := ⟨b, o + j * 5 + 3, none⟩) hbl).trans q3
        have p4 := (hb.cell (p := ⟨b, o + j * 5 + 4, none⟩) hbl).trans q4
        have HD := Lib.hid (show sizeL 2 l = sizeL (wrap64 (N + sizeV x)) (l.drop (j + 1)) by rw [hd, drop_at hx, sizeL])
        have hbb : Below w.heap.size w (wr.alloc (.cells (vcells k' i' f' s' A' n' c') 25)) := hb.alloc hb.size _
        have HX := Lib.hid (ih x (List.mem_of_getElem? hx) (.agg (vcells k' i' f' s' A' n' c')) _ ((hv'.below hbb).more hbb.size))
        have HBB := Lib.hid hbb
        clear q0 q1 q2 q3 q4 hv' hx hd hb hbb
        generalize sizeV x = y at *
        go_wp2_with (go_at_call 18; refine HX.out.mono ?_; rintro e w' ⟨rfl, hb2⟩)
        go_roundw
        case rel => exact ⟨j + 1, _, by omega, by go_num, rfl, HD.out, HBB.out.trans (hb2.mono HBB.out.size), by have := hb2.size; simp at this; omega⟩
        case measure => simp [intOf]; omega
      · have hjn : j = n := by omega
        subst hjn
        have HD := Lib.hid (show sizeL 2 l = N by rw [hd, List.drop_of_length_le (by omega), sizeL])
        clear hd hj
        go_wp2_with fail
        go_ret
        exact ⟨by rw [HR.out, HD.out]; rfl, hb⟩
  · have e4 : ((k : Int) == 4) = false := by simpa using h4
    have HR := Lib.hid (show sizeV (.mk k i f s l) = 1 by simp [sizeV, h1, h2, h3, h4])
    clear ih hS h1 h2 h3 h4
    go_enter Tryz.func18, Tryz.ntmps18
    go_wp2_with fail
    go_ret
    exact ⟨by rw [HR.out]; rfl, hb0⟩
theorem size2_calls (x : Val) : Size2C x := Val.ind (p := Size2C) size2_step x

/-- whether a value may be -/
def checkV (x : Val) : Int := if strV x then 31 else if greatV x 8 || decide (4096 < sizeV x) then 22 else 0

set_option maxRecDepth 100000 in
set_option maxHeartbeats 1600000 in
theorem check_calls (x : Val) (v : Value) (w : World) (hv : VAt w w.heap.size x v) : Calls Tryz.prog 17 #[v] w (Says w (.int .i64 (checkV x))) := by
  obtain ⟨k, i, f, s, l⟩ := x
  obtain ⟨A, n, c, rfl, hc, hn, hs, hf, hS⟩ := hv.parts
  have hb0 : Below w.heap.size w (w.alloc (.cells (vcells k i f s A n c) 25)) := (Below.refl _ w).alloc (Nat.le_refl _) _
  have hB1 := Blk.new w 25 (vcells k i f s A n c)
  have hsz : (w.alloc (.cells (vcells k i f s A n c) 25)).heap.size = w.heap.size + 1 := by simp
  obtain ⟨W0, hW0⟩ : ∃ W0, W0 = w.alloc (.cells (vcells k i f s A n c) 25) := ⟨_, rfl⟩
  rw [← hW0] at hB1 hsz hb0
  have keep : ∀ {W : World}, Below (w.heap.size + 1) W0 W → (W.cell? ⟨w.heap.size, 0, none⟩ = some (.int .i64 k) ∧ W.cell? ⟨w.heap.size, 1, none⟩ = some (.int .i64 i) ∧ W.cell? ⟨w.heap.size, 2, none⟩ = some (.float .f64 f) ∧ W.cell? ⟨w.heap.size, 3, none⟩ = some (.string s) ∧ W.cell? ⟨w.heap.size, 4, none⟩ = some (.slice A n c)) := fun hb => (hB1.below hb (by omega)).five
  have HS := Lib.hid (fun W (hb : Below (w.heap.size + 1) W0 W) => (strange_calls _ _ W (hv.up (hb0.trans (hb.mono (by omega))))).mono (R' := fun e w' => e = .returned (.bool (strV (.mk k i f s l))) ∧ Below (w.heap.size + 1) W0 w' ∧ _)
    fun e w' ⟨h1, h2⟩ => ⟨h1, hb.trans (h2.mono (hsz ▸ hb.size)), keep (hb.trans (h2.mono (hsz ▸ hb.size)))⟩)
  have HG := Lib.hid (fun W (hb : Below (w.heap.size + 1) W0 W) => (great_calls _ _ 8 8 W rfl (by omega) (hv.up (hb0.trans (hb.mono (by omega))))).mono (R' := fun e w' => e = .returned (.bool (greatV (.mk k i f s l) 8)) ∧ Below (w.heap.size + 1) W0 w' ∧ _)
    fun e w' ⟨h1, h2⟩ => ⟨h1, hb.trans (h2.mono (hsz ▸ hb.size)), keep (hb.trans (h2.mono (hsz ▸ hb.size)))⟩)
  have HZ := Lib.hid (fun W (hb : Below (w.heap.size + 1) W0 W) => (size2_calls _ _ W (hv.up (hb0.trans (hb.mono (by omega))))).mono (R' := fun e w' => e = .returned (.int .i64 (sizeV (.mk k i f s l))) ∧ Below (w.heap.size + 1) W0 w')
    fun e w' ⟨h1, h2⟩ => ⟨h1, hb.trans (h2.mono (hsz ▸ hb.size))⟩)
  have HB0 := Lib.hid hb0
  have H0 := Lib.hid (Below.refl (w.heap.size + 1) W0)
  have HC := Lib.hid (keep (Below.refl (w.heap.size + 1) W0))
  have HD : Hid (checkV (.mk k i f s l) = if strV (.mk k i f s l) then 31 else if greatV (.mk k i f s l) 8 || decide (4096 < sizeV (.mk k i f s l)) then 22 else 0) := Lib.hid rfl
  clear hv hb0 hS keep hB1 hsz hf
  generalize sizeV (.mk k i f s l) = Z at *
  generalize greatV (.mk k i f s l) 8 = G at *
  generalize strV (.mk k i f s l) = T at *
  generalize checkV (.mk k i f s l) = R at *
  cases T
  · cases G
    · by_cases hZ : 4096 < Z
      · rw [decide_eq_true hZ, if_neg (by simp), if_pos (by simp)] at HD
        go_enter Tryz.func17, Tryz.ntmps17
        go_wp2_with fail
        rw [← hW0]
        clear hW0
        refine (HS.out _ H0.out).mono ?_
        rintro e wA ⟨rfl, hbA, q0, q1, q2, q3, q4⟩
        have HA := Lib.hid hbA
        clear hbA
        go_wp2_with fail
        refine (HG.out _ HA.out).mono ?_
        rintro e wB ⟨rfl, hbB, q0, q1, q2, q3, q4⟩
        have HB := Lib.hid hbB
        clear hbB
        go_wp2_with fail
        refine (HZ.out _ HB.out).mono ?_
        rintro e wC ⟨rfl, hbC⟩
        have HCC := Lib.hid hbC
        clear hbC
        go_wp2_with fail
        go_ret
        exact ⟨by rw [HD.out]; rfl, HB0.out.trans (HCC.out.mono (by omega))⟩
      · rw [decide_eq_false hZ, if_neg (by simp), if_neg (by simp)] at HD
        go_enter Tryz.func17, Tryz.ntmps17
        go_wp2_with fail
        rw [← hW0]
        clear hW0
        refine (HS.out _ H0.out).mono ?_
        rintro e wA ⟨rfl, hbA, q0, q1, q2, q3, q4⟩
        have HA := Lib.hid hbA
        clear hbA
        go_wp2_with fail
        refine (HG.out _ HA.out).mono ?_
        rintro e wB ⟨rfl, hbB, q0, q1, q2, q3, q4⟩
        have HB := Lib.hid hbB
        clear hbB
        go_wp2_with fail
        refine (HZ.out _ HB.out).mono ?_
        rintro e wC ⟨rfl, hbC⟩
        have HCC := Lib.hid hbC
        clear hbC
        go_wp2_with fail
        go_ret
        exact ⟨by rw [HD.out]; rfl, HB0.out.trans (HCC.out.mono (by omega))⟩
    · rw [if_neg (by simp), if_pos (by simp)] at HD
      go_enter Tryz.func17, Tryz.ntmps17
      go_wp2_with fail
      rw [← hW0]
      clear hW0
      refine (HS.out _ H0.out).mono ?_
      rintro e wA ⟨rfl, hbA, q0, q1, q2, q3, q4⟩
      have HA := Lib.hid hbA
      clear hbA
      go_wp2_with fail
      refine (HG.out _ HA.out).mono ?_
      rintro e wB ⟨rfl, hbB, q0, q1, q2, q3, q4⟩
      have HB := Lib.hid hbB
      clear hbB
      go_wp2_with fail
      go_ret
      exact ⟨by rw [HD.out]; rfl, HB0.out.trans (HB.out.mono (by omega))⟩
  · rw [if_pos rfl] at HD
    go_enter Tryz.func17, Tryz.ntmps17
    go_wp2_with fail
    rw [← hW0]
    clear hW0
    refine (HS.out _ H0.out).mono ?_
    rintro e wA ⟨rfl, hbA, q0, q1, q2, q3, q4⟩
    have HA := Lib.hid hbA
    clear hbA
    go_wp2_with fail
    go_ret
    exact ⟨by rw [HD.out]; rfl, HB0.out.trans (HA.out.mono (by omega))⟩

end Go.Proofs.YthmdfliimlimhaaGreatDoor
