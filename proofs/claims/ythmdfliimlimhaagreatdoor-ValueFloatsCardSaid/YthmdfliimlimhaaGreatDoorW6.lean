/- What may not be: strange, great, Check; slices.ContainsFunc over lists of values: contracts. -/
import Derived.Test.YthmdfliimlimhaaGreatDoorW5
namespace Go.Proofs.YthmdfliimlimhaaGreatDoor
open Go.RowKit

attribute [local go_sem ↓] Go.wp_at_zero Go.wp_at_succ

mutual
def strV : Val → Bool
  | .mk k _ _ _ l => (k != kd k) || (k == 4 && strL l)
def strL : List Val → Bool
  | [] => false
  | x :: xs => strV x || strL xs
end
mutual
def greatV : Val → Nat → Bool
  | .mk k _ _ s l, d => if k = 3 then decide (256 < s.size) else if k = 4 then decide (64 < l.length) || decide (d < 1) || greatL l (d - 1) else false
def greatL : List Val → Nat → Bool
  | [], _ => false
  | x :: xs, d => greatV x d || greatL xs d
end

def StrC (x : Val) : Prop := ∀ (v : Value) (w : World), VAt w w.heap.size x v → Calls Tryz.prog 39 #[v] w (Says w (.bool (strV x)))
def GreatC (x : Val) : Prop := ∀ (v : Value) (d : Nat) (D : Int) (w : World), D = d → d ≤ 8 → VAt w w.heap.size x v → Calls Tryz.prog 40 #[v, .int .i64 D] w (Says w (.bool (greatV x d)))
def Great1C (x : Val) : Prop := ∀ (v : Value) (d : Nat) (G : Nat) (w : World), 1 ≤ d → d ≤ 8 → G < w.heap.size → w.cell? ⟨G, 0, none⟩ = some (.int .i64 d) → VAt w w.heap.size x v → Calls Tryz.prog 58 #[v, .pointer (some ⟨G, 0, none⟩)] w (Says w (.bool (greatV x (d - 1))))

def IdxP (b : Bool) (w : World) (e : Ending) (w' : World) : Prop := (∃ r : Int, e = .returned (.int .i64 r) ∧ decide (0 ≤ r) = b) ∧ Below w.heap.size w w'

set_option maxRecDepth 100000 in
set_option maxHeartbeats 1600000 in
theorem indexfunc_str (l : List Val) (ih : ∀ x ∈ l, StrC x) (A : Option Addr) (n c : Nat)  (w : World) (hn : n ≤ 281474976710656) (hc : n ≤ c)  (h1 : SAt w w.heap.size A n l) :
    Calls Tryz.prog 71 #[.slice A n c, .func (.func 39) #[] #[]] w (IdxP (strL l) w) := by
  have hl1 := h1.1
  go_enter Tryz.func71, Tryz.ntmps71
  go_wp2_with fail
  go_loopw [8] (fun t wr => ∃ j : Nat, j ≤ n ∧ t = .int .i64 j ∧ strL l = strL (l.drop j) ∧ Below w.heap.size w wr) (fun t _ => n - (intOf t).toNat)
  case atStart => exact ⟨0, by omega, rfl, rfl, Below.refl _ _⟩
  case round =>
    obtain ⟨j, hj, rfl, hd0, hb⟩ := hrel
    by_cases hlt : j < n
    · obtain ⟨b, o, rfl, hbl, hL⟩ := h1.2 (by omega)
      obtain ⟨x, hx⟩ : ∃ x, l[j]? = some x := ⟨_, List.getElem?_eq_getElem (by omega)⟩
      obtain ⟨k', i', f', s', A', n', c', ⟨q0, q1, q2, q3, q4⟩, hv'⟩ := hL.at_ j x hx
      have p0 := (hb.cell (p := ⟨b, o + j * 5, none⟩) hbl).trans q0
      have p1 := (hb.cell (p := ⟨b, o + j * 5 + 1, none⟩) hbl).trans q1
      have p2 := (hb.cell (p := ⟨b, o + j * 5 + 2, none⟩) hbl).trans q2
      have p3 := (hb.cell (p := ⟨b, o + j * 5 + 3, none⟩) hbl).trans q3
      have p4 := (hb.cell (p := ⟨b, o + j * 5 + 4, none⟩) hbl).trans q4
      have HX := Lib.hid hx
      have HD0 := Lib.hid hd0
      have HC := Lib.hid (ih x (List.mem_of_getElem? hx) _ wr ((hv'.below hb).more hb.size))
      have HBB := Lib.hid hb
      clear q0 q1 q2 q3 q4 hv' hb hx hd0
      cases hz : strV x
      · rw [hz] at HC
        have HD := Lib.hid (show strL l = strL (l.drop (j + 1)) by rw [HD0.out, drop_at HX.out, strL, hz]; rfl)
        clear hz HD0 HX
        go_wp2_with fail
        refine HC.out.mono ?_
        rintro e w2 ⟨rfl, hb2⟩
        go_wp2_with fail
        go_roundw
        case rel => exact ⟨j + 1, by omega, by go_num, HD.out, HBB.out.trans (hb2.mono HBB.out.size)⟩
        case measure => simp [intOf]; omega
      · rw [hz] at HC
        have HD := Lib.hid (show strL l = true by rw [HD0.out, drop_at HX.out, strL, hz]; rfl)
        clear hz HD0 HX
        go_wp2_with fail
        refine HC.out.mono ?_
        rintro e w2 ⟨rfl, hb2⟩
        go_wp2_with fail
        go_ret
        exact ⟨⟨_, rfl, by rw [HD.out]; simp⟩, HBB.out.trans (hb2.mono HBB.out.size)⟩
    · have hjn : j = n := by omega
      subst hjn
      have HB := Lib.hid hb
      have HD := Lib.hid (show strL l = false by rw [hd0, show l.drop j = [] from List.drop_of_length_le (by omega), strL])
      clear hb hd0 hj
      go_wp2_with fail
      go_ret
      exact ⟨⟨_, rfl, by rw [HD.out]; rfl⟩, HB.out⟩

set_option maxRecDepth 100000 in
set_option maxHeartbeats 1600000 in
theorem contfunc_str (l : List Val) (ih : ∀ x ∈ l, StrC x) (A : Option Addr) (n c : Nat)  (w : World) (hn : n ≤ 281474976710656) (hc : n ≤ c)  (h1 : SAt w w.heap.size A n l) :
    Calls Tryz.prog 57 #[.slice A n c, .func (.func 39) #[] #[]] w (Says w (.bool (strL l))) := by
  have HI := Lib.hid (indexfunc_str l ih A n c  w hn hc  h1)
  clear ih h1 
  go_enter Tryz.func57, Tryz.ntmps57
  go_wp2_with fail
  refine HI.out.mono ?_
  rintro e w1 ⟨⟨r, rfl, hr⟩, hb⟩
  have HB := Lib.hid hb
  have HR := Lib.hid hr
  clear hb hr
  go_wp2_with fail
  go_ret
  exact ⟨by rw [← HR.out]; rfl, HB.out⟩

set_option maxRecDepth 100000 in
set_option maxHeartbeats 1600000 in
theorem indexfunc_gr (l : List Val) (ih : ∀ x ∈ l, Great1C x) (A : Option Addr) (n c : Nat) (d G : Nat) (w : World) (hn : n ≤ 281474976710656) (hc : n ≤ c) (hd1 : 1 ≤ d) (hd8 : d ≤ 8) (hG : G < w.heap.size) (hcell : w.cell? ⟨G, 0, none⟩ = some (.int .i64 d)) (h1 : SAt w w.heap.size A n l) :
    Calls Tryz.prog 71 #[.slice A n c, .func (.func 58) #[] #[.pointer (some ⟨G, 0, none⟩)]] w (IdxP (greatL l (d - 1)) w) := by
  have hl1 := h1.1
  go_enter Tryz.func71, Tryz.ntmps71
  go_wp2_with fail
  go_loopw [8] (fun t wr => ∃ j : Nat, j ≤ n ∧ t = .int .i64 j ∧ greatL l (d - 1) = greatL (l.drop j) (d - 1) ∧ Below w.heap.size w wr) (fun t _ => n - (intOf t).toNat)
  case atStart => exact ⟨0, by omega, rfl, rfl, Below.refl _ _⟩
  case round =>
    obtain ⟨j, hj, rfl, hd0, hb⟩ := hrel
    by_cases hlt : j < n
    · obtain ⟨b, o, rfl, hbl, hL⟩ := h1.2 (by omega)
      obtain ⟨x, hx⟩ : ∃ x, l[j]? = some x := ⟨_, List.getElem?_eq_getElem (by omega)⟩
      obtain ⟨k', i', f', s', A', n', c', ⟨q0, q1, q2, q3, q4⟩, hv'⟩ := hL.at_ j x hx
      have p0 := (hb.cell (p := ⟨b, o + j * 5, none⟩) hbl).trans q0
      have p1 := (hb.cell (p := ⟨b, o + j * 5 + 1, none⟩) hbl).trans q1
      have p2 := (hb.cell (p := ⟨b, o + j * 5 + 2, none⟩) hbl).trans q2
      have p3 := (hb.cell (p := ⟨b, o + j * 5 + 3, none⟩) hbl).trans q3
      have p4 := (hb.cell (p := ⟨b, o + j * 5 + 4, none⟩) hbl).trans q4
      have HX := Lib.hid hx
      have HD0 := Lib.hid hd0
      have HC := Lib.hid (ih x (List.mem_of_getElem? hx) _ d G wr hd1 hd8 (Nat.lt_of_lt_of_le hG hb.size) ((hb.cell (p := ⟨G, 0, none⟩) hG).trans hcell) ((hv'.below hb).more hb.size))
      have HBB := Lib.hid hb
      clear q0 q1 q2 q3 q4 hv' hb hx hd0
      cases hz : greatV x (d - 1)
      · rw [hz] at HC
        have HD := Lib.hid (show greatL l (d - 1) = greatL (l.drop (j + 1)) (d - 1) by rw [HD0.out, drop_at HX.out, greatL, hz]; rfl)
        clear hz HD0 HX
        go_wp2_with fail
        refine HC.out.mono ?_
        rintro e w2 ⟨rfl, hb2⟩
        go_wp2_with fail
        go_roundw
        case rel => exact ⟨j + 1, by omega, by go_num, HD.out, HBB.out.trans (hb2.mono HBB.out.size)⟩
        case measure => simp [intOf]; omega
      · rw [hz] at HC
        have HD := Lib.hid (show greatL l (d - 1) = true by rw [HD0.out, drop_at HX.out, greatL, hz]; rfl)
        clear hz HD0 HX
        go_wp2_with fail
        refine HC.out.mono ?_
        rintro e w2 ⟨rfl, hb2⟩
        go_wp2_with fail
        go_ret
        exact ⟨⟨_, rfl, by rw [HD.out]; simp⟩, HBB.out.trans (hb2.mono HBB.out.size)⟩
    · have hjn : j = n := by omega
      subst hjn
      have HB := Lib.hid hb
      have HD := Lib.hid (show greatL l (d - 1) = false by rw [hd0, show l.drop j = [] from List.drop_of_length_le (by omega), greatL])
      clear hb hd0 hj
      go_wp2_with fail
      go_ret
      exact ⟨⟨_, rfl, by rw [HD.out]; rfl⟩, HB.out⟩

set_option maxRecDepth 100000 in
set_option maxHeartbeats 1600000 in
theorem contfunc_gr (l : List Val) (ih : ∀ x ∈ l, Great1C x) (A : Option Addr) (n c : Nat) (d G : Nat) (w : World) (hn : n ≤ 281474976710656) (hc : n ≤ c) (hd1 : 1 ≤ d) (hd8 : d ≤ 8) (hG : G < w.heap.size) (hcell : w.cell? ⟨G, 0, none⟩ = some (.int .i64 d)) (h1 : SAt w w.heap.size A n l) :
    Calls Tryz.prog 57 #[.slice A n c, .func (.func 58) #[] #[.pointer (some ⟨G, 0, none⟩)]] w (Says w (.bool (greatL l (d - 1)))) := by
  have HI := Lib.hid (indexfunc_gr l ih A n c d G w hn hc hd1 hd8 hG hcell h1)
  clear ih h1 hcell
  go_enter Tryz.func57, Tryz.ntmps57
  go_wp2_with fail
  refine HI.out.mono ?_
  rintro e w1 ⟨⟨r, rfl, hr⟩, hb⟩
  have HB := Lib.hid hb
  have HR := Lib.hid hr
  clear hb hr
  go_wp2_with fail
  go_ret
  exact ⟨by rw [← HR.out]; rfl, HB.out⟩

section
variable {P : Program} {ops : Array Oper} {Q : Exit → Act → World → Prop} {md : Region.Mode} {S : World → Prop}
theorem take_put {i d : Nat} {oi : Oper} {v : Value} {fuel : Nat} {listed : Array Bool} {a : Act} {w : World} (hi : ops[i]? = some oi) (hd : oi.dst = some d)
    (hs : Region.noSelect ops = true) (hf : Region.free md ops listed i = true) (hr : (Region.ready md ops listed).contains i = true)
    (hQ : ∀ c a w, Q (.panic c) (a.put oi.dst v) w → Q (.panic c) a w) (hy : YieldsIf P ops S oi v a) (hS : S w)
    (h : wpAnyH P md ops Q S fuel (listed.setIfInBounds i true) ⟨a.tmps.setIfInBounds d v, a.defers⟩ w) : wpAnyH P md ops Q S (fuel + 1) listed a w :=
  wpAnyH_take hi hs hf hr hQ hy hS (by rw [hd]; exact h)
end

set_option maxRecDepth 100000 in
set_option maxHeartbeats 1600000 in
theorem strange_step (k i : Int) (f : Nat) (s : ByteArray) (l : List Val) (ih : ∀ x ∈ l, StrC x) : StrC (.mk k i f s l) := by
  intro v w hv
  obtain ⟨A, n, c, rfl, hc, hn, hs, hf, hS⟩ := hv.parts
  have hb0 : Below w.heap.size w (w.alloc (.cells (vcells k i f s A n c) 25)) := (Below.refl _ w).alloc (Nat.le_refl _) _
  have hB1 := Blk.new w 25 (vcells k i f s A n c)
  have hsz : (w.alloc (.cells (vcells k i f s A n c) 25)).heap.size = w.heap.size + 1 := by simp
  obtain ⟨W0, hW0⟩ : ∃ W0, W0 = w.alloc (.cells (vcells k i f s A n c) 25) := ⟨_, rfl⟩
  rw [← hW0] at hB1 hsz hb0
  have keep : ∀ {W : World}, Below (w.heap.size + 1) W0 W → (W.cell? ⟨w.heap.size, 0, none⟩ = some (.int .i64 k) ∧ W.cell? ⟨w.heap.size, 1, none⟩ = some (.int .i64 i) ∧ W.cell? ⟨w.heap.size, 2, none⟩ = some (.float .f64 f) ∧ W.cell? ⟨w.heap.size, 3, none⟩ = some (.string s) ∧ W.cell? ⟨w.heap.size, 4, none⟩ = some (.slice A n c)) := fun hb => (hB1.below hb (by omega)).five
  have HK1 := Lib.hid (fun W (hb : Below (w.heap.size + 1) W0 W) => (kind_calls k i f s A n c W).mono (R' := fun e w' => e = .returned (.int .i64 (kd k)) ∧ Below (w.heap.size + 1) W0 w' ∧ _)
    fun e w' ⟨h1, h2⟩ => ⟨h1, hb.trans (h2.mono (hsz ▸ hb.size)), keep (hb.trans (h2.mono (hsz ▸ hb.size)))⟩)
  have HL := Lib.hid (fun W (hb : Below (w.heap.size + 1) W0 W) => (contfunc_str l ih A n c W hn hc (hS.up (hb0.trans (hb.mono (by omega))))).mono (R' := fun e w' => e = .returned (.bool (strL l)) ∧ Below (w.heap.size + 1) W0 w' ∧ _)
    fun e w' ⟨h1, h2⟩ => ⟨h1, hb.trans (h2.mono (hsz ▸ hb.size)), keep (hb.trans (h2.mono (hsz ▸ hb.size)))⟩)
  have HB0 := Lib.hid hb0
  have H0 := Lib.hid (Below.refl (w.heap.size + 1) W0)
  have HC := Lib.hid (keep (Below.refl (w.heap.size + 1) W0))
  have HD : Hid (strV (.mk k i f s l) = ((k != kd k) || (k == 4 && strL l))) := Lib.hid (by rw [strV])
  clear hv hb0 hS keep hB1 ih hsz hf
  by_cases h1 : k = kd k
  · have g1 : (k != kd k) = false := by simpa using h1
    by_cases h4 : k = 4
    · have g4 : (k == 4) = true := by simpa using h4
      rw [g1, g4, show (false || true && strL l) = strL l by simp] at HD
      clear h1 h4
      generalize kd k = K at *
      generalize strL l = L at *
      go_enter Tryz.func39, Tryz.ntmps39
      go_wp2_with fail
      rw [← hW0]
      clear hW0
      refine wp_region_held_drew (S := fun w' => (w'.cell? ⟨w.heap.size, 0, none⟩ = some (.int .i64 k) ∧ w'.cell? ⟨w.heap.size, 1, none⟩ = some (.int .i64 i) ∧ w'.cell? ⟨w.heap.size, 2, none⟩ = some (.float .f64 f) ∧ w'.cell? ⟨w.heap.size, 3, none⟩ = some (.string s) ∧ w'.cell? ⟨w.heap.size, 4, none⟩ = some (.slice A n c))) (by kernel_rfl) HC.out (fun hHeld => ?_)
      refine take_put (i := 0) (d := 3) (v := (.pointer (some ⟨w.heap.size, 0, none⟩))) rfl rfl (by kernel_rfl) (by kernel_rfl) (by kernel_rfl) (fun _ _ _ h => h) (Or.inl ⟨by rfl, by (intro w hSw; go_simp)⟩) hHeld ?_
      simp only [List.setIfInBounds_toArray, List.set_cons_zero, List.set_cons_succ]
      refine take_put (i := 1) (d := 4) (v := (.int .i64 k)) rfl rfl (by kernel_rfl) (by kernel_rfl) (by kernel_rfl) (fun _ _ _ h => h) (Or.inl ⟨by rfl, by (intro w hSw; go_simp)⟩) hHeld ?_
      simp only [List.setIfInBounds_toArray, List.set_cons_zero, List.set_cons_succ]
      refine take_put (i := 2) (d := 5) (v := (.agg #[.int .i64 k, .int .i64 i, .float .f64 f, .string s, .slice A n c])) rfl rfl (by kernel_rfl) (by kernel_rfl) (by kernel_rfl) (fun _ _ _ h => h) (Or.inl ⟨by rfl, by (intro w hSw; go_simp)⟩) hHeld ?_
      simp only [List.setIfInBounds_toArray, List.set_cons_zero, List.set_cons_succ]
      refine wpAnyH_ready (rs := [3]) (by kernel_rfl) (by simp) ?_
      refine AllReadyH.cons rfl (fun K hK => ?_) AllReadyH.nil
      go_simp
      refine (HK1.out _ H0.out.drew).mono ?_
      rintro e wA ⟨rfl, hbA, kA⟩
      go_wp2_with fail
      refine hK.out _ _ kA (fun hHeld => ?_)
      clear hK K
      try simp only [Act.put, List.setIfInBounds_toArray, List.set_cons_zero, List.set_cons_succ]
      refine take_put (i := 4) (d := 7) (v := (.bool false)) rfl rfl (by kernel_rfl) (by kernel_rfl) (by kernel_rfl) (fun _ _ _ h => h) (Or.inl ⟨by rfl, by (intro w hSw; go_simp)⟩) hHeld ?_
      simp only [List.setIfInBounds_toArray, List.set_cons_zero, List.set_cons_succ]
      refine take_put (i := 5) (d := 8) (v := (.bool false)) rfl rfl (by kernel_rfl) (by kernel_rfl) (by kernel_rfl) (fun _ _ _ h => h) (Or.inl ⟨by rfl, by (intro w hSw; go_simp)⟩) hHeld ?_
      simp only [List.setIfInBounds_toArray, List.set_cons_zero, List.set_cons_succ]
      refine take_put (i := 6) (d := 9) (v := (.pointer (some ⟨w.heap.size, 0, none⟩))) rfl rfl (by kernel_rfl) (by kernel_rfl) (by kernel_rfl) (fun _ _ _ h => h) (Or.inl ⟨by rfl, by (intro w hSw; go_simp)⟩) hHeld ?_
      simp only [List.setIfInBounds_toArray, List.set_cons_zero, List.set_cons_succ]
      refine take_put (i := 7) (d := 10) (v := (.int .i64 k)) rfl rfl (by kernel_rfl) (by kernel_rfl) (by kernel_rfl) (fun _ _ _ h => h) (Or.inl ⟨by rfl, by (intro w hSw; go_simp)⟩) hHeld ?_
      simp only [List.setIfInBounds_toArray, List.set_cons_zero, List.set_cons_succ]
      refine take_put (i := 8) (d := 11) (v := (.bool true)) rfl rfl (by kernel_rfl) (by kernel_rfl) (by kernel_rfl) (fun _ _ _ h => h) (Or.inl ⟨by rfl, by (intro w hSw; go_simp)⟩) hHeld ?_
      simp only [List.setIfInBounds_toArray, List.set_cons_zero, List.set_cons_succ]
      refine take_put (i := 9) (d := 12) (v := (.bool true)) rfl rfl (by kernel_rfl) (by kernel_rfl) (by kernel_rfl) (fun _ _ _ h => h) (Or.inl ⟨by rfl, by (intro w hSw; go_simp)⟩) hHeld ?_
      simp only [List.setIfInBounds_toArray, List.set_cons_zero, List.set_cons_succ]
      refine take_put (i := 10) (d := 13) (v := (.pointer (some ⟨w.heap.size, 4, none⟩))) rfl rfl (by kernel_rfl) (by kernel_rfl) (by kernel_rfl) (fun _ _ _ h => h) (Or.inl ⟨by rfl, by (intro w hSw; go_simp)⟩) hHeld ?_
      simp only [List.setIfInBounds_toArray, List.set_cons_zero, List.set_cons_succ]
      refine take_put (i := 11) (d := 14) (v := (.slice A n c)) rfl rfl (by kernel_rfl) (by kernel_rfl) (by kernel_rfl) (fun _ _ _ h => h) (Or.inl ⟨by rfl, by (intro w hSw; go_simp)⟩) hHeld ?_
      simp only [List.setIfInBounds_toArray, List.set_cons_zero, List.set_cons_succ]
      refine wpAnyH_ready (rs := [12]) (by kernel_rfl) (by simp) ?_
      refine AllReadyH.cons rfl (fun K hK => ?_) AllReadyH.nil
      go_simp
      refine (HL.out _ hbA).mono ?_
      rintro e wB ⟨rfl, hbB, kB⟩
      go_wp2_with fail
      refine hK.out _ _ kB (fun hHeld => ?_)
      clear hK K
      try simp only [Act.put, List.setIfInBounds_toArray, List.set_cons_zero, List.set_cons_succ]
      refine take_put (i := 13) (d := 16) (v := (.bool L)) rfl rfl (by kernel_rfl) (by kernel_rfl) (by kernel_rfl) (fun _ _ _ h => h) (Or.inl ⟨by rfl, by (intro w hSw; go_simp)⟩) hHeld ?_
      simp only [List.setIfInBounds_toArray, List.set_cons_zero, List.set_cons_succ]
      refine take_put (i := 14) (d := 17) (v := (.bool L)) rfl rfl (by kernel_rfl) (by kernel_rfl) (by kernel_rfl) (fun _ _ _ h => h) (Or.inl ⟨by rfl, by (intro w hSw; go_simp)⟩) hHeld ?_
      simp only [List.setIfInBounds_toArray, List.set_cons_zero, List.set_cons_succ]
      refine take_put (i := 15) (d := 2) (v := (.bool L)) rfl rfl (by kernel_rfl) (by kernel_rfl) (by kernel_rfl) (fun _ _ _ h => h) (Or.inl ⟨by rfl, by (intro w hSw; go_simp)⟩) hHeld ?_
      simp only [List.setIfInBounds_toArray, List.set_cons_zero, List.set_cons_succ]
      refine wpAnyH_done (by kernel_rfl) ?_ _
      go_wp2_with fail
      go_ret
      exact ⟨by rw [HD.out]; rfl, HB0.out.trans (hbB.mono (by omega))⟩
    · have g4 : (k == 4) = false := by simpa using h4
      rw [g1, g4, show (false || false && strL l) = false by simp] at HD
      clear h1 h4
      generalize kd k = K at *
      go_enter Tryz.func39, Tryz.ntmps39
      go_wp2_with fail
      rw [← hW0]
      clear hW0
      refine wp_region_held_drew (S := fun w' => (w'.cell? ⟨w.heap.size, 0, none⟩ = some (.int .i64 k) ∧ w'.cell? ⟨w.heap.size, 1, none⟩ = some (.int .i64 i) ∧ w'.cell? ⟨w.heap.size, 2, none⟩ = some (.float .f64 f) ∧ w'.cell? ⟨w.heap.size, 3, none⟩ = some (.string s) ∧ w'.cell? ⟨w.heap.size, 4, none⟩ = some (.slice A n c))) (by kernel_rfl) HC.out (fun hHeld => ?_)
      refine take_put (i := 0) (d := 3) (v := (.pointer (some ⟨w.heap.size, 0, none⟩))) rfl rfl (by kernel_rfl) (by kernel_rfl) (by kernel_rfl) (fun _ _ _ h => h) (Or.inl ⟨by rfl, by (intro w hSw; go_simp)⟩) hHeld ?_
      simp only [List.setIfInBounds_toArray, List.set_cons_zero, List.set_cons_succ]
      refine take_put (i := 1) (d := 4) (v := (.int .i64 k)) rfl rfl (by kernel_rfl) (by kernel_rfl) (by kernel_rfl) (fun _ _ _ h => h) (Or.inl ⟨by rfl, by (intro w hSw; go_simp)⟩) hHeld ?_
      simp only [List.setIfInBounds_toArray, List.set_cons_zero, List.set_cons_succ]
      refine take_put (i := 2) (d := 5) (v := (.agg #[.int .i64 k, .int .i64 i, .float .f64 f, .string s, .slice A n c])) rfl rfl (by kernel_rfl) (by kernel_rfl) (by kernel_rfl) (fun _ _ _ h => h) (Or.inl ⟨by rfl, by (intro w hSw; go_simp)⟩) hHeld ?_
      simp only [List.setIfInBounds_toArray, List.set_cons_zero, List.set_cons_succ]
      refine wpAnyH_ready (rs := [3]) (by kernel_rfl) (by simp) ?_
      refine AllReadyH.cons rfl (fun K hK => ?_) AllReadyH.nil
      go_simp
      refine (HK1.out _ H0.out.drew).mono ?_
      rintro e wA ⟨rfl, hbA, kA⟩
      go_wp2_with fail
      refine hK.out _ _ kA (fun hHeld => ?_)
      clear hK K
      try simp only [Act.put, List.setIfInBounds_toArray, List.set_cons_zero, List.set_cons_succ]
      refine take_put (i := 4) (d := 7) (v := (.bool false)) rfl rfl (by kernel_rfl) (by kernel_rfl) (by kernel_rfl) (fun _ _ _ h => h) (Or.inl ⟨by rfl, by (intro w hSw; go_simp)⟩) hHeld ?_
      simp only [List.setIfInBounds_toArray, List.set_cons_zero, List.set_cons_succ]
      refine take_put (i := 5) (d := 8) (v := (.bool false)) rfl rfl (by kernel_rfl) (by kernel_rfl) (by kernel_rfl) (fun _ _ _ h => h) (Or.inl ⟨by rfl, by (intro w hSw; go_simp)⟩) hHeld ?_
      simp only [List.setIfInBounds_toArray, List.set_cons_zero, List.set_cons_succ]
      refine take_put (i := 6) (d := 9) (v := (.pointer (some ⟨w.heap.size, 0, none⟩))) rfl rfl (by kernel_rfl) (by kernel_rfl) (by kernel_rfl) (fun _ _ _ h => h) (Or.inl ⟨by rfl, by (intro w hSw; go_simp)⟩) hHeld ?_
      simp only [List.setIfInBounds_toArray, List.set_cons_zero, List.set_cons_succ]
      refine take_put (i := 7) (d := 10) (v := (.int .i64 k)) rfl rfl (by kernel_rfl) (by kernel_rfl) (by kernel_rfl) (fun _ _ _ h => h) (Or.inl ⟨by rfl, by (intro w hSw; go_simp)⟩) hHeld ?_
      simp only [List.setIfInBounds_toArray, List.set_cons_zero, List.set_cons_succ]
      refine take_put (i := 8) (d := 11) (v := (.bool false)) rfl rfl (by kernel_rfl) (by kernel_rfl) (by kernel_rfl) (fun _ _ _ h => h) (Or.inl ⟨by rfl, by (intro w hSw; go_simp)⟩) hHeld ?_
      simp only [List.setIfInBounds_toArray, List.set_cons_zero, List.set_cons_succ]
      refine take_put (i := 9) (d := 12) (v := (.bool false)) rfl rfl (by kernel_rfl) (by kernel_rfl) (by kernel_rfl) (fun _ _ _ h => h) (Or.inl ⟨by rfl, by (intro w hSw; go_simp)⟩) hHeld ?_
      simp only [List.setIfInBounds_toArray, List.set_cons_zero, List.set_cons_succ]
      refine take_put (i := 10) (d := 13) (v := undef) rfl rfl (by kernel_rfl) (by kernel_rfl) (by kernel_rfl) (fun _ _ _ h => h) (Or.inr ⟨by rfl, rfl⟩) hHeld ?_
      simp only [List.setIfInBounds_toArray, List.set_cons_zero, List.set_cons_succ]
      refine take_put (i := 11) (d := 14) (v := undef) rfl rfl (by kernel_rfl) (by kernel_rfl) (by kernel_rfl) (fun _ _ _ h => h) (Or.inr ⟨by rfl, rfl⟩) hHeld ?_
      simp only [List.setIfInBounds_toArray, List.set_cons_zero, List.set_cons_succ]
      refine take_put (i := 12) (d := 15) (v := undef) rfl rfl (by kernel_rfl) (by kernel_rfl) (by kernel_rfl) (fun _ _ _ h => h) (Or.inr ⟨by rfl, rfl⟩) hHeld ?_
      simp only [List.setIfInBounds_toArray, List.set_cons_zero, List.set_cons_succ]
      refine take_put (i := 13) (d := 16) (v := (.bool false)) rfl rfl (by kernel_rfl) (by kernel_rfl) (by kernel_rfl) (fun _ _ _ h => h) (Or.inl ⟨by rfl, by (intro w hSw; go_simp)⟩) hHeld ?_
      simp only [List.setIfInBounds_toArray, List.set_cons_zero, List.set_cons_succ]
      refine take_put (i := 14) (d := 17) (v := (.bool false)) rfl rfl (by kernel_rfl) (by kernel_rfl) (by kernel_rfl) (fun _ _ _ h => h) (Or.inl ⟨by rfl, by (intro w hSw; go_simp)⟩) hHeld ?_
      simp only [List.setIfInBounds_toArray, List.set_cons_zero, List.set_cons_succ]
      refine take_put (i := 15) (d := 2) (v := (.bool false)) rfl rfl (by kernel_rfl) (by kernel_rfl) (by kernel_rfl) (fun _ _ _ h => h) (Or.inl ⟨by rfl, by (intro w hSw; go_simp)⟩) hHeld ?_
      simp only [List.setIfInBounds_toArray, List.set_cons_zero, List.set_cons_succ]
      refine wpAnyH_done (by kernel_rfl) ?_ _
      go_wp2_with fail
      go_ret
      exact ⟨by rw [HD.out]; rfl, HB0.out.trans (hbA.mono (by omega))⟩
  · have g1 : (k != kd k) = true := by simpa using h1
    rw [g1, show (true || k == 4 && strL l) = true by simp] at HD
    clear h1
    generalize kd k = K at *
    go_enter Tryz.func39, Tryz.ntmps39
    go_wp2_with fail
    rw [← hW0]
    clear hW0
    refine wp_region_held_drew (S := fun w' => (w'.cell? ⟨w.heap.size, 0, none⟩ = some (.int .i64 k) ∧ w'.cell? ⟨w.heap.size, 1, none⟩ = some (.int .i64 i) ∧ w'.cell? ⟨w.heap.size, 2, none⟩ = some (.float .f64 f) ∧ w'.cell? ⟨w.heap.size, 3, none⟩ = some (.string s) ∧ w'.cell? ⟨w.heap.size, 4, none⟩ = some (.slice A n c))) (by kernel_rfl) HC.out (fun hHeld => ?_)
    refine take_put (i := 0) (d := 3) (v := (.pointer (some ⟨w.heap.size, 0, none⟩))) rfl rfl (by kernel_rfl) (by kernel_rfl) (by kernel_rfl) (fun _ _ _ h => h) (Or.inl ⟨by rfl, by (intro w hSw; go_simp)⟩) hHeld ?_
    simp only [List.setIfInBounds_toArray, List.set_cons_zero, List.set_cons_succ]
    refine take_put (i := 1) (d := 4) (v := (.int .i64 k)) rfl rfl (by kernel_rfl) (by kernel_rfl) (by kernel_rfl) (fun _ _ _ h => h) (Or.inl ⟨by rfl, by (intro w hSw; go_simp)⟩) hHeld ?_
    simp only [List.setIfInBounds_toArray, List.set_cons_zero, List.set_cons_succ]
    refine take_put (i := 2) (d := 5) (v := (.agg #[.int .i64 k, .int .i64 i, .float .f64 f, .string s, .slice A n c])) rfl rfl (by kernel_rfl) (by kernel_rfl) (by kernel_rfl) (fun _ _ _ h => h) (Or.inl ⟨by rfl, by (intro w hSw; go_simp)⟩) hHeld ?_
    simp only [List.setIfInBounds_toArray, List.set_cons_zero, List.set_cons_succ]
    refine wpAnyH_ready (rs := [3]) (by kernel_rfl) (by simp) ?_
    refine AllReadyH.cons rfl (fun K hK => ?_) AllReadyH.nil
    go_simp
    refine (HK1.out _ H0.out.drew).mono ?_
    rintro e wA ⟨rfl, hbA, kA⟩
    go_wp2_with fail
    refine hK.out _ _ kA (fun hHeld => ?_)
    clear hK K
    try simp only [Act.put, List.setIfInBounds_toArray, List.set_cons_zero, List.set_cons_succ]
    refine take_put (i := 4) (d := 7) (v := (.bool true)) rfl rfl (by kernel_rfl) (by kernel_rfl) (by kernel_rfl) (fun _ _ _ h => h) (Or.inl ⟨by rfl, by (intro w hSw; go_simp)⟩) hHeld ?_
    simp only [List.setIfInBounds_toArray, List.set_cons_zero, List.set_cons_succ]
    refine take_put (i := 5) (d := 8) (v := (.bool true)) rfl rfl (by kernel_rfl) (by kernel_rfl) (by kernel_rfl) (fun _ _ _ h => h) (Or.inl ⟨by rfl, by (intro w hSw; go_simp)⟩) hHeld ?_
    simp only [List.setIfInBounds_toArray, List.set_cons_zero, List.set_cons_succ]
    refine take_put (i := 6) (d := 9) (v := undef) rfl rfl (by kernel_rfl) (by kernel_rfl) (by kernel_rfl) (fun _ _ _ h => h) (Or.inr ⟨by rfl, rfl⟩) hHeld ?_
    simp only [List.setIfInBounds_toArray, List.set_cons_zero, List.set_cons_succ]
    refine take_put (i := 7) (d := 10) (v := undef) rfl rfl (by kernel_rfl) (by kernel_rfl) (by kernel_rfl) (fun _ _ _ h => h) (Or.inr ⟨by rfl, rfl⟩) hHeld ?_
    simp only [List.setIfInBounds_toArray, List.set_cons_zero, List.set_cons_succ]
    refine take_put (i := 8) (d := 11) (v := undef) rfl rfl (by kernel_rfl) (by kernel_rfl) (by kernel_rfl) (fun _ _ _ h => h) (Or.inr ⟨by rfl, rfl⟩) hHeld ?_
    simp only [List.setIfInBounds_toArray, List.set_cons_zero, List.set_cons_succ]
    refine take_put (i := 9) (d := 12) (v := undef) rfl rfl (by kernel_rfl) (by kernel_rfl) (by kernel_rfl) (fun _ _ _ h => h) (Or.inr ⟨by rfl, rfl⟩) hHeld ?_
    simp only [List.setIfInBounds_toArray, List.set_cons_zero, List.set_cons_succ]
    refine take_put (i := 10) (d := 13) (v := undef) rfl rfl (by kernel_rfl) (by kernel_rfl) (by kernel_rfl) (fun _ _ _ h => h) (Or.inr ⟨by rfl, rfl⟩) hHeld ?_
    simp only [List.setIfInBounds_toArray, List.set_cons_zero, List.set_cons_succ]
    refine take_put (i := 11) (d := 14) (v := undef) rfl rfl (by kernel_rfl) (by kernel_rfl) (by kernel_rfl) (fun _ _ _ h => h) (Or.inr ⟨by rfl, rfl⟩) hHeld ?_
    simp only [List.setIfInBounds_toArray, List.set_cons_zero, List.set_cons_succ]
    refine take_put (i := 12) (d := 15) (v := undef) rfl rfl (by kernel_rfl) (by kernel_rfl) (by kernel_rfl) (fun _ _ _ h => h) (Or.inr ⟨by rfl, rfl⟩) hHeld ?_
    simp only [List.setIfInBounds_toArray, List.set_cons_zero, List.set_cons_succ]
    refine take_put (i := 13) (d := 16) (v := undef) rfl rfl (by kernel_rfl) (by kernel_rfl) (by kernel_rfl) (fun _ _ _ h => h) (Or.inr ⟨by rfl, rfl⟩) hHeld ?_
    simp only [List.setIfInBounds_toArray, List.set_cons_zero, List.set_cons_succ]
    refine take_put (i := 14) (d := 17) (v := (.bool true)) rfl rfl (by kernel_rfl) (by kernel_rfl) (by kernel_rfl) (fun _ _ _ h => h) (Or.inl ⟨by rfl, by (intro w hSw; go_simp)⟩) hHeld ?_
    simp only [List.setIfInBounds_toArray, List.set_cons_zero, List.set_cons_succ]
    refine take_put (i := 15) (d := 2) (v := (.bool true)) rfl rfl (by kernel_rfl) (by kernel_rfl) (by kernel_rfl) (fun _ _ _ h => h) (Or.inl ⟨by rfl, by (intro w hSw; go_simp)⟩) hHeld ?_
    simp only [List.setIfInBounds_toArray, List.set_cons_zero, List.set_cons_succ]
    refine wpAnyH_done (by kernel_rfl) ?_ _
    go_wp2_with fail
    go_ret
    exact ⟨by rw [HD.out]; rfl, HB0.out.trans (hbA.mono (by omega))⟩

theorem strange_calls (x : Val) : StrC x := Val.ind (p := StrC) strange_step x

end Go.Proofs.YthmdfliimlimhaaGreatDoor
