/- Contracts of functions of this program, walked. No condition but the ones each theorem states. -/
import Derived.Test.YtcmaildfhdddjaaDoorW8
import Derived.Laws.ResultCell
namespace Go.Proofs.YtcmaildfhdddjaaDoor
open Go.RowKit

attribute [local go_sem ↓] Go.wp_at_zero Go.wp_at_succ

theorem open_yes (A : Option Addr) (n c : Nat) (xs : List UInt8) (hc : n ≤ c) (w : World) (hr : Reads w w.heap.size 1 A n (bc xs)) (hx : n ≤ 1000000) (h : openOk xs = true) :
    Calls Tryd.prog 50 #[.slice A n c] w fun e w' => ∃ v, e = .returned (.tuple #[v, .int .i64 (8 + (openN xs : Int)), .int .i64 0]) ∧ w'.ownsRow w.heap.size 5 1 v (openN xs) (bc (payOf xs)) ∧ Below w.heap.size w w' :=
  (open_calls A n c xs hc w hr hx).mono fun e w' hp => by unfold OpenPost at hp; rwa [if_pos h] at hp
theorem open_no (A : Option Addr) (n c : Nat) (xs : List UInt8) (hc : n ≤ c) (w : World) (hr : Reads w w.heap.size 1 A n (bc xs)) (hx : n ≤ 1000000) (h : openOk xs = false) :
    Calls Tryd.prog 50 #[.slice A n c] w (SomeErr w) :=
  (open_calls A n c xs hc w hr hx).mono fun e w' hp => by unfold OpenPost at hp; rwa [if_neg (by simp [h])] at hp
theorem open'_yes (A : Option Addr) (n c : Nat) (xs : List UInt8) (hc : n ≤ c) (w : World) (hr : Reads w w.heap.size 1 A n (bc xs)) (hx : n ≤ 1000000) (h : openOk xs = true) :
    Calls Tryd.prog 38 #[.slice A n c] w fun e w' => ∃ v, e = .returned (.tuple #[v, .int .i64 (8 + (openN xs : Int)), .int .i64 0]) ∧ w'.ownsRow w.heap.size 5 1 v (openN xs) (bc (payOf xs)) ∧ Below w.heap.size w w' :=
  (open'_calls A n c xs hc w hr hx).mono fun e w' hp => by unfold OpenPost at hp; rwa [if_pos h] at hp
theorem open'_no (A : Option Addr) (n c : Nat) (xs : List UInt8) (hc : n ≤ c) (w : World) (hr : Reads w w.heap.size 1 A n (bc xs)) (hx : n ≤ 1000000) (h : openOk xs = false) :
    Calls Tryd.prog 38 #[.slice A n c] w (SomeErr w) :=
  (open'_calls A n c xs hc w hr hx).mono fun e w' hp => by unfold OpenPost at hp; rwa [if_neg (by simp [h])] at hp

/-- what is behind the name -/
def tailOf (P : List UInt8) : List UInt8 := P.drop (2 + (textOf P).length)
def tailOk (q : List UInt8) : Bool := decide (5 ≤ q.length) && decide (q.length = 5 + (q.getD 4 0).toNat)
def nodesOf (q : List UInt8) : List Int := (q.drop 5).map fun c => (c.toNat : Int)
def verOf (q : List UInt8) : Nat := readU (q.take 4)
def payOk (P : List UInt8) : Bool := textOk P && tailOk (tailOf P) && rightB (textOf P).length (nodesOf (tailOf P))
def readOk (xs : List UInt8) : Bool := openOk xs && decide (openN xs + 8 = xs.length) && payOk (payOf xs)

theorem Blk.frozen {w : World} {g : Nat} {t : TypeId} {cs : Array Value} (h : Blk w g t cs) (i : Nat) : w.frozen? ⟨g, i, none⟩ = false := by
  unfold Blk at h
  simp [World.frozen?, h]

theorem Blk.set3 {w : World} {g : Nat} {t : TypeId} {a b c : Value} (h : Blk w g t #[a, b, c]) (x y z : Value) : Blk (((w.setCell ⟨g, 0, none⟩ x).setCell ⟨g, 1, none⟩ y).setCell ⟨g, 2, none⟩ z) g t #[x, y, z] := by
  unfold Blk at h ⊢
  simp [World.setCell, Array.getElem?_modify, h]
theorem below_set3 {B : Nat} {w w' : World} (h : Below B w w') {g : Nat} (hg : B ≤ g) (x y z : Value) : Below B w (((w'.setCell ⟨g, 0, none⟩ x).setCell ⟨g, 1, none⟩ y).setCell ⟨g, 2, none⟩ z) :=
  ((h.setCell (p := ⟨g, 0, none⟩) hg x).setCell (p := ⟨g, 1, none⟩) hg y).setCell (p := ⟨g, 2, none⟩) hg z
theorem load26 {w : World} {g : Nat} {x y z : Value} (h : Blk w g 26 #[x, y, z]) : (loadVar 26 ⟨g, 0, none⟩).run Tryd.prog w = .ok (.agg #[x, y, z]) w := by
  have h0 : w.cell? ⟨g, 0, none⟩ = some x := h.cell 0
  have h1 : w.cell? ⟨g, 1, none⟩ = some y := h.cell 1
  have h2 : w.cell? ⟨g, 2, none⟩ = some z := h.cell 2
  go_simp
theorem load36 {w : World} {g : Nat} {x y z : Value} (h : Blk w g 36 #[x, y, z]) : (loadVar 36 ⟨g, 0, none⟩).run Tryd.prog w = .ok (.agg #[x, y, z]) w := by
  have h0 : w.cell? ⟨g, 0, none⟩ = some x := h.cell 0
  have h1 : w.cell? ⟨g, 1, none⟩ = some y := h.cell 1
  have h2 : w.cell? ⟨g, 2, none⟩ = some z := h.cell 2
  go_simp
theorem ret_ref31 {R : Ending → World → Prop} {a : Act} {w : World} {g : Nat} {x y z b : Value} (hd : a.defers = []) (h2 : a.tmps.getD 2 undef = .pointer (some ⟨g, 0, none⟩)) (h3 : a.tmps.getD 3 undef = b)
    (hB : Blk w g 26 #[x, y, z]) (hR : R (.returned (.tuple #[.agg #[x, y, z], b])) w) : bodyPost Tryd.prog Tryd.f31 R .ret a w := by
  refine bodyPost_ret (v := .tuple #[.agg #[x, y, z], b]) ?_ hd hR
  rw [results_cell_tmp (p := 2) (u := 3) (ty := 26) rfl, h2, h3]
  simp only [asAddr, Sem.run_pure, Result.andThen_ok, load26 hB]

def zeroRef : Value := .agg #[.string ByteArray.empty, .int .u32 0, .slice none 0 0]
/-- 'no reference': whatever lies in the first result -/
def NoRef (w : World) (e : Ending) (w' : World) : Prop := ∃ (s : ByteArray) (v : Int) (A : Option Addr) (n c : Nat), e = .returned (.tuple #[.agg #[.string s, .int .u32 v, .slice A n c], .bool false]) ∧ Below w.heap.size w w'

set_option maxRecDepth 100000 in
set_option maxHeartbeats 1600000 in
theorem read_no1 (A : Option Addr) (n c : Nat) (xs : List UInt8) (hc : n ≤ c) (w : World) (hr : Reads w w.heap.size 1 A n (bc xs)) (hx : n ≤ 1000000) (h : openOk xs = false) :
    Calls Tryd.prog 31 #[.slice A n c] w (NoRef w) := by
  have hl : xs.length = n := by have := hr.1; rw [bc_len] at this; omega
  go_enter Tryd.func31, Tryd.ntmps31
  go_wp2_with fail
  refine (open_no A n c xs hc _ ((hr.alloc (Nat.le_refl _) _).more (by simp)) hx h).mono ?_
  rintro e w1 ⟨k, rfl, hk0, hk, hb1⟩
  have hne : ((k : Int) != 0) = true := by simp; omega
  have hB := (Blk.new w 26 #[.string ⟨#[]⟩, .int .u32 0, .slice none 0 0]).below hb1 (by simp)
  have hsz : w.heap.size < w1.heap.size := hB.lt
  have c0 : w1.cell? ⟨w.heap.size, 0, none⟩ = some (.string ⟨#[]⟩) := hB.cell 0
  have c1 : w1.cell? ⟨w.heap.size, 1, none⟩ = some (.int .u32 0) := hB.cell 1
  have c2 : w1.cell? ⟨w.heap.size, 2, none⟩ = some (.slice none 0 0) := hB.cell 2
  have f0 : w1.frozen? ⟨w.heap.size, 0, none⟩ = false := hB.frozen 0
  have f1 : w1.frozen? ⟨w.heap.size, 1, none⟩ = false := hB.frozen 1
  have f2 : w1.frozen? ⟨w.heap.size, 2, none⟩ = false := hB.frozen 2
  go_wp2
  have hB' := hB.set3 (.string ⟨#[]⟩) (.int .u32 0) (.slice none 0 0)
  exact ret_ref31 (g := w.heap.size) rfl rfl rfl hB' ⟨_, _, _, _, _, rfl, below_set3 (((Below.refl _ w).alloc (Nat.le_refl _) _).trans (hb1.mono (by simp))) (Nat.le_refl _) _ _ _⟩

theorem readText_at (A : Option Addr) (n c : Nat) (xs : List UInt8) (hc : n ≤ c) (w : World) (hr : Reads w w.heap.size 1 A n (bc xs)) (hx : n ≤ 1000000) (h : textOk xs = true) (T : Nat) (hT : 2 + (textOf xs).length = T) :
    Calls Tryd.prog 51 #[.slice A n c, .int .i64 32] w fun e w' => e = .returned (.tuple #[.string ⟨(textOf xs).toArray⟩, .int .i64 T, .int .i64 0]) ∧ w = w' := by
  subst hT
  exact readText_yes A n c xs hc w hr hx h
theorem readText'_at (A : Option Addr) (n c : Nat) (xs : List UInt8) (hc : n ≤ c) (w : World) (hr : Reads w w.heap.size 1 A n (bc xs)) (hx : n ≤ 1000000) (h : textOk xs = true) (T : Nat) (hT : 2 + (textOf xs).length = T) :
    Calls Tryd.prog 39 #[.slice A n c, .int .i64 32] w fun e w' => e = .returned (.tuple #[.string ⟨(textOf xs).toArray⟩, .int .i64 T, .int .i64 0]) ∧ w = w' := by
  subst hT
  exact readText'_yes A n c xs hc w hr hx h

theorem readU4_no (A : Option Addr) (n c : Nat) (hn : n < 4) (w : World) :
    Calls Tryd.prog 52 #[.slice A n c, .int .i64 4] w fun e w' => e = .returned (.tuple #[.int .u64 0, .bool false]) ∧ w = w' := readU_no A n c 4 (by omega) hn w
theorem getD_some (q : List UInt8) (j : Nat) (h : j < q.length) : q[j]? = some (q.getD j 0) := by simp [List.getD, List.getElem?_eq_getElem h]
theorem text_len {xs : List UInt8} (h : textOk xs = true) : (textOf xs).length ≤ 32 ∧ 2 + (textOf xs).length ≤ xs.length := by
  unfold textOk at h
  simp only [Bool.and_eq_true, decide_eq_true_eq] at h
  unfold textOf
  simp
  omega

/-- the result's block lies there behind Open -/
theorem read_res {w w1 : World} (t : TypeId) (hb1 : Below (w.alloc (.cells #[.string ⟨#[]⟩, .int .u32 0, .slice none 0 0] t)).heap.size (w.alloc (.cells #[.string ⟨#[]⟩, .int .u32 0, .slice none 0 0] t)) w1) :
    Blk w1 w.heap.size t #[.string ⟨#[]⟩, .int .u32 0, .slice none 0 0] := (Blk.new w t _).below hb1 (by simp)

set_option maxRecDepth 100000 in
set_option maxHeartbeats 1600000 in
theorem read_no2 (A : Option Addr) (n c : Nat) (xs : List UInt8) (hc : n ≤ c) (w : World) (hr : Reads w w.heap.size 1 A n (bc xs)) (hx : n ≤ 1000000) (h : openOk xs = true) (hn : openN xs + 8 ≠ n) :
    Calls Tryd.prog 31 #[.slice A n c] w (NoRef w) := by
  have hcall := Lib.hid (fun w1 hr1 => open_yes A n c xs hc w1 hr1 hx h)
  generalize openN xs = N at *
  have hne : ((8 + (N : Int)) != (n : Int)) = true := by simp; omega
  go_enter Tryd.func31, Tryd.ntmps31
  go_wp2_with fail
  refine (hcall.out _ ((hr.alloc (Nat.le_refl _) _).more (by simp))).mono ?_
  rintro e w1 ⟨v1, rfl, hown1, hb1⟩
  have hB := read_res 26 hb1
  have c0 : w1.cell? ⟨w.heap.size, 0, none⟩ = some (.string ⟨#[]⟩) := hB.cell 0
  have c1 : w1.cell? ⟨w.heap.size, 1, none⟩ = some (.int .u32 0) := hB.cell 1
  have c2 : w1.cell? ⟨w.heap.size, 2, none⟩ = some (.slice none 0 0) := hB.cell 2
  have f0 : w1.frozen? ⟨w.heap.size, 0, none⟩ = false := hB.frozen 0
  have f1 : w1.frozen? ⟨w.heap.size, 1, none⟩ = false := hB.frozen 1
  have f2 : w1.frozen? ⟨w.heap.size, 2, none⟩ = false := hB.frozen 2
  go_wp2
  have hB' := hB.set3 (.string ⟨#[]⟩) (.int .u32 0) (.slice none 0 0)
  exact ret_ref31 (g := w.heap.size) rfl rfl rfl hB' ⟨_, _, _, _, _, rfl, below_set3 (((Below.refl _ w).alloc (Nat.le_refl _) _).trans (hb1.mono (by simp))) (Nat.le_refl _) _ _ _⟩

set_option maxRecDepth 100000 in
set_option maxHeartbeats 1600000 in
theorem read_no3 (A : Option Addr) (n c : Nat) (xs : List UInt8) (hc : n ≤ c) (w : World) (hr : Reads w w.heap.size 1 A n (bc xs)) (hx : n ≤ 1000000) (h : openOk xs = true) (hn : openN xs + 8 = n) (ht : textOk (payOf xs) = false) :
    Calls Tryd.prog 31 #[.slice A n c] w (NoRef w) := by
  have hcall := Lib.hid (fun w1 hr1 => open_yes A n c xs hc w1 hr1 hx h)
  have hN : openN xs ≤ 1000000 := by omega
  generalize openN xs = N at *
  generalize payOf xs = P at *
  have hne : ((8 + (N : Int)) != (n : Int)) = false := by simp; omega
  clear hn
  go_enter Tryd.func31, Tryd.ntmps31
  go_wp2_with fail
  refine (hcall.out _ ((hr.alloc (Nat.le_refl _) _).more (by simp))).mono ?_
  rintro e w1 ⟨v1, rfl, hown1, hb1⟩
  obtain ⟨A1, k1, rfl, hk1, hr1⟩ := own_slice hown1
  have hB := read_res 26 hb1
  have c0 : w1.cell? ⟨w.heap.size, 0, none⟩ = some (.string ⟨#[]⟩) := hB.cell 0
  have c1 : w1.cell? ⟨w.heap.size, 1, none⟩ = some (.int .u32 0) := hB.cell 1
  have c2 : w1.cell? ⟨w.heap.size, 2, none⟩ = some (.slice none 0 0) := hB.cell 2
  have f0 : w1.frozen? ⟨w.heap.size, 0, none⟩ = false := hB.frozen 0
  have f1 : w1.frozen? ⟨w.heap.size, 1, none⟩ = false := hB.frozen 1
  have f2 : w1.frozen? ⟨w.heap.size, 2, none⟩ = false := hB.frozen 2
  have htx := Lib.hid (readText_no A1 N k1 P hk1 w1 hr1 hN ht)
  go_wp2_with (go_at_call 51; (with_reducible refine htx.out.mono ?_); rintro e w2 ⟨rfl, rfl⟩)
  have hB' := hB.set3 (.string ⟨#[]⟩) (.int .u32 0) (.slice none 0 0)
  exact ret_ref31 (g := w.heap.size) rfl rfl rfl hB' ⟨_, _, _, _, _, rfl, below_set3 (((Below.refl _ w).alloc (Nat.le_refl _) _).trans (hb1.mono (by simp))) (Nat.le_refl _) _ _ _⟩

set_option maxRecDepth 100000 in
set_option maxHeartbeats 1600000 in
theorem read_no4 (A : Option Addr) (n c : Nat) (xs : List UInt8) (hc : n ≤ c) (w : World) (hr : Reads w w.heap.size 1 A n (bc xs)) (hx : n ≤ 1000000) (h : openOk xs = true) (hn : openN xs + 8 = n) (ht : textOk (payOf xs) = true) (hq : tailOk (tailOf (payOf xs)) = false) :
    Calls Tryd.prog 31 #[.slice A n c] w (NoRef w) := by
  have hcall := Lib.hid (fun w1 hr1 => open_yes A n c xs hc w1 hr1 hx h)
  have hN : openN xs ≤ 1000000 := by omega
  obtain ⟨htl, hTN⟩ := text_len ht
  generalize openN xs = N at *
  unfold tailOf at hq
  generalize payOf xs = P at *
  generalize hT : 2 + (textOf P).length = T at *
  have hne : ((8 + (N : Int)) != (n : Int)) = false := by simp; omega
  clear hn
  go_enter Tryd.func31, Tryd.ntmps31
  go_wp2_with fail
  refine (hcall.out _ ((hr.alloc (Nat.le_refl _) _).more (by simp))).mono ?_
  rintro e w1 ⟨v1, rfl, hown1, hb1⟩
  have hPl : P.length = N := by have := hown1.1; rw [bc_len] at this; omega
  obtain ⟨A1, k1, rfl, hk1, hr1⟩ := own_slice hown1
  obtain ⟨b, off, rfl, hbB, _⟩ := hr1.lit (by omega)
  have hB := read_res 26 hb1
  have c0 : w1.cell? ⟨w.heap.size, 0, none⟩ = some (.string ⟨#[]⟩) := hB.cell 0
  have c1 : w1.cell? ⟨w.heap.size, 1, none⟩ = some (.int .u32 0) := hB.cell 1
  have c2 : w1.cell? ⟨w.heap.size, 2, none⟩ = some (.slice none 0 0) := hB.cell 2
  have f0 : w1.frozen? ⟨w.heap.size, 0, none⟩ = false := hB.frozen 0
  have f1 : w1.frozen? ⟨w.heap.size, 1, none⟩ = false := hB.frozen 1
  have f2 : w1.frozen? ⟨w.heap.size, 2, none⟩ = false := hB.frozen 2
  have htx := Lib.hid (readText_at (some ⟨b, off, none⟩) N k1 P hk1 w1 hr1 hN ht T hT)
  have HT := Lib.hid hT
  clear hT
  obtain ⟨M, hNT⟩ : ∃ M, N - T = M := ⟨_, rfl⟩
  have hM : (P.drop T).length = M := by simp; omega
  by_cases h4 : M < 4
  · have hu := Lib.hid (fun A c => readU4_no A M c h4 w1)
    by_cases hkT : k1 = T
    · subst hkT
      go_wp2_with (first | (go_at_call 51; (with_reducible refine htx.out.mono ?_); rintro e w2 ⟨rfl, rfl⟩) | (go_at_call 52; (with_reducible refine (hu.out _ _).mono ?_); rintro e w2 ⟨rfl, rfl⟩))
      have hB' := hB.set3 (.string ⟨#[]⟩) (.int .u32 0) (.slice none 0 0)
      exact ret_ref31 (g := w.heap.size) rfl rfl rfl hB' ⟨_, _, _, _, _, rfl, below_set3 (((Below.refl _ w).alloc (Nat.le_refl _) _).trans (hb1.mono (by simp))) (Nat.le_refl _) _ _ _⟩
    · go_wp2_with (first | (go_at_call 51; (with_reducible refine htx.out.mono ?_); rintro e w2 ⟨rfl, rfl⟩) | (go_at_call 52; (with_reducible refine (hu.out _ _).mono ?_); rintro e w2 ⟨rfl, rfl⟩))
      have hB' := hB.set3 (.string ⟨#[]⟩) (.int .u32 0) (.slice none 0 0)
      exact ret_ref31 (g := w.heap.size) rfl rfl rfl hB' ⟨_, _, _, _, _, rfl, below_set3 (((Below.refl _ w).alloc (Nat.le_refl _) _).trans (hb1.mono (by simp))) (Nat.le_refl _) _ _ _⟩
  · have hkT : ¬ k1 = T := by omega
    have hcut := hr1.cut (k := T) (cap := k1) (by omega) hk1
    rw [if_neg hkT, hNT] at hcut
    have hcut' : Reads w1 w1.heap.size 1 (some ⟨b, off + T, none⟩) (M) (bc (P.drop T)) := by simpa [Lib.byteCells, List.map_drop, Addr.add_lit] using hcut
    clear hcut
    have hu := Lib.hid (readU4 (some ⟨b, off + T, none⟩) (M) (k1 - T) (P.drop T) (by omega) (by omega) w1 hcut')
    by_cases h5 : M = 4
    · subst h5
      have hd5 : decide (((4 : Nat) : Int) < 5) = true := by simp
      go_wp2_with (first | (go_at_call 51; (with_reducible refine htx.out.mono ?_); rintro e w2 ⟨rfl, rfl⟩) | (go_at_call 52; (with_reducible refine hu.out.mono ?_); rintro e w2 ⟨rfl, rfl⟩))
      have hB' := hB.set3 (.string ⟨#[]⟩) (.int .u32 0) (.slice none 0 0)
      exact ret_ref31 (g := w.heap.size) rfl rfl rfl hB' ⟨_, _, _, _, _, rfl, below_set3 (((Below.refl _ w).alloc (Nat.le_refl _) _).trans (hb1.mono (by simp))) (Nat.le_refl _) _ _ _⟩
    · have hq4 : 4 < (P.drop T).length := by omega
      obtain ⟨b', off', hbb, _, hcell⟩ := hcut'.lit (by omega)
      cases hbb
      have hc4 := hcell 4 (.int .u8 ((P.drop T).getD 4 0).toNat) (by
        simp only [Lib.byteCells, List.getElem?_map, getD_some _ 4 hq4, Option.map_some])
      have hx : M ≠ 5 + ((P.drop T).getD 4 0).toNat := by
        unfold tailOk at hq
        have h5' : decide (5 ≤ (P.drop T).length) = true := decide_eq_true (by omega)
        rw [h5', Bool.true_and, decide_eq_false_iff_not, hM] at hq
        exact hq
      have hd5 : decide (((M : Nat) : Int) < 5) = false := by simp; omega
      have hy := ((P.drop T).getD 4 0).toNat_lt
      generalize ((P.drop T).getD 4 0).toNat = y at *
      have hne5 : (((M : Nat) : Int) != 5 + (y : Int)) = true := by simp; omega
      clear hcell hq4 hcut'
      go_wp2_with (first | (go_at_call 51; (with_reducible refine htx.out.mono ?_); rintro e w2 ⟨rfl, rfl⟩) | (go_at_call 52; (with_reducible refine hu.out.mono ?_); rintro e w2 ⟨rfl, rfl⟩))
      have hB' := hB.set3 (.string ⟨#[]⟩) (.int .u32 0) (.slice none 0 0)
      exact ret_ref31 (g := w.heap.size) rfl rfl rfl hB' ⟨_, _, _, _, _, rfl, below_set3 (((Below.refl _ w).alloc (Nat.le_refl _) _).trans (hb1.mono (by simp))) (Nat.le_refl _) _ _ _⟩

def qI (q : List UInt8) : List Int := q.map fun c => (c.toNat : Int)
theorem qI_take (q : List UInt8) (j : Nat) (h : j < q.length) : (qI q).take (j + 1) = (qI q).take j ++ [((q.getD j 0).toNat : Int)] := by
  rw [List.take_succ_eq_append_getElem (by simpa [qI] using h)]
  simp [qI, h]
theorem ic_append (a b : List Int) : ic (a ++ b) = ic a ++ ic b := by simp [ic]
theorem Tryd.info3 : (Tryd.prog.info? 3).map (fun i => (i.zero, i.size, i.bytes)) = some (some (.int .i64 0), 1, 8) := by kernel_rfl
theorem ic_one (l : List Int) : ∀ u ∈ ic l, u.oneCell' = true := by
  intro u hu
  simp only [ic, List.mem_map] at hu
  obtain ⟨b, _, rfl⟩ := hu
  rfl
theorem wpList_append_int {ops : Array Oper} {rest : List Oper} {o : Oper} {a : Act} {w : World} {Q : Exit → Act → World → Prop} (hgd : o.guard = none) (s x : Operand)
    (ho : o.op = .call { callee := .builtin .append, args := #[s, x], argTypes := #[24, 24] })
    (base : Nat) (v : Value) (n : Nat) (xs : List Int) (hs : a.eval s = v) (g : Nat) (k : Int) (hx : a.eval x = .slice (some ⟨g, 0, none⟩) 1 1) (hown : w.ownsRow base 3 1 v n (ic xs))
    (hr : w.cell? ⟨g, 0, none⟩ = some (.int .i64 k)) (hb : n ≤ 1000000) (hbase : base ≤ w.heap.size)
    (h : ∀ v' w', w'.ownsRow base 3 1 v' (n + 1) (ic (xs ++ [k])) → w.grownBy w' v.ownBlock → (v'.ownBlock = v.ownBlock ∨ v'.ownBlock = some w.heap.size) → wpList Tryd.prog ops Q rest (a.put o.dst v') w') : wpList Tryd.prog ops Q (o :: rest) a w :=
  wpList_plain hgd fun K hK => by
    obtain ⟨i0, hi, hz0, hz1, hz2⟩ := info_parts Tryd.info3
    obtain ⟨v', w', hrun, h2, h3, _, h4⟩ := run_append_own_at (P := Tryd.prog) w base 24 o.type 3 i0 _ 1 8 Tryd.underlying24 hi hz0 hz1 hz2 rfl (by omega) v n _ hown ⟨g, 0, none⟩ 1 1 [.int .i64 k] rfl (fun j u hj => by
      match j, hj with
      | 0, hj =>
        simp at hj
        subst hj
        simpa [Addr.add] using hr) (by simp [Value.oneCell']) (by simp only [maxLen]; omega) (by omega) hbase
    unfold Oper.wp execOp
    simp only [ho, resolve, invoke, builtin, Sem.run_bind, Sem.run_pure, Result.andThen_ok, List.map_toArray, List.map_cons, List.map_nil, hs, hx, hrun]
    exact hK _ _ (h v' w' (by rw [ic_append]; exact h2) h3 h4)
theorem Blk.set_ {w : World} {g : Nat} {t : TypeId} {cs : Array Value} (h : Blk w g t cs) (i : Nat) (u : Value) : Blk (w.setCell ⟨g, i, none⟩ u) g t (cs.setIfInBounds i u) := by
  unfold Blk at h ⊢
  simp [World.setCell, Array.getElem?_modify, h]
theorem Blk.grown {w w' : World} {g : Nat} {t : TypeId} {cs : Array Value} {row : Option Nat} (h : Blk w g t cs) (hb : w.grownBy w' row) (hg : some g ≠ row) : Blk w' g t cs := (hb.block g h.lt hg).trans h
theorem own_ne_blk {w : World} {base : Nat} {e : TypeId} {size n : Nat} {v : Value} {xs : List Value} {g : Nat} {t : TypeId} {cs : Array Value} (h : w.ownsRow base e size v n xs) (hg : Blk w g t cs) (hne : e ≠ t) : some g ≠ v.ownBlock := by
  rcases h.2 with ⟨rfl, _⟩ | ⟨g', cap, cur, rfl, _, hh, _⟩
  · simp [Value.ownBlock]
  · intro he
    have : g = g' := by simpa [Value.ownBlock] using he
    subst this
    unfold Blk at hg
    rw [hh] at hg
    injection hg with hg
    injection hg with _ ht
    exact hne ht

theorem cell_set3_far {w : World} {g g' : Nat} (h : g' ≠ g) (x y z : Value) (o : Nat) : (((w.setCell ⟨g, 0, none⟩ x).setCell ⟨g, 1, none⟩ y).setCell ⟨g, 2, none⟩ z).cell? ⟨g', o, none⟩ = w.cell? ⟨g', o, none⟩ := by
  rw [World.cell?_setCell_other _ _ _ _ (by intro e; injection e with e; exact h e.symm), World.cell?_setCell_other _ _ _ _ (by intro e; injection e with e; exact h e.symm), World.cell?_setCell_other _ _ _ _ (by intro e; injection e with e; exact h e.symm)]

theorem ownsRow_set3 {w : World} {base n : Nat} {e : TypeId} {size : Nat} {v : Value} {xs : List Value} {g : Nat} (h : w.ownsRow base e size v n xs) (hne : some g ≠ v.ownBlock) (x y z : Value) :
    (((w.setCell ⟨g, 0, none⟩ x).setCell ⟨g, 1, none⟩ y).setCell ⟨g, 2, none⟩ z).ownsRow base e size v n xs :=
  ownsRow_setCell_other (ownsRow_setCell_other (ownsRow_setCell_other h (a := ⟨g, 0, none⟩) (Ne.symm hne) x) (a := ⟨g, 1, none⟩) (Ne.symm hne) y) (a := ⟨g, 2, none⟩) (Ne.symm hne) z

/-- all was there: the reference, and whether it is right -/
def ReadEnd (w : World) (t : List UInt8) (v : Nat) (ns : List Int) (e : Ending) (w' : World) : Prop :=
  ∃ x : Value, e = .returned (.tuple #[.agg #[.string ⟨t.toArray⟩, .int .u32 v, x], .bool (rightB t.length ns)]) ∧ w'.ownsRow w.heap.size 3 1 x ns.length (ic ns) ∧ Below w.heap.size w w'

set_option maxRecDepth 100000 in
set_option maxHeartbeats 3200000 in
theorem read_end (A : Option Addr) (n c : Nat) (xs : List UInt8) (hc : n ≤ c) (w : World) (hr : Reads w w.heap.size 1 A n (bc xs)) (hx : n ≤ 1000000) (h : openOk xs = true) (hn : openN xs + 8 = n) (ht : textOk (payOf xs) = true) (hq : tailOk (tailOf (payOf xs)) = true) :
    Calls Tryd.prog 31 #[.slice A n c] w (ReadEnd w (textOf (payOf xs)) (verOf (tailOf (payOf xs))) (nodesOf (tailOf (payOf xs)))) := by
  have hcall := Lib.hid (fun w1 hr1 => open_yes A n c xs hc w1 hr1 hx h)
  have hN : openN xs ≤ 1000000 := by omega
  obtain ⟨htl, hTN⟩ := text_len ht
  generalize openN xs = N at *
  unfold tailOf at hq ⊢
  generalize payOf xs = P at *
  generalize hT : 2 + (textOf P).length = T at *
  have hne : ((8 + (N : Int)) != (n : Int)) = false := by simp; omega
  clear hn
  go_enter Tryd.func31, Tryd.ntmps31
  go_wp2_with fail
  refine (hcall.out _ ((hr.alloc (Nat.le_refl _) _).more (by simp))).mono ?_
  rintro e w1 ⟨v1, rfl, hown1, hb1⟩
  have hPl : P.length = N := by have := hown1.1; rw [bc_len] at this; omega
  obtain ⟨A1, k1, rfl, hk1, hr1⟩ := own_slice hown1
  obtain ⟨b, off, rfl, hbB, _⟩ := hr1.lit (by omega)
  have hB := read_res 26 hb1
  have c0 : w1.cell? ⟨w.heap.size, 0, none⟩ = some (.string ⟨#[]⟩) := hB.cell 0
  have c1 : w1.cell? ⟨w.heap.size, 1, none⟩ = some (.int .u32 0) := hB.cell 1
  have c2 : w1.cell? ⟨w.heap.size, 2, none⟩ = some (.slice none 0 0) := hB.cell 2
  have f0 : w1.frozen? ⟨w.heap.size, 0, none⟩ = false := hB.frozen 0
  have f1 : w1.frozen? ⟨w.heap.size, 1, none⟩ = false := hB.frozen 1
  have f2 : w1.frozen? ⟨w.heap.size, 2, none⟩ = false := hB.frozen 2
  have htx := Lib.hid (readText_at (some ⟨b, off, none⟩) N k1 P hk1 w1 hr1 hN ht T hT)
  have HT := Lib.hid hT
  clear hT
  obtain ⟨M, hNT⟩ : ∃ M, N - T = M := ⟨_, rfl⟩
  have hM : (P.drop T).length = M := by simp; omega
  have hq' : 5 ≤ M ∧ M = 5 + ((P.drop T).getD 4 0).toNat := by
    unfold tailOk at hq
    simp only [Bool.and_eq_true, decide_eq_true_eq, hM] at hq
    exact hq
  obtain ⟨h5, hM5⟩ := hq'
  have hkT : ¬ k1 = T := by omega
  have hcut := hr1.cut (k := T) (cap := k1) (by omega) hk1
  rw [if_neg hkT, hNT] at hcut
  have hcut' : Reads w1 w1.heap.size 1 (some ⟨b, off + T, none⟩) M (bc (P.drop T)) := by simpa [Lib.byteCells, List.map_drop, Addr.add_lit] using hcut
  clear hcut
  have hu := Lib.hid (readU4 (some ⟨b, off + T, none⟩) M (k1 - T) (P.drop T) (by omega) (by omega) w1 hcut')
  have hq4 : 4 < (P.drop T).length := by omega
  obtain ⟨b', off', hbb, _, hcell⟩ := hcut'.lit (by omega)
  cases hbb
  have hc4 := hcell 4 (.int .u8 ((P.drop T).getD 4 0).toNat) (by
    simp only [Lib.byteCells, List.getElem?_map, getD_some _ 4 hq4, Option.map_some])
  have hd5 : decide (((M : Nat) : Int) < 5) = false := by simp; omega
  have hy := ((P.drop T).getD 4 0).toNat_lt
  have hvv := readU_take_lt (P.drop T) 4 (by omega)
  generalize ((P.drop T).getD 4 0).toNat = y at *
  have hne5 : (((M : Nat) : Int) != 5 + (y : Int)) = false := by simp; omega
  have HM5 := Lib.hid hM5
  clear hM5 hq4
  go_upto_region 12 with (first | (go_at_call 51; (with_reducible refine htx.out.mono ?_); rintro e w2 ⟨rfl, rfl⟩) | (go_at_call 52; (with_reducible refine hu.out.mono ?_); rintro e w2 ⟨rfl, rfl⟩))
  go_cut [69, 70, 71] (fun q l i wx => ∃ Aq cq, q = .slice Aq (M - 5) cq ∧ M - 5 ≤ cq ∧ Reads w1 w1.heap.size 1 Aq (M - 5) (bc ((P.drop T).drop 5)) ∧ l = .int .i64 ((M - 5 : Nat) : Int) ∧ i = .int .i64 0 ∧
      wx = w1.alloc (.cells #[.string ⟨(textOf P).toArray⟩, .int .u32 (readU ((P.drop T).take 4)), .slice none 0 0] 26))
  case first =>
    have hc2 := hcut'.cut (k := 5) (cap := k1 - T) h5 (by omega)
    by_cases hk5 : k1 - T = 5
    · rw [if_pos hk5] at hc2
      go_wp2
      go_meet
      exact ⟨_, _, rfl, by omega, by simpa [Lib.byteCells, List.map_drop] using hc2, rfl, rfl, rfl⟩
    · rw [if_neg hk5] at hc2
      go_wp2
      go_meet
      exact ⟨_, _, rfl, by omega, by simpa [Lib.byteCells, List.map_drop, Addr.add_lit] using hc2, rfl, rfl, rfl⟩
  case rest =>
    obtain ⟨Aq, cq, rfl, hcq, hrq, rfl, rfl, rfl⟩ := hcut
    have hQl : ((P.drop T).drop 5).length = M - 5 := by simp; omega
    generalize hQ : (P.drop T).drop 5 = Q at *
    have HQ := Lib.hid hQ
    clear hQ hcut' hcell hu hc4
    generalize hvv' : readU ((P.drop T).take 4) = vv at *
    have HV := Lib.hid hvv'
    clear hvv'
    generalize hG : w1.heap.size = G at *
    have HG := Lib.hid hG
    clear hG
    go_wp2
    go_loopw [13, 71] (fun _ i wr => ∃ j : Nat, j ≤ M - 5 ∧ i = .int .i64 j ∧ ∃ x, Blk wr G 26 #[.string ⟨(textOf P).toArray⟩, .int .u32 vv, x] ∧ wr.ownsRow (G + 1) 3 1 x j (ic ((qI Q).take j)) ∧ Below G w1 wr) (fun _ i _ => M - 5 - (intOf i).toNat)
    case atStart => exact ⟨0, by omega, rfl, _, HG.out ▸ Blk.new w1 26 _, World.ownsRow_nil _ _ _ _, (Below.refl _ _).alloc (by rw [HG.out]; exact Nat.le_refl _) _⟩
    case round =>
      obtain ⟨j, hj, rfl, x, hBx, hox, hbx⟩ := hrel
      obtain ⟨Ax, cx, rfl, hcx, hrx⟩ := own_slice hox
      have q2 : wr.cell? ⟨G, 2, none⟩ = some (.slice Ax j cx) := hBx.cell 2
      have hGl : G < wr.heap.size := hBx.lt
      have hbx_sz : G ≤ wr.heap.size := Nat.le_of_lt hGl
      by_cases hlt : j < M - 5
      · obtain ⟨ba, oa, rfl, hbaB, hcells⟩ := hrq.lit (by omega)
        have hjQ : j < Q.length := by omega
        have hc1 := (hbx.cell (p := ⟨ba, oa + j, none⟩) hbaB).trans (hcells j (.int .u8 (Q.getD j 0).toNat) (by simp only [Lib.byteCells, List.getElem?_map, getD_some _ j hjQ, Option.map_some]))
        have hyb := (Q.getD j 0).toNat_lt
        have HTk := Lib.hid (qI_take Q j hjQ)
        clear hcells
        generalize (Q.getD j 0).toNat = yj at *
        have hne26 := own_ne_blk hox hBx (by decide)
        go_wp2_with (at_builtin; refine wpList_append_int rfl (.tmp 76) (.tmp 79) rfl (G + 1) (.slice Ax j cx) j _ rfl wr.heap.size yj rfl (hox.alloc _) (by simp) (by omega) (by simp; omega) ?_; intro v4 w4 hown4 hg4 hat4; obtain ⟨A4, c4, rfl, hc4, hr4⟩ := own_slice hown4; have hB4 := (hBx.alloc _).grown hg4 hne26; have q4 : w4.cell? ⟨G, 2, none⟩ = some (.slice Ax j cx) := hB4.cell 2; have f4 := hB4.frozen 2)
        go_roundw
        case rel =>
          refine ⟨j + 1, by omega, by go_num, _, hB4.set_ 2 _, ?_, ?_⟩
          · rw [HTk.out]
            exact ownsRow_setCell_other hown4 (fun e => own_ne_blk hown4 hB4 (by decide) e.symm) _
          · exact (below_app1 hbx hbx_sz _ hox (by omega) hg4).setCell (p := ⟨G, 2, none⟩) (Nat.le_refl _) _
        case measure => simp [intOf]; omega
      · have hjM : j = M - 5 := by omega
        subst hjM
        rw [List.take_of_length_le (by simp [qI]; omega)] at hox
        clear hlt hj
        go_wp2_with fail
        have hb0 : Below w.heap.size w wr := (((Below.refl _ w).alloc (Nat.le_refl _) _).trans (hb1.mono (by simp))).trans (hbx.mono (by have := hB.lt; rw [HG.out] at this; omega))
        have hBr := hB.below hbx (by have := hB.lt; rw [HG.out] at this; exact this)
        have q0 : wr.cell? ⟨G, 0, none⟩ = some (.string ⟨(textOf P).toArray⟩) := hBx.cell 0
        have q1 : wr.cell? ⟨G, 1, none⟩ = some (.int .u32 vv) := hBx.cell 1
        have ts : (⟨(textOf P).toArray⟩ : ByteArray).size = (textOf P).length := rfl
        rw [List.take_of_length_le (by simp [qI]; omega)] at hrx
        have hrt := Lib.hid (fun W (hb : Below wr.heap.size wr W) => (right_calls ⟨(textOf P).toArray⟩ vv Ax (M - 5) cx (qI Q) W (by rw [ts]; omega) (by omega) hcx ((hrx.below hb).more hb.size)).mono (R' := fun e w' => e = .returned (.bool (rightB (textOf P).length (qI Q))) ∧ Below wr.heap.size wr w' ∧ w'.cell? ⟨G, 0, none⟩ = some (.string ⟨(textOf P).toArray⟩) ∧ w'.cell? ⟨G, 1, none⟩ = some (.int .u32 vv) ∧ w'.cell? ⟨G, 2, none⟩ = some (.slice Ax (M - 5) cx) ∧ Blk w' w.heap.size 26 #[.string ⟨#[]⟩, .int .u32 0, .slice none 0 0])
          fun e w' ⟨h1, h2⟩ => by
            have hbb := hb.trans (h2.mono hb.size)
            have hBB := hBx.below hbb hGl
            exact ⟨h1, hbb, hBB.cell 0, hBB.cell 1, hBB.cell 2, hBr.below hbb hBr.lt⟩)
        have hGw : G ≠ w.heap.size := by have := hB.lt; rw [HG.out] at this; omega
        go_region_held3 (fun w' => w'.cell? ⟨G, 0, none⟩ = some (.string ⟨(textOf P).toArray⟩) ∧ w'.cell? ⟨G, 1, none⟩ = some (.int .u32 vv) ∧ w'.cell? ⟨G, 2, none⟩ = some (.slice Ax (M - 5) cx)) (first | exact ⟨k0, k1', k2⟩ | exact ⟨(cell_set3_far hGw _ _ _ 0).trans k0, (cell_set3_far hGw _ _ _ 1).trans k1', (cell_set3_far hGw _ _ _ 2).trans k2⟩ | go_keep)
          (first
            | (go_at_call 18; refine (hrt.out _ ?_).mono ?_; (first | exact (Below.refl _ _).drew); rintro e w3 ⟨rfl, hb3, k0, k1', k2, hR3⟩; have r0 : w3.cell? ⟨w.heap.size, 0, none⟩ = some (.string ⟨#[]⟩) := hR3.cell 0; have r1 : w3.cell? ⟨w.heap.size, 1, none⟩ = some (.int .u32 0) := hR3.cell 1; have r2 : w3.cell? ⟨w.heap.size, 2, none⟩ = some (.slice none 0 0) := hR3.cell 2; have z0 := hR3.frozen 0; have z1 := hR3.frozen 1; have z2 := hR3.frozen 2))
        go_wp2
        have e1 : verOf (P.drop T) = vv := HV.out
        have e2 : nodesOf (P.drop T) = qI Q := by unfold nodesOf; rw [HQ.out]; rfl
        have e3 : (qI Q).length = M - 5 := by simp [qI, hQl]
        refine ret_ref31 (g := w.heap.size) rfl rfl rfl (hR3.set3 _ _ _) ⟨.slice Ax (M - 5) cx, ?_, ?_, ?_⟩
        · rw [e1, e2]; rfl
        · rw [e2, e3]
          refine ownsRow_set3 (hox.below hb3 |>.rebase (by have := hB.lt; rw [HG.out] at this; omega)) (own_ne_blk hox hBr (by decide)) _ _ _
        · exact below_set3 (hb0.trans (hb3.mono hb0.size)) (Nat.le_refl _) _ _ _

/-- what 'read' says: by the document's definition -/
def ReadSays (w : World) (ok : Bool) (t : List UInt8) (v : Nat) (ns : List Int) (e : Ending) (w' : World) : Prop :=
  if ok = true then ∃ x : Value, e = .returned (.tuple #[.agg #[.string ⟨t.toArray⟩, .int .u32 v, x], .bool true]) ∧ w'.ownsRow w.heap.size 3 1 x ns.length (ic ns) ∧ Below w.heap.size w w'
  else NoRef w e w'
def refT (xs : List UInt8) : List UInt8 := textOf (payOf xs)
def refV (xs : List UInt8) : Nat := verOf (tailOf (payOf xs))
def refN (xs : List UInt8) : List Int := nodesOf (tailOf (payOf xs))

theorem read_calls (A : Option Addr) (n c : Nat) (xs : List UInt8) (hc : n ≤ c) (w : World) (hr : Reads w w.heap.size 1 A n (bc xs)) (hx : n ≤ 1000000) :
    Calls Tryd.prog 31 #[.slice A n c] w (ReadSays w (readOk xs) (refT xs) (refV xs) (refN xs)) := by
  have hl : xs.length = n := by have := hr.1; rw [bc_len] at this; omega
  have no : ∀ {e w'}, readOk xs = false → NoRef w e w' → ReadSays w (readOk xs) (refT xs) (refV xs) (refN xs) e w' := fun h1 h2 => by
    unfold ReadSays; rw [if_neg (by simp [h1])]; exact h2
  cases ho : openOk xs with
  | false => exact (read_no1 A n c xs hc w hr hx ho).mono fun e w' h => no (by simp [readOk, ho]) h
  | true =>
    by_cases hn : openN xs + 8 = n
    · cases ht : textOk (payOf xs) with
      | false => exact (read_no3 A n c xs hc w hr hx ho hn ht).mono fun e w' h => no (by simp [readOk, payOk, ht]) h
      | true =>
        cases hq : tailOk (tailOf (payOf xs)) with
        | false => exact (read_no4 A n c xs hc w hr hx ho hn ht hq).mono fun e w' h => no (by simp [readOk, payOk, hq]) h
        | true =>
          refine (read_end A n c xs hc w hr hx ho hn ht hq).mono fun e w' h => ?_
          obtain ⟨x, h1, h2, h3⟩ := h
          have hok : readOk xs = rightB (refT xs).length (refN xs) := by simp [readOk, payOk, ho, ht, hq, hn, hl, refT, refN]
          cases hrt : rightB (refT xs).length (refN xs) with
          | false =>
            have hf : rightB (textOf (payOf xs)).length (nodesOf (tailOf (payOf xs))) = false := hrt
            rw [hf] at h1
            obtain ⟨Ax, cx, rfl, _, _⟩ := own_slice h2
            exact no (hok.trans hrt) ⟨_, _, _, _, _, h1, h3⟩
          | true =>
            unfold ReadSays
            rw [if_pos (hok.trans hrt)]
            have hf : rightB (textOf (payOf xs)).length (nodesOf (tailOf (payOf xs))) = true := hrt
            rw [hf] at h1
            exact ⟨x, h1, h2, h3⟩
    · exact (read_no2 A n c xs hc w hr hx ho hn).mono fun e w' h => no (by simp [readOk, hl, hn]) h

end Go.Proofs.YtcmaildfhdddjaaDoor
