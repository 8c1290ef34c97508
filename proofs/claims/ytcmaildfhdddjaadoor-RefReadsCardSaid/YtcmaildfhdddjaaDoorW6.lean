/- Contracts of functions of this program, walked. No condition but the ones each theorem states. -/
import Derived.Test.YtcmaildfhdddjaaDoorW5
namespace Go.Proofs.YtcmaildfhdddjaaDoor
open Go.RowKit

/-- ints as cells -/
def ic (l : List Int) : List Value := l.map (Value.int .i64)
theorem ic_len (l : List Int) : (ic l).length = l.length := by simp [ic]

/-- the first k nodes are right -/
def upto (ns : List Int) (k : Nat) : Prop := ∀ i, i < k → 0 ≤ ns.getD i 0 ∧ ns.getD i 0 ≤ 255 ∧ (0 < i → ns.getD (i - 1) 0 < ns.getD i 0)
instance (ns : List Int) (k : Nat) : Decidable (upto ns k) := inferInstanceAs (Decidable (∀ i, i < k → _))
def rightB (g : Nat) (ns : List Int) : Bool := decide (1 ≤ g) && decide (g ≤ 32) && decide (1 ≤ ns.length) && decide (ns.length ≤ 7) && decide (upto ns ns.length)

theorem rightB_short {g : Nat} (ns : List Int) (h : g < 1 ∨ 32 < g ∨ ns.length < 1 ∨ 7 < ns.length) : rightB g ns = false := by
  unfold rightB
  rcases h with h | h | h | h
  · have : decide (1 ≤ g) = false := decide_eq_false (by omega)
    simp [this]
  · have : decide (g ≤ 32) = false := decide_eq_false (by omega)
    simp [this]
  · have : decide (1 ≤ ns.length) = false := decide_eq_false (by omega)
    simp only [this, Bool.and_false, Bool.false_and]
  · have : decide (ns.length ≤ 7) = false := decide_eq_false (by omega)
    simp only [this, Bool.and_false, Bool.false_and]
theorem rightB_long {g : Nat} (ns : List Int) (h : ¬ (g < 1 ∨ 32 < g ∨ ns.length < 1 ∨ 7 < ns.length)) : rightB g ns = decide (upto ns ns.length) := by
  unfold rightB
  have h1 : decide (1 ≤ g) = true := decide_eq_true (by omega)
  have h2 : decide (g ≤ 32) = true := decide_eq_true (by omega)
  have h3 : decide (1 ≤ ns.length) = true := decide_eq_true (by omega)
  have h4 : decide (ns.length ≤ 7) = true := decide_eq_true (by omega)
  rw [h1, h2, h3, h4]
  rfl

/-- 'ends with this bool, and below the call's own blocks nothing has turned' -/
def Says (w : World) (b : Bool) (e : Ending) (w' : World) : Prop := e = .returned (.bool b) ∧ Below w.heap.size w w'

theorem Reads.litI {w : World} {B n : Nat} {A : Option Addr} {ns : List Int} (h : Reads w B 1 A n (ic ns)) (hn : 0 < n) :
    ∃ b off, A = some ⟨b, off, none⟩ ∧ b < B ∧ ∀ j, j < ns.length → w.cell? ⟨b, off + j, none⟩ = some (.int .i64 (ns.getD j 0)) := by
  obtain ⟨ad, rfl, hb, hc⟩ := h.2 hn
  obtain ⟨b, off, spot⟩ := ad
  have hl : 0 < ns.length := by have := h.1; rw [ic_len] at this; omega
  have h0 := hc 0 (.int .i64 ns[0]) (by simp [ic, hl])
  have hs : spot = none := by simpa [Addr.add] using World.cell?_spot h0
  subst hs
  exact ⟨b, off, rfl, hb, fun j hj => by rw [← Addr.add_lit]; exact hc j _ (by simp [ic, hj])⟩

set_option maxRecDepth 100000 in
set_option maxHeartbeats 1600000 in
theorem right_short (s : ByteArray) (v : Int) (A : Option Addr) (n c : Nat) (w : World) (hs : s.size ≤ 1000000) (hn : n ≤ 1000000) (h : s.size < 1 ∨ 32 < s.size ∨ n < 1 ∨ 7 < n) :
    Calls Tryd.prog 18 #[.agg #[.string s, .int .u32 v, .slice A n c]] w (Says w false) := by
  by_cases h1 : s.size < 1
  · have hd1 : decide ((s.size : Int) < 1) = true := by simp; omega
    go_enter Tryd.func18, Tryd.ntmps18
    go_wp2
    go_ret
    exact ⟨rfl, (Below.refl _ _).alloc (Nat.le_refl _) _⟩
  · by_cases h2 : 32 < s.size
    · have hd1 : decide ((s.size : Int) < 1) = false := by simp; omega
      have hd2 : decide ((32 : Int) < (s.size : Int)) = true := by simp; omega
      go_enter Tryd.func18, Tryd.ntmps18
      go_wp2
      go_ret
      exact ⟨rfl, (Below.refl _ _).alloc (Nat.le_refl _) _⟩
    · have hd1 : decide ((s.size : Int) < 1) = false := by simp; omega
      have hd2 : decide ((32 : Int) < (s.size : Int)) = false := by simp; omega
      by_cases h3 : n < 1
      · clear h
        have hd3 : decide ((n : Int) < 1) = true := by simp; omega
        go_enter Tryd.func18, Tryd.ntmps18
        go_wp2
        go_ret
        exact ⟨rfl, (Below.refl _ _).alloc (Nat.le_refl _) _⟩
      · have h4 : 7 < n := by omega
        clear h
        have hd3 : decide ((n : Int) < 1) = false := by simp; omega
        have hd4 : decide ((7 : Int) < (n : Int)) = true := by simp; omega
        go_enter Tryd.func18, Tryd.ntmps18
        go_wp2
        go_ret
        exact ⟨rfl, (Below.refl _ _).alloc (Nat.le_refl _) _⟩

set_option maxRecDepth 100000 in
set_option maxHeartbeats 1600000 in
theorem right_long (s : ByteArray) (v : Int) (A : Option Addr) (n c : Nat) (ns : List Int) (w : World) (h1 : 1 ≤ s.size) (h2 : s.size ≤ 32) (h3 : 1 ≤ n) (h4 : n ≤ 7) (hc : n ≤ c) (hr : Reads w w.heap.size 1 A n (ic ns)) :
    Calls Tryd.prog 18 #[.agg #[.string s, .int .u32 v, .slice A n c]] w (Says w (decide (upto ns n))) := by
  have hl : ns.length = n := by have := hr.1; rw [ic_len] at this; omega
  obtain ⟨b, off, rfl, hbB, hcell⟩ := hr.litI (by omega)
  have hd1 : decide ((s.size : Int) < 1) = false := by simp; omega
  have hd2 : decide ((32 : Int) < (s.size : Int)) = false := by simp; omega
  have hd3 : decide ((n : Int) < 1) = false := by simp; omega
  have hd4 : decide ((7 : Int) < (n : Int)) = false := by simp; omega
  go_enter Tryd.func18, Tryd.ntmps18
  go_wp2
  clear hd1 hd2 hd3 hd4
  go_loop [3, 4, 30] (fun _ _ i => ∃ k : Nat, k ≤ n ∧ i = .int .i64 k ∧ upto ns k) (fun _ _ i => n - (intOf i).toNat)
  case atStart => exact ⟨0, by omega, rfl, fun i hi => absurd hi (by omega)⟩
  case round =>
    obtain ⟨k, hk, rfl, hu⟩ := hrel
    by_cases hlt : k < n
    · have hcs : ∀ j, j < n → (w.alloc (.cells #[.string s, .int .u32 v, .slice (some ⟨b, off, none⟩) n c] 26)).cell? ⟨b, off + j, none⟩ = some (.int .i64 (ns.getD j 0)) := fun j hj => by
        rw [World.cell?_alloc_lt _ _ _ (by simpa using hbB)]; exact hcell j (by omega)
      have hc1 := hcell k (by omega)
      have hfin : ¬ upto ns (k + 1) → decide (upto ns n) = false := fun h => by
        simp only [decide_eq_false_iff_not]
        exact fun hu => h fun i hi => hu i (by omega)
      have hstep : 0 ≤ ns.getD k 0 → ns.getD k 0 ≤ 255 → (0 < k → ns.getD (k - 1) 0 < ns.getD k 0) → upto ns (k + 1) := fun a1 a2 a3 i hi => by
        by_cases e : i = k
        · subst e; exact ⟨a1, a2, a3⟩
        · exact hu i (by omega)
      have hno : ¬ (0 ≤ ns.getD k 0 ∧ ns.getD k 0 ≤ 255 ∧ (0 < k → ns.getD (k - 1) 0 < ns.getD k 0)) → ¬ upto ns (k + 1) := fun h hu' => h (hu' k (by omega))
      have Hfin := Lib.hid hfin
      have Hstep := Lib.hid hstep
      have Hno := Lib.hid hno
      have hc0 : 0 < k → w.cell? ⟨b, off + (k - 1), none⟩ = some (.int .i64 (ns.getD (k - 1) 0)) := fun _ => hcell (k - 1) (by omega)
      have Hd := Lib.hid (fun h => Hfin.out (Hno.out h))
      clear hcs hfin hstep hno hcell
      generalize hx : ns.getD k 0 = x at *
      generalize hy : ns.getD (k - 1) 0 = y at *
      clear hx hy
      by_cases x0 : x < 0
      · have t0 : decide (x < 0) = true := by simpa using x0
        rw [Hd.out (by omega)]
        go_wp2
        go_ret
        exact ⟨rfl, (Below.refl _ _).alloc (Nat.le_refl _) _⟩
      have t0 : decide (x < 0) = false := by simpa using x0
      by_cases x1 : 255 < x
      · have t1 : decide (255 < x) = true := by simpa using x1
        rw [Hd.out (by omega)]
        go_wp2
        go_ret
        exact ⟨rfl, (Below.refl _ _).alloc (Nat.le_refl _) _⟩
      have t1 : decide (255 < x) = false := by simpa using x1
      by_cases k0 : k = 0
      · subst k0
        have hS := Lib.hid (Hstep.out (by omega) (by omega) (by omega))
        clear hc0
        simp only [Nat.add_zero] at hc1
        go_wp2
        go_round
        case rel => exact ⟨1, by omega, by go_num, hS.out⟩
        case measure => simp [intOf]; omega
      have hkp : (0 : Int) < (k : Int) := by omega
      have t2 : decide ((0 : Int) < (k : Int)) = true := by simpa using hkp
      have hc0 := hc0 (by omega)
      have kp : 0 < k := by omega
      have t2' : decide (0 < k) = true := by simpa using kp
      by_cases xy : x ≤ y
      · have t3 : decide (x ≤ y) = true := by simpa using xy
        rw [Hd.out (by omega)]
        go_wp2
        go_ret
        exact ⟨rfl, (Below.refl _ _).alloc (Nat.le_refl _) _⟩
      · have t3 : decide (x ≤ y) = false := by simpa using xy
        have hS := Lib.hid (Hstep.out (by omega) (by omega) (by omega))
        go_wp2
        go_round
        case rel => exact ⟨k + 1, by omega, by go_num, hS.out⟩
        case measure => simp [intOf]; omega
    · have hkn : k = n := by omega
      subst hkn
      have hd : decide (upto ns k) = true := by simpa using hu
      rw [hd]
      clear hlt hk hd
      go_wp2
      go_ret
      exact ⟨rfl, (Below.refl _ _).alloc (Nat.le_refl _) _⟩

set_option maxRecDepth 100000 in
set_option maxHeartbeats 1600000 in
theorem right'_short (s : ByteArray) (v : Int) (A : Option Addr) (n c : Nat) (w : World) (hs : s.size ≤ 1000000) (hn : n ≤ 1000000) (h : s.size < 1 ∨ 32 < s.size ∨ n < 1 ∨ 7 < n) :
    Calls Tryd.prog 22 #[.agg #[.string s, .int .u32 v, .slice A n c]] w (Says w false) := by
  by_cases h1 : s.size < 1
  · have hd1 : decide ((s.size : Int) < 1) = true := by simp; omega
    go_enter Tryd.func22, Tryd.ntmps22
    go_wp2
    go_ret
    exact ⟨rfl, (Below.refl _ _).alloc (Nat.le_refl _) _⟩
  · by_cases h2 : 32 < s.size
    · have hd1 : decide ((s.size : Int) < 1) = false := by simp; omega
      have hd2 : decide ((32 : Int) < (s.size : Int)) = true := by simp; omega
      go_enter Tryd.func22, Tryd.ntmps22
      go_wp2
      go_ret
      exact ⟨rfl, (Below.refl _ _).alloc (Nat.le_refl _) _⟩
    · have hd1 : decide ((s.size : Int) < 1) = false := by simp; omega
      have hd2 : decide ((32 : Int) < (s.size : Int)) = false := by simp; omega
      by_cases h3 : n < 1
      · clear h
        have hd3 : decide ((n : Int) < 1) = true := by simp; omega
        go_enter Tryd.func22, Tryd.ntmps22
        go_wp2
        go_ret
        exact ⟨rfl, (Below.refl _ _).alloc (Nat.le_refl _) _⟩
      · have h4 : 7 < n := by omega
        clear h
        have hd3 : decide ((n : Int) < 1) = false := by simp; omega
        have hd4 : decide ((7 : Int) < (n : Int)) = true := by simp; omega
        go_enter Tryd.func22, Tryd.ntmps22
        go_wp2
        go_ret
        exact ⟨rfl, (Below.refl _ _).alloc (Nat.le_refl _) _⟩

set_option maxRecDepth 100000 in
set_option maxHeartbeats 1600000 in
theorem right'_long (s : ByteArray) (v : Int) (A : Option Addr) (n c : Nat) (ns : List Int) (w : World) (h1 : 1 ≤ s.size) (h2 : s.size ≤ 32) (h3 : 1 ≤ n) (h4 : n ≤ 7) (hc : n ≤ c) (hr : Reads w w.heap.size 1 A n (ic ns)) :
    Calls Tryd.prog 22 #[.agg #[.string s, .int .u32 v, .slice A n c]] w (Says w (decide (upto ns n))) := by
  have hl : ns.length = n := by have := hr.1; rw [ic_len] at this; omega
  obtain ⟨b, off, rfl, hbB, hcell⟩ := hr.litI (by omega)
  have hd1 : decide ((s.size : Int) < 1) = false := by simp; omega
  have hd2 : decide ((32 : Int) < (s.size : Int)) = false := by simp; omega
  have hd3 : decide ((n : Int) < 1) = false := by simp; omega
  have hd4 : decide ((7 : Int) < (n : Int)) = false := by simp; omega
  go_enter Tryd.func22, Tryd.ntmps22
  go_wp2
  clear hd1 hd2 hd3 hd4
  go_loopw [3] (fun i wr => ∃ k : Nat, k ≤ n ∧ i = .int .i64 k ∧ upto ns k ∧ ∃ q, wr = (w.alloc (.cells #[.string s, .int .u32 v, .slice (some ⟨b, off, none⟩) n c] 36)).drewN q) (fun i _ => n - (intOf i).toNat)
  case atStart => exact ⟨0, by omega, rfl, fun i hi => absurd hi (by omega), 0, rfl⟩
  case round =>
    obtain ⟨k, hk, rfl, hu, q, rfl⟩ := hrel
    by_cases hlt : k < n
    · have hcs : ∀ j, j < n → (w.alloc (.cells #[.string s, .int .u32 v, .slice (some ⟨b, off, none⟩) n c] 36)).cell? ⟨b, off + j, none⟩ = some (.int .i64 (ns.getD j 0)) := fun j hj => by
        rw [World.cell?_alloc_lt _ _ _ (by simpa using hbB)]; exact hcell j (by omega)
      have hc1 := hcell k (by omega)
      have hfin : ¬ upto ns (k + 1) → decide (upto ns n) = false := fun h => by
        simp only [decide_eq_false_iff_not]
        exact fun hu => h fun i hi => hu i (by omega)
      have hstep : 0 ≤ ns.getD k 0 → ns.getD k 0 ≤ 255 → (0 < k → ns.getD (k - 1) 0 < ns.getD k 0) → upto ns (k + 1) := fun a1 a2 a3 i hi => by
        by_cases e : i = k
        · subst e; exact ⟨a1, a2, a3⟩
        · exact hu i (by omega)
      have hno : ¬ (0 ≤ ns.getD k 0 ∧ ns.getD k 0 ≤ 255 ∧ (0 < k → ns.getD (k - 1) 0 < ns.getD k 0)) → ¬ upto ns (k + 1) := fun h hu' => h (hu' k (by omega))
      have Hfin := Lib.hid hfin
      have Hstep := Lib.hid hstep
      have Hno := Lib.hid hno
      have hc0 : 0 < k → w.cell? ⟨b, off + (k - 1), none⟩ = some (.int .i64 (ns.getD (k - 1) 0)) := fun _ => hcell (k - 1) (by omega)
      have Hd := Lib.hid (fun h => Hfin.out (Hno.out h))
      clear hcs hfin hstep hno hcell
      generalize hx : ns.getD k 0 = x at *
      generalize hy : ns.getD (k - 1) 0 = y at *
      clear hx hy
      by_cases x0 : x < 0
      · have t0 : decide (x < 0) = true := by simpa using x0
        rw [Hd.out (by omega)]
        go_wp2
        go_quiet (fail)
        go_wp2
        go_ret
        exact ⟨rfl, by first | exact below_drewN ((Below.refl _ _).alloc (Nat.le_refl _) _) _ | exact below_drewN (below_drewN ((Below.refl _ _).alloc (Nat.le_refl _) _) _) _⟩
      have t0 : decide (x < 0) = false := by simpa using x0
      by_cases x1 : 255 < x
      · have t1 : decide (255 < x) = true := by simpa using x1
        rw [Hd.out (by omega)]
        go_wp2
        go_quiet (fail)
        go_wp2
        go_ret
        exact ⟨rfl, by first | exact below_drewN ((Below.refl _ _).alloc (Nat.le_refl _) _) _ | exact below_drewN (below_drewN ((Below.refl _ _).alloc (Nat.le_refl _) _) _) _⟩
      have t1 : decide (255 < x) = false := by simpa using x1
      by_cases k0 : k = 0
      · subst k0
        have hS := Lib.hid (Hstep.out (by omega) (by omega) (by omega))
        clear hc0
        simp only [Nat.add_zero] at hc1
        go_wp2
        go_quiet (fail)
        go_wp2
        go_roundw
        case rel => exact ⟨1, by omega, by go_num, hS.out, _, rfl⟩
        case measure => simp [intOf]; omega
      have hkp : (0 : Int) < (k : Int) := by omega
      have t2 : decide ((0 : Int) < (k : Int)) = true := by simpa using hkp
      have hc0 := hc0 (by omega)
      have kp : 0 < k := by omega
      have t2' : decide (0 < k) = true := by simpa using kp
      by_cases xy : x ≤ y
      · have t3 : decide (x ≤ y) = true := by simpa using xy
        rw [Hd.out (by omega)]
        go_wp2
        go_quiet (fail)
        go_wp2
        go_ret
        exact ⟨rfl, by first | exact below_drewN ((Below.refl _ _).alloc (Nat.le_refl _) _) _ | exact below_drewN (below_drewN ((Below.refl _ _).alloc (Nat.le_refl _) _) _) _⟩
      · have t3 : decide (x ≤ y) = false := by simpa using xy
        have hS := Lib.hid (Hstep.out (by omega) (by omega) (by omega))
        go_wp2
        go_quiet (fail)
        go_wp2
        go_roundw
        case rel => exact ⟨k + 1, by omega, by go_num, hS.out, _, rfl⟩
        case measure => simp [intOf]; omega
    · have hkn : k = n := by omega
      subst hkn
      have hd : decide (upto ns k) = true := by simpa using hu
      have Hd0 := Lib.hid hd
      clear hlt hk hd
      go_wp2
      go_ret
      exact ⟨by rw [Hd0.out]; rfl, by first | exact below_drewN ((Below.refl _ _).alloc (Nat.le_refl _) _) _ | exact below_drewN (below_drewN ((Below.refl _ _).alloc (Nat.le_refl _) _) _) _⟩

theorem right_calls (s : ByteArray) (v : Int) (A : Option Addr) (n c : Nat) (ns : List Int) (w : World) (hs : s.size ≤ 1000000) (hn : n ≤ 1000000) (hc : n ≤ c) (hr : Reads w w.heap.size 1 A n (ic ns)) :
    Calls Tryd.prog 18 #[.agg #[.string s, .int .u32 v, .slice A n c]] w (Says w (rightB s.size ns)) := by
  have hl : ns.length = n := by have := hr.1; rw [ic_len] at this; omega
  by_cases h : s.size < 1 ∨ 32 < s.size ∨ n < 1 ∨ 7 < n
  · rw [rightB_short ns (by rw [hl]; exact h)]
    exact right_short s v A n c w hs hn h
  · rw [rightB_long ns (by rw [hl]; exact h), hl]
    exact right_long s v A n c ns w (by omega) (by omega) (by omega) (by omega) hc hr
theorem right'_calls (s : ByteArray) (v : Int) (A : Option Addr) (n c : Nat) (ns : List Int) (w : World) (hs : s.size ≤ 1000000) (hn : n ≤ 1000000) (hc : n ≤ c) (hr : Reads w w.heap.size 1 A n (ic ns)) :
    Calls Tryd.prog 22 #[.agg #[.string s, .int .u32 v, .slice A n c]] w (Says w (rightB s.size ns)) := by
  have hl : ns.length = n := by have := hr.1; rw [ic_len] at this; omega
  by_cases h : s.size < 1 ∨ 32 < s.size ∨ n < 1 ∨ 7 < n
  · rw [rightB_short ns (by rw [hl]; exact h)]
    exact right'_short s v A n c w hs hn h
  · rw [rightB_long ns (by rw [hl]; exact h), hl]
    exact right'_long s v A n c ns w (by omega) (by omega) (by omega) (by omega) hc hr

end Go.Proofs.YtcmaildfhdddjaaDoor
