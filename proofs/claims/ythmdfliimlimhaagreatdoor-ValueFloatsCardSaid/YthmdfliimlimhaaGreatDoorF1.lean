/- Shortest decimals of a Float: the small functions: contracts. -/
import Derived.Test.YthmdfliimlimhaaGreatDoorW7
import Derived.Laws.Bits64b
import GoSem.PinnedTables
namespace Go.Proofs.YthmdfliimlimhaaGreatDoor
open Go.RowKit

attribute [local go_sem ↓] Go.wp_at_zero Go.wp_at_succ

theorem ret_u64 {a b : Int} (h : a = b) : Ending.returned (.int .u64 a) = .returned (.int .u64 b) := by rw [h]
theorem ret_i64 {a b : Int} (h : a = b) : Ending.returned (.int .i64 a) = .returned (.int .i64 b) := by rw [h]

set_option maxRecDepth 100000 in
theorem ceil_calls (u : Nat) (w : World) (h : u < 2 ^ 63) : Calls Tryz.prog 124 #[.int .u64 u] w (Same w (.int .u64 ((u + 3) / 4 : Nat))) := by
  have h' : (u : Int) ≤ 9223372036854775807 := by omega
  clear h
  go_enter Tryz.func124, Tryz.ntmps124
  go_wp2_with fail
  go_ret
  exact ⟨ret_u64 (by simp), rfl⟩
set_option maxRecDepth 100000 in
theorem floor_calls (u : Nat) (w : World) (h : u < 2 ^ 63) : Calls Tryz.prog 125 #[.int .u64 u] w (Same w (.int .u64 (u / 4 : Nat))) := by
  have h' : (u : Int) ≤ 9223372036854775807 := by omega
  clear h
  go_enter Tryz.func125, Tryz.ntmps125
  go_wp2_with fail
  go_ret
  exact ⟨ret_u64 (by simp), rfl⟩
theorem nudge_sum (u : Nat) (d : Int) (h : u < 2 ^ 63) (h2 : 1 ≤ u) (h3 : -1 ≤ d) (h4 : d ≤ 1) : IntKind.u64.wrap ((u : Int) + IntKind.u64.wrap d) = ((u + d).toNat : Nat) := by
  rw [IntKind.wrap_u64, IntKind.wrap_u64]; omega
set_option maxRecDepth 100000 in
theorem nudge_calls (u : Nat) (d : Int) (w : World) (h : u < 2 ^ 63) (h2 : 1 ≤ u) (h3 : -1 ≤ d) (h4 : d ≤ 1) : Calls Tryz.prog 123 #[.int .u64 u, .int .i64 d] w (Same w (.int .u64 ((u + d).toNat : Nat))) := by
  have HE := Lib.hid (nudge_sum u d h h2 h3 h4)
  clear h h2 h3 h4
  go_enter Tryz.func123, Tryz.ntmps123
  go_wp2_with fail
  go_ret
  exact ⟨ret_u64 HE.out, rfl⟩

/-- to the nearest, between two to the even -/
def roundU (u : Nat) : Nat := (u + 1 + u / 4 % 2) / 4
set_option maxRecDepth 100000 in
theorem round_calls (u : Nat) (w : World) (h : u < 2 ^ 63) : Calls Tryz.prog 126 #[.int .u64 u] w (Same w (.int .u64 (roundU u : Nat))) := by
  have h' : (u : Int) ≤ 9223372036854775807 := by omega
  have hand : bits .and .u64 ((u : Int) / 4) 1 = (u : Int) / 4 % 2 := by
    have e : (u : Int) / 4 = ((u / 4 : Nat) : Int) := by simp
    have e1 := bits_and_u64_nat (u / 4) 1 (by omega) (by omega)
    rw [Nat.and_one_is_mod] at e1
    rw [e]
    exact e1.trans (by omega)
  clear h
  go_enter Tryz.func126, Tryz.ntmps126
  go_wp2_with fail
  go_ret
  exact ⟨ret_u64 (by simp [roundU]), rfl⟩

theorem b2_calls (b : Bool) (w : World) : Calls Tryz.prog 141 #[.bool b] w (Same w (.int .u64 (if b then 1 else 0))) := by
  cases b
  · go_enter Tryz.func141, Tryz.ntmps141
    go_wp2_with fail
    go_ret
    exact ⟨rfl, rfl⟩
  · go_enter Tryz.func141, Tryz.ntmps141
    go_wp2_with fail
    go_ret
    exact ⟨rfl, rfl⟩

/-- the floor of a number of binary digits in decimals -/
def l10 (x : Int) : Int := x * 78913 / 262144
def l2 (x : Int) : Int := x * 108853 / 32768
def skew (x : Int) : Int := (x * 631305 - 261663) / 2097152
set_option maxRecDepth 100000 in
theorem l10_calls (x : Int) (w : World) (h : -5000 ≤ x) (h2 : x ≤ 5000) : Calls Tryz.prog 83 #[.int .i64 x] w (Same w (.int .i64 (l10 x))) := by
  go_enter Tryz.func83, Tryz.ntmps83
  go_wp2_with fail
  go_ret
  exact ⟨ret_i64 (by unfold l10; try simp), rfl⟩
set_option maxRecDepth 100000 in
theorem l2_calls (x : Int) (w : World) (h : -5000 ≤ x) (h2 : x ≤ 5000) : Calls Tryz.prog 121 #[.int .i64 x] w (Same w (.int .i64 (l2 x))) := by
  go_enter Tryz.func121, Tryz.ntmps121
  go_wp2_with fail
  go_ret
  exact ⟨ret_i64 (by unfold l2; try simp), rfl⟩
set_option maxRecDepth 100000 in
theorem skew_calls (x : Int) (w : World) (h : -5000 ≤ x) (h2 : x ≤ 5000) : Calls Tryz.prog 119 #[.int .i64 x] w (Same w (.int .i64 (skew x))) := by
  go_enter Tryz.func119, Tryz.ntmps119
  go_wp2_with fail
  go_ret
  exact ⟨ret_i64 (by unfold skew; try simp), rfl⟩

/-- the table of powers of ten -/
def P10 (i : Nat) : Nat × Nat := Go.Pinned.pow10Rows.getD i (0, 0)
def PowAt (w : World) : Prop := ∀ i, i < 696 → w.cell? ⟨13, i * 2, none⟩ = some (.int .u64 (P10 i).1) ∧ w.cell? ⟨13, i * 2 + 1, none⟩ = some (.int .u64 (P10 i).2)

set_option maxRecDepth 100000 in
set_option maxHeartbeats 1600000 in
theorem prescale_calls (g : Nat) (a0 a1 a2 : Value) (e lp : Int) (i : Nat) (P : Int) (w : World) (hi : i < 696) (hP : P = (i : Int) - 348) (he : -5000 ≤ e) (he2 : e ≤ 5000) (hl : -5000 ≤ lp) (hl2 : lp ≤ 5000)
    (hT : PowAt w) (hB : Blk w g 130 #[a0, a1, a2]) (hg : 14 ≤ g) :
    Calls Tryz.prog 120 #[.pointer (some ⟨g, 0, none⟩), .int .i64 e, .int .i64 P, .int .i64 lp] w fun ee w' => ee = .returned (.tuple #[]) ∧ w' = ((w.setCell ⟨g, 0, none⟩ (.int .u64 (P10 i).1)).setCell ⟨g, 1, none⟩ (.int .u64 (P10 i).2)).setCell ⟨g, 2, none⟩ (.int .i64 (-(e + lp + 3))) := by
  obtain ⟨t0, t1⟩ := hT i hi
  generalize (P10 i).1 = X at *
  generalize (P10 i).2 = Y at *
  subst hP
  have f0 := hB.frozen 0
  have f1 := hB.frozen 1
  have f2 := hB.frozen 2
  have c0 : w.cell? ⟨g, 0, none⟩ = some a0 := hB.cell 0
  have c1 : w.cell? ⟨g, 1, none⟩ = some a1 := hB.cell 1
  have c2 : w.cell? ⟨g, 2, none⟩ = some a2 := hB.cell 2
  clear hT hB
  go_enter Tryz.func120, Tryz.ntmps120
  go_wp2_with fail
  go_end0
  exact ⟨rfl, rfl⟩

end Go.Proofs.YthmdfliimlimhaaGreatDoor
