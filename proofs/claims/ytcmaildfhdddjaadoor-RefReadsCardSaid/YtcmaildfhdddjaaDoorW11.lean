/- Contracts of functions of this program, walked. No condition but the ones each theorem states. -/
import Derived.Test.YtcmaildfhdddjaaDoorW10
namespace Go.Proofs.YtcmaildfhdddjaaDoor
open Go.RowKit

attribute [local go_sem ↓] Go.wp_at_zero Go.wp_at_succ

theorem ret_ref16 {R : Ending → World → Prop} {a : Act} {w : World} {g : Nat} {x y z b : Value} (hd : a.defers = []) (h2 : a.tmps.getD 2 undef = .pointer (some ⟨g, 0, none⟩)) (h3 : a.tmps.getD 3 undef = b)
    (hB : Blk w g 36 #[x, y, z]) (hR : R (.returned (.tuple #[.agg #[x, y, z], b])) w) : bodyPost Tryd.prog Tryd.f16 R .ret a w := by
  refine bodyPost_ret (v := .tuple #[.agg #[x, y, z], b]) ?_ hd hR
  rw [results_cell_tmp (p := 2) (u := 3) (ty := 36) rfl, h2, h3]
  simp only [asAddr, Sem.run_pure, Result.andThen_ok, load36 hB]

/-- refused: no reference, and 20 -/
def ZeroRes (w : World) (e : Ending) (w' : World) : Prop := e = .returned (.tuple #[.agg #[.string ⟨#[]⟩, .int .u32 0, .slice none 0 0], .int .i64 20]) ∧ Below w.heap.size w w'
theorem zeroRes {w w' : World} (h : Below w.heap.size w w') : ZeroRes w (.returned (.tuple #[.agg #[.string ⟨#[]⟩, .int .u32 0, .slice none 0 0], .int .i64 20])) w' := ⟨rfl, h⟩

set_option maxRecDepth 100000 in
set_option maxHeartbeats 1600000 in
theorem read'_no1 (A : Option Addr) (n c : Nat) (xs : List UInt8) (hc : n ≤ c) (w : World) (hr : Reads w w.heap.size 1 A n (bc xs)) (hx : n ≤ 1000000) (h : openOk xs = false) :
    Calls Tryd.prog 16 #[.slice A n c] w (ZeroRes w) := by
  go_enter Tryd.func16, Tryd.ntmps16
  go_wp2_with fail
  refine (open'_no A n c xs hc _ ((hr.alloc (Nat.le_refl _) _).more (by simp)) hx h).mono ?_
  rintro e w1 ⟨k, rfl, hk0, hk, hb1⟩
  have hne : ((k : Int) != 0) = true := by simp; omega
  have hB := read_res 36 hb1
  have hsz : w.heap.size < w1.heap.size := hB.lt
  have c0 : w1.cell? ⟨w.heap.size, 0, none⟩ = some (.string ⟨#[]⟩) := hB.cell 0
  have c1 : w1.cell? ⟨w.heap.size, 1, none⟩ = some (.int .u32 0) := hB.cell 1
  have c2 : w1.cell? ⟨w.heap.size, 2, none⟩ = some (.slice none 0 0) := hB.cell 2
  have f0 : w1.frozen? ⟨w.heap.size, 0, none⟩ = false := hB.frozen 0
  have f1 : w1.frozen? ⟨w.heap.size, 1, none⟩ = false := hB.frozen 1
  have f2 : w1.frozen? ⟨w.heap.size, 2, none⟩ = false := hB.frozen 2
  go_wp2
  exact ret_ref16 (g := w.heap.size) rfl rfl rfl (hB.set3 _ _ _) (zeroRes (below_set3 (((Below.refl _ w).alloc (Nat.le_refl _) _).trans (hb1.mono (by simp))) (Nat.le_refl _) _ _ _))

set_option maxRecDepth 100000 in
set_option maxHeartbeats 1600000 in
theorem read'_no2 (A : Option Addr) (n c : Nat) (xs : List UInt8) (hc : n ≤ c) (w : World) (hr : Reads w w.heap.size 1 A n (bc xs)) (hx : n ≤ 1000000) (h : openOk xs = true) (hn : openN xs + 8 ≠ n) :
    Calls Tryd.prog 16 #[.slice A n c] w (ZeroRes w) := by
  have hcall := Lib.hid (fun w1 hr1 => open'_yes A n c xs hc w1 hr1 hx h)
  generalize openN xs = N at *
  have hne : ((8 + (N : Int)) != (n : Int)) = true := by simp; omega
  go_enter Tryd.func16, Tryd.ntmps16
  go_wp2_with fail
  refine (hcall.out _ ((hr.alloc (Nat.le_refl _) _).more (by simp))).mono ?_
  rintro e w1 ⟨v1, rfl, hown1, hb1⟩
  have hB := read_res 36 hb1
  have hsz : w.heap.size < w1.heap.size := hB.lt
  have c0 : w1.cell? ⟨w.heap.size, 0, none⟩ = some (.string ⟨#[]⟩) := hB.cell 0
  have c1 : w1.cell? ⟨w.heap.size, 1, none⟩ = some (.int .u32 0) := hB.cell 1
  have c2 : w1.cell? ⟨w.heap.size, 2, none⟩ = some (.slice none 0 0) := hB.cell 2
  have f0 : w1.frozen? ⟨w.heap.size, 0, none⟩ = false := hB.frozen 0
  have f1 : w1.frozen? ⟨w.heap.size, 1, none⟩ = false := hB.frozen 1
  have f2 : w1.frozen? ⟨w.heap.size, 2, none⟩ = false := hB.frozen 2
  go_wp2
  exact ret_ref16 (g := w.heap.size) rfl rfl rfl (hB.set3 _ _ _) (zeroRes (below_set3 (((Below.refl _ w).alloc (Nat.le_refl _) _).trans (hb1.mono (by simp))) (Nat.le_refl _) _ _ _))

set_option maxRecDepth 100000 in
set_option maxHeartbeats 1600000 in
theorem read'_no3 (A : Option Addr) (n c : Nat) (xs : List UInt8) (hc : n ≤ c) (w : World) (hr : Reads w w.heap.size 1 A n (bc xs)) (hx : n ≤ 1000000) (h : openOk xs = true) (hn : openN xs + 8 = n) (ht : textOk (payOf xs) = false) :
    Calls Tryd.prog 16 #[.slice A n c] w (ZeroRes w) := by
  have hcall := Lib.hid (fun w1 hr1 => open'_yes A n c xs hc w1 hr1 hx h)
  have hN : openN xs ≤ 1000000 := by omega
  generalize openN xs = N at *
  generalize payOf xs = P at *
  have hne : ((8 + (N : Int)) != (n : Int)) = false := by simp; omega
  clear hn
  go_enter Tryd.func16, Tryd.ntmps16
  go_wp2_with fail
  refine (hcall.out _ ((hr.alloc (Nat.le_refl _) _).more (by simp))).mono ?_
  rintro e w1 ⟨v1, rfl, hown1, hb1⟩
  obtain ⟨A1, k1, rfl, hk1, hr1⟩ := own_slice hown1
  have hB := read_res 36 hb1
  have hsz : w.heap.size < w1.heap.size := hB.lt
  have c0 : w1.cell? ⟨w.heap.size, 0, none⟩ = some (.string ⟨#[]⟩) := hB.cell 0
  have c1 : w1.cell? ⟨w.heap.size, 1, none⟩ = some (.int .u32 0) := hB.cell 1
  have c2 : w1.cell? ⟨w.heap.size, 2, none⟩ = some (.slice none 0 0) := hB.cell 2
  have f0 : w1.frozen? ⟨w.heap.size, 0, none⟩ = false := hB.frozen 0
  have f1 : w1.frozen? ⟨w.heap.size, 1, none⟩ = false := hB.frozen 1
  have f2 : w1.frozen? ⟨w.heap.size, 2, none⟩ = false := hB.frozen 2
  have htx := Lib.hid (readText'_no A1 N k1 P hk1 w1 hr1 hN ht)
  go_wp2_with (go_at_call 39; (with_reducible refine htx.out.mono ?_); rintro e w2 ⟨rfl, rfl⟩)
  exact ret_ref16 (g := w.heap.size) rfl rfl rfl (hB.set3 _ _ _) (zeroRes (below_set3 (((Below.refl _ w).alloc (Nat.le_refl _) _).trans (hb1.mono (by simp))) (Nat.le_refl _) _ _ _))

set_option maxRecDepth 100000 in
set_option maxHeartbeats 1600000 in
theorem read'_no4 (A : Option Addr) (n c : Nat) (xs : List UInt8) (hc : n ≤ c) (w : World) (hr : Reads w w.heap.size 1 A n (bc xs)) (hx : n ≤ 1000000) (h : openOk xs = true) (hn : openN xs + 8 = n) (ht : textOk (payOf xs) = true) (hq : tailOk (tailOf (payOf xs)) = false) :
    Calls Tryd.prog 16 #[.slice A n c] w (ZeroRes w) := by
  have hcall := Lib.hid (fun w1 hr1 => open'_yes A n c xs hc w1 hr1 hx h)
  have hN : openN xs ≤ 1000000 := by omega
  obtain ⟨htl, hTN⟩ := text_len ht
  generalize openN xs = N at *
  unfold tailOf at hq
  generalize payOf xs = P at *
  generalize hT : 2 + (textOf P).length = T at *
  have hne : ((8 + (N : Int)) != (n : Int)) = false := by simp; omega
  clear hn
  go_enter Tryd.func16, Tryd.ntmps16
  go_wp2_with fail
  refine (hcall.out _ ((hr.alloc (Nat.le_refl _) _).more (by simp))).mono ?_
  rintro e w1 ⟨v1, rfl, hown1, hb1⟩
  have hPl : P.length = N := by have := hown1.1; rw [bc_len] at this; omega
  obtain ⟨A1, k1, rfl, hk1, hr1⟩ := own_slice hown1
  obtain ⟨b, off, rfl, hbB, hcell⟩ := hr1.lit (by omega)
  have hB := read_res 36 hb1
  have hsz : w.heap.size < w1.heap.size := hB.lt
  have c0 : w1.cell? ⟨w.heap.size, 0, none⟩ = some (.string ⟨#[]⟩) := hB.cell 0
  have c1 : w1.cell? ⟨w.heap.size, 1, none⟩ = some (.int .u32 0) := hB.cell 1
  have c2 : w1.cell? ⟨w.heap.size, 2, none⟩ = some (.slice none 0 0) := hB.cell 2
  have f0 : w1.frozen? ⟨w.heap.size, 0, none⟩ = false := hB.frozen 0
  have f1 : w1.frozen? ⟨w.heap.size, 1, none⟩ = false := hB.frozen 1
  have f2 : w1.frozen? ⟨w.heap.size, 2, none⟩ = false := hB.frozen 2
  have htx := Lib.hid (readText'_at (some ⟨b, off, none⟩) N k1 P hk1 w1 hr1 hN ht T hT)
  clear hT
  have hM : (P.drop T).length = N - T := by simp; omega
  by_cases h5 : N < T + 5
  · have hd5 : decide (((N : Nat) : Int) < (T : Int) + 5) = true := by simp; omega
    clear hcell
    go_wp2_with (go_at_call 39; (with_reducible refine htx.out.mono ?_); rintro e w2 ⟨rfl, rfl⟩)
    exact ret_ref16 (g := w.heap.size) rfl rfl rfl (hB.set3 _ _ _) (zeroRes (below_set3 (((Below.refl _ w).alloc (Nat.le_refl _) _).trans (hb1.mono (by simp))) (Nat.le_refl _) _ _ _))
  · have hd5 : decide (((N : Nat) : Int) < (T : Int) + 5) = false := by simp; omega
    have hq4 : T + 4 < P.length := by omega
    have hc4 := hcell (T + 4) (.int .u8 (P.getD (T + 4) 0).toNat) (by simp only [Lib.byteCells, List.getElem?_map, getD_some _ _ hq4, Option.map_some])
    have hx : N ≠ T + 5 + (P.getD (T + 4) 0).toNat := by
      unfold tailOk at hq
      have h5' : decide (5 ≤ (P.drop T).length) = true := decide_eq_true (by omega)
      have e4 : (P.drop T).getD 4 0 = P.getD (T + 4) 0 := by simp [List.getD]
      rw [h5', Bool.true_and, decide_eq_false_iff_not, hM, e4] at hq
      omega
    have hy := (P.getD (T + 4) 0).toNat_lt
    generalize (P.getD (T + 4) 0).toNat = y at *
    have hne5 : (((N : Nat) : Int) != (T : Int) + 5 + (y : Int)) = true := by simp; omega
    clear hcell hq4 hq
    go_wp2_with (go_at_call 39; (with_reducible refine htx.out.mono ?_); rintro e w2 ⟨rfl, rfl⟩)
    exact ret_ref16 (g := w.heap.size) rfl rfl rfl (hB.set3 _ _ _) (zeroRes (below_set3 (((Below.refl _ w).alloc (Nat.le_refl _) _).trans (hb1.mono (by simp))) (Nat.le_refl _) _ _ _))

theorem step_append_int {ops : Array Oper} {o : Oper} {a : Act} {w : World} {K : Act → World → Prop} {Q : Exit → Act → World → Prop} {E : Prop} (hgd : o.guard = none) (s x : Operand)
    (ho : o.op = .call { callee := .builtin .append, args := #[s, x], argTypes := #[24, 24] })
    (base : Nat) (v : Value) (n : Nat) (xs : List Int) (hs : a.eval s = v) (g : Nat) (k : Int) (hx : a.eval x = .slice (some ⟨g, 0, none⟩) 1 1) (hown : w.ownsRow base 3 1 v n (ic xs))
    (hr : w.cell? ⟨g, 0, none⟩ = some (.int .i64 k)) (hb : n ≤ 1000000) (hbase : base ≤ w.heap.size)
    (h : ∀ v' w', w'.ownsRow base 3 1 v' (n + 1) (ic (xs ++ [k])) → w.grownBy w' v.ownBlock → (v'.ownBlock = v.ownBlock ∨ v'.ownBlock = some w.heap.size) → K (a.put o.dst v') w') :
    if Region.wanted o (yielded ops a.tmps) = true then Oper.wp Tryd.prog o a w K Q else E := by
  have hw : Region.wanted o (yielded ops a.tmps) = true := by simp [Region.wanted, hgd]
  rw [if_pos hw]
  obtain ⟨i0, hi, hz0, hz1, hz2⟩ := info_parts Tryd.info3
  obtain ⟨v', w', hrun, h2, h3, _, h4⟩ := run_append_own_at (P := Tryd.prog) w base 24 o.type 3 i0 _ 1 8 Tryd.underlying24 hi hz0 hz1 hz2 rfl (by omega) v n _ hown ⟨g, 0, none⟩ 1 1 [.int .i64 k] rfl (fun j u hj => by
    match j, hj with
    | 0, hj =>
      simp at hj
      subst hj
      simpa [Addr.add] using hr) (by simp [Value.oneCell']) (by simp only [maxLen]; omega) (by omega) hbase
  unfold Oper.wp execOp
  simp only [ho, resolve, invoke, builtin, Sem.run_bind, Sem.run_pure, Result.andThen_ok, List.map_toArray, List.map_cons, List.map_nil, hs, hx, hrun]
  exact h v' w' (by rw [ic_append]; exact h2) h3 h4

end Go.Proofs.YtcmaildfhdddjaaDoor
