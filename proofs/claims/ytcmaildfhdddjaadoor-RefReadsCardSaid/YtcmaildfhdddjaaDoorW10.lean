/- Contracts of functions of this program, walked. No condition but the ones each theorem states. -/
import Derived.Test.YtcmaildfhdddjaaDoorW9
namespace Go.Proofs.YtcmaildfhdddjaaDoor
open Go.RowKit

attribute [local go_sem ↓] Go.wp_at_zero Go.wp_at_succ

def ReadRes (w : World) (ok : Bool) (t : List UInt8) (v : Nat) (ns : List Int) (e : Ending) (w' : World) : Prop :=
  if ok = true then ∃ x : Value, e = .returned (.tuple #[.agg #[.string ⟨t.toArray⟩, .int .u32 v, x], .int .i64 0]) ∧ w'.ownsRow w.heap.size 3 1 x ns.length (ic ns) ∧ Below w.heap.size w w'
  else e = .returned (.tuple #[.agg #[.string ⟨#[]⟩, .int .u32 0, .slice none 0 0], .int .i64 20]) ∧ Below w.heap.size w w'

theorem ret_ref12 {R : Ending → World → Prop} {a : Act} {w : World} {g : Nat} {x y z b : Value} (hd : a.defers = []) (h2 : a.tmps.getD 2 undef = .pointer (some ⟨g, 0, none⟩)) (h3 : a.tmps.getD 3 undef = b)
    (hB : Blk w g 26 #[x, y, z]) (hR : R (.returned (.tuple #[.agg #[x, y, z], b])) w) : bodyPost Tryd.prog Tryd.f12 R .ret a w := by
  refine bodyPost_ret (v := .tuple #[.agg #[x, y, z], b]) ?_ hd hR
  rw [results_cell_tmp (p := 2) (u := 3) (ty := 26) rfl, h2, h3]
  simp only [asAddr, Sem.run_pure, Result.andThen_ok, load26 hB]

set_option maxRecDepth 100000 in
set_option maxHeartbeats 1600000 in
theorem Read_calls (A : Option Addr) (n c : Nat) (xs : List UInt8) (hc : n ≤ c) (w : World) (hr : Reads w w.heap.size 1 A n (bc xs)) (hx : n ≤ 1000000) :
    Calls Tryd.prog 12 #[.slice A n c] w (ReadRes w (readOk xs) (refT xs) (refV xs) (refN xs)) := by
  have hcall := Lib.hid (fun w1 hr1 => read_calls A n c xs hc w1 hr1 hx)
  generalize refT xs = t at *
  generalize refV xs = v at *
  generalize refN xs = ns at *
  cases hok : readOk xs with
  | false =>
    rw [hok] at hcall
    clear hok
    go_enter Tryd.func12, Tryd.ntmps12
    go_wp2_with fail
    refine (hcall.out _ ((hr.alloc (Nat.le_refl _) _).more (by simp))).mono ?_
    intro e w1 h
    unfold ReadSays at h
    rw [if_neg (by simp)] at h
    obtain ⟨ss, sv, sA, sn, sc, rfl, hb1⟩ := h
    have hB := read_res 26 hb1
    have c0 : w1.cell? ⟨w.heap.size, 0, none⟩ = some (.string ⟨#[]⟩) := hB.cell 0
    have c1 : w1.cell? ⟨w.heap.size, 1, none⟩ = some (.int .u32 0) := hB.cell 1
    have c2 : w1.cell? ⟨w.heap.size, 2, none⟩ = some (.slice none 0 0) := hB.cell 2
    have f0 : w1.frozen? ⟨w.heap.size, 0, none⟩ = false := hB.frozen 0
    have f1 : w1.frozen? ⟨w.heap.size, 1, none⟩ = false := hB.frozen 1
    have f2 : w1.frozen? ⟨w.heap.size, 2, none⟩ = false := hB.frozen 2
    have hsz : w.heap.size < w1.heap.size := hB.lt
    go_wp2
    exact ret_ref12 (g := w.heap.size) rfl rfl rfl ((hB.set3 _ _ _).alloc _) (by
      unfold ReadRes
      rw [if_neg (by simp)]
      exact ⟨rfl, (below_set3 (((Below.refl _ w).alloc (Nat.le_refl _) _).trans (hb1.mono (by simp))) (Nat.le_refl _) _ _ _).alloc (by simp; omega) _⟩)
  | true =>
    rw [hok] at hcall
    clear hok
    go_enter Tryd.func12, Tryd.ntmps12
    go_wp2_with fail
    refine (hcall.out _ ((hr.alloc (Nat.le_refl _) _).more (by simp))).mono ?_
    intro e w1 h
    unfold ReadSays at h
    rw [if_pos rfl] at h
    obtain ⟨x, rfl, hox, hb1⟩ := h
    obtain ⟨Ax, cx, rfl, hcx, _⟩ := own_slice hox
    have hB := read_res 26 hb1
    have c0 : w1.cell? ⟨w.heap.size, 0, none⟩ = some (.string ⟨#[]⟩) := hB.cell 0
    have c1 : w1.cell? ⟨w.heap.size, 1, none⟩ = some (.int .u32 0) := hB.cell 1
    have c2 : w1.cell? ⟨w.heap.size, 2, none⟩ = some (.slice none 0 0) := hB.cell 2
    have f0 : w1.frozen? ⟨w.heap.size, 0, none⟩ = false := hB.frozen 0
    have f1 : w1.frozen? ⟨w.heap.size, 1, none⟩ = false := hB.frozen 1
    have f2 : w1.frozen? ⟨w.heap.size, 2, none⟩ = false := hB.frozen 2
    have hsz : w.heap.size < w1.heap.size := hB.lt
    go_wp2
    exact ret_ref12 (g := w.heap.size) rfl rfl rfl ((hB.set3 _ _ _).alloc _) (by
      unfold ReadRes
      rw [if_pos rfl]
      exact ⟨_, rfl, (ownsRow_set3 (hox.rebase (by simp)) (own_ne_blk hox hB (by decide)) _ _ _).alloc _, (below_set3 (((Below.refl _ w).alloc (Nat.le_refl _) _).trans (hb1.mono (by simp))) (Nat.le_refl _) _ _ _).alloc (by simp; omega) _⟩)

end Go.Proofs.YtcmaildfhdddjaaDoor
