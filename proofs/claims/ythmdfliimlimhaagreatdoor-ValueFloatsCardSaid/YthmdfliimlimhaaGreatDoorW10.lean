/- The constructors of values: Canon, Int, Float, Text, List: contracts. -/
import Derived.Test.YthmdfliimlimhaaGreatDoorW8
namespace Go.Proofs.YthmdfliimlimhaaGreatDoor
open Go.RowKit

attribute [local go_sem ↓] Go.wp_at_zero Go.wp_at_succ

theorem results_cell1 {fn : Func} {p : Tmp} {ty : TypeId} (h : fn.results = #[.cell p ty]) (tmps : Array Value) (P : Program) (w : World) :
    (results fn tmps).run P w = ((asAddr (tmps.getD p undef)).run P w).andThen fun a w₁ => (loadVar ty a).run P w₁ := by
  simp only [results, h]
  simp [Sem.run_bind, Result.andThen]

theorem load25 {w : World} {g : Nat} {k i : Int} {f : Nat} {s : ByteArray} {A : Option Addr} {n c : Nat} (hB : Blk w g 25 (vcells k i f s A n c)) : (loadVar 25 ⟨g, 0, none⟩).run Tryz.prog w = .ok (.agg (vcells k i f s A n c)) w := by
  obtain ⟨r0, r1, r2, r3, r4⟩ := hB.five
  go_simp

/-- the canonical bits of a float -/
def canonF (f : Nat) : Nat := if nanF f then 9221120237041090561 else f

set_option maxRecDepth 100000 in
set_option maxHeartbeats 1600000 in
theorem canon_calls (f : Nat) (w : World) : Calls Tryz.prog 28 #[.float .f64 f] w (Same w (.float .f64 (canonF f))) := by
  have h : ((FloatKind.format .f64).order f f != some .eq) = nanF f := by rw [f64_neq, eqF_self]; simp
  have HF : Hid (∀ W, (callFunc 51 #[.int .u64 9221120237041090561]).run Tryz.prog W = .ok (.value (.float .f64 9221120237041090561)) W) := Lib.hid (fun W => frombits_run 9221120237041090561 W)
  cases hn : nanF f
  · have HR := Lib.hid (show canonF f = f by simp [canonF, hn])
    rw [hn] at h
    clear hn
    go_enter Tryz.func28, Tryz.ntmps28
    go_wp2_with fail
    go_ret
    exact ⟨by rw [HR.out]; rfl, rfl⟩
  · have HR := Lib.hid (show canonF f = 9221120237041090561 by simp [canonF, hn])
    rw [hn] at h
    clear hn
    go_enter Tryz.func28, Tryz.ntmps28
    go_wp2_with fail
    rw [HF.out, Oper.upon_value]
    go_wp2_with fail
    go_ret
    exact ⟨by rw [HR.out]; rfl, rfl⟩

section
variable {R : Ending → World → Prop} {a : Act} {w : World} {g : Nat} {k i : Int} {f : Nat} {s : ByteArray} {A : Option Addr} {n c : Nat}
theorem ret_of (fn : Func) (hfn : fn.results = #[.cell 2 25]) (hd : a.defers = []) (h2 : a.tmps.getD 2 undef = .pointer (some ⟨g, 0, none⟩))
    (hB : Blk w g 25 (vcells k i f s A n c)) (hR : R (.returned (.agg (vcells k i f s A n c))) w) : bodyPost Tryz.prog fn R .ret a w := by
  refine bodyPost_ret (v := .agg (vcells k i f s A n c)) ?_ hd hR
  rw [results_cell1 (p := 2) (ty := 25) hfn, h2]
  simp only [asAddr, Sem.run_pure, Result.andThen_ok, load25 hB]
end

set_option maxRecDepth 100000 in
set_option maxHeartbeats 1600000 in
theorem mkInt_calls (i : Int) (w : World) : Calls Tryz.prog 23 #[.int .i64 i] w (Says w (.agg (vcells 1 i 0 ⟨#[]⟩ none 0 0))) := by
  have hst := run_store_f64
  go_enter Tryz.func23, Tryz.ntmps23
  go_wp2_with fail
  have hB := Blk.new w 25 (vcells 1 i 0 ⟨#[]⟩ none 0 0)
  exact ret_of (g := w.heap.size) _ rfl rfl rfl (by simpa using hB) ⟨rfl, (Below.refl _ w).alloc (Nat.le_refl _) _⟩

set_option maxRecDepth 100000 in
set_option maxHeartbeats 1600000 in
theorem mkText_calls (s : ByteArray) (w : World) : Calls Tryz.prog 15 #[.string s] w (Says w (.agg (vcells 3 0 0 s none 0 0))) := by
  have hst := run_store_f64
  go_enter Tryz.func15, Tryz.ntmps15
  go_wp2_with fail
  have hB := Blk.new w 25 (vcells 3 0 0 s none 0 0)
  exact ret_of (g := w.heap.size) _ rfl rfl rfl (by simpa using hB) ⟨rfl, (Below.refl _ w).alloc (Nat.le_refl _) _⟩

set_option maxRecDepth 100000 in
set_option maxHeartbeats 1600000 in
theorem mkList_calls (A : Option Addr) (n c : Nat) (w : World) : Calls Tryz.prog 16 #[.slice A n c] w (Says w (.agg (vcells 4 0 0 ⟨#[]⟩ A n c))) := by
  have hst := run_store_f64
  go_enter Tryz.func16, Tryz.ntmps16
  go_wp2_with fail
  have hB := Blk.new w 25 (vcells 4 0 0 ⟨#[]⟩ A n c)
  exact ret_of (g := w.heap.size) _ rfl rfl rfl (by simpa using hB) ⟨rfl, (Below.refl _ w).alloc (Nat.le_refl _) _⟩

set_option maxRecDepth 100000 in
set_option maxHeartbeats 1600000 in
theorem mkFloat_calls (f : Nat) (w : World) : Calls Tryz.prog 12 #[.float .f64 f] w (Says w (.agg (vcells 2 0 (canonF f) ⟨#[]⟩ none 0 0))) := by
  have hst := run_store_f64
  have HC := Lib.hid (fun W => canon_calls f W)
  have hB := Blk.new w 25 (vcells 2 0 (canonF f) ⟨#[]⟩ none 0 0)
  generalize canonF f = g at *
  go_enter Tryz.func12, Tryz.ntmps12
  go_wp2_with (go_at_call 28; refine (HC.out _).mono ?_; rintro e w2 ⟨rfl, rfl⟩)
  exact ret_of (g := w.heap.size) _ rfl rfl rfl (by simpa using hB) ⟨rfl, (Below.refl _ w).alloc (Nat.le_refl _) _⟩

end Go.Proofs.YthmdfliimlimhaaGreatDoor
