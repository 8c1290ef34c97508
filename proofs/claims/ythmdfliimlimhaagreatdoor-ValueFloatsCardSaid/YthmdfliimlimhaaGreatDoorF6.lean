/- Two Floats' texts, written: fmtEFG at one digit: contracts. -/
import Derived.Test.YthmdfliimlimhaaGreatDoorF5
namespace Go.Proofs.YthmdfliimlimhaaGreatDoor
open Go.RowKit Go.Sort

attribute [local go_sem ↓] Go.wp_at_zero Go.wp_at_succ

set_option maxRecDepth 100000 in
set_option maxHeartbeats 3200000 in
theorem efg_two (B : Nat) (w0 : World) (g : Nat) (l : List UInt8) (v : Value) (w : World) (hO : Out B w0 g l v [] w) (hl : l.getD 0 0 = 50) (hl1 : 1 ≤ l.length) :
    Calls Tryz.prog 97 #[v, .bool false, .slice (some ⟨g, 0, none⟩) 32 32, .int .i64 1, .int .i64 1, .int .i64 1, .int .u8 103, .bool true] w fun e w' => ∃ v', e = .returned v' ∧ Out B w0 g l v' [50] w' := by
  have HO := Lib.hid hO
  have hc : w.cell? ⟨g, 0, none⟩ = some (.int .u8 50) := by have := hO.2.2.2.1 0 (by omega); rw [hl] at this; exact this
  clear hO hl
  go_enter Tryz.func97, Tryz.ntmps97
  go_wp2_with fail
  refine wp_loop_rounds 2 ?_
  rw [rounds_succ]
  go_wp2_with (at_builtin; go_must (refine wpList_out_byte rfl _ _ rfl B w0 g l v [] 50 _ rfl HO.out rfl rfl (Nat.zero_le _) ?_); intro v1 w1 hO1)
  rw [rounds_succ]
  have HO1 := Lib.hid hO1
  clear hO1
  go_wp2_with fail
  refine wp_loop_rounds 1 ?_
  rw [rounds_succ]
  go_wp2_with fail
  go_ret
  exact ⟨v1, rfl, HO1.out⟩

set_option maxRecDepth 100000 in
set_option maxHeartbeats 3200000 in
theorem efg_half (B : Nat) (w0 : World) (g : Nat) (l : List UInt8) (v : Value) (w : World) (hO : Out B w0 g l v [] w) (hl : l.getD 0 0 = 53) (hl1 : 1 ≤ l.length) :
    Calls Tryz.prog 97 #[v, .bool false, .slice (some ⟨g, 0, none⟩) 32 32, .int .i64 0, .int .i64 1, .int .i64 1, .int .u8 103, .bool true] w fun e w' => ∃ v', e = .returned v' ∧ Out B w0 g l v' [48, 46, 53] w' := by
  have HO := Lib.hid hO
  clear hO
  have m1 : max (1 : Int) 0 = 1 := by decide
  have m2 : min (1 : Int) 0 = 0 := by decide
  have m3 : max (0 : Int) 1 = 1 := by decide
  have m4 : max (0 : Int) 0 = 0 := by decide
  have m5 : min (1 : Int) 1 = 1 := by decide
  go_enter Tryz.func97, Tryz.ntmps97
  go_wp2_with (first
    | (at_builtin; refine wpList_out_byte rfl (.tmp 209) (.tmp 210) rfl B w0 g l v [] 48 _ rfl HO.out rfl rfl (Nat.zero_le _) ?_; intro v1 w1 hO1)
    | (at_builtin; refine wpList_out_byte rfl (.tmp 214) (.tmp 215) rfl B w0 g l v1 _ 46 _ rfl hO1 rfl rfl (by decide) ?_; intro v2 w2 hO2))
  have HO2 := Lib.hid hO2
  have hc : w2.cell? ⟨g, 0, none⟩ = some (.int .u8 53) := by have := hO2.2.2.2.1 0 (by omega); rw [hl] at this; exact this
  clear hO1 hO2 hl
  refine wp_loop_rounds 1 ?_
  rw [rounds_succ]
  go_wp2_with fail
  refine wp_loop_rounds 2 ?_
  rw [rounds_succ]
  go_wp2_with (at_builtin; refine wpList_out_byte rfl (.tmp 250) (.tmp 257) rfl B w0 g l v2 _ 53 _ rfl HO2.out rfl rfl (by decide) ?_; intro v3 w3 hO3)
  have HO3 := Lib.hid hO3
  clear hO3
  rw [rounds_succ]
  go_wp2_with fail
  refine wp_loop_rounds 1 ?_
  rw [rounds_succ]
  go_wp2_with fail
  go_ret
  exact ⟨v3, rfl, HO3.out⟩

end Go.Proofs.YthmdfliimlimhaaGreatDoor
