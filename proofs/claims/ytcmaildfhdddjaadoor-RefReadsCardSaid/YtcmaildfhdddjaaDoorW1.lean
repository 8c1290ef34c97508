/- slices.Clone and putU of this program, walked: contracts. -/
import Derived.Test.YtcmaildfhdddjaaDoorBase
namespace Go.Proofs.YtcmaildfhdddjaaDoor
open Go.RowKit

set_option maxHeartbeats 400000 in
theorem clone_calls (A : Option Addr) (n c : Nat) (xs : List UInt8) (w : World) (hr : Reads w w.heap.size 1 A n (bc xs)) (hn : n ≤ 140737488355328) :
    Calls Tryd.prog 41 #[.slice A n c] w fun e w' => ∃ v', e = .returned v' ∧ w'.ownsRow w.heap.size 5 1 v' n (bc xs) ∧ Below w.heap.size w w' := by
  have q22 : ∀ (w : World) (a : Option Addr) (n c n' c' : Nat), (binOp .eql 22 (.slice a n c) (.slice none n' c')).run Tryd.prog w = .ok (.bool a.isNone) w := fun w a n c n' c' => Lib.run_eql_slice_nil w _ _ a n c n' c' Tryd.underlying22
  rcases A with _ | ad
  · have h0 : n = 0 := by
      rcases Nat.eq_zero_or_pos n with h | h
      · exact h
      · obtain ⟨_, h1, _⟩ := hr.2 h; cases h1
    subst h0
    have hx : xs = [] := by have := hr.1; simpa [bc_len] using this
    subst hx
    go_enter Tryd.func41, Tryd.ntmps41
    go_wp2
    go_ret
    exact ⟨_, rfl, World.ownsRow_nil _ _ _ _, Below.refl _ _⟩
  · go_enter Tryd.func41, Tryd.ntmps41
    go_wp2_with (at_builtin; refine wpList_append_bytes rfl (.tmp 5) (.tmp 6) rfl w.heap.size (.slice (some ⟨w.heap.size, 0, none⟩) 0 0) 0 [] rfl (World.ownsRow_made w #[] 0 (Nat.le_refl _) (Nat.zero_le _) (by simp)) w.heap.size (some ad) n c xs rfl (hr.alloc (Nat.le_refl _) _) (by omega) (by simp) ?_; intro v1 w1 hown hg hat; simp only [Nat.zero_add, List.nil_append] at hown)
    go_ret
    exact ⟨v1, rfl, hown, ((Below.refl _ w).alloc (Nat.le_refl _) _).grown hg (by simp) (by intro k hk; simp [Value.ownBlock] at hk; omega)⟩

/-- the low byte first seen from the top: k bytes of v, the highest first -/
def putU (v : Nat) (k : Nat) : List UInt8 := (List.range k).map fun j => UInt8.ofNat (v / 2 ^ (8 * (k - 1 - j)))

theorem putU_snoc (v k j : Nat) (h : j < k) : (putU v k).take (j + 1) = (putU v k).take j ++ [UInt8.ofNat (v / 2 ^ (8 * (k - 1 - j)))] := by
  rw [List.take_succ_eq_append_getElem (by simpa [putU] using h)]
  simp [putU]

set_option maxRecDepth 100000 in
set_option maxHeartbeats 400000 in
theorem putU_calls (A : Option Addr) (n c : Nat) (xs : List UInt8) (v : Nat) (hv : v < 18446744073709551616) (k : Nat) (hk : k ≤ 8) (w : World) (hr : Reads w w.heap.size 1 A n (bc xs)) (hn : n ≤ 1000000) :
    Calls Tryd.prog 20 #[.slice A n c, .int .u64 v, .int .i64 k] w fun e w' => ∃ v', e = .returned v' ∧ w'.ownsRow w.heap.size 5 1 v' (n + k) (bc (xs ++ putU v k)) ∧ Below w.heap.size w w' := by
  have hkk : (0 : Int) ≤ k := by omega
  go_enter Tryd.func20, Tryd.ntmps20
  go_wp2_with (go_at_call 41; refine (clone_calls A n c xs _ hr (by omega)).mono ?_; rintro e w1 ⟨v1, rfl, hown1, hb1⟩)
  go_loopw [7, 8] (fun o i wr => ∃ j : Nat, j ≤ k ∧ i = .int .i64 ((k : Int) - j - 1) ∧ wr.ownsRow w.heap.size 5 1 o (n + j) (bc (xs ++ (putU v k).take j)) ∧ Below w.heap.size w wr) (fun _ i _ => (intOf i + 1).toNat)
  case atStart => exact ⟨0, by omega, by simp, by simpa using hown1, hb1⟩
  case round =>
    obtain ⟨j, hj, rfl, hown, hb⟩ := hrel
    clear hown1 hb1
    by_cases hlt : j < k
    · have h1 : (0 : Int) ≤ (k : Int) - j - 1 := by omega
      have hby : Value.int .u8 ((v : Int) / 2 ^ (8 * (k - j - 1)) % 256) = .int .u8 (UInt8.ofNat (v / 2 ^ (8 * (k - 1 - j)))).toNat := by
        rw [show k - 1 - j = k - j - 1 from by omega]; simp [UInt8.toNat_ofNat]
      have HB := Lib.hid hby
      clear hby
      go_wp2_with (at_builtin; refine wpList_append_bytes rfl (.tmp 19) (.tmp 26) rfl w.heap.size _ (n + j) _ rfl (hown.alloc _) (wr.heap.size + 1) (some ⟨wr.heap.size, 0, none⟩) 1 1 [UInt8.ofNat (v / 2 ^ (8 * (k - 1 - j)))] rfl (Reads.one' wr _ _ 5 HB.out) (by omega) (by have := hb.size; simp; omega) ?_; intro v2 w2 hown2 hg2 hat2)
      go_roundw
      case rel =>
        refine ⟨j + 1, by omega, by go_num, ?_, below_app1 hb hb.size _ hown (Nat.le_refl _) hg2⟩
        rw [putU_snoc v k j hlt, ← List.append_assoc]
        exact hown2
      case measure => simp [intOf]; omega
    · have hjk : j = k := by omega
      subst hjk
      clear hlt hkk hj
      go_wp2
      go_ret
      refine ⟨_, rfl, ?_, hb⟩
      rw [List.take_of_length_le (by simp [putU])] at hown
      exact hown
end Go.Proofs.YtcmaildfhdddjaaDoor
