/- Contracts of functions of this program, walked. No condition but the ones each theorem states. -/
import Derived.Test.YtcmaildfhdddjaaDoorW3
namespace Go.Proofs.YtcmaildfhdddjaaDoor
open Go.RowKit

set_option maxRecDepth 100000 in
set_option maxHeartbeats 400000 in
theorem putText_calls (s : ByteArray) (hs : s.size ≤ 32) (w : World) :
    Calls Tryd.prog 19 #[.slice none 0 0, .string s, .int .i64 32] w fun e w' => ∃ v', e = .returned (.tuple #[v', .int .i64 0]) ∧ w'.ownsRow w.heap.size 5 1 v' (2 + s.size) (bc (putU s.size 2 ++ sb s)) ∧ Below w.heap.size w w' := by
  have hd : decide ((32 : Int) < (s.size : Int)) = false := by simp; omega
  go_enter Tryd.func19, Tryd.ntmps19
  go_wp2_with (first
    | (go_at_call 20; refine (putU2 none 0 0 [] s.size (by omega) _ (nilReads _ _) (by omega)).mono ?_; rintro e w1 ⟨v1, rfl, hown1, hb1⟩; simp only [Nat.zero_add, List.nil_append] at hown1)
    | (at_builtin; refine wpList_append_text rfl (.tmp 17) (.tmp 18) rfl w.heap.size v1 2 _ rfl hown1 s rfl (by omega) hb1.size ?_; intro v2 w2 hown2 hg2))
  go_ret2
  exact ⟨v2, rfl, hown2, below_app hb1 hb1.size hown1 (Nat.le_refl _) hg2⟩

set_option maxRecDepth 100000 in
set_option maxHeartbeats 400000 in
theorem putText'_calls (s : ByteArray) (hs : s.size ≤ 32) (w : World) :
    Calls Tryd.prog 23 #[.slice none 0 0, .string s, .int .i64 32] w fun e w' => ∃ v', e = .returned (.tuple #[v', .int .i64 0]) ∧ w'.ownsRow w.heap.size 5 1 v' (2 + s.size) (bc (putU s.size 2 ++ sb s)) ∧ Below w.heap.size w w' := by
  have hd : decide ((32 : Int) < (s.size : Int)) = false := by simp; omega
  have hd2 : decide ((65535 : Int) < (s.size : Int)) = false := by simp; omega
  go_enter Tryd.func23, Tryd.ntmps23
  go_wp2_with (first
    | (go_at_call 24; refine (putU2' (.slice none 0 0) w.heap.size 0 [] s.size (by omega) _ (World.ownsRow_nil _ _ _ _) (Nat.le_refl _) (by omega)).mono ?_; rintro e w1 ⟨v1, rfl, hown1, ho1⟩; simp only [Nat.zero_add, List.nil_append] at hown1)
    | (at_builtin; refine wpList_append_text rfl (.tmp 21) (.tmp 22) rfl w.heap.size v1 2 _ rfl hown1 s rfl (by omega) ho1.1.size ?_; intro v2 w2 hown2 hg2))
  go_ret2
  have hb1 : Below w.heap.size w w1 := ho1.below (Below.refl _ _) (Nat.le_refl _) (World.ownsRow_nil w w.heap.size 5 1) (Nat.le_refl _)
  exact ⟨v2, rfl, hown2, below_app hb1 hb1.size hown1 (Nat.le_refl _) hg2⟩

theorem readU2_no (A : Option Addr) (n c : Nat) (hn : n < 2) (w : World) :
    Calls Tryd.prog 52 #[.slice A n c, .int .i64 2] w fun e w' => e = .returned (.tuple #[.int .u64 0, .bool false]) ∧ w = w' := readU_no A n c 2 (by omega) hn w
theorem readU2 (A : Option Addr) (n c : Nat) (xs : List UInt8) (hn : 2 ≤ n) (hc : n ≤ c) (w : World) (hr : Reads w w.heap.size 1 A n (bc xs)) :
    Calls Tryd.prog 52 #[.slice A n c, .int .i64 2] w fun e w' => e = .returned (.tuple #[.int .u64 (readU (xs.take 2)), .bool true]) ∧ w = w' := readU_yes A n c xs 2 (by omega) hn hc w hr
theorem readU4 (A : Option Addr) (n c : Nat) (xs : List UInt8) (hn : 4 ≤ n) (hc : n ≤ c) (w : World) (hr : Reads w w.heap.size 1 A n (bc xs)) :
    Calls Tryd.prog 52 #[.slice A n c, .int .i64 4] w fun e w' => e = .returned (.tuple #[.int .u64 (readU (xs.take 4)), .bool true]) ∧ w = w' := readU_yes A n c xs 4 (by omega) hn hc w hr
theorem readU2'_no (A : Option Addr) (n c : Nat) (hn : n < 2) (w : World) :
    Calls Tryd.prog 40 #[.slice A n c, .int .i64 2] w fun e w' => e = .returned (.tuple #[.int .u64 0, .bool false]) ∧ w = w' := readU'_no A n c 2 (by omega) hn w
theorem readU2' (A : Option Addr) (n c : Nat) (xs : List UInt8) (hn : 2 ≤ n) (hc : n ≤ c) (w : World) (hr : Reads w w.heap.size 1 A n (bc xs)) :
    Calls Tryd.prog 40 #[.slice A n c, .int .i64 2] w fun e w' => e = .returned (.tuple #[.int .u64 (readU (xs.take 2)), .bool true]) ∧ w = w' := readU'_yes A n c xs 2 (by omega) hn hc w hr
theorem readU4' (A : Option Addr) (n c : Nat) (xs : List UInt8) (hn : 4 ≤ n) (hc : n ≤ c) (w : World) (hr : Reads w w.heap.size 1 A n (bc xs)) :
    Calls Tryd.prog 40 #[.slice A n c, .int .i64 4] w fun e w' => e = .returned (.tuple #[.int .u64 (readU (xs.take 4)), .bool true]) ∧ w = w' := readU'_yes A n c xs 4 (by omega) hn hc w hr

/-- a text of at most 32 bytes that stands at the head -/
def textOk (xs : List UInt8) : Bool := decide (2 ≤ xs.length) && decide (readU (xs.take 2) ≤ 32) && decide (readU (xs.take 2) + 2 ≤ xs.length)
def textOf (xs : List UInt8) : List UInt8 := (xs.drop 2).take (readU (xs.take 2))

theorem readU_take_lt (xs : List UInt8) (k : Nat) (hk : k ≤ 4) : readU (xs.take k) < 4294967296 := by
  have h := readU_lt (xs.take k)
  have h1 : (xs.take k).length ≤ 4 := by simp; omega
  have h2 : 256 ^ (xs.take k).length ≤ 256 ^ 4 := Nat.pow_le_pow_right (by omega) h1
  omega

set_option maxRecDepth 100000 in
set_option maxHeartbeats 400000 in
theorem readText_no (A : Option Addr) (n c : Nat) (xs : List UInt8) (hc : n ≤ c) (w : World) (hr : Reads w w.heap.size 1 A n (bc xs)) (hx : n ≤ 1000000) (h : textOk xs = false) :
    Calls Tryd.prog 51 #[.slice A n c, .int .i64 32] w fun e w' => e = .returned (.tuple #[.string ByteArray.empty, .int .i64 0, .int .i64 20]) ∧ w = w' := by
  have hl : xs.length = n := by have := hr.1; rw [bc_len] at this; omega
  rcases Nat.lt_or_ge n 2 with h2 | h2
  · go_enter Tryd.func51, Tryd.ntmps51
    go_wp2_with (go_at_call 52; refine (readU2_no A n c h2 _).mono ?_; rintro e w1 ⟨rfl, rfl⟩)
    go_ret3
    exact ⟨rfl, rfl⟩
  · have hk := readU_take_lt xs 2 (by omega)
    have hcall := Lib.hid (readU2 A n c xs h2 hc w hr)
    have hsub : (0 : Int) ≤ (n : Int) - 2 := by omega
    have hbad : 32 < readU (xs.take 2) ∨ (readU (xs.take 2) ≤ 32 ∧ n < readU (xs.take 2) + 2) := by
      unfold textOk at h
      simp only [Bool.and_eq_false_iff, decide_eq_false_iff_not] at h
      omega
    clear h
    generalize readU (xs.take 2) = k at *
    rcases hbad with hb | ⟨hb, hb2⟩
    · go_enter Tryd.func51, Tryd.ntmps51
      go_wp2_with (go_at_call 52; refine hcall.out.mono ?_; rintro e w1 ⟨rfl, rfl⟩)
      go_ret3
      exact ⟨rfl, rfl⟩
    · have hd : decide ((32 : Int) < (k : Int)) = false := by simp; omega
      go_enter Tryd.func51, Tryd.ntmps51
      go_wp2_with (go_at_call 52; refine hcall.out.mono ?_; rintro e w1 ⟨rfl, rfl⟩)
      go_ret3
      exact ⟨rfl, rfl⟩

set_option maxRecDepth 100000 in
set_option maxHeartbeats 400000 in
theorem readText_yes (A : Option Addr) (n c : Nat) (xs : List UInt8) (hc : n ≤ c) (w : World) (hr : Reads w w.heap.size 1 A n (bc xs)) (hx : n ≤ 1000000) (h : textOk xs = true) :
    Calls Tryd.prog 51 #[.slice A n c, .int .i64 32] w fun e w' => e = .returned (.tuple #[.string ⟨(textOf xs).toArray⟩, .int .i64 (2 + ((textOf xs).length : Int)), .int .i64 0]) ∧ w = w' := by
  have hl : xs.length = n := by have := hr.1; rw [bc_len] at this; omega
  have hok : 2 ≤ n ∧ readU (xs.take 2) ≤ 32 ∧ readU (xs.take 2) + 2 ≤ n := by
    unfold textOk at h
    simp only [Bool.and_eq_true, decide_eq_true_eq] at h
    omega
  obtain ⟨h2, h3, h4⟩ := hok
  have hcall := Lib.hid (readU2 A n c xs h2 hc w hr)
  have hlen : (textOf xs).length = readU (xs.take 2) := by unfold textOf; simp; omega
  have hcut := (hr.cut (k := 2) (cap := c) h2 hc).take_ (k := readU (xs.take 2)) (by omega)
  have hbb : ((bc xs).drop (2 * 1)).take (readU (xs.take 2) * 1) = bc (textOf xs) := by simp [Lib.byteCells, textOf, List.map_drop, List.map_take]
  rw [hbb] at hcut
  rw [hlen]
  obtain ⟨b, off, rfl, hbB, hcell⟩ := hr.lit (by omega)
  clear hcell h
  by_cases hc2 : c = 2
  · have hk0 : readU (xs.take 2) = 0 := by omega
    have ht : textOf xs = [] := List.eq_nil_of_length_eq_zero (by omega)
    rw [ht]
    rw [hk0] at hcall ⊢
    subst hc2
    have HT := Lib.hid (run_text (w := w) (B := 0) (A := some ⟨b, off, none⟩) (n := 0) (xs := []) ⟨rfl, fun h => absurd h (by omega)⟩)
    clear hcut hbb hlen hk0 ht h3 h4
    have hT := HT.out 0
    go_enter Tryd.func51, Tryd.ntmps51
    go_wp2_with (go_at_call 52; refine hcall.out.mono ?_; rintro e w1 ⟨rfl, rfl⟩)
    go_ret3
    exact ⟨rfl, rfl⟩
  · rw [if_neg hc2] at hcut
    have HT := Lib.hid (run_text (A := some ⟨b, off + 2, none⟩) hcut)
    clear hcut hbb hlen
    generalize textOf xs = t at *
    generalize readU (xs.take 2) = k at *
    have hd : decide ((32 : Int) < (k : Int)) = false := by simp; omega
    have hd2 : decide ((n : Int) - 2 < (k : Int)) = false := by simp; omega
    have hT := HT.out (c - 2)
    go_enter Tryd.func51, Tryd.ntmps51
    go_wp2_with (go_at_call 52; refine hcall.out.mono ?_; rintro e w1 ⟨rfl, rfl⟩)
    go_ret3
    exact ⟨rfl, rfl⟩

set_option maxRecDepth 100000 in
set_option maxHeartbeats 400000 in
theorem readText'_no (A : Option Addr) (n c : Nat) (xs : List UInt8) (hc : n ≤ c) (w : World) (hr : Reads w w.heap.size 1 A n (bc xs)) (hx : n ≤ 1000000) (h : textOk xs = false) :
    Calls Tryd.prog 39 #[.slice A n c, .int .i64 32] w fun e w' => e = .returned (.tuple #[.string ByteArray.empty, .int .i64 0, .int .i64 20]) ∧ w = w' := by
  have hl : xs.length = n := by have := hr.1; rw [bc_len] at this; omega
  rcases Nat.lt_or_ge n 2 with h2 | h2
  · go_enter Tryd.func39, Tryd.ntmps39
    go_wp2_with (go_at_call 40; refine (readU2'_no A n c h2 _).mono ?_; rintro e w1 ⟨rfl, rfl⟩)
    go_ret3
    exact ⟨rfl, rfl⟩
  · have hk := readU_take_lt xs 2 (by omega)
    have hcall := Lib.hid (readU2' A n c xs h2 hc w hr)
    have hsub : (0 : Int) ≤ (n : Int) - 2 := by omega
    have hbad : 32 < readU (xs.take 2) ∨ (readU (xs.take 2) ≤ 32 ∧ n < readU (xs.take 2) + 2) := by
      unfold textOk at h
      simp only [Bool.and_eq_false_iff, decide_eq_false_iff_not] at h
      omega
    clear h
    generalize readU (xs.take 2) = k at *
    rcases hbad with hb | ⟨hb, hb2⟩
    · go_enter Tryd.func39, Tryd.ntmps39
      go_wp2_with (go_at_call 40; refine hcall.out.mono ?_; rintro e w1 ⟨rfl, rfl⟩)
      go_ret3
      exact ⟨rfl, rfl⟩
    · have hd : decide ((32 : Int) < (k : Int)) = false := by simp; omega
      go_enter Tryd.func39, Tryd.ntmps39
      go_wp2_with (go_at_call 40; refine hcall.out.mono ?_; rintro e w1 ⟨rfl, rfl⟩)
      go_ret3
      exact ⟨rfl, rfl⟩

set_option maxRecDepth 100000 in
set_option maxHeartbeats 400000 in
theorem readText'_yes (A : Option Addr) (n c : Nat) (xs : List UInt8) (hc : n ≤ c) (w : World) (hr : Reads w w.heap.size 1 A n (bc xs)) (hx : n ≤ 1000000) (h : textOk xs = true) :
    Calls Tryd.prog 39 #[.slice A n c, .int .i64 32] w fun e w' => e = .returned (.tuple #[.string ⟨(textOf xs).toArray⟩, .int .i64 (2 + ((textOf xs).length : Int)), .int .i64 0]) ∧ w = w' := by
  have hl : xs.length = n := by have := hr.1; rw [bc_len] at this; omega
  have hok : 2 ≤ n ∧ readU (xs.take 2) ≤ 32 ∧ readU (xs.take 2) + 2 ≤ n := by
    unfold textOk at h
    simp only [Bool.and_eq_true, decide_eq_true_eq] at h
    omega
  obtain ⟨h2, h3, h4⟩ := hok
  have hcall := Lib.hid (readU2' A n c xs h2 hc w hr)
  have hlen : (textOf xs).length = readU (xs.take 2) := by unfold textOf; simp; omega
  have hcut := (hr.cut (k := 2) (cap := c) h2 hc).take_ (k := readU (xs.take 2)) (by omega)
  have hbb : ((bc xs).drop (2 * 1)).take (readU (xs.take 2) * 1) = bc (textOf xs) := by simp [Lib.byteCells, textOf, List.map_drop, List.map_take]
  rw [hbb] at hcut
  rw [hlen]
  obtain ⟨b, off, rfl, hbB, hcell⟩ := hr.lit (by omega)
  clear hcell h
  by_cases hc2 : c = 2
  · have hk0 : readU (xs.take 2) = 0 := by omega
    have ht : textOf xs = [] := List.eq_nil_of_length_eq_zero (by omega)
    rw [ht]
    rw [hk0] at hcall ⊢
    subst hc2
    have HT := Lib.hid (run_text (w := w) (B := 0) (A := some ⟨b, off, none⟩) (n := 0) (xs := []) ⟨rfl, fun h => absurd h (by omega)⟩)
    clear hcut hbb hlen hk0 ht h3 h4
    have hT := HT.out 0
    go_enter Tryd.func39, Tryd.ntmps39
    go_wp2_with (go_at_call 40; refine hcall.out.mono ?_; rintro e w1 ⟨rfl, rfl⟩)
    go_ret3
    exact ⟨rfl, rfl⟩
  · rw [if_neg hc2] at hcut
    have HT := Lib.hid (run_text (A := some ⟨b, off + 2, none⟩) hcut)
    clear hcut hbb hlen
    generalize textOf xs = t at *
    generalize readU (xs.take 2) = k at *
    have hd : decide ((32 : Int) < (k : Int)) = false := by simp; omega
    have hd2 : decide ((n : Int) - 2 < (k : Int)) = false := by simp; omega
    have hT := HT.out (c - 2)
    go_enter Tryd.func39, Tryd.ntmps39
    go_wp2_with (go_at_call 40; refine hcall.out.mono ?_; rintro e w1 ⟨rfl, rfl⟩)
    go_ret3
    exact ⟨rfl, rfl⟩

end Go.Proofs.YtcmaildfhdddjaaDoor
