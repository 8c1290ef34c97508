/- Contracts of functions of this program, walked. No condition but the ones each theorem states. -/
import Derived.Test.YtcmaildfhdddjaaDoorW16
namespace Go.Proofs.YtcmaildfhdddjaaDoor
open Go.RowKit

attribute [local go_sem ↓] Go.wp_at_zero Go.wp_at_succ

/-- a hex digit's number -/
def hexV (c : Nat) : Option Nat := if 48 ≤ c ∧ c ≤ 57 then some (c - 48) else if 97 ≤ c ||| 32 ∧ c ||| 32 ≤ 102 then some ((c ||| 32) - 87) else none
theorem hexV_lt {c x : Nat} (h : hexV c = some x) : x < 16 := by
  unfold hexV at h
  split at h
  · cases h; omega
  · split at h
    · cases h; omega
    · cases h
theorem low_or (x : Nat) (h : x < 256) : bits BinOp.or .u8 (x : Int) 32 = ((x ||| 32 : Nat) : Int) := by
  have : ∀ y : Fin 256, bits BinOp.or .u8 (y.val : Int) 32 = ((y.val ||| 32 : Nat) : Int) := by decide +kernel
  exact this ⟨x, h⟩
theorem low_lt (x : Nat) (h : x < 256) : x ||| 32 < 256 := Nat.or_lt_two_pow (n := 8) h (by omega)
theorem hexV_hexD (i : Nat) (h : i < 16) : hexV (hexD i).toNat = some i := by
  have : ∀ y : Fin 16, hexV (hexD y.val).toNat = some y.val := by decide +kernel
  exact this ⟨i, h⟩

/-- what the digits so far come to -/
def hexN (a b : UInt8) (j : Nat) (m : Nat) : Prop := (j = 0 ∧ m = 0) ∨ (j = 1 ∧ hexV a.toNat = some m) ∨ (j = 2 ∧ ∃ x y, hexV a.toNat = some x ∧ hexV b.toNat = some y ∧ m = x * 16 + y)
def PuIn (a b : UInt8) (w : World) (e : Ending) (w' : World) : Prop :=
  ((∃ m : Nat, e = .returned (.tuple #[.int .u64 m, .nilIface]) ∧ hexN a b 2 m) ∨ (e = .returned (.tuple #[.int .u64 0, .iface 107 (.int .i64 2)]) ∧ (hexV a.toNat = none ∨ hexV b.toNat = none))) ∧ Below w.heap.size w w'

set_option maxRecDepth 100000 in
set_option maxHeartbeats 3200000 in
theorem parseIn_calls (a b : UInt8) (w : World) : Calls Tryd.prog 55 #[.string ⟨#[a, b]⟩, .int .i64 16, .int .i64 8] w (PuIn a b w) := by
  have hcv := Lib.run_convert_string_bytes (P := Tryd.prog) w 9 22 5 ⟨#[a, b]⟩ (u := .string) Tryd.underlying9 Tryd.underlying22 Tryd.underlying5
  have hB0 : (Lib.bytesWorld w 5 ⟨#[a, b]⟩).cell? ⟨w.heap.size, 0, none⟩ = some (.int .u8 a.toNat) := Lib.bytesWorld_cell w 5 ⟨#[a, b]⟩ 0 (show 0 < 2 by decide)
  have hB1 : (Lib.bytesWorld w 5 ⟨#[a, b]⟩).cell? ⟨w.heap.size, 1, none⟩ = some (.int .u8 b.toNat) := Lib.bytesWorld_cell w 5 ⟨#[a, b]⟩ 1 (show 1 < 2 by decide)
  have hbw := Lib.bytesWorld_below w 5 ⟨#[a, b]⟩
  generalize Lib.bytesWorld w 5 ⟨#[a, b]⟩ = W1 at *
  go_enter Tryd.func55, Tryd.ntmps55
  go_wp2_with fail
  go_loop [12, 13, 101] (fun vu vn vi => ∃ (k m : Nat) (mi : Int), vu = .bool false ∧ vn = .int .u64 mi ∧ vi = .int .i64 k ∧ k ≤ 2 ∧ Hid (mi = (m : Int) ∧ hexN a b k m)) (fun _ _ vi => 2 - (intOf vi).toNat)
  case atStart => exact ⟨0, 0, 0, rfl, rfl, rfl, by omega, rfl, Or.inl ⟨rfl, rfl⟩⟩
  case round =>
    obtain ⟨k, m, mi, rfl, rfl, rfl, hk, hh⟩ := hrel
    by_cases hk2 : k < 2
    · obtain ⟨c, hc, hm16, hno, hyes⟩ : ∃ c : UInt8, W1.cell? ⟨w.heap.size, k, none⟩ = some (.int .u8 c.toNat) ∧ m < 16 ∧ (hexV c.toNat = none → hexV a.toNat = none ∨ hexV b.toNat = none) ∧ (∀ d, hexV c.toNat = some d → hexN a b (k + 1) (m * 16 + d)) := by
        obtain ⟨_, hn⟩ := hh.out
        rcases hn with ⟨rfl, rfl⟩ | ⟨rfl, hx⟩ | ⟨rfl, _⟩
        · exact ⟨a, hB0, by omega, fun h => Or.inl h, fun d hd => Or.inr (Or.inl ⟨rfl, by simpa using hd⟩)⟩
        · exact ⟨b, hB1, hexV_lt hx, fun h => Or.inr h, fun d hd => Or.inr (Or.inr ⟨rfl, m, d, hx, hd, rfl⟩)⟩
        · omega
      obtain ⟨hmi, _⟩ := hh.out
      clear hh
      have m0 : 0 ≤ mi := by omega
      have m1 : mi < 16 := by omega
      have hc256 : c.toNat < 256 := c.toNat_lt
      have hlow := low_or c.toNat hc256
      have hll := low_lt c.toNat hc256
      clear hB0 hB1
      have HNO := Lib.hid hno
      have HYES := Lib.hid hyes
      clear hno hyes
      have hki : (k : Int) < 2 := by omega
      generalize c.toNat = x at *
      by_cases hdig : 48 ≤ x ∧ x ≤ 57
      · obtain ⟨hd0, hd1⟩ := hdig
        have hV : hexV x = some (x - 48) := by unfold hexV; rw [if_pos ⟨hd0, hd1⟩]
        have HN : Hid (mi * 16 + ((x : Int) - 48) = ((m * 16 + (x - 48) : Nat) : Int) ∧ hexN a b (k + 1) (m * 16 + (x - 48))) := Lib.hid ⟨by omega, HYES.out _ hV⟩
        have i0 : (48 : Int) ≤ (x : Int) := by omega
        have i1 : (x : Int) ≤ 57 := by omega
        have i2 : ¬ (x : Int) = 95 := by omega
        have i3 : (x : Int) - 48 < 16 := by omega
        have i4 : mi < 1152921504606846976 := by omega
        have i5 : ¬ mi * 16 + ((x : Int) - 48) < mi * 16 := by omega
        have i6 : mi * 16 + ((x : Int) - 48) ≤ 255 := by omega
        clear hmi hV hlow hll
        go_wp2_with fail
        exact ⟨⟨k + 1, m * 16 + (x - 48), mi * 16 + ((x : Int) - 48), rfl, rfl, by go_num, by omega, HN⟩, by simp [intOf]; omega⟩
      · have hgen : ∃ l : Nat, x ||| 32 = l := ⟨_, rfl⟩
        obtain ⟨l, hl⟩ := hgen
        have hV : hexV x = if 97 ≤ l ∧ l ≤ 102 then some (l - 87) else none := by unfold hexV; rw [if_neg hdig, hl]
        rw [hl] at hlow hll
        have hlowc := Lib.hid (fun W => Tryd.internal_strconv_lower (x : Int) W)
        rw [hlow] at hlowc
        by_cases hlet : 97 ≤ l ∧ l ≤ 102
        · obtain ⟨hd0, hd1⟩ := hlet
          rw [if_pos ⟨hd0, hd1⟩] at hV
          have HN : Hid (mi * 16 + ((l : Int) - 97 + 10) = ((m * 16 + (l - 87) : Nat) : Int) ∧ hexN a b (k + 1) (m * 16 + (l - 87))) := Lib.hid ⟨by omega, HYES.out _ hV⟩
          have i3 : (97 : Int) ≤ (l : Int) := by omega
          have i4 : (l : Int) ≤ 122 := by omega
          have i5 : ¬ (x : Int) = 95 := by
            intro h
            have h' : x = 95 := by omega
            rw [h'] at hl
            simp at hl
            omega
          have i6 : (x : Int) < 48 ∨ 57 < (x : Int) := by omega
          clear hmi hV hl
          go_wp2_with (go_at_call 70; refine (hlowc.out _).mono ?_; rintro e w2 ⟨rfl, rfl⟩)
          all_goals exact ⟨⟨k + 1, m * 16 + (l - 87), mi * 16 + ((l : Int) - 97 + 10), rfl, rfl, by go_num, by omega, HN⟩, by simp [intOf]; omega⟩
        · rw [if_neg hlet] at hV
          have HNO' := Lib.hid (HNO.out hV)
          by_cases h95 : x = 95
          · subst h95
            have hl127 : l = 127 := by rw [← hl]; rfl
            subst hl127
            clear hV hl hlow hmi
            go_wp2_with (go_at_call 70; refine (hlowc.out _).mono ?_; rintro e w2 ⟨rfl, rfl⟩)
            all_goals go_ret2
            all_goals exact ⟨Or.inr ⟨rfl, HNO'.out⟩, hbw⟩
          · have i5 : ¬ (x : Int) = 95 := by omega
            have i6 : (x : Int) < 48 ∨ 57 < (x : Int) := by omega
            have i7 : (l : Int) < 97 ∨ 102 < (l : Int) := by omega
            clear hV hl hmi
            go_wp2_with (go_at_call 70; refine (hlowc.out _).mono ?_; rintro e w2 ⟨rfl, rfl⟩)
            all_goals go_ret2
            all_goals exact ⟨Or.inr ⟨rfl, HNO'.out⟩, hbw⟩
    · have hk2' : k = 2 := by omega
      subst hk2'
      obtain ⟨hmi, hn⟩ := hh.out
      have HN := Lib.hid hn
      clear hh hn
      subst hmi
      go_wp2_with fail
      go_ret2
      exact ⟨Or.inl ⟨m, rfl, HN.out⟩, hbw⟩

end Go.Proofs.YtcmaildfhdddjaaDoor
