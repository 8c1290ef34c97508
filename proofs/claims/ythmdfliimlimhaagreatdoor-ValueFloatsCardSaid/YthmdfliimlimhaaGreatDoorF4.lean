/- Shortest decimals of a Float: the digits: contract. -/
import Derived.Test.YthmdfliimlimhaaGreatDoorF3
import Derived.Lib.ItoaMem
import Derived.Lib.ItoaLen
namespace Go.Proofs.YthmdfliimlimhaaGreatDoor
open Go.RowKit Go.Sort

attribute [local go_sem ↓] Go.wp_at_zero Go.wp_at_succ

abbrev encB : UInt8 → Value := fun b => Value.int .u8 (b.toNat : Int)

/-- so many digits are left where the noughts at the end are gone -/
def trimN (l : List UInt8) : Nat → Nat
  | 0 => 0
  | n + 1 => if l.getD n 0 = 48 then trimN l n else n + 1

/-- the first cells of block g are these bytes -/
def DigAt (w : World) (g : Nat) (l : List UInt8) : Prop := ∀ j, j < l.length → w.cell? ⟨g, j, none⟩ = some (.int .u8 ((l.getD j 0).toNat : Int))
theorem DigAt.drewN {w : World} {g : Nat} {l : List UInt8} (h : DigAt w g l) (k : Nat) : DigAt (w.drewN k) g l := h

theorem putRow_below {w : World} {g : Nat} {dk : Array UInt8} (k : Nat) : Below g w ((putRow encB w g 0 dk).drewN k) := by
  refine ⟨rfl, rfl, rfl, ?_, fun b hb => ?_⟩
  · simp [putRow, mapBlock, World.drewN]
  · show (putRow encB w g 0 dk).heap[b]? = _
    simp [putRow, mapBlock, Array.getElem?_modify]
    omega

/-- the type of a block -/
def OfType (w : World) (g : Nat) (t : TypeId) : Prop := ∃ cs fr, w.heap[g]? = some (.cells cs t fr)

theorem putRow_type {w : World} {g : Nat} {dk : Array UInt8} (k : Nat) {t : TypeId} (h : OfType w g t) : OfType ((putRow encB w g 0 dk).drewN k) g t := by
  obtain ⟨cs, fr, h⟩ := h
  refine ⟨putCells encB 0 dk cs, fr, ?_⟩
  show (putRow encB w g 0 dk).heap[g]? = _
  simp [putRow, mapBlock, Array.getElem?_modify, h, onCells]

theorem trim_step (l : List UInt8) (n : Nat) (h : l.getD n 0 = 48) : trimN l (n + 1) = trimN l n := by rw [trimN, if_pos h]
theorem trim_stop (l : List UInt8) (n : Nat) (h : l.getD n 0 ≠ 48) : trimN l (n + 1) = n + 1 := by rw [trimN, if_neg h]

set_option maxRecDepth 100000 in
set_option maxHeartbeats 3200000 in
theorem setDigits_calls (g d : Nat) (p : Int) (w : World) (hd : 1 ≤ d) (hd2 : d < 18446744073709551616) (hp : -1000 ≤ p) (hp2 : p ≤ 1000) (hH : Holds encB w g 0 (Array.replicate (Lib.nDigits d) 0)) {t : TypeId} (hty : OfType w g t) :
    Calls Tryz.prog 99 #[.slice (some ⟨g, 0, none⟩) 32 32, .int .u64 d, .int .i64 p, .int .i64 (Lib.nDigits d)] w fun e w' =>
      e = .returned (.tuple #[.int .i64 (Lib.nDigits d + p), .int .i64 (trimN (Lib.decDigits d) (Lib.nDigits d) : Nat)]) ∧ DigAt w' g (Lib.decDigits d) ∧ Below g w w' ∧ OfType w' g t := by
  have hn20 := Lib.nDigits_le20 d hd2
  have hn1 := Lib.nDigits_pos d
  have hF := Tryz.internal_strconv_formatBase10 g 0 32 d (Array.replicate (Lib.nDigits d) 0) w hH (by rw [Array.size_replicate]; exact Lib.lt_pow_nDigits d) hd2 (by rw [Array.size_replicate]; omega)
  rw [Array.size_replicate] at hF
  have HF := Lib.hid hF
  have HH := Lib.hid hH
  have HTY := Lib.hid hty
  clear hty
  clear hF hH
  have hlen := Lib.decDigits_length d
  generalize hn : Lib.nDigits d = n at *
  generalize hl : Lib.decDigits d = l at *
  have HN := Lib.hid hn
  have HLEN := Lib.hid hlen
  have HLL := Lib.hid hl
  clear hn hlen hl
  go_enter Tryz.func99, Tryz.ntmps99
  go_wp2_with fail
  refine HF.out.mono ?_
  rintro e w1 ⟨rfl, k, v', dk, hw1, hI⟩
  have hD : DigAt w1 g l := by
    rw [← HLL.out]
    intro j hj
    have hlen' : (Lib.decDigits d).length = n := by rw [HLL.out]; exact HLEN.out
    rw [hw1, World.cell?_drewN]
    have h1 := cell?_putRow encB w g 0 _ dk HH.out (by rw [hI.size, Array.size_replicate]) j (by rw [hI.size]; rw [hlen'] at hj; exact hj)
    rw [← HN.out] at hI
    have h2 := Lib.row_is_numeral hI j hj
    have h3 : (Lib.decDigits d).getD j 0 = (Lib.decDigits d)[j] := by simp [hj]
    rw [h3, h2]
    simpa using h1
  have hb : Below g w w1 := by rw [hw1]; exact putRow_below k
  have hty1 : OfType w1 g t := by rw [hw1]; exact putRow_type k HTY.out
  have HTY1 := Lib.hid hty1
  clear hty1
  have HDg := Lib.hid hD
  have HB := Lib.hid hb
  clear hw1 hI hD hb
  go_wp2_with fail
  go_loop [3] (fun t => ∃ j : Nat, j ≤ n ∧ t = .int .i64 j ∧ trimN l n = trimN l j) (fun t => (intOf t).toNat)
  case atStart => exact ⟨n, Nat.le_refl _, rfl, rfl⟩
  case round =>
    obtain ⟨j, hj, rfl, ht⟩ := hrel
    rcases Nat.eq_zero_or_pos j with h0 | h0
    · subst h0
      have HT := Lib.hid (show trimN l n = 0 by rw [ht]; rfl)
      clear ht
      rw [show ((0 : Nat) : Int) = 0 from rfl]
      go_wp2_with fail
      go_ret2
      exact ⟨by rw [HT.out]; rfl, HDg.out, HB.out, HTY1.out⟩
    · obtain ⟨i, rfl⟩ : ∃ i, j = i + 1 := ⟨j - 1, by omega⟩
      have hc : w1.cell? ⟨g, i, none⟩ = some (.int .u8 ((l.getD i 0).toNat : Int)) := HDg.out i (by rw [HLEN.out]; omega)
      by_cases h48 : l.getD i 0 = 48
      · have HT := Lib.hid (show trimN l n = trimN l i by rw [ht, trim_step l i h48])
        rw [h48] at hc
        have hc' : w1.cell? ⟨g, i, none⟩ = some (.int .u8 48) := hc
        clear ht hc h48 h0
        go_wp2_with fail
        go_round
        case rel => exact ⟨i, by omega, by go_num, HT.out⟩
        case measure => simp [intOf]
      · have HT := Lib.hid (show trimN l n = i + 1 by rw [ht, trim_stop l i h48])
        have hne : (((l.getD i 0).toNat : Int) == 48) = false := by
          rw [beq_eq_false_iff_ne]
          intro e
          apply h48
          apply UInt8.toNat_inj.1
          have : (l.getD i 0).toNat = 48 := by omega
          simpa using this
        generalize (l.getD i 0).toNat = c at *
        clear ht h48 h0
        go_wp2_with fail
        go_ret2
        exact ⟨by rw [HT.out]; rfl, HDg.out, HB.out, HTY1.out⟩

end Go.Proofs.YthmdfliimlimhaaGreatDoor
