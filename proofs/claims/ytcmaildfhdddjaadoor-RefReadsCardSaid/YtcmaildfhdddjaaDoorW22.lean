/- Contracts of functions of this program, walked. No condition but the ones each theorem states. -/
import Derived.Test.YtcmaildfhdddjaaDoorW21
namespace Go.Proofs.YtcmaildfhdddjaaDoor
open Go.RowKit

attribute [local go_sem ↓] Go.wp_at_zero Go.wp_at_succ

theorem parse_calls (s : ByteArray) (hs : s.size ≤ 1000) (w : World) (hG : Glob w) : Calls Tryd.prog 13 #[.string s] w (ParsePost s w) := by
  by_cases hK : Lib.countB (cutS s) ⟨#[47]⟩ = 2
  · exact parse_yes s hs w hG hK
  · exact parse_no s hs w hG hK

/-- a right one's text is parsed to it -/
theorem parse_right (s : ByteArray) (hs : s.size ≤ 1000) (t : List UInt8) (v : Nat) (ns : List Int) (hT : isText s t v ns) (w : World) (hG : Glob w) :
    Calls Tryd.prog 13 #[.string s] w fun e w' => ∃ x : Value, e = .returned (.tuple #[.agg #[.string ⟨t.toArray⟩, .int .u32 v, x], .bool true]) ∧ w'.ownsRow w.heap.size 3 1 x ns.length (ic ns) ∧ Below w.heap.size w w' := by
  refine (parse_calls s hs w hG).mono ?_
  rintro e w' ⟨h, hb⟩
  rcases h with ⟨t1, v1, ns1, x, rfl, hown, _, _, _, _, huniq⟩ | ⟨_, hno⟩
  · obtain ⟨rfl, rfl, rfl⟩ := huniq t v ns hT
    exact ⟨x, rfl, hown, hb⟩
  · exact absurd hT (hno t v ns)

/-- what is put, read -/
theorem read_right (A : Option Addr) (n c : Nat) (s : ByteArray) (v : Nat) (ns : List Int) (hok : rightB s.size ns = true) (hv : v < 4294967296) (hc : n ≤ c) (w : World) (hr : Reads w w.heap.size 1 A n (bc (frameOf (refPay s v ns)))) (hx : n ≤ 1000000) :
    Calls Tryd.prog 12 #[.slice A n c] w fun e w' => ∃ x : Value, e = .returned (.tuple #[.agg #[.string s, .int .u32 v, x], .int .i64 0]) ∧ w'.ownsRow w.heap.size 3 1 x ns.length (ic ns) ∧ Below w.heap.size w w' := by
  obtain ⟨h1, h2, h3, h4⟩ := put_read s v ns hok hv
  refine (Read_calls A n c _ hc w hr hx).mono ?_
  intro e w' h
  rw [h1, h2, h3, h4] at h
  unfold ReadRes at h
  rw [if_pos rfl] at h
  have es : (⟨(sb s).toArray⟩ : ByteArray) = s := by apply ByteArray.ext; simp
  rw [es] at h
  exact h

theorem lit012 : rightB 1 [0, 1, 2] = true := by decide
theorem litText : textB [97] 1 [0, 1, 2] = [99, 104, 111, 105, 114, 58, 54, 49, 47, 49, 47, 48, 44, 49, 44, 50] := by
  have d0 : Lib.decDigits 0 = [48] := Lib.decDigits_one (by omega)
  have d1 : Lib.decDigits 1 = [49] := Lib.decDigits_one (by omega)
  have d2 : Lib.decDigits 2 = [50] := Lib.decDigits_one (by omega)
  have e : textB [97] 1 [0, 1, 2] = [99, 104, 111, 105, 114, 58] ++ [54, 49] ++ [47] ++ Lib.decDigits 1 ++ [47] ++ Lib.join [Lib.decDigits 0, Lib.decDigits 1, Lib.decDigits 2] [44] := rfl
  rw [e, d0, d1, d2]
  rfl
theorem lit_reads (w : World) : Reads (w.alloc (.cells #[.int .i64 0, .int .i64 1, .int .i64 2] 3)) (w.heap.size + 1) 1 (some ⟨w.heap.size, 0, none⟩) 3 (ic [0, 1, 2]) := by
  have h := World.ownsRow_lit (base := w.heap.size) (e := 3) (size := 1) w #[.int .i64 0, .int .i64 1, .int .i64 2] 3 (Nat.le_refl _) (by decide) rfl
  have := Reads.of_own h
  simpa [ic] using this

theorem known_put (W : World) (A : Option Addr) (hr : Reads W W.heap.size 1 A 3 (ic [0, 1, 2])) :
    Calls Tryd.prog 7 #[.slice none 0 0, .agg #[.string ⟨#[97]⟩, .int .u32 1, .slice A 3 3]] W fun e w' => ∃ A' c', e = .returned (.tuple #[.slice A' 19 c', .int .i64 0]) ∧ Reads w' w'.heap.size 1 A' 19 (bc (frameOf (refPay ⟨#[97]⟩ 1 [0, 1, 2]))) ∧ 19 ≤ c' ∧ Below W.heap.size W w' := by
  refine (put_yes none 0 0 [] ⟨#[97]⟩ 1 A 3 3 [0, 1, 2] W (nilReads _ _) (by omega) (by omega) (by omega) (by omega) (by decide) hr lit012).mono ?_
  rintro e w' ⟨v', rfl, hown, hb⟩
  obtain ⟨A', c', rfl, hc', hr'⟩ := own_slice hown
  exact ⟨A', c', rfl, hr', hc', hb⟩
theorem known_read (A : Option Addr) (c : Nat) (hc : 19 ≤ c) (w : World) (hr : Reads w w.heap.size 1 A 19 (bc (frameOf (refPay ⟨#[97]⟩ 1 [0, 1, 2])))) :
    Calls Tryd.prog 12 #[.slice A 19 c] w fun e w' => ∃ A' c', e = .returned (.tuple #[.agg #[.string ⟨#[97]⟩, .int .u32 1, .slice A' 3 c'], .int .i64 0]) ∧ Reads w' w'.heap.size 1 A' 3 (ic [0, 1, 2]) ∧ 3 ≤ c' ∧ Below w.heap.size w w' := by
  refine (read_right A 19 c ⟨#[97]⟩ 1 [0, 1, 2] lit012 (by omega) hc w hr (by omega)).mono ?_
  rintro e w' ⟨x, rfl, hown, hb⟩
  obtain ⟨A', c', rfl, hc', hr'⟩ := own_slice hown
  exact ⟨A', c', rfl, hr', hc', hb⟩
theorem known_parse (w : World) (hG : Glob w) :
    Calls Tryd.prog 13 #[.string ⟨#[99, 104, 111, 105, 114, 58, 54, 49, 47, 49, 47, 48, 44, 49, 44, 50]⟩] w fun e w' => ∃ A' c', e = .returned (.tuple #[.agg #[.string ⟨#[97]⟩, .int .u32 1, .slice A' 3 c'], .bool true]) ∧ Reads w' w'.heap.size 1 A' 3 (ic [0, 1, 2]) ∧ 3 ≤ c' ∧ Below w.heap.size w w' := by
  refine (parse_right ⟨#[99, 104, 111, 105, 114, 58, 54, 49, 47, 49, 47, 48, 44, 49, 44, 50]⟩ (by decide) [97] 1 [0, 1, 2] ⟨lit012, by omega, litText.symm⟩ w hG).mono ?_
  rintro e w' ⟨x, rfl, hown, hb⟩
  obtain ⟨A', c', rfl, hc', hr'⟩ := own_slice hown
  exact ⟨A', c', rfl, hr', hc', hb⟩
theorem known_zero (w : World) :
    Calls Tryd.prog 7 #[.slice none 0 0, .agg #[.string ⟨#[]⟩, .int .u32 0, .slice none 0 0]] w fun e w' => e = .returned (.tuple #[.slice none 0 0, .int .i64 22]) ∧ Below w.heap.size w w' :=
  put_no (.slice none 0 0) ⟨#[]⟩ 0 none 0 0 [] w (by omega) (by decide) (by omega) ⟨rfl, fun h => absurd h (by omega)⟩ (by decide)
theorem known_text (w : World) (A : Option Addr) (hr : Reads w w.heap.size 1 A 3 (ic [0, 1, 2])) (hG : Glob w) :
    Calls Tryd.prog 10 #[.agg #[.string ⟨#[97]⟩, .int .u32 1, .slice A 3 3]] w fun e w' => e = .returned (.string ⟨#[99, 104, 111, 105, 114, 58, 54, 49, 47, 49, 47, 48, 44, 49, 44, 50]⟩) ∧ Below w.heap.size w w' := by
  refine (text_yes ⟨#[97]⟩ 1 A 3 3 [0, 1, 2] w (by omega) (by omega) hr lit012 hG).mono ?_
  rintro e w' ⟨rfl, hb⟩
  refine ⟨?_, hb⟩
  have : sb ⟨#[97]⟩ = [97] := rfl
  rw [this, litText]
theorem known_same (w : World) (A B : Option Addr) (d : Nat) (hd : 3 ≤ d) (hr : Reads w w.heap.size 1 A 3 (ic [0, 1, 2])) (hq : Reads w w.heap.size 1 B 3 (ic [0, 1, 2])) :
    Calls Tryd.prog 14 #[.agg #[.string ⟨#[97]⟩, .int .u32 1, .slice A 3 3], .agg #[.string ⟨#[97]⟩, .int .u32 1, .slice B 3 d]] w (Says w true) := by
  refine (same_calls ⟨#[97]⟩ 1 A 3 3 [0, 1, 2] ⟨#[97]⟩ 1 B 3 d [0, 1, 2] w (by omega) (by omega) (by omega) hd hr hq).mono ?_
  intro e w' h
  have e1 : sameB ⟨#[97]⟩ 1 [0, 1, 2] ⟨#[97]⟩ 1 [0, 1, 2] = true := by simp [sameB]
  rwa [e1] at h
theorem known_newer (w : World) (A : Option Addr) :
    Calls Tryd.prog 15 #[.agg #[.string ⟨#[97]⟩, .int .u32 2, .slice none 0 0], .agg #[.string ⟨#[97]⟩, .int .u32 1, .slice A 3 3]] w (Says w true) := by
  refine (newer_calls ⟨#[97]⟩ 2 _ ⟨#[97]⟩ 1 _ w none A 0 0 3 3 rfl rfl).mono ?_
  intro e w' h
  have e1 : (decide ((⟨#[97]⟩ : ByteArray) = ⟨#[97]⟩) && decide (1 < 2)) = true := by simp
  rwa [e1] at h

set_option maxRecDepth 100000 in
set_option maxHeartbeats 3200000 in
theorem known_calls (w : World) (hG : Glob w) : Calls Tryd.prog 5 #[] w (Says w true) := by
  have hR0 := lit_reads w
  have hL1 := hR0.alloc (by simp) (.cells #[.string ⟨#[97]⟩, .int .u32 1, .slice (some ⟨w.heap.size, 0, none⟩) 3 3] 26)
  have hB1 := Blk.new (w.alloc (.cells #[.int .i64 0, .int .i64 1, .int .i64 2] 3)) 26 #[.string ⟨#[97]⟩, .int .u32 1, .slice (some ⟨w.heap.size, 0, none⟩) 3 3]
  have hb1 : Below w.heap.size w ((w.alloc (.cells #[.int .i64 0, .int .i64 1, .int .i64 2] 3)).alloc (.cells #[.string ⟨#[97]⟩, .int .u32 1, .slice (some ⟨w.heap.size, 0, none⟩) 3 3] 26)) := ((Below.refl _ w).alloc (Nat.le_refl _) _).alloc (by simp) _
  have hz1 : ((w.alloc (.cells #[.int .i64 0, .int .i64 1, .int .i64 2] 3)).alloc (.cells #[.string ⟨#[97]⟩, .int .u32 1, .slice (some ⟨w.heap.size, 0, none⟩) 3 3] 26)).heap.size = w.heap.size + 2 := by simp
  have hz0 : (w.alloc (.cells #[.int .i64 0, .int .i64 1, .int .i64 2] 3)).heap.size = w.heap.size + 1 := by simp
  rw [hz0] at hB1
  go_enter Tryd.func5, Tryd.ntmps5
  go_wp2_with fail
  refine (known_put _ _ (hL1.more (by rw [hz1]; omega))).mono ?_
  rintro e w2 ⟨A2, c2, rfl, hr2, hc2, hb2⟩
  rw [hz1] at hb2
  have hB2 := hB1.below hb2 (by omega)
  have hL2 : Reads w2 (w.heap.size + 1) 1 (some ⟨w.heap.size, 0, none⟩) 3 (ic [0, 1, 2]) := hL1.keep fun p hp => hb2.cell (by omega)
  have hs2 := hb2.size
  rw [hz1] at hs2
  have hb02 : Below w.heap.size w w2 := hb1.trans (hb2.mono (by omega))
  clear hb1 hb2 hB1 hL1 hz1 hz0 hR0
  go_wp2_with fail
  refine (known_read A2 c2 hc2 w2 hr2).mono ?_
  rintro e w3 ⟨A3, c3, rfl, hr3, hc3, hb3⟩
  have hB3 := hB2.below hb3 hB2.lt
  have hL3 : Reads w3 (w.heap.size + 1) 1 (some ⟨w.heap.size, 0, none⟩) 3 (ic [0, 1, 2]) := hL2.keep fun p hp => hb3.cell (by omega)
  have hs3 := hb3.size
  have hb03 : Below w.heap.size w w3 := hb02.trans (hb3.mono (by omega))
  clear hb02 hb3 hB2 hL2
  have hBs4 := Blk.new w3 26 #[.string ⟨#[97]⟩, .int .u32 1, .slice A3 3 c3]
  have hB4 := hB3.alloc (.cells #[.string ⟨#[97]⟩, .int .u32 1, .slice A3 3 c3] 26)
  have hr4 := hr3.alloc (Nat.le_refl _) (.cells #[.string ⟨#[97]⟩, .int .u32 1, .slice A3 3 c3] 26)
  have hb04 : Below w.heap.size w (w3.alloc (.cells #[.string ⟨#[97]⟩, .int .u32 1, .slice A3 3 c3] 26)) := hb03.alloc (by omega) _
  have hL4 := hL3.alloc (by omega) (.cells #[.string ⟨#[97]⟩, .int .u32 1, .slice A3 3 c3] 26)
  have hz4 : (w3.alloc (.cells #[.string ⟨#[97]⟩, .int .u32 1, .slice A3 3 c3] 26)).heap.size = w3.heap.size + 1 := by simp
  have hG4 := hG.below hb04
  go_wp2_with fail
  refine (known_parse _ hG4).mono ?_
  rintro e w5 ⟨A5, c5, rfl, hr5, hc5, hb5⟩
  rw [hz4] at hb5
  have hB5 := hB4.below hb5 (by omega)
  have hBs5 := hBs4.below hb5 (by omega)
  have hs5 := hb5.size
  rw [hz4] at hs5
  have hL5 : Reads w5 (w.heap.size + 1) 1 (some ⟨w.heap.size, 0, none⟩) 3 (ic [0, 1, 2]) := hL4.keep fun p hp => hb5.cell (by omega)
  have hq5 : Reads w5 (w3.heap.size) 1 A3 3 (ic [0, 1, 2]) := hr4.keep fun p hp => hb5.cell (by omega)
  have hb05 : Below w.heap.size w w5 := hb04.trans (hb5.mono (by omega))
  clear hb04 hb5 hB4 hBs4 hL4 hr4 hz4 hG4 hb03 hL3 hB3 hr3
  have hBt6 := Blk.new w5 26 #[.string ⟨#[97]⟩, .int .u32 1, .slice A5 3 c5]
  have hB6 := hB5.alloc (.cells #[.string ⟨#[97]⟩, .int .u32 1, .slice A5 3 c5] 26)
  have hBs6 := hBs5.alloc (.cells #[.string ⟨#[97]⟩, .int .u32 1, .slice A5 3 c5] 26)
  have hb06 : Below w.heap.size w (w5.alloc (.cells #[.string ⟨#[97]⟩, .int .u32 1, .slice A5 3 c5] 26)) := hb05.alloc (by omega) _
  have hL6 := hL5.alloc (by omega) (.cells #[.string ⟨#[97]⟩, .int .u32 1, .slice A5 3 c5] 26)
  have hq6 := hq5.alloc (by omega) (.cells #[.string ⟨#[97]⟩, .int .u32 1, .slice A5 3 c5] 26)
  have ht6 := hr5.alloc (Nat.le_refl _) (.cells #[.string ⟨#[97]⟩, .int .u32 1, .slice A5 3 c5] 26)
  have hz6 : (w5.alloc (.cells #[.string ⟨#[97]⟩, .int .u32 1, .slice A5 3 c5] 26)).heap.size = w5.heap.size + 1 := by simp
  go_wp2_with fail
  refine (known_zero _).mono ?_
  rintro e w7 ⟨rfl, hb7⟩
  rw [hz6] at hb7
  have hs7 := hb7.size
  rw [hz6] at hs7
  have hB7 := hB6.below hb7 (by omega)
  have hBs7 := hBs6.below hb7 (by omega)
  have hBt7 := hBt6.below hb7 (by omega)
  have hL7 : Reads w7 w7.heap.size 1 (some ⟨w.heap.size, 0, none⟩) 3 (ic [0, 1, 2]) := (hL6.keep fun p hp => hb7.cell (by omega)).more (by omega)
  have hq7 : Reads w7 w7.heap.size 1 A3 3 (ic [0, 1, 2]) := (hq6.keep fun p hp => hb7.cell (by omega)).more (by omega)
  have ht7 : Reads w7 w7.heap.size 1 A5 3 (ic [0, 1, 2]) := (ht6.keep fun p hp => hb7.cell (by omega)).more (by omega)
  have hb07 : Below w.heap.size w w7 := hb06.trans (hb7.mono (by omega))
  clear hb06 hb7 hB6 hBs6 hBt6 hL6 hq6 ht6 hz6 hb05 hB5 hBs5 hL5 hq5 hr5
  have hG7 := hG.below hb07
  generalize w3.heap.size = gs at *
  generalize w5.heap.size = gt at *
  have HT := Lib.hid (known_text w7 _ hL7 hG7)
  have r0 : w7.cell? ⟨w.heap.size + 1, 0, none⟩ = some (.string ⟨#[97]⟩) := hB7.cell 0
  have r1 : w7.cell? ⟨w.heap.size + 1, 1, none⟩ = some (.int .u32 1) := hB7.cell 1
  have r2 : w7.cell? ⟨w.heap.size + 1, 2, none⟩ = some (.slice (some ⟨w.heap.size, 0, none⟩) 3 3) := hB7.cell 2
  go_wp2_with fail
  refine HT.out.mono ?_
  rintro e w8 ⟨rfl, hb8⟩
  have hB8 := hB7.below hb8 hB7.lt
  have hBs8 := hBs7.below hb8 hBs7.lt
  have hBt8 := hBt7.below hb8 hBt7.lt
  have hb08 := hb07.trans (hb8.mono hb07.size)
  have HS := Lib.hid (known_same w8 _ A3 c3 hc3 ((hL7.below hb8).more hb8.size) ((hq7.below hb8).more hb8.size))
  have a0 : w8.cell? ⟨w.heap.size + 1, 0, none⟩ = some (.string ⟨#[97]⟩) := hB8.cell 0
  have a1 : w8.cell? ⟨w.heap.size + 1, 1, none⟩ = some (.int .u32 1) := hB8.cell 1
  have a2 : w8.cell? ⟨w.heap.size + 1, 2, none⟩ = some (.slice (some ⟨w.heap.size, 0, none⟩) 3 3) := hB8.cell 2
  have b0 : w8.cell? ⟨gs, 0, none⟩ = some (.string ⟨#[97]⟩) := hBs8.cell 0
  have b1 : w8.cell? ⟨gs, 1, none⟩ = some (.int .u32 1) := hBs8.cell 1
  have b2 : w8.cell? ⟨gs, 2, none⟩ = some (.slice A3 3 c3) := hBs8.cell 2
  go_wp2_with fail
  refine HS.out.mono ?_
  rintro e w9 ⟨rfl, hb9⟩
  have hB9 := hB8.below hb9 hB8.lt
  have hBt9 := hBt8.below hb9 hBt8.lt
  have hb09 := hb08.trans (hb9.mono hb08.size)
  have HS2 := Lib.hid (known_same w9 _ A5 c5 hc5 (((hL7.below hb8).more hb8.size).below hb9 |>.more hb9.size) (((ht7.below hb8).more hb8.size).below hb9 |>.more hb9.size))
  have k0 : w9.cell? ⟨w.heap.size + 1, 0, none⟩ = some (.string ⟨#[97]⟩) := hB9.cell 0
  have k1 : w9.cell? ⟨w.heap.size + 1, 1, none⟩ = some (.int .u32 1) := hB9.cell 1
  have k2 : w9.cell? ⟨w.heap.size + 1, 2, none⟩ = some (.slice (some ⟨w.heap.size, 0, none⟩) 3 3) := hB9.cell 2
  have l0 : w9.cell? ⟨gt, 0, none⟩ = some (.string ⟨#[97]⟩) := hBt9.cell 0
  have l1 : w9.cell? ⟨gt, 1, none⟩ = some (.int .u32 1) := hBt9.cell 1
  have l2 : w9.cell? ⟨gt, 2, none⟩ = some (.slice A5 3 c5) := hBt9.cell 2
  go_wp2_with fail
  refine HS2.out.mono ?_
  rintro e w10 ⟨rfl, hb10⟩
  have hB10 := hB9.below hb10 hB9.lt
  have hb010 := hb09.trans (hb10.mono hb09.size)
  have m0 : w10.cell? ⟨w.heap.size + 1, 0, none⟩ = some (.string ⟨#[97]⟩) := hB10.cell 0
  have m1 : w10.cell? ⟨w.heap.size + 1, 1, none⟩ = some (.int .u32 1) := hB10.cell 1
  have m2 : w10.cell? ⟨w.heap.size + 1, 2, none⟩ = some (.slice (some ⟨w.heap.size, 0, none⟩) 3 3) := hB10.cell 2
  go_wp2_with fail
  refine (known_newer w10 _).mono ?_
  rintro e w11 ⟨rfl, hb11⟩
  go_wp2_with fail
  go_ret
  exact ⟨rfl, hb010.trans (hb11.mono hb010.size)⟩

end Go.Proofs.YtcmaildfhdddjaaDoor
