/- Contracts of functions of this program, walked. No condition but the ones each theorem states. -/
import Derived.Test.YtcmaildfhdddjaaDoorW11
import Derived.Deep.RegionLaw
namespace Go.Proofs.YtcmaildfhdddjaaDoor
open Go.RowKit

attribute [local go_sem ↓] Go.wp_at_zero Go.wp_at_succ

/-- all was there: the reference if it is right -/
def ReadEnd' (w : World) (t : List UInt8) (v : Nat) (ns : List Int) (e : Ending) (w' : World) : Prop := ReadRes w (rightB t.length ns) t v ns e w'

set_option maxRecDepth 100000 in
set_option maxHeartbeats 3200000 in
theorem read'_end (A : Option Addr) (n c : Nat) (xs : List UInt8) (hc : n ≤ c) (w : World) (hr : Reads w w.heap.size 1 A n (bc xs)) (hx : n ≤ 1000000) (h : openOk xs = true) (hn : openN xs + 8 = n) (ht : textOk (payOf xs) = true) (hq : tailOk (tailOf (payOf xs)) = true) :
    Calls Tryd.prog 16 #[.slice A n c] w (ReadEnd' w (textOf (payOf xs)) (verOf (tailOf (payOf xs))) (nodesOf (tailOf (payOf xs)))) := by
  have hcall := Lib.hid (fun w1 hr1 => open'_yes A n c xs hc w1 hr1 hx h)
  have hN : openN xs ≤ 1000000 := by omega
  obtain ⟨htl, hTN⟩ := text_len ht
  generalize openN xs = N at *
  unfold tailOf at hq ⊢
  generalize payOf xs = P at *
  generalize hT : 2 + (textOf P).length = T at *
  have hne : ((8 + (N : Int)) != (n : Int)) = false := by simp; omega
  clear hn
  go_enter Tryd.func16, Tryd.ntmps16
  go_wp2_with fail
  refine (hcall.out _ ((hr.alloc (Nat.le_refl _) _).more (by simp))).mono ?_
  rintro e w1 ⟨v1, rfl, hown1, hb1⟩
  have hPl : P.length = N := by have := hown1.1; rw [bc_len] at this; omega
  obtain ⟨A1, k1, rfl, hk1, hr1⟩ := own_slice hown1
  obtain ⟨b, off, rfl, hbB, hcell⟩ := hr1.lit (by omega)
  have hB := read_res 36 hb1
  have hsz : w.heap.size < w1.heap.size := hB.lt
  have htx := Lib.hid (readText'_at (some ⟨b, off, none⟩) N k1 P hk1 w1 hr1 hN ht T hT)
  have HT := Lib.hid hT
  clear hT
  obtain ⟨M, hNT⟩ : ∃ M, N - T = M := ⟨_, rfl⟩
  have hM : (P.drop T).length = M := by simp; omega
  have hq' : 5 ≤ M ∧ M = 5 + ((P.drop T).getD 4 0).toNat := by
    unfold tailOk at hq
    simp only [Bool.and_eq_true, decide_eq_true_eq, hM] at hq
    exact hq
  obtain ⟨h5, hM5⟩ := hq'
  have hkT : ¬ k1 = T := by omega
  have hcut := hr1.cut (k := T) (cap := k1) (by omega) hk1
  rw [if_neg hkT, hNT] at hcut
  have hcut' : Reads w1 w1.heap.size 1 (some ⟨b, off + T, none⟩) M (bc (P.drop T)) := by simpa [Lib.byteCells, List.map_drop, Addr.add_lit] using hcut
  clear hcut
  have hu := Lib.hid (readU4' (some ⟨b, off + T, none⟩) M (k1 - T) (P.drop T) (by omega) (by omega) w1 hcut')
  have hq4 : T + 4 < P.length := by omega
  have hc4 := hcell (T + 4) (.int .u8 ((P.drop T).getD 4 0).toNat) (by
    have e4 : (P.drop T).getD 4 0 = P.getD (T + 4) 0 := by simp [List.getD]
    rw [e4]
    simp only [Lib.byteCells, List.getElem?_map, getD_some _ _ hq4, Option.map_some])
  have hvv := readU_take_lt (P.drop T) 4 (by omega)
  have hy := ((P.drop T).getD 4 0).toNat_lt
  generalize ((P.drop T).getD 4 0).toNat = y at *
  have hd5 : decide (((N : Nat) : Int) < (T : Int) + 5) = false := by simp; omega
  have hne5 : (((N : Nat) : Int) != (T : Int) + 5 + (y : Int)) = false := by simp; omega
  have HM5 := Lib.hid hM5
  clear hM5 hq4 hcut'
  have hvv' : verOf (P.drop T) = readU ((P.drop T).take 4) := rfl
  generalize hQ : (P.drop T).drop 5 = Q at *
  have hQl : Q.length = M - 5 := by rw [← hQ]; simp; omega
  have hQN : nodesOf (P.drop T) = qI Q := by unfold nodesOf; rw [hQ]; rfl
  have hQat : ∀ j, Q.getD j 0 = P.getD (T + 5 + j) 0 := by intro j; rw [← hQ]; simp [List.getD, Nat.add_assoc]
  generalize readU ((P.drop T).take 4) = vv at *
  have HV := Lib.hid hvv'
  have HQ := Lib.hid hQN
  have HQat := Lib.hid hQat
  clear hQ hvv' hQN hQat
  go_wp2_with (first | (go_at_call 39; (with_reducible refine htx.out.mono ?_); rintro e w2 ⟨rfl, rfl⟩) | (go_at_call 40; (with_reducible refine hu.out.mono ?_); rintro e w2 ⟨rfl, rfl⟩))
  go_loopw [12] (fun i wr => ∃ j : Nat, j ≤ M - 5 ∧ i = .int .i64 (T + 5 + j : Nat) ∧ ∃ x, Blk wr w1.heap.size 36 #[.string ⟨(textOf P).toArray⟩, .int .u32 vv, x] ∧ wr.ownsRow (w1.heap.size + 1) 3 1 x j (ic ((qI Q).take j)) ∧ Below w1.heap.size w1 wr) (fun i _ => N - (intOf i).toNat)
  case atStart => exact ⟨0, by omega, by go_num, _, Blk.new w1 36 _, World.ownsRow_nil _ _ _ _, (Below.refl _ _).alloc (Nat.le_refl _) _⟩
  case round =>
    obtain ⟨j, hj, rfl, x, hBx, hox, hbx⟩ := hrel
    obtain ⟨Ax, cx, rfl, hcx, hrx⟩ := own_slice hox
    have q2 : wr.cell? ⟨w1.heap.size, 2, none⟩ = some (.slice Ax j cx) := hBx.cell 2
    have hGl : w1.heap.size < wr.heap.size := hBx.lt
    have hbx_sz : w1.heap.size ≤ wr.heap.size := Nat.le_of_lt hGl
    by_cases hlt : j < M - 5
    · have hjP : T + 5 + j < P.length := by omega
      have hjQ : j < Q.length := by omega
      have hc1 := (hbx.cell (p := ⟨b, off + (T + 5 + j), none⟩) hbB).trans (hcell (T + 5 + j) (.int .u8 (Q.getD j 0).toNat) (by rw [HQat.out j]; simp only [Lib.byteCells, List.getElem?_map, getD_some _ _ hjP, Option.map_some]))
      have hyb := (Q.getD j 0).toNat_lt
      have HTk := Lib.hid (qI_take Q j hjQ)
      have hlN : T + 5 + j < N := by omega
      clear hcell hjP
      generalize (Q.getD j 0).toNat = yj at *
      generalize hI : T + 5 + j = I at *
      have HI := Lib.hid hI
      clear hI
      have hne36 := own_ne_blk hox hBx (by decide)
      have hlN' : decide ((I : Int) < (N : Int)) = true := by simp; omega
      go_upto_region 12 with (fail)
      have hwy : IntKind.i64.wrap (yj : Int) = yj := by simp [IntKind.wrap, IntKind.bits, IntKind.signed]; omega
      have hone : ((wr.alloc (.cells #[.int .i64 yj] 3)).drew).cell? ⟨wr.heap.size, 0, none⟩ = some (.int .i64 yj) := by simp
      have hoxa : ((wr.alloc (.cells #[.int .i64 yj] 3)).drew).ownsRow (w1.heap.size + 1) 3 1 (.slice Ax j cx) j (ic ((qI Q).take j)) := hox.alloc _
      have hBxa : Blk ((wr.alloc (.cells #[.int .i64 yj] 3)).drew) w1.heap.size 36 #[.string ⟨(textOf P).toArray⟩, .int .u32 vv, .slice Ax j cx] := hBx.alloc _
      have hja : j ≤ 1000000 := by omega
      have hba : w1.heap.size + 1 ≤ ((wr.alloc (.cells #[.int .i64 yj] 3)).drew).heap.size := by simp; omega
      go_region_law (refine step_append_int rfl (.tmp 78) (.tmp 84) rfl (w1.heap.size + 1) (.slice Ax j cx) j ((qI Q).take j) rfl wr.heap.size yj rfl hoxa hone hja hba ?_; intro v4 w4 hown4 hg4 hat4; obtain ⟨A4, c4, rfl, hc4, hr4⟩ := own_slice hown4; have hB4 := hBxa.grown hg4 hne36; have q4 : w4.cell? ⟨w1.heap.size, 2, none⟩ = some (.slice Ax j cx) := hB4.cell 2; have f4 := hB4.frozen 2)
      all_goals (
        go_wp2_with fail
        go_roundw
        case rel =>
          refine ⟨j + 1, by omega, by rw [← HI.out]; go_num, _, hB4.set_ 2 _, ?_, ?_⟩
          · rw [HTk.out]
            exact ownsRow_setCell_other hown4 (fun e => own_ne_blk hown4 hB4 (by decide) e.symm) _
          · exact (below_app (hbx.alloc hbx_sz (.cells #[.int .i64 yj] 3)).drew (by simp; omega) hoxa (by omega) hg4).setCell (p := ⟨w1.heap.size, 2, none⟩) (Nat.le_refl _) _
        case measure => simp [intOf]; omega)
    · have hjM : j = M - 5 := by omega
      subst hjM
      rw [List.take_of_length_le (by simp [qI]; omega)] at hox
      have hI : T + 5 + (M - 5) = N := by omega
      rw [hI]
      have hlN' : decide ((N : Int) < (N : Int)) = false := by simp
      clear hlt hj hcell
      have hb0 : Below w.heap.size w wr := (((Below.refl _ w).alloc (Nat.le_refl _) _).trans (hb1.mono (by simp))).trans (hbx.mono (by omega))
      have hBr := hB.below hbx hsz
      have q0 : wr.cell? ⟨w1.heap.size, 0, none⟩ = some (.string ⟨(textOf P).toArray⟩) := hBx.cell 0
      have q1 : wr.cell? ⟨w1.heap.size, 1, none⟩ = some (.int .u32 vv) := hBx.cell 1
      have ts : (⟨(textOf P).toArray⟩ : ByteArray).size = (textOf P).length := rfl
      rw [List.take_of_length_le (by simp [qI]; omega)] at hrx
      have hrt := Lib.hid (right'_calls ⟨(textOf P).toArray⟩ vv Ax (M - 5) cx (qI Q) wr (by rw [ts]; omega) (by omega) hcx hrx)
      rw [ts] at hrt
      have e3 : (qI Q).length = M - 5 := by simp [qI, hQl]
      cases hrb : rightB (textOf P).length (qI Q) with
      | false =>
        rw [hrb] at hrt
        go_wp2_with (go_at_call 22; refine hrt.out.mono ?_; rintro e w3 ⟨rfl, hb3⟩; have hR3 := hBr.below hb3 hBr.lt; have r0 : w3.cell? ⟨w.heap.size, 0, none⟩ = some (.string ⟨#[]⟩) := hR3.cell 0; have r1 : w3.cell? ⟨w.heap.size, 1, none⟩ = some (.int .u32 0) := hR3.cell 1; have r2 : w3.cell? ⟨w.heap.size, 2, none⟩ = some (.slice none 0 0) := hR3.cell 2; have z0 := hR3.frozen 0; have z1 := hR3.frozen 1; have z2 := hR3.frozen 2)
        refine ret_ref16 (g := w.heap.size) rfl rfl rfl (hR3.set3 _ _ _) ?_
        unfold ReadEnd' ReadRes
        rw [HQ.out, HV.out, hrb, if_neg (by simp)]
        exact ⟨rfl, below_set3 (hb0.trans (hb3.mono hb0.size)) (Nat.le_refl _) _ _ _⟩
      | true =>
        rw [hrb] at hrt
        go_wp2_with (go_at_call 22; refine hrt.out.mono ?_; rintro e w3 ⟨rfl, hb3⟩; have hR3 := hBr.below hb3 hBr.lt; have r0 : w3.cell? ⟨w.heap.size, 0, none⟩ = some (.string ⟨#[]⟩) := hR3.cell 0; have r1 : w3.cell? ⟨w.heap.size, 1, none⟩ = some (.int .u32 0) := hR3.cell 1; have r2 : w3.cell? ⟨w.heap.size, 2, none⟩ = some (.slice none 0 0) := hR3.cell 2; have z0 := hR3.frozen 0; have z1 := hR3.frozen 1; have z2 := hR3.frozen 2; have hS3 := hBx.below hb3 hGl; have s0 : w3.cell? ⟨w1.heap.size, 0, none⟩ = some (.string ⟨(textOf P).toArray⟩) := hS3.cell 0; have s1 : w3.cell? ⟨w1.heap.size, 1, none⟩ = some (.int .u32 vv) := hS3.cell 1; have s2 : w3.cell? ⟨w1.heap.size, 2, none⟩ = some (.slice Ax (M - 5) cx) := hS3.cell 2)
        refine ret_ref16 (g := w.heap.size) rfl rfl rfl (hR3.set3 _ _ _) ?_
        unfold ReadEnd' ReadRes
        rw [HQ.out, HV.out, hrb, if_pos rfl, e3]
        exact ⟨_, rfl, ownsRow_set3 (hox.below hb3 |>.rebase (by omega)) (own_ne_blk hox hBr (by decide)) _ _ _, below_set3 (hb0.trans (hb3.mono hb0.size)) (Nat.le_refl _) _ _ _⟩

theorem readRes_no {w w' : World} {ok : Bool} {t : List UInt8} {v : Nat} {ns : List Int} {e : Ending} (h : ok = false) (hz : ZeroRes w e w') : ReadRes w ok t v ns e w' := by
  subst h
  unfold ReadRes
  rw [if_neg (by simp)]
  exact hz

theorem ReadRef_calls (A : Option Addr) (n c : Nat) (xs : List UInt8) (hc : n ≤ c) (w : World) (hr : Reads w w.heap.size 1 A n (bc xs)) (hx : n ≤ 1000000) :
    Calls Tryd.prog 16 #[.slice A n c] w (ReadRes w (readOk xs) (refT xs) (refV xs) (refN xs)) := by
  have hl : xs.length = n := by have := hr.1; rw [bc_len] at this; omega
  cases ho : openOk xs with
  | false => exact (read'_no1 A n c xs hc w hr hx ho).mono fun e w' h => readRes_no (by simp [readOk, ho]) h
  | true =>
    by_cases hn : openN xs + 8 = n
    · cases ht : textOk (payOf xs) with
      | false => exact (read'_no3 A n c xs hc w hr hx ho hn ht).mono fun e w' h => readRes_no (by simp [readOk, payOk, ht]) h
      | true =>
        cases hq : tailOk (tailOf (payOf xs)) with
        | false => exact (read'_no4 A n c xs hc w hr hx ho hn ht hq).mono fun e w' h => readRes_no (by simp [readOk, payOk, hq]) h
        | true =>
          refine (read'_end A n c xs hc w hr hx ho hn ht hq).mono fun e w' h => ?_
          have hok : readOk xs = rightB (refT xs).length (refN xs) := by simp [readOk, payOk, ho, ht, hq, hn, hl, refT, refN]
          rw [hok]
          exact h
    · exact (read'_no2 A n c xs hc w hr hx ho hn).mono fun e w' h => readRes_no (by simp [readOk, hl, hn]) h

end Go.Proofs.YtcmaildfhdddjaaDoor
