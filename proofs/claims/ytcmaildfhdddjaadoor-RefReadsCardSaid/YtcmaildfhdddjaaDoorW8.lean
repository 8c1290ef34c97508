/- Contracts of functions of this program, walked. No condition but the ones each theorem states. -/
import Derived.Test.YtcmaildfhdddjaaDoorW7
namespace Go.Proofs.YtcmaildfhdddjaaDoor
open Go.RowKit

attribute [local go_sem ↓] Go.wp_at_zero Go.wp_at_succ

theorem Reads.one_at {w : World} {g : Nat} {c : UInt8} (h : w.cell? ⟨g, 0, none⟩ = some (.int .u8 c.toNat)) : Reads w (g + 1) 1 (some ⟨g, 0, none⟩) 1 (bc [c]) := by
  refine ⟨rfl, fun _ => ⟨_, rfl, by simp, fun j u hu => ?_⟩⟩
  match j, hu with
  | 0, hu =>
    simp [Lib.byteCells] at hu
    subst hu
    simpa [Addr.add] using h
theorem one_cell (w : World) {u : Value} {c : UInt8} (e : TypeId) (h : u = .int .u8 c.toNat) : (w.alloc (.cells #[u] e)).drew.cell? ⟨w.heap.size, 0, none⟩ = some (.int .u8 c.toNat) := by
  subst h; simp
theorem own_block_lt {w : World} {base : Nat} {e : TypeId} {size n : Nat} {v : Value} {xs : List Value} (h : w.ownsRow base e size v n xs) : some w.heap.size ≠ v.ownBlock := fun e => by
  have := (h.lt _ e.symm).2; omega

set_option maxRecDepth 100000 in
set_option maxHeartbeats 1600000 in
theorem put'_yes (X : Option Addr) (xn : Nat) (xs : List UInt8) (s : ByteArray) (v : Nat) (A : Option Addr) (n c : Nat) (ns : List Int) (w : World)
    (hX : Reads w w.heap.size 1 X xn (bc xs)) (hxn : xn ≤ 1000) (hv : v < 4294967296) (hc : n ≤ c) (hn : n ≤ 7) (hs : s.size ≤ 32)
    (hr : Reads w w.heap.size 1 A n (ic ns)) (hok : rightB s.size ns = true) :
    Calls Tryd.prog 8 #[.slice X xn xn, .agg #[.string s, .int .u32 v, .slice A n c]] w fun e w' => ∃ v', e = .returned (.tuple #[v', .int .i64 0]) ∧ w'.ownsRow w.heap.size 5 1 v' (xn + (8 + (2 + s.size + 4 + 1 + n))) (bc (xs ++ frameOf (refPay s v ns))) ∧ Below w.heap.size w w' := by
  have hl : ns.length = n := by have := hr.1; rw [ic_len] at this; omega
  have hcall := Lib.hid (fun w1 (hr1 : Reads w1 w1.heap.size 1 A n (ic ns)) => right'_calls s v A n c ns w1 (by omega) (by omega) hc hr1)
  rw [hok] at hcall
  go_enter Tryd.func8, Tryd.ntmps8
  go_wp2_with fail
  refine (hcall.out _ ((hr.alloc (Nat.le_refl _) _).more (by simp))).mono ?_
  rintro e w1 ⟨rfl, hb1⟩
  have hB1 : Blk w1 w.heap.size 36 #[.string s, .int .u32 v, .slice A n c] := (Blk.new w 36 _).below hb1 (by simp)
  have hz1 : w.heap.size < w1.heap.size := by have := hb1.size; simp at this; omega
  have h0 : w1.cell? ⟨w.heap.size, 0, none⟩ = some (.string s) := hB1.cell 0
  go_wp2_with (go_at_call 23; refine (putText'_calls s hs _).mono ?_; rintro e w2 ⟨v2, rfl, hown2, hb2⟩; refine Hid.out ?_)
  have hB2 := hB1.below hb2 hz1
  have hz2 : w.heap.size < w2.heap.size := by have := hb2.size; omega
  have g1 : w2.cell? ⟨w.heap.size, 1, none⟩ = some (.int .u32 v) := hB2.cell 1
  have g2 : w2.cell? ⟨w.heap.size, 2, none⟩ = some (.slice A n c) := hB2.cell 2
  obtain ⟨A2, c2, rfl, hc2, hr2⟩ := own_slice hown2
  have hb02 : Below w.heap.size w w2 := ((Below.refl _ w).alloc (Nat.le_refl _) _).trans ((hb1.mono (by simp)).trans (hb2.mono (by omega)))
  refine Lib.hid ?_
  go_wp2_with fail
  go_cut [6] (fun o wx => wx.ownsRow w1.heap.size 5 1 o (2 + s.size + 4 + 1) (bc (refHead s v n)) ∧ Below w1.heap.size w2 wx)
  case first =>
    have HB := Lib.hid (byte_len' n hn)
    have hw : IntKind.u64.wrap (v : Int) = v := wrap_u64_nat v (by omega)
    have hp := Lib.hid (fun W (hb : Below w2.heap.size w2 W) => (putU4' (.slice A2 (2 + s.size) c2) w1.heap.size (2 + s.size) _ v (by omega) W (hown2.below hb) (Nat.le_trans hb2.size hb.size) (by omega)).mono (R' := fun e w' => ∃ v', e = .returned v' ∧ w'.ownsRow w1.heap.size 5 1 v' (2 + s.size + 4) (bc (putU s.size 2 ++ sb s ++ putU v 4)) ∧ Onto W w' (.slice A2 (2 + s.size) c2) v' ∧ Below w1.heap.size w2 w' ∧ W.heap.size ≤ w'.heap.size ∧ w'.cell? ⟨w.heap.size, 1, none⟩ = some (.int .u32 v) ∧ w'.cell? ⟨w.heap.size, 2, none⟩ = some (.slice A n c))
      fun e w' ⟨v', h1, h2, h3⟩ => ⟨v', h1, h2, h3, h3.below (hb.mono hb2.size) (Nat.le_trans hb2.size hb.size) (hown2.below hb) (Nat.le_refl _), h3.1.size, ((h3.below (hb.mono hb2.size) (Nat.le_trans hb2.size hb.size) (hown2.below hb) (Nat.le_refl _)).cell (p := ⟨w.heap.size, 1, none⟩) hz1).trans g1, ((h3.below (hb.mono hb2.size) (Nat.le_trans hb2.size hb.size) (hown2.below hb) (Nat.le_refl _)).cell (p := ⟨w.heap.size, 2, none⟩) hz1).trans g2⟩)
    have hne := Lib.hid (own_block_lt hown2)
    go_region_held3 (fun w' => w'.cell? ⟨w.heap.size, 1, none⟩ = some (.int .u32 v) ∧ w'.cell? ⟨w.heap.size, 2, none⟩ = some (.slice A n c)) (first | exact ⟨k3, k4⟩ | exact ⟨k1, k2⟩ | go_keep)
      (first
        | (go_at_call 24; refine (hp.out _ ?_).mono ?_; (first | exact (Below.refl _ _).drew | exact ((Below.refl _ _).alloc (Nat.le_refl _) _).drew); rintro e w3 ⟨v3, rfl, hown3, ho3, hb03, hz3, k1, k2⟩)
        | (refine step_append_bytes (by rfl) (.tmp 22) (.tmp 27) (by rfl) w1.heap.size v3 (2 + s.size + 4) _ (by rfl) (hown3.alloc _) (w3.heap.size + 1) (some ⟨w3.heap.size, 0, none⟩) 1 1 [UInt8.ofNat n] (by rfl) (Reads.one' w3 _ _ 5 HB.out) (by omega) (by have := hb03.size; have := hb2.size; simp; omega) ?_; intro v4 w4 hown4 hg4 hat4; have kb : Below w1.heap.size w3 w4 := below_app1 (Below.refl _ _) (Nat.le_trans hb2.size hb03.size) _ hown3 (Nat.le_refl _) hg4; have k3 := (kb.cell (p := ⟨w.heap.size, 1, none⟩) hz1).trans k1; have k4 := (kb.cell (p := ⟨w.heap.size, 2, none⟩) hz1).trans k2)
        | (refine step_append_bytes (by rfl) (.tmp 22) (.tmp 27) (by rfl) w1.heap.size v3 (2 + s.size + 4) _ (by rfl) hown3 (w2.heap.size + 1) (some ⟨w2.heap.size, 0, none⟩) 1 1 [UInt8.ofNat n] (by rfl) (Reads.one_at (ho3.1.cell (one_cell _ _ HB.out) hne.out)) (by omega) (Nat.le_trans hb2.size hb03.size) ?_; intro v4 w4 hown4 hg4 hat4; have kb : Below w1.heap.size w3 w4 := below_app (Below.refl _ _) (Nat.le_trans hb2.size hb03.size) hown3 (Nat.le_refl _) hg4; have k3 := (kb.cell (p := ⟨w.heap.size, 1, none⟩) hz1).trans k1; have k4 := (kb.cell (p := ⟨w.heap.size, 2, none⟩) hz1).trans k2))
    all_goals (go_wp2_with fail; go_meet; exact ⟨hown4, hb03.trans kb⟩)
  case rest =>
    obtain ⟨hown, hbw⟩ := hcut
    have hBw := hB2.below hbw hz1
    clear g1 g2 hown2
    have hbx : Below w.heap.size w wc := hb02.trans (hbw.mono (by omega))
    go_wp2_with fail
    go_loopw [6, 8] (fun o i wr => ∃ j : Nat, j ≤ n ∧ i = .int .i64 j ∧ wr.ownsRow w1.heap.size 5 1 o (2 + s.size + 4 + 1 + j) (bc (refHead s v n ++ (nodeB ns).take j)) ∧ Below w1.heap.size w2 wr) (fun _ i _ => n - (intOf i).toNat)
    case atStart => exact ⟨0, by omega, rfl, by simpa using hown, hbw⟩
    case round =>
      obtain ⟨j, hj, rfl, hown, hbw⟩ := hrel
      have hBw := hB2.below hbw hz1
      have q2 : wr.cell? ⟨w.heap.size, 2, none⟩ = some (.slice A n c) := hBw.cell 2
      have hbx : Below w.heap.size w wr := hb02.trans (hbw.mono (by omega))
      have hsz : w1.heap.size ≤ wr.heap.size := Nat.le_trans hb2.size hbw.size
      by_cases hlt : j < n
      · obtain ⟨b, off, rfl, hbB, hcell⟩ := hr.litI (by omega)
        have hu := upto_of hok j (by omega)
        have hc1 := (hbx.cell (p := ⟨b, off + j, none⟩) hbB).trans (hcell j (by omega))
        have HB := Lib.hid (node_byte (ns.getD j 0) hu.1 hu.2.1)
        have HT := Lib.hid (nodeB_take ns j (by omega))
        clear hcell hu
        generalize ns.getD j 0 = x at *
        go_wp2_with (at_builtin; refine wpList_append_bytes rfl (.tmp 36) (.tmp 43) rfl w1.heap.size _ (2 + s.size + 4 + 1 + j) _ rfl (hown.alloc _) (wr.heap.size + 1) (some ⟨wr.heap.size, 0, none⟩) 1 1 [UInt8.ofNat x.toNat] rfl (Reads.one' wr _ _ 5 HB.out) (by omega) (by simp; omega) ?_; intro v4 w4 hown4 hg4 hat4)
        go_roundw
        case rel =>
          refine ⟨j + 1, by omega, by go_num, ?_, below_app1 hbw hsz _ hown (Nat.le_refl _) hg4⟩
          rw [HT.out, ← List.append_assoc]
          exact hown4
        case measure => simp [intOf]; omega
      · have hjn : j = n := by omega
        subst hjn
        rw [List.take_of_length_le (by simp [nodeB]; omega)] at hown
        have hpl : (refHead s v j ++ nodeB ns).length = 2 + s.size + 4 + 1 + j := by have := hown.1; rw [bc_len] at this; omega
        obtain ⟨A3, c3, rfl, hc3, hr3⟩ := own_slice hown
        clear hlt hj
        have hwr := Lib.hid (wrap'_calls X xn xs hxn A3 (2 + s.size + 4 + 1 + j) c3 _ (by omega) wr ((hX.below hbx).more hbx.size) hr3)
        go_wp2_with (go_at_call 25; refine hwr.out.mono ?_; rintro e w5 ⟨v5, rfl, hown5, hb5⟩)
        go_ret2
        refine ⟨v5, rfl, ?_, hbx.trans (hb5.mono hbx.size)⟩
        have e : refPay s v ns = refHead s v j ++ nodeB ns := by rw [refPay, hl]
        rw [e]
        exact hown5.rebase hbx.size

set_option maxRecDepth 100000 in
set_option maxHeartbeats 1600000 in
theorem put_no (x : Value) (s : ByteArray) (v : Nat) (A : Option Addr) (n c : Nat) (ns : List Int) (w : World) (hn : n ≤ 1000000) (hs : s.size ≤ 1000000) (hc : n ≤ c)
    (hr : Reads w w.heap.size 1 A n (ic ns)) (hok : rightB s.size ns = false) :
    Calls Tryd.prog 7 #[x, .agg #[.string s, .int .u32 v, .slice A n c]] w fun e w' => e = .returned (.tuple #[.slice none 0 0, .int .i64 22]) ∧ Below w.heap.size w w' := by
  have hcall := Lib.hid (fun w1 (hr1 : Reads w1 w1.heap.size 1 A n (ic ns)) => right_calls s v A n c ns w1 hs hn hc hr1)
  rw [hok] at hcall
  go_enter Tryd.func7, Tryd.ntmps7
  go_wp2_with fail
  refine (hcall.out _ ((hr.alloc (Nat.le_refl _) _).more (by simp))).mono ?_
  rintro e w1 ⟨rfl, hb1⟩
  go_wp2
  go_ret2
  exact ⟨rfl, ((Below.refl _ w).alloc (Nat.le_refl _) _).trans (hb1.mono (by simp))⟩

set_option maxRecDepth 100000 in
set_option maxHeartbeats 1600000 in
theorem put'_no (x : Value) (s : ByteArray) (v : Nat) (A : Option Addr) (n c : Nat) (ns : List Int) (w : World) (hn : n ≤ 1000000) (hs : s.size ≤ 1000000) (hc : n ≤ c)
    (hr : Reads w w.heap.size 1 A n (ic ns)) (hok : rightB s.size ns = false) :
    Calls Tryd.prog 8 #[x, .agg #[.string s, .int .u32 v, .slice A n c]] w fun e w' => e = .returned (.tuple #[.slice none 0 0, .int .i64 22]) ∧ Below w.heap.size w w' := by
  have hcall := Lib.hid (fun w1 (hr1 : Reads w1 w1.heap.size 1 A n (ic ns)) => right'_calls s v A n c ns w1 hs hn hc hr1)
  rw [hok] at hcall
  go_enter Tryd.func8, Tryd.ntmps8
  go_wp2_with fail
  refine (hcall.out _ ((hr.alloc (Nat.le_refl _) _).more (by simp))).mono ?_
  rintro e w1 ⟨rfl, hb1⟩
  go_wp2
  go_ret2
  exact ⟨rfl, ((Below.refl _ w).alloc (Nat.le_refl _) _).trans (hb1.mono (by simp))⟩

end Go.Proofs.YtcmaildfhdddjaaDoor
