/- Contracts of functions of this program, walked. No condition but the ones each theorem states. -/
import Derived.Test.YtcmaildfhdddjaaDoorW6
import Derived.Deep.DeepCutAuto
namespace Go.Proofs.YtcmaildfhdddjaaDoor
open Go.RowKit

attribute [local go_sem ↓] Go.wp_at_zero Go.wp_at_succ

theorem byte_len' (n : Nat) (h : n ≤ 7) : Value.int .u8 (IntKind.u8.wrap (n : Int)) = .int .u8 (UInt8.ofNat n).toNat := by
  simp [UInt8.toNat_ofNat, IntKind.wrap, IntKind.bits, IntKind.signed]

theorem byte_len (n : Nat) (h : n ≤ 7) : Value.int .u8 ((n : Int) % 256) = .int .u8 (UInt8.ofNat n).toNat := by
  simp [UInt8.toNat_ofNat]

def Blk (w : World) (g : Nat) (t : TypeId) (cs : Array Value) : Prop := w.heap[g]? = some (.cells cs t (0, 0))
section
variable {w w' : World} {g : Nat} {t : TypeId} {cs : Array Value}
theorem Blk.lt (h : Blk w g t cs) : g < w.heap.size := by
  rcases Nat.lt_or_ge g w.heap.size with hlt | hge
  · exact hlt
  · unfold Blk at h; rw [Array.getElem?_eq_none hge] at h; cases h
theorem Blk.cell (h : Blk w g t cs) (i : Nat) : w.cell? ⟨g, i, none⟩ = cs[i]? := cell_of_row w g i cs t (0, 0) h
theorem Blk.new (w : World) (t : TypeId) (cs : Array Value) : Blk (w.alloc (.cells cs t)) w.heap.size t cs := heap_alloc_new w _
theorem Blk.below {B : Nat} (h : Blk w g t cs) (hb : Below B w w') (hg : g < B) : Blk w' g t cs := (hb.block g hg).trans h
theorem Blk.alloc (h : Blk w g t cs) (o : Obj) : Blk (w.alloc o) g t cs := (Below.heap_alloc w o g h.lt).trans h
end

theorem step_append_bytes {ops : Array Oper} {o : Oper} {a : Act} {w : World} {K : Act → World → Prop} {Q : Exit → Act → World → Prop} {E : Prop} (hgd : o.guard = none) (s x : Operand)
    (ho : o.op = .call { callee := .builtin .append, args := #[s, x], argTypes := #[22, 22] })
    (base : Nat) (v : Value) (n : Nat) (xs : List UInt8) (hs : a.eval s = v) (hown : w.ownsRow base 5 1 v n (bc xs))
    (B : Nat) (A : Option Addr) (m c : Nat) (ys : List UInt8) (hx : a.eval x = .slice A m c) (hr : Reads w B 1 A m (bc ys)) (hb : n + m ≤ 140737488355328) (hbase : base ≤ w.heap.size)
    (h : ∀ v' w', w'.ownsRow base 5 1 v' (n + m) (bc (xs ++ ys)) → w.grownBy w' v.ownBlock → (v'.ownBlock = v.ownBlock ∨ v'.ownBlock = some w.heap.size) → K (a.put o.dst v') w') :
    if Region.wanted o (yielded ops a.tmps) = true then Oper.wp Tryd.prog o a w K Q else E := by
  have hw : Region.wanted o (yielded ops a.tmps) = true := by simp [Region.wanted, hgd]
  rw [if_pos hw]
  obtain ⟨v', w', hrun, h2, h3, h4⟩ := run_append_bytes w o.type base v n xs hown B A m c ys hr hb hbase
  unfold Oper.wp execOp
  simp only [ho, resolve, invoke, builtin, Sem.run_bind, Sem.run_pure, Result.andThen_ok, List.map_toArray, List.map_cons, List.map_nil, hs, hx, hrun]
  exact h v' w' h2 h3 h4

def refHead (s : ByteArray) (v n : Nat) : List UInt8 := putU s.size 2 ++ sb s ++ putU v 4 ++ [UInt8.ofNat n]

def nodeB (ns : List Int) : List UInt8 := ns.map fun x => UInt8.ofNat x.toNat
def refPay (s : ByteArray) (v : Nat) (ns : List Int) : List UInt8 := refHead s v ns.length ++ nodeB ns
theorem nodeB_take (ns : List Int) (j : Nat) (h : j < ns.length) : (nodeB ns).take (j + 1) = (nodeB ns).take j ++ [UInt8.ofNat (ns.getD j 0).toNat] := by
  rw [List.take_succ_eq_append_getElem (by simpa [nodeB] using h)]
  simp [nodeB, h]
theorem node_byte (x : Int) (h0 : 0 ≤ x) (h1 : x ≤ 255) : Value.int .u8 (x % 256) = .int .u8 (UInt8.ofNat x.toNat).toNat := by
  obtain ⟨k, rfl⟩ := Int.eq_ofNat_of_zero_le h0
  congr 1
theorem upto_of {g : Nat} {ns : List Int} (h : rightB g ns = true) (j : Nat) (hj : j < ns.length) : 0 ≤ ns.getD j 0 ∧ ns.getD j 0 ≤ 255 ∧ (0 < j → ns.getD (j - 1) 0 < ns.getD j 0) := by
  unfold rightB at h
  simp only [Bool.and_eq_true, decide_eq_true_eq] at h
  exact h.2 j hj

set_option maxRecDepth 100000 in
set_option maxHeartbeats 1600000 in
theorem put_yes (X : Option Addr) (xn xc : Nat) (xs : List UInt8) (s : ByteArray) (v : Nat) (A : Option Addr) (n c : Nat) (ns : List Int) (w : World)
    (hX : Reads w w.heap.size 1 X xn (bc xs)) (hxn : xn ≤ 1000) (hv : v < 4294967296) (hc : n ≤ c) (hn : n ≤ 7) (hs : s.size ≤ 32)
    (hr : Reads w w.heap.size 1 A n (ic ns)) (hok : rightB s.size ns = true) :
    Calls Tryd.prog 7 #[.slice X xn xc, .agg #[.string s, .int .u32 v, .slice A n c]] w fun e w' => ∃ v', e = .returned (.tuple #[v', .int .i64 0]) ∧ w'.ownsRow w.heap.size 5 1 v' (xn + (8 + (2 + s.size + 4 + 1 + n))) (bc (xs ++ frameOf (refPay s v ns))) ∧ Below w.heap.size w w' := by
  have hl : ns.length = n := by have := hr.1; rw [ic_len] at this; omega
  have hcall := Lib.hid (fun w1 (hr1 : Reads w1 w1.heap.size 1 A n (ic ns)) => right_calls s v A n c ns w1 (by omega) (by omega) hc hr1)
  rw [hok] at hcall
  go_enter Tryd.func7, Tryd.ntmps7
  go_wp2_with fail
  refine (hcall.out _ ((hr.alloc (Nat.le_refl _) _).more (by simp))).mono ?_
  rintro e w1 ⟨rfl, hb1⟩
  have hB1 : Blk w1 w.heap.size 26 #[.string s, .int .u32 v, .slice A n c] := (Blk.new w 26 _).below hb1 (by simp)
  have hz1 : w.heap.size < w1.heap.size := by have := hb1.size; simp at this; omega
  have h0 : w1.cell? ⟨w.heap.size, 0, none⟩ = some (.string s) := hB1.cell 0
  go_wp2_with (go_at_call 19; refine (putText_calls s hs _).mono ?_; rintro e w2 ⟨v2, rfl, hown2, hb2⟩; refine Hid.out ?_)
  have hB2 := hB1.below hb2 hz1
  have hz2 : w.heap.size < w2.heap.size := by have := hb2.size; omega
  have g1 : w2.cell? ⟨w.heap.size, 1, none⟩ = some (.int .u32 v) := hB2.cell 1
  have g2 : w2.cell? ⟨w.heap.size, 2, none⟩ = some (.slice A n c) := hB2.cell 2
  obtain ⟨A2, c2, rfl, hc2, hr2⟩ := own_slice hown2
  have hb02 : Below w.heap.size w w2 := ((Below.refl _ w).alloc (Nat.le_refl _) _).trans ((hb1.mono (by simp)).trans (hb2.mono (by omega)))
  refine Lib.hid ?_
  go_wp2_with fail
  go_cut [6] (fun o wx => wx.ownsRow w2.heap.size 5 1 o (2 + s.size + 4 + 1) (bc (refHead s v n)) ∧ Below w2.heap.size w2 wx)
  case first =>
    have HB := Lib.hid (byte_len' n hn)
    have hw : IntKind.u64.wrap (v : Int) = v := wrap_u64_nat v (by omega)
    have hp := Lib.hid (fun W (hb : Below w2.heap.size w2 W) => (putU4 A2 (2 + s.size) c2 _ v (by omega) W ((hr2.below hb).more hb.size) (by omega)).mono (R' := fun e w' => ∃ v', e = .returned v' ∧ w'.ownsRow W.heap.size 5 1 v' (2 + s.size + 4) (bc (putU s.size 2 ++ sb s ++ putU v 4)) ∧ Below W.heap.size W w' ∧ Below w2.heap.size w2 w' ∧ w'.cell? ⟨w.heap.size, 1, none⟩ = some (.int .u32 v) ∧ w'.cell? ⟨w.heap.size, 2, none⟩ = some (.slice A n c))
      fun e w' ⟨v', h1, h2, h3⟩ => ⟨v', h1, h2, h3, hb.trans (h3.mono hb.size), ((hb.trans (h3.mono hb.size)).cell (p := ⟨w.heap.size, 1, none⟩) hz2).trans g1, ((hb.trans (h3.mono hb.size)).cell (p := ⟨w.heap.size, 2, none⟩) hz2).trans g2⟩)
    go_region_held3 (fun w' => w'.cell? ⟨w.heap.size, 1, none⟩ = some (.int .u32 v) ∧ w'.cell? ⟨w.heap.size, 2, none⟩ = some (.slice A n c)) (first | exact ⟨k3, k4⟩ | exact ⟨k1, k2⟩ | go_keep)
      (first
        | (go_at_call 20; refine (hp.out _ ?_).mono ?_; (first | exact (Below.refl _ _).drew | exact ((Below.refl _ _).alloc (Nat.le_refl _) _).drew); rintro e w3 ⟨v3, rfl, hown3, hb3, hb03, k1, k2⟩)
        | (refine step_append_bytes (by rfl) (.tmp 23) (.tmp 28) (by rfl) w2.heap.size v3 (2 + s.size + 4) _ (by rfl) (hown3.alloc _) (w3.heap.size + 1) (some ⟨w3.heap.size, 0, none⟩) 1 1 [UInt8.ofNat n] (by rfl) (Reads.one' w3 _ _ 5 HB.out) (by omega) (by have := hb3.size; simp at this ⊢; omega) ?_; intro v4 w4 hown4 hg4 hat4; have kb : Below w2.heap.size w3 w4 := below_app1 (Below.refl _ _) (by have := hb3.size; simp at this ⊢; omega) _ hown3 (by simp) hg4; have k3 := (kb.cell (p := ⟨w.heap.size, 1, none⟩) hz2).trans k1; have k4 := (kb.cell (p := ⟨w.heap.size, 2, none⟩) hz2).trans k2)
        | (refine step_append_bytes (by rfl) (.tmp 23) (.tmp 28) (by rfl) w2.heap.size v3 (2 + s.size + 4) _ (by rfl) (hown3.rebase (by simp)) (w2.heap.size + 1) (some ⟨w2.heap.size, 0, none⟩) 1 1 [UInt8.ofNat n] (by rfl) ((Reads.one' w2 _ _ 5 HB.out).keep (fun p hp => hb3.cell (p := p) (by simpa using hp))) (by omega) (by have := hb3.size; simp at this ⊢; omega) ?_; intro v4 w4 hown4 hg4 hat4; have kb : Below w2.heap.size w3 w4 := below_app (Below.refl _ _) (by have := hb3.size; simp at this ⊢; omega) hown3 (by simp) hg4; have k3 := (kb.cell (p := ⟨w.heap.size, 1, none⟩) hz2).trans k1; have k4 := (kb.cell (p := ⟨w.heap.size, 2, none⟩) hz2).trans k2))
    all_goals (go_wp2_with fail; go_meet; exact ⟨hown4, hb03.trans kb⟩)
  case rest =>
    obtain ⟨hown, hbw⟩ := hcut
    have hBw := hB2.below hbw hz2
    have q2 : wc.cell? ⟨w.heap.size, 2, none⟩ = some (.slice A n c) := hBw.cell 2
    clear g1 g2 hown2
    have hbx : Below w.heap.size w wc := hb02.trans (hbw.mono (by omega))
    go_wp2_with fail
    go_loopw [6, 9, 33] (fun o _ i wr => ∃ j : Nat, j ≤ n ∧ i = .int .i64 j ∧ wr.ownsRow w2.heap.size 5 1 o (2 + s.size + 4 + 1 + j) (bc (refHead s v n ++ (nodeB ns).take j)) ∧ Below w.heap.size w wr ∧ w2.heap.size ≤ wr.heap.size) (fun _ _ i _ => n - (intOf i).toNat)
    case atStart => exact ⟨0, by omega, rfl, by simpa using hown, hbx, hbw.size⟩
    case round =>
      obtain ⟨j, hj, rfl, hown, hbx, hsz⟩ := hrel
      by_cases hlt : j < n
      · obtain ⟨b, off, rfl, hbB, hcell⟩ := hr.litI (by omega)
        have hu := upto_of hok j (by omega)
        have hc1 := (hbx.cell (p := ⟨b, off + j, none⟩) hbB).trans (hcell j (by omega))
        have HB := Lib.hid (node_byte (ns.getD j 0) hu.1 hu.2.1)
        have HT := Lib.hid (nodeB_take ns j (by omega))
        clear hcell hu
        generalize ns.getD j 0 = x at *
        go_wp2_with (at_builtin; refine wpList_append_bytes rfl (.tmp 37) (.tmp 40) rfl w2.heap.size _ (2 + s.size + 4 + 1 + j) _ rfl (hown.alloc _) (wr.heap.size + 1) (some ⟨wr.heap.size, 0, none⟩) 1 1 [UInt8.ofNat x.toNat] rfl (Reads.one' wr _ _ 5 HB.out) (by omega) (by simp; omega) ?_; intro v4 w4 hown4 hg4 hat4)
        go_roundw
        case rel =>
          refine ⟨j + 1, by omega, by go_num, ?_, below_app1 hbx hbx.size _ hown (by omega) hg4, Nat.le_trans hsz (by have := hg4.size; simp at this; omega)⟩
          rw [HT.out, ← List.append_assoc]
          exact hown4
        case measure => simp [intOf]; omega
      · have hjn : j = n := by omega
        subst hjn
        rw [List.take_of_length_le (by simp [nodeB]; omega)] at hown
        have hpl : (refHead s v j ++ nodeB ns).length = 2 + s.size + 4 + 1 + j := by have := hown.1; rw [bc_len] at this; omega
        obtain ⟨A3, c3, rfl, hc3, hr3⟩ := own_slice hown
        clear hlt hj
        have hwr := Lib.hid (wrap_calls X xn xc xs hxn A3 (2 + s.size + 4 + 1 + j) c3 _ (by omega) wr ((hX.below hbx).more hbx.size) hr3)
        go_wp2_with (go_at_call 21; refine hwr.out.mono ?_; rintro e w5 ⟨v5, rfl, hown5, hb5⟩)
        go_ret2
        refine ⟨v5, rfl, ?_, hbx.trans (hb5.mono hbx.size)⟩
        have e : refPay s v ns = refHead s v j ++ nodeB ns := by rw [refPay, hl]
        rw [e]
        exact hown5.rebase hbx.size

end Go.Proofs.YtcmaildfhdddjaaDoor
