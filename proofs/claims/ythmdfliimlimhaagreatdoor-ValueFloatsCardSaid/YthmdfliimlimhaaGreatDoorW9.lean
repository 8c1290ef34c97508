/- The text of a list: value.Text at kind List: contract. -/
import Derived.Test.YthmdfliimlimhaaGreatDoorW8
namespace Go.Proofs.YthmdfliimlimhaaGreatDoor
open Go.RowKit

attribute [local go_sem ↓] Go.wp_at_zero Go.wp_at_succ

theorem below_app1 {B base : Nat} {w wr w2 : World} {e : TypeId} {size : Nat} {v : Value} {n : Nat} {xs : List Value} (hb : Below B w wr) (hB : B ≤ wr.heap.size) (o : Obj)
    (hown : wr.ownsRow base e size v n xs) (hbase : B ≤ base) (hg : (wr.alloc o).grownBy w2 v.ownBlock) : Below B w w2 :=
  (hb.alloc hB o).grown hg (by simp; omega) (fun k hk => Nat.le_trans hbase (hown.lt k hk).1)
theorem Reads.lit {w : World} {B n : Nat} {A : Option Addr} {xs : List Value} (h : Reads w B 1 A n xs) (hn : 0 < n) :
    ∃ b off, A = some ⟨b, off, none⟩ ∧ b < B ∧ ∀ j u, xs[j]? = some u → w.cell? ⟨b, off + j, none⟩ = some u := by
  obtain ⟨ad, rfl, hb, hc⟩ := h.2 hn
  obtain ⟨b, off, spot⟩ := ad
  have hl : 0 < xs.length := by have := h.1; omega
  have h0 := hc 0 xs[0] (List.getElem?_eq_getElem hl)
  have hs : spot = none := by simpa [Addr.add] using World.cell?_spot h0
  subst hs
  exact ⟨b, off, rfl, hb, fun j u hu => by rw [← Addr.add_lit]; exact hc j u hu⟩

set_option maxRecDepth 100000 in
set_option maxHeartbeats 3200000 in
theorem text_list (i : Int) (f : Nat) (s : ByteArray) (l : List Val) (ts : List ByteArray) (hlen : ts.length = l.length) (hl0 : 0 < l.length) (hl1 : l.length ≤ 1000) (hT : ∀ (j : Nat) (x : Val) (t : ByteArray), l[j]? = some x → ts[j]? = some t → TextC x t)
    (hzz : (Lib.join (ts.map (fun b : ByteArray => b.data.toList)) ([44, 32] : List UInt8)).length ≤ 1000000) (T : ByteArray) (hTx : T = (⟨#[91]⟩ : ByteArray) ++ ⟨(Lib.join (ts.map (fun b : ByteArray => b.data.toList)) ([44, 32] : List UInt8)).toArray⟩ ++ ⟨#[93]⟩) : TextC (.mk 4 i f s l) T := by
  intro v w hG hv
  obtain ⟨A, n, c, rfl, hc, hn, hs, hf, hS⟩ := hv.parts
  have hb0 : Below w.heap.size w (w.alloc (.cells (vcells 4 i f s A n c) 25)) := (Below.refl _ w).alloc (Nat.le_refl _) _
  have hl := hS.1
  have HT := Lib.hid hTx
  clear hTx
  have hB0 := Lib.hid (Blk.new w 25 (vcells 4 i f s A n c))
  clear hv
  go_enter Tryz.func22, Tryz.ntmps22
  go_wp2_with fail
  go_loopw [3, 5, 28] (fun o _ t wr => ∃ j : Nat, j ≤ n ∧ t = .int .i64 j ∧ wr.ownsRow (w.heap.size + 1) 9 1 o j (sc (ts.take j)) ∧ Below (w.heap.size + 1) (w.alloc (.cells (vcells 4 i f s A n c) 25)) wr) (fun _ _ t _ => n - (intOf t).toNat)
  case atStart => exact ⟨0, by omega, rfl, World.ownsRow_nil _ _ _ _, Below.refl _ _⟩
  case round =>
    obtain ⟨j, hj, rfl, hown, hbA⟩ := hrel
    have hB : Blk wr w.heap.size 25 (vcells 4 i f s A n c) := hB0.out.below hbA (by omega)
    have hb : Below w.heap.size w wr := hb0.trans (hbA.mono (by omega))
    have hz : w.heap.size < wr.heap.size := hB.lt
    by_cases hlt : j < n
    · obtain ⟨b, o, rfl, hbl, hL⟩ := hS.2 (by omega)
      obtain ⟨x, hx⟩ : ∃ x, l[j]? = some x := ⟨_, List.getElem?_eq_getElem (by omega)⟩
      obtain ⟨t, ht⟩ : ∃ t, ts[j]? = some t := ⟨_, List.getElem?_eq_getElem (by omega)⟩
      obtain ⟨k', i', f', s', A', n', c', ⟨q0, q1, q2, q3, q4⟩, hv'⟩ := hL.at_ j x hx
      have r0 : wr.cell? ⟨w.heap.size, 4, none⟩ = some (.slice (some ⟨b, o, none⟩) n c) := hB.cell 4
      have p0 := (hb.cell (p := ⟨b, o + j * 5, none⟩) hbl).trans q0
      have p1 := (hb.cell (p := ⟨b, o + j * 5 + 1, none⟩) hbl).trans q1
      have p2 := (hb.cell (p := ⟨b, o + j * 5 + 2, none⟩) hbl).trans q2
      have p3 := (hb.cell (p := ⟨b, o + j * 5 + 3, none⟩) hbl).trans q3
      have p4 := (hb.cell (p := ⟨b, o + j * 5 + 4, none⟩) hbl).trans q4
      have HD := Lib.hid (show ts.take (j + 1) = ts.take j ++ [t] by
        obtain ⟨hj', rfl⟩ := List.getElem?_eq_some_iff.1 ht
        rw [List.take_succ_eq_append_getElem hj'])
      have hb2 : Below wr.heap.size wr (wr.alloc (.cells (vcells k' i' f' s' A' n' c') 25)) := (Below.refl _ wr).alloc (Nat.le_refl _) _
      have hbx := hb.trans (hb2.mono hb.size)
      have HX := Lib.hid (hT j x t hx ht (.agg (vcells k' i' f' s' A' n' c')) _ (hG.up hbx) ((hv'.below hbx).more hbx.size))
      have HO := Lib.hid (ownsRow_below hown hb2)
      have HBX := Lib.hid (hbA.trans (hb2.mono hz))
      clear q0 q1 q2 q3 q4 hv' hx ht hT hown hB hb2 hbx hbA
      have hst := run_store_f64
      go_wp2_with (first | (go_at_call 22; refine HX.out.mono ?_; rintro e w2 ⟨rfl, hb3⟩) | (at_builtin; go_must (refine wpList_append_str rfl (.tmp 32) (.tmp 35) rfl (w.heap.size + 1) _ j _ rfl w2.heap.size t rfl ((ownsRow_below HO.out hb3).alloc _) (by simp) (by omega) (by have h9 : wr.heap.size + 1 ≤ w2.heap.size := (by simpa using hb3.size); simp; omega) ?_); intro v4 w4 hown4 hg4 hat4))
      go_roundw
      case rel =>
        have h12 := HBX.out.trans (hb3.mono (by simp; omega))
        exact ⟨j + 1, by omega, by go_num, by rw [HD.out]; exact hown4, below_app1 h12 (by have h9 : wr.heap.size + 1 ≤ w2.heap.size := (by simpa using hb3.size); omega) _ (ownsRow_below HO.out hb3) (Nat.le_refl _) hg4⟩
      case measure => simp [intOf]; omega
    · have hjn : j = n := by omega
      subst hjn
      rw [List.take_of_length_le (by omega)] at hown
      obtain ⟨A3, c3, rfl, hc3, hr3⟩ := own_slice hown
      obtain ⟨bk, ok, rfl, hbk, hlit⟩ : ∃ bk ok, A3 = some ⟨bk, ok, none⟩ ∧ bk < wr.heap.size ∧ ∀ (i : Nat) (x : ByteArray), ts[i]? = some x → wr.cell? ⟨bk, ok + i, none⟩ = some (.string x) := by
        obtain ⟨b, off, rfl, hbB, hcell⟩ := hr3.lit (by omega)
        exact ⟨b, off, rfl, hbB, fun i x hx => hcell i (.string x) (by simp only [sc, List.getElem?_map, hx, Option.map_some])⟩
      have hJ := Tryz.strings_Join bk ok c3 ts ⟨#[44, 32]⟩ wr hlit hbk (by omega) (by omega) (Nat.le_trans hzz (by omega))
      rw [show (⟨#[44, 32]⟩ : ByteArray).data.toList = [44, 32] from rfl, show ts.length = j by omega] at hJ
      have HJ := Lib.hid hJ
      have HBB := Lib.hid hb
      have r0 : wr.cell? ⟨w.heap.size, 4, none⟩ = some (.slice A j c) := hB.cell 4
      clear hJ hlit hown hr3 hT hS hG hB hbA hb0 hb
      generalize Lib.join (ts.map (fun b : ByteArray => b.data.toList)) ([44, 32] : List UInt8) = J at *
      have n1 : ¬ 9223372036854775807 < 1 + J.length := by omega
      have n2 : ¬ 9223372036854775807 < 1 + J.length + 1 := by omega
      go_wp2_with (go_at_call 47; refine HJ.out.mono ?_; rintro e w2 ⟨rfl, hb3⟩)
      go_ret
      exact ⟨by rw [HT.out]; rfl, HBB.out.trans (hb3.mono HBB.out.size)⟩

end Go.Proofs.YthmdfliimlimhaaGreatDoor
