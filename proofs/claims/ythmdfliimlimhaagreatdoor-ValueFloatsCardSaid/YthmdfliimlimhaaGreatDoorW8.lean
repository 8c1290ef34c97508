/- The texts of values that known asks for: Int, Float, Text, List: contracts. -/
import Derived.Test.YthmdfliimlimhaaGreatDoorF9
import Derived.Test.YthmdfliimlimhaaGreatDoorW7
import Derived.Lib.PrintData
namespace Go.Proofs.YthmdfliimlimhaaGreatDoor
open Go.RowKit

attribute [local go_sem ↓] Go.wp_at_zero Go.wp_at_succ

/-- what the seat's functions read of package-level variables -/
structure Globs (w : World) : Prop where
  g : Glob w
  pr : Lib.PrintTabsAt 8 9 10 11 Lib.goPrintTabs w
  u8 : Lib.Utf8Tabs 6 7 w
theorem Globs.up {w w' : World} (h : Globs w) (hb : Below w.heap.size w w') : Globs w' := ⟨h.g.below h.g.big hb, printTabs_below h.pr hb, Utf8Tabs_below h.u8 hb⟩

/-- a value's text -/
def TextC (x : Val) (t : ByteArray) : Prop := ∀ (v : Value) (w : World), Globs w → VAt w w.heap.size x v → Calls Tryz.prog 22 #[v] w (Says w (.string t))

set_option maxRecDepth 100000 in
set_option maxHeartbeats 1600000 in
theorem text_int (i : Nat) (hi : i < 100) (f : Nat) (s : ByteArray) (l : List Val) : TextC (.mk 1 i f s l) ⟨(Lib.decDigits i).toArray⟩ := by
  intro v w hG hv
  obtain ⟨A, n, c, rfl, hc, hn, hs, hf, hS⟩ := hv.parts
  have hb0 : Below w.heap.size w (w.alloc (.cells (vcells 1 i f s A n c) 25)) := (Below.refl _ w).alloc (Nat.le_refl _) _
  have HF := Lib.hid (fun W => Tryz.strconv_FormatInt_10_small i hi W)
  clear hv hS hG
  generalize Lib.decDigits i = D at *
  go_enter Tryz.func22, Tryz.ntmps22
  go_wp2_with (go_at_call 44; refine (HF.out _).mono ?_; rintro e w1 ⟨rfl, rfl⟩)
  go_ret
  exact ⟨rfl, hb0⟩

set_option maxRecDepth 100000 in
set_option maxHeartbeats 1600000 in
theorem text_two (i : Int) (s : ByteArray) (l : List Val) : TextC (.mk 2 i 4611686018427387904 s l) ⟨#[50, 46, 48]⟩ := by
  intro v w hG hv
  obtain ⟨A, n, c, rfl, hc, hn, hs, hf, hS⟩ := hv.parts
  have hb0 : Below w.heap.size w (w.alloc (.cells (vcells 2 i 4611686018427387904 s A n c) 25)) := (Below.refl _ w).alloc (Nat.le_refl _) _
  have HF := Lib.hid (float_two _ (hG.up hb0).g)
  clear hv hS hG
  go_enter Tryz.func22, Tryz.ntmps22
  go_wp2_with (go_at_call 45; refine HF.out.mono ?_; rintro e w1 ⟨rfl, hb1⟩)
  go_ret
  exact ⟨rfl, hb0.trans (hb1.mono hb0.size)⟩

set_option maxRecDepth 100000 in
set_option maxHeartbeats 1600000 in
theorem text_half (i : Int) (s : ByteArray) (l : List Val) : TextC (.mk 2 i 4602678819172646912 s l) ⟨#[48, 46, 53]⟩ := by
  intro v w hG hv
  obtain ⟨A, n, c, rfl, hc, hn, hs, hf, hS⟩ := hv.parts
  have hb0 : Below w.heap.size w (w.alloc (.cells (vcells 2 i 4602678819172646912 s A n c) 25)) := (Below.refl _ w).alloc (Nat.le_refl _) _
  have HF := Lib.hid (float_half _ (hG.up hb0).g)
  clear hv hS hG
  go_enter Tryz.func22, Tryz.ntmps22
  go_wp2_with (go_at_call 45; refine HF.out.mono ?_; rintro e w1 ⟨rfl, hb1⟩)
  go_ret
  exact ⟨rfl, hb0.trans (hb1.mono hb0.size)⟩

set_option maxRecDepth 100000 in
set_option maxHeartbeats 1600000 in
theorem text_str (i : Int) (f : Nat) (s : ByteArray) (l : List Val) (hz : s.size ≤ 10000000000) : TextC (.mk 3 i f s l) (strOfNums (Lib.quoteZ Lib.goPrintTabs s)) := by
  intro v w hG hv
  obtain ⟨A, n, c, rfl, hc, hn, hs, hf, hS⟩ := hv.parts
  have hb0 : Below w.heap.size w (w.alloc (.cells (vcells 3 i f s A n c) 25)) := (Below.refl _ w).alloc (Nat.le_refl _) _
  have HF := Lib.hid (Tryz.strconv_Quote Lib.goPrintTabs s _ (by omega) (hG.up hb0).pr (hG.up hb0).u8)
  clear hv hS hG
  generalize strOfNums (Lib.quoteZ Lib.goPrintTabs s) = D at *
  go_enter Tryz.func22, Tryz.ntmps22
  go_wp2_with (go_at_call 46; refine HF.out.mono ?_; rintro e w1 ⟨rfl, hb1⟩)
  go_ret
  exact ⟨rfl, hb0.trans (hb1.mono hb0.size)⟩

/-- strings as cells -/
def sc (l : List ByteArray) : List Value := l.map Value.string
theorem sc_len (l : List ByteArray) : (sc l).length = l.length := by simp [sc]
theorem sc_append (a b : List ByteArray) : sc (a ++ b) = sc a ++ sc b := by simp [sc]
theorem Tryz.info9 : (Tryz.prog.info? 9).map (fun i => (i.zero, i.size, i.bytes)) = some (some (.string ByteArray.empty), 1, 16) := by kernel_rfl

theorem wpList_append_str {ops : Array Oper} {rest : List Oper} {o : Oper} {a : Act} {w : World} {Q : Exit → Act → World → Prop} (hgd : o.guard = none) (s x : Operand)
    (ho : o.op = .call { callee := .builtin .append, args := #[s, x], argTypes := #[61, 61] })
    (base : Nat) (v : Value) (n : Nat) (xs : List ByteArray) (hs : a.eval s = v) (g : Nat) (k : ByteArray) (hx : a.eval x = .slice (some ⟨g, 0, none⟩) 1 1) (hown : w.ownsRow base 9 1 v n (sc xs))
    (hr : w.cell? ⟨g, 0, none⟩ = some (.string k)) (hb : n ≤ 1000000) (hbase : base ≤ w.heap.size)
    (h : ∀ v' w', w'.ownsRow base 9 1 v' (n + 1) (sc (xs ++ [k])) → w.grownBy w' v.ownBlock → (v'.ownBlock = v.ownBlock ∨ v'.ownBlock = some w.heap.size) → wpList Tryz.prog ops Q rest (a.put o.dst v') w') : wpList Tryz.prog ops Q (o :: rest) a w :=
  wpList_plain hgd fun K hK => by
    obtain ⟨i0, hi, hz0, hz1, hz2⟩ := info_parts Tryz.info9
    obtain ⟨v', w', hrun, h2, h3, _, h4⟩ := run_append_own_at (P := Tryz.prog) w base 61 o.type 9 i0 _ 1 16 Tryz.underlying61 hi hz0 hz1 hz2 rfl (by omega) v n _ hown ⟨g, 0, none⟩ 1 1 [.string k] rfl (fun j u hj => by
      match j, hj with
      | 0, hj =>
        simp at hj
        subst hj
        simpa [Addr.add] using hr) (by simp [Value.oneCell']) (by simp only [maxLen]; omega) (by omega) hbase
    unfold Oper.wp execOp
    simp only [ho, resolve, invoke, builtin, Sem.run_bind, Sem.run_pure, Result.andThen_ok, List.map_toArray, List.map_cons, List.map_nil, hs, hx, hrun]
    exact hK _ _ (h v' w' (by rw [sc_append]; exact h2) h3 h4)

end Go.Proofs.YthmdfliimlimhaaGreatDoor
