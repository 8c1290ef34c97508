/- What the listed package variables hold, out of the row. -/
import Derived.Test.YtcmaildfhdddjaaDoorR1
import Derived.Lib.LaidTab
import Derived.Lib.LaidU8
import Derived.LaidMore
import Derived.Lay
import Derived.Stop.Joined
namespace Go.Proofs.YtcmaildfhdddjaaDoor
open Go.ChangeShapes Go.WideShapes Go.ChangeAt Go.RowKit

theorem tab_of_vars {P : Program} {W : World} {name : String} {k : IntKind} {zs : List Int} {rest : List (String × DataW Unit)} {g : Nat} {t e : TypeId} {n : Nat} {ps : List MemPlace}
    (hg : P.globalNamed name = some g) (hty : (P.globals[g]?).map (·.type) = some t) (ht : P.underlying t = some (.array n e)) (he : P.underlying e = some (.int k)) (hce : P.cellsOf e = 1) (hct : P.cellsOf t = n)
    (h : DataW.LaidVars P W ((name, Lib.tabData k zs) :: rest) ps) : Lib.TabIs P W name k zs := by
  obtain ⟨g', t', cs, fuel, p, q, hg', ht', hvar, hd, _, _⟩ := h
  obtain rfl := Option.some.inj (hg.symm.trans hg')
  obtain rfl := Option.some.inj (hty.symm.trans ht')
  unfold Lib.TabIs
  rw [hvar, ← Lib.cells_of_tab ht he hce hct hd]
theorem vars_tail {P : Program} {W : World} {x : String × DataW Unit} {rest : List (String × DataW Unit)} {ps : List MemPlace} (h : DataW.LaidVars P W (x :: rest) ps) : ∃ q, DataW.LaidVars P W rest q := by
  obtain ⟨_, _, _, _, _, q, _, _, _, _, hq, _⟩ := h
  exact ⟨q, hq⟩

theorem iface_cell {P : Program} {W : World} {n nm : String} {g : Nat} {t : TypeId} {ms : Array (String × TypeId)} {d : DataW Unit} {l : List (String × DataW Unit)}
    (hg : P.globalNamed n = some g) (hty : (P.globals[g]?).map (·.type) = some t) (hi : P.underlying t = some (.interface ms))
    (h : laidMet P l W) (hm : (n, DataW.iface nm d) ∈ l) :
    ∃ ev, W.cell? ⟨g, 0, none⟩ = some ev ∧ (ev = .nilIface ∨ ∃ te pe, ev = .iface te pe) := by
  obtain ⟨_, hv, _⟩ := h
  obtain ⟨g', t', cs, fuel, p, hg', ht', hvar, hd⟩ := Lib.LaidVars_reads hv _ _ hm
  obtain rfl := Option.some.inj (hg.symm.trans hg')
  obtain rfl := Option.some.inj (hty.symm.trans ht')
  obtain ⟨f1, u, v, e, hn, h1⟩ := iface_of_trod hi hd
  refine ⟨.iface u v, ?_, Or.inr ⟨u, v, rfl⟩⟩
  rw [World.var?_cell hg hvar 0]
  obtain ⟨l⟩ := cs
  simp only at e
  subst e
  rfl

theorem glob_of {W : World} (hsh : W.ShapedOpen Tryd.prog) (hL : laidMet Tryd.prog Rows.refBackRow.laid W) (hbig : 4 ≤ W.heap.size) : Glob W := by
  have hL0 := hL
  obtain ⟨ps, hv, _⟩ := hL
  obtain ⟨_, hv⟩ := vars_tail hv
  obtain ⟨_, hv⟩ := vars_tail hv
  refine ⟨?_, ?_, ?_, ?_, hbig⟩
  · exact tab_of_vars (g := 0) (by kernel_rfl) (t := 119) (by kernel_rfl) (n := 20) (e := 55) (by kernel_rfl) (by kernel_rfl) (by kernel_rfl) (by kernel_rfl) hv
  · exact cell_of_shapedOpen_int (g := 3) (t := 3) (zero := #[.int .i64 0]) hsh (of_decide_eq_true (by kernel_rfl)) (by kernel_rfl) rfl (by kernel_rfl) (by kernel_rfl) (by kernel_rfl)
  · exact iface_cell (g := 1) (by kernel_rfl) (t := 70) (by kernel_rfl) Tryd.underlying70 hL0 (n := "strconv.ErrSyntax") (List.mem_of_getElem? (i := 5) rfl)
  · exact iface_cell (g := 2) (by kernel_rfl) (t := 70) (by kernel_rfl) Tryd.underlying70 hL0 (n := "strconv.ErrRange") (List.mem_of_getElem? (i := 4) rfl)

end Go.Proofs.YtcmaildfhdddjaaDoor
