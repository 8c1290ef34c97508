/- What the listed package variables hold, out of the row. -/
import Derived.Test.YthmdfliimlimhaaGreatDoorR1
import Derived.Test.YthmdfliimlimhaaGreatDoorW12
import Derived.Test.YthmdfliimlimhaaGreatDoorRows
import Derived.ProofKit
import Derived.OpenShut
import Derived.Carry
import Derived.HandedShaped
import Derived.Shelf.Vars
import Derived.Lib.LaidTab
import Derived.Lib.LaidU8
import Derived.Lib.LaidPrint
import Derived.LaidMore
import Derived.Lay
import Derived.Stop.Joined
namespace Go.Proofs.YthmdfliimlimhaaGreatDoor
open Go.ChangeShapes Go.WideShapes Go.ChangeAt Go.RowKit Go.Shelf Go.Lib

theorem d4 : (Rows.laid_unicode_utf8_acceptRanges : DataW Unit) = Lib.acceptData := by kernel_rfl
theorem d8 : Rows.laid_strconv_isNotPrint16 = Lib.sliceData .u16 Lib.goPrintTabs.n16 := by kernel_rfl
theorem d9 : Rows.laid_strconv_isNotPrint32 = Lib.sliceData .u16 Lib.goPrintTabs.n32 := by kernel_rfl
theorem d10 : Rows.laid_strconv_isPrint16 = Lib.sliceData .u16 Lib.goPrintTabs.p16 := by kernel_rfl
theorem d11 : Rows.laid_strconv_isPrint32 = Lib.sliceData .u32 Lib.goPrintTabs.p32 := by kernel_rfl
theorem d12 : Rows.laid_unicode_utf8_first = Lib.firstData := by kernel_rfl

theorem tab_of_reads {P : Program} {W : World} {name : String} {k : IntKind} {zs : List Int} {g : Nat} {t e : TypeId} {n : Nat}
    (hg : P.globalNamed name = some g) (hty : (P.globals[g]?).map (·.type) = some t) (ht : P.underlying t = some (.array n e)) (he : P.underlying e = some (.int k)) (hce : P.cellsOf e = 1) (hct : P.cellsOf t = n)
    (h : VarReads P W name (Lib.tabData k zs)) : Lib.TabIs P W name k zs := by
  obtain ⟨g', t', cs, fuel, p, hg', ht', hvar, hd⟩ := h
  obtain rfl := Option.some.inj (hg.symm.trans hg')
  obtain rfl := Option.some.inj (hty.symm.trans ht')
  unfold Lib.TabIs
  rw [hvar, ← Lib.cells_of_tab ht he hce hct hd]

theorem cells155 : Tryz.prog.cellsOf 155 = 2 := by kernel_rfl
theorem cells32 : Tryz.prog.cellsOf 32 = 1 := by kernel_rfl

theorem rows_len : Go.Pinned.pow10Rows.length = 696 := by kernel_rfl

theorem powAt_of {W : World} (h : VarReads Tryz.prog W "internal/strconv.pow10Tab" Go.Pinned.pow10Tab) : PowAt W := by
  intro i hi
  obtain ⟨g, t, cs, fuel, p, hg, hty, hvar, hd⟩ := h
  obtain rfl := Option.some.inj ((show Tryz.prog.globalNamed "internal/strconv.pow10Tab" = some 13 by kernel_rfl).symm.trans hg)
  obtain rfl := Option.some.inj ((show (Tryz.prog.globals[13]?).map (·.type) = some 156 by kernel_rfl).symm.trans hty)
  obtain ⟨fuel', d, q, hdi, he⟩ := array_elem (n := 696) (e := 155) Tryz.underlying156 hd i hi
  have hr : Go.Pinned.pow10Rows[i]? = some (P10 i) := by
    unfold P10
    rw [List.getD_eq_getElem?_getD, List.getElem?_eq_getElem (by rw [rows_len]; exact hi)]
    rfl
  simp only [List.getElem?_map, hr, Option.map_some, Option.some.injEq] at hdi
  subst hdi
  rw [cells155] at he
  have hcs := ints_of_struct (zs := [((P10 i).1 : Int), ((P10 i).2 : Int)]) Tryz.underlying155 (fun j f hj => by
    match j, hj with
    | 0, hj => simp at hj; subst hj; exact ⟨Tryz.underlying32, rfl, cells32⟩
    | 1, hj => simp at hj; subst hj; exact ⟨Tryz.underlying32, rfl, cells32⟩
    | j + 2, hj => simp at hj) (by rw [cells155]; rfl) he
  have e0 := congrArg (·[0]?) hcs
  have e1 := congrArg (·[1]?) hcs
  simp only [List.getElem?_take, List.getElem?_drop] at e0 e1
  constructor
  · rw [World.var?_cell hg hvar (i * 2), ← Array.getElem?_toList]
    simpa using e0
  · rw [World.var?_cell hg hvar (i * 2 + 1), ← Array.getElem?_toList]
    simpa using e1

theorem globs_of {W : World} (hL : laidMet Tryz.prog Rows.valueLineRow.laid W) (hbig : 15 ≤ W.heap.size) : Globs W := by
  refine ⟨⟨powAt_of (Lib.laidMet.reads hL (List.mem_of_getElem? (i := 6) rfl)), tab_of_reads (g := 2) (by kernel_rfl) (t := 96) (by kernel_rfl) (n := 20) (e := 32) (by kernel_rfl) (by kernel_rfl) (by kernel_rfl) (by kernel_rfl) (Lib.laidMet.reads hL (List.mem_of_getElem? (i := 3) rfl)), hbig⟩, ?_, ?_⟩
  · exact printTabs_of_reads (ρ := Tryz.lays177_ren) { Tryz.lays177 with } ⟨by kernel_rfl, by kernel_rfl, by kernel_rfl, by kernel_rfl, by kernel_rfl, by kernel_rfl, by kernel_rfl, by kernel_rfl, by kernel_rfl, by kernel_rfl⟩
      (d10 ▸ Lib.laidMet.reads hL (List.mem_of_getElem? (i := 10) rfl)) (d8 ▸ Lib.laidMet.reads hL (List.mem_of_getElem? (i := 8) rfl)) (d11 ▸ Lib.laidMet.reads hL (List.mem_of_getElem? (i := 11) rfl)) (d9 ▸ Lib.laidMet.reads hL (List.mem_of_getElem? (i := 9) rfl))
  · exact utf8Tabs_of_reads (ρ := Tryz.lays177_ren) { Tryz.lays177 with } ⟨by kernel_rfl, by kernel_rfl, by kernel_rfl, by kernel_rfl, by kernel_rfl, by kernel_rfl, by kernel_rfl⟩
      (d12 ▸ Lib.laidMet.reads hL (List.mem_of_getElem? (i := 12) rfl)) (d4 ▸ Lib.laidMet.reads hL (List.mem_of_getElem? (i := 4) rfl))

end Go.Proofs.YthmdfliimlimhaaGreatDoor
