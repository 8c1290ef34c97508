/- A slice argument of bytes or of ints, opened. -/
import Derived.Test.YtcmaildfhdddjaaDoorW23
import Derived.Test.YtcmaildfhdddjaaDoorW25
import Derived.Test.YtcmaildfhdddjaaDoorRows
import Derived.ProofKit
import Derived.OpenShut
import Derived.Carry
import Derived.Lib.SmallJoins
import Derived.HandedShaped
import Derived.Shelf.Vars
namespace Go.Proofs.YtcmaildfhdddjaaDoor
open Go.ChangeShapes Go.WideShapes Go.ChangeAt Go.RowKit
open Go.ChangeMaps (open_string shut_string)

theorem Tryd.own : ownKnob Tryd.prog.godebug = none := by kernel_rfl
theorem Tryd.laidOut : laidOutB Tryd.prog = true := by kernel_rfl
theorem Tryd.cells5 : Tryd.prog.cellsOf 5 = 1 := by kernel_rfl
theorem Tryd.cells3 : Tryd.prog.cellsOf 3 = 1 := by kernel_rfl

section
variable {H : Type} {enc : TypeId × Value → H} {W : World} {base : Nat}

/-- a slice argument of bytes -/
theorem arg_bytes {fuel : Nat} {v : Value} {x : DataW H × List MemPlace} (hf : DataW.trod enc Tryd.prog W 0 (fun _ => true) true fuel 22 [v] = some x) (hlt : ∀ p ∈ x.2, p.block < W.heap.size) :
    ∃ (X : Option Addr) (n c : Nat) (xs : List UInt8), v = .slice X n c ∧ n ≤ c ∧ Reads W W.heap.size 1 X n (bc xs) := by
  rcases open_ints Tryd.underlying22 Tryd.underlying5 Tryd.cells5 hf with ⟨hcs, _⟩ | ⟨a, len, cap, zs, hcs, _, hl, _, hz, hx, hcell, hwf⟩
  · obtain rfl : v = .slice none 0 0 := by simpa using hcs
    exact ⟨none, 0, 0, [], rfl, Nat.le_refl _, nilReads _ _⟩
  · obtain rfl : v = .slice (some a) len cap := by simpa using hcs
    rw [if_pos rfl] at hz
    refine ⟨some a, len, cap, (zs.take len).map (fun z => UInt8.ofNat z.toNat), rfl, hl, ?_, fun hn => ⟨a, rfl, ?_, fun j u hj => ?_⟩⟩
    · simp [Lib.byteCells]
      omega
    · have h0 : MemPlace.cell a.block a.off ∈ x.2 := by
        rw [hx]
        show _ ∈ MemPlace.row a zs.length
        simp only [MemPlace.row, List.mem_map, List.mem_range]
        exact ⟨0, by omega, by simp⟩
      exact hlt _ h0
    · have hj2 : j < len := by
        have h1 : j < (bc ((zs.take len).map (fun z => UInt8.ofNat z.toNat))).length := by
          rcases Nat.lt_or_ge j (bc ((zs.take len).map (fun z => UInt8.ofNat z.toNat))).length with h | h
          · exact h
          · rw [List.getElem?_eq_none h] at hj; cases hj
        simp [Lib.byteCells] at h1
        omega
      have hw := hwf (zs.getD j 0) (by
        have e : zs.getD j 0 = zs[j]'(by omega) := by simp [show j < zs.length by omega]
        rw [e]
        exact List.getElem_mem _)
      have hu : u = .int .u8 (zs.getD j 0) := by
        simp only [Lib.byteCells, List.getElem?_map, List.getElem?_take, if_pos hj2, List.getElem?_eq_getElem (show j < zs.length by omega), Option.map_some, Option.some.injEq] at hj
        have e : zs.getD j 0 = zs[j]'(by omega) := by simp [show j < zs.length by omega]
        rw [e] at hw ⊢
        rw [← hj]
        have hb : 0 ≤ zs[j]'(by omega) ∧ zs[j]'(by omega) ≤ 255 := by
          have e1 : IntKind.u8.min = 0 := rfl
          have e2 : IntKind.u8.max = 255 := rfl
          simpa [Lit.wf, e1, e2] using hw
        congr 1
        simp [UInt8.toNat_ofNat]
        omega
      rw [hu]
      exact hcell j (by omega)
theorem arg_ints {fuel : Nat} {v : Value} {x : DataW H × List MemPlace} (hf : DataW.trod enc Tryd.prog W 0 (fun _ => true) true fuel 24 [v] = some x) (hlt : ∀ p ∈ x.2, p.block < W.heap.size) :
    ∃ (X : Option Addr) (n c : Nat) (xs : List Int), v = .slice X n c ∧ n ≤ c ∧ Reads W W.heap.size 1 X n (ic xs) := by
  rcases open_ints Tryd.underlying24 Tryd.underlying3 Tryd.cells3 hf with ⟨hcs, _⟩ | ⟨a, len, cap, zs, hcs, _, hl, _, hz, hx, hcell, hwf⟩
  · obtain rfl : v = .slice none 0 0 := by simpa using hcs
    exact ⟨none, 0, 0, [], rfl, Nat.le_refl _, ⟨rfl, fun h => absurd h (by omega)⟩⟩
  · obtain rfl : v = .slice (some a) len cap := by simpa using hcs
    rw [if_pos rfl] at hz
    refine ⟨some a, len, cap, zs.take len, rfl, hl, ?_, fun hn => ⟨a, rfl, ?_, fun j u hj => ?_⟩⟩
    · simp [ic]
      omega
    · have h0 : MemPlace.cell a.block a.off ∈ x.2 := by
        rw [hx]
        show _ ∈ MemPlace.row a zs.length
        simp only [MemPlace.row, List.mem_map, List.mem_range]
        exact ⟨0, by omega, by simp⟩
      exact hlt _ h0
    · have hj2 : j < len := by
        have h1 : j < (ic (zs.take len)).length := by
          rcases Nat.lt_or_ge j (ic (zs.take len)).length with h | h
          · exact h
          · rw [List.getElem?_eq_none h] at hj; cases hj
        simp [ic] at h1
        omega
      have hu : u = .int .i64 (zs.getD j 0) := by
        simp only [ic, List.getElem?_map, List.getElem?_take, if_pos hj2, List.getElem?_eq_getElem (show j < zs.length by omega), Option.map_some, Option.some.injEq] at hj
        rw [← hj]
        simp [show j < zs.length by omega]
      rw [hu]
      exact hcell j (by omega)
end

end Go.Proofs.YtcmaildfhdddjaaDoor
