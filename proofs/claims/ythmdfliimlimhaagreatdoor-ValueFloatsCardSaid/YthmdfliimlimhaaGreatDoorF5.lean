/- Bytes appended to a slice of the call's own, the digits' buffer kept: laws. -/
import Derived.Test.YthmdfliimlimhaaGreatDoorF4
namespace Go.Proofs.YthmdfliimlimhaaGreatDoor
open Go.RowKit Go.Sort

attribute [local go_sem ↓] Go.wp_at_zero Go.wp_at_succ

theorem bc_len (l : List UInt8) : (bc l).length = l.length := by simp [Lib.byteCells]
theorem bc_one (l : List UInt8) : ∀ u ∈ bc l, u.oneCell' = true := by
  intro u hu
  simp only [Lib.byteCells, List.mem_map] at hu
  obtain ⟨b, _, rfl⟩ := hu
  rfl
theorem bc_append (a b : List UInt8) : bc (a ++ b) = bc a ++ bc b := by simp [Lib.byteCells]

theorem Tryz.info5 : (Tryz.prog.info? 5).map (fun i => (i.zero, i.size, i.bytes)) = some (some (.int .u8 0), 1, 1) := by kernel_rfl

theorem run_append_bytes (w : World) (ty : TypeId) (base : Nat) (v : Value) (n : Nat) (xs : List UInt8) (hown : w.ownsRow base 5 1 v n (bc xs))
    (B : Nat) (A : Option Addr) (m c : Nat) (ys : List UInt8) (hr : Reads w B 1 A m (bc ys)) (hb : n + m ≤ 140737488355328) (hbase : base ≤ w.heap.size) :
    ∃ v' w', (Builtin.append_ #[36, 36] ty #[v, .slice A m c]).run Tryz.prog w = .ok v' w' ∧ w'.ownsRow base 5 1 v' (n + m) (bc (xs ++ ys)) ∧ w.grownBy w' v.ownBlock ∧
      (v'.ownBlock = v.ownBlock ∨ v'.ownBlock = some w.heap.size) := by
  obtain ⟨i0, hi, hz0, hz1, hz2⟩ := info_parts Tryz.info5
  rw [bc_append]
  exact run_append_any w base 36 ty 5 i0 _ 1 1 Tryz.underlying36 hi hz0 hz1 hz2 rfl (by omega) v n _ hown B A m c _ hr (bc_one _) (by simp only [maxLen]; omega) (by omega) hbase

/-- one byte that was laid into a block of its own -/
theorem Reads.one (w : World) (c : UInt8) (e : TypeId) : Reads (w.alloc (.cells #[.int .u8 c.toNat] e)) (w.heap.size + 1) 1 (some ⟨w.heap.size, 0, none⟩) 1 (bc [c]) := by
  refine ⟨rfl, fun _ => ⟨_, rfl, by simp, fun j u hu => ?_⟩⟩
  match j, hu with
  | 0, hu =>
    simp [Lib.byteCells] at hu
    subst hu
    simp [Addr.add]

/-- the buffer of the digits -/
def DigB (w : World) (g : Nat) (l : List UInt8) : Prop := DigAt w g l ∧ OfType w g 111
/-- what has been written so far: into memory of the call's own; the digits stand -/
def Out (B : Nat) (w0 : World) (g : Nat) (l : List UInt8) (v : Value) (xs : List UInt8) (w : World) : Prop :=
  w.ownsRow B 5 1 v xs.length (bc xs) ∧ Below B w0 w ∧ B ≤ w.heap.size ∧ DigB w g l

theorem DigB.grown {w w' : World} {g : Nat} {l : List UInt8} {row : Option Nat} (h : DigB w g l) (hg : w.grownBy w' row) (hne : some g ≠ row) : DigB w' g l := by
  obtain ⟨h1, cs, fr, h2⟩ := h
  have hlt : g < w.heap.size := by
    rcases Nat.lt_or_ge g w.heap.size with hlt | hge
    · exact hlt
    · rw [Array.getElem?_eq_none hge] at h2; cases h2
  have hb := hg.block g hlt hne
  exact ⟨fun j hj => (World.cell?_of_block (w := w) hb).trans (h1 j hj), cs, fr, hb.trans h2⟩
theorem DigB.alloc {w : World} {g : Nat} {l : List UInt8} (h : DigB w g l) (o : Obj) : DigB (w.alloc o) g l := by
  obtain ⟨h1, cs, fr, h2⟩ := h
  have hlt : g < w.heap.size := by
    rcases Nat.lt_or_ge g w.heap.size with hlt | hge
    · exact hlt
    · rw [Array.getElem?_eq_none hge] at h2; cases h2
  exact ⟨fun j hj => (World.cell?_alloc_lt w o ⟨g, j, none⟩ hlt).trans (h1 j hj), cs, fr, (Below.heap_alloc w o g hlt).trans h2⟩

theorem own_ne_dig {w : World} {B g : Nat} {v : Value} {n : Nat} {xs : List Value} {l : List UInt8} (h : w.ownsRow B 5 1 v n xs) (hg : DigB w g l) : some g ≠ v.ownBlock := by
  obtain ⟨_, cs', fr', hc⟩ := hg
  rcases h.2 with ⟨rfl, _⟩ | ⟨g', cap, cur, rfl, _, hh, _⟩
  · simp [Value.ownBlock]
  · intro he
    simp [Value.ownBlock] at he
    subst he
    rw [hh] at hc
    cases hc

/-- 'dst = append(dst, c)' -/
theorem wpList_out_byte {ops : Array Oper} {rest : List Oper} {o : Oper} {a : Act} {w : World} {Q : Exit → Act → World → Prop} (hgd : o.guard = none) (s x : Operand)
    (ho : o.op = .call { callee := .builtin .append, args := #[s, x], argTypes := #[36, 36] })
    (B : Nat) (w0 : World) (g : Nat) (l : List UInt8) (v : Value) (xs : List UInt8) (c : UInt8) (k : Int) (hs : a.eval s = v) (hout : Out B w0 g l v xs w) (hx : a.eval x = .slice (some ⟨w.heap.size, 0, none⟩) 1 1) (hk : k = c.toNat) (hb : xs.length ≤ 1000)
    (h : ∀ v' w', Out B w0 g l v' (xs ++ [c]) w' → wpList Tryz.prog ops Q rest (a.put o.dst v') w') : wpList Tryz.prog ops Q (o :: rest) a (w.alloc (.cells #[.int .u8 k] 5)) :=
  wpList_plain hgd fun K hK => by
    subst hk
    obtain ⟨hown, hbel, hB, hd⟩ := hout
    obtain ⟨v', w', hrun, h2, h3, h4⟩ := run_append_bytes (w.alloc (.cells #[.int .u8 c.toNat] 5)) o.type B v xs.length xs (hown.alloc _) (w.heap.size + 1) (some ⟨w.heap.size, 0, none⟩) 1 1 [c] (Reads.one w c 5) (by omega) (by simp; omega)
    unfold Oper.wp execOp
    simp only [ho, resolve, invoke, builtin, Sem.run_bind, Sem.run_pure, Result.andThen_ok, List.map_toArray, List.map_cons, List.map_nil, hs, hx, hrun]
    refine hK _ _ (h v' w' ⟨by simpa using h2, ?_, ?_, ?_⟩)
    · exact (hbel.alloc hB _).grown h3 (by simp; omega) (fun k hk => (hown.lt k hk).1)
    · have := h3.size; simp at this; omega
    · exact (hd.alloc _).grown h3 (own_ne_dig hown hd)

end Go.Proofs.YthmdfliimlimhaaGreatDoor
