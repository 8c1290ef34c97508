/- Words for memory that the walks of this claim share: a slice that reads as a list; bytes as cells; small closed facts of this program. Nothing is assumed. -/
import Derived.Test.YthmdfliimlimhaaGreatDoorProg
import Derived.Test.YthmdfliimlimhaaGreatDoorV2
import Derived.WalkKit
import Derived.ProofKit
import Derived.WalkLawsBesides
import Derived.WalkSpells
import Derived.WalkSmall
import Derived.BigQuiet
import Derived.BigGuardPart
import Derived.Deep.QuietTactic
import Derived.Deep.Draws
import Derived.Deep.AppendLies
import Derived.Deep.RegionHeld3
import Derived.Deep.DrawnRows
import Derived.Deep.DeepFit
import Derived.Deep.LoopGhost
import Derived.Deep.CutRange
import Derived.Maps.AppendAt
import Derived.Lib.Hide
import Derived.Lib.UnsafeStr
import Derived.Outline
import Derived.Says
import Derived.Lib.AppendStr
import Derived.ArgAppend
import Derived.Laws.IdiomStrings
namespace Go.Proofs.YthmdfliimlimhaaGreatDoor
open Go.RowKit

theorem block_of_add (a : Addr) (n : Nat) : (a.add n).block = a.block := by unfold Addr.add; split <;> rfl
theorem add_of_add (a : Addr) (i j : Nat) : (a.add i).add j = a.add (i + j) := by
  unfold Addr.add
  by_cases hi : i = 0 <;> by_cases hj : j = 0 <;> simp [hi, hj, Nat.add_assoc]

/-- the slice value '.slice A n c' holds the cells xs, below block B -/
def Reads (w : World) (B size : Nat) (A : Option Addr) (n : Nat) (xs : List Value) : Prop :=
  xs.length = n * size ∧ (0 < n → ∃ ad, A = some ad ∧ ad.block < B ∧ ∀ j u, xs[j]? = some u → w.cell? (ad.add j) = some u)

section
variable {w w' : World} {B B' size n : Nat} {A : Option Addr} {xs : List Value}
theorem Reads.none_ : Reads w B size A 0 [] := ⟨by simp, fun h => absurd h (by omega)⟩
theorem Reads.at_ {k : Nat} (h : Reads w B 1 A n xs) (hk : k < n) : ∃ ad u, A = some ad ∧ ad.block < B ∧ xs[k]? = some u ∧ w.cell? (ad.add k) = some u := by
  obtain ⟨ad, e, hb, hc⟩ := h.2 (by omega)
  have hl : k < xs.length := by have := h.1; omega
  exact ⟨ad, xs[k], e, hb, List.getElem?_eq_getElem hl, hc k _ (List.getElem?_eq_getElem hl)⟩
theorem Reads.keep (h : Reads w B size A n xs) (hk : ∀ p : Addr, p.block < B → w'.cell? p = w.cell? p) : Reads w' B size A n xs :=
  ⟨h.1, fun hn => by
    obtain ⟨ad, e, hb, hc⟩ := h.2 hn
    exact ⟨ad, e, hb, fun j u hu => (hk _ (by rw [block_of_add]; exact hb)).trans (hc j u hu)⟩⟩
theorem Reads.more (h : Reads w B size A n xs) (hB : B ≤ B') : Reads w B' size A n xs :=
  ⟨h.1, fun hn => by
    obtain ⟨ad, e, hb, hc⟩ := h.2 hn
    exact ⟨ad, e, by omega, hc⟩⟩
theorem Reads.below (h : Reads w B size A n xs) (hb : Below B w w') : Reads w' B size A n xs := h.keep fun _ hp => hb.cell hp
theorem Reads.drew (h : Reads w B size A n xs) : Reads w.drew B size A n xs := h
theorem Reads.drewN (h : Reads w B size A n xs) (k : Nat) : Reads (w.drewN k) B size A n xs := h
theorem Reads.alloc (h : Reads w B size A n xs) (hB : B ≤ w.heap.size) (o : Obj) : Reads (w.alloc o) B size A n xs := h.keep fun p hp => World.cell?_alloc_lt w o p (by omega)
theorem Reads.setCell (h : Reads w B size A n xs) {p : Addr} (hB : B ≤ p.block) (u : Value) : Reads (w.setCell p u) B size A n xs :=
  h.keep fun q hq => World.cell?_setCell_other w p q u (fun e => by subst e; omega)
theorem Reads.cut (h : Reads w B size A n xs) {k cap : Nat} (hk : k ≤ n) (hc : n ≤ cap) :
    Reads w B size (if cap = k then A else A.map (·.add (k * size))) (n - k) (xs.drop (k * size)) := by
  refine ⟨by rw [List.length_drop, h.1, Nat.sub_mul], fun hn => ?_⟩
  obtain ⟨ad, rfl, hb, hcell⟩ := h.2 (by omega)
  rw [if_neg (by omega)]
  refine ⟨ad.add (k * size), rfl, by rw [block_of_add]; exact hb, fun j u hu => ?_⟩
  rw [add_of_add]
  exact hcell _ u (by rw [← hu, List.getElem?_drop])
theorem Reads.take_ (h : Reads w B size A n xs) {k : Nat} (hk : k ≤ n) : Reads w B size A k (xs.take (k * size)) := by
  refine ⟨by rw [List.length_take, h.1]; exact Nat.min_eq_left (Nat.mul_le_mul_right _ hk), fun hn => ?_⟩
  obtain ⟨ad, rfl, hb, hcell⟩ := h.2 (by omega)
  refine ⟨ad, rfl, hb, fun j u hu => hcell j u ?_⟩
  rw [List.getElem?_take] at hu
  split at hu
  · exact hu
  · cases hu
theorem Reads.of_own {base : Nat} {e : TypeId} {c : Nat} (h : w.ownsRow base e size (.slice A n c) n xs) : Reads w w.heap.size size A n xs := by
  refine ⟨h.1, fun hn => ?_⟩
  obtain ⟨g, cap, hv, _, hlt⟩ := h.form hn
  have hA : A = some ⟨g, 0, none⟩ := by injection hv
  subst hA
  exact ⟨_, rfl, hlt, h.cells (g := g) rfl⟩
end

section
variable {P : Program} (w : World)

theorem run_append_of_nil (base : Nat) (t ty e : TypeId) (i : TypeInfo) (size : Nat) (ht : P.underlying t = some (.slice e)) (hi : P.info? e = some i)
    (v : Value) (n : Nat) (xs : List Value) (hown : w.ownsRow base e size v n xs) (c : Nat) : (Builtin.append_ #[t, t] ty #[v, .slice none 0 c]).run P w = .ok v w := by
  rcases hown.2 with ⟨rfl, rfl⟩ | ⟨g, cap, cur, rfl, _, _, hnc, _⟩
  · simp [Builtin.append_, run_underlying ht, sizeOf, typeInfo, hi, Builtin.lenOf, Builtin.firstCells]
  · simp [Builtin.append_, run_underlying ht, sizeOf, typeInfo, hi, Builtin.lenOf, Builtin.firstCells, hnc, storeCells]

theorem run_append_any (base : Nat) (t ty e : TypeId) (i : TypeInfo) (z : Value) (size bytes : Nat) (ht : P.underlying t = some (.slice e)) (hi : P.info? e = some i) (hz : i.zero = some z)
    (hsize : i.size = size) (hby : i.bytes = bytes) (hzs : z.cells.size = size) (hsz : 0 < size)
    (v : Value) (n : Nat) (xs : List Value) (hown : w.ownsRow base e size v n xs)
    (B : Nat) (A : Option Addr) (m c : Nat) (news : List Value) (hr : Reads w B size A m news) (h1 : ∀ u ∈ news, u.oneCell' = true)
    (h63 : n + m ≤ maxLen) (hbytes : (n + m) * bytes ≤ 140737488355328) (hbase : base ≤ w.heap.size) :
    ∃ v' w', (Builtin.append_ #[t, t] ty #[v, .slice A m c]).run P w = .ok v' w' ∧ w'.ownsRow base e size v' (n + m) (xs ++ news) ∧ w.grownBy w' v.ownBlock ∧
      (v'.ownBlock = v.ownBlock ∨ v'.ownBlock = some w.heap.size) := by
  rcases A with _ | ad
  · have hm : m = 0 := by
      rcases Nat.eq_zero_or_pos m with h0 | h0
      · exact h0
      · obtain ⟨ad, h, _⟩ := hr.2 h0
        cases h
    subst hm
    have hn : news = [] := List.eq_nil_of_length_eq_zero (by simpa using hr.1)
    subst hn
    exact ⟨v, w, run_append_of_nil w base t ty e i size ht hi v n xs hown c, by simpa using hown, World.grownBy.refl w _, .inl rfl⟩
  · have hcells : ∀ j u, news[j]? = some u → w.cell? (ad.add j) = some u := by
      intro j u hu
      rcases Nat.eq_zero_or_pos m with h0 | h0
      · subst h0
        have hn : news = [] := List.eq_nil_of_length_eq_zero (by simpa using hr.1)
        subst hn
        simp at hu
      · obtain ⟨ad', h, _, hc⟩ := hr.2 h0
        injection h with h
        subst h
        exact hc j u hu
    obtain ⟨v', w', hrun, h2, h3, _, h5⟩ := run_append_own_at (P := P) w base t ty e i z size bytes ht hi hz hsize hby hzs hsz v n xs hown ad m c news hr.1 hcells h1 h63 hbytes hbase
    exact ⟨v', w', hrun, h2, h3, h5⟩
end

/-- bytes as cells -/
abbrev bc (l : List UInt8) : List Value := Lib.byteCells l

def Says (w : World) (v : Value) (e : Ending) (w' : World) : Prop := e = .returned v ∧ Below w.heap.size w w'

def Blk (w : World) (g : Nat) (t : TypeId) (cs : Array Value) : Prop := w.heap[g]? = some (.cells cs t (0, 0))
section
variable {w w' : World} {g : Nat} {t : TypeId} {cs : Array Value}
theorem Blk.lt (h : Blk w g t cs) : g < w.heap.size := by
  rcases Nat.lt_or_ge g w.heap.size with hlt | hge
  · exact hlt
  · unfold Blk at h; rw [Array.getElem?_eq_none hge] at h; cases h
theorem Blk.cell (h : Blk w g t cs) (i : Nat) : w.cell? ⟨g, i, none⟩ = cs[i]? := cell_of_row w g i cs t (0, 0) h
theorem Blk.new (w : World) (t : TypeId) (cs : Array Value) : Blk (w.alloc (.cells cs t)) w.heap.size t cs := heap_alloc_new w _
theorem Blk.below {B : Nat} (h : Blk w g t cs) (hb : Below B w w') (hg : g < B) : Blk w' g t cs := (hb.block g hg).trans h
theorem Blk.alloc (h : Blk w g t cs) (o : Obj) : Blk (w.alloc o) g t cs := (Below.heap_alloc w o g h.lt).trans h
theorem Blk.frozen (h : Blk w g t cs) (i : Nat) : w.frozen? ⟨g, i, none⟩ = false := by
  unfold Blk at h
  simp [World.frozen?, h]
theorem Blk.set_ (h : Blk w g t cs) (i : Nat) (u : Value) : Blk (w.setCell ⟨g, i, none⟩ u) g t (cs.setIfInBounds i u) := by
  unfold Blk at h ⊢
  simp [World.setCell, Array.getElem?_modify, h]
theorem Blk.set_other {g' : Nat} (h : Blk w g t cs) (hne : g ≠ g') (i : Nat) (u : Value) : Blk (w.setCell ⟨g', i, none⟩ u) g t cs := by
  unfold Blk at h ⊢
  rw [Below.heap_setCell _ _ _ _ hne]
  exact h
theorem Blk.drew (h : Blk w g t cs) : Blk w.drew g t cs := h
theorem Blk.drewN (h : Blk w g t cs) (k : Nat) : Blk (w.drewN k) g t cs := h
end

/-! ### values in memory -/
abbrev vcells (k i : Int) (f : Nat) (s : ByteArray) (A : Option Addr) (n c : Nat) : Array Value := #[.int .i64 k, .int .i64 i, .float .f64 f, .string s, .slice A n c]

mutual
/-- the value reads as x; what its lists hold lies below block B -/
def VAt (w : World) (B : Nat) : Val → Value → Prop
  | .mk k i f s l, v => ∃ A n c, v = .agg (vcells k i f s A n c) ∧ n ≤ c ∧ n ≤ 281474976710656 ∧ s.size ≤ 140737488355328 ∧ f < 2 ^ 64 ∧ l.length = n ∧ (0 < n → ∃ b o, A = some ⟨b, o, none⟩ ∧ b < B ∧ LAt w B b o l)
/-- the cells at (b, o) on read as the list -/
def LAt (w : World) (B b : Nat) : Nat → List Val → Prop
  | _, [] => True
  | o, x :: xs => (∃ k i f s A n c, (w.cell? ⟨b, o, none⟩ = some (.int .i64 k) ∧ w.cell? ⟨b, o + 1, none⟩ = some (.int .i64 i) ∧ w.cell? ⟨b, o + 2, none⟩ = some (.float .f64 f) ∧ w.cell? ⟨b, o + 3, none⟩ = some (.string s) ∧ w.cell? ⟨b, o + 4, none⟩ = some (.slice A n c)) ∧
      VAt w B x (.agg (vcells k i f s A n c))) ∧ LAt w B b (o + 5) xs
end

/-- a slice value reads as the list -/
def SAt (w : World) (B : Nat) (A : Option Addr) (n : Nat) (l : List Val) : Prop := l.length = n ∧ (0 < n → ∃ b o, A = some ⟨b, o, none⟩ ∧ b < B ∧ LAt w B b o l)

mutual
theorem VAt.keep {w w' : World} {B B' : Nat} (hB : B ≤ B') (hk : ∀ p : Addr, p.block < B → w'.cell? p = w.cell? p) : ∀ {x : Val} {v : Value}, VAt w B x v → VAt w' B' x v
  | .mk k i f s l, v, h => by
    simp only [VAt] at h ⊢
    obtain ⟨A, n, c, h1, h2, h3, h4, h5, h6, h7⟩ := h
    refine ⟨A, n, c, h1, h2, h3, h4, h5, h6, fun hn => ?_⟩
    obtain ⟨b, o, ha, hb, hl⟩ := h7 hn
    exact ⟨b, o, ha, by omega, LAt.keep hB hk hb hl⟩
theorem LAt.keep {w w' : World} {B B' b : Nat} (hB : B ≤ B') (hk : ∀ p : Addr, p.block < B → w'.cell? p = w.cell? p) (hb : b < B) : ∀ {o : Nat} {l : List Val}, LAt w B b o l → LAt w' B' b o l
  | _, [], _ => by simp only [LAt]
  | o, x :: xs, h => by
    simp only [LAt] at h ⊢
    obtain ⟨⟨k, i, f, s, A, n, c, ⟨c0, c1, c2, c3, c4⟩, hv⟩, hl⟩ := h
    exact ⟨⟨k, i, f, s, A, n, c, ⟨(hk _ hb).trans c0, (hk _ hb).trans c1, (hk _ hb).trans c2, (hk _ hb).trans c3, (hk _ hb).trans c4⟩, VAt.keep hB hk hv⟩, LAt.keep hB hk hb hl⟩
end
section
variable {w w' : World} {B B' : Nat} {x : Val} {v : Value}
theorem VAt.below (h : VAt w B x v) (hb : Below B w w') : VAt w' B x v := h.keep (Nat.le_refl _) fun _ hp => hb.cell hp
theorem VAt.more (h : VAt w B x v) (hB : B ≤ B') : VAt w B' x v := h.keep hB fun _ _ => rfl
theorem VAt.up (h : VAt w w.heap.size x v) (hb : Below w.heap.size w w') : VAt w' w'.heap.size x v := h.keep hb.size fun _ hp => hb.cell hp
theorem SAt.keep {A : Option Addr} {n : Nat} {l : List Val} (h : SAt w B A n l) (hB : B ≤ B') (hk : ∀ p : Addr, p.block < B → w'.cell? p = w.cell? p) : SAt w' B' A n l :=
  ⟨h.1, fun hn => by
    obtain ⟨b, o, ha, hb, hl⟩ := h.2 hn
    exact ⟨b, o, ha, by omega, LAt.keep hB hk hb hl⟩⟩
theorem SAt.up {A : Option Addr} {n : Nat} {l : List Val} (h : SAt w w.heap.size A n l) (hb : Below w.heap.size w w') : SAt w' w'.heap.size A n l := h.keep hb.size fun _ hp => hb.cell hp
end

theorem LAt.at_ {w : World} {B b : Nat} : ∀ {o : Nat} {l : List Val}, LAt w B b o l → ∀ (j : Nat) (x : Val), l[j]? = some x →
    ∃ k i f s A n c, (w.cell? ⟨b, o + j * 5, none⟩ = some (.int .i64 k) ∧ w.cell? ⟨b, o + j * 5 + 1, none⟩ = some (.int .i64 i) ∧ w.cell? ⟨b, o + j * 5 + 2, none⟩ = some (.float .f64 f) ∧ w.cell? ⟨b, o + j * 5 + 3, none⟩ = some (.string s) ∧ w.cell? ⟨b, o + j * 5 + 4, none⟩ = some (.slice A n c)) ∧
      VAt w B x (.agg (vcells k i f s A n c))
  | _, [], _, _, _, hj => by simp at hj
  | o, y :: ys, h, j, x, hj => by
    simp only [LAt] at h
    cases j with
    | zero =>
      simp at hj
      subst hj
      simpa using h.1
    | succ j =>
      have e : o + (j + 1) * 5 = o + 5 + j * 5 := by omega
      rw [e]
      exact LAt.at_ h.2 j x (by simpa using hj)

/-- what a value's parts are -/
theorem VAt.parts {w : World} {B : Nat} {k i : Int} {f : Nat} {s : ByteArray} {l : List Val} {v : Value} (h : VAt w B (.mk k i f s l) v) :
    ∃ A n c, v = .agg (vcells k i f s A n c) ∧ n ≤ c ∧ n ≤ 281474976710656 ∧ s.size ≤ 140737488355328 ∧ f < 2 ^ 64 ∧ SAt w B A n l := by
  simp only [VAt] at h
  obtain ⟨A, n, c, h1, h2, h3, h4, h5, h6, h7⟩ := h
  exact ⟨A, n, c, h1, h2, h3, h4, h5, h6, h7⟩
theorem VAt.of {w : World} {B : Nat} {k i : Int} {f : Nat} {s : ByteArray} {l : List Val} {A : Option Addr} {n c : Nat} (h1 : n ≤ c) (h2 : n ≤ 281474976710656) (h3 : s.size ≤ 140737488355328) (h4 : f < 2 ^ 64) (h : SAt w B A n l) :
    VAt w B (.mk k i f s l) (.agg (vcells k i f s A n c)) := by
  simp only [VAt]
  exact ⟨A, n, c, rfl, h1, h2, h3, h4, h.1, h.2⟩
theorem SAt.none_ (w : World) (B : Nat) : SAt w B none 0 [] := ⟨rfl, fun h => absurd h (by omega)⟩

end Go.Proofs.YthmdfliimlimhaaGreatDoor
