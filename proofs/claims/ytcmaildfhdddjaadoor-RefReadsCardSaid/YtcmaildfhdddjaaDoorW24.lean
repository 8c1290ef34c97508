/- Contracts of functions of this program, walked. No condition but the ones each theorem states. -/
import Derived.Test.YtcmaildfhdddjaaDoorW22
namespace Go.Proofs.YtcmaildfhdddjaaDoor
open Go.RowKit

attribute [local go_sem ↓] Go.wp_at_zero Go.wp_at_succ

theorem right_dim {g : Nat} {ns : List Int} (h : rightB g ns = true) : 1 ≤ g ∧ g ≤ 32 ∧ 1 ≤ ns.length ∧ ns.length ≤ 7 := by
  unfold rightB at h
  simp only [Bool.and_eq_true, decide_eq_true_eq] at h
  omega
theorem own_set {w : World} {base g n cap i : Nat} {xs : List UInt8} (h : w.ownsRow base 5 1 (.slice (some ⟨g, 0, none⟩) n cap) n (bc xs)) (hi : i < n) (c : UInt8) :
    (w.setCell ⟨g, i, none⟩ (.int .u8 c.toNat)).ownsRow base 5 1 (.slice (some ⟨g, 0, none⟩) n cap) n (bc (xs.set i c)) := by
  rcases h.2 with ⟨hv, _⟩ | ⟨g', cap', cur, hv, hb, hg, h1, h2, h3, h4⟩
  · cases hv
  · simp only [Value.slice.injEq, Option.some.injEq, Addr.mk.injEq, and_true, true_and] at hv
    obtain ⟨rfl, rfl⟩ := hv
    refine ⟨by have := h.1; rw [bc_len] at *; simpa using this, .inr ⟨g, cap, cur.setIfInBounds i (.int .u8 c.toNat), rfl, hb, ?_, h1, h2, by simpa using h3, ?_⟩⟩
    · simp [World.setCell, Array.getElem?_modify, hg]
    · rw [Array.toList_setIfInBounds, List.take_set, h4]
      simp [Lib.byteCells, List.map_set]
theorem own_cell {w : World} {base g n cap i : Nat} {xs : List UInt8} (h : w.ownsRow base 5 1 (.slice (some ⟨g, 0, none⟩) n cap) n (bc xs)) (hi : i < n) :
    w.cell? ⟨g, i, none⟩ = some (.int .u8 (xs.getD i 0).toNat) ∧ w.frozen? ⟨g, i, none⟩ = false := by
  have hl : xs.length = n := by have := h.1; rw [bc_len] at this; omega
  refine ⟨?_, ?_⟩
  · rw [h.cellAt i (by omega)]
    simp only [Lib.byteCells, List.getElem?_map, getD_some _ i (show i < xs.length by omega), Option.map_some]
  · rcases h.2 with ⟨hv, _⟩ | ⟨g', cap', cur, hv, hb, hg, h1, h2, h3, h4⟩
    · cases hv
    · simp only [Value.slice.injEq, Option.some.injEq, Addr.mk.injEq, and_true, true_and] at hv
      obtain ⟨rfl, rfl⟩ := hv
      simp [World.frozen?, hg]

theorem putR (A : Option Addr) (n c : Nat) (s : ByteArray) (v : Nat) (ns : List Int) (w : World) (L : Nat) (hL : 8 + (2 + s.size + 4 + 1 + n) = L) (hv : v < 4294967296) (hc : n ≤ c) (hn : n ≤ 7) (hs : s.size ≤ 32)
    (hr : Reads w w.heap.size 1 A n (ic ns)) (hok : rightB s.size ns = true) :
    Calls Tryd.prog 8 #[.slice none 0 0, .agg #[.string s, .int .u32 v, .slice A n c]] w fun e w' => ∃ (g cap : Nat) (xs : List UInt8), e = .returned (.tuple #[.slice (some ⟨g, 0, none⟩) L cap, .int .i64 0]) ∧ w'.ownsRow w.heap.size 5 1 (.slice (some ⟨g, 0, none⟩) L cap) L (bc xs) ∧ L ≤ cap ∧ Below w.heap.size w w' := by
  subst hL
  refine (put'_yes none 0 [] s v A n c ns w (nilReads _ _) (by omega) hv hc hn hs hr hok).mono ?_
  rintro e w' ⟨v', rfl, hown, hb⟩
  rw [Nat.zero_add] at hown
  rcases hown.2 with ⟨_, h0⟩ | ⟨g, cap, cur, hv', _, _, h1, _⟩
  · omega
  · subst hv'
    exact ⟨g, cap, _, rfl, hown, h1, hb⟩

/-- both read the same of any bytes -/
def BothRead (w : World) (t : List UInt8) (v : Nat) (ns : List Int) (k : Int) (e : Ending) (w' : World) : Prop :=
  ∃ A c, e = .returned (.tuple #[.agg #[.string ⟨t.toArray⟩, .int .u32 v, .slice A ns.length c], .int .i64 k]) ∧ Reads w' w'.heap.size 1 A ns.length (ic ns) ∧ ns.length ≤ c ∧ Below w.heap.size w w'
theorem readRes_both {w w' : World} {ok : Bool} {t : List UInt8} {v : Nat} {ns : List Int} {e : Ending} (h : ReadRes w ok t v ns e w') :
    BothRead w (if ok then t else []) (if ok then v else 0) (if ok then ns else []) (if ok then 0 else 20) e w' := by
  unfold ReadRes at h
  cases ok with
  | true =>
    rw [if_pos rfl] at h
    obtain ⟨x, rfl, hown, hb⟩ := h
    obtain ⟨A, c, rfl, hc, hr⟩ := own_slice hown
    exact ⟨A, c, rfl, hr, hc, hb⟩
  | false =>
    rw [if_neg (by simp)] at h
    obtain ⟨rfl, hb⟩ := h
    exact ⟨none, 0, rfl, ⟨rfl, fun h => absurd h (by simp)⟩, by simp, hb⟩
theorem both_reads (A : Option Addr) (n c : Nat) (xs : List UInt8) (hc : n ≤ c) (hx : n ≤ 1000) : ∃ (t : List UInt8) (v : Nat) (ns : List Int) (k : Int), ns.length ≤ 1000 ∧ (k = 0 ∨ k = 20) ∧
    (∀ w : World, Reads w w.heap.size 1 A n (bc xs) → Calls Tryd.prog 12 #[.slice A n c] w (BothRead w t v ns k)) ∧
    (∀ w : World, Reads w w.heap.size 1 A n (bc xs) → Calls Tryd.prog 16 #[.slice A n c] w (BothRead w t v ns k)) := by
  refine ⟨if readOk xs then refT xs else [], if readOk xs then refV xs else 0, if readOk xs then refN xs else [], if readOk xs then 0 else 20, ?_, ?_, ?_, ?_⟩
  · cases h : readOk xs with
    | false => simp
    | true =>
      unfold readOk payOk at h
      simp only [Bool.and_eq_true] at h
      have := right_dim h.2.2
      simp only [if_true]
      show (refN xs).length ≤ 1000
      have h4 := this.2.2.2
      unfold refN
      omega
  · cases readOk xs <;> simp
  · exact fun w hr => (Read_calls A n c xs hc w hr (by omega)).mono fun e w' h => readRes_both h
  · exact fun w hr => (ReadRef_calls A n c xs hc w hr (by omega)).mono fun e w' h => readRes_both h

theorem text_len' (t : List UInt8) (v : Nat) (ns : List Int) (hok : rightB t.length ns = true) (hv : v < 4294967296) : (textB t v ns).length ≤ 300 := by
  obtain ⟨_, h2, _, h4⟩ := right_dim hok
  have l1 := hexL_len t
  have l2 := dec_len v (by omega)
  have h21 := join_len (ns.map decI) 20 (fun x hx => by
    simp only [List.mem_map] at hx
    obtain ⟨y, hy, rfl⟩ := hx
    obtain ⟨i, hi, rfl⟩ := List.getElem_of_mem hy
    have hu := upto_of hok i hi
    have e : ns.getD i 0 = ns[i] := by simp [hi]
    rw [e] at hu
    exact dec_len _ (by omega))
  rw [List.length_map] at h21
  unfold textB
  simp only [List.length_append, List.length_cons, List.length_nil]
  omega

theorem reads_set {w : World} {B g n i : Nat} {xs : List UInt8} (h : Reads w B 1 (some ⟨g, 0, none⟩) n (bc xs)) (hi : i < n) (c : UInt8) :
    Reads (w.setCell ⟨g, i, none⟩ (.int .u8 c.toNat)) B 1 (some ⟨g, 0, none⟩) n (bc (xs.set i c)) := by
  have hl : xs.length = n := by have := h.1; rw [bc_len] at this; omega
  obtain ⟨b, off, he, hbB, hcell⟩ := h.lit (by omega)
  cases he
  refine ⟨by rw [bc_len]; simpa using hl, fun _ => ⟨⟨g, 0, none⟩, rfl, hbB, fun k u hk => ?_⟩⟩
  have hadd : (⟨g, 0, none⟩ : Addr).add k = ⟨g, 0 + k, none⟩ := Addr.add_lit _ _ _
  rw [hadd]
  by_cases hik : k = i
  · subst hik
    have h0 := hcell k (.int .u8 (xs.getD k 0).toNat) (by simp only [Lib.byteCells, List.getElem?_map, getD_some _ k (show k < xs.length by omega), Option.map_some])
    have hu : u = .int .u8 c.toNat := by
      simp only [Lib.byteCells, List.getElem?_map] at hk
      rw [List.getElem?_set_self (by omega)] at hk
      simp at hk
      exact hk.symm
    subst hu
    rw [Nat.zero_add] at h0 ⊢
    exact World.cell?_setCell_same _ _ _ h0
  · have hk' : (bc xs)[k]? = some u := by
      simp only [Lib.byteCells, List.getElem?_map] at hk ⊢
      rw [List.getElem?_set_ne (by omega)] at hk
      exact hk
    rw [World.cell?_setCell_other _ _ _ _ (by intro e; injection e with _ e; omega)]
    exact hcell k u hk'
theorem bytes_reads (w : World) (s : ByteArray) : Reads (Lib.bytesWorld w 5 s) (w.heap.size + 1) 1 (some ⟨w.heap.size, 0, none⟩) s.size (bc (sb s)) := by
  refine ⟨by rw [bc_len, sb_len]; omega, fun _ => ⟨⟨w.heap.size, 0, none⟩, rfl, by simp, fun k u hk => ?_⟩⟩
  have hadd : (⟨w.heap.size, 0, none⟩ : Addr).add k = ⟨w.heap.size, 0 + k, none⟩ := Addr.add_lit _ _ _
  rw [hadd, Nat.zero_add]
  have hk2 : k < s.size := by
    have h1 : k < (bc (sb s)).length := by
      rcases Nat.lt_or_ge k (bc (sb s)).length with h | h
      · exact h
      · rw [List.getElem?_eq_none h] at hk; cases hk
    rw [bc_len, sb_len] at h1
    exact h1
  rw [Lib.bytesWorld_cell w 5 s k hk2]
  simp only [Lib.byteCells, List.getElem?_map, getD_some _ k (show k < (sb s).length by rw [sb_len]; exact hk2), Option.map_some] at hk
  exact hk
theorem bytes_frozen (w : World) (s : ByteArray) (i : Nat) (hi : i < s.size) : (Lib.bytesWorld w 5 s).frozen? ⟨w.heap.size, i, none⟩ = false := by
  have h := Lib.bytesWorld_at_new w 5 s
  have hc := Lib.bytesWorld_cell w 5 s i hi
  have hlt : i < (Lib.bytesCells w 5 s).size := by
    unfold World.cell? at hc
    rw [h] at hc
    rcases Nat.lt_or_ge i (Lib.bytesCells w 5 s).size with h' | h'
    · exact h'
    · simp [Array.getElem?_eq_none h'] at hc
  simp [World.frozen?, h]
  omega

end Go.Proofs.YtcmaildfhdddjaaDoor
