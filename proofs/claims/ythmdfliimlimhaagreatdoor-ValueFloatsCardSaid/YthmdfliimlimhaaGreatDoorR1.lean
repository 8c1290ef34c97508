/- A Value argument, opened: what the form's reading says of a value's cells, as a value in memory. -/
import Derived.Test.YthmdfliimlimhaaGreatDoorBase
import Derived.Deep.Slices
import Derived.OpenShut
import Derived.Lib.SmallJoins
namespace Go.Proofs.YthmdfliimlimhaaGreatDoor
open Go.ChangeShapes Go.WideShapes Go.ChangeAt Go.RowKit

theorem cells2 : Tryz.prog.cellsOf 2 = 1 := by kernel_rfl
theorem cells3 : Tryz.prog.cellsOf 3 = 1 := by kernel_rfl
theorem cells9 : Tryz.prog.cellsOf 9 = 1 := by kernel_rfl
theorem cells22 : Tryz.prog.cellsOf 22 = 1 := by kernel_rfl
theorem cells23 : Tryz.prog.cellsOf 23 = 1 := by kernel_rfl
theorem cells25 : Tryz.prog.cellsOf 25 = 5 := by kernel_rfl
theorem bytes25 : 1 ≤ Tryz.prog.bytesOf 25 := of_decide_eq_true (by kernel_rfl)

theorem cell_lt {w : World} {a : Addr} {v : Value} (h : w.cell? a = some v) : a.block < w.heap.size := by
  rcases Nat.lt_or_ge a.block w.heap.size with h' | h'
  · exact h'
  · have e : w.heap[a.block]? = none := by simp [h']
    simp [World.cell?, e] at h

section
variable {H : Type} {enc : TypeId × Value → H} {W : World}

theorem trod_f64 {fuel : Nat} {c : Value} {x : DataW H × List MemPlace} (h : DataW.trod enc Tryz.prog W 0 (fun _ => true) true fuel 22 [c] = some x) : ∃ b, c = .float .f64 b ∧ x = (.lit (.float .f64 b), []) ∧ b < 2 ^ 64 := by
  cases fuel with
  | zero => simp [DataW.trod] at h
  | succ n =>
    cases c with
    | float k b =>
      simp only [DataW.trod, Tryz.underlying22] at h
      cases k with
      | f32 => simp at h
      | f64 =>
        by_cases hw : (Lit.float .f64 b).wf = true
        · simp [hw] at h
          exact ⟨b, rfl, h.symm, by simpa [Lit.wf] using hw⟩
        · simp [hw] at h
    | _ => simp [DataW.trod, Tryz.underlying22] at h

theorem weights_five (d0 d1 d2 d3 d4 : DataW H) : (DataW.agg [d0, d1, d2, d3, d4]).weights Tryz.prog 25 = d0.weights Tryz.prog 3 ++ (d1.weights Tryz.prog 2 ++ (d2.weights Tryz.prog 22 ++ (d3.weights Tryz.prog 9 ++ (d4.weights Tryz.prog 23 ++ [])))) := by
  simp [DataW.weights, DataW.weightsEach, Tryz.underlying25]
theorem weights_slice (es rs : List (DataW H)) : (DataW.slice es rs).weights Tryz.prog 23 = (es.length + rs.length) * Tryz.prog.bytesOf 25 :: (DataW.weightsAll Tryz.prog 25 es ++ DataW.weightsAll Tryz.prog 25 rs) := by
  simp [DataW.weights, Tryz.underlying23]
theorem weightsAll_mem {P : Program} {t : TypeId} {d : DataW H} {n : Nat} (hn : n ∈ d.weights P t) : ∀ {ds : List (DataW H)}, d ∈ ds → n ∈ DataW.weightsAll P t ds
  | d0 :: ds, h => by
    simp only [DataW.weightsAll, List.mem_append]
    rcases List.mem_cons.1 h with rfl | h
    · exact .inl hn
    · exact .inr (weightsAll_mem hn h)

/-- a list out of its elements, from its end -/
theorem list_of {B b o n : Nat} (h : ∀ j, j < n → ∃ (x : Val) (k i : Int) (f : Nat) (s : ByteArray) (A : Option Addr) (m c : Nat), (W.cell? ⟨b, o + j * 5, none⟩ = some (.int .i64 k) ∧ W.cell? ⟨b, o + j * 5 + 1, none⟩ = some (.int .i64 i) ∧ W.cell? ⟨b, o + j * 5 + 2, none⟩ = some (.float .f64 f) ∧ W.cell? ⟨b, o + j * 5 + 3, none⟩ = some (.string s) ∧ W.cell? ⟨b, o + j * 5 + 4, none⟩ = some (.slice A m c)) ∧ VAt W B x (.agg (vcells k i f s A m c))) :
    ∀ m, m ≤ n → ∃ l : List Val, l.length = m ∧ LAt W B b (o + (n - m) * 5) l
  | 0, _ => ⟨[], rfl, by simp only [LAt]⟩
  | m + 1, hm => by
    obtain ⟨l, hl, hL⟩ := list_of h m (by omega)
    obtain ⟨x, k, i, f, s, A, m', c, hc, hv⟩ := h (n - (m + 1)) (by omega)
    refine ⟨x :: l, by simp [hl], ?_⟩
    simp only [LAt]
    refine ⟨⟨k, i, f, s, A, m', c, hc, hv⟩, ?_⟩
    have e : o + (n - (m + 1)) * 5 + 5 = o + (n - m) * 5 := by omega
    rw [e]
    exact hL

set_option maxRecDepth 100000 in
theorem value_of_trod : ∀ (fuel : Nat) (cs : List Value) (x : DataW H × List MemPlace), DataW.trod enc Tryz.prog W 0 (fun _ => true) true fuel 25 cs = some x → (∀ n ∈ x.1.weights Tryz.prog 25, n ≤ reachBytes) →
    ∃ (val : Val) (k i : Int) (f : Nat) (s : ByteArray) (A : Option Addr) (n c : Nat), cs = [.int .i64 k, .int .i64 i, .float .f64 f, .string s, .slice A n c] ∧ VAt W W.heap.size val (.agg (vcells k i f s A n c)) := by
  intro fuel
  induction fuel using Nat.strongRecOn with
  | _ fuel ih =>
  intro cs x h hw
  obtain ⟨xs, n1, rfl, rfl, hl, hxl, hf⟩ := DataW.trod_struct Tryz.underlying25 h
  rw [cells25] at hl
  have hxl5 : xs.length = 5 := hxl
  clear hxl
  match xs, hxl5, cs, hl with
  | [y0, y1, y2, y3, y4], _, [c0, c1, c2, c3, c4], _ =>
    have h0 := hf 0 _ rfl
    have h1 := hf 1 _ rfl
    have h2 := hf 2 _ rfl
    have h3 := hf 3 _ rfl
    have h4 := hf 4 _ rfl
    simp only [cells2, cells3, cells9, cells22, cells23, List.drop_zero, List.drop_succ_cons, List.take_succ_cons, List.take_zero, List.getElem?_cons_zero, List.getElem?_cons_succ] at h0 h1 h2 h3 h4
    obtain ⟨k, e0, rfl, _⟩ := DataW.trod_int Tryz.underlying3 h0
    obtain ⟨i, e1, rfl, _⟩ := DataW.trod_int Tryz.underlying2 h1
    obtain ⟨f, rfl, rfl, hf64⟩ := trod_f64 h2
    obtain ⟨s, e3, rfl, _⟩ := DataW.trod_string Tryz.underlying9 h3
    obtain rfl : c0 = .int .i64 k := by simpa [cells3] using e0
    obtain rfl : c1 = .int .i64 i := by simpa [cells2] using e1
    obtain rfl : c3 = .string s := by simpa [cells9] using e3
    simp only [List.map_cons, List.map_nil] at hw
    rw [weights_five] at hw
    have hs : s.size ≤ reachBytes := by
      have hm := hw s.data.toList.length (List.mem_append_right _ (List.mem_append_right _ (List.mem_append_right _ (List.mem_append_left _ (by simp only [DataW.weights, List.mem_singleton])))))
      have e : s.data.toList.length = s.size := by rw [Array.length_toList]; rfl
      rw [e] at hm
      exact hm
    have hw4 : ∀ n ∈ y4.1.weights Tryz.prog 23, n ≤ reachBytes := fun n hn => hw n (List.mem_append_right _ (List.mem_append_right _ (List.mem_append_right _ (List.mem_append_right _ (List.mem_append_left _ hn)))))
    have hR : reachBytes = 140737488351232 := rfl
    rcases DataW.trod_slice Tryz.underlying23 h4 with ⟨e4, rfl⟩ | ⟨a, len, cap, elems, rest, n2, rfl, e4, rfl, _, hlc, _, hel, hj, _, _⟩
    · obtain rfl : c4 = .slice none 0 0 := by simpa [cells23] using e4
      exact ⟨.mk k i f s [], k, i, f, s, none, 0, 0, rfl, VAt.of (Nat.le_refl _) (Nat.zero_le _) (by omega) hf64 (SAt.none_ W _)⟩
    · obtain rfl : c4 = .slice (some a) len cap := by simpa [cells23] using e4
      rw [weights_slice] at hw4
      have hlen : len ≤ reachBytes := by
        have := hw4 _ (List.mem_cons_self ..)
        simp only [List.length_map, hel] at this
        have hb := bytes25
        have h5 : (len + rest.length) * 1 ≤ (len + rest.length) * Tryz.prog.bytesOf 25 := Nat.mul_le_mul_left _ hb
        omega
      rcases Nat.eq_zero_or_pos len with rfl | hpos
      · exact ⟨.mk k i f s [], k, i, f, s, some a, 0, cap, rfl, VAt.of (Nat.zero_le _) (Nat.zero_le _) (by omega) hf64 ⟨rfl, fun hh => absurd hh (by omega)⟩⟩
      · have each : ∀ j, j < len → ∃ (x : Val) (k i : Int) (f : Nat) (s : ByteArray) (A : Option Addr) (m c : Nat), (∀ q, q < 5 → W.cell? ((a.add (j * 5)).add q) = [Value.int .i64 k, .int .i64 i, .float .f64 f, .string s, .slice A m c][q]?) ∧ VAt W W.heap.size x (.agg (vcells k i f s A m c)) := by
          intro j hjl
          have hb := hj j hjl
          rw [List.getElem?_eq_getElem (by omega), cells25] at hb
          obtain ⟨cs', hc', ht'⟩ := Option.bind_eq_some_iff.1 hb
          obtain ⟨_, _, hat⟩ := World.cells?_some hc'
          obtain ⟨val, k', i', f', s', A', m', c', rfl, hv⟩ := ih n2 (by omega) cs' _ ht' (fun n hn => hw4 n (List.mem_cons_of_mem _ (List.mem_append_left _ (weightsAll_mem hn (List.mem_map.2 ⟨_, List.getElem_mem _, rfl⟩)))))
          exact ⟨val, k', i', f', s', A', m', c', hat, hv⟩
        obtain ⟨b, o, sp⟩ := a
        have hsp : sp = none := by
          obtain ⟨_, k', _, _, _, _, _, _, hat, _⟩ := each 0 hpos
          have := World.cell?_spot (hat 0 (by omega))
          simpa [Addr.add] using this
        subst hsp
        simp only [Addr.add_lit] at each
        have hbl : b < W.heap.size := by
          obtain ⟨_, k', _, _, _, _, _, _, hat, _⟩ := each 0 hpos
          exact cell_lt (hat 0 (by omega))
        obtain ⟨l, hl, hL⟩ := list_of (B := W.heap.size) (b := b) (o := o) (n := len) (fun j hjl => by
          obtain ⟨x, k', i', f', s', A', m', c', hat, hv⟩ := each j hjl
          exact ⟨x, k', i', f', s', A', m', c', ⟨hat 0 (by omega), hat 1 (by omega), hat 2 (by omega), hat 3 (by omega), hat 4 (by omega)⟩, hv⟩) len (Nat.le_refl _)
        rw [Nat.sub_self, Nat.zero_mul, Nat.add_zero] at hL
        exact ⟨.mk k i f s l, k, i, f, s, some ⟨b, o, none⟩, len, cap, rfl, VAt.of hlc (by omega) (by omega) hf64 ⟨hl, fun _ => ⟨b, o, rfl, hbl, hL⟩⟩⟩
end

end Go.Proofs.YthmdfliimlimhaaGreatDoor
