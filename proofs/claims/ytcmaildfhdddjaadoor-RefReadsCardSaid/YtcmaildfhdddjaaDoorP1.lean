/- Plain facts on splitting, joining and decimals. -/
import Derived.Test.YtcmaildfhdddjaaDoorW18
import Derived.Lib.ParseIntB
import Derived.Lib.SplitLaws
import Derived.Lib.IndexBytes
namespace Go.Proofs.YtcmaildfhdddjaaDoor

theorem dec_chars (u : Nat) : ∀ c ∈ Lib.decDigits u, 48 ≤ c.toNat ∧ c.toNat ≤ 57 := by
  induction u using Nat.strongRecOn with
  | ind u ih =>
    intro c hc
    by_cases h : u < 10
    · rw [Lib.decDigits_one h] at hc
      simp only [List.mem_singleton] at hc
      subst hc
      simp [UInt8.toNat_ofNat]
      omega
    · rw [Lib.decDigits, dif_neg h] at hc
      simp only [List.mem_append, List.mem_singleton] at hc
      rcases hc with hc | rfl
      · exact ih (u / 10) (by omega) c hc
      · simp [UInt8.toNat_ofNat]
        omega
theorem dec_ne (u : Nat) : Lib.decDigits u ≠ [] := by
  intro h
  have := congrArg List.length h
  rw [Lib.decDigits_length] at this
  have := Lib.nDigits_pos u
  simp at *
  omega

theorem parseUintM_app (M : Nat) : ∀ (l1 l2 : List UInt8) (acc a : Nat), Lib.parseUintM M acc l1 = .ok a → Lib.parseUintM M acc (l1 ++ l2) = Lib.parseUintM M a l2
  | [], l2, acc, a, h => by
    simp only [Lib.parseUintM] at h
    cases h
    rfl
  | c :: r, l2, acc, a, h => by
    rw [List.cons_append]
    simp only [Lib.parseUintM] at h ⊢
    split at h
    · split at h
      · cases h
      · split at h
        · cases h
        · rename_i h1 h2 h3
          rw [if_pos h1, if_neg h2, if_neg h3]
          exact parseUintM_app M r l2 _ a h
    · cases h
theorem parseUintM_dec (M : Nat) (hM : M < 1844674407370955162) (u : Nat) : u ≤ M → Lib.parseUintM M 0 (Lib.decDigits u) = .ok u := by
  induction u using Nat.strongRecOn with
  | ind u ih =>
    intro hu
    by_cases h : u < 10
    · rw [Lib.decDigits_one h]
      have e : (UInt8.ofNat (48 + u)).toNat = 48 + u := by simp [UInt8.toNat_ofNat]; omega
      simp only [Lib.parseUintM, e]
      rw [if_pos (by omega), if_neg (by omega), if_neg (by omega)]
      congr 1
      omega
    · rw [Lib.decDigits, dif_neg h, parseUintM_app M _ _ 0 (u / 10) (ih (u / 10) (by omega) (by omega))]
      have e : (UInt8.ofNat (48 + u % 10)).toNat = 48 + u % 10 := by simp [UInt8.toNat_ofNat]; omega
      simp only [Lib.parseUintM, e]
      rw [if_pos (by omega), if_neg (by omega), if_neg (by omega)]
      congr 1
      omega
theorem parse32_dec (u : Nat) (h : u < 4294967296) : Lib.parseUintB 32 (Lib.decDigits u) = .ok u := by
  unfold Lib.parseUintB
  rw [if_neg (dec_ne u)]
  exact parseUintM_dec _ (by decide) u (by show u ≤ 4294967295; omega)

theorem parse10_app : ∀ (l1 l2 : List UInt8) (acc a : Nat), Lib.parseUint10 acc l1 = .ok a → Lib.parseUint10 acc (l1 ++ l2) = Lib.parseUint10 a l2
  | [], l2, acc, a, h => by
    simp only [Lib.parseUint10] at h
    cases h
    rfl
  | c :: r, l2, acc, a, h => by
    rw [List.cons_append]
    simp only [Lib.parseUint10] at h ⊢
    split at h
    · split at h
      · cases h
      · split at h
        · cases h
        · rename_i h1 h2 h3
          rw [if_pos h1, if_neg h2, if_neg h3]
          exact parse10_app r l2 _ a h
    · cases h
theorem parse10_dec (u : Nat) : u < 1844674407370955162 → Lib.parseUint10 0 (Lib.decDigits u) = .ok u := by
  induction u using Nat.strongRecOn with
  | ind u ih =>
    intro hu
    by_cases h : u < 10
    · rw [Lib.decDigits_one h]
      have e : (UInt8.ofNat (48 + u)).toNat = 48 + u := by simp [UInt8.toNat_ofNat]; omega
      simp only [Lib.parseUint10, e]
      rw [if_pos (by omega), if_neg (by omega), if_neg (by omega)]
      congr 1
      omega
    · rw [Lib.decDigits, dif_neg h, parse10_app _ _ 0 (u / 10) (ih (u / 10) (by omega) (by omega))]
      have e : (UInt8.ofNat (48 + u % 10)).toNat = 48 + u % 10 := by simp [UInt8.toNat_ofNat]; omega
      simp only [Lib.parseUint10, e]
      rw [if_pos (by omega), if_neg (by omega), if_neg (by omega)]
      congr 1
      omega
theorem atoi_dec (u : Nat) (h : u < 1000000) : Lib.atoiAll (Lib.decDigits u) = .ok (u : Int) := by
  have hne := dec_ne u
  have hch := dec_chars u
  have hp := parse10_dec u (by omega)
  cases hd : Lib.decDigits u with
  | nil => exact absurd hd hne
  | cons c r =>
    rw [hd] at hch hp
    have hc := hch c (by simp)
    have hs : ¬ (c.toNat = 43 ∨ c.toNat = 45) := by omega
    have h45 : ¬ c.toNat = 45 := by omega
    have hm : Lib.parseMag (c :: r) = .ok u := by
      unfold Lib.parseMag
      rw [if_neg (by simp)]
      exact hp
    simp only [Lib.atoiAll, if_neg hs, hm]
    rw [if_neg (by omega), if_neg (by omega), if_neg h45]

theorem index_at (c : UInt8) : ∀ (a r : List UInt8), c ∉ a → Lib.index (a ++ c :: r) [c] = a.length := by
  intro a r h
  rw [Lib.index_one]
  induction a with
  | nil => simp [Lib.indexByte]
  | cons b a ih =>
    have hb : b ≠ c := fun e => h (by simp [e])
    have := ih (fun h' => h (by simp [h']))
    simp [Lib.indexByte, this, hb]
theorem count_out (c : UInt8) (a : List UInt8) (h : c ∉ a) : a.count c = 0 := List.count_eq_zero.2 h

theorem count_join (c : UInt8) : ∀ (l : List (List UInt8)), l ≠ [] → (∀ x ∈ l, c ∉ x) → Lib.count (Lib.join l [c]) [c] + 1 = l.length
  | [], h, _ => absurd rfl h
  | [a], _, h => by
    rw [Lib.join_one, Lib.count_one, count_out c a (h a (by simp))]
    rfl
  | a :: b :: l, _, h => by
    have ih := count_join c (b :: l) (by simp) (fun x hx => h x (by simp [hx]))
    have ha := count_out c a (h a (by simp))
    have e : Lib.join (a :: b :: l) [c] = a ++ c :: Lib.join (b :: l) [c] := by
      rw [Lib.join_cons, Lib.join_cons]
      simp [Lib.joinTail]
    rw [Lib.count_one] at ih
    rw [e, Lib.count_one, List.count_append, ha, List.count_cons_self]
    simp only [List.length_cons] at ih ⊢
    omega
theorem split_join (c : UInt8) : ∀ (l : List (List UInt8)), l ≠ [] → (∀ x ∈ l, c ∉ x) → Lib.splitK [c] 0 (l.length - 1) (Lib.join l [c]) = l
  | [], h, _ => absurd rfl h
  | [a], _, h => by
    rw [Lib.join_one]
    rfl
  | a :: b :: l, _, h => by
    have ih := split_join c (b :: l) (by simp) (fun x hx => h x (by simp [hx]))
    have e : Lib.join (a :: b :: l) [c] = a ++ c :: Lib.join (b :: l) [c] := by
      rw [Lib.join_cons, Lib.join_cons]
      simp [Lib.joinTail]
    have hi := index_at c a (Lib.join (b :: l) [c]) (h a (by simp))
    rw [e]
    show Lib.splitK [c] 0 ((b :: l).length - 1 + 1) _ = _
    rw [Lib.splitK, hi, if_neg (by simp)]
    have e1 : (a ++ c :: Lib.join (b :: l) [c]).take (((a.length : Nat) : Int).toNat + 0) = a := by simp
    have e2 : (a ++ c :: Lib.join (b :: l) [c]).drop (((a.length : Nat) : Int).toNat + [c].length) = Lib.join (b :: l) [c] := by
      simp [List.drop_append]
    rw [e1, e2, ih]

theorem hex_chars (i : Nat) (h : i < 16) : hexD i ≠ 47 ∧ hexD i ≠ 44 := by
  have : ∀ y : Fin 16, hexD y.val ≠ 47 ∧ hexD y.val ≠ 44 := by decide +kernel
  exact this ⟨i, h⟩
theorem hexL_no (t : List UInt8) : (47 : UInt8) ∉ hexL t := by
  intro h
  unfold hexL at h
  rw [List.mem_flatMap] at h
  obtain ⟨c, _, hc⟩ := h
  have := c.toNat_lt
  simp only [List.mem_cons, List.mem_nil_iff, or_false] at hc
  rcases hc with hc | hc
  · exact (hex_chars _ (by omega)).1 hc.symm
  · exact (hex_chars _ (by omega)).1 hc.symm
theorem dec_no (u : Nat) (c : UInt8) (hc : c.toNat < 48) : c ∉ Lib.decDigits u := fun h => by
  have := dec_chars u c h
  omega
theorem join_no (l : List (List UInt8)) (h : ∀ x ∈ l, (47 : UInt8) ∉ x) : (47 : UInt8) ∉ Lib.join l [44] := by
  cases l with
  | nil => simp [Lib.join_nil]
  | cons a l =>
    rw [Lib.join_cons]
    intro hm
    rw [List.mem_append] at hm
    rcases hm with hm | hm
    · exact h a (by simp) hm
    · unfold Lib.joinTail at hm
      rw [List.mem_flatten] at hm
      obtain ⟨y, hy, hm⟩ := hm
      rw [List.mem_map] at hy
      obtain ⟨z, hz, rfl⟩ := hy
      rw [List.mem_append] at hm
      rcases hm with hm | hm
      · simp at hm
      · exact h z (by simp [hz]) hm

def bodyB (t : List UInt8) (v : Nat) (ns : List Int) : List UInt8 := Lib.join [hexL t, Lib.decDigits v, Lib.join (ns.map decI) [44]] [47]
theorem text_trim (t : List UInt8) (v : Nat) (ns : List Int) : Lib.trimPrefix (textB t v ns) [99, 104, 111, 105, 114, 58] = bodyB t v ns := by
  have e : textB t v ns = [99, 104, 111, 105, 114, 58] ++ bodyB t v ns := by
    unfold textB bodyB
    rw [Lib.join_cons]
    simp [Lib.joinTail]
  rw [e]
  unfold Lib.trimPrefix Lib.hasPrefix
  simp
theorem body_no (t : List UInt8) (v : Nat) (ns : List Int) : ∀ x ∈ [hexL t, Lib.decDigits v, Lib.join (ns.map decI) [44]], (47 : UInt8) ∉ x := by
  intro x hx
  simp only [List.mem_cons, List.mem_nil_iff, or_false] at hx
  rcases hx with rfl | rfl | rfl
  · exact hexL_no t
  · exact dec_no v 47 (by decide)
  · refine join_no _ fun x hx => ?_
    simp only [List.mem_map] at hx
    obtain ⟨y, _, rfl⟩ := hx
    exact dec_no _ 47 (by decide)
theorem body_count (t : List UInt8) (v : Nat) (ns : List Int) : Lib.count (bodyB t v ns) [47] = 2 := by
  have := count_join 47 [hexL t, Lib.decDigits v, Lib.join (ns.map decI) [44]] (by simp) (body_no t v ns)
  simpa [bodyB] using this
theorem body_split (t : List UInt8) (v : Nat) (ns : List Int) : Lib.splitK [47] 0 2 (bodyB t v ns) = [hexL t, Lib.decDigits v, Lib.join (ns.map decI) [44]] :=
  split_join 47 [hexL t, Lib.decDigits v, Lib.join (ns.map decI) [44]] (by simp) (body_no t v ns)
theorem nodes_no (ns : List Int) : ∀ x ∈ ns.map decI, (44 : UInt8) ∉ x := by
  intro x hx
  simp only [List.mem_map] at hx
  obtain ⟨y, _, rfl⟩ := hx
  exact dec_no _ 44 (by decide)
theorem nodes_count (ns : List Int) (h : ns ≠ []) : Lib.count (Lib.join (ns.map decI) [44]) [44] + 1 = ns.length := by
  have := count_join 44 (ns.map decI) (by simpa using h) (nodes_no ns)
  simpa using this
theorem nodes_split (ns : List Int) (h : ns ≠ []) : Lib.splitK [44] 0 (Lib.count (Lib.join (ns.map decI) [44]) [44]) (Lib.join (ns.map decI) [44]) = ns.map decI := by
  have h1 := nodes_count ns h
  have := split_join 44 (ns.map decI) (by simpa using h) (nodes_no ns)
  rw [List.length_map] at this
  rw [show Lib.count (Lib.join (ns.map decI) [44]) [44] = ns.length - 1 by omega]
  exact this

end Go.Proofs.YtcmaildfhdddjaaDoor
