/- Contracts of functions of this program, walked. No condition but the ones each theorem states. -/
import Derived.Test.YtcmaildfhdddjaaDoorW2
namespace Go
theorem World.ownsRow.rebase {w : World} {base base' : Nat} {e : TypeId} {size n : Nat} {v : Value} {xs : List Value} (h : w.ownsRow base e size v n xs) (hb : base' ≤ base) : w.ownsRow base' e size v n xs := by
  obtain ⟨h1, h2⟩ := h
  refine ⟨h1, h2.imp id ?_⟩
  rintro ⟨g, cap, cur, hv, hg, rest⟩
  exact ⟨g, cap, cur, hv, Nat.le_trans hb hg, rest⟩
end Go
namespace Go.Proofs.YtcmaildfhdddjaaDoor
open Go.RowKit

/-- the bytes of a string -/
abbrev sb (s : ByteArray) : List UInt8 := s.data.toList
theorem sb_len (s : ByteArray) : (sb s).length = s.size := by rw [Array.length_toList]; rfl
theorem strCells_bc (s : ByteArray) : Lib.strCells s = bc (sb s) := rfl

theorem run_append_text (w : World) (ty : TypeId) (base : Nat) (v : Value) (n : Nat) (xs : List UInt8) (hown : w.ownsRow base 5 1 v n (bc xs))
    (s : ByteArray) (hb : n + s.size ≤ 140737488355328) (hbase : base ≤ w.heap.size) :
    ∃ v' w', (Builtin.append_ #[22, 9] ty #[v, .string s]).run Tryd.prog w = .ok v' w' ∧ w'.ownsRow base 5 1 v' (n + s.size) (bc (xs ++ sb s)) ∧ w.grownBy w' v.ownBlock := by
  obtain ⟨i0, hi, hz0, hz1, hz2⟩ := info_parts Tryd.info5
  obtain ⟨v', w', h1, h2, h3, _⟩ := Lib.run_append_own_string (P := Tryd.prog) w base 22 9 ty 5 i0 Tryd.underlying22 Tryd.underlying9 hi hz0 hz1 hz2 v n _ hown s (by simp only [maxLen]; omega) hb hbase
  exact ⟨v', w', h1, by rw [bc_append]; exact h2, h3⟩

theorem wpList_append_text {ops : Array Oper} {rest : List Oper} {o : Oper} {a : Act} {w : World} {Q : Exit → Act → World → Prop} (hgd : o.guard = none) (s x : Operand)
    (ho : o.op = .call { callee := .builtin .append, args := #[s, x], argTypes := #[22, 9] })
    (base : Nat) (v : Value) (n : Nat) (xs : List UInt8) (hs : a.eval s = v) (hown : w.ownsRow base 5 1 v n (bc xs))
    (t : ByteArray) (hx : a.eval x = .string t) (hb : n + t.size ≤ 140737488355328) (hbase : base ≤ w.heap.size)
    (h : ∀ v' w', w'.ownsRow base 5 1 v' (n + t.size) (bc (xs ++ sb t)) → w.grownBy w' v.ownBlock → wpList Tryd.prog ops Q rest (a.put o.dst v') w') : wpList Tryd.prog ops Q (o :: rest) a w :=
  wpList_plain hgd fun K hK => by
    obtain ⟨v', w', hrun, h2, h3⟩ := run_append_text w o.type base v n xs hown t hb hbase
    unfold Oper.wp execOp
    simp only [ho, resolve, invoke, builtin, Sem.run_bind, Sem.run_pure, Result.andThen_ok, List.map_toArray, List.map_cons, List.map_nil, hs, hx, hrun]
    exact hK _ _ (h v' w' h2 h3)

/-- 'string(b)' of bytes that are known -/
theorem run_text {w : World} {B : Nat} {A : Option Addr} {n : Nat} {xs : List UInt8} (hr : Reads w B 1 A n (bc xs)) (c : Nat) : (convert 22 9 (.slice A n c)).run Tryd.prog w = .ok (.string ⟨xs.toArray⟩) w := by
  have hl : xs.length = n := by have := hr.1; rw [bc_len] at this; omega
  subst hl
  rcases Nat.eq_zero_or_pos xs.length with h0 | h0
  · have hx : xs = [] := List.eq_nil_of_length_eq_zero h0
    subst hx
    rw [run_convert_bytes_string w 22 9 5 _ _ c Tryd.underlying22 Tryd.underlying5 Tryd.underlying9]
    cases A <;> simp [Conv.bytesToString, loadCells]
    all_goals rfl
  · obtain ⟨ad, rfl, _, hc⟩ := hr.2 h0
    exact run_convert_bytes_back (P := Tryd.prog) w 22 9 5 ad c xs Tryd.underlying22 Tryd.underlying5 Tryd.underlying9 fun j hj => hc j _ (by simp [Lib.byteCells, hj])

theorem own_slice {w : World} {base n : Nat} {e : TypeId} {size : Nat} {v : Value} {xs : List Value} (h : w.ownsRow base e size v n xs) : ∃ A c, v = .slice A n c ∧ n ≤ c ∧ Reads w w.heap.size size A n xs := by
  have h0 := h
  rcases h.2 with ⟨rfl, rfl⟩ | ⟨g, cap, cur, rfl, _, _, hc, _⟩
  · exact ⟨none, 0, rfl, Nat.le_refl _, Reads.of_own h0⟩
  · exact ⟨_, cap, rfl, hc, Reads.of_own h0⟩

theorem putU_len (v k : Nat) : (putU v k).length = k := by simp [putU]

/-- what is asked of 'PutU' by callers: two bytes, four bytes -/
theorem putU4 (A : Option Addr) (n c : Nat) (xs : List UInt8) (v : Nat) (hv : v < 18446744073709551616) (w : World) (hr : Reads w w.heap.size 1 A n (bc xs)) (hn : n ≤ 1000000) :
    Calls Tryd.prog 20 #[.slice A n c, .int .u64 v, .int .i64 4] w fun e w' => ∃ v', e = .returned v' ∧ w'.ownsRow w.heap.size 5 1 v' (n + 4) (bc (xs ++ putU v 4)) ∧ Below w.heap.size w w' :=
  putU_calls A n c xs v hv 4 (by omega) w hr hn
theorem putU2 (A : Option Addr) (n c : Nat) (xs : List UInt8) (v : Nat) (hv : v < 18446744073709551616) (w : World) (hr : Reads w w.heap.size 1 A n (bc xs)) (hn : n ≤ 1000000) :
    Calls Tryd.prog 20 #[.slice A n c, .int .u64 v, .int .i64 2] w fun e w' => ∃ v', e = .returned v' ∧ w'.ownsRow w.heap.size 5 1 v' (n + 2) (bc (xs ++ putU v 2)) ∧ Below w.heap.size w w' :=
  putU_calls A n c xs v hv 2 (by omega) w hr hn
theorem nilReads (w : World) (B : Nat) : Reads w B 1 none 0 (bc []) := ⟨rfl, fun h => absurd h (by omega)⟩

set_option maxRecDepth 100000 in
set_option maxHeartbeats 400000 in
theorem psum_calls (A : Option Addr) (n c : Nat) (xs : List UInt8) (hn : n ≤ 1000000) (w : World) (hr : Reads w w.heap.size 1 A n (bc xs)) :
    Calls Tryd.prog 42 #[.slice A n c] w fun e w' => e = .returned (.int .u64 (crc (putU n 4 ++ xs))) ∧ Below w.heap.size w w' := by
  have hcr := crc_lt (putU n 4 ++ xs)
  go_enter Tryd.func42, Tryd.ntmps42
  go_wp2_with (first
    | (go_at_call 20; refine (putU4 none 0 0 [] n (by omega) _ (nilReads _ _) (by omega)).mono ?_; rintro e w1 ⟨v1, rfl, hown1, hb1⟩; simp only [Nat.zero_add, List.nil_append] at hown1)
    | (at_builtin; refine wpList_append_bytes rfl (.tmp 6) (.tmp 7) rfl w.heap.size v1 4 _ rfl hown1 w.heap.size A n c xs rfl (hr.below hb1) (by omega) hb1.size ?_; intro v2 w2 hown2 hg2 hat2; obtain ⟨A2, c2, rfl, hc2, hr2⟩ := own_slice hown2)
    | (go_at_call 58; refine (sum_calls A2 (4 + n) c2 _ (by omega) hc2 _ hr2).mono ?_; rintro e w3 ⟨rfl, rfl⟩))
  go_ret
  exact ⟨rfl, below_app hb1 hb1.size hown1 (Nat.le_refl _) hg2⟩

def frameOf (ys : List UInt8) : List UInt8 := putU ys.length 4 ++ putU (crc (putU ys.length 4 ++ ys)) 4 ++ ys

set_option maxRecDepth 100000 in
set_option maxHeartbeats 400000 in
theorem wrap_calls (A : Option Addr) (n c : Nat) (xs : List UInt8) (hn : n ≤ 1000) (C : Option Addr) (m d : Nat) (ys : List UInt8) (hm : m ≤ 65536) (w : World) (hr : Reads w w.heap.size 1 A n (bc xs)) (hq : Reads w w.heap.size 1 C m (bc ys)) :
    Calls Tryd.prog 21 #[.slice A n c, .slice C m d] w fun e w' => ∃ v', e = .returned (.tuple #[v', .int .i64 0]) ∧ w'.ownsRow w.heap.size 5 1 v' (n + (8 + m)) (bc (xs ++ frameOf ys)) ∧ Below w.heap.size w w' := by
  have hl : ys.length = m := by have := hq.1; rw [bc_len] at this; omega
  have hcr := crc_lt (putU m 4 ++ ys)
  go_enter Tryd.func21, Tryd.ntmps21
  go_wp2_with fail
  refine (putU4 A n c xs m (by omega) _ hr (by omega)).mono ?_
  rintro e w1 ⟨v1, rfl, hown1, hb1⟩
  obtain ⟨A1, c1, rfl, hc1, hr1⟩ := own_slice hown1
  go_wp2_with fail
  refine (psum_calls C m d ys (by omega) _ ((hq.below hb1).more hb1.size)).mono ?_
  rintro e w2 ⟨rfl, hb2⟩
  go_wp2_with fail
  refine (putU4 A1 (n + 4) c1 _ (crc (putU m 4 ++ ys)) (by omega) _ ((hr1.below hb2).more hb2.size) (by omega)).mono ?_
  rintro e w3 ⟨v3, rfl, hown3, hb3⟩
  have hb13 := (hb1.trans (hb2.mono hb1.size)).trans (hb3.mono (Nat.le_trans hb1.size hb2.size))
  go_wp2_with (at_builtin; refine wpList_append_bytes rfl (.tmp 18) (.tmp 19) rfl w.heap.size v3 (n + 4 + 4) _ rfl (hown3.rebase (Nat.le_trans hb1.size hb2.size)) w.heap.size C m d ys rfl (hq.below hb13) (by omega) hb13.size ?_; intro v4 w4 hown4 hg4 hat4)
  go_ret2
  refine ⟨v4, rfl, ?_, below_app hb13 hb13.size hown3 (Nat.le_trans hb1.size hb2.size) hg4⟩
  have e1 : n + 4 + 4 + m = n + (8 + m) := by omega
  rw [e1] at hown4
  simpa [frameOf, hl] using hown4
/-- 'append(b, src...)' onto bytes that came in and that have no room left -/
theorem wpList_append_full {ops : Array Oper} {rest : List Oper} {o : Oper} {a : Act} {w : World} {Q : Exit → Act → World → Prop} (hgd : o.guard = none) (s x : Operand)
    (ho : o.op = .call { callee := .builtin .append, args := #[s, x], argTypes := #[22, 22] })
    (B : Nat) (A : Option Addr) (n : Nat) (xs : List UInt8) (hs : a.eval s = .slice A n n) (hr : Reads w B 1 A n (bc xs))
    (B' : Nat) (C : Option Addr) (m c : Nat) (ys : List UInt8) (hx : a.eval x = .slice C m c) (hm : 0 < m) (hq : Reads w B' 1 C m (bc ys)) (hb : n + m ≤ 140737488355328)
    (h : ∀ v' w', w'.ownsRow w.heap.size 5 1 v' (n + m) (bc (xs ++ ys)) → w.grownBy w' none → wpList Tryd.prog ops Q rest (a.put o.dst v') w') : wpList Tryd.prog ops Q (o :: rest) a w := by
  obtain ⟨i0, hi, hz0, hz1, hz2⟩ := info_parts Tryd.info5
  obtain ⟨ad, rfl, _, hc⟩ := hq.2 hm
  refine wpList_append_grows w hgd s x 22 ho 5 i0 _ 1 1 Tryd.underlying22 hi hz0 hz1 hz2 rfl (by omega) A n n (bc xs) hs (fun e => ?_) hr.1 (fun b e j u hu => ?_) ad m c (bc ys) hx hq.1 hc (bc_one _) (by omega) (by simp only [maxLen]; omega) (by omega) ?_
  · subst e
    rcases Nat.eq_zero_or_pos n with h0 | h0
    · exact ⟨h0, h0⟩
    · obtain ⟨_, h1, _⟩ := hr.2 h0; cases h1
  · subst e
    have hn : 0 < n := by
      have h1 := (List.getElem?_eq_some_iff.1 hu).1
      have h2 := hr.1
      omega
    obtain ⟨b', h1, _, h3⟩ := hr.2 hn
    cases h1
    exact h3 j u hu
  · intro v' w' h1 h2
    rw [← bc_append] at h1
    exact h v' w' h1 h2

theorem putU4' (x : Value) (base n : Nat) (xs : List UInt8) (v : Nat) (hv : v < 18446744073709551616) (w : World) (hx : w.ownsRow base 5 1 x n (bc xs)) (hbase : base ≤ w.heap.size) (hn : n ≤ 1000000) :
    Calls Tryd.prog 24 #[x, .int .u64 v, .int .i64 4] w fun e w' => ∃ v', e = .returned v' ∧ w'.ownsRow base 5 1 v' (n + 4) (bc (xs ++ putU v 4)) ∧ Onto w w' x v' :=
  putU'_calls x base n xs v hv 4 (by omega) w hx hbase hn
theorem putU2' (x : Value) (base n : Nat) (xs : List UInt8) (v : Nat) (hv : v < 18446744073709551616) (w : World) (hx : w.ownsRow base 5 1 x n (bc xs)) (hbase : base ≤ w.heap.size) (hn : n ≤ 1000000) :
    Calls Tryd.prog 24 #[x, .int .u64 v, .int .i64 2] w fun e w' => ∃ v', e = .returned v' ∧ w'.ownsRow base 5 1 v' (n + 2) (bc (xs ++ putU v 2)) ∧ Onto w w' x v' :=
  putU'_calls x base n xs v hv 2 (by omega) w hx hbase hn

theorem below_none {B : Nat} {w w' : World} (h : w.grownBy w' none) (hB : B ≤ w.heap.size) : Below B w w' := (Below.refl _ _).grown h hB (by intro k hk; cases hk)
theorem own_ne_none (v : Value) : v.ownBlock = none ∨ v.ownBlock ≠ none := by by_cases h : v.ownBlock = none <;> simp [h]
theorem own_ne {w w' : World} {base' : Nat} {e e' : TypeId} {size size' n n' : Nat} {v u : Value} {xs ys : List Value} (h : w'.ownsRow w.heap.size e size v n xs) (h' : w.ownsRow base' e' size' u n' ys) : v.ownBlock = none ∨ v.ownBlock ≠ u.ownBlock := by
  cases hv : v.ownBlock with
  | none => exact .inl rfl
  | some k =>
    refine .inr fun e => ?_
    have h1 := (h.lt k hv).1
    have h2 := (h'.lt k e.symm).2
    omega

set_option maxRecDepth 100000 in
set_option maxHeartbeats 400000 in
theorem wrap'_calls (A : Option Addr) (n : Nat) (xs : List UInt8) (hn : n ≤ 1000) (C : Option Addr) (m d : Nat) (ys : List UInt8) (hm : m ≤ 65536) (w : World) (hr : Reads w w.heap.size 1 A n (bc xs)) (hq : Reads w w.heap.size 1 C m (bc ys)) :
    Calls Tryd.prog 25 #[.slice A n n, .slice C m d] w fun e w' => ∃ v', e = .returned (.tuple #[v', .int .i64 0]) ∧ w'.ownsRow w.heap.size 5 1 v' (n + (8 + m)) (bc (xs ++ frameOf ys)) ∧ Below w.heap.size w w' := by
  have hl : ys.length = m := by have := hq.1; rw [bc_len] at this; omega
  have hcr := crc_lt (putU m 4 ++ ys)
  go_enter Tryd.func25, Tryd.ntmps25
  go_wp2_with fail
  refine (putU4' (.slice none 0 0) w.heap.size 0 [] m (by omega) _ (World.ownsRow_nil _ _ _ _) (Nat.le_refl _) (by omega)).mono ?_
  rintro e w1 ⟨v1, rfl, hown1, ho1⟩
  simp only [Nat.zero_add, List.nil_append] at hown1
  have hb1 : Below w.heap.size w w1 := ho1.below (Below.refl _ _) (Nat.le_refl _) (World.ownsRow_nil w w.heap.size 5 1) (Nat.le_refl _)
  have hown1' := hown1
  obtain ⟨A1, c1, rfl, hc1, hr1⟩ := own_slice hown1
  go_wp2_with (first | (at_builtin; refine wpList_append_full rfl (.tmp 14) (.tmp 15) rfl w.heap.size A n xs rfl (hr.below hb1) w1.heap.size A1 4 c1 _ rfl (by omega) hr1 (by omega) ?_; intro v2 w2 hown2 hg2) | (at_builtin; refine wpList_append_bytes rfl (.tmp 18) (.tmp 19) rfl w.heap.size (.slice A1 4 c1) 4 _ rfl (hown1'.kept hg2 (own_ne_none _)) w.heap.size C m d ys rfl ((hq.below hb1).below (below_none hg2 hb1.size)) (by omega) (Nat.le_trans hb1.size hg2.size) ?_; intro v3 w3 hown3 hg3 hat3; obtain ⟨A3, c3, rfl, hc3, hr3⟩ := own_slice hown3) | (go_at_call 43; refine (sum'_calls A3 (4 + m) c3 _ (by omega) hc3 _ hr3).mono ?_; rintro e w4 ⟨rfl, rfl⟩) | (go_at_call 24; refine (putU4' v2 w1.heap.size (n + 4) _ (crc (putU m 4 ++ ys)) (by omega) _ (hown2.kept hg3 (own_ne hown2 hown1')) (Nat.le_trans hg2.size hg3.size) (by omega)).mono ?_; rintro e w5 ⟨v5, rfl, hown5, ho5⟩; refine Hid.out ?_))
  have hb3 : Below w.heap.size w w3 := below_app (hb1.trans (below_none hg2 hb1.size)) (Nat.le_trans hb1.size hg2.size) (hown1'.kept hg2 (own_ne_none _)) (Nat.le_refl _) hg3
  have hown2' := hown2.kept hg3 (own_ne hown2 hown1')
  have hb5 : Below w.heap.size w w5 := ho5.below hb3 hb3.size hown2' hb1.size
  refine Lib.hid ?_
  go_wp2_with (at_builtin; refine wpList_append_bytes rfl (.tmp 24) (.tmp 25) rfl w1.heap.size v5 (n + 4 + 4) _ rfl hown5 w.heap.size C m d ys rfl (hq.below hb5) (by omega) (Nat.le_trans hg2.size (Nat.le_trans hg3.size ho5.1.size)) ?_; intro v6 w6 hown6 hg6 hat6)
  go_ret2
  refine ⟨v6, rfl, ?_, below_app hb5 hb5.size hown5 hb1.size hg6⟩
  have e1 : n + 4 + 4 + m = n + (8 + m) := by omega
  rw [e1] at hown6
  simpa [frameOf, hl] using hown6.rebase hb1.size

end Go.Proofs.YtcmaildfhdddjaaDoor
