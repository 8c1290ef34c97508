/- Plain law: the order of values is one of all values. -/
import Derived.Test.YthmdfliimlimhaaGreatDoorV1
import Derived.Lib.Bytealg
namespace Go.Proofs.YthmdfliimlimhaaGreatDoor

/-- a value, as it is read: its kind, and what each kind has -/
inductive Val where
  | mk (k i : Int) (f : Nat) (s : ByteArray) (l : List Val)

/-- an order given by a key -/
def cmpI (a b : Int) : Int := if a < b then -1 else if b < a then 1 else 0

/-- what an order of three ways must be -/
structure Three {α : Type} (c : α → α → Int) (a : α) : Prop where
  self : c a a = 0
  anti : ∀ b, c b a = - c a b
  line : ∀ b d, c a b ≤ 0 → c b d ≤ 0 → c a d ≤ 0 ∧ (c a d = 0 → c a b = 0 ∧ c b d = 0)
  same : ∀ b d, c a b = 0 → c b d = 0 → c a d = 0
  ways : ∀ b, c a b = -1 ∨ c a b = 0 ∨ c a b = 1

theorem cmpI_cases (a b : Int) : (a < b ∧ cmpI a b = -1) ∨ (a = b ∧ cmpI a b = 0) ∨ (b < a ∧ cmpI a b = 1) := by
  unfold cmpI; split
  · exact .inl ⟨‹_›, rfl⟩
  · split
    · exact .inr (.inr ⟨‹_›, rfl⟩)
    · exact .inr (.inl ⟨by omega, rfl⟩)
theorem cmpI_three (a : Int) : Three cmpI a := by
  refine ⟨by simp [cmpI], fun b => ?_, fun b d h1 h2 => ?_, fun b d h1 h2 => ?_, fun b => ?_⟩
  · have := cmpI_cases a b; have := cmpI_cases b a; omega
  · have := cmpI_cases a b; have := cmpI_cases b d; have := cmpI_cases a d; omega
  · have := cmpI_cases a b; have := cmpI_cases b d; have := cmpI_cases a d; omega
  · have := cmpI_cases a b; omega

theorem cmpKey_three {α : Type} (key : α → Int) (a : α) : Three (fun x y => cmpI (key x) (key y)) a :=
  let h := cmpI_three (key a)
  ⟨h.self, fun b => h.anti _, fun b d => h.line _ _, fun b d => h.same _ _, fun b => h.ways _⟩

/-- lists, item by item; a beginning is ahead -/
def lexL {α : Type} (c : α → α → Int) : List α → List α → Int
  | [], [] => 0
  | [], _ :: _ => -1
  | _ :: _, [] => 1
  | x :: xs, y :: ys => if c x y = 0 then lexL c xs ys else c x y

theorem lexL_three {α : Type} (c : α → α → Int) : ∀ (l : List α), (∀ x ∈ l, Three c x) → Three (lexL c) l
  | [], _ => by
    refine ⟨rfl, fun b => ?_, fun b d h1 h2 => ?_, fun b d h1 h2 => ?_, fun b => ?_⟩
    · cases b <;> simp [lexL]
    · cases b <;> cases d <;> simp_all [lexL]
    · cases b <;> cases d <;> simp_all [lexL]
    · cases b <;> simp [lexL]
  | x :: xs, h => by
    have hx := h x (by simp)
    have ih := lexL_three c xs (fun y hy => h y (by simp [hy]))
    refine ⟨?_, fun b => ?_, fun b d h1 h2 => ?_, fun b d h1 h2 => ?_, fun b => ?_⟩
    · simp [lexL, hx.self, ih.self]
    · cases b with
      | nil => rfl
      | cons y ys =>
        have := hx.anti y
        have := ih.anti ys
        simp only [lexL]
        repeat' split
        all_goals omega
    · cases b with
      | nil => simp [lexL] at h1
      | cons y ys =>
        cases d with
        | nil => simp [lexL] at h2
        | cons z zs =>
          have hl := hx.line y z
          have hs := hx.same y z
          have hl2 := ih.line ys zs
          simp only [lexL] at h1 h2 ⊢
          generalize c x y = p at *
          generalize c y z = q at *
          generalize c x z = r at *
          generalize lexL c xs ys = p' at *
          generalize lexL c ys zs = q' at *
          generalize lexL c xs zs = r' at *
          clear hx ih h
          split at h1 <;> split at h2 <;> split <;> omega
    · cases b with
      | nil => simp [lexL] at h1
      | cons y ys =>
        cases d with
        | nil => simp [lexL] at h2
        | cons z zs =>
          have hs := hx.same y z
          have hs2 := ih.same ys zs
          simp only [lexL] at h1 h2 ⊢
          split at h1
          · split at h2
            · rw [if_pos (hs ‹_› ‹_›)]; exact hs2 h1 h2
            · exact absurd h2 ‹_›
          · exact absurd h1 ‹_›
    · cases b with
      | nil => simp [lexL]
      | cons y ys =>
        have := hx.ways y
        have := ih.ways ys
        simp only [lexL]
        split <;> omega

theorem u8_lt (a b : UInt8) : (a < b) ↔ (a.toNat : Int) < b.toNat := by rw [UInt8.lt_iff_toNat_lt]; omega
theorem compareBytes_lex : ∀ (a b : List UInt8), Lib.compareBytes a b = lexL (fun x y : UInt8 => cmpI x.toNat y.toNat) a b
  | [], [] => rfl
  | [], _ :: _ => rfl
  | _ :: _, [] => rfl
  | x :: xs, y :: ys => by
    have h := cmpI_cases x.toNat y.toNat
    unfold Lib.compareBytes lexL
    rw [compareBytes_lex xs ys]
    simp only [u8_lt]
    rcases h with ⟨h1, h2⟩ | ⟨h1, h2⟩ | ⟨h1, h2⟩
    · rw [if_pos h1, if_neg (by omega), h2]
    · rw [if_neg (by omega), if_neg (by omega), if_pos h2]
    · rw [if_neg (by omega), if_pos h1, if_neg (by omega), h2]

/-- the sign bit -/
def signF (b : Nat) : Bool := decide (2 ^ 63 ≤ b)
def sgn (b : Nat) : Int := if signF b then 0 else 1
/-- the key of a Float in the order of values: NaN first, the negative nought ahead of the other -/
def keyO (f : Nat) : Int := if nanF f then -(2 * top) - 2 else 2 * keyF f + (if keyF f = 0 then sgn f else 0)

theorem keyF_bound (f : Nat) : -top ≤ keyF f ∧ keyF f ≤ top := by
  have h := double_fits f
  have h0 := top_pos
  unfold keyF
  generalize Ieee.double.read f = d at *
  cases d with
  | nan => simp only [dkey]; omega
  | infinity s => cases s <;> simp only [dkey, Bool.false_eq_true, if_false, if_true] <;> omega
  | number s m i => simp only [dfits] at h; simp only [dkey]; omega

/-- how the program holds Floats against one another -/
def cmpF (a b : Nat) : Int := if nanF a then (if nanF b then 0 else -1) else if nanF b then 1 else if ltF a b then -1 else if ltF b a then 1 else 0
def floatsO (a b : Nat) : Int := if eqF a 0 && eqF b 0 then cmpI (sgn a) (sgn b) else cmpF a b

theorem key_zero : keyF 0 = 0 ∧ nanF 0 = false := by decide
theorem eqF_zero (a : Nat) : eqF a 0 = (!nanF a && decide (keyF a = 0)) := by
  unfold eqF; rw [key_zero.1, key_zero.2]; simp
theorem sgn_01 (a : Nat) : sgn a = 0 ∨ sgn a = 1 := by unfold sgn; split <;> simp
theorem floatsO_key (a b : Nat) : floatsO a b = cmpI (keyO a) (keyO b) := by
  have ba := keyF_bound a
  have bb := keyF_bound b
  have sa := sgn_01 a
  have sb := sgn_01 b
  have h0 := top_pos
  unfold floatsO cmpF ltF keyO
  rw [eqF_zero, eqF_zero]
  cases na : nanF a <;> cases nb : nanF b <;> simp only [Bool.not_false, Bool.not_true, Bool.true_and, Bool.false_and, Bool.and_false, Bool.and_true, Bool.false_eq_true, if_false, if_true, Bool.and_eq_true, decide_eq_true_eq]
  · generalize keyF a = x at *
    generalize keyF b = y at *
    generalize sgn a = p at *
    generalize sgn b = q at *
    have h1 := cmpI_cases p q
    have h2 := cmpI_cases (2 * x + if x = 0 then p else 0) (2 * y + if y = 0 then q else 0)
    by_cases ex : x = 0 <;> by_cases ey : y = 0 <;> simp only [ex, ey, if_true, if_false, and_true, and_false] at h2 ⊢
    · omega
    all_goals (repeat' split) <;> omega
  · have hu : 0 ≤ (if keyF a = 0 then sgn a else 0) := by split <;> omega
    generalize (if keyF a = 0 then sgn a else 0) = u at *
    have h2 := cmpI_cases (2 * keyF a + u) (-(2 * top) - 2)
    omega
  · have hu : 0 ≤ (if keyF b = 0 then sgn b else 0) := by split <;> omega
    generalize (if keyF b = 0 then sgn b else 0) = u at *
    have h2 := cmpI_cases (-(2 * top) - 2) (2 * keyF b + u)
    omega
  · simp [cmpI]

/-- of no kind: Nil -/
def kd (k : Int) : Int := if k < 0 ∨ 4 < k then 0 else k

/-- what counts of each kind -/
def pick (k a b c d : Int) : Int := if k = 1 then a else if k = 2 then b else if k = 3 then c else if k = 4 then d else 0
theorem pick_cases (k : Int) : (∀ a b c d, pick k a b c d = a) ∨ (∀ a b c d, pick k a b c d = b) ∨ (∀ a b c d, pick k a b c d = c) ∨ (∀ a b c d, pick k a b c d = d) ∨ (∀ a b c d, pick k a b c d = 0) := by
  unfold pick
  by_cases h1 : k = 1
  · exact .inl fun a b c d => if_pos h1
  by_cases h2 : k = 2
  · exact .inr (.inl fun a b c d => by rw [if_neg h1, if_pos h2])
  by_cases h3 : k = 3
  · exact .inr (.inr (.inl fun a b c d => by rw [if_neg h1, if_neg h2, if_pos h3]))
  by_cases h4 : k = 4
  · exact .inr (.inr (.inr (.inl fun a b c d => by rw [if_neg h1, if_neg h2, if_neg h3, if_pos h4])))
  · exact .inr (.inr (.inr (.inr fun a b c d => by rw [if_neg h1, if_neg h2, if_neg h3, if_neg h4])))

mutual
/-- the order of values -/
def ordV : Val → Val → Int
  | .mk k i f s l, .mk k' i' f' s' l' =>
    if cmpI (kd k) (kd k') = 0 then
      pick (kd k) (cmpI i i') (floatsO f f') (Lib.compareBytes s.data.toList s'.data.toList) (ordL l l')
    else cmpI (kd k) (kd k')
def ordL : List Val → List Val → Int
  | [], [] => 0
  | [], _ :: _ => -1
  | _ :: _, [] => 1
  | x :: xs, y :: ys => if ordV x y = 0 then ordL xs ys else ordV x y
end

theorem ordL_lex : ∀ (a b : List Val), ordL a b = lexL ordV a b
  | [], [] => rfl
  | [], _ :: _ => rfl
  | _ :: _, [] => rfl
  | x :: xs, y :: ys => by
    unfold ordL lexL
    rw [ordL_lex xs ys]

theorem floatsO_three (f : Nat) : Three floatsO f := by
  have e : floatsO = fun x y => cmpI (keyO x) (keyO y) := funext fun x => funext fun y => floatsO_key x y
  rw [e]
  exact cmpKey_three keyO f
theorem bytes_three (l : List UInt8) : Three Lib.compareBytes l := by
  have e : Lib.compareBytes = lexL (fun x y : UInt8 => cmpI x.toNat y.toNat) := funext fun x => funext fun y => compareBytes_lex x y
  rw [e]
  exact lexL_three _ l fun x _ => cmpKey_three (fun u : UInt8 => (u.toNat : Int)) x

theorem ordV_step (k i : Int) (f : Nat) (s : ByteArray) (l : List Val) (hL : Three ordL l) : Three ordV (.mk k i f s l) := by
  have hK := cmpI_three (kd k)
  have hI := cmpI_three i
  have hF := floatsO_three f
  have hS := bytes_three s.data.toList
  have tr : ∀ {x y z : Int}, cmpI x y = 0 → cmpI y z = 0 → cmpI x z = 0 := fun {x y z} => (cmpI_three x).same y z
  have eqk : ∀ {x y : Int}, cmpI x y = 0 → x = y := fun {x y} h => by have := cmpI_cases x y; omega
  refine ⟨?_, fun b => ?_, fun b d h1 h2 => ?_, fun b d h1 h2 => ?_, fun b => ?_⟩
  · simp only [ordV, hK.self, hI.self, hF.self, hS.self, hL.self, if_true]
    rcases pick_cases (kd k) with e | e | e | e | e <;> rw [e]
  · obtain ⟨k', i', f', s', l'⟩ := b
    have a1 := hK.anti (kd k')
    simp only [ordV]
    by_cases e : cmpI (kd k) (kd k') = 0
    · have e' := eqk e
      rw [if_pos e, if_pos (by omega), ← e']
      have a2 := hI.anti i'; have a3 := hF.anti f'; have a4 := hS.anti s'.data.toList; have a5 := hL.anti l'
      rw [a2, a3, a4, a5]
      rcases pick_cases (kd k) with e | e | e | e | e <;> rw [e, e] <;> rfl
    · rw [if_neg e, if_neg (by omega), a1]
  · obtain ⟨k', i', f', s', l'⟩ := b
    obtain ⟨k'', i'', f'', s'', l''⟩ := d
    simp only [ordV] at h1 h2 ⊢
    have a0 := hK.line (kd k') (kd k'')
    by_cases e1 : cmpI (kd k) (kd k') = 0
    · rw [if_pos e1] at h1 ⊢
      have e1' := eqk e1
      rw [← e1'] at h2 ⊢
      by_cases e2 : cmpI (kd k) (kd k'') = 0
      · simp only [if_pos e2] at h2 ⊢
        rcases pick_cases (kd k) with e | e | e | e | e
        · rw [e] at h1 h2 ⊢; rw [e, e]; exact hI.line _ _ h1 h2
        · rw [e] at h1 h2 ⊢; rw [e, e]; exact hF.line _ _ h1 h2
        · rw [e] at h1 h2 ⊢; rw [e, e]; exact hS.line _ _ h1 h2
        · rw [e] at h1 h2 ⊢; rw [e, e]; exact hL.line _ _ h1 h2
        · rw [e, e, e]; simp
      · rw [if_neg e2] at h2 ⊢
        exact ⟨h2, fun h => absurd h e2⟩
    · rw [if_neg e1] at h1 ⊢
      have h2' : cmpI (kd k') (kd k'') ≤ 0 := by
        by_cases e2 : cmpI (kd k') (kd k'') = 0
        · omega
        · rw [if_neg e2] at h2; exact h2
      have a1 := a0 h1 h2'
      have e3 : cmpI (kd k) (kd k'') ≠ 0 := fun h => e1 (a1.2 h).1
      rw [if_neg e3]
      exact ⟨a1.1, fun h => absurd h e3⟩
  · obtain ⟨k', i', f', s', l'⟩ := b
    obtain ⟨k'', i'', f'', s'', l''⟩ := d
    simp only [ordV] at h1 h2 ⊢
    by_cases e1 : cmpI (kd k) (kd k') = 0
    · by_cases e2 : cmpI (kd k') (kd k'') = 0
      · rw [if_pos e1] at h1
        rw [if_pos e2] at h2
        rw [if_pos (tr e1 e2)]
        rw [← eqk e1] at h2
        rcases pick_cases (kd k) with e | e | e | e | e
        · rw [e] at h1 h2 ⊢; exact hI.same _ _ h1 h2
        · rw [e] at h1 h2 ⊢; exact hF.same _ _ h1 h2
        · rw [e] at h1 h2 ⊢; exact hS.same _ _ h1 h2
        · rw [e] at h1 h2 ⊢; exact hL.same _ _ h1 h2
        · rw [e]
      · rw [if_neg e2] at h2; exact absurd h2 e2
    · rw [if_neg e1] at h1; exact absurd h1 e1
  · obtain ⟨k', i', f', s', l'⟩ := b
    have a1 := hK.ways (kd k')
    simp only [ordV]
    by_cases e : cmpI (kd k) (kd k') = 0
    · rw [if_pos e]
      rcases pick_cases (kd k) with e | e | e | e | e
      · rw [e]; exact hI.ways i'
      · rw [e]; exact hF.ways f'
      · rw [e]; exact hS.ways _
      · rw [e]; exact hL.ways l'
      · rw [e]; simp
    · rw [if_neg e]; exact a1

mutual
theorem ordV_three : ∀ (v : Val), Three ordV v
  | .mk k i f s l => ordV_step k i f s l (by
      have e : ordL = lexL ordV := funext fun x => funext fun y => ordL_lex x y
      rw [e]
      exact lexL_three _ l (ordL_three l))
theorem ordL_three : ∀ (l : List Val), ∀ x ∈ l, Three ordV x
  | [], _, h => by cases h
  | y :: ys, x, h => by
    rcases List.mem_cons.1 h with e | e
    · rw [e]; exact ordV_three y
    · exact ordL_three ys x e
end

end Go.Proofs.YthmdfliimlimhaaGreatDoor
