/- Plain law: floats of the model have a key, an integer, by which they stand to each other. -/
import GoSem.Core.Float
namespace Go.Proofs.YthmdfliimlimhaaGreatDoor
open Ieee

theorem signed_shift (s : Bool) (m a b : Nat) : signed s m (a + b) = signed s m a * (2 ^ b : Nat) := by
  have h : m <<< (a + b) = m <<< a * 2 ^ b := by rw [Nat.shiftLeft_eq, Nat.shiftLeft_eq, Nat.pow_add, Nat.mul_assoc]
  cases s <;> simp only [signed, h, Int.natCast_mul, Int.neg_mul, Bool.false_eq_true, if_false, if_true]

theorem compare_int (a b : Int) : compare a b = if a < b then .lt else if a = b then .eq else .gt := rfl
theorem compare_mul (x y : Int) (k : Nat) (hk : 0 < k) : compare (x * k) (y * k) = compare x y := by
  have hk' : (0 : Int) < k := by omega
  rw [compare_int, compare_int]
  have h1 : (x * k < y * k) ↔ x < y := Int.mul_lt_mul_right hk'
  have h2 : (x * k = y * k) ↔ x = y := ⟨fun h => Int.eq_of_mul_eq_mul_right (by omega) h, fun h => by rw [h]⟩
  simp only [h1, h2]

/-- what is above every number of the format -/
def topE : Nat := 3000
def topN : Nat := 2 ^ topE
theorem topN_ge (k : Nat) (h : k ≤ topE) : 2 ^ k ≤ topN := Nat.pow_le_pow_right (by decide) h
def top : Int := topN

/-- the key of a datum that is no NaN, on the least place L -/
def dkey (L : Int) : Datum → Int
  | .number s m i => signed s m (i - L).toNat
  | .infinity s => if s then -top else top
  | .nan _ _ => 0

def dfits (L : Int) : Datum → Prop
  | .number s m i => L ≤ i ∧ -top < signed s m (i - L).toNat ∧ signed s m (i - L).toNat < top
  | _ => True

theorem top_pos : 0 < top := by
  have h : 0 < topN := Nat.lt_of_lt_of_le (Nat.pow_pos (by decide)) (topN_ge 0 (by decide))
  unfold top; omega

theorem order_key (L : Int) (x y : Datum) (hx : dfits L x) (hy : dfits L y) (nx : x.isNaN = false) (ny : y.isNaN = false) :
    x.order y = some (compare (dkey L x) (dkey L y)) := by
  have h0 := top_pos
  cases x with
  | nan s t => simp [Datum.isNaN] at nx
  | infinity s =>
    cases y with
    | nan s t => simp [Datum.isNaN] at ny
    | infinity t =>
      cases s <;> cases t
      · show some Ordering.eq = some (compare top top)
        rw [compare_int, if_neg (by omega), if_pos rfl]
      · show some Ordering.gt = some (compare top (-top))
        rw [compare_int, if_neg (by omega), if_neg (by omega)]
      · show some Ordering.lt = some (compare (-top) top)
        rw [compare_int, if_pos (by omega)]
      · show some Ordering.eq = some (compare (-top) (-top))
        rw [compare_int, if_neg (by omega), if_pos rfl]
    | number t n j =>
      obtain ⟨_, h1, h2⟩ := hy
      cases s
      · simp only [Datum.order, dkey, Bool.false_eq_true, if_false]
        rw [show compare top (signed t n (j - L).toNat) = .gt by
          rw [compare_int, if_neg (by omega), if_neg (by omega)]]
      · simp only [Datum.order, dkey, if_true]
        rw [show compare (-top) (signed t n (j - L).toNat) = .lt by
          rw [compare_int, if_pos (by omega)]]
  | number s m i =>
    obtain ⟨hi, h1, h2⟩ := hx
    cases y with
    | nan s t => simp [Datum.isNaN] at ny
    | infinity t =>
      cases t
      · simp only [Datum.order, dkey, Bool.false_eq_true, if_false]
        rw [show compare (signed s m (i - L).toNat) top = .lt by
          rw [compare_int, if_pos (by omega)]]
      · simp only [Datum.order, dkey, if_true]
        rw [show compare (signed s m (i - L).toNat) (-top) = .gt by
          rw [compare_int, if_neg (by omega), if_neg (by omega)]]
    | number t n j =>
      obtain ⟨hj, h3, h4⟩ := hy
      simp only [Datum.order, dkey]
      have e1 : (i - L).toNat = (i - min i j).toNat + (min i j - L).toNat := by omega
      have e2 : (j - L).toNat = (j - min i j).toNat + (min i j - L).toNat := by omega
      rw [e1, e2, signed_shift, signed_shift, compare_mul _ _ _ (Nat.pow_pos (by decide))]

theorem signed_bound (s : Bool) (m k : Nat) (hm : m < 2 ^ 54) (hk : k ≤ 2047) : -top < signed s m k ∧ signed s m k < top := by
  have h1 : m <<< k < topN := by
    rw [Nat.shiftLeft_eq]
    refine Nat.lt_of_lt_of_le (Nat.mul_lt_mul_of_pos_right hm (Nat.pow_pos (by decide))) ?_
    rw [← Nat.pow_add]
    exact topN_ge _ (by unfold topE; omega)
  unfold top signed
  generalize m <<< k = z at h1 ⊢
  cases s <;> simp <;> omega

theorem double_fits (b : Nat) : dfits double.leastPlace (double.read b) := by
  unfold Format.read
  have hb : double.binade = 2 ^ 52 := rfl
  have hr : double.infRung = 2047 * 2 ^ 52 := rfl
  generalize hg : b % double.signWeight = r
  dsimp only
  rw [hb, hr]
  split
  · rename_i h
    refine ⟨Int.le_refl _, ?_⟩
    exact signed_bound _ _ _ (by omega) (by omega)
  · split
    · rename_i h1 h2
      have h3 : r / 2 ^ 52 < 2047 := by omega
      refine ⟨by omega, ?_⟩
      exact signed_bound _ _ _ (by have := Nat.mod_lt r (show 0 < 2 ^ 52 by decide); omega) (by omega)
    · split <;> trivial

/-- is it a NaN? -/
def nanF (b : Nat) : Bool := (double.read b).isNaN
def keyF (b : Nat) : Int := dkey double.leastPlace (double.read b)

theorem order_nan (x y : Nat) (h : nanF x = true ∨ nanF y = true) : double.order x y = none := by
  unfold nanF at h
  unfold Format.order
  rcases h with h | h
  · cases hx : double.read x <;> rw [hx] at h <;> simp [Datum.isNaN] at h
    cases double.read y <;> rfl
  · cases hy : double.read y <;> rw [hy] at h <;> simp [Datum.isNaN] at h
    cases double.read x <;> rfl

theorem order_keyF (x y : Nat) (hx : nanF x = false) (hy : nanF y = false) : double.order x y = some (compare (keyF x) (keyF y)) :=
  order_key _ _ _ (double_fits x) (double_fits y) hx hy

def ltF (x y : Nat) : Bool := !nanF x && !nanF y && decide (keyF x < keyF y)
def eqF (x y : Nat) : Bool := !nanF x && !nanF y && decide (keyF x = keyF y)

theorem order_lt (x y : Nat) : (double.order x y == some .lt) = ltF x y := by
  unfold ltF
  cases hx : nanF x
  · cases hy : nanF y
    · rw [order_keyF x y hx hy, compare_int]
      by_cases h : keyF x < keyF y
      · simp [h]
      · by_cases h' : keyF x = keyF y <;> simp [h, h']
    · rw [order_nan x y (.inr hy)]; rfl
  · rw [order_nan x y (.inl hx)]; rfl
theorem order_gt (x y : Nat) : (double.order x y == some .gt) = ltF y x := by
  unfold ltF
  cases hx : nanF x
  · cases hy : nanF y
    · rw [order_keyF x y hx hy, compare_int]
      by_cases h : keyF x < keyF y
      · have : ¬ keyF y < keyF x := by omega
        simp [h, this]
      · by_cases h' : keyF x = keyF y
        · simp [h']
        · have : keyF y < keyF x := by omega
          simp [h, h', this]
    · rw [order_nan x y (.inr hy)]; rfl
  · rw [order_nan x y (.inl hx)]; simp
theorem order_eq (x y : Nat) : (double.order x y == some .eq) = eqF x y := by
  unfold eqF
  cases hx : nanF x
  · cases hy : nanF y
    · rw [order_keyF x y hx hy, compare_int]
      by_cases h : keyF x < keyF y
      · have : ¬ keyF x = keyF y := by omega
        simp [h, this]
      · by_cases h' : keyF x = keyF y
        · simp [h']
        · simp [h, h']
    · rw [order_nan x y (.inr hy)]; rfl
  · rw [order_nan x y (.inl hx)]; rfl
theorem eqF_self (x : Nat) : eqF x x = !nanF x := by
  unfold eqF; cases nanF x <;> simp

end Go.Proofs.YthmdfliimlimhaaGreatDoor
