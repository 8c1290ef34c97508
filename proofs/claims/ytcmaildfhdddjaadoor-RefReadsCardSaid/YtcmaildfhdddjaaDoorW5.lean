/- Contracts of functions of this program, walked. No condition but the ones each theorem states. -/
import Derived.Test.YtcmaildfhdddjaaDoorW4
namespace Go.Proofs.YtcmaildfhdddjaaDoor
open Go.RowKit

theorem byte_split (a : Nat) (c : UInt8) : UInt8.ofNat (a * 256 + c.toNat) = c := by
  apply UInt8.toNat_inj.1
  have := c.toNat_lt
  simp [UInt8.toNat_ofNat]
theorem readU_append (a b : List UInt8) : readU (a ++ b) = readU a * 256 ^ b.length + readU b := by
  have go : ∀ (b : List UInt8) (x : Nat), b.foldl (fun v c => v * 256 + c.toNat) x = x * 256 ^ b.length + b.foldl (fun v c => v * 256 + c.toNat) 0 := by
    intro b
    induction b with
    | nil => intro x; simp
    | cons c b ih =>
      intro x
      simp only [List.foldl_cons, List.length_cons]
      rw [ih (x * 256 + c.toNat), ih (0 * 256 + c.toNat), Nat.pow_succ]
      simp only [Nat.add_mul, Nat.zero_mul, Nat.zero_add]
      rw [Nat.mul_assoc x 256, Nat.mul_comm 256]
      omega
  unfold readU
  rw [List.foldl_append]
  exact go b _
theorem putU_readU (l : List UInt8) : putU (readU l) l.length = l := by
  apply List.ext_getElem (putU_len _ _)
  intro j h1 h2
  rw [putU_len] at h1
  simp only [putU, List.getElem_map, List.getElem_range]
  have hsplit : l = l.take (j + 1) ++ l.drop (j + 1) := (List.take_append_drop _ _).symm
  have hr : readU l = readU (l.take (j + 1)) * 256 ^ (l.drop (j + 1)).length + readU (l.drop (j + 1)) := by
    conv => lhs; rw [hsplit]
    exact readU_append _ _
  have hlt := readU_lt (l.drop (j + 1))
  have hlen : (l.drop (j + 1)).length = l.length - 1 - j := by simp; omega
  rw [hlen] at hr hlt
  have hp : (2 : Nat) ^ (8 * (l.length - 1 - j)) = 256 ^ (l.length - 1 - j) := by rw [Nat.pow_mul]
  rw [hp, hr, Nat.mul_comm, Nat.mul_add_div (Nat.pow_pos (by omega)), Nat.div_eq_of_lt hlt, Nat.add_zero, List.take_succ_eq_append_getElem h2, readU_snoc, byte_split]

theorem _root_.Go.World.ownsRow.below {w w' : World} {base n : Nat} {e : TypeId} {size : Nat} {v : Value} {xs : List Value} (h : w.ownsRow base e size v n xs) (hb : Below w.heap.size w w') : w'.ownsRow base e size v n xs := by
  obtain ⟨h1, h2⟩ := h
  refine ⟨h1, h2.imp id ?_⟩
  rintro ⟨g, cap, cur, hv, hg, hh, rest⟩
  exact ⟨g, cap, cur, hv, hg, (hb.block g (Array.getElem?_eq_some_iff.1 hh).1).trans hh, rest⟩

def openN (xs : List UInt8) : Nat := readU (xs.take 4)
def payOf (xs : List UInt8) : List UInt8 := (xs.drop 8).take (openN xs)
def openOk (xs : List UInt8) : Bool := decide (8 ≤ xs.length) && decide (openN xs ≤ 65536) && decide (openN xs + 8 ≤ xs.length) && decide (crc (putU (openN xs) 4 ++ payOf xs) = readU ((xs.drop 4).take 4))

def SomeErr (w : World) (e : Ending) (w' : World) : Prop := ∃ k : Nat, e = .returned (.tuple #[.slice none 0 0, .int .i64 0, .int .i64 k]) ∧ 0 < k ∧ k ≤ 23 ∧ Below w.heap.size w w'

/-- what is known of bytes that may be a frame, at an address -/
structure Framed (w : World) (b off n c : Nat) (xs : List UInt8) : Prop where
  len : xs.length = n
  h8 : 8 ≤ n
  hc : n ≤ c
  hx : n ≤ 1000000
  blk : b < w.heap.size
  rd : Reads w w.heap.size 1 (some ⟨b, off, none⟩) n (bc xs)
theorem Framed.mk' {A : Option Addr} {n c : Nat} {xs : List UInt8} {w : World} (hc : n ≤ c) (hr : Reads w w.heap.size 1 A n (bc xs)) (hx : n ≤ 1000000) (h8 : 8 ≤ n) : ∃ b off, A = some ⟨b, off, none⟩ ∧ Framed w b off n c xs := by
  have hl : xs.length = n := by have := hr.1; rw [bc_len] at this; omega
  obtain ⟨b, off, rfl, hbB, hcell⟩ := hr.lit (by omega)
  exact ⟨b, off, rfl, hl, h8, hc, hx, hbB, hr⟩
section
variable {w : World} {b off n c : Nat} {xs : List UInt8}
theorem Framed.cut4 (h : Framed w b off n c xs) : Reads w w.heap.size 1 (some ⟨b, off + 4, none⟩) (n - 4) (bc (xs.drop 4)) := by
  have := h.rd.cut (k := 4) (cap := c) (by have := h.h8; omega) h.hc
  have h8 := h.h8
  have hc := h.hc
  rw [if_neg (by omega)] at this
  simpa [Lib.byteCells, List.map_drop, Addr.add_lit] using this
theorem Framed.pay (h : Framed w b off n c xs) (hN : openN xs + 8 ≤ n) : Reads w w.heap.size 1 (if c = 8 then some ⟨b, off, none⟩ else some ⟨b, off + 8, none⟩) (openN xs) (bc (payOf xs)) := by
  have := (h.rd.cut (k := 8) (cap := c) h.h8 h.hc).take_ (k := openN xs) (by omega)
  by_cases h8 : c = 8
  · rw [if_pos h8] at this ⊢
    simpa [Lib.byteCells, payOf, List.map_drop, List.map_take, Addr.add_lit] using this
  · rw [if_neg h8] at this ⊢
    simpa [Lib.byteCells, payOf, List.map_drop, List.map_take, Addr.add_lit] using this
theorem Framed.call1 (h : Framed w b off n c xs) : Calls Tryd.prog 52 #[.slice (some ⟨b, off, none⟩) n c, .int .i64 4] w fun e w' => e = .returned (.tuple #[.int .u64 (openN xs), .bool true]) ∧ w = w' :=
  readU4 _ n c xs (by have := h.h8; omega) h.hc w h.rd
theorem Framed.call2 (h : Framed w b off n c xs) : Calls Tryd.prog 52 #[.slice (some ⟨b, off + 4, none⟩) (n - 4) (c - 4), .int .i64 4] w fun e w' => e = .returned (.tuple #[.int .u64 (readU ((xs.drop 4).take 4)), .bool true]) ∧ w = w' :=
  readU4 _ (n - 4) (c - 4) (xs.drop 4) (by have := h.h8; omega) (by have := h.hc; omega) w h.cut4
theorem Framed.call1' (h : Framed w b off n c xs) : Calls Tryd.prog 40 #[.slice (some ⟨b, off, none⟩) n c, .int .i64 4] w fun e w' => e = .returned (.tuple #[.int .u64 (openN xs), .bool true]) ∧ w = w' :=
  readU4' _ n c xs (by have := h.h8; omega) h.hc w h.rd
theorem Framed.call2' (h : Framed w b off n c xs) : Calls Tryd.prog 40 #[.slice (some ⟨b, off + 4, none⟩) (n - 4) (c - 4), .int .i64 4] w fun e w' => e = .returned (.tuple #[.int .u64 (readU ((xs.drop 4).take 4)), .bool true]) ∧ w = w' :=
  readU4' _ (n - 4) (c - 4) (xs.drop 4) (by have := h.h8; omega) (by have := h.hc; omega) w h.cut4
end
theorem openN_lt (xs : List UInt8) : openN xs < 4294967296 := readU_take_lt xs 4 (by omega)

set_option maxRecDepth 100000 in
set_option maxHeartbeats 800000 in
theorem open_short (A : Option Addr) (n c : Nat) (w : World) (h8 : n < 8) : Calls Tryd.prog 50 #[.slice A n c] w (SomeErr w) := by
  go_enter Tryd.func50, Tryd.ntmps50
  go_wp2
  go_ret3
  exact ⟨23, rfl, by omega, by omega, Below.refl _ _⟩

set_option maxRecDepth 100000 in
set_option maxHeartbeats 800000 in
theorem open_big (b off n c : Nat) (xs : List UInt8) (w : World) (h : Framed w b off n c xs) (hN : 65536 < openN xs ∨ n < openN xs + 8) : Calls Tryd.prog 50 #[.slice (some ⟨b, off, none⟩) n c] w (SomeErr w) := by
  have h8 := h.h8
  have hc := h.hc
  have hx := h.hx
  have hNl := openN_lt xs
  have hM := readU_take_lt (xs.drop 4) 4 (by omega)
  have hcall := Lib.hid h.call1
  have hcall2 := Lib.hid h.call2
  have hs0 : (0 : Int) ≤ (n : Int) - 8 := by omega
  clear h
  generalize openN xs = N at *
  generalize readU ((xs.drop 4).take 4) = M at *
  rcases Nat.lt_or_ge 65536 N with hb | hb
  · clear hN
    go_enter Tryd.func50, Tryd.ntmps50
    go_wp2_with fail
    refine hcall.out.mono ?_
    rintro e w1 ⟨rfl, rfl⟩
    go_wp2_with fail
    refine hcall2.out.mono ?_
    rintro e w1 ⟨rfl, rfl⟩
    go_wp2
    go_ret3
    exact ⟨22, rfl, by omega, by omega, Below.refl _ _⟩
  · have hN' : n < N + 8 := by omega
    clear hN
    go_enter Tryd.func50, Tryd.ntmps50
    go_wp2_with fail
    refine hcall.out.mono ?_
    rintro e w1 ⟨rfl, rfl⟩
    go_wp2_with fail
    refine hcall2.out.mono ?_
    rintro e w1 ⟨rfl, rfl⟩
    go_wp2
    go_ret3
    exact ⟨23, rfl, by omega, by omega, Below.refl _ _⟩

/-- behind the reads: the payload's copy, and its sum -/
def OpenPost (w : World) (ok : Bool) (N : Nat) (P : List UInt8) (e : Ending) (w' : World) : Prop :=
  if ok = true then ∃ v, e = .returned (.tuple #[v, .int .i64 (8 + (N : Int)), .int .i64 0]) ∧ w'.ownsRow w.heap.size 5 1 v N (bc P) ∧ Below w.heap.size w w'
  else SomeErr w e w'
theorem OpenPost.yes {w w' : World} {ok : Bool} {N : Nat} {P : List UInt8} {v : Value} (h : ok = true) (h1 : w'.ownsRow w.heap.size 5 1 v N (bc P)) (h2 : Below w.heap.size w w') : OpenPost w ok N P (.returned (.tuple #[v, .int .i64 (8 + (N : Int)), .int .i64 0])) w' := by
  unfold OpenPost; rw [if_pos h]; exact ⟨v, rfl, h1, h2⟩
theorem OpenPost.no {w w' : World} {ok : Bool} {N : Nat} {P : List UInt8} {e : Ending} (h : ok = false) (h1 : SomeErr w e w') : OpenPost w ok N P e w' := by
  unfold OpenPost; rw [if_neg (by simp [h])]; exact h1

set_option maxRecDepth 100000 in
set_option maxHeartbeats 800000 in
theorem open_fit (b off n c : Nat) (xs : List UInt8) (w : World) (h : Framed w b off n c xs) (hN : openN xs ≤ 65536) (hf : openN xs + 8 ≤ n) : Calls Tryd.prog 50 #[.slice (some ⟨b, off, none⟩) n c] w (OpenPost w (openOk xs) (openN xs) (payOf xs)) := by
  have h8 := h.h8
  have hc := h.hc
  have hx := h.hx
  have hM := readU_take_lt (xs.drop 4) 4 (by omega)
  have hcall := Lib.hid h.call1
  have hcall2 := Lib.hid h.call2
  have hs0 : (0 : Int) ≤ (n : Int) - 8 := by omega
  have hcr := crc_lt (putU (openN xs) 4 ++ payOf xs)
  have hok : openOk xs = decide (crc (putU (openN xs) 4 ++ payOf xs) = readU ((xs.drop 4).take 4)) := by
    unfold openOk
    rw [h.len]
    simp [h8, hN, hf]
  have HO := Lib.hid hok
  clear hok
  have hpay := h.pay hf
  have hcl := Lib.hid (fun (d : Nat) (w1 : World) (e : w = w1) => clone_calls (if c = 8 then some ⟨b, off, none⟩ else some ⟨b, off + 8, none⟩) (openN xs) d (payOf xs) w1 (e ▸ hpay) (by omega))
  clear h hpay
  generalize hok : openOk xs = ok at *
  generalize hP : payOf xs = P at *
  generalize hNe : openN xs = N at *
  generalize hMe : readU ((xs.drop 4).take 4) = M at *
  clear hP hNe hMe hok
  by_cases hc8 : c = 8
  · rw [if_pos hc8] at hcl
    subst hc8
    go_enter Tryd.func50, Tryd.ntmps50
    go_wp2_with fail
    refine hcall.out.mono ?_
    rintro e w1 ⟨rfl, rfl⟩
    go_wp2_with fail
    refine hcall2.out.mono ?_
    rintro e w1 ⟨rfl, rfl⟩
    go_wp2_with fail
    refine (hcl.out _ _ rfl).mono ?_
    rintro e w2 ⟨v2, rfl, hown2, hb2⟩
    obtain ⟨A2, c2, rfl, hc2, hr2⟩ := own_slice hown2
    have hps := Lib.hid (psum_calls A2 N c2 P (by omega) w2 hr2)
    by_cases hs : crc (putU N 4 ++ P) = M
    · have hne : (((crc (putU N 4 ++ P) : Nat) : Int) != (M : Int)) = false := by rw [hs]; simp
      go_wp2_with (go_at_call 42; refine hps.out.mono ?_; rintro e w3 ⟨rfl, hb3⟩)
      go_ret3
      exact OpenPost.yes (by rw [HO.out]; exact decide_eq_true hs) (hown2.below hb3) (hb2.trans (hb3.mono hb2.size))
    · have hne : (((crc (putU N 4 ++ P) : Nat) : Int) != (M : Int)) = true := by simp; omega
      go_wp2_with (go_at_call 42; refine hps.out.mono ?_; rintro e w3 ⟨rfl, hb3⟩)
      go_ret3
      exact OpenPost.no (by rw [HO.out]; simp [hs]) ⟨21, rfl, by omega, by omega, hb2.trans (hb3.mono hb2.size)⟩
  · rw [if_neg hc8] at hcl
    go_enter Tryd.func50, Tryd.ntmps50
    go_wp2_with fail
    refine hcall.out.mono ?_
    rintro e w1 ⟨rfl, rfl⟩
    go_wp2_with fail
    refine hcall2.out.mono ?_
    rintro e w1 ⟨rfl, rfl⟩
    go_wp2_with fail
    refine (hcl.out _ _ rfl).mono ?_
    rintro e w2 ⟨v2, rfl, hown2, hb2⟩
    obtain ⟨A2, c2, rfl, hc2, hr2⟩ := own_slice hown2
    have hps := Lib.hid (psum_calls A2 N c2 P (by omega) w2 hr2)
    by_cases hs : crc (putU N 4 ++ P) = M
    · have hne : (((crc (putU N 4 ++ P) : Nat) : Int) != (M : Int)) = false := by rw [hs]; simp
      go_wp2_with (go_at_call 42; refine hps.out.mono ?_; rintro e w3 ⟨rfl, hb3⟩)
      go_ret3
      exact OpenPost.yes (by rw [HO.out]; exact decide_eq_true hs) (hown2.below hb3) (hb2.trans (hb3.mono hb2.size))
    · have hne : (((crc (putU N 4 ++ P) : Nat) : Int) != (M : Int)) = true := by simp; omega
      go_wp2_with (go_at_call 42; refine hps.out.mono ?_; rintro e w3 ⟨rfl, hb3⟩)
      go_ret3
      exact OpenPost.no (by rw [HO.out]; simp [hs]) ⟨21, rfl, by omega, by omega, hb2.trans (hb3.mono hb2.size)⟩

theorem openOk_false {xs : List UInt8} (h : xs.length < 8 ∨ 65536 < openN xs ∨ xs.length < openN xs + 8) : openOk xs = false := by
  unfold openOk
  rcases h with h | h | h
  · have : decide (8 ≤ xs.length) = false := by simp; omega
    simp [this]
  · have : decide (openN xs ≤ 65536) = false := by simp; omega
    simp [this]
  · have : decide (openN xs + 8 ≤ xs.length) = false := by simp; omega
    simp [this]

theorem open_calls (A : Option Addr) (n c : Nat) (xs : List UInt8) (hc : n ≤ c) (w : World) (hr : Reads w w.heap.size 1 A n (bc xs)) (hx : n ≤ 1000000) :
    Calls Tryd.prog 50 #[.slice A n c] w (OpenPost w (openOk xs) (openN xs) (payOf xs)) := by
  have hl : xs.length = n := by have := hr.1; rw [bc_len] at this; omega
  rcases Nat.lt_or_ge n 8 with h8 | h8
  · exact (open_short A n c w h8).mono fun e w' h => OpenPost.no (openOk_false (.inl (by omega))) h
  · obtain ⟨b, off, rfl, hF⟩ := Framed.mk' hc hr hx h8
    by_cases hb : 65536 < openN xs ∨ n < openN xs + 8
    · exact (open_big b off n c xs w hF hb).mono fun e w' h => OpenPost.no (openOk_false (.inr (hb.imp id (by omega)))) h
    · exact open_fit b off n c xs w hF (by omega) (by omega)

set_option maxRecDepth 100000 in
set_option maxHeartbeats 800000 in
theorem open'_short (A : Option Addr) (n c : Nat) (w : World) (h8 : n < 8) : Calls Tryd.prog 38 #[.slice A n c] w (SomeErr w) := by
  go_enter Tryd.func38, Tryd.ntmps38
  go_wp2
  go_ret3
  exact ⟨23, rfl, by omega, by omega, Below.refl _ _⟩

set_option maxRecDepth 100000 in
set_option maxHeartbeats 800000 in
theorem open'_big (b off n c : Nat) (xs : List UInt8) (w : World) (h : Framed w b off n c xs) (hN : 65536 < openN xs ∨ n < openN xs + 8) : Calls Tryd.prog 38 #[.slice (some ⟨b, off, none⟩) n c] w (SomeErr w) := by
  have h8 := h.h8
  have hc := h.hc
  have hx := h.hx
  have hNl := openN_lt xs
  have hcall := Lib.hid h.call1'
  have hs0 : (0 : Int) ≤ (n : Int) - 8 := by omega
  clear h
  generalize openN xs = N at *
  rcases Nat.lt_or_ge 65536 N with hb | hb
  · clear hN
    go_enter Tryd.func38, Tryd.ntmps38
    go_wp2_with fail
    refine hcall.out.mono ?_
    rintro e w1 ⟨rfl, rfl⟩
    go_wp2
    go_ret3
    exact ⟨22, rfl, by omega, by omega, Below.refl _ _⟩
  · have hN' : n < N + 8 := by omega
    clear hN
    go_enter Tryd.func38, Tryd.ntmps38
    go_wp2_with fail
    refine hcall.out.mono ?_
    rintro e w1 ⟨rfl, rfl⟩
    go_wp2
    go_ret3
    exact ⟨23, rfl, by omega, by omega, Below.refl _ _⟩

theorem Framed.head {w : World} {b off n c : Nat} {xs : List UInt8} (h : Framed w b off n c xs) : Reads w w.heap.size 1 (some ⟨b, off, none⟩) 4 (bc (putU (openN xs) 4)) := by
  have := h.rd.take_ (k := 4) (by have := h.h8; omega)
  have hl : (xs.take 4).length = 4 := by have := h.len; have := h.h8; simp; omega
  have e : putU (openN xs) 4 = xs.take 4 := by
    have := putU_readU (xs.take 4)
    rwa [hl] at this
  rw [e]
  simpa [Lib.byteCells, List.map_take] using this

set_option maxRecDepth 100000 in
set_option maxHeartbeats 800000 in
theorem open'_fit (b off n c : Nat) (xs : List UInt8) (w : World) (h : Framed w b off n c xs) (hN : openN xs ≤ 65536) (hf : openN xs + 8 ≤ n) : Calls Tryd.prog 38 #[.slice (some ⟨b, off, none⟩) n c] w (OpenPost w (openOk xs) (openN xs) (payOf xs)) := by
  have h8 := h.h8
  have hc := h.hc
  have hx := h.hx
  have hM := readU_take_lt (xs.drop 4) 4 (by omega)
  have hcall := Lib.hid h.call1'
  have hcall2 := Lib.hid h.call2'
  have hs0 : (0 : Int) ≤ (n : Int) - 8 := by omega
  have hcr := crc_lt (putU (openN xs) 4 ++ payOf xs)
  have hok : openOk xs = decide (crc (putU (openN xs) 4 ++ payOf xs) = readU ((xs.drop 4).take 4)) := by
    unfold openOk
    rw [h.len]
    simp [h8, hN, hf]
  have HO := Lib.hid hok
  clear hok
  have hpay := h.pay hf
  have hhd := h.head
  clear h
  generalize hok : openOk xs = ok at *
  generalize hP : payOf xs = P at *
  generalize hNe : openN xs = N at *
  generalize hMe : readU ((xs.drop 4).take 4) = M at *
  clear hP hNe hMe hok
  by_cases hc8 : c = 8
  · rw [if_pos hc8] at hpay
    subst hc8
    go_enter Tryd.func38, Tryd.ntmps38
    go_wp2_with fail
    refine hcall.out.mono ?_
    rintro e w1 ⟨rfl, rfl⟩
    go_wp2_with fail
    refine hcall2.out.mono ?_
    rintro e w1 ⟨rfl, rfl⟩
    go_wp2_with (at_builtin; refine wpList_append_bytes rfl (.const (.slice none 0 0)) (.tmp 35) rfl w.heap.size (.slice none 0 0) 0 [] rfl (World.ownsRow_nil _ _ _ _) w.heap.size _ (8 + N - 8) _ P rfl (by rw [Nat.add_sub_cancel_left]; exact hpay) (by omega) (Nat.le_refl _) ?_; intro v1 w1 hown1 hg1 hat1; refine Hid.out ?_)
    simp only [Nat.add_sub_cancel_left, Nat.zero_add, List.nil_append] at hown1
    have hb1 : Below w.heap.size w w1 := below_app (Below.refl _ _) (Nat.le_refl _) (World.ownsRow_nil w w.heap.size 5 1) (Nat.le_refl _) hg1
    obtain ⟨A1, c1, rfl, hc1, hr1⟩ := own_slice hown1
    refine Lib.hid ?_
    go_wp2_with (at_builtin; refine wpList_append_bytes rfl (.const (.slice none 0 0)) (.tmp 38) rfl w1.heap.size (.slice none 0 0) 0 [] rfl (World.ownsRow_nil _ _ _ _) w.heap.size _ 4 _ (putU N 4) rfl (hhd.below hb1) (by omega) (Nat.le_refl _) ?_; intro v2 w2 hown2 hg2 hat2; refine Hid.out ?_)
    simp only [Nat.zero_add, List.nil_append] at hown2
    have hb2 : Below w1.heap.size w1 w2 := below_app (Below.refl _ _) (Nat.le_refl _) (World.ownsRow_nil w1 w1.heap.size 5 1) (Nat.le_refl _) hg2
    refine Lib.hid ?_
    go_wp2_with (at_builtin; refine wpList_append_bytes rfl (.tmp 39) (.tmp 40) rfl w1.heap.size v2 4 _ rfl hown2 w1.heap.size A1 N c1 P rfl (hr1.below hb2) (by omega) hb2.size ?_; intro v3 w3 hown3 hg3 hat3; refine Hid.out ?_)
    have hb3 : Below w1.heap.size w1 w3 := below_app hb2 hb2.size hown2 (Nat.le_refl _) hg3
    obtain ⟨A3, c3, rfl, hc3, hr3⟩ := own_slice hown3
    have hps := Lib.hid (sum'_calls A3 (4 + N) c3 _ (by omega) hc3 w3 hr3)
    refine Lib.hid ?_
    by_cases hs : crc (putU N 4 ++ P) = M
    · have hne : (((crc (putU N 4 ++ P) : Nat) : Int) != (M : Int)) = false := by rw [hs]; simp
      go_wp2_with (go_at_call 43; refine hps.out.mono ?_; rintro e w4 ⟨rfl, rfl⟩)
      go_ret3
      exact OpenPost.yes (by rw [HO.out]; exact decide_eq_true hs) (hown1.below hb3) (hb1.trans (hb3.mono hb1.size))
    · have hne : (((crc (putU N 4 ++ P) : Nat) : Int) != (M : Int)) = true := by simp; omega
      go_wp2_with (go_at_call 43; refine hps.out.mono ?_; rintro e w4 ⟨rfl, rfl⟩)
      go_ret3
      exact OpenPost.no (by rw [HO.out]; simp [hs]) ⟨21, rfl, by omega, by omega, hb1.trans (hb3.mono hb1.size)⟩
  · rw [if_neg hc8] at hpay
    go_enter Tryd.func38, Tryd.ntmps38
    go_wp2_with fail
    refine hcall.out.mono ?_
    rintro e w1 ⟨rfl, rfl⟩
    go_wp2_with fail
    refine hcall2.out.mono ?_
    rintro e w1 ⟨rfl, rfl⟩
    go_wp2_with (at_builtin; refine wpList_append_bytes rfl (.const (.slice none 0 0)) (.tmp 35) rfl w.heap.size (.slice none 0 0) 0 [] rfl (World.ownsRow_nil _ _ _ _) w.heap.size _ (8 + N - 8) _ P rfl (by rw [Nat.add_sub_cancel_left]; exact hpay) (by omega) (Nat.le_refl _) ?_; intro v1 w1 hown1 hg1 hat1; refine Hid.out ?_)
    simp only [Nat.add_sub_cancel_left, Nat.zero_add, List.nil_append] at hown1
    have hb1 : Below w.heap.size w w1 := below_app (Below.refl _ _) (Nat.le_refl _) (World.ownsRow_nil w w.heap.size 5 1) (Nat.le_refl _) hg1
    obtain ⟨A1, c1, rfl, hc1, hr1⟩ := own_slice hown1
    refine Lib.hid ?_
    go_wp2_with (at_builtin; refine wpList_append_bytes rfl (.const (.slice none 0 0)) (.tmp 38) rfl w1.heap.size (.slice none 0 0) 0 [] rfl (World.ownsRow_nil _ _ _ _) w.heap.size _ 4 _ (putU N 4) rfl (hhd.below hb1) (by omega) (Nat.le_refl _) ?_; intro v2 w2 hown2 hg2 hat2; refine Hid.out ?_)
    simp only [Nat.zero_add, List.nil_append] at hown2
    have hb2 : Below w1.heap.size w1 w2 := below_app (Below.refl _ _) (Nat.le_refl _) (World.ownsRow_nil w1 w1.heap.size 5 1) (Nat.le_refl _) hg2
    refine Lib.hid ?_
    go_wp2_with (at_builtin; refine wpList_append_bytes rfl (.tmp 39) (.tmp 40) rfl w1.heap.size v2 4 _ rfl hown2 w1.heap.size A1 N c1 P rfl (hr1.below hb2) (by omega) hb2.size ?_; intro v3 w3 hown3 hg3 hat3; refine Hid.out ?_)
    have hb3 : Below w1.heap.size w1 w3 := below_app hb2 hb2.size hown2 (Nat.le_refl _) hg3
    obtain ⟨A3, c3, rfl, hc3, hr3⟩ := own_slice hown3
    have hps := Lib.hid (sum'_calls A3 (4 + N) c3 _ (by omega) hc3 w3 hr3)
    refine Lib.hid ?_
    by_cases hs : crc (putU N 4 ++ P) = M
    · have hne : (((crc (putU N 4 ++ P) : Nat) : Int) != (M : Int)) = false := by rw [hs]; simp
      go_wp2_with (go_at_call 43; refine hps.out.mono ?_; rintro e w4 ⟨rfl, rfl⟩)
      go_ret3
      exact OpenPost.yes (by rw [HO.out]; exact decide_eq_true hs) (hown1.below hb3) (hb1.trans (hb3.mono hb1.size))
    · have hne : (((crc (putU N 4 ++ P) : Nat) : Int) != (M : Int)) = true := by simp; omega
      go_wp2_with (go_at_call 43; refine hps.out.mono ?_; rintro e w4 ⟨rfl, rfl⟩)
      go_ret3
      exact OpenPost.no (by rw [HO.out]; simp [hs]) ⟨21, rfl, by omega, by omega, hb1.trans (hb3.mono hb1.size)⟩

theorem open'_calls (A : Option Addr) (n c : Nat) (xs : List UInt8) (hc : n ≤ c) (w : World) (hr : Reads w w.heap.size 1 A n (bc xs)) (hx : n ≤ 1000000) :
    Calls Tryd.prog 38 #[.slice A n c] w (OpenPost w (openOk xs) (openN xs) (payOf xs)) := by
  have hl : xs.length = n := by have := hr.1; rw [bc_len] at this; omega
  rcases Nat.lt_or_ge n 8 with h8 | h8
  · exact (open'_short A n c w h8).mono fun e w' h => OpenPost.no (openOk_false (.inl (by omega))) h
  · obtain ⟨b, off, rfl, hF⟩ := Framed.mk' hc hr hx h8
    by_cases hb : 65536 < openN xs ∨ n < openN xs + 8
    · exact (open'_big b off n c xs w hF hb).mono fun e w' h => OpenPost.no (openOk_false (.inr (hb.imp id (by omega)))) h
    · exact open'_fit b off n c xs w hF (by omega) (by omega)

end Go.Proofs.YtcmaildfhdddjaaDoor
