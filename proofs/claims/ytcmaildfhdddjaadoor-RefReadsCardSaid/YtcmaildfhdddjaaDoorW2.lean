/- Fixed numbers, checksums: contracts of functions of this program. -/
import Derived.Test.YtcmaildfhdddjaaDoorW1
namespace Go.Proofs.YtcmaildfhdddjaaDoor
open Go.RowKit

/-- v' comes of v by appends of the call's own: only v's row and new blocks have turned -/
def Onto (w w' : World) (v v' : Value) : Prop := w.grownBy w' v.ownBlock ∧ (v'.ownBlock = v.ownBlock ∨ ∃ k, v'.ownBlock = some k ∧ w.heap.size ≤ k)

theorem Onto.refl (w : World) (v : Value) : Onto w w v v := ⟨World.grownBy.refl w _, .inl rfl⟩
theorem grown_trans' {a b c : World} {r s : Option Nat} (h : a.grownBy b r) (k : b.grownBy c s) (hs : s = r ∨ ∀ i, s = some i → a.heap.size ≤ i) : a.grownBy c r :=
  ⟨k.os.trans h.os, k.tape.trans h.tape, k.output.trans h.output, Nat.le_trans h.size k.size, fun i hi hne => by
    refine (k.block i (Nat.lt_of_lt_of_le hi h.size) ?_).trans (h.block i hi hne)
    rcases hs with rfl | hs
    · exact hne
    · intro e; have := hs i e.symm; omega⟩
theorem Onto.alloc (w : World) (o : Obj) (v : Value) : Onto w (w.alloc o) v v := ⟨World.grownBy_alloc w o _, .inl rfl⟩
theorem Onto.trans {a b c : World} {u v x : Value} (h : Onto a b u v) (k : Onto b c v x) : Onto a c u x := by
  refine ⟨grown_trans' h.1 k.1 ?_, ?_⟩
  · rcases h.2 with e | ⟨i, e, hi⟩
    · exact .inl e
    · exact .inr fun j hj => by rw [e] at hj; cases hj; exact hi
  · rcases k.2 with e | ⟨i, e, hi⟩
    · rcases h.2 with e' | ⟨i', e', hi'⟩
      · exact .inl (e.trans e')
      · exact .inr ⟨i', e.trans e', hi'⟩
    · exact .inr ⟨i, e, Nat.le_trans h.1.size hi⟩
theorem Onto.of_app {w w' : World} {v v' : Value} (hg : w.grownBy w' v.ownBlock) (hat : v'.ownBlock = v.ownBlock ∨ v'.ownBlock = some w.heap.size) : Onto w w' v v' :=
  ⟨hg, hat.imp id fun e => ⟨_, e, Nat.le_refl _⟩⟩
theorem Onto.below {B base : Nat} {a w w' : World} {e : TypeId} {size n : Nat} {v v' : Value} {xs : List Value} (h : Onto w w' v v') (hb : Below B a w) (hB : B ≤ w.heap.size)
    (hown : w.ownsRow base e size v n xs) (hbase : B ≤ base) : Below B a w' :=
  hb.grown h.1 hB (fun k hk => Nat.le_trans hbase (hown.lt k hk).1)

set_option maxRecDepth 100000 in
set_option maxHeartbeats 400000 in
theorem putU'_calls (x : Value) (base n : Nat) (xs : List UInt8) (v : Nat) (hv : v < 18446744073709551616) (k : Nat) (hk : k ≤ 8) (w : World) (hx : w.ownsRow base 5 1 x n (bc xs)) (hbase : base ≤ w.heap.size) (hn : n ≤ 1000000) :
    Calls Tryd.prog 24 #[x, .int .u64 v, .int .i64 k] w fun e w' => ∃ v', e = .returned v' ∧ w'.ownsRow base 5 1 v' (n + k) (bc (xs ++ putU v k)) ∧ Onto w w' x v' := by
  have hkk : (0 : Int) ≤ k := by omega
  go_enter Tryd.func24, Tryd.ntmps24
  go_wp2
  go_loopw [0, 7] (fun o i wr => ∃ j : Nat, j ≤ k ∧ i = .int .i64 ((k : Int) - j - 1) ∧ wr.ownsRow base 5 1 o (n + j) (bc (xs ++ (putU v k).take j)) ∧ Onto w wr x o) (fun _ i _ => (intOf i + 1).toNat)
  case atStart => exact ⟨0, by omega, by simp, by simpa using hx, Onto.refl _ _⟩
  case round =>
    obtain ⟨j, hj, rfl, hown, hb⟩ := hrel
    clear hx
    have hsz : base ≤ wr.heap.size := Nat.le_trans hbase hb.1.size
    by_cases hlt : j < k
    · have h1 : (0 : Int) ≤ (k : Int) - j - 1 := by omega
      have hby : Value.int .u8 ((v : Int) / 2 ^ (8 * (k - j - 1)) % 256) = .int .u8 (UInt8.ofNat (v / 2 ^ (8 * (k - 1 - j)))).toNat := by
        rw [show k - 1 - j = k - j - 1 from by omega]; simp [UInt8.toNat_ofNat]
      have HB := Lib.hid hby
      clear hby
      go_wp2_with (at_builtin; refine wpList_append_bytes rfl (.tmp 17) (.tmp 23) rfl base _ (n + j) _ rfl (hown.alloc _) (wr.heap.size + 1) (some ⟨wr.heap.size, 0, none⟩) 1 1 [UInt8.ofNat (v / 2 ^ (8 * (k - 1 - j)))] rfl (Reads.one' wr _ _ 5 HB.out) (by omega) (by simp; omega) ?_; intro v2 w2 hown2 hg2 hat2)
      go_roundw
      case rel =>
        refine ⟨j + 1, by omega, by go_num, ?_, hb.trans ((Onto.alloc _ _ _).trans (.of_app hg2 hat2))⟩
        rw [putU_snoc v k j hlt, ← List.append_assoc]
        exact hown2
      case measure => simp [intOf]; omega
    · have hjk : j = k := by omega
      subst hjk
      clear hlt hkk hj
      go_wp2
      go_ret
      refine ⟨_, rfl, ?_, hb⟩
      rw [List.take_of_length_le (by simp [putU])] at hown
      exact hown

theorem Reads.lit {w : World} {B n : Nat} {A : Option Addr} {xs : List Value} (h : Reads w B 1 A n xs) (hn : 0 < n) :
    ∃ b off, A = some ⟨b, off, none⟩ ∧ b < B ∧ ∀ j u, xs[j]? = some u → w.cell? ⟨b, off + j, none⟩ = some u := by
  obtain ⟨ad, rfl, hb, hc⟩ := h.2 hn
  obtain ⟨b, off, spot⟩ := ad
  have hl : 0 < xs.length := by have := h.1; omega
  have h0 := hc 0 xs[0] (List.getElem?_eq_getElem hl)
  have hs : spot = none := by simpa [Addr.add] using World.cell?_spot h0
  subst hs
  exact ⟨b, off, rfl, hb, fun j u hu => by rw [← Addr.add_lit]; exact hc j u hu⟩

def readU (l : List UInt8) : Nat := l.foldl (fun v c => v * 256 + c.toNat) 0

theorem readU_snoc (l : List UInt8) (c : UInt8) : readU (l ++ [c]) = readU l * 256 + c.toNat := by simp [readU]
theorem readU_fold (l : List UInt8) : ∀ a : Nat, l.foldl (fun v c => v * 256 + c.toNat) a < (a + 1) * 256 ^ l.length := by
  induction l with
  | nil => intro a; simp
  | cons c l ih =>
    intro a
    have h := ih (a * 256 + c.toNat)
    have hc := c.toNat_lt
    refine Nat.lt_of_lt_of_le h ?_
    rw [List.length_cons, Nat.pow_succ, Nat.mul_comm (256 ^ l.length) 256, ← Nat.mul_assoc]
    exact Nat.mul_le_mul_right _ (by omega)
theorem readU_lt (l : List UInt8) : readU l < 256 ^ l.length := by simpa [readU] using readU_fold l 0

theorem or_low (V c : Nat) (hc : c < 256) : V * 256 ||| c = V * 256 + c := by
  have := Nat.two_pow_add_eq_or_of_lt (i := 8) (b := c) (by omega) V
  rw [Nat.mul_comm V 256]
  exact this.symm
theorem wrap_u64_nat (a : Nat) (h : a < 18446744073709551616) : IntKind.u64.wrap (a : Int) = a := by
  simp only [IntKind.wrap, IntKind.bits, IntKind.signed]
  simp
  omega
theorem or_byte (V c : Nat) (hV : V < 72057594037927936) (hc : c < 256) : bits BinOp.or .u64 (IntKind.u64.wrap ((V : Int) * 256)) (IntKind.u64.wrap (c : Int)) = ((V * 256 + c : Nat) : Int) := by
  rw [wrap_u64_nat c (by omega), show ((V : Int) * 256) = ((V * 256 : Nat) : Int) from by omega, wrap_u64_nat _ (by omega), u64_or_nat _ _ (by omega) (by omega), or_low V c hc]
theorem readU_step (xs : List UInt8) (j : Nat) (hj : j < xs.length) (h4 : j < 4) :
    Value.int .u64 (bits BinOp.or .u64 (IntKind.u64.wrap ((readU (xs.take j) : Int) * 256)) (IntKind.u64.wrap (xs[j].toNat : Int))) = .int .u64 (readU (xs.take (j + 1))) := by
  have hv := readU_lt (xs.take j)
  have hl : (xs.take j).length = j := by simp; omega
  rw [hl] at hv
  have : 256 ^ j ≤ 256 ^ 4 := Nat.pow_le_pow_right (by omega) (by omega)
  have hc := xs[j].toNat_lt
  rw [or_byte _ _ (by omega) (by omega), List.take_succ_eq_append_getElem hj, readU_snoc]

set_option maxRecDepth 100000 in
set_option maxHeartbeats 400000 in
theorem readU_no (A : Option Addr) (n c : Nat) (k : Nat) (hk : k ≤ 4) (hn : n < k) (w : World) :
    Calls Tryd.prog 52 #[.slice A n c, .int .i64 k] w fun e w' => e = .returned (.tuple #[.int .u64 0, .bool false]) ∧ w = w' := by
  go_enter Tryd.func52, Tryd.ntmps52
  go_wp2
  go_ret2
  exact ⟨rfl, rfl⟩

set_option maxRecDepth 100000 in
set_option maxHeartbeats 400000 in
theorem readU_yes (A : Option Addr) (n c : Nat) (xs : List UInt8) (k : Nat) (hk : k ≤ 4) (hn : k ≤ n) (hc : n ≤ c) (w : World) (hr : Reads w w.heap.size 1 A n (bc xs)) :
    Calls Tryd.prog 52 #[.slice A n c, .int .i64 k] w fun e w' => e = .returned (.tuple #[.int .u64 (readU (xs.take k)), .bool true]) ∧ w = w' := by
  go_enter Tryd.func52, Tryd.ntmps52
  go_wp2
  go_loop [6, 25] (fun v i => ∃ j : Nat, j ≤ k ∧ i = .int .i64 j ∧ v = .int .u64 (readU (xs.take j))) (fun _ i => k - (intOf i).toNat)
  case atStart => exact ⟨0, by omega, rfl, rfl⟩
  case round =>
    obtain ⟨j, hj, rfl, rfl⟩ := hrel
    by_cases hlt : j < k
    · obtain ⟨b, off, rfl, hbB, hcell⟩ := hr.lit (by omega)
      have hxj : j < xs.length := by rw [← bc_len, hr.1]; omega
      have hc1 := hcell j (.int .u8 xs[j].toNat) (by simp [Lib.byteCells, hxj])
      clear hcell
      have H := Lib.hid (readU_step xs j hxj (by omega))
      go_wp2
      go_round
      case rel => exact ⟨j + 1, by omega, by go_num, H.out⟩
      case measure => simp [intOf]; omega
    · have hjk : j = k := by omega
      subst hjk
      clear hlt hj
      go_wp2
      go_ret2
      exact ⟨rfl, rfl⟩

set_option maxRecDepth 100000 in
set_option maxHeartbeats 400000 in
theorem readU'_no (A : Option Addr) (n c : Nat) (k : Nat) (hk : k ≤ 4) (hn : n < k) (w : World) :
    Calls Tryd.prog 40 #[.slice A n c, .int .i64 k] w fun e w' => e = .returned (.tuple #[.int .u64 0, .bool false]) ∧ w = w' := by
  have hk0 : (0 : Int) ≤ k := by omega
  have hk8 : (k : Int) ≤ 8 := by omega
  have hd0 : decide ((k : Int) < 0) = false := by simp
  have hd8 : decide ((8 : Int) < (k : Int)) = false := by simp; omega
  go_enter Tryd.func40, Tryd.ntmps40
  go_wp2
  go_ret2
  exact ⟨rfl, rfl⟩

set_option maxRecDepth 100000 in
set_option maxHeartbeats 400000 in
theorem readU'_yes (A : Option Addr) (n c : Nat) (xs : List UInt8) (k : Nat) (hk : k ≤ 4) (hn : k ≤ n) (hc : n ≤ c) (w : World) (hr : Reads w w.heap.size 1 A n (bc xs)) :
    Calls Tryd.prog 40 #[.slice A n c, .int .i64 k] w fun e w' => e = .returned (.tuple #[.int .u64 (readU (xs.take k)), .bool true]) ∧ w = w' := by
  have hk0 : (0 : Int) ≤ k := by omega
  have hk8 : (k : Int) ≤ 8 := by omega
  have hd0 : decide ((k : Int) < 0) = false := by simp
  have hd8 : decide ((8 : Int) < (k : Int)) = false := by simp; omega
  go_enter Tryd.func40, Tryd.ntmps40
  go_wp2
  go_loop [6, 7] (fun v i => ∃ j : Nat, j ≤ k ∧ i = .int .i64 j ∧ v = .int .u64 (readU (xs.take j))) (fun _ i => k - (intOf i).toNat)
  case atStart => exact ⟨0, by omega, rfl, rfl⟩
  case round =>
    obtain ⟨j, hj, rfl, rfl⟩ := hrel
    by_cases hlt : j < k
    · obtain ⟨b, off, rfl, hbB, hcell⟩ := hr.lit (by omega)
      have hxj : j < xs.length := by rw [← bc_len, hr.1]; omega
      have hc1 := hcell j (.int .u8 xs[j].toNat) (by simp [Lib.byteCells, hxj])
      clear hcell
      have H := Lib.hid (readU_step xs j hxj (by omega))
      go_wp2
      go_round
      case rel => exact ⟨j + 1, by omega, by go_num, H.out⟩
      case measure => simp [intOf]; omega
    · have hjk : j = k := by omega
      subst hjk
      clear hlt hj
      go_wp2
      go_ret2
      exact ⟨rfl, rfl⟩

/-- one bit of the sum -/
def crcBit (s : Nat) : Nat := if s % 2 = 1 then s / 2 ^^^ 3988292384 else s / 2
def crcBits : Nat → Nat → Nat
  | 0, s => s
  | k + 1, s => crcBit (crcBits k s)
def crcFold (l : List UInt8) : Nat := l.foldl (fun s c => crcBits 8 (s ^^^ c.toNat)) 4294967295
def crc (l : List UInt8) : Nat := crcFold l ^^^ 4294967295
theorem crcBit_lt (s : Nat) (h : s < 4294967296) : crcBit s < 4294967296 := by
  unfold crcBit
  split
  · exact Nat.xor_lt_two_pow (n := 32) (by omega) (by omega)
  · omega
theorem crcBits_lt (k s : Nat) (h : s < 4294967296) : crcBits k s < 4294967296 := by
  induction k with
  | zero => exact h
  | succ k ih => exact crcBit_lt _ ih
theorem crcFold_from (l : List UInt8) : ∀ a, a < 4294967296 → l.foldl (fun s c => crcBits 8 (s ^^^ c.toNat)) a < 4294967296 := by
  induction l with
  | nil => intro a h; exact h
  | cons c l ih =>
    intro a h
    exact ih _ (crcBits_lt _ _ (Nat.xor_lt_two_pow (n := 32) h (by have := c.toNat_lt; omega)))
theorem crcFold_lt (l : List UInt8) : crcFold l < 4294967296 := crcFold_from l _ (by omega)
theorem crc_lt (l : List UInt8) : crc l < 4294967296 := Nat.xor_lt_two_pow (n := 32) (crcFold_lt l) (by omega)

theorem and_one (s : Nat) (h : s < 4294967296) : bits BinOp.and .u32 (s : Int) 1 = ((s % 2 : Nat) : Int) := by
  rw [show (1 : Int) = ((1 : Nat) : Int) from rfl, u32_and_nat _ _ h (by omega), Nat.and_one_is_mod]
theorem crc_step1 (s : Nat) (h : s < 4294967296) : Value.int .u32 (bits BinOp.xor .u32 ((s : Int) / 2) (3988292384 * bits BinOp.and .u32 (s : Int) 1 % 4294967296)) = .int .u32 (crcBit s) := by
  rw [and_one s h]
  congr 1
  unfold crcBit
  rcases Nat.mod_two_eq_zero_or_one s with e | e
  · rw [e, if_neg (by omega), show (3988292384 * ((0 : Nat) : Int) % 4294967296) = ((0 : Nat) : Int) from rfl, show ((s : Int) / 2) = ((s / 2 : Nat) : Int) from by omega, u32_xor_nat _ _ (by omega) (by omega), Nat.xor_zero]
  · rw [e, if_pos rfl, show (3988292384 * ((1 : Nat) : Int) % 4294967296) = ((3988292384 : Nat) : Int) from rfl, show ((s : Int) / 2) = ((s / 2 : Nat) : Int) from by omega, u32_xor_nat _ _ (by omega) (by omega)]

theorem crc_step0 (s : Nat) (e : s % 2 = 0) : Value.int .u32 ((s : Int) / 2) = .int .u32 (crcBit s) := by
  congr 1
  unfold crcBit
  rw [if_neg (by omega)]
  omega
theorem crc_step2 (s : Nat) (h : s < 4294967296) (e : s % 2 = 1) : Value.int .u32 (bits BinOp.xor .u32 ((s : Int) / 2) 3988292384) = .int .u32 (crcBit s) := by
  congr 1
  unfold crcBit
  rw [if_pos e, show (3988292384 : Int) = ((3988292384 : Nat) : Int) from rfl, show ((s : Int) / 2) = ((s / 2 : Nat) : Int) from by omega, u32_xor_nat _ _ (by omega) (by omega)]
theorem crc_end (xs : List UInt8) : Value.int .u32 (bits BinOp.xor .u32 IntKind.u32.max (crcFold xs : Int)) = .int .u32 (crc xs) := by
  rw [show IntKind.u32.max = ((4294967295 : Nat) : Int) from rfl, u32_xor_nat _ _ (by omega) (crcFold_lt xs), Nat.xor_comm]
  rfl

set_option maxRecDepth 100000 in
set_option maxHeartbeats 400000 in
theorem sum_calls (A : Option Addr) (n c : Nat) (xs : List UInt8) (hn : n ≤ 1000000000) (hc : n ≤ c) (w : World) (hr : Reads w w.heap.size 1 A n (bc xs)) :
    Calls Tryd.prog 58 #[.slice A n c] w fun e w' => e = .returned (.int .u32 (crc xs)) ∧ w = w' := by
  have hl : xs.length = n := by have := hr.1; rw [bc_len] at this; omega
  go_enter Tryd.func58, Tryd.ntmps58
  go_wp2
  go_loop [3, 8] (fun v i => ∃ j : Nat, j ≤ n ∧ i = .int .i64 j ∧ v = .int .u32 (crcFold (xs.take j))) (fun _ i => n - (intOf i).toNat)
  case atStart => exact ⟨0, by omega, rfl, rfl⟩
  case round =>
    obtain ⟨j, hj, rfl, rfl⟩ := hrel
    by_cases hlt : j < n
    · obtain ⟨b, off, rfl, hbB, hcell⟩ := hr.lit (by omega)
      have hxj : j < xs.length := by omega
      have hc1 := hcell j (.int .u8 xs[j].toNat) (by simp [Lib.byteCells, hxj])
      clear hcell
      have hx1 : bits BinOp.xor IntKind.u32 (crcFold (xs.take j) : Int) ((xs[j].toNat : Int) % 4294967296) = ((crcFold (xs.take j) ^^^ xs[j].toNat : Nat) : Int) := by
        have := xs[j].toNat_lt
        rw [show ((xs[j].toNat : Int) % 4294967296) = (xs[j].toNat : Int) from by omega, u32_xor_nat _ _ (crcFold_lt _) (by omega)]
      have H := Lib.hid hx1
      clear hx1
      have hS := Lib.hid (Nat.xor_lt_two_pow (n := 32) (crcFold_lt (xs.take j)) (show xs[j].toNat < 2 ^ 32 by have := xs[j].toNat_lt; omega))
      go_wp2
      rw [H.out]
      generalize hSe0 : crcFold (xs.take j) ^^^ xs[j].toNat = S at *
      have hSe := Lib.hid hSe0
      clear hSe0
      go_loop [3, 16] (fun v i => ∃ m : Nat, m ≤ 8 ∧ i = .int .i64 m ∧ v = .int .u32 (crcBits m S)) (fun _ i => 8 - (intOf i).toNat)
      case atStart => exact ⟨0, by omega, rfl, rfl⟩
      case round =>
        obtain ⟨m, hm, rfl, rfl⟩ := hrel
        by_cases hm8 : m < 8
        · have hB := crcBits_lt m S hS.out
          have hB0 : (0 : Int) ≤ (crcBits m S : Int) := by omega
          have H2 := Lib.hid (crc_step1 _ hB)
          go_wp2
          go_round
          case rel => exact ⟨m + 1, by omega, by go_num, by rw [H2.out]; rfl⟩
          case measure => simp [intOf]; omega
        · have hm' : m = 8 := by omega
          subst hm'
          clear hm8 hm
          go_wp2
          go_round
          case rel => exact ⟨j + 1, by omega, by go_num, by rw [List.take_succ_eq_append_getElem hxj, crcFold, List.foldl_append, List.foldl_cons, List.foldl_nil, ← crcFold, hSe.out]⟩
          case measure => simp [intOf]; omega
    · have hjn : j = n := by omega
      subst hjn
      clear hlt hj
      rw [List.take_of_length_le (by omega)]
      have hF := crcFold_lt xs
      have HF := Lib.hid (crc_end xs)
      go_wp2
      go_ret
      exact ⟨congrArg Ending.returned HF.out, rfl⟩

set_option maxRecDepth 100000 in
set_option maxHeartbeats 400000 in
theorem sum'_calls (A : Option Addr) (n c : Nat) (xs : List UInt8) (hn : n ≤ 1000000000) (hc : n ≤ c) (w : World) (hr : Reads w w.heap.size 1 A n (bc xs)) :
    Calls Tryd.prog 43 #[.slice A n c] w fun e w' => e = .returned (.int .u32 (crc xs)) ∧ w = w' := by
  have hl : xs.length = n := by have := hr.1; rw [bc_len] at this; omega
  go_enter Tryd.func43, Tryd.ntmps43
  go_wp2
  go_loop [3, 4, 5] (fun v i _ => ∃ j : Nat, j ≤ n ∧ i = .int .i64 j ∧ v = .int .u32 (crcFold (xs.take j))) (fun _ i _ => n - (intOf i).toNat)
  case atStart => exact ⟨0, by omega, rfl, rfl⟩
  case round =>
    obtain ⟨j, hj, rfl, rfl⟩ := hrel
    by_cases hlt : j < n
    · obtain ⟨b, off, rfl, hbB, hcell⟩ := hr.lit (by omega)
      have hxj : j < xs.length := by omega
      have hc1 := hcell j (.int .u8 xs[j].toNat) (by simp [Lib.byteCells, hxj])
      clear hcell
      have hx1 : bits BinOp.xor IntKind.u32 (crcFold (xs.take j) : Int) ((xs[j].toNat : Int) % 4294967296) = ((crcFold (xs.take j) ^^^ xs[j].toNat : Nat) : Int) := by
        have := xs[j].toNat_lt
        rw [show ((xs[j].toNat : Int) % 4294967296) = (xs[j].toNat : Int) from by omega, u32_xor_nat _ _ (crcFold_lt _) (by omega)]
      have H := Lib.hid hx1
      clear hx1
      have hS := Lib.hid (Nat.xor_lt_two_pow (n := 32) (crcFold_lt (xs.take j)) (show xs[j].toNat < 2 ^ 32 by have := xs[j].toNat_lt; omega))
      go_wp2
      rw [H.out]
      generalize hSe0 : crcFold (xs.take j) ^^^ xs[j].toNat = S at *
      have hSe := Lib.hid hSe0
      clear hSe0
      go_loop [3, 5] (fun v i => ∃ m : Nat, m ≤ 8 ∧ i = .int .i64 m ∧ v = .int .u32 (crcBits m S)) (fun _ i => 8 - (intOf i).toNat)
      case atStart => exact ⟨0, by omega, rfl, rfl⟩
      case round =>
        obtain ⟨m, hm, rfl, rfl⟩ := hrel
        by_cases hm8 : m < 8
        · have hB := crcBits_lt m S hS.out
          have hB0 : (0 : Int) ≤ (crcBits m S : Int) := by omega
          rcases Nat.mod_two_eq_zero_or_one (crcBits m S) with ev | ev
          · have H2 := Lib.hid (crc_step0 _ ev)
            have t1 : (bits BinOp.and IntKind.u32 (crcBits m S : Int) 1 == 1) = false := by rw [and_one _ hB, ev]; rfl
            go_wp2
            go_round
            case rel => exact ⟨m + 1, by omega, by go_num, by rw [H2.out]; rfl⟩
            case measure => simp [intOf]; omega
          · have H2 := Lib.hid (crc_step2 _ hB ev)
            have t1 : (bits BinOp.and IntKind.u32 (crcBits m S : Int) 1 == 1) = true := by rw [and_one _ hB, ev]; rfl
            go_wp2
            go_round
            case rel => exact ⟨m + 1, by omega, by go_num, by rw [H2.out]; rfl⟩
            case measure => simp [intOf]; omega
        · have hm' : m = 8 := by omega
          subst hm'
          clear hm8 hm
          go_wp2
          go_round
          case rel => exact ⟨j + 1, by omega, by go_num, by rw [List.take_succ_eq_append_getElem hxj, crcFold, List.foldl_append, List.foldl_cons, List.foldl_nil, ← crcFold, hSe.out]⟩
          case measure => simp [intOf]; omega
    · have hjn : j = n := by omega
      subst hjn
      clear hlt hj
      rw [List.take_of_length_le (by omega)]
      have hF := crcFold_lt xs
      have HF := Lib.hid (crc_end xs)
      go_wp2
      go_ret
      exact ⟨congrArg Ending.returned HF.out, rfl⟩


end Go.Proofs.YtcmaildfhdddjaaDoor
