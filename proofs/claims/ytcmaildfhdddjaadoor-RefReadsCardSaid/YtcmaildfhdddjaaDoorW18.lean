/- Contracts of functions of this program, walked. No condition but the ones each theorem states. -/
import Derived.Test.YtcmaildfhdddjaaDoorW17
namespace Go.Proofs.YtcmaildfhdddjaaDoor
open Go.RowKit

attribute [local go_sem ↓] Go.wp_at_zero Go.wp_at_succ

def PuPost (a b : UInt8) (w : World) (e : Ending) (w' : World) : Prop :=
  ∃ (n : Nat) (er : Value), e = .returned (.tuple #[.int .u64 n, er]) ∧ n ≤ 255 ∧ (∀ x y, hexV a.toNat = some x → hexV b.toNat = some y → n = x * 16 + y) ∧ Below w.heap.size w w'

set_option maxRecDepth 100000 in
set_option maxHeartbeats 1600000 in
theorem parse16_calls (a b : UInt8) (w : World) (hG : Glob w) : Calls Tryd.prog 34 #[.string ⟨#[a, b]⟩, .int .i64 16, .int .i64 8] w (PuPost a b w) := by
  go_enter Tryd.func34, Tryd.ntmps34
  go_wp2_with fail
  refine (parseIn_calls a b w).mono ?_
  rintro e w1 ⟨h, hb1⟩
  rcases h with ⟨m, rfl, hm⟩ | ⟨rfl, hno⟩
  · have Hm := Lib.hid hm
    clear hm
    go_wp2_with fail
    go_ret2
    obtain ⟨x, y, hx, hy, rfl⟩ : ∃ x y, hexV a.toNat = some x ∧ hexV b.toNat = some y ∧ m = x * 16 + y := by
      rcases Hm.out with ⟨h, _⟩ | ⟨h, _⟩ | ⟨_, h⟩
      · omega
      · omega
      · exact h
    have h1 := hexV_lt hx
    have h2 := hexV_lt hy
    refine ⟨_, _, rfl, by omega, fun x' y' hx' hy' => ?_, hb1⟩
    rw [hx] at hx'
    rw [hy] at hy'
    cases hx'
    cases hy'
    rfl
  · have Hn := Lib.hid hno
    clear hno
    obtain ⟨ev, hev, hevk⟩ := (hG.below hb1).syn
    have hte := Lib.hid (Tryd.strconv_toError_syntax ⟨#[80, 97, 114, 115, 101, 85, 105, 110, 116]⟩ ⟨#[a, b]⟩ 16 8 ev w1 (show 2 ≤ 281474976710656 by omega) hev hevk)
    clear hevk
    go_wp2_with (go_at_call 56; refine hte.out.mono ?_; rintro e w2 ⟨N, rfl, hN, hN2, hb2⟩)
    go_ret2
    refine ⟨0, _, rfl, by omega, fun x y hx hy => ?_, hb1.trans (hb2.mono hb1.size)⟩
    rcases Hn.out with h | h
    · rw [h] at hx; cases hx
    · rw [h] at hy; cases hy

theorem ext_two (a b : UInt8) (r : List UInt8) : (⟨(a :: b :: r).toArray⟩ : ByteArray).extract 0 2 = ⟨#[a, b]⟩ := by
  apply ByteArray.ext
  simp
theorem ext_rest (a b : UInt8) (r : List UInt8) (n : Nat) (h : n = r.length + 2) : (⟨(a :: b :: r).toArray⟩ : ByteArray).extract 2 n = ⟨r.toArray⟩ := by
  subst h
  apply ByteArray.ext
  simp

def UnPost (l : List UInt8) (w : World) (e : Ending) (w' : World) : Prop :=
  ∃ bs : List UInt8, e = .returned (.string ⟨bs.toArray⟩) ∧ bs.length ≤ l.length ∧ (∀ t, l = hexL t → bs = t) ∧ Below w.heap.size w w'

def strLen (v : Value) : Nat := match v with | .string b => b.size | _ => 0

set_option maxRecDepth 100000 in
set_option maxHeartbeats 1600000 in
theorem unhexed_calls (l : List UInt8) (hl : l.length ≤ 1000) (w : World) (hG : Glob w) : Calls Tryd.prog 35 #[.string ⟨l.toArray⟩] w (UnPost l w) := by
  go_enter Tryd.func35, Tryd.ntmps35
  go_wp2_with fail
  go_loopw [0, 3, 4, 5] (fun s o _ _ wr => ∃ (L bs : List UInt8), s = .string ⟨L.toArray⟩ ∧ wr.ownsRow w.heap.size 5 1 o bs.length (bc bs) ∧ L.length + bs.length ≤ l.length ∧ Below w.heap.size w wr ∧ Hid (∀ t, l = hexL t → ∃ t2, t = bs ++ t2 ∧ L = hexL t2)) (fun s _ _ _ _ => strLen s)
  case atStart => exact ⟨l, [], rfl, World.ownsRow_nil _ _ _ _, by simp, Below.refl _ _, Lib.hid fun t h => ⟨t, rfl, h⟩⟩
  case round =>
    obtain ⟨L, bs, rfl, hown, hlen, hbx, hh⟩ := hrel
    have hGx := hG.below hbx
    by_cases h2 : 2 ≤ L.length
    · obtain ⟨a, b, r, rfl⟩ : ∃ a b r, L = a :: b :: r := by
        match L, h2 with
        | a :: b :: r, _ => exact ⟨a, b, r, rfl⟩
      have hll : (a :: b :: r).length = r.length + 2 := rfl
      have HX := Lib.hid (ext_two a b r)
      have HY := Lib.hid (fun n h => ext_rest a b r n h)
      go_wp2_with fail
      rw [HX.out]
      refine (parse16_calls a b wr hGx).mono ?_
      rintro e w1 ⟨n, er, rfl, hn, hval, hb1⟩
      have hbx1 := hbx.trans (hb1.mono hbx.size)
      have HV := Lib.hid hval
      clear hval
      have hw8 : IntKind.u8.wrap (n : Int) = n := by simp [IntKind.wrap, IntKind.bits, IntKind.signed]; omega
      have hB8 : Value.int .u8 (n : Int) = .int .u8 (UInt8.ofNat n).toNat := by
        congr 1
        simp [UInt8.toNat_ofNat]
        omega
      have HB8 := Lib.hid hB8
      clear hB8
      go_wp2_with (at_builtin; refine wpList_append_bytes rfl (.tmp 15) (.tmp 18) rfl w.heap.size _ bs.length _ rfl ((hown.below (hb1)).alloc _) (w1.heap.size + 1) (some ⟨w1.heap.size, 0, none⟩) 1 1 [UInt8.ofNat n] rfl (Reads.one' w1 _ _ 5 HB8.out) (by omega) (by have := hbx1.size; simp; omega) ?_; intro v4 w4 hown4 hg4 hat4)
      go_roundw
      case rel =>
        refine ⟨r, bs ++ [UInt8.ofNat n], ?_, by simpa using hown4, by simp at hlen ⊢; omega, below_app1 hbx1 hbx1.size _ (hown.below hb1) (Nat.le_refl _) hg4, Lib.hid fun t ht => ?_⟩
        · rw [HY.out _ (by omega)]
        · obtain ⟨t2, rfl, ht2⟩ := hh.out t ht
          cases t2 with
          | nil => simp [hexL] at ht2
          | cons c t3 =>
            have e : hexL (c :: t3) = hexD (c.toNat / 16) :: hexD (c.toNat % 16) :: hexL t3 := rfl
            rw [e] at ht2
            injection ht2 with h1 ht2
            injection ht2 with h2 ht2
            have hc := c.toNat_lt
            have hv := HV.out (c.toNat / 16) (c.toNat % 16) (by rw [h1]; exact hexV_hexD _ (by omega)) (by rw [h2]; exact hexV_hexD _ (by omega))
            have hnc : n = c.toNat := by omega
            refine ⟨t3, ?_, ht2⟩
            rw [hnc]
            simp
      case measure =>
        rw [HY.out _ (by omega)]
        simp [strLen]
        show r.length < r.length + 2
        omega
    · have hd : ¬ (2 : Int) ≤ (L.length : Int) := by omega
      obtain ⟨A3, c3, rfl, hc3, hr3⟩ := own_slice hown
      have hrun := run_text hr3 c3
      clear h2
      go_wp2_with fail
      go_ret
      refine ⟨bs, rfl, by omega, fun t ht => ?_, hbx⟩
      obtain ⟨t2, rfl, ht2⟩ := hh.out t ht
      have hlt2 := hexL_len t2
      rw [← ht2] at hlt2
      cases t2 with
      | nil => simp
      | cons c t3 => simp at hlt2; omega

end Go.Proofs.YtcmaildfhdddjaaDoor
