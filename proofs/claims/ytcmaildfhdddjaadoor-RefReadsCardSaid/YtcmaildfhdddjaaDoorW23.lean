/- Contracts of functions of this program, walked. No condition but the ones each theorem states. -/
import Derived.Test.YtcmaildfhdddjaaDoorW24
namespace Go.Proofs.YtcmaildfhdddjaaDoor
open Go.RowKit

attribute [local go_sem ↓] Go.wp_at_zero Go.wp_at_succ

/-- 'r' and 'm' as the loop reads them: an element -/
structure Elt (w : World) (s : ByteArray) (v : Nat) (A : Option Addr) (n c : Nat) (ns : List Int) : Prop where
  sz : s.size ≤ 100
  ver : v < 4294967296
  nn : n ≤ 20
  cap : n ≤ c
  row : Reads w w.heap.size 1 A n (ic ns)

section
variable {P : Program} {ops : Array Oper} {Q : Exit → Act → World → Prop} {md : Region.Mode} {S : World → Prop}
theorem take_put {i d : Nat} {oi : Oper} {v : Value} {fuel : Nat} {listed : Array Bool} {a : Act} {w : World} (hi : ops[i]? = some oi) (hd : oi.dst = some d)
    (hs : Region.noSelect ops = true) (hf : Region.free md ops listed i = true) (hr : (Region.ready md ops listed).contains i = true)
    (hQ : ∀ c a w, Q (.panic c) (a.put oi.dst v) w → Q (.panic c) a w) (hy : YieldsIf P ops S oi v a) (hS : S w)
    (h : wpAnyH P md ops Q S fuel (listed.setIfInBounds i true) ⟨a.tmps.setIfInBounds d v, a.defers⟩ w) : wpAnyH P md ops Q S (fuel + 1) listed a w :=
  wpAnyH_take hi hs hf hr hQ hy hS (by rw [hd]; exact h)
end

theorem put_at (X : Option Addr) (xn xc : Nat) (xs : List UInt8) (s : ByteArray) (v : Nat) (A : Option Addr) (n c : Nat) (ns : List Int) (w : World) (L : Nat) (hL : 8 + (2 + s.size + 4 + 1 + n) = L)
    (hX : Reads w w.heap.size 1 X xn (bc xs)) (hxn : xn ≤ 1000) (hv : v < 4294967296) (hc : n ≤ c) (hn : n ≤ 7) (hs : s.size ≤ 32)
    (hr : Reads w w.heap.size 1 A n (ic ns)) (hok : rightB s.size ns = true) :
    Calls Tryd.prog 7 #[.slice X xn xc, .agg #[.string s, .int .u32 v, .slice A n c]] w fun e w' => ∃ b o c', e = .returned (.tuple #[.slice (some ⟨b, o, none⟩) (xn + L) c', .int .i64 0]) ∧ Reads w' w'.heap.size 1 (some ⟨b, o, none⟩) (xn + L) (bc (xs ++ frameOf (refPay s v ns))) ∧ xn + L ≤ c' ∧ Below w.heap.size w w' := by
  subst hL
  refine (put_yes X xn xc xs s v A n c ns w hX hxn hv hc hn hs hr hok).mono ?_
  rintro e w' ⟨v', rfl, hown, hb⟩
  obtain ⟨A', c', rfl, hc', hr'⟩ := own_slice hown
  obtain ⟨b, o, rfl, _, _⟩ := hr'.lit (by omega)
  exact ⟨b, o, c', rfl, hr', hc', hb⟩
theorem put'_at (X : Option Addr) (xn : Nat) (xs : List UInt8) (s : ByteArray) (v : Nat) (A : Option Addr) (n c : Nat) (ns : List Int) (w : World) (L : Nat) (hL : 8 + (2 + s.size + 4 + 1 + n) = L)
    (hX : Reads w w.heap.size 1 X xn (bc xs)) (hxn : xn ≤ 1000) (hv : v < 4294967296) (hc : n ≤ c) (hn : n ≤ 7) (hs : s.size ≤ 32)
    (hr : Reads w w.heap.size 1 A n (ic ns)) (hok : rightB s.size ns = true) :
    Calls Tryd.prog 8 #[.slice X xn xn, .agg #[.string s, .int .u32 v, .slice A n c]] w fun e w' => ∃ b o c', e = .returned (.tuple #[.slice (some ⟨b, o, none⟩) (xn + L) c', .int .i64 0]) ∧ Reads w' w'.heap.size 1 (some ⟨b, o, none⟩) (xn + L) (bc (xs ++ frameOf (refPay s v ns))) ∧ xn + L ≤ c' ∧ Below w.heap.size w w' := by
  subst hL
  refine (put'_yes X xn xs s v A n c ns w hX hxn hv hc hn hs hr hok).mono ?_
  rintro e w' ⟨v', rfl, hown, hb⟩
  obtain ⟨A', c', rfl, hc', hr'⟩ := own_slice hown
  obtain ⟨b, o, rfl, _, _⟩ := hr'.lit (by omega)
  exact ⟨b, o, c', rfl, hr', hc', hb⟩

set_option maxRecDepth 100000 in
set_option maxHeartbeats 6400000 in
theorem back_calls (X : Option Addr) (xn xc : Nat) (xs : List UInt8) (s : ByteArray) (v : Nat) (A : Option Addr) (n c : Nat) (ns : List Int) (g : ByteArray) (mv k : Nat) (w : World) (hG : Glob w)
    (hX : Reads w w.heap.size 1 X xn (bc xs)) (hxc : xn ≤ xc) (hv : v < 4294967296) (hmv : mv < 4294967296) (hk : k < 65536) (hc : n ≤ c)
    (hr : Reads w w.heap.size 1 A n (ic ns)) :
    Calls Tryd.prog 3 #[.slice X xn xc, .agg #[.string s, .int .u32 v, .slice A n c], .string g, .int .u32 mv, .int .u16 k] w (Says w true) := by
  have hb1 : Below w.heap.size w (w.alloc (.cells #[.string s, .int .u32 v, .slice A n c] 26)) := (Below.refl _ w).alloc (Nat.le_refl _) _
  have hB1 := Blk.new w 26 #[.string s, .int .u32 v, .slice A n c]
  have hkn := Lib.hid (known_calls _ (hG.below hb1))
  go_enter Tryd.func3, Tryd.ntmps3
  go_wp2_with fail
  refine hkn.out.mono ?_
  rintro e w2 ⟨rfl, hb2⟩
  have hB2 := hB1.below hb2 hB1.lt
  have hb02 := hb1.trans (hb2.mono hb1.size)
  clear hb1 hb2 hB1
  have r0 : w2.cell? ⟨w.heap.size, 0, none⟩ = some (.string s) := hB2.cell 0
  have r1 : w2.cell? ⟨w.heap.size, 1, none⟩ = some (.int .u32 v) := hB2.cell 1
  have r2 : w2.cell? ⟨w.heap.size, 2, none⟩ = some (.slice A n c) := hB2.cell 2
  by_cases hbig : 100 < xn ∨ 100 < s.size ∨ 20 < n ∨ 100 < g.size
  · have hret : Says w true (.returned (.bool true)) w2 := ⟨rfl, hb02⟩
    by_cases h1 : 100 < xn
    · have i1 : decide ((100 : Int) < (xn : Int)) = true := by simp; omega
      go_wp2_with fail
      go_ret
      exact hret
    · have i1 : decide ((100 : Int) < (xn : Int)) = false := by simp; omega
      by_cases h2 : 100 < s.size
      · have i2 : decide ((100 : Int) < (s.size : Int)) = true := by simp; omega
        go_wp2_with fail
        go_ret
        exact hret
      · have i2 : decide ((100 : Int) < (s.size : Int)) = false := by simp; omega
        by_cases h3 : 20 < n
        · have i3 : decide ((20 : Int) < (n : Int)) = true := by simp; omega
          go_wp2_with fail
          go_ret
          exact hret
        · have i3 : decide ((20 : Int) < (n : Int)) = false := by simp; omega
          have i4 : decide ((100 : Int) < (g.size : Int)) = true := by simp; omega
          go_wp2_with fail
          go_ret
          exact hret
  · have i1 : decide ((100 : Int) < (xn : Int)) = false := by simp; omega
    have i2 : decide ((100 : Int) < (s.size : Int)) = false := by simp; omega
    have i3 : decide ((20 : Int) < (n : Int)) = false := by simp; omega
    have i4 : decide ((100 : Int) < (g.size : Int)) = false := by simp; omega
    have hmade := Lib.hid (made_calls g mv k hk w2 (by omega))
    have hX2 := (hX.below hb02)
    go_wp2_with (go_at_call 6; refine hmade.out.mono ?_; rintro e w3 ⟨ms, mns, mx, rfl, hmo, hmr, hb3⟩; refine Hid.out ?_)
    refine Lib.hid ?_
    obtain ⟨MA, mc, rfl, hmc, hmrd⟩ := own_slice hmo
    have hB3 := hB2.below hb3 hB2.lt
    have hb03 := hb02.trans (hb3.mono hb02.size)
    have p0 : w3.cell? ⟨w.heap.size, 0, none⟩ = some (.string s) := hB3.cell 0
    have p1 : w3.cell? ⟨w.heap.size, 1, none⟩ = some (.int .u32 v) := hB3.cell 1
    have p2 : w3.cell? ⟨w.heap.size, 2, none⟩ = some (.slice A n c) := hB3.cell 2
    have hz3 : w.heap.size < w3.heap.size := hB3.lt
    clear r0 r1 r2
    have hMb := (Blk.new w3 26 #[.string ms, .int .u32 mv, .slice MA mns.length mc]).alloc (.cells #[.string s, .int .u32 v, .slice A n c, .string ms, .int .u32 mv, .slice MA mns.length mc] 26)
    have hAb := Blk.new (w3.alloc (.cells #[.string ms, .int .u32 mv, .slice MA mns.length mc] 26)) 26 #[.string s, .int .u32 v, .slice A n c, .string ms, .int .u32 mv, .slice MA mns.length mc]
    have hRb := (hB3.alloc (.cells #[.string ms, .int .u32 mv, .slice MA mns.length mc] 26)).alloc (.cells #[.string s, .int .u32 v, .slice A n c, .string ms, .int .u32 mv, .slice MA mns.length mc] 26)
    have hz31 : (w3.alloc (.cells #[.string ms, .int .u32 mv, .slice MA mns.length mc] 26)).heap.size = w3.heap.size + 1 := by simp
    rw [hz31] at hAb
    have hb4 : Below w.heap.size w ((w3.alloc (.cells #[.string ms, .int .u32 mv, .slice MA mns.length mc] 26)).alloc (.cells #[.string s, .int .u32 v, .slice A n c, .string ms, .int .u32 mv, .slice MA mns.length mc] 26)) := (hb03.alloc (by omega) _).alloc (by rw [hz31]; omega) _
    have hM4 : Reads ((w3.alloc (.cells #[.string ms, .int .u32 mv, .slice MA mns.length mc] 26)).alloc (.cells #[.string s, .int .u32 v, .slice A n c, .string ms, .int .u32 mv, .slice MA mns.length mc] 26)) w3.heap.size 1 MA mns.length (ic mns) := (hmrd.alloc (Nat.le_refl _) _).alloc (by rw [hz31]; omega) _
    have hX4 := hX.below hb4
    have hA4 := hr.below hb4
    go_wp2_with fail
    generalize hW4 : ((w3.alloc (.cells #[.string ms, .int .u32 mv, .slice MA mns.length mc] 26)).alloc (.cells #[.string s, .int .u32 v, .slice A n c, .string ms, .int .u32 mv, .slice MA mns.length mc] 26)) = W4 at *
    have hz4 : W4.heap.size = w3.heap.size + 2 := by rw [← hW4]; simp
    clear hW4 hz31
    go_loopw [52] (fun i wr => ∃ j : Nat, j ≤ 2 ∧ i = .int .i64 j ∧ Below W4.heap.size W4 wr) (fun i _ => 2 - (intOf i).toNat)
    case atStart => exact ⟨0, by omega, rfl, Below.refl _ _⟩
    case round =>
      obtain ⟨j, hj, rfl, hbx⟩ := hrel
      have hRr := hRb.below hbx hRb.lt
      have hMr := hMb.below hbx hMb.lt
      have hAr := hAb.below hbx hAb.lt
      have hb0r : Below w.heap.size w wr := hb4.trans (hbx.mono (by omega))
      have hGr := hG.below hb0r
      have hXr : Reads wr wr.heap.size 1 X xn (bc xs) := ((hX4.keep fun p hp => hbx.cell (by omega))).more hb0r.size
      have hAAr : Reads wr wr.heap.size 1 A n (ic ns) := ((hA4.keep fun p hp => hbx.cell (by omega))).more hb0r.size
      have hMMr : Reads wr wr.heap.size 1 MA mns.length (ic mns) := ((hM4.keep fun p hp => hbx.cell (by omega))).more (by have := hbx.size; omega)
      by_cases hlt : j < 2
      · have hlt' : (j : Int) < 2 := by omega
        obtain ⟨es, ev, EA, en, ec, ens, k0, k1, k2, hes, hev, hen, hec, hER⟩ : ∃ (es : ByteArray) (ev : Nat) (EA : Option Addr) (en ec : Nat) (ens : List Int), wr.cell? ⟨w3.heap.size + 1, j * 3, none⟩ = some (.string es) ∧ wr.cell? ⟨w3.heap.size + 1, j * 3 + 1, none⟩ = some (.int .u32 ev) ∧ wr.cell? ⟨w3.heap.size + 1, j * 3 + 2, none⟩ = some (.slice EA en ec) ∧ es.size ≤ 100 ∧ ev < 4294967296 ∧ en ≤ 20 ∧ en ≤ ec ∧ Reads wr wr.heap.size 1 EA en (ic ens) := by
          have hmn : mns.length ≤ 7 ∧ ms.size ≤ 32 := by
            have h := hmr
            unfold rightB at h
            simp only [Bool.and_eq_true, decide_eq_true_eq] at h
            omega
          by_cases h0 : j = 0
          · subst h0
            exact ⟨s, v, A, n, c, ns, hAr.cell 0, hAr.cell 1, hAr.cell 2, by omega, hv, by omega, hc, hAAr⟩
          · have h1 : j = 1 := by omega
            subst h1
            exact ⟨ms, mv, MA, mns.length, mc, mns, hAr.cell 3, hAr.cell 4, hAr.cell 5, by omega, hmv, by omega, hmc, hMMr⟩
        clear hAr hAAr hMMr
        have hE5 := Blk.new wr 26 #[.string es, .int .u32 ev, .slice EA en ec]
        have hb5 : Below W4.heap.size W4 (wr.alloc (.cells #[.string es, .int .u32 ev, .slice EA en ec] 26)) := hbx.alloc hbx.size _
        have hz5 : (wr.alloc (.cells #[.string es, .int .u32 ev, .slice EA en ec] 26)).heap.size = wr.heap.size + 1 := by simp
        have hX5 := (hXr.alloc (Nat.le_refl _) (.cells #[.string es, .int .u32 ev, .slice EA en ec] 26)).more (B' := (wr.alloc (.cells #[.string es, .int .u32 ev, .slice EA en ec] 26)).heap.size) (by rw [hz5]; omega)
        have hER5 := (hER.alloc (Nat.le_refl _) (.cells #[.string es, .int .u32 ev, .slice EA en ec] 26)).more (B' := (wr.alloc (.cells #[.string es, .int .u32 ev, .slice EA en ec] 26)).heap.size) (by rw [hz5]; omega)
        have hG5 := hGr.below ((Below.refl _ wr).alloc (Nat.le_refl _) (.cells #[.string es, .int .u32 ev, .slice EA en ec] 26))
        go_wp2_with fail
        generalize wr.alloc (.cells #[.string es, .int .u32 ev, .slice EA en ec] 26) = w5 at *
        generalize wr.heap.size = gx at *
        cases hok : rightB es.size ens with
        | false =>
          refine (put_no (.slice X xn xc) es ev EA en ec ens w5 (by omega) (by omega) hec hER5 hok).mono ?_
          rintro e w6 ⟨rfl, hb6⟩
          have hE6 := hE5.below hb6 hE5.lt
          have hz6 : gx < w6.heap.size := hE6.lt
          have hER6 := (hER5.below hb6)
          have hG6 := hG5.below hb6
          have hb46 := hb5.trans (hb6.mono hb5.size)
          have hsz6 := hb6.size
          have x0 : w6.cell? ⟨gx, 0, none⟩ = some (.string es) := hE6.cell 0
          have x1 : w6.cell? ⟨gx, 1, none⟩ = some (.int .u32 ev) := hE6.cell 1
          have x2 : w6.cell? ⟨gx, 2, none⟩ = some (.slice EA en ec) := hE6.cell 2
          have hOf := Lib.hid (fun W (hb : Below w6.heap.size w6 W) => (of_calls es ev EA en ec W).mono (R' := fun e w' => e = .returned (.agg #[.string es, .int .u32 ev, .slice EA en ec]) ∧ Below w6.heap.size w6 w' ∧ w'.cell? ⟨gx, 0, none⟩ = some (.string es) ∧ w'.cell? ⟨gx, 1, none⟩ = some (.int .u32 ev) ∧ w'.cell? ⟨gx, 2, none⟩ = some (.slice EA en ec))
            fun e w' ⟨h1, h2⟩ => have hbb := hb.trans (h2.mono hb.size); ⟨h1, hbb, (hE6.below hbb hz6).cell 0, (hE6.below hbb hz6).cell 1, (hE6.below hbb hz6).cell 2⟩)
          have hPu := Lib.hid (fun W (hb : Below w6.heap.size w6 W) => (put'_no (.slice X xn xn) es ev EA en ec ens W (by omega) (by omega) hec ((hER6.keep fun p hp => hb.cell (by omega)).more (by have := hb.size; omega)) hok).mono (R' := fun e w' => e = .returned (.tuple #[.slice none 0 0, .int .i64 22]) ∧ Below w6.heap.size w6 w' ∧ w'.cell? ⟨gx, 0, none⟩ = some (.string es) ∧ w'.cell? ⟨gx, 1, none⟩ = some (.int .u32 ev) ∧ w'.cell? ⟨gx, 2, none⟩ = some (.slice EA en ec))
            fun e w' ⟨h1, h2⟩ => have hbb := hb.trans (h2.mono hb.size); ⟨h1, hbb, (hE6.below hbb hz6).cell 0, (hE6.below hbb hz6).cell 1, (hE6.below hbb hz6).cell 2⟩)
          go_upto_region 10 with (fail)
          go_region_held3 (fun w' => w'.cell? ⟨gx, 0, none⟩ = some (.string es) ∧ w'.cell? ⟨gx, 1, none⟩ = some (.int .u32 ev) ∧ w'.cell? ⟨gx, 2, none⟩ = some (.slice EA en ec)) (first | exact ⟨kP0, kP1, kP2⟩ | exact ⟨kO0, kO1, kO2⟩ | go_keep)
            (first
              | (go_at_call 9; refine (hOf.out _ ?_).mono ?_; (first | exact (Below.refl _ _).drew); rintro e wO ⟨rfl, hbO, kO0, kO1, kO2⟩)
              | (go_at_call 8; refine (hPu.out _ ?_).mono ?_; (first | exact hbO); rintro e wP ⟨rfl, hbP, kP0, kP1, kP2⟩))
          have hb4P : Below W4.heap.size W4 wP := hb46.trans (hbP.mono hb46.size)
          have hte : textR (sb es) ev ens = [] := by
            unfold textR
            rw [sb_len, hok, if_neg (by simp)]
          have hTx := Lib.hid (fun W (hb : Below w6.heap.size w6 W) => (text_calls es ev EA en ec ens W hev (by omega) (by omega) hec ((hER6.keep fun p hp => hb.cell (by omega)).more (by have := hb.size; omega)) (hG6.below hb)).mono (R' := fun e w' => e = .returned (.string ⟨#[]⟩) ∧ Below w6.heap.size w6 w' ∧ w'.cell? ⟨gx, 0, none⟩ = some (.string es) ∧ w'.cell? ⟨gx, 1, none⟩ = some (.int .u32 ev) ∧ w'.cell? ⟨gx, 2, none⟩ = some (.slice EA en ec))
            fun e w' ⟨h1, h2⟩ => have hbb := hb.trans (h2.mono hb.size); ⟨by rw [h1, hte], hbb, (hE6.below hbb hz6).cell 0, (hE6.below hbb hz6).cell 1, (hE6.below hbb hz6).cell 2⟩)
          have hTy := Lib.hid (fun W (hb : Below w6.heap.size w6 W) => (text'_calls es ev EA en ec ens W hev (by omega) (by omega) hec ((hER6.keep fun p hp => hb.cell (by omega)).more (by have := hb.size; omega))).mono (R' := fun e w' => e = .returned (.string ⟨#[]⟩) ∧ Below w6.heap.size w6 w' ∧ w'.cell? ⟨gx, 0, none⟩ = some (.string es) ∧ w'.cell? ⟨gx, 1, none⟩ = some (.int .u32 ev) ∧ w'.cell? ⟨gx, 2, none⟩ = some (.slice EA en ec))
            fun e w' ⟨h1, h2⟩ => have hbb := hb.trans (h2.mono hb.size); ⟨by rw [h1, hte], hbb, (hE6.below hbb hz6).cell 0, (hE6.below hbb hz6).cell 1, (hE6.below hbb hz6).cell 2⟩)
          have hcv : ∀ W, (convert 22 9 (.slice none 0 0)).run Tryd.prog W = .ok (.string ⟨#[]⟩) W := fun W => run_text (nilReads W 0) 0
          go_upto_region 11 with (fail)
          go_region_held3 (fun w' => w'.cell? ⟨gx, 0, none⟩ = some (.string es) ∧ w'.cell? ⟨gx, 1, none⟩ = some (.int .u32 ev) ∧ w'.cell? ⟨gx, 2, none⟩ = some (.slice EA en ec)) (first | exact ⟨kU0, kU1, kU2⟩ | exact ⟨kT0, kT1, kT2⟩ | exact ⟨kV0, kV1, kV2⟩ | go_keep)
            (first
              | (go_at_call 10; refine (hTx.out _ ?_).mono ?_; (first | exact hbU | exact hbV | exact hbP.drew); rintro e wT ⟨rfl, hbT, kT0, kT1, kT2⟩)
              | (go_at_call 9; refine (hOf.out _ ?_).mono ?_; (first | exact hbT | exact hbP.drew); rintro e wV ⟨rfl, hbV, kV0, kV1, kV2⟩)
              | (go_at_call 11; refine (hTy.out _ ?_).mono ?_; (first | exact hbT | exact hbV); rintro e wU ⟨rfl, hbU, kU0, kU1, kU2⟩))
          all_goals (
            go_wp2_with fail
            go_roundw
            case rel => exact ⟨j + 1, by omega, by go_num, by first | exact hb46.trans (hbU.mono hb46.size) | exact hb46.trans (hbT.mono hb46.size)⟩
            case measure => simp [intOf]; omega)
        | true =>
          obtain ⟨d1, d2, d3, d4⟩ := right_dim hok
          have henl : ens.length = en := by have := hER.1; rw [ic_len] at this; omega
          have HEN := Lib.hid henl
          have den : en ≤ 7 := by omega
          clear henl
          obtain ⟨L, hL⟩ : ∃ L, 8 + (2 + es.size + 4 + 1 + en) = L := ⟨_, rfl⟩
          have hLb : 1 ≤ L ∧ L ≤ 100 := by omega
          have hput := Lib.hid (put_at X xn xc xs es ev EA en ec ens w5 L hL hX5 (by omega) hev hec (by omega) d2 hER5 hok)
          have HL := Lib.hid hL
          clear hL
          refine hput.out.mono ?_
          rintro e w6 ⟨bb, bo, cc, rfl, hc6, hcc, hb6⟩
          have hE6 := hE5.below hb6 hE5.lt
          have hz6 : gx < w6.heap.size := hE6.lt
          have hER6 := (hER5.below hb6)
          have hX6 := (hX5.below hb6)
          have hG6 := hG5.below hb6
          have hb46 := hb5.trans (hb6.mono hb5.size)
          have hsz6 := hb6.size
          clear hput
          have x0 : w6.cell? ⟨gx, 0, none⟩ = some (.string es) := hE6.cell 0
          have x1 : w6.cell? ⟨gx, 1, none⟩ = some (.int .u32 ev) := hE6.cell 1
          have x2 : w6.cell? ⟨gx, 2, none⟩ = some (.slice EA en ec) := hE6.cell 2
          have hOf := Lib.hid (fun W (hb : Below w6.heap.size w6 W) => (of_calls es ev EA en ec W).mono (R' := fun e w' => e = .returned (.agg #[.string es, .int .u32 ev, .slice EA en ec]) ∧ Below w6.heap.size w6 w' ∧ w'.cell? ⟨gx, 0, none⟩ = some (.string es) ∧ w'.cell? ⟨gx, 1, none⟩ = some (.int .u32 ev) ∧ w'.cell? ⟨gx, 2, none⟩ = some (.slice EA en ec))
            fun e w' ⟨h1, h2⟩ => have hbb := hb.trans (h2.mono hb.size); ⟨h1, hbb, (hE6.below hbb hz6).cell 0, (hE6.below hbb hz6).cell 1, (hE6.below hbb hz6).cell 2⟩)
          have hPu := Lib.hid (fun W (hb : Below w6.heap.size w6 W) => (put'_at X xn xs es ev EA en ec ens W L HL.out ((hX6.keep fun p hp => hb.cell (by omega)).more (by have := hb.size; omega)) (by omega) hev hec (by omega) d2 ((hER6.keep fun p hp => hb.cell (by omega)).more (by have := hb.size; omega)) hok).mono (R' := fun e w' => ∃ b o c', e = .returned (.tuple #[.slice (some ⟨b, o, none⟩) (xn + L) c', .int .i64 0]) ∧ Reads w' w'.heap.size 1 (some ⟨b, o, none⟩) (xn + L) (bc (xs ++ frameOf (refPay es ev ens))) ∧ Below w6.heap.size w6 w' ∧ w'.cell? ⟨gx, 0, none⟩ = some (.string es) ∧ w'.cell? ⟨gx, 1, none⟩ = some (.int .u32 ev) ∧ w'.cell? ⟨gx, 2, none⟩ = some (.slice EA en ec))
            fun e w' ⟨b, o, c', h1, h3, h4, h2⟩ => have hbb := hb.trans (h2.mono hb.size); ⟨b, o, c', h1, h3, hbb, (hE6.below hbb hz6).cell 0, (hE6.below hbb hz6).cell 1, (hE6.below hbb hz6).cell 2⟩)
          have hxl : xs.length = xn := by have := hXr.1; rw [bc_len] at this; omega
          have hFr := Lib.hid (fun (A : Option Addr) (c : Nat) (hc : L ≤ c) (W : World) (hr : Reads W W.heap.size 1 A L (bc (frameOf (refPay es ev ens)))) => read_right A L c es ev ens hok hev hc W hr (by omega))
          have hTlen := text_len' (sb es) ev ens (by rw [sb_len]; exact hok) hev
          have hTis := Lib.hid (show isText ⟨(textB (sb es) ev ens).toArray⟩ (sb es) ev ens from ⟨by rw [sb_len]; exact hok, hev, rfl⟩)
          have hte : textR (sb es) ev ens = textB (sb es) ev ens := by
            unfold textR
            rw [sb_len, hok, if_pos rfl]
          have hTx0 := Lib.hid (fun W hr hg => text_calls es ev EA en ec ens W hev (by omega) (by omega) hec hr hg)
          have hTy0 := Lib.hid (fun W hr => text'_calls es ev EA en ec ens W hev (by omega) (by omega) hec hr)
          rw [hte] at hTx0 hTy0
          clear hte
          generalize frameOf (refPay es ev ens) = F at *
          generalize textB (sb es) ev ens = TB at *
          go_upto_region 10 with (fail)
          go_region_held3 (fun w' => w'.cell? ⟨gx, 0, none⟩ = some (.string es) ∧ w'.cell? ⟨gx, 1, none⟩ = some (.int .u32 ev) ∧ w'.cell? ⟨gx, 2, none⟩ = some (.slice EA en ec)) (first | exact ⟨kP0, kP1, kP2⟩ | exact ⟨kO0, kO1, kO2⟩ | go_keep)
            (first
              | (go_at_call 9; refine (hOf.out _ ?_).mono ?_; (first | exact (Below.refl _ _).drew); rintro e wO ⟨rfl, hbO, kO0, kO1, kO2⟩)
              | (go_at_call 8; refine (hPu.out _ ?_).mono ?_; (first | exact hbO); rintro e wP ⟨b2, o2, c2, rfl, hd2, hbP, kP0, kP1, kP2⟩))
          have hcP : Reads wP wP.heap.size 1 (some ⟨bb, bo, none⟩) (xn + L) (bc (xs ++ F)) := (hc6.keep fun p hp => hbP.cell (by omega)).more hbP.size
          have hcv1 := Lib.hid (fun (W : World) (hb : Below wP.heap.size wP W) => (run_text (w := W) (hcP.keep fun p hp => hb.cell (by omega)) cc : (convert 22 9 (.slice (some ⟨bb, bo, none⟩) (xn + L) cc)).run Tryd.prog W = .ok (.string ⟨(xs ++ F).toArray⟩) W))
          have hcv2 := Lib.hid (fun (W : World) (hb : Below wP.heap.size wP W) => (run_text (w := W) (hd2.keep fun p hp => hb.cell (by omega)) c2 : (convert 22 9 (.slice (some ⟨b2, o2, none⟩) (xn + L) c2)).run Tryd.prog W = .ok (.string ⟨(xs ++ F).toArray⟩) W))
          have hEP := hE6.below hbP hz6
          have hzP : gx < wP.heap.size := hEP.lt
          have hOf2 := Lib.hid (fun W (hb : Below wP.heap.size wP W) => (of_calls es ev EA en ec W).mono (R' := fun e w' => e = .returned (.agg #[.string es, .int .u32 ev, .slice EA en ec]) ∧ Below wP.heap.size wP w' ∧ (w'.cell? ⟨gx, 0, none⟩ = some (.string es) ∧ w'.cell? ⟨gx, 1, none⟩ = some (.int .u32 ev) ∧ w'.cell? ⟨gx, 2, none⟩ = some (.slice EA en ec) ∧ (convert 22 9 (.slice (some ⟨bb, bo, none⟩) (xn + L) cc)).run Tryd.prog w' = .ok (.string ⟨(xs ++ F).toArray⟩) w' ∧ (convert 22 9 (.slice (some ⟨b2, o2, none⟩) (xn + L) c2)).run Tryd.prog w' = .ok (.string ⟨(xs ++ F).toArray⟩) w'))
            fun e w' ⟨h1, h2⟩ => have hbb := hb.trans (h2.mono hb.size); ⟨h1, hbb, (hEP.below hbb hzP).cell 0, (hEP.below hbb hzP).cell 1, (hEP.below hbb hzP).cell 2, hcv1.out _ hbb, hcv2.out _ hbb⟩)
          have hTx := Lib.hid (fun W (hb : Below wP.heap.size wP W) => (hTx0.out W ((hER6.keep fun p hp => (hbP.trans (hb.mono hbP.size)).cell (by omega)).more (by have := hb.size; have := hbP.size; omega)) (hG6.below (hbP.trans (hb.mono hbP.size)))).mono (R' := fun e w' => e = .returned (.string ⟨TB.toArray⟩) ∧ Below wP.heap.size wP w' ∧ (w'.cell? ⟨gx, 0, none⟩ = some (.string es) ∧ w'.cell? ⟨gx, 1, none⟩ = some (.int .u32 ev) ∧ w'.cell? ⟨gx, 2, none⟩ = some (.slice EA en ec) ∧ (convert 22 9 (.slice (some ⟨bb, bo, none⟩) (xn + L) cc)).run Tryd.prog w' = .ok (.string ⟨(xs ++ F).toArray⟩) w' ∧ (convert 22 9 (.slice (some ⟨b2, o2, none⟩) (xn + L) c2)).run Tryd.prog w' = .ok (.string ⟨(xs ++ F).toArray⟩) w'))
            fun e w' ⟨h1, h2⟩ => have hbb := hb.trans (h2.mono hb.size); ⟨h1, hbb, (hEP.below hbb hzP).cell 0, (hEP.below hbb hzP).cell 1, (hEP.below hbb hzP).cell 2, hcv1.out _ hbb, hcv2.out _ hbb⟩)
          have hTy := Lib.hid (fun W (hb : Below wP.heap.size wP W) => (hTy0.out W ((hER6.keep fun p hp => (hbP.trans (hb.mono hbP.size)).cell (by omega)).more (by have := hb.size; have := hbP.size; omega))).mono (R' := fun e w' => e = .returned (.string ⟨TB.toArray⟩) ∧ Below wP.heap.size wP w' ∧ (w'.cell? ⟨gx, 0, none⟩ = some (.string es) ∧ w'.cell? ⟨gx, 1, none⟩ = some (.int .u32 ev) ∧ w'.cell? ⟨gx, 2, none⟩ = some (.slice EA en ec) ∧ (convert 22 9 (.slice (some ⟨bb, bo, none⟩) (xn + L) cc)).run Tryd.prog w' = .ok (.string ⟨(xs ++ F).toArray⟩) w' ∧ (convert 22 9 (.slice (some ⟨b2, o2, none⟩) (xn + L) c2)).run Tryd.prog w' = .ok (.string ⟨(xs ++ F).toArray⟩) w'))
            fun e w' ⟨h1, h2⟩ => have hbb := hb.trans (h2.mono hb.size); ⟨h1, hbb, (hEP.below hbb hzP).cell 0, (hEP.below hbb hzP).cell 1, (hEP.below hbb hzP).cell 2, hcv1.out _ hbb, hcv2.out _ hbb⟩)
          have kI : wP.drew.cell? ⟨gx, 0, none⟩ = some (.string es) ∧ wP.drew.cell? ⟨gx, 1, none⟩ = some (.int .u32 ev) ∧ wP.drew.cell? ⟨gx, 2, none⟩ = some (.slice EA en ec) ∧ (convert 22 9 (.slice (some ⟨bb, bo, none⟩) (xn + L) cc)).run Tryd.prog wP.drew = .ok (.string ⟨(xs ++ F).toArray⟩) wP.drew ∧ (convert 22 9 (.slice (some ⟨b2, o2, none⟩) (xn + L) c2)).run Tryd.prog wP.drew = .ok (.string ⟨(xs ++ F).toArray⟩) wP.drew := ⟨hEP.cell 0, hEP.cell 1, hEP.cell 2, hcv1.out _ (Below.refl _ _).drew, hcv2.out _ (Below.refl _ _).drew⟩
          go_upto_region 11 with (fail)
          go_cut [91] (fun o wx => o = .bool false ∧ Below wP.heap.size wP wx)
          case first =>
            go_region_held3 (fun w' => w'.cell? ⟨gx, 0, none⟩ = some (.string es) ∧ w'.cell? ⟨gx, 1, none⟩ = some (.int .u32 ev) ∧ w'.cell? ⟨gx, 2, none⟩ = some (.slice EA en ec) ∧ (convert 22 9 (.slice (some ⟨bb, bo, none⟩) (xn + L) cc)).run Tryd.prog w' = .ok (.string ⟨(xs ++ F).toArray⟩) w' ∧ (convert 22 9 (.slice (some ⟨b2, o2, none⟩) (xn + L) c2)).run Tryd.prog w' = .ok (.string ⟨(xs ++ F).toArray⟩) w') (first | exact kI | exact kU | exact kT | exact kV | go_keep)
              (first
                | (go_at_call 10; refine (hTx.out _ ?_).mono ?_; (first | exact hbU | exact hbV | exact (Below.refl _ _).drew); rintro e wT ⟨rfl, hbT, kT⟩)
                | (go_at_call 9; refine (hOf2.out _ ?_).mono ?_; (first | exact hbT | exact (Below.refl _ _).drew); rintro e wV ⟨rfl, hbV, kV⟩)
                | (go_at_call 11; refine (hTy.out _ ?_).mono ?_; (first | exact hbT | exact hbV); rintro e wU ⟨rfl, hbU, kU⟩))
            all_goals (go_wp2_with fail; go_meet; first | exact ⟨rfl, hbU⟩ | exact ⟨rfl, hbT⟩)
          case rest =>
            obtain ⟨rfl, hbc⟩ := hcut
            have hEc := hEP.below hbc hzP
            have hzc : gx < wc.heap.size := hEc.lt
            have hszc := hbc.size
            have hszP := hbP.size
            have hb6c := hbP.trans (hbc.mono hszP)
            have hGc := hG6.below hb6c
            have hERc : Reads wc wc.heap.size 1 EA en (ic ens) := (hER6.keep fun p hp => hb6c.cell (by omega)).more (by omega)
            have hcC : Reads wc wc.heap.size 1 (some ⟨bb, bo, none⟩) (xn + L) (bc (xs ++ F)) := (hcP.keep fun p hp => hbc.cell (by omega)).more hszc
            have hb4c : Below W4.heap.size W4 wc := hb46.trans (hb6c.mono hb46.size)
            have hcut := hcC.cut (k := xn) (cap := cc) (by omega) hcc
            have hcx : ¬ cc = xn := by omega
            have hNT : xn + L - xn = L := by omega
            rw [if_neg hcx, hNT] at hcut
            have hcut' : Reads wc wc.heap.size 1 (some ⟨bb, bo + xn, none⟩) L (bc F) := by
              have e2 : (bc (xs ++ F)).drop (xn * 1) = bc F := by
                rw [bc_append, Nat.mul_one]
                exact List.drop_left' (by rw [bc_len]; exact hxl)
              rw [e2] at hcut
              simpa [Addr.add_lit] using hcut
            clear hcut hcv1 hcv2 kI hTx hTy hOf hOf2 hPu hcP hd2
            have hrd := Lib.hid (hFr.out (some ⟨bb, bo + xn, none⟩) (cc - xn) (by omega) wc hcut')
            go_wp2_with fail
            refine hrd.out.mono ?_
            rintro e w8 ⟨yx, rfl, hyo, hb8⟩
            rw [HEN.out] at hyo
            obtain ⟨YA, yc, rfl, hyc, hyr⟩ := own_slice hyo
            have hE8 := hEc.below hb8 hzc
            have hs8 := hb8.size
            have hb48 := hb4c.trans (hb8.mono hb4c.size)
            have hb68 := hb6c.trans (hb8.mono (by omega))
            have hY9 := Blk.new w8 26 #[.string es, .int .u32 ev, .slice YA en yc]
            have hE9 := hE8.alloc (.cells #[.string es, .int .u32 ev, .slice YA en yc] 26)
            have hz9 : (w8.alloc (.cells #[.string es, .int .u32 ev, .slice YA en yc] 26)).heap.size = w8.heap.size + 1 := by simp
            have hb49 := hb48.alloc hb48.size (.cells #[.string es, .int .u32 ev, .slice YA en yc] 26)
            have hb69 := hb68.alloc (by omega) (.cells #[.string es, .int .u32 ev, .slice YA en yc] 26)
            have hyr9 := hyr.alloc (Nat.le_refl _) (.cells #[.string es, .int .u32 ev, .slice YA en yc] 26)
            have e0 : w8.cell? ⟨gx, 0, none⟩ = some (.string es) := hE8.cell 0
            have e1 : w8.cell? ⟨gx, 1, none⟩ = some (.int .u32 ev) := hE8.cell 1
            have e2 : w8.cell? ⟨gx, 2, none⟩ = some (.slice EA en ec) := hE8.cell 2
            have hz8 : gx < w8.heap.size := hE8.lt
            have hER9 : Reads (w8.alloc (.cells #[.string es, .int .u32 ev, .slice YA en yc] 26)) (w8.alloc (.cells #[.string es, .int .u32 ev, .slice YA en yc] 26)).heap.size 1 EA en (ic ens) := (hER6.keep fun p hp => hb69.cell (by omega)).more (by omega)
            have hG9 := hG6.below hb69
            clear hrd hcut' hyo hcC hb4c hb8 hb48 hb68 hEc hE8 hbc
            go_wp2_with fail
            refine (hTx0.out _ hER9 hG9).mono ?_
            rintro e w10 ⟨rfl, hb10⟩
            have hs10 := hb10.size
            have hE10 := hE9.below hb10 hE9.lt
            have hY10 := hY9.below hb10 (by omega)
            have hG10 := hG9.below hb10
            have hb410 := hb49.trans (hb10.mono hb49.size)
            have hER10 := (hER9.below hb10).more hb10.size
            have hyr10 : Reads w10 w10.heap.size 1 YA en (ic ens) := (hyr9.keep fun p hp => hb10.cell (by omega)).more (by omega)
            have hpr := Lib.hid (parse_right ⟨TB.toArray⟩ (show TB.length ≤ 1000 by omega) (sb es) ev ens hTis.out w10 hG10)
            have ess : (⟨(sb es).toArray⟩ : ByteArray) = es := by apply ByteArray.ext; simp
            rw [ess] at hpr
            rw [hz9] at hs10
            clear hE9 hY9 hb10 hb69 hER9 hyr9 hz9 hb49
            go_wp2_with fail
            refine hpr.out.mono ?_
            rintro e w11 ⟨zx, rfl, hzo, hb11⟩
            rw [HEN.out] at hzo
            obtain ⟨ZA, zc, rfl, hzc2, hzr⟩ := own_slice hzo
            have hs11 := hb11.size
            have hE11 := hE10.below hb11 hE10.lt
            have hY11 := hY10.below hb11 hY10.lt
            have hb411 := hb410.trans (hb11.mono hb410.size)
            have hER11 := (hER10.below hb11).more hb11.size
            have hyr11 := (hyr10.below hb11).more hb11.size
            have f0 : w11.cell? ⟨gx, 0, none⟩ = some (.string es) := hE11.cell 0
            have f1 : w11.cell? ⟨gx, 1, none⟩ = some (.int .u32 ev) := hE11.cell 1
            have f2 : w11.cell? ⟨gx, 2, none⟩ = some (.slice EA en ec) := hE11.cell 2
            have y0 : w11.cell? ⟨w8.heap.size, 0, none⟩ = some (.string es) := hY11.cell 0
            have y1 : w11.cell? ⟨w8.heap.size, 1, none⟩ = some (.int .u32 ev) := hY11.cell 1
            have y2 : w11.cell? ⟨w8.heap.size, 2, none⟩ = some (.slice YA en yc) := hY11.cell 2
            have hz11 : gx < w11.heap.size := hE11.lt
            have hy11 : w8.heap.size < w11.heap.size := hY11.lt
            have hZ12 := Blk.new w11 26 #[.string es, .int .u32 ev, .slice ZA en zc]
            have hE12 := hE11.alloc (.cells #[.string es, .int .u32 ev, .slice ZA en zc] 26)
            have hz12 : (w11.alloc (.cells #[.string es, .int .u32 ev, .slice ZA en zc] 26)).heap.size = w11.heap.size + 1 := by simp
            have hb412 := hb411.alloc hb411.size (.cells #[.string es, .int .u32 ev, .slice ZA en zc] 26)
            have hER12 := (hER11.alloc (Nat.le_refl _) (.cells #[.string es, .int .u32 ev, .slice ZA en zc] 26)).more (B' := (w11.alloc (.cells #[.string es, .int .u32 ev, .slice ZA en zc] 26)).heap.size) (by omega)
            have hyr12 := (hyr11.alloc (Nat.le_refl _) (.cells #[.string es, .int .u32 ev, .slice ZA en zc] 26)).more (B' := (w11.alloc (.cells #[.string es, .int .u32 ev, .slice ZA en zc] 26)).heap.size) (by omega)
            have hzr12 := (hzr.alloc (Nat.le_refl _) (.cells #[.string es, .int .u32 ev, .slice ZA en zc] 26)).more (B' := (w11.alloc (.cells #[.string es, .int .u32 ev, .slice ZA en zc] 26)).heap.size) (by omega)
            have hsm : ∀ (A B : Option Addr) (n c m d : Nat) (W : World), n ≤ 20 → m ≤ 20 → n ≤ c → m ≤ d → Reads W W.heap.size 1 A n (ic ens) → Reads W W.heap.size 1 B m (ic ens) → Calls Tryd.prog 14 #[.agg #[.string es, .int .u32 ev, .slice A n c], .agg #[.string es, .int .u32 ev, .slice B m d]] W (Says W true) := fun A B n c m d W h1 h2 h3 h4 h5 h6 => by
              refine (same_calls es ev A n c ens es ev B m d ens W (by omega) (by omega) h3 h4 h5 h6).mono ?_
              intro e w' h
              have e1 : sameB es ev ens es ev ens = true := by simp [sameB]
              rwa [e1] at h
            have HSM := Lib.hid hsm
            clear hsm
            have hs1 := Lib.hid (HSM.out YA EA en yc en ec _ (by omega) (by omega) hyc hec hyr12 hER12)
            clear hE10 hY10 hb410 hER10 hyr10 hpr hzo hb11 hb411 hER11 hyr11 hE11
            go_wp2_with fail
            refine hs1.out.mono ?_
            rintro e w13 ⟨rfl, hb13⟩
            have hE13 := hE12.below hb13 hE12.lt
            have hZ13 := hZ12.below hb13 (by omega)
            have g0 : w13.cell? ⟨gx, 0, none⟩ = some (.string es) := hE13.cell 0
            have g1 : w13.cell? ⟨gx, 1, none⟩ = some (.int .u32 ev) := hE13.cell 1
            have g2 : w13.cell? ⟨gx, 2, none⟩ = some (.slice EA en ec) := hE13.cell 2
            have v0 : w13.cell? ⟨w11.heap.size, 0, none⟩ = some (.string es) := hZ13.cell 0
            have v1 : w13.cell? ⟨w11.heap.size, 1, none⟩ = some (.int .u32 ev) := hZ13.cell 1
            have v2 : w13.cell? ⟨w11.heap.size, 2, none⟩ = some (.slice ZA en zc) := hZ13.cell 2
            have hs2 := Lib.hid (HSM.out ZA EA en zc en ec w13 (by omega) (by omega) hzc2 hec ((hzr12.below hb13).more hb13.size) ((hER12.below hb13).more hb13.size))
            have hb413 := hb412.trans (hb13.mono hb412.size)
            go_wp2_with fail
            refine hs2.out.mono ?_
            rintro e w14 ⟨rfl, hb14⟩
            go_wp2_with fail
            go_roundw
            case rel => exact ⟨j + 1, by omega, by go_num, hb413.trans (hb14.mono hb413.size)⟩
            case measure => simp [intOf]; omega
      · have hj2 : j = 2 := by omega
        subst hj2
        clear hlt hj hXr hAAr hMMr hGr hAr
        have hlt' : ¬ ((2 : Nat) : Int) < 2 := by omega
        have hzr : w.heap.size < wr.heap.size := hRr.lt
        have hzm : w3.heap.size < wr.heap.size := hMr.lt
        have keep : ∀ {W : World}, Below wr.heap.size wr W → W.cell? ⟨w.heap.size, 0, none⟩ = some (.string s) ∧ W.cell? ⟨w.heap.size, 1, none⟩ = some (.int .u32 v) ∧ W.cell? ⟨w.heap.size, 2, none⟩ = some (.slice A n c) ∧ W.cell? ⟨w3.heap.size, 0, none⟩ = some (.string ms) ∧ W.cell? ⟨w3.heap.size, 1, none⟩ = some (.int .u32 mv) ∧ W.cell? ⟨w3.heap.size, 2, none⟩ = some (.slice MA mns.length mc) := fun hb => ⟨(hRr.below hb hzr).cell 0, (hRr.below hb hzr).cell 1, (hRr.below hb hzr).cell 2, (hMr.below hb hzm).cell 0, (hMr.below hb hzm).cell 1, (hMr.below hb hzm).cell 2⟩
        have hN2 := Lib.hid (fun W (hb : Below wr.heap.size wr W) => (newer_calls ms mv _ ms mv _ W MA MA mns.length mc mns.length mc rfl rfl).mono (R' := fun e w' => e = .returned (.bool false) ∧ Below wr.heap.size wr w' ∧ (w'.cell? ⟨w.heap.size, 0, none⟩ = some (.string s) ∧ w'.cell? ⟨w.heap.size, 1, none⟩ = some (.int .u32 v) ∧ w'.cell? ⟨w.heap.size, 2, none⟩ = some (.slice A n c) ∧ w'.cell? ⟨w3.heap.size, 0, none⟩ = some (.string ms) ∧ w'.cell? ⟨w3.heap.size, 1, none⟩ = some (.int .u32 mv) ∧ w'.cell? ⟨w3.heap.size, 2, none⟩ = some (.slice MA mns.length mc)))
          fun e w' ⟨h1, h2⟩ => have hbb := hb.trans (h2.mono hb.size); ⟨by rw [h1]; simp, hbb, keep hbb⟩)
        have hN1 := Lib.hid (fun (bv : Bool) (hbv : (decide (s = ms) && decide (mv < v)) = bv) W (hb : Below wr.heap.size wr W) => (newer_calls s v _ ms mv _ W A MA n c mns.length mc rfl rfl).mono (R' := fun e w' => e = .returned (.bool bv) ∧ Below wr.heap.size wr w' ∧ (w'.cell? ⟨w.heap.size, 0, none⟩ = some (.string s) ∧ w'.cell? ⟨w.heap.size, 1, none⟩ = some (.int .u32 v) ∧ w'.cell? ⟨w.heap.size, 2, none⟩ = some (.slice A n c) ∧ w'.cell? ⟨w3.heap.size, 0, none⟩ = some (.string ms) ∧ w'.cell? ⟨w3.heap.size, 1, none⟩ = some (.int .u32 mv) ∧ w'.cell? ⟨w3.heap.size, 2, none⟩ = some (.slice MA mns.length mc)))
          fun e w' ⟨h1, h2⟩ => have hbb := hb.trans (h2.mono hb.size); ⟨by rw [h1, hbv], hbb, keep hbb⟩)
        have kI : wr.drew.cell? ⟨w.heap.size, 0, none⟩ = some (.string s) ∧ wr.drew.cell? ⟨w.heap.size, 1, none⟩ = some (.int .u32 v) ∧ wr.drew.cell? ⟨w.heap.size, 2, none⟩ = some (.slice A n c) ∧ wr.drew.cell? ⟨w3.heap.size, 0, none⟩ = some (.string ms) ∧ wr.drew.cell? ⟨w3.heap.size, 1, none⟩ = some (.int .u32 mv) ∧ wr.drew.cell? ⟨w3.heap.size, 2, none⟩ = some (.slice MA mns.length mc) := keep (Below.refl _ _).drew
        by_cases hsm : s = ms
        · by_cases hvm : mv < v
          · have hcmp : (s.toList == ms.toList) = true := by rw [hsm]; simp
            have hlt2 : decide ((mv : Int) < (v : Int)) = true := by simp; omega
            have hM1 := Lib.hid (hN1.out true (by simp [hsm, hvm]))
            clear hN1 hsm
            go_upto_region 19 with (fail)
            go_region_held3 (fun w' => w'.cell? ⟨w.heap.size, 0, none⟩ = some (.string s) ∧ w'.cell? ⟨w.heap.size, 1, none⟩ = some (.int .u32 v) ∧ w'.cell? ⟨w.heap.size, 2, none⟩ = some (.slice A n c) ∧ w'.cell? ⟨w3.heap.size, 0, none⟩ = some (.string ms) ∧ w'.cell? ⟨w3.heap.size, 1, none⟩ = some (.int .u32 mv) ∧ w'.cell? ⟨w3.heap.size, 2, none⟩ = some (.slice MA mns.length mc)) (first | exact kI | exact kS | exact kU | go_keep)
              (first
                | (go_at_call 15; (with_reducible refine (hM1.out _ ?_).mono ?_); (first | exact (Below.refl _ _).drew); rintro e wS ⟨rfl, hbS, kS⟩)
                | (go_at_call 15; (with_reducible refine (hN2.out _ ?_).mono ?_); (first | exact hbS); rintro e wU ⟨rfl, hbU, kU⟩))
            all_goals (go_wp2_with fail; go_ret; first | exact ⟨rfl, hb0r.trans (hbU.mono hb0r.size)⟩ | exact ⟨rfl, hb0r.trans (hbS.mono hb0r.size)⟩)
          · have hcmp : (s.toList == ms.toList) = true := by rw [hsm]; simp
            have hlt2 : decide ((mv : Int) < (v : Int)) = false := by simp; omega
            have hM1 := Lib.hid (hN1.out false (by simp [hvm]))
            clear hN1 hsm
            go_upto_region 19 with (fail)
            go_region_held3 (fun w' => w'.cell? ⟨w.heap.size, 0, none⟩ = some (.string s) ∧ w'.cell? ⟨w.heap.size, 1, none⟩ = some (.int .u32 v) ∧ w'.cell? ⟨w.heap.size, 2, none⟩ = some (.slice A n c) ∧ w'.cell? ⟨w3.heap.size, 0, none⟩ = some (.string ms) ∧ w'.cell? ⟨w3.heap.size, 1, none⟩ = some (.int .u32 mv) ∧ w'.cell? ⟨w3.heap.size, 2, none⟩ = some (.slice MA mns.length mc)) (first | exact kI | exact kS | exact kU | go_keep)
              (first
                | (go_at_call 15; (with_reducible refine (hM1.out _ ?_).mono ?_); (first | exact (Below.refl _ _).drew); rintro e wS ⟨rfl, hbS, kS⟩)
                | (go_at_call 15; (with_reducible refine (hN2.out _ ?_).mono ?_); (first | exact hbS); rintro e wU ⟨rfl, hbU, kU⟩))
            all_goals (go_wp2_with fail; go_ret; first | exact ⟨rfl, hb0r.trans (hbU.mono hb0r.size)⟩ | exact ⟨rfl, hb0r.trans (hbS.mono hb0r.size)⟩)
        · have hcmp : (s.toList == ms.toList) = false := str_ne hsm
          have hM1 := Lib.hid (hN1.out false (by simp [hsm]))
          clear hN1
          go_upto_region 19 with (fail)
          refine wp_region_held_drew (S := fun w' => w'.cell? ⟨w.heap.size, 0, none⟩ = some (.string s) ∧ w'.cell? ⟨w.heap.size, 1, none⟩ = some (.int .u32 v) ∧ w'.cell? ⟨w.heap.size, 2, none⟩ = some (.slice A n c) ∧ w'.cell? ⟨w3.heap.size, 0, none⟩ = some (.string ms) ∧ w'.cell? ⟨w3.heap.size, 1, none⟩ = some (.int .u32 mv) ∧ w'.cell? ⟨w3.heap.size, 2, none⟩ = some (.slice MA mns.length mc)) (by kernel_rfl) kI (fun hHeld => ?_)
          refine take_put (i := 0) (d := 127) (v := (.agg #[.string s, .int .u32 v, .slice A n c])) rfl rfl (by kernel_rfl) (by kernel_rfl) (by kernel_rfl) (fun _ _ _ h => h) (Or.inl ⟨by rfl, by (intro w hSw; go_simp)⟩) hHeld ?_
          simp only [List.setIfInBounds_toArray, List.set_cons_zero, List.set_cons_succ]
          refine take_put (i := 1) (d := 128) (v := (.agg #[.string ms, .int .u32 mv, .slice MA mns.length mc])) rfl rfl (by kernel_rfl) (by kernel_rfl) (by kernel_rfl) (fun _ _ _ h => h) (Or.inl ⟨by rfl, by (intro w hSw; go_simp)⟩) hHeld ?_
          simp only [List.setIfInBounds_toArray, List.set_cons_zero, List.set_cons_succ]
          refine take_put (i := 3) (d := 130) (v := (.pointer (some ⟨w.heap.size, 0, none⟩))) rfl rfl (by kernel_rfl) (by kernel_rfl) (by kernel_rfl) (fun _ _ _ h => h) (Or.inl ⟨by rfl, by (intro w hSw; go_simp)⟩) hHeld ?_
          simp only [List.setIfInBounds_toArray, List.set_cons_zero, List.set_cons_succ]
          refine take_put (i := 4) (d := 131) (v := (.string s)) rfl rfl (by kernel_rfl) (by kernel_rfl) (by kernel_rfl) (fun _ _ _ h => h) (Or.inl ⟨by rfl, by (intro w hSw; go_simp)⟩) hHeld ?_
          simp only [List.setIfInBounds_toArray, List.set_cons_zero, List.set_cons_succ]
          refine take_put (i := 5) (d := 132) (v := (.pointer (some ⟨w3.heap.size, 0, none⟩))) rfl rfl (by kernel_rfl) (by kernel_rfl) (by kernel_rfl) (fun _ _ _ h => h) (Or.inl ⟨by rfl, by (intro w hSw; go_simp)⟩) hHeld ?_
          simp only [List.setIfInBounds_toArray, List.set_cons_zero, List.set_cons_succ]
          refine take_put (i := 6) (d := 133) (v := (.string ms)) rfl rfl (by kernel_rfl) (by kernel_rfl) (by kernel_rfl) (fun _ _ _ h => h) (Or.inl ⟨by rfl, by (intro w hSw; go_simp)⟩) hHeld ?_
          simp only [List.setIfInBounds_toArray, List.set_cons_zero, List.set_cons_succ]
          refine take_put (i := 7) (d := 134) (v := (.bool false)) rfl rfl (by kernel_rfl) (by kernel_rfl) (by kernel_rfl) (fun _ _ _ h => h) (Or.inl ⟨by rfl, by (intro w hSw; go_simp)⟩) hHeld ?_
          simp only [List.setIfInBounds_toArray, List.set_cons_zero, List.set_cons_succ]
          refine wpAnyH_ready (rs := [2]) (by kernel_rfl) (by simp) ?_
          refine AllReadyH.cons rfl (fun K hK => ?_) AllReadyH.nil
          go_simp
          refine (hM1.out _ (Below.refl _ _).drew).mono ?_
          rintro e wS ⟨rfl, hbS, kS⟩
          go_wp2_with fail
          refine hK.out _ _ kS (fun hHeld => ?_)
          clear hK K
          try simp only [Act.put, List.setIfInBounds_toArray, List.set_cons_zero, List.set_cons_succ]
          refine take_put (i := 8) (d := 135) (v := (.bool false)) rfl rfl (by kernel_rfl) (by kernel_rfl) (by kernel_rfl) (fun _ _ _ h => h) (Or.inl ⟨by rfl, by (intro w hSw; go_simp)⟩) hHeld ?_
          simp only [List.setIfInBounds_toArray, List.set_cons_zero, List.set_cons_succ]
          refine take_put (i := 9) (d := 136) (v := undef) rfl rfl (by kernel_rfl) (by kernel_rfl) (by kernel_rfl) (fun _ _ _ h => h) (Or.inr ⟨by rfl, rfl⟩) hHeld ?_
          simp only [List.setIfInBounds_toArray, List.set_cons_zero, List.set_cons_succ]
          refine take_put (i := 10) (d := 137) (v := undef) rfl rfl (by kernel_rfl) (by kernel_rfl) (by kernel_rfl) (fun _ _ _ h => h) (Or.inr ⟨by rfl, rfl⟩) hHeld ?_
          simp only [List.setIfInBounds_toArray, List.set_cons_zero, List.set_cons_succ]
          refine take_put (i := 11) (d := 138) (v := undef) rfl rfl (by kernel_rfl) (by kernel_rfl) (by kernel_rfl) (fun _ _ _ h => h) (Or.inr ⟨by rfl, rfl⟩) hHeld ?_
          simp only [List.setIfInBounds_toArray, List.set_cons_zero, List.set_cons_succ]
          refine take_put (i := 12) (d := 139) (v := undef) rfl rfl (by kernel_rfl) (by kernel_rfl) (by kernel_rfl) (fun _ _ _ h => h) (Or.inr ⟨by rfl, rfl⟩) hHeld ?_
          simp only [List.setIfInBounds_toArray, List.set_cons_zero, List.set_cons_succ]
          refine take_put (i := 13) (d := 140) (v := undef) rfl rfl (by kernel_rfl) (by kernel_rfl) (by kernel_rfl) (fun _ _ _ h => h) (Or.inr ⟨by rfl, rfl⟩) hHeld ?_
          simp only [List.setIfInBounds_toArray, List.set_cons_zero, List.set_cons_succ]
          refine take_put (i := 14) (d := 141) (v := (.bool false)) rfl rfl (by kernel_rfl) (by kernel_rfl) (by kernel_rfl) (fun _ _ _ h => h) (Or.inl ⟨by rfl, by (intro w hSw; go_simp)⟩) hHeld ?_
          simp only [List.setIfInBounds_toArray, List.set_cons_zero, List.set_cons_succ]
          refine take_put (i := 15) (d := 142) (v := (.bool true)) rfl rfl (by kernel_rfl) (by kernel_rfl) (by kernel_rfl) (fun _ _ _ h => h) (Or.inl ⟨by rfl, by (intro w hSw; go_simp)⟩) hHeld ?_
          simp only [List.setIfInBounds_toArray, List.set_cons_zero, List.set_cons_succ]
          refine take_put (i := 16) (d := 143) (v := (.bool true)) rfl rfl (by kernel_rfl) (by kernel_rfl) (by kernel_rfl) (fun _ _ _ h => h) (Or.inl ⟨by rfl, by (intro w hSw; go_simp)⟩) hHeld ?_
          simp only [List.setIfInBounds_toArray, List.set_cons_zero, List.set_cons_succ]
          refine take_put (i := 17) (d := 144) (v := (.agg #[.string ms, .int .u32 mv, .slice MA mns.length mc])) rfl rfl (by kernel_rfl) (by kernel_rfl) (by kernel_rfl) (fun _ _ _ h => h) (Or.inl ⟨by rfl, by (intro w hSw; go_simp)⟩) hHeld ?_
          simp only [List.setIfInBounds_toArray, List.set_cons_zero, List.set_cons_succ]
          refine take_put (i := 18) (d := 145) (v := (.agg #[.string ms, .int .u32 mv, .slice MA mns.length mc])) rfl rfl (by kernel_rfl) (by kernel_rfl) (by kernel_rfl) (fun _ _ _ h => h) (Or.inl ⟨by rfl, by (intro w hSw; go_simp)⟩) hHeld ?_
          simp only [List.setIfInBounds_toArray, List.set_cons_zero, List.set_cons_succ]
          refine wpAnyH_ready (rs := [19]) (by kernel_rfl) (by simp) ?_
          refine AllReadyH.cons rfl (fun K hK => ?_) AllReadyH.nil
          go_simp
          refine (hN2.out _ hbS).mono ?_
          rintro e wU ⟨rfl, hbU, kU⟩
          go_wp2_with fail
          refine hK.out _ _ kU (fun hHeld => ?_)
          clear hK K
          try simp only [Act.put, List.setIfInBounds_toArray, List.set_cons_zero, List.set_cons_succ]
          refine take_put (i := 20) (d := 147) (v := (.bool true)) rfl rfl (by kernel_rfl) (by kernel_rfl) (by kernel_rfl) (fun _ _ _ h => h) (Or.inl ⟨by rfl, by (intro w hSw; go_simp)⟩) hHeld ?_
          simp only [List.setIfInBounds_toArray, List.set_cons_zero, List.set_cons_succ]
          refine take_put (i := 21) (d := 148) (v := (.bool true)) rfl rfl (by kernel_rfl) (by kernel_rfl) (by kernel_rfl) (fun _ _ _ h => h) (Or.inl ⟨by rfl, by (intro w hSw; go_simp)⟩) hHeld ?_
          simp only [List.setIfInBounds_toArray, List.set_cons_zero, List.set_cons_succ]
          refine take_put (i := 22) (d := 10) (v := (.bool true)) rfl rfl (by kernel_rfl) (by kernel_rfl) (by kernel_rfl) (fun _ _ _ h => h) (Or.inl ⟨by rfl, by (intro w hSw; go_simp)⟩) hHeld ?_
          simp only [List.setIfInBounds_toArray, List.set_cons_zero, List.set_cons_succ]
          refine wpAnyH_done (by kernel_rfl) ?_ _
          go_wp2_with fail
          go_ret
          exact ⟨rfl, hb0r.trans (hbU.mono hb0r.size)⟩

end Go.Proofs.YtcmaildfhdddjaaDoor
