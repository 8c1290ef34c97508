/- Contracts of functions of this program, walked. No condition but the ones each theorem states. -/
import Derived.Test.YtcmaildfhdddjaaDoorW24
import Derived.Laws.BitsAllLaws
namespace Go.Proofs.YtcmaildfhdddjaaDoor
open Go.RowKit

attribute [local go_sem ↓] Go.wp_at_zero Go.wp_at_succ

set_option maxRecDepth 100000 in
set_option maxHeartbeats 6400000 in
theorem reads_calls (X : Option Addr) (xn xc : Nat) (xs : List UInt8) (s g : ByteArray) (mv k at_ x : Nat) (w : World) (hG : Glob w)
    (hX : Reads w w.heap.size 1 X xn (bc xs)) (hxc : xn ≤ xc) (hmv : mv < 4294967296) (hk : k < 65536) (hat : at_ < 65536) (hx : x < 256) :
    Calls Tryd.prog 4 #[.slice X xn xc, .string s, .string g, .int .u32 mv, .int .u16 k, .int .u16 at_, .int .u8 x] w (Says w true) := by
  have hkn := Lib.hid (known_calls _ hG)
  go_enter Tryd.func4, Tryd.ntmps4
  go_wp2_with fail
  refine hkn.out.mono ?_
  rintro e w2 ⟨rfl, hb2⟩
  by_cases hbig : 200 < xn ∨ 100 < s.size ∨ 100 < g.size
  · have hret : Says w true (.returned (.bool true)) w2 := ⟨rfl, hb2⟩
    by_cases h1 : 200 < xn
    · have i1 : decide ((200 : Int) < (xn : Int)) = true := by simp; omega
      go_wp2_with fail
      go_ret
      exact hret
    · have i1 : decide ((200 : Int) < (xn : Int)) = false := by simp; omega
      by_cases h2 : 100 < s.size
      · have i2 : decide ((100 : Int) < (s.size : Int)) = true := by simp; omega
        go_wp2_with fail
        go_ret
        exact hret
      · have i2 : decide ((100 : Int) < (s.size : Int)) = false := by simp; omega
        have i4 : decide ((100 : Int) < (g.size : Int)) = true := by simp; omega
        go_wp2_with fail
        go_ret
        exact hret
  · have i1 : decide ((200 : Int) < (xn : Int)) = false := by simp; omega
    have i2 : decide ((100 : Int) < (s.size : Int)) = false := by simp; omega
    have i4 : decide ((100 : Int) < (g.size : Int)) = false := by simp; omega
    have hmade := Lib.hid (made_calls g mv k hk w2 (by omega))
    go_wp2_with (go_at_call 6; refine hmade.out.mono ?_; rintro e w3 ⟨ms, mns, mx, rfl, hmo, hmr, hb3⟩; refine Hid.out ?_)
    refine Lib.hid ?_
    obtain ⟨MA, mc, rfl, hmc, hmrd⟩ := own_slice hmo
    have hb03 := hb2.trans (hb3.mono hb2.size)
    obtain ⟨d1, d2, d3, d4⟩ := right_dim hmr
    obtain ⟨L, hL⟩ : ∃ L, 8 + (2 + ms.size + 4 + 1 + mns.length) = L := ⟨_, rfl⟩
    have hLb : 1 ≤ L ∧ L ≤ 100 := by omega
    have hM4 := Blk.new w3 26 #[.string ms, .int .u32 mv, .slice MA mns.length mc]
    have hz4 : (w3.alloc (.cells #[.string ms, .int .u32 mv, .slice MA mns.length mc] 26)).heap.size = w3.heap.size + 1 := by simp
    have hb04 : Below w.heap.size w (w3.alloc (.cells #[.string ms, .int .u32 mv, .slice MA mns.length mc] 26)) := hb03.alloc hb03.size _
    have hmr4 := (hmrd.alloc (Nat.le_refl _) (.cells #[.string ms, .int .u32 mv, .slice MA mns.length mc] 26))
    have hput := Lib.hid (fun W hr => putR MA mns.length mc ms mv mns W L hL hmv hmc d4 d2 hr hmr)
    clear hL
    go_wp2_with (go_at_call 9; refine (of_calls ms mv MA mns.length mc _).mono ?_; rintro e w5 ⟨rfl, hb5⟩; refine Hid.out ?_)
    refine Lib.hid ?_
    rw [hz4] at hb5
    have hz5 := hb5.size
    rw [hz4] at hz5
    have hM5 := hM4.below hb5 (by omega)
    have hmr5 : Reads w5 w3.heap.size 1 MA mns.length (ic mns) := hmr4.keep fun p hp => hb5.cell (by omega)
    have hb05 := hb04.trans (hb5.mono (by have := hb03.size; omega))
    clear hb5 hM4 hmr4 hb04 hz4 hmo
    go_wp2_with fail
    refine (hput.out w5 (hmr5.more (by omega))).mono ?_
    rintro e w6 ⟨gb, cb, bs, rfl, hbo, hcb, hb6⟩
    have hM6 := hM5.below hb6 hM5.lt
    have hmr6 : Reads w6 w3.heap.size 1 MA mns.length (ic mns) := hmr5.keep fun p hp => hb6.cell (by omega)
    have hb06 := hb05.trans (hb6.mono hb05.size)
    have hz6 := hb6.size
    have hbl : bs.length = L := by have := hbo.1; rw [bc_len] at this; omega
    obtain ⟨i, hi⟩ : ∃ i, at_ % L = i := ⟨_, rfl⟩
    have hiL : i < L := by rw [← hi]; exact Nat.mod_lt _ (by omega)
    obtain ⟨hci, hfi⟩ := own_cell hbo hiL
    have hgl : gb < w6.heap.size := by
      rcases hbo.2 with ⟨hv, _⟩ | ⟨g', cap', cur, hv, hb, hg, _⟩
      · cases hv
      · simp only [Value.slice.injEq, Option.some.injEq, Addr.mk.injEq, and_true, true_and] at hv
        obtain ⟨rfl, rfl⟩ := hv
        rcases Nat.lt_or_ge gb w6.heap.size with h | h
        · exact h
        · rw [Array.getElem?_eq_none h] at hg; cases hg
    have hgb : w5.heap.size ≤ gb := by
      rcases hbo.2 with ⟨hv, _⟩ | ⟨g', cap', cur, hv, hb, hg, _⟩
      · cases hv
      · simp only [Value.slice.injEq, Option.some.injEq, Addr.mk.injEq, and_true, true_and] at hv
        obtain ⟨rfl, rfl⟩ := hv
        exact hb
    have hy := (bs.getD i 0).toNat_lt
    have hxor := u8_xor_nat (bs.getD i 0).toNat x hy hx
    have hrem : ((at_ : Int) % (L : Int)) = (i : Int) := by rw [← hi]; omega
    have hrem' : (at_ : Int).tmod (L : Int) = (i : Int) := by rw [← hi]; rfl
    have hib : i < bs.length := by omega
    have hbi : bs.getD i 0 = bs[i]'hib := by simp [hib]
    obtain ⟨cx, hcx⟩ : ∃ cx : UInt8, Value.int .u8 (bits BinOp.xor .u8 ((bs[i]'hib).toNat : Int) (x : Int)) = .int .u8 cx.toNat := by
      rw [hbi] at hxor hy
      refine ⟨UInt8.ofNat ((bs[i]'hib).toNat ^^^ x), ?_⟩
      rw [hxor]
      have hlt : (bs[i]'hib).toNat ^^^ x < 256 := Nat.xor_lt_two_pow (n := 8) hy hx
      generalize (bs[i]'hib).toNat ^^^ x = z at *
      congr 1
      simp [UInt8.toNat_ofNat]
      omega
    have HCX := Lib.hid hcx
    have HXO := Lib.hid hxor
    clear hcx hxor
    have hbo7 := (own_set hbo hiL cx).alloc (.cells #[.slice X xn xc, .slice (some ⟨gb, 0, none⟩) L cb] 22)
    have hS7 := Blk.new (w6.setCell ⟨gb, i, none⟩ (.int .u8 cx.toNat)) 22 #[.slice X xn xc, .slice (some ⟨gb, 0, none⟩) L cb]
    have hzs : (w6.setCell ⟨gb, i, none⟩ (.int .u8 cx.toNat)).heap.size = w6.heap.size := by simp
    rw [hzs] at hS7
    have hb07 : Below w.heap.size w ((w6.setCell ⟨gb, i, none⟩ (.int .u8 cx.toNat)).alloc (.cells #[.slice X xn xc, .slice (some ⟨gb, 0, none⟩) L cb] 22)) := (hb06.setCell (p := ⟨gb, i, none⟩) (by have := hb05.size; show w.heap.size ≤ gb; omega) _).alloc (by rw [hzs]; exact hb06.size) _
    have hM7 := (hM6.set_other (show w3.heap.size ≠ gb by omega) i (.int .u8 cx.toNat)).alloc (.cells #[.slice X xn xc, .slice (some ⟨gb, 0, none⟩) L cb] 22)
    have hmr7 : Reads ((w6.setCell ⟨gb, i, none⟩ (.int .u8 cx.toNat)).alloc (.cells #[.slice X xn xc, .slice (some ⟨gb, 0, none⟩) L cb] 22)) w3.heap.size 1 MA mns.length (ic mns) := (hmr6.setCell (p := ⟨gb, i, none⟩) (show w3.heap.size ≤ gb by omega) _).alloc (by rw [hzs]; omega) _
    have hz7 : ((w6.setCell ⟨gb, i, none⟩ (.int .u8 cx.toNat)).alloc (.cells #[.slice X xn xc, .slice (some ⟨gb, 0, none⟩) L cb] 22)).heap.size = w6.heap.size + 1 := by simp
    have hX7 := hX.below hb07
    go_wp2_with fail
    rw [HCX.out]
    generalize (w6.setCell ⟨gb, i, none⟩ (.int .u8 cx.toNat)).alloc (.cells #[.slice X xn xc, .slice (some ⟨gb, 0, none⟩) L cb] 22) = W7 at *
    generalize w6.heap.size = gs at *
    have hwW : w.heap.size ≤ w3.heap.size := hb03.size
    clear hci hfi hbo hM6 hmr6 hb06 hM5 hmr5 hb05
    go_loopw [69] (fun i wr => ∃ j : Nat, j ≤ 2 ∧ i = .int .i64 j ∧ Below W7.heap.size W7 wr) (fun i _ => 2 - (intOf i).toNat)
    case atStart => exact ⟨0, by omega, rfl, Below.refl _ _⟩
    case round =>
      obtain ⟨j, hj, rfl, hbx⟩ := hrel
      have hszx := hbx.size
      have hb0r := hb07.trans (hbx.mono (by omega))
      have hSr := hS7.below hbx hS7.lt
      by_cases hlt : j < 2
      · have hlt' : (j : Int) < 2 := by omega
        obtain ⟨EA, en, ec, es, k0, hec, hen, hER⟩ : ∃ (EA : Option Addr) (en ec : Nat) (es : List UInt8), wr.cell? ⟨gs, j, none⟩ = some (.slice EA en ec) ∧ en ≤ ec ∧ en ≤ 1000 ∧ Reads wr wr.heap.size 1 EA en (bc es) := by
          by_cases h0 : j = 0
          · subst h0
            exact ⟨X, xn, xc, xs, hSr.cell 0, hxc, by omega, (hX7.keep fun p hp => hbx.cell (by omega)).more (by omega)⟩
          · have h1 : j = 1 := by omega
            subst h1
            obtain ⟨A', c', hAc, hle, hrd⟩ := own_slice hbo7
            simp only [Value.slice.injEq, true_and] at hAc
            obtain ⟨rfl, rfl⟩ := hAc
            exact ⟨some ⟨gb, 0, none⟩, L, cb, _, hSr.cell 1, hle, by omega, (hrd.below hbx).more hszx⟩
        obtain ⟨t, v, ns, kk, hns, hkk, hrd1, hrd2⟩ := both_reads EA en ec es hec hen
        have HR1 := Lib.hid hrd1
        have HR2 := Lib.hid hrd2
        clear hrd1 hrd2 hSr
        go_wp2_with fail
        refine (HR1.out wr hER).mono ?_
        rintro e w8 ⟨UA, uc, rfl, hur, huc, hb8⟩
        have hER8 := (hER.below hb8)
        have hs8 := hb8.size
        have hU9 := Blk.new w8 26 #[.string ⟨t.toArray⟩, .int .u32 v, .slice UA ns.length uc]
        have hz9 : (w8.alloc (.cells #[.string ⟨t.toArray⟩, .int .u32 v, .slice UA ns.length uc] 26)).heap.size = w8.heap.size + 1 := by simp
        have hER9 := (hER8.alloc (by omega) (.cells #[.string ⟨t.toArray⟩, .int .u32 v, .slice UA ns.length uc] 26)).more (B' := (w8.alloc (.cells #[.string ⟨t.toArray⟩, .int .u32 v, .slice UA ns.length uc] 26)).heap.size) (by omega)
        have hur9 := hur.alloc (Nat.le_refl _) (.cells #[.string ⟨t.toArray⟩, .int .u32 v, .slice UA ns.length uc] 26)
        have hb9 := (hbx.trans (hb8.mono hszx)).alloc (by omega) (.cells #[.string ⟨t.toArray⟩, .int .u32 v, .slice UA ns.length uc] 26)
        go_wp2_with fail
        refine (HR2.out _ hER9).mono ?_
        rintro e w10 ⟨VA, vc, rfl, hvr, hvc, hb10⟩
        rw [hz9] at hb10
        have hs10 := hb10.size
        rw [hz9] at hs10
        have hU10 := hU9.below hb10 (by omega)
        have hur10 : Reads w10 w10.heap.size 1 UA ns.length (ic ns) := (hur9.keep fun p hp => hb10.cell (by omega)).more (by omega)
        have hb010 := hb9.trans (hb10.mono (by omega))
        have u0 : w10.cell? ⟨w8.heap.size, 0, none⟩ = some (.string ⟨t.toArray⟩) := hU10.cell 0
        have u1 : w10.cell? ⟨w8.heap.size, 1, none⟩ = some (.int .u32 v) := hU10.cell 1
        have u2 : w10.cell? ⟨w8.heap.size, 2, none⟩ = some (.slice UA ns.length uc) := hU10.cell 2
        have hU11 := hU10.alloc (.cells #[.string ⟨t.toArray⟩, .int .u32 v, .slice VA ns.length vc] 36)
        have hz11 : (w10.alloc (.cells #[.string ⟨t.toArray⟩, .int .u32 v, .slice VA ns.length vc] 36)).heap.size = w10.heap.size + 1 := by simp
        have hur11 := (hur10.alloc (Nat.le_refl _) (.cells #[.string ⟨t.toArray⟩, .int .u32 v, .slice VA ns.length vc] 36)).more (B' := (w10.alloc (.cells #[.string ⟨t.toArray⟩, .int .u32 v, .slice VA ns.length vc] 36)).heap.size) (by omega)
        have hvr11 := (hvr.alloc (Nat.le_refl _) (.cells #[.string ⟨t.toArray⟩, .int .u32 v, .slice VA ns.length vc] 36)).more (B' := (w10.alloc (.cells #[.string ⟨t.toArray⟩, .int .u32 v, .slice VA ns.length vc] 36)).heap.size) (by omega)
        have hb011 := hb010.alloc (by omega) (.cells #[.string ⟨t.toArray⟩, .int .u32 v, .slice VA ns.length vc] 36)
        have hlike : Calls Tryd.prog 17 #[.agg #[.string ⟨t.toArray⟩, .int .u32 v, .slice UA ns.length uc], .agg #[.string ⟨t.toArray⟩, .int .u32 v, .slice VA ns.length vc]] (w10.alloc (.cells #[.string ⟨t.toArray⟩, .int .u32 v, .slice VA ns.length vc] 36)) (Says (w10.alloc (.cells #[.string ⟨t.toArray⟩, .int .u32 v, .slice VA ns.length vc] 36)) true) := by
          refine (like_calls _ v UA ns.length uc ns _ v VA ns.length vc ns _ (by omega) (by omega) huc hvc hur11 hvr11).mono ?_
          intro e w' h
          have e1 : sameB ⟨t.toArray⟩ v ns ⟨t.toArray⟩ v ns = true := by simp [sameB]
          rwa [e1] at h
        have HLK := Lib.hid hlike
        clear hlike
        have hkn : (kk != kk) = false := by simp
        have hz8 : w8.heap.size < w10.heap.size := by omega
        clear hER hER8 hER9 hU9 hur9 hb9 hb10 hU10 hur10 hb010 hvr
        go_wp2_with fail
        refine HLK.out.mono ?_
        rintro e w12 ⟨rfl, hb12⟩
        go_wp2_with fail
        go_roundw
        case rel => exact ⟨j + 1, by omega, by go_num, hb011.trans (hb12.mono (by omega))⟩
        case measure => simp [intOf]; omega
      · have hj2 : j = 2 := by omega
        subst hj2
        have hlt' : ¬ ((2 : Nat) : Int) < 2 := by omega
        have hMr := hM7.below hbx hM7.lt
        have hmrr : Reads wr w3.heap.size 1 MA mns.length (ic mns) := hmr7.keep fun p hp => hbx.cell (by omega)
        have hzm : w3.heap.size < wr.heap.size := hMr.lt
        have m0 : wr.cell? ⟨w3.heap.size, 0, none⟩ = some (.string ms) := hMr.cell 0
        have m1 : wr.cell? ⟨w3.heap.size, 1, none⟩ = some (.int .u32 mv) := hMr.cell 1
        have m2 : wr.cell? ⟨w3.heap.size, 2, none⟩ = some (.slice MA mns.length mc) := hMr.cell 2
        have hTlen := text_len' (sb ms) mv mns (by rw [sb_len]; exact hmr) hmv
        have hTpos : 0 < (textB (sb ms) mv mns).length := by simp [textB]
        have hTis := Lib.hid (show ∀ y : ByteArray, sb y = textB (sb ms) mv mns → isText y (sb ms) mv mns from fun y hy => ⟨by rw [sb_len]; exact hmr, hmv, hy⟩)
        have hte : textR (sb ms) mv mns = textB (sb ms) mv mns := by
          unfold textR
          rw [sb_len, hmr, if_pos rfl]
        have hTy := Lib.hid (fun W hr => text'_calls ms mv MA mns.length mc mns W hmv (by omega) (by omega) hmc hr)
        rw [hte] at hTy
        clear hte
        generalize textB (sb ms) mv mns = TB at *
        obtain ⟨i2, hi2⟩ : ∃ i, at_ % TB.length = i := ⟨_, rfl⟩
        have hi2L : i2 < TB.length := by rw [← hi2]; exact Nat.mod_lt _ (by omega)
        have hrem2 : ((at_ : Int) % (TB.length : Int)) = (i2 : Int) := by rw [← hi2]; omega
        have hrem2' : (at_ : Int).tmod (TB.length : Int) = (i2 : Int) := by rw [← hi2]; rfl
        clear hbx hSr hS7 hM7 hmr7 hX7 hb07 hbo7 hlt hj
        go_wp2_with (go_at_call 9; refine (of_calls ms mv MA mns.length mc _).mono ?_; rintro e w8 ⟨rfl, hb8⟩; refine Hid.out ?_)
        refine Lib.hid ?_
        have hM8 := hMr.below hb8 hzm
        have hmr8 : Reads w8 w8.heap.size 1 MA mns.length (ic mns) := (hmrr.keep fun p hp => hb8.cell (by omega)).more (by have := hb8.size; omega)
        have hb08 := hb0r.trans (hb8.mono hb0r.size)
        go_wp2_with fail
        refine (hTy.out w8 hmr8).mono ?_
        rintro e w9 ⟨rfl, hb9⟩
        have hM9 := hM8.below hb9 hM8.lt
        have hz9 : w3.heap.size < w9.heap.size := hM9.lt
        have hmr9 : Reads w9 w9.heap.size 1 MA mns.length (ic mns) := (hmr8.below hb9).more hb9.size
        have hb09 := hb08.trans (hb9.mono hb08.size)
        have hcv := Lib.run_convert_string_bytes (P := Tryd.prog) w9 9 22 5 ⟨TB.toArray⟩ (u := .string) Tryd.underlying9 Tryd.underlying22 Tryd.underlying5
        have hrd := bytes_reads w9 ⟨TB.toArray⟩
        have hfz := bytes_frozen w9 ⟨TB.toArray⟩ i2 hi2L
        have hbw := Lib.bytesWorld_below w9 5 ⟨TB.toArray⟩
        have hbz := Lib.bytesWorld_size w9 5 ⟨TB.toArray⟩
        have hTs : (⟨TB.toArray⟩ : ByteArray).size = TB.length := rfl
        have hTsb : sb ⟨TB.toArray⟩ = TB := rfl
        rw [hTs] at hcv hrd
        rw [hTsb] at hrd
        generalize Lib.bytesWorld w9 5 ⟨TB.toArray⟩ = w10 at *
        have hM10 := hM9.below hbw hz9
        have hmr10 : Reads w10 w9.heap.size 1 MA mns.length (ic mns) := hmr9.keep fun p hp => hbw.cell (by omega)
        have hb010 := hb09.trans (hbw.mono hb09.size)
        have hct : w10.cell? ⟨w9.heap.size, i2, none⟩ = some (.int .u8 (TB.getD i2 0).toNat) := by
          obtain ⟨b, off, he, _, hcell⟩ := hrd.lit (by omega)
          cases he
          have := hcell i2 (.int .u8 (TB.getD i2 0).toNat) (by simp only [Lib.byteCells, List.getElem?_map, getD_some _ i2 hi2L, Option.map_some])
          rwa [Nat.zero_add] at this
        obtain ⟨cx2, hcx2⟩ : ∃ c : UInt8, Value.int .u8 (x : Int) = .int .u8 c.toNat := ⟨UInt8.ofNat x, by congr 1; simp [UInt8.toNat_ofNat]; omega⟩
        have HCX2 := Lib.hid hcx2
        clear hcx2
        have hrd2 : Reads (w10.setCell ⟨w9.heap.size, i2, none⟩ (.int .u8 (x : Int))) (w9.heap.size + 1) 1 (some ⟨w9.heap.size, 0, none⟩) TB.length (bc (TB.set i2 cx2)) := by
          rw [HCX2.out]
          exact reads_set hrd hi2L cx2
        have hrun := run_text hrd2 (grownCap w9 TB.length 0 5)
        have hYl : (TB.set i2 cx2).length = TB.length := by simp
        generalize TB.set i2 cx2 = YB at *
        have hM11 := hM10.set_other (show w3.heap.size ≠ w9.heap.size by omega) i2 (.int .u8 (x : Int))
        have hmr11 : Reads (w10.setCell ⟨w9.heap.size, i2, none⟩ (.int .u8 (x : Int))) w9.heap.size 1 MA mns.length (ic mns) := hmr10.setCell (p := ⟨w9.heap.size, i2, none⟩) (Nat.le_refl _) _
        have hb011 := hb010.setCell (p := ⟨w9.heap.size, i2, none⟩) (show w.heap.size ≤ w9.heap.size by omega) (.int .u8 (x : Int))
        have hz11 : (w10.setCell ⟨w9.heap.size, i2, none⟩ (.int .u8 (x : Int))).heap.size = w10.heap.size := by simp
        clear hb8 hM8 hmr8 hb08 hb9 hM9 hmr9 hb09 hbw m0 m1 m2 hM10 hmr10 hb010 hrd hrd2
        go_wp2_with fail
        generalize w10.setCell ⟨w9.heap.size, i2, none⟩ (.int .u8 (x : Int)) = w11 at *
        have hS12 := Blk.new w11 9 #[.string s, .string ⟨YB.toArray⟩]
        have hM12 := hM11.alloc (.cells #[.string s, .string ⟨YB.toArray⟩] 9)
        have hmr12 := hmr11.alloc (by omega) (.cells #[.string s, .string ⟨YB.toArray⟩] 9)
        have hb012 := hb011.alloc (by omega) (.cells #[.string s, .string ⟨YB.toArray⟩] 9)
        have hz12 : (w11.alloc (.cells #[.string s, .string ⟨YB.toArray⟩] 9)).heap.size = w10.heap.size + 1 := by simp [hz11]
        rw [hz11, hbz] at hS12
        generalize w11.alloc (.cells #[.string s, .string ⟨YB.toArray⟩] 9) = W12 at *
        clear hM11 hmr11 hb011 hrun hct hfz hcv
        have hGall := Lib.hid (fun W (hb : Below w.heap.size w W) => hG.below hb)
        go_loopw [110] (fun i wr => ∃ j : Nat, j ≤ 2 ∧ i = .int .i64 j ∧ Below W12.heap.size W12 wr) (fun i _ => 2 - (intOf i).toNat)
        case atStart => exact ⟨0, by omega, rfl, Below.refl _ _⟩
        case round =>
          obtain ⟨j, hj, rfl, hby⟩ := hrel
          have hszy := hby.size
          have hb0y := hb012.trans (hby.mono (by omega))
          have hSy := hS12.below hby hS12.lt
          have hMy := hM12.below hby hM12.lt
          have hmry : Reads wr w9.heap.size 1 MA mns.length (ic mns) := hmr12.keep fun p hp => hby.cell (by omega)
          have hGy := hGall.out wr hb0y
          by_cases hlt : j < 2
          · have hlt' : (j : Int) < 2 := by omega
            obtain ⟨y, k0, hyz⟩ : ∃ y : ByteArray, wr.cell? ⟨w9.heap.size + 1, j, none⟩ = some (.string y) ∧ y.size ≤ 1000 := by
              by_cases h0 : j = 0
              · subst h0
                exact ⟨s, hSy.cell 0, by omega⟩
              · have h1 : j = 1 := by omega
                subst h1
                exact ⟨⟨YB.toArray⟩, hSy.cell 1, by show YB.length ≤ 1000; omega⟩
            have hpr := Lib.hid (parse_calls y hyz wr hGy)
            go_wp2_with fail
            refine hpr.out.mono ?_
            rintro e w13 ⟨hp, hb13⟩
            have hs13 := hb13.size
            have hb013 := hb0y.trans (hb13.mono hb0y.size)
            have hW13 := hby.trans (hb13.mono hszy)
            rcases hp with ⟨t, v, ns, ux, rfl, huo, hut, huv, hul, hun, _⟩ | ⟨rfl, hno⟩
            · obtain ⟨UA, uc, rfl, huc, hur⟩ := own_slice huo
              have hur14 := (hur.alloc (Nat.le_refl _) (.cells #[.string ⟨t.toArray⟩, .int .u32 v, .slice UA ns.length uc] 26)).more (B' := (w13.alloc (.cells #[.string ⟨t.toArray⟩, .int .u32 v, .slice UA ns.length uc] 26)).heap.size) (by simp)
              have hb014 := hb013.alloc hb013.size (.cells #[.string ⟨t.toArray⟩, .int .u32 v, .slice UA ns.length uc] 26)
              have hW14 := hW13.alloc (by omega) (.cells #[.string ⟨t.toArray⟩, .int .u32 v, .slice UA ns.length uc] 26)
              have htx := text_calls ⟨t.toArray⟩ v UA ns.length uc ns _ huv (show t.length ≤ 1000000 by omega) (by omega) huc hur14 (hGall.out _ hb014)
              have hsbt : sb ⟨t.toArray⟩ = t := rfl
              have hyy : (⟨(sb y).toArray⟩ : ByteArray) = y := by apply ByteArray.ext; simp
              rw [hsbt, hut] at htx
              unfold Tells at htx
              rw [hyy] at htx
              have HTX := Lib.hid htx
              clear htx hut
              go_wp2_with fail
              refine HTX.out.mono ?_
              rintro e w15 ⟨rfl, hb15⟩
              go_wp2_with fail
              go_roundw
              case rel => exact ⟨j + 1, by omega, by go_num, hW14.trans (hb15.mono hW14.size)⟩
              case measure => simp [intOf]; omega
            · have hW14 := hW13.alloc (by omega) (.cells #[.string ⟨#[]⟩, .int .u32 0, .slice none 0 0] 26)
              have hb014 := hb013.alloc hb013.size (.cells #[.string ⟨#[]⟩, .int .u32 0, .slice none 0 0] 26)
              have hM14 := (hMy.below hb13 hMy.lt).alloc (.cells #[.string ⟨#[]⟩, .int .u32 0, .slice none 0 0] 26)
              have hz14 : (w13.alloc (.cells #[.string ⟨#[]⟩, .int .u32 0, .slice none 0 0] 26)).heap.size = w13.heap.size + 1 := by simp
              have hmr14 : Reads (w13.alloc (.cells #[.string ⟨#[]⟩, .int .u32 0, .slice none 0 0] 26)) w9.heap.size 1 MA mns.length (ic mns) := (hmry.keep fun p hp => hb13.cell (by omega)).alloc (by omega) _
              have hsm : Calls Tryd.prog 14 #[.agg #[.string ⟨#[]⟩, .int .u32 0, .slice none 0 0], .agg #[.string ⟨#[]⟩, .int .u32 0, .slice none 0 0]] (w13.alloc (.cells #[.string ⟨#[]⟩, .int .u32 0, .slice none 0 0] 26)) (Says (w13.alloc (.cells #[.string ⟨#[]⟩, .int .u32 0, .slice none 0 0] 26)) true) := by
                refine (same_calls ⟨#[]⟩ 0 none 0 0 [] ⟨#[]⟩ 0 none 0 0 [] _ (by omega) (by omega) (by omega) (by omega) ⟨rfl, fun h => absurd h (by omega)⟩ ⟨rfl, fun h => absurd h (by omega)⟩).mono ?_
                intro e w' h
                have e1 : sameB ⟨#[]⟩ 0 [] ⟨#[]⟩ 0 [] = true := by simp [sameB]
                rwa [e1] at h
              have HSM := Lib.hid hsm
              clear hsm
              have hyT : (y.toList == TB) = false := by
                rw [toL, beq_eq_false_iff_ne]
                intro e
                exact hno _ _ _ (hTis.out y e)
              go_wp2_with fail
              refine HSM.out.mono ?_
              rintro e w15 ⟨rfl, hb15⟩
              have hM15 := hM14.below hb15 hM14.lt
              have hs15 := hb15.size
              have hmr15 : Reads w15 w9.heap.size 1 MA mns.length (ic mns) := hmr14.keep fun p hp => hb15.cell (by omega)
              have hW15 := hW14.trans (hb15.mono hW14.size)
              have m0 : w15.cell? ⟨w3.heap.size, 0, none⟩ = some (.string ms) := hM15.cell 0
              have m1 : w15.cell? ⟨w3.heap.size, 1, none⟩ = some (.int .u32 mv) := hM15.cell 1
              have m2 : w15.cell? ⟨w3.heap.size, 2, none⟩ = some (.slice MA mns.length mc) := hM15.cell 2
              go_wp2_with (go_at_call 9; refine (of_calls ms mv MA mns.length mc _).mono ?_; rintro e w16 ⟨rfl, hb16⟩; refine Hid.out ?_)
              refine Lib.hid ?_
              have hs16 := hb16.size
              have hmr16 : Reads w16 w16.heap.size 1 MA mns.length (ic mns) := (hmr15.keep fun p hp => hb16.cell (by omega)).more (by omega)
              have hW16 := hW15.trans (hb16.mono hW15.size)
              go_wp2_with fail
              refine (hTy.out w16 hmr16).mono ?_
              rintro e w17 ⟨rfl, hb17⟩
              go_wp2_with fail
              go_roundw
              case rel => exact ⟨j + 1, by omega, by go_num, hW16.trans (hb17.mono hW16.size)⟩
              case measure => simp [intOf]; omega
          · have hj2 : j = 2 := by omega
            subst hj2
            have hlt' : ¬ ((2 : Nat) : Int) < 2 := by omega
            go_wp2_with fail
            go_ret
            exact ⟨rfl, hb0y⟩

end Go.Proofs.YtcmaildfhdddjaaDoor
