/- Contracts of functions of this program, walked. No condition but the ones each theorem states. -/
import Derived.Test.YtcmaildfhdddjaaDoorW15
namespace Go.Proofs.YtcmaildfhdddjaaDoor
open Go.RowKit

attribute [local go_sem ↓] Go.wp_at_zero Go.wp_at_succ

set_option maxRecDepth 100000 in
set_option maxHeartbeats 1600000 in
theorem text'_no (s : ByteArray) (v : Nat) (A : Option Addr) (n c : Nat) (ns : List Int) (w : World) (hn : n ≤ 1000000) (hs : s.size ≤ 1000000) (hc : n ≤ c)
    (hr : Reads w w.heap.size 1 A n (ic ns)) (hok : rightB s.size ns = false) :
    Calls Tryd.prog 11 #[.agg #[.string s, .int .u32 v, .slice A n c]] w (Tells w []) := by
  have hcall := Lib.hid (fun w1 (hr1 : Reads w1 w1.heap.size 1 A n (ic ns)) => right'_calls s v A n c ns w1 hs hn hc hr1)
  rw [hok] at hcall
  go_enter Tryd.func11, Tryd.ntmps11
  go_wp2_with (go_at_call 22; refine (hcall.out _ ((hr.alloc (Nat.le_refl _) _).more (by simp))).mono ?_; rintro e w1 ⟨rfl, hb1⟩)
  go_ret
  exact ⟨rfl, ((Below.refl _ w).alloc (Nat.le_refl _) _).trans (hb1.mono (by simp))⟩

theorem dig_piece (i : Nat) (h : i < 16) : (⟨#[48, 49, 50, 51, 52, 53, 54, 55, 56, 57, 97, 98, 99, 100, 101, 102]⟩ : ByteArray).extract i (i + 1) = ⟨[hexD i].toArray⟩ := by
  have : ∀ y : Fin 16, (⟨#[48, 49, 50, 51, 52, 53, 54, 55, 56, 57, 97, 98, 99, 100, 101, 102]⟩ : ByteArray).extract y.val (y.val + 1) = ⟨[hexD y.val].toArray⟩ := by decide +kernel
  exact this ⟨i, h⟩

/-- the first part: the prefix and the digits so far -/
def headB (l : List UInt8) : List UInt8 := [99, 104, 111, 105, 114, 58] ++ hexL l
/-- the nodes so far -/
def nodesB (l : List Int) : List UInt8 := Lib.join (l.map decI) [44]
theorem nodesB_zero (ns : List Int) (h : 0 < ns.length) : nodesB (ns.take 1) = decI (ns.getD 0 0) := by
  obtain ⟨a, l, rfl⟩ : ∃ a l, ns = a :: l := by cases ns with | nil => simp at h | cons a l => exact ⟨a, l, rfl⟩
  simp [nodesB, Lib.join_one]
theorem nodesB_succ (ns : List Int) (j : Nat) (h0 : 0 < j) (h : j < ns.length) : nodesB (ns.take (j + 1)) = nodesB (ns.take j) ++ [44] ++ decI (ns.getD j 0) := by
  obtain ⟨a, l, rfl⟩ : ∃ a l, ns = a :: l := by cases ns with | nil => simp at h | cons a l => exact ⟨a, l, rfl⟩
  obtain ⟨k, rfl⟩ : ∃ k, j = k + 1 := ⟨j - 1, by omega⟩
  have hk : k < l.length := by simpa using h
  unfold nodesB
  rw [List.take_succ_cons, List.take_succ_cons, List.map_cons, List.map_cons, Lib.join_cons, Lib.join_cons, List.map_take, List.map_take, Lib.joinTail_take_succ [44] (l.map decI) k (decI (l.getD k 0)) (by simp [hk])]
  simp [hk]
theorem nodesB_len (ns : List Int) (h : ∀ x ∈ ns, 0 ≤ x ∧ x ≤ 255) : (nodesB ns).length ≤ ns.length * 21 := by
  have h21 := join_len (ns.map decI) 20 (fun x hx => by
    simp only [List.mem_map] at hx
    obtain ⟨y, hy, rfl⟩ := hx
    have hu := h y hy
    exact dec_len _ (by omega))
  simpa [nodesB] using h21

set_option maxRecDepth 100000 in
set_option maxHeartbeats 3200000 in
theorem text'_yes (s : ByteArray) (v : Nat) (A : Option Addr) (n c : Nat) (ns : List Int) (w : World) (hv : v < 4294967296) (hc : n ≤ c)
    (hr : Reads w w.heap.size 1 A n (ic ns)) (hok : rightB s.size ns = true) :
    Calls Tryd.prog 11 #[.agg #[.string s, .int .u32 v, .slice A n c]] w (Tells w (textB (sb s) v ns)) := by
  have hl : ns.length = n := by have := hr.1; rw [ic_len] at this; omega
  have hdim : s.size ≤ 32 ∧ 1 ≤ n ∧ n ≤ 7 := by
    have h := hok
    unfold rightB at h
    simp only [Bool.and_eq_true, decide_eq_true_eq] at h
    omega
  obtain ⟨hs, hn1, hn⟩ := hdim
  have hall : ∀ x ∈ ns, 0 ≤ x ∧ x ≤ 255 := fun x hx => by
    obtain ⟨i, hi, rfl⟩ := List.getElem_of_mem hx
    have hu := upto_of hok i hi
    have e : ns.getD i 0 = ns[i] := by simp [hi]
    rw [e] at hu
    omega
  have hcall := Lib.hid (fun w1 (hr1 : Reads w1 w1.heap.size 1 A n (ic ns)) => right'_calls s v A n c ns w1 (by omega) (by omega) hc hr1)
  rw [hok] at hcall
  have Hall := Lib.hid hall
  clear hall
  go_enter Tryd.func11, Tryd.ntmps11
  go_wp2_with fail
  refine (hcall.out _ ((hr.alloc (Nat.le_refl _) _).more (by simp))).mono ?_
  rintro e w1 ⟨rfl, hb1⟩
  have hB1 : Blk w1 w.heap.size 36 #[.string s, .int .u32 v, .slice A n c] := (Blk.new w 36 _).below hb1 (by simp)
  have hz1 : w.heap.size < w1.heap.size := hB1.lt
  have q0 : w1.cell? ⟨w.heap.size, 0, none⟩ = some (.string s) := hB1.cell 0
  have q1 : w1.cell? ⟨w.heap.size, 1, none⟩ = some (.int .u32 v) := hB1.cell 1
  have q2 : w1.cell? ⟨w.heap.size, 2, none⟩ = some (.slice A n c) := hB1.cell 2
  have hb01 : Below w.heap.size w w1 := ((Below.refl _ w).alloc (Nat.le_refl _) _).trans (hb1.mono (by simp))
  go_wp2_with fail
  go_loopw [3, 4, 5] (fun o i _ wr => ∃ j : Nat, j ≤ s.size ∧ i = .int .i64 j ∧ o = .string ⟨(headB ((sb s).take j)).toArray⟩ ∧ ∃ k, wr = w1.drewN k) (fun _ i _ _ => s.size - (intOf i).toNat)
  case atStart => exact ⟨0, by omega, rfl, rfl, 0, rfl⟩
  case round =>
    obtain ⟨j, hj, rfl, rfl, k, rfl⟩ := hrel
    have p0 : (w1.drewN k).cell? ⟨w.heap.size, 0, none⟩ = some (.string s) := q0
    by_cases hlt : j < s.size
    · have hlt' : decide ((j : Int) < (s.size : Int)) = true := by simp; omega
      have hy : s[j].toNat < 256 := s[j].toNat_lt
      have hg : (sb s).getD j 0 = s[j] := by
        have : j < (sb s).length := by rw [sb_len]; exact hlt
        simp [List.getD, List.getElem?_eq_getElem this]
        rfl
      have hT := hexL_take (sb s) j (by rw [sb_len]; exact hlt)
      rw [hg] at hT
      have HT := Lib.hid hT
      have hlen := hexL_len ((sb s).take j)
      have hl2 : ((sb s).take j).length ≤ j := by simp; omega
      have hhl : (headB ((sb s).take j)).length ≤ 70 := by unfold headB; simp; omega
      have HH := Lib.hid (show headB ((sb s).take (j + 1)) = headB ((sb s).take j) ++ [hexD (s[j].toNat / 16)] ++ [hexD (s[j].toNat % 16)] by unfold headB; rw [hT]; simp)
      clear hT hg hlen
      have ha := and_15 _ hy
      have hd1 := dig_piece (s[j].toNat / 16) (by omega)
      have hd2 := dig_piece (s[j].toNat % 16) (by omega)
      generalize headB ((sb s).take j) = L at *
      have ww1 : IntKind.u8.wrap ((s[j].toNat : Int) / 16 + 1) = (s[j].toNat : Int) / 16 + 1 := by simp [IntKind.wrap, IntKind.bits, IntKind.signed]; omega
      have ww2 : IntKind.u8.wrap (((s[j].toNat % 16 : Nat) : Int) + 1) = ((s[j].toNat % 16 : Nat) : Int) + 1 := by simp [IntKind.wrap, IntKind.bits, IntKind.signed]; omega
      have n1 : ¬ 9223372036854775807 < L.length + 1 := by omega
      have n2 : ¬ 9223372036854775807 < L.length + 1 + 1 := by omega
      go_upto_region 8 with (fail)
      go_quiet (fail)
      go_wp2_with fail
      go_roundw
      case rel =>
        refine ⟨j + 1, by omega, by go_num, ?_, _, rfl⟩
        rw [HH.out]
        show Value.string (({ data := L.toArray } ++ { data := [hexD (s[j].toNat / 16)].toArray }) ++ { data := [hexD (s[j].toNat % 16)].toArray }) = _
        rw [str_app, str_app]
      case measure => simp [intOf]; omega
    · have hjs : j = s.size := by omega
      subst hjs
      have hlt' : decide ((s.size : Int) < (s.size : Int)) = false := by simp
      rw [List.take_of_length_le (by rw [sb_len]; exact Nat.le_refl _)]
      have hhl : (headB (sb s)).length ≤ 70 := by unfold headB; simp only [List.length_append, hexL_len, sb_len, List.length_cons, List.length_nil]; omega
      have hTX : textB (sb s) v ns = headB (sb s) ++ [47] ++ Lib.decDigits v ++ [47] ++ nodesB ns := by simp [textB, headB, nodesB]
      have p1 : (w1.drewN k).cell? ⟨w.heap.size, 1, none⟩ = some (.int .u32 v) := q1
      have hw : IntKind.u64.wrap (v : Int) = v := wrap_u64_nat v (by omega)
      have l2 := dec_len v (by omega)
      have hdv := Lib.hid (fun W => dec_calls v (by omega) W)
      clear hlt hj
      generalize headB (sb s) = L at *
      generalize Lib.decDigits v = F at *
      have HTX := Lib.hid hTX
      clear hTX
      go_wp2_with (go_at_call 30; refine (hdv.out _).mono ?_; rintro e w2 ⟨rfl, rfl⟩)
      go_loopw [3, 6] (fun o i wr => ∃ j : Nat, j ≤ n ∧ i = .int .i64 j ∧ o = .string ⟨(L ++ [47] ++ F ++ [47] ++ nodesB (ns.take j)).toArray⟩ ∧ ∃ k, wr = w1.drewN k) (fun _ i _ => n - (intOf i).toNat)
      case atStart =>
        refine ⟨0, by omega, rfl, ?_, k, rfl⟩
        show Value.string ((({ data := L.toArray } ++ { data := [47].toArray }) ++ { data := F.toArray }) ++ { data := [47].toArray }) = _
        rw [str_app, str_app, str_app]
        simp [nodesB, Lib.join_nil]
      case round =>
        obtain ⟨j, hj, rfl, rfl, k, rfl⟩ := hrel
        have p2 : (w1.drewN k).cell? ⟨w.heap.size, 2, none⟩ = some (.slice A n c) := q2
        by_cases hlt : j < n
        · obtain ⟨b, off, rfl, hbB, hcell⟩ := hr.litI (by omega)
          have hu := upto_of hok j (by omega)
          have hc1 : (w1.drewN k).cell? ⟨b, off + j, none⟩ = some (.int .i64 (ns.getD j 0)) := (hb01.cell (p := ⟨b, off + j, none⟩) hbB).trans (hcell j (by omega))
          obtain ⟨hu0, hu1, _⟩ := hu
          have hnl := nodesB_len (ns.take j) (fun x hx => Hall.out x (List.mem_of_mem_take hx))
          have hnl' : (nodesB (ns.take j)).length ≤ 147 := by
            have : (ns.take j).length ≤ 7 := by simp; omega
            omega
          by_cases hj0 : j = 0
          · have hj0' : ¬ 0 < j := by omega
            have HT := Lib.hid (show nodesB (ns.take (j + 1)) = decI (ns.getD j 0) by subst hj0; exact nodesB_zero ns (by omega))
            have e0 : nodesB (ns.take j) = [] := by subst hj0; rfl
            rw [e0]
            clear hcell hnl hnl' e0 hj0
            generalize ns.getD j 0 = x at *
            obtain ⟨y, rfl⟩ := Int.eq_ofNat_of_zero_le hu0
            have hwy : IntKind.u64.wrap (y : Int) = y := wrap_u64_nat y (by omega)
            have l3 := dec_len y (by omega)
            have hdy := Lib.hid (fun W => dec_calls y (by omega) W)
            have hT0 : decI (y : Int) = Lib.decDigits y := rfl
            rw [hT0] at HT
            clear hT0
            generalize Lib.decDigits y = Y at *
            go_wp2_with (go_at_call 30; refine (hdy.out _).mono ?_; rintro e w2 ⟨rfl, rfl⟩)
            go_roundw
            case rel =>
              refine ⟨j + 1, by omega, by go_num, ?_, k, rfl⟩
              rw [HT.out]
              rw [str_app]
              simp
            case measure => simp [intOf]; omega
          · have hj0' : 0 < j := by omega
            have HT := Lib.hid (nodesB_succ ns j (by omega) (by omega))
            clear hcell hnl
            generalize ns.getD j 0 = x at *
            generalize nodesB (ns.take j) = NJ at *
            obtain ⟨y, rfl⟩ := Int.eq_ofNat_of_zero_le hu0
            have hwy : IntKind.u64.wrap (y : Int) = y := wrap_u64_nat y (by omega)
            have l3 := dec_len y (by omega)
            have hdy := Lib.hid (fun W => dec_calls y (by omega) W)
            have hT0 : decI (y : Int) = Lib.decDigits y := rfl
            rw [hT0] at HT
            clear hT0
            generalize Lib.decDigits y = Y at *
            go_wp2_with (go_at_call 30; refine (hdy.out _).mono ?_; rintro e w2 ⟨rfl, rfl⟩)
            go_roundw
            case rel =>
              refine ⟨j + 1, by omega, by go_num, ?_, k, rfl⟩
              rw [HT.out]
              show Value.string ((_ ++ { data := [44].toArray }) ++ { data := Y.toArray }) = _
              rw [str_app, str_app]
              simp
            case measure => simp [intOf]; omega
        · have hjn : j = n := by omega
          subst hjn
          rw [List.take_of_length_le (by omega)]
          go_wp2_with fail
          go_ret
          exact ⟨by rw [HTX.out]; rfl, ⟨hb01.1, hb01.2, hb01.3, hb01.4, hb01.5⟩⟩

theorem text'_calls (s : ByteArray) (v : Nat) (A : Option Addr) (n c : Nat) (ns : List Int) (w : World) (hv : v < 4294967296) (hs : s.size ≤ 1000000) (hn : n ≤ 1000000) (hc : n ≤ c)
    (hr : Reads w w.heap.size 1 A n (ic ns)) :
    Calls Tryd.prog 11 #[.agg #[.string s, .int .u32 v, .slice A n c]] w (Tells w (textR (sb s) v ns)) := by
  unfold textR
  rw [sb_len]
  cases hok : rightB s.size ns with
  | false => rw [if_neg (by simp)]; exact text'_no s v A n c ns w hn hs hc hr hok
  | true => rw [if_pos rfl]; exact text'_yes s v A n c ns w hv hc hr hok

end Go.Proofs.YtcmaildfhdddjaaDoor
