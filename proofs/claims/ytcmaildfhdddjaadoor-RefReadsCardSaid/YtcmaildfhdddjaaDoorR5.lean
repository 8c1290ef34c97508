/- RefReads returns true at every input, its arguments read as before: the row and its tied card. Conditions: the row lists package variables, tied to the text by the card. -/
import Derived.Test.YtcmaildfhdddjaaDoorR3
import Derived.Test.YtcmaildfhdddjaaDoorTie
import Derived.Test.YtcmaildfhdddjaaDoorCards
namespace Go.Proofs.YtcmaildfhdddjaaDoor
open Go.ChangeShapes Go.WideShapes Go.ChangeAt Go.RowKit
open Go.ChangeMaps (open_string shut_string)

set_option maxRecDepth 100000 in
theorem reads_lifted (os : Os) (started : os.Started) (H : Type) (enc : TypeId × Value → H) :
    ReturnsInHanded {} Tryd.checked os 4 .any (fun w args => (Rows.refReadsSpec.pre enc Tryd.prog Tryd.f4 Rows.refReadsRow.domain false w args ∧ laidMetH Tryd.prog Rows.refReadsRow.laid w) ∧ sizedMet enc Tryd.prog Tryd.f4 (OpenSpec.ofChange Rows.refReadsSpec) false w args)
      (Rows.refReadsSpec.post enc Tryd.prog Tryd.f4 false true false false) := by
  refine wrap_shaped (C := Tryd.checked) (X := fun w _ => laidMetH Tryd.prog Rows.refReadsRow.laid w) (fun _ _ _ hh h => h.of_heap hh) Tryd.own started (by kernel_rfl) Tryd.func4
    (ChangeSpec.witness_shaped (enc := enc) (C := Tryd.checked) (os := os) (X := fun w _ => laidMetH Tryd.prog Rows.refReadsRow.laid w) false (World.laidAll Tryd.prog os Rows.refReadsRow.laid) #[.slice none 0 0, .string ⟨#[]⟩, .string ⟨#[]⟩, .int .u32 0, .int .u16 0, .int .u16 0, .int .u8 0] 8 (World.laidAll_os _ _ _)
      (World.shaped_of_ZipB (by kernel_rfl) (by kernel_rfl)) (by kernel_rfl) (by kernel_rfl) (by kernel_rfl)
      (by rw [MakeChecks.laidMetH_plain _ _ _ (by kernel_rfl)]; exact laidMet_laidAll _ (by kernel_rfl) (by kernel_rfl))) ?_
  intro W base args ds gs before hval0 hW hL hsh
  have hval : ∀ (j : Nat) t v, Tryd.f4.params[j]? = some t → args[j]? = some v → Value.okWide Tryd.prog W .any base t v := hval0
  have hW' := hW
  obtain ⟨p, q, hA0, hV, rfl, _, _⟩ := hW
  have hA : DataW.TrodAll enc Tryd.prog W 0 (fun _ => true) true Tryd.f4.params.toList args.toList ds p := hA0
  rw [Tryd.params4] at hA hval
  have hltp : ∀ x ∈ p, x.block < W.heap.size := fun x hx => hW'.lt x (List.mem_append_left _ hx)
  obtain ⟨v0, vs, d0, ds1, p0, q0, hargs, rfl, rfl, h0, hA⟩ := trodAll_cons hA
  obtain ⟨v1, vs, d1, ds1, p1, q1, rfl, rfl, rfl, h1, hA⟩ := trodAll_cons hA
  obtain ⟨v2, vs, d2, ds1, p2, q2, rfl, rfl, rfl, h2, hA⟩ := trodAll_cons hA
  obtain ⟨v3, vs, d3, ds1, p3, q3, rfl, rfl, rfl, h3, hA⟩ := trodAll_cons hA
  obtain ⟨v4, vs, d4, ds1, p4, q4, rfl, rfl, rfl, h4, hA⟩ := trodAll_cons hA
  obtain ⟨v5, vs, d5, ds1, p5, q5, rfl, rfl, rfl, h5, hA⟩ := trodAll_cons hA
  obtain ⟨v6, vs, d6, ds1, p6, q6, rfl, rfl, rfl, h6, hA⟩ := trodAll_cons hA
  obtain ⟨rfl, rfl, rfl⟩ := trodAll_nil hA
  have hargs' : args = #[v0, v1, v2, v3, v4, v5, v6] := by cases args; simp_all
  subst hargs'
  obtain ⟨rfl, rfl⟩ := trodVars_none hV
  obtain ⟨X, xn, xc, rfl⟩ := okWide_slice Tryd.underlying22 (hval 0 22 v0 rfl rfl)
  obtain ⟨s0, f0⟩ := h0
  obtain ⟨X', xn', xc', xs, eX, hxc, hX⟩ := arg_bytes (v := .slice X xn xc) f0 (fun x hx => hltp x (List.mem_append_left _ hx))
  obtain ⟨rfl, rfl, rfl⟩ : X = X' ∧ xn = xn' ∧ xc = xc' := by simpa using eX
  obtain ⟨s, rfl, rfl, rfl, _⟩ := open_string Tryd.underlying9 (hval 1 9 v1 rfl rfl) h1
  obtain ⟨g, rfl, rfl, rfl, _⟩ := open_string Tryd.underlying9 (hval 2 9 v2 rfl rfl) h2
  obtain ⟨mv, rfl, rfl, rfl, wm⟩ := open_int Tryd.underlying23 (hval 3 23 v3 rfl rfl) h3
  obtain ⟨k, rfl, rfl, rfl, wk⟩ := open_int Tryd.underlying27 (hval 4 27 v4 rfl rfl) h4
  obtain ⟨at_, rfl, rfl, rfl, wa⟩ := open_int Tryd.underlying27 (hval 5 27 v5 rfl rfl) h5
  obtain ⟨x, rfl, rfl, rfl, wx⟩ := open_int Tryd.underlying5 (hval 6 5 v6 rfl rfl) h6
  obtain ⟨mv', rfl⟩ : ∃ r : Nat, mv = r := ⟨mv.toNat, by have := bounds_u32 wm; omega⟩
  obtain ⟨k', rfl⟩ : ∃ r : Nat, k = r := ⟨k.toNat, by have := bounds_u16 wk; omega⟩
  obtain ⟨at', rfl⟩ : ∃ r : Nat, at_ = r := ⟨at_.toNat, by have := bounds_u16 wa; omega⟩
  obtain ⟨x', rfl⟩ : ∃ r : Nat, x = r := ⟨x.toNat, by have := bounds_u8 wx; omega⟩
  have bm := bounds_u32 wm
  have bk := bounds_u16 wk
  have ba := bounds_u16 wa
  have bx := bounds_u8 wx
  rw [MakeChecks.laidMetH_plain _ _ _ (by kernel_rfl)] at hL
  have hbig : 4 ≤ W.heap.size := by
    obtain ⟨m, hm⟩ := cell_of_shapedOpen_int (k := .i64) (g := 3) (t := 3) (zero := #[.int .i64 0]) hsh (of_decide_eq_true (by kernel_rfl)) (by kernel_rfl) rfl (by kernel_rfl) (by kernel_rfl) (by kernel_rfl)
    exact cell_lt hm
  refine (reads_calls X xn xc xs s g mv' k' at' x' W (glob_of hsh hL hbig) hX hxc (by omega) (by omega) (by omega) (by omega)).mono fun e W' ⟨he, hb⟩ => ?_
  subst he
  exact ⟨_, rfl, post_true Tryd.laidOut hW' rfl hb (by rw [Tryd.params4]; intro t ht; simp only [List.mem_cons, List.mem_nil_iff, or_false] at ht; rcases ht with rfl | rfl | rfl | rfl | rfl | rfl | rfl <;> exact ⟨by kernel_rfl, of_decide_eq_true (by kernel_rfl)⟩) (by kernel_rfl) Tryd.underlying4 rfl rfl rfl⟩

theorem reads_row : Rows.RefReadsSaid :=
  OpenClaim.holds_of_wide 4 Tryd.f4 rfl rfl rfl rfl rfl rfl rfl ⟨rfl, rfl, rfl, rfl, rfl⟩ rfl rfl rfl rfl rfl (by kernel_rfl) Tryd.func4 (by kernel_rfl)
    (of_decide_eq_true (by kernel_rfl)) (by unfold Func.isWrapper; first | (rw [if_pos (by decide +kernel)]; kernel_rfl) | (rw [if_neg (by decide +kernel)]; exact ⟨rfl, rfl⟩))
    (fun os started H enc _ => reads_lifted os started H enc)

/-- 'RefReads' returns true at every input, its arguments read as before; the package variables that the row lists are tied to the program's text. -/
theorem reads_holds : Rows.RefReadsCardSaid :=
  Claim7.holds_tied_plain_at .later [] [.data, .data, .data, .data, .sentinel, .sentinel, .pinned] true (true, "6df95d44454c703fb98e8aea81382fcf8b5b1fafaf777e5c9755ad9b904e624a") true reads_row (fun _ h => by cases h) (by kernel_rfl) (fun _ h => by cases h) refReads_row_tie rfl ⟨rfl, rfl⟩ (by kernel_rfl) rfl
    (fun f fn hf hfn => by
      obtain rfl : f = 4 := Option.some.inj ((show Tryd.prog.funcNamed "choir/choirlaw28.RefReads" = some 4 by kernel_rfl).symm.trans hf) |>.symm
      obtain rfl : fn = Tryd.f4 := (Option.some.inj (Tryd.func4.symm.trans hfn)).symm
      exact ⟨by kernel_rfl, fun j t ht => by
        rw [Tryd.params4] at ht
        have hm : t ∈ [22, 9, 9, 23, 27, 27, 5] := by simpa using Array.mem_of_getElem? ht
        have hall : ([22, 9, 9, 23, 27, 27, 5].all fun u => !Tryd.prog.wantsStandIn u) = true := by kernel_rfl
        exact (show Tryd.prog.wantsStandIn t = false by simpa using List.all_eq_true.1 hall t hm)⟩)
    (by kernel_rfl)
#print axioms reads_holds

end Go.Proofs.YtcmaildfhdddjaaDoor
