/- Plain facts: what is put is read. -/
import Derived.Test.YtcmaildfhdddjaaDoorW19
namespace Go.Proofs.YtcmaildfhdddjaaDoor

theorem readU_putU4 (v : Nat) (h : v < 4294967296) : readU (putU v 4) = v := by
  have e : putU v 4 = [UInt8.ofNat (v / 2 ^ 24), UInt8.ofNat (v / 2 ^ 16), UInt8.ofNat (v / 2 ^ 8), UInt8.ofNat (v / 2 ^ 0)] := rfl
  rw [e]
  simp [readU]
  omega
theorem readU_putU2 (v : Nat) (h : v < 65536) : readU (putU v 2) = v := by
  have e : putU v 2 = [UInt8.ofNat (v / 2 ^ 8), UInt8.ofNat (v / 2 ^ 0)] := rfl
  rw [e]
  simp [readU]
  omega

section
variable (ys : List UInt8) (h : ys.length ≤ 65536)
theorem frame_len : (frameOf ys).length = ys.length + 8 := by
  unfold frameOf
  simp only [List.length_append, putU_len]
  omega
include h
theorem frame_N : openN (frameOf ys) = ys.length := by
  unfold openN frameOf
  rw [List.append_assoc, List.take_left' (putU_len _ _), readU_putU4 _ (by omega)]
theorem frame_pay : payOf (frameOf ys) = ys := by
  unfold payOf
  rw [frame_N ys h]
  unfold frameOf
  rw [List.drop_left' (by simp [putU_len])]
  simp
theorem frame_ok : openOk (frameOf ys) = true := by
  unfold openOk
  rw [frame_N ys h, frame_pay ys h, frame_len ys]
  have e : ((frameOf ys).drop 4).take 4 = putU (crc (putU ys.length 4 ++ ys)) 4 := by
    unfold frameOf
    rw [List.append_assoc, List.drop_left' (putU_len _ _), List.take_left' (putU_len _ _)]
  rw [e, readU_putU4 _ (crc_lt _)]
  simp
  omega
end

theorem refPay_len (s : ByteArray) (v : Nat) (ns : List Int) : (refPay s v ns).length = 2 + s.size + 4 + 1 + ns.length := by
  unfold refPay refHead nodeB
  simp only [List.length_append, putU_len, sb_len, List.length_cons, List.length_nil, List.length_map]

theorem refPay_tail (s : ByteArray) (v : Nat) (ns : List Int) (hs : s.size ≤ 32) : textOk (refPay s v ns) = true ∧ textOf (refPay s v ns) = sb s ∧ tailOf (refPay s v ns) = putU v 4 ++ UInt8.ofNat ns.length :: nodeB ns := by
  have e : refPay s v ns = putU s.size 2 ++ (sb s ++ (putU v 4 ++ UInt8.ofNat ns.length :: nodeB ns)) := by
    unfold refPay refHead
    simp
  have e2 : (refPay s v ns).take 2 = putU s.size 2 := by rw [e, List.take_left' (putU_len _ _)]
  have er : readU ((refPay s v ns).take 2) = s.size := by rw [e2, readU_putU2 _ (by omega)]
  have et : textOf (refPay s v ns) = sb s := by
    unfold textOf
    rw [er, e, List.drop_left' (putU_len _ _), List.take_left' (sb_len s)]
  refine ⟨?_, et, ?_⟩
  · unfold textOk
    rw [er, refPay_len]
    simp
    omega
  · unfold tailOf
    rw [et, sb_len, e, ← List.append_assoc, List.drop_left' (by simp [putU_len, sb_len])]

theorem nodes_back (ns : List Int) (h : ∀ i, i < ns.length → 0 ≤ ns.getD i 0 ∧ ns.getD i 0 ≤ 255) : (nodeB ns).map (fun c => (c.toNat : Int)) = ns := by
  apply List.ext_getElem (by simp [nodeB])
  intro i h1 h2
  have hu := h i h2
  have e : ns.getD i 0 = ns[i] := by simp [h2]
  rw [e] at hu
  simp only [nodeB, List.getElem_map]
  simp
  omega

/-- what is put is read -/
theorem put_read (s : ByteArray) (v : Nat) (ns : List Int) (hok : rightB s.size ns = true) (hv : v < 4294967296) :
    readOk (frameOf (refPay s v ns)) = true ∧ refT (frameOf (refPay s v ns)) = sb s ∧ refV (frameOf (refPay s v ns)) = v ∧ refN (frameOf (refPay s v ns)) = ns := by
  have hdim : s.size ≤ 32 ∧ ns.length ≤ 7 := by
    have h := hok
    unfold rightB at h
    simp only [Bool.and_eq_true, decide_eq_true_eq] at h
    omega
  obtain ⟨hs, hn⟩ := hdim
  have hl := refPay_len s v ns
  have hl' : (refPay s v ns).length ≤ 65536 := by omega
  obtain ⟨h1, h2, h3⟩ := refPay_tail s v ns hs
  have hu : ∀ i, i < ns.length → 0 ≤ ns.getD i 0 ∧ ns.getD i 0 ≤ 255 := fun i hi => ⟨(upto_of hok i hi).1, (upto_of hok i hi).2.1⟩
  have hN : nodesOf (putU v 4 ++ UInt8.ofNat ns.length :: nodeB ns) = ns := by
    unfold nodesOf
    have e : putU v 4 ++ UInt8.ofNat ns.length :: nodeB ns = (putU v 4 ++ [UInt8.ofNat ns.length]) ++ nodeB ns := by simp
    rw [e, List.drop_left' (by simp [putU_len])]
    exact nodes_back ns hu
  have hV : verOf (putU v 4 ++ UInt8.ofNat ns.length :: nodeB ns) = v := by
    unfold verOf
    rw [List.take_left' (putU_len _ _), readU_putU4 _ hv]
  have hT : tailOk (putU v 4 ++ UInt8.ofNat ns.length :: nodeB ns) = true := by
    unfold tailOk
    have e4 : (putU v 4 ++ UInt8.ofNat ns.length :: nodeB ns).getD 4 0 = UInt8.ofNat ns.length := by
      simp [List.getD, List.getElem?_append_right, putU_len]
    rw [e4]
    simp only [List.length_append, putU_len, List.length_cons, nodeB, List.length_map, Bool.and_eq_true, decide_eq_true_eq]
    have : (UInt8.ofNat ns.length).toNat = ns.length := by simp [UInt8.toNat_ofNat]; omega
    omega
  refine ⟨?_, ?_, ?_, ?_⟩
  · unfold readOk payOk
    rw [frame_ok _ hl', frame_pay _ hl', frame_N _ hl', frame_len, h1, h2, h3, hN, hT, sb_len, hok]
    simp
  · unfold refT
    rw [frame_pay _ hl', h2]
  · unfold refV
    rw [frame_pay _ hl', h3, hV]
  · unfold refN
    rw [frame_pay _ hl', h3, hN]

end Go.Proofs.YtcmaildfhdddjaaDoor
