import Derived.Test.YtijoechhhnagpaaLexH
namespace Go.Proofs.Ytijoechhhnagpaa
open Go.RowKit

/-- Which of the three ways a byte begins. -/
def firstWay (c : UInt8) : Nat := if alphaI (c.toNat : Int) then 0 else if (c.toNat : Int) == 63 then 1 else 2
theorem firstWay_le (c : UInt8) : firstWay c ≤ 2 := by
  unfold firstWay
  split
  · decide
  · split <;> decide
/-- What kinds hands back, its captured cell at ak. -/
def kindsVal (ak : Addr) : Array Value := #[fn 25, .func (.func 27) #[] #[.pointer (some ak)], fn 32, .func (.func 33) #[] #[.pointer (some ak)], fn 35, fn 36]
/-- Way number i of them, at place j. -/
structure Way (b : Nat) (s : ByteArray) (j : Nat) (hj : j < s.size) (ak : Addr) (i bk tk : Nat) (cap : Array Value) : Prop where
  idx : ∀ W : World, (Instr.index 52 (.agg (kindsVal ak)) (.int .i64 (i : Int))).run Try.prog W = .ok (.agg #[fn bk, .func (.func tk) #[] cap]) W
  eb : ∀ (xs : Array Value) (w : World), Sem.run Try.prog (callFunc bk xs) w = .ok (.enter bk xs) w
  et : ∀ (xs : Array Value) (w : World), Sem.run Try.prog (callFunc tk xs) w = .ok (.enter tk xs) w
  cb : ∀ (r : Bool), decide (i = firstWay s[j]) = r → ∀ W : World, Calls Try.prog bk #[.string (s.extract j s.size)] W fun e w' => e = .returned (.bool r) ∧ w' = W
  ct : i = firstWay s[j] → ∀ W : World, Scan b j s W → b < W.heap.size → W.cell? ak = some (fn 24) →
    Calls Try.prog tk (#[.pointer (some ⟨b, 0, none⟩)] ++ cap) W fun e w' => e = .returned (tok3 (tokAt s j)) ∧ Below W.heap.size W w'
theorem extract_size (s : ByteArray) (j : Nat) : (s.extract j s.size).size = s.size - j := by simp
theorem extract_get0 {s : ByteArray} {j : Nat} (hj : j < s.size) (h0 : 0 < (s.extract j s.size).size) : (s.extract j s.size)[0] = s[j] := by
  have h := extract_drop s j
  rw [drop_get hj] at h
  have h2 : (s.extract j s.size).data.toList[0]? = some (s.extract j s.size)[0] := by
    rw [List.getElem?_eq_getElem (by simpa using h0)]; rfl
  rw [h] at h2
  simpa using h2.symm
theorem way_at (b : Nat) (s : ByteArray) (j : Nat) (hj : j < s.size) (hz : s.size ≤ 100000) (ak : Addr) (i : Nat) (hi : i ≤ firstWay s[j]) : ∃ bk tk cap, Way b s j hj ak i bk tk cap := by
  have h0 : 0 < (s.extract j s.size).size := by rw [extract_size]; omega
  have hg := extract_get0 hj h0
  have htok : tokAt s j = if alphaI (s[j].toNat : Int) then nameAt s j else if (s[j].toNat : Int) == 63 then metaAt s j else signAt (s.data.toList.drop j) := by
    unfold tokAt; rw [drop_get hj]
  have hi2 : i ≤ 2 := by exact Nat.le_trans hi (firstWay_le _)
  match i, hi2 with
  | 0, _ =>
    refine ⟨_, _, _, fun W => rfl, Try.call25, Try.call27, fun r hr W => ?_, fun he W hs hb hc => ?_⟩
    · refine (kinds2_any _ W h0).mono fun e w' h => ⟨?_, h.2.symm⟩
      rw [h.1, hg, ← hr]
      unfold firstWay
      cases alphaI (s[j].toNat : Int) <;> simp
      split <;> simp
    · refine (kinds3_any b j s ak W hs hb hj hz hc).mono fun e w' h => ⟨?_, h.2⟩
      rw [h.1, htok]
      unfold firstWay at he
      cases ha : alphaI (s[j].toNat : Int)
      · rw [ha] at he; simp at he; split at he <;> simp at he
      · rfl
  | 1, _ =>
    refine ⟨_, _, _, fun W => rfl, Try.call32, Try.call33, fun r hr W => ?_, fun he W hs hb hc => ?_⟩
    · refine (kinds4_any _ W h0).mono fun e w' h => ⟨?_, h.2.symm⟩
      rw [h.1, hg, ← hr]
      unfold firstWay at *
      cases ha : alphaI (s[j].toNat : Int)
      · cases hq : ((s[j].toNat : Int) == 63) <;> simp
      · rw [ha] at hi; simp at hi
    · refine (kinds5_any b j s ak W hs hb hj hz hc).mono fun e w' h => ⟨?_, h.2⟩
      rw [h.1, htok]
      unfold firstWay at he
      cases ha : alphaI (s[j].toNat : Int)
      · cases hq : ((s[j].toNat : Int) == 63)
        · rw [ha, hq] at he; simp at he
        · rfl
      · rw [ha] at he; simp at he
  | 2, _ =>
    refine ⟨_, _, _, fun W => rfl, Try.call35, Try.call36, fun r hr W => ?_, fun he W hs hb hc => ?_⟩
    · refine (kinds6_any _ W).mono fun e w' h => ⟨?_, h.2.symm⟩
      rw [h.1, ← hr]
      unfold firstWay at *
      cases ha : alphaI (s[j].toNat : Int)
      · cases hq : ((s[j].toNat : Int) == 63)
        · simp
        · rw [ha, hq] at hi; simp at hi
      · rw [ha] at hi; simp at hi
    · refine (kinds7_any b j s W hs hb (by omega) hz).mono fun e w' h => ⟨?_, h.2⟩
      rw [h.1, htok]
      unfold firstWay at he
      cases ha : alphaI (s[j].toNat : Int)
      · cases hq : ((s[j].toNat : Int) == 63)
        · rfl
        · rw [ha, hq] at he; simp at he
      · rw [ha] at he; simp at he

end Go.Proofs.Ytijoechhhnagpaa
