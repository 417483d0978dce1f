/-
  The reference's words, sorted lists: plain.
-/
import Derived.Test.YtodaembemcljnaaSeedP
namespace Go.Proofs.Ytodaembemcljnaa

set_option linter.unusedVariables false
/-! ### the reference's words -/
theorem xs_ux_bit {k : Nat} (h : 64 ≤ 3 * k) (x : Wd) (i : Nat) : (ux k x).getLsbD i = (x.getLsbD i ^^ (ux k x).getLsbD (k + i)) := by
  have := congrArg (fun z => z.getLsbD i) (xs_ux k h x)
  simp only [xs, BitVec.getLsbD_xor, BitVec.getLsbD_ushiftRight] at this
  rw [← this]
  cases (ux k x).getLsbD i <;> cases (ux k x).getLsbD (k + i) <;> rfl
/-- The bits from i on. -/
def hiB (i : Nat) (z : Wd) : Wd := (z >>> i) <<< i
theorem hiB_bit (i j : Nat) (z : Wd) (hj : j < 64) : (hiB i z).getLsbD j = (decide (i ≤ j) && z.getLsbD j) := by
  unfold hiB
  rw [BitVec.getLsbD_shiftLeft, BitVec.getLsbD_ushiftRight]
  by_cases h : i ≤ j
  · have e : i + (j - i) = j := by omega
    rw [e]; simp [h, hj, Nat.not_lt.2 h]
  · simp [h, hj, Nat.lt_of_not_le h]
theorem hiB_top (z : Wd) : hiB 64 z = 0#64 := by
  apply BitVec.eq_of_getLsbD_eq; intro j hj
  rw [hiB_bit _ _ _ hj]; simp; omega
theorem hiB_zero (z : Wd) : hiB 0 z = z := by
  apply BitVec.eq_of_getLsbD_eq; intro j hj
  rw [hiB_bit _ _ _ hj]; simp
/-- The bit of one round. -/
def ushB (k : Nat) (x y : Wd) (i : Nat) : Wd := if i + k < 64 then ((x >>> i) &&& 1#64) ^^^ ((y >>> (i + k)) &&& 1#64) else (x >>> i) &&& 1#64
theorem and_one_bit (x : Wd) (j : Nat) : (x &&& 1#64).getLsbD j = (decide (j = 0) && x.getLsbD 0) := by
  rw [BitVec.getLsbD_and, BitVec.getLsbD_one]
  by_cases h : j = 0
  · subst h; simp
  · simp [h]
theorem ush_step {k : Nat} (h : 64 ≤ 3 * k) (x : Wd) (i : Nat) (hi : i < 64) : hiB (i + 1) (ux k x) ||| (ushB k x (hiB (i + 1) (ux k x)) i <<< i) = hiB i (ux k x) := by
  apply BitVec.eq_of_getLsbD_eq; intro j hj
  rw [BitVec.getLsbD_or, BitVec.getLsbD_shiftLeft, hiB_bit _ _ _ hj, hiB_bit _ _ _ hj]
  have hb : (ushB k x (hiB (i + 1) (ux k x)) i).getLsbD (j - i) = (decide (j - i = 0) && (ux k x).getLsbD i) := by
    rw [xs_ux_bit h x i]
    unfold ushB
    split
    · rename_i hk
      rw [BitVec.getLsbD_xor, and_one_bit, and_one_bit, BitVec.getLsbD_ushiftRight, BitVec.getLsbD_ushiftRight]
      simp only [Nat.add_zero]
      rw [hiB_bit _ _ _ hk]
      have e : i + 1 ≤ i + k := by omega
      rw [Nat.add_comm k i]
      simp only [e, decide_true, Bool.true_and]
      cases decide (j - i = 0) <;> simp
    · rename_i hk
      rw [and_one_bit, BitVec.getLsbD_ushiftRight, Nat.add_zero]
      have : (ux k x).getLsbD (k + i) = false := BitVec.getLsbD_of_ge _ _ (by omega)
      rw [this]; simp
  rw [hb]
  by_cases h1 : i + 1 ≤ j
  · have : ¬ j - i = 0 := by omega
    have h2 : i ≤ j := by omega
    simp [h1, h2, this]
  · by_cases h2 : j = i
    · subst h2; simp [hj]
    · have h3 : ¬ i ≤ j := by omega
      have h4 : j < i := by omega
      simp [h1, h3, h4]

/-- The bits below j. -/
def loB (j : Nat) (z : Wd) : Wd := BitVec.ofNat 64 (z.toNat % 2 ^ j)
theorem loB_toNat (j : Nat) (z : Wd) : (loB j z).toNat = z.toNat % 2 ^ j := by
  unfold loB; rw [BitVec.toNat_ofNat]; exact Nat.mod_eq_of_lt (Nat.lt_of_le_of_lt (Nat.mod_le _ _) z.isLt)
theorem loB_bit (j i : Nat) (z : Wd) : (loB j z).getLsbD i = (decide (i < j) && z.getLsbD i) := by
  unfold BitVec.getLsbD; rw [loB_toNat, Nat.testBit_mod_two_pow]
theorem loB_zero (z : Wd) : loB 0 z = 0#64 := by
  apply BitVec.eq_of_toNat_eq; rw [loB_toNat]; simp [Nat.mod_one]
theorem loB_top (z : Wd) : loB 64 z = z := by
  apply BitVec.eq_of_toNat_eq; rw [loB_toNat]; exact Nat.mod_eq_of_lt z.isLt
theorem div_bit {odd d x : Wd} (h : odd * d = 1#64) (ho : odd.toNat % 2 = 1) (j : Nat) (hj : j < 64) :
    (x - loB j (x * d) * odd).getLsbD j = (x * d).getLsbD j := by
  have e : x - loB j (x * d) * odd = (x * d - loB j (x * d)) * odd := by
    rw [BitVec.sub_eq_add_neg, BitVec.sub_eq_add_neg, BitVec.add_mul, BitVec.neg_mul, BitVec.mul_assoc, BitVec.mul_comm d, h, BitVec.mul_one]
  rw [e]
  generalize x * d = z
  have hz := z.isLt
  have hd : (z - loB j z).toNat = 2 ^ j * (z.toNat / 2 ^ j) := by
    have h1 := Nat.div_add_mod z.toNat (2 ^ j)
    rw [BitVec.toNat_sub_of_le (by rw [BitVec.le_def, loB_toNat]; exact Nat.mod_le _ _), loB_toNat]
    omega
  unfold BitVec.getLsbD
  rw [BitVec.toNat_mul, hd, Nat.testBit_mod_two_pow, Nat.mul_assoc, Nat.testBit_two_pow_mul]
  simp only [hj, decide_true, Bool.true_and, ge_iff_le, Nat.le_refl, Nat.sub_self]
  rw [Nat.testBit_zero, Nat.testBit_eq_decide_div_mod_eq, Nat.mul_mod, ho]
  simp
theorem div_test {odd d x : Wd} (h : odd * d = 1#64) (ho : odd.toNat % 2 = 1) (j : Nat) (hj : j < 64) :
    ((x - loB j (x * d) * odd) &&& (1#64 <<< j) = 0#64) ↔ (x * d).getLsbD j = false := by
  rw [← div_bit h ho j hj]
  generalize x - loB j (x * d) * odd = r
  constructor
  · intro e
    have := congrArg (fun z => z.getLsbD j) e
    simpa [BitVec.getLsbD_and, BitVec.getLsbD_shiftLeft, hj] using this
  · intro e
    apply BitVec.eq_of_getLsbD_eq; intro i hi
    rw [BitVec.getLsbD_and, BitVec.getLsbD_shiftLeft, BitVec.getLsbD_one]
    by_cases h1 : i = j
    · subst h1; simp [e]
    · by_cases h2 : i < j
      · simp [h2]
      · have : ¬ i - j = 0 := by omega
        simp [this]
theorem loB_succ (z : Wd) (j : Nat) (hj : j < 64) : loB (j + 1) z = if z.getLsbD j = true then loB j z ||| (1#64 <<< j) else loB j z := by
  apply BitVec.eq_of_getLsbD_eq; intro i hi
  rw [loB_bit]
  split
  · rename_i hz
    rw [BitVec.getLsbD_or, loB_bit, BitVec.getLsbD_shiftLeft, BitVec.getLsbD_one]
    by_cases h1 : i = j
    · subst h1; simp [hi, hz]
    · by_cases h2 : i < j
      · have : i < j + 1 := by omega
        simp [h2, this]
      · have h3 : ¬ i < j + 1 := by omega
        have : ¬ i - j = 0 := by omega
        simp [h2, h3, this]
  · rename_i hz
    rw [loB_bit]
    by_cases h1 : i = j
    · subst h1; simp at hz; simp [hz]
    · by_cases h2 : i < j
      · have : i < j + 1 := by omega
        simp [h2, this]
      · have h3 : ¬ i < j + 1 := by omega
        simp [h2, h3]

/-! ### Rest -/
theorem rest_ref {n : Nat} (hn : 1 ≤ n) (w : Wd) : (18446744073709551615 - (w.toNat - w.toNat % n) < n - 1) ↔ acc n w = false := by
  have h1 : acc n w = false ↔ ¬ acc n w = true := by simp
  rw [h1, acc_iff hn]
  have hw := w.isLt
  have hd := Nat.div_add_mod w.toNat n
  have hm := Nat.mod_lt w.toNat (y := n) (by omega)
  have hd2 := Nat.div_add_mod 18446744073709551616 n
  have hm2 := Nat.mod_lt 18446744073709551616 (y := n) (by omega)
  generalize hq : w.toNat / n = q at hd
  generalize hQ : 18446744073709551616 / n = Q at hd2
  generalize w.toNat % n = r at *
  generalize 18446744073709551616 % n = R at *
  generalize w.toNat = x at *
  have key : q < Q ↔ x < n * Q := by
    constructor
    · intro h
      have : n * (q + 1) ≤ n * Q := Nat.mul_le_mul_left n h
      rw [Nat.mul_add] at this; omega
    · intro h
      by_cases hh : q < Q
      · exact hh
      · have : n * Q ≤ n * q := Nat.mul_le_mul_left n (by omega)
        omega
  have h3 : x < 18446744073709551616 - R ↔ x < n * Q := by omega
  rw [h3, ← key]
  constructor
  · intro h hh
    have : n * (q + 1) ≤ n * Q := Nat.mul_le_mul_left n hh
    rw [Nat.mul_add] at this; omega
  · intro h
    have : n * Q ≤ n * q := Nat.mul_le_mul_left n (by omega)
    omega
set_option linter.unusedVariables false
def sortL (l : List Nat) : List Nat := l.mergeSort fun x y => decide (x ≤ y)
theorem sortL_perm (l : List Nat) : (sortL l).Perm l := List.mergeSort_perm _ _
theorem sortL_le (l : List Nat) : (sortL l).Pairwise (· ≤ ·) := by
  have := List.pairwise_mergeSort (le := fun x y : Nat => decide (x ≤ y)) (fun a b c h1 h2 => by simp at *; omega) (fun a b => by simp; omega) l
  exact this.imp (by intro a b h; simpa using h)
theorem sortL_filter {l : List Nat} {n : Nat} (h1 : l.Nodup) (h2 : ∀ x ∈ l, x < n) : sortL l = (List.range n).filter (fun x => l.contains x) := by
  refine List.Perm.eq_of_pairwise (le := (· ≤ ·)) (fun a b _ _ h1 h2 => Nat.le_antisymm h1 h2) (sortL_le l) ((List.pairwise_lt_range.imp Nat.le_of_lt).filter _) ?_
  rw [List.perm_ext_iff_of_nodup ((sortL_perm l).nodup_iff.2 h1) (List.nodup_range.filter _)]
  intro a
  rw [(sortL_perm l).mem_iff, List.mem_filter, List.mem_range]
  constructor
  · intro h; exact ⟨h2 a h, by simpa using h⟩
  · intro h; simpa using h.2
theorem nodup_full {l : List Nat} {n : Nat} (h1 : l.Nodup) (h2 : ∀ x ∈ l, x < n) (h3 : l.length = n) : ∀ x, x < n → x ∈ l := by
  intro x hx
  have hp : (sortL l).Pairwise (· < ·) := by
    have hn : (sortL l).Nodup := (sortL_perm l).nodup_iff.2 h1
    exact ((sortL_le l).and hn).imp (fun h => Nat.lt_of_le_of_ne h.1 h.2)
  apply Classical.byContradiction
  intro hc
  have := php (n - 1) n (fun i => (if (sortL l).getD i 0 < x then (sortL l).getD i 0 else (sortL l).getD i 0 - 1)) (fun i hi => by
    have hl : i < (sortL l).length := by rw [(sortL_perm l).length_eq]; omega
    have hm : (sortL l).getD i 0 ∈ l := (sortL_perm l).mem_iff.1 (by rw [List.getD_eq_getElem?_getD, List.getElem?_eq_getElem hl]; exact List.getElem_mem hl)
    have := h2 _ hm
    have hne : (sortL l).getD i 0 ≠ x := fun e => hc (e ▸ hm)
    show (if (sortL l).getD i 0 < x then (sortL l).getD i 0 else (sortL l).getD i 0 - 1) < n - 1
    split <;> omega) (fun i hi j hj e => by
    have hl : ∀ i, i < n → ∃ h : i < (sortL l).length, (sortL l).getD i 0 = (sortL l)[i] ∧ (sortL l).getD i 0 ≠ x := fun i hi => by
      have hl : i < (sortL l).length := by rw [(sortL_perm l).length_eq]; omega
      have he : (sortL l).getD i 0 = (sortL l)[i] := by rw [List.getD_eq_getElem?_getD, List.getElem?_eq_getElem hl]; rfl
      exact ⟨hl, he, fun e => hc ((sortL_perm l).mem_iff.1 (by rw [← e, he]; exact List.getElem_mem hl))⟩
    obtain ⟨a1, a2, a3⟩ := hl i hi
    obtain ⟨b1, b2, b3⟩ := hl j hj
    have e' : (if (sortL l).getD i 0 < x then (sortL l).getD i 0 else (sortL l).getD i 0 - 1) = (if (sortL l).getD j 0 < x then (sortL l).getD j 0 else (sortL l).getD j 0 - 1) := e
    rw [List.pairwise_iff_getElem] at hp
    rcases Nat.lt_trichotomy i j with h | h | h
    · have := hp i j a1 b1 h; split at e' <;> split at e' <;> omega
    · exact h
    · have := hp j i b1 a1 h; split at e' <;> split at e' <;> omega)
  omega
theorem sortL_all {l : List Nat} {n : Nat} (h1 : l.Nodup) (h2 : ∀ x ∈ l, x < n) (h3 : l.length = n) : sortL l = List.range n := by
  rw [sortL_filter h1 h2]
  apply List.filter_eq_self.2
  intro a ha
  rw [List.mem_range] at ha
  simpa using nodup_full h1 h2 h3 a ha
theorem sortL_lt {l : List Nat} (h1 : l.Nodup) : (sortL l).Pairwise (· < ·) := by
  have hn : (sortL l).Nodup := (sortL_perm l).nodup_iff.2 h1
  exact ((sortL_le l).and hn).imp (fun h => Nat.lt_of_le_of_ne h.1 h.2)
theorem sortL_int (l : List Nat) : ((l.map Int.ofNat).mergeSort fun x y => decide (x ≤ y)) = (sortL l).map Int.ofNat :=
  (List.map_mergeSort (fun a _ b _ => by simp)).symm
theorem permGo_err (key : Wd) : ∀ (p : Nat) (l : List Nat) (s : Src), s.2 ≠ 0 → (permGo key p l s).2 = s
  | 0, l, s, h => rfl
  | p + 1, l, s, h => by unfold permGo; rw [belS_err s h]; exact permGo_err key p _ s h
theorem chooseGo_err (key : Wd) : ∀ (k m : Nat) (l : List Nat) (s : Src), s.2 ≠ 0 → (chooseGo key k m l s).2 = s
  | 0, m, l, s, h => rfl
  | k + 1, m, l, s, h => by unfold chooseGo; rw [belS_err s h]; exact chooseGo_err key k _ _ s h

end Go.Proofs.Ytodaembemcljnaa
