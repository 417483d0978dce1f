/-
  The words of a stream and the draws from them, as plain functions.
-/
import Derived.RowKit
namespace Go.Proofs.Ytodaembemcljnaa
set_option linter.unusedVariables false

abbrev Wd := BitVec 64

def xs (k : Nat) (x : Wd) : Wd := x ^^^ (x >>> k)
def ux (k : Nat) (x : Wd) : Wd := x ^^^ (x >>> k) ^^^ (x >>> (2 * k))

theorem ux_xs (k : Nat) (h : 64 ≤ 3 * k) (x : Wd) : ux k (xs k x) = x := by
  unfold ux xs
  apply BitVec.eq_of_getLsbD_eq
  intro i hi
  simp only [BitVec.getLsbD_xor, BitVec.getLsbD_ushiftRight]
  have e : x.getLsbD (k + (2 * k + i)) = false := BitVec.getLsbD_of_ge _ _ (by omega)
  have e2 : 2 * k + i = k + (k + i) := by omega
  rw [e, e2]
  cases x.getLsbD i <;> cases x.getLsbD (k + i) <;> cases x.getLsbD (k + (k + i)) <;> rfl
theorem xs_ux (k : Nat) (h : 64 ≤ 3 * k) (x : Wd) : xs k (ux k x) = x := by
  unfold ux xs
  apply BitVec.eq_of_getLsbD_eq
  intro i hi
  simp only [BitVec.getLsbD_xor, BitVec.getLsbD_ushiftRight]
  have e : x.getLsbD (2 * k + (k + i)) = false := BitVec.getLsbD_of_ge _ _ (by omega)
  have e2 : 2 * k + i = k + (k + i) := by omega
  rw [e, e2]
  cases x.getLsbD i <;> cases x.getLsbD (k + i) <;> cases x.getLsbD (k + (k + i)) <;> rfl

def c1 : Wd := 0xbf58476d1ce4e5b9#64
def c2 : Wd := 0x94d049bb133111eb#64
def gold : Wd := 0x9e3779b97f4a7c15#64
def newton (n : Wd) (x : Wd) : Wd := x * (2#64 - n * x)
def inv (n : Wd) : Wd := newton n (newton n (newton n (newton n (newton n n))))
def d1 : Wd := inv c1
def d2 : Wd := inv c2
theorem c1d1 : c1 * d1 = 1#64 := by decide +kernel
theorem c2d2 : c2 * d2 = 1#64 := by decide +kernel
theorem inv1 : inv 1#64 = 1#64 := by decide +kernel

def mix (x : Wd) : Wd := xs 31 (xs 27 (xs 30 x * c1) * c2)
def unmix (x : Wd) : Wd := ux 30 (ux 27 (ux 31 x * d2) * d1)
theorem unmix_mix (x : Wd) : unmix (mix x) = x := by
  unfold unmix mix
  rw [ux_xs 31 (by omega), BitVec.mul_assoc, c2d2, BitVec.mul_one, ux_xs 27 (by omega), BitVec.mul_assoc, c1d1, BitVec.mul_one, ux_xs 30 (by omega)]
theorem mix_unmix (x : Wd) : mix (unmix x) = x := by
  unfold unmix mix
  rw [xs_ux 30 (by omega), BitVec.mul_assoc, BitVec.mul_comm d1, c1d1, BitVec.mul_one, xs_ux 27 (by omega), BitVec.mul_assoc, BitVec.mul_comm d2, c2d2, BitVec.mul_one, xs_ux 31 (by omega)]
theorem mix_inj {x y : Wd} : mix x = mix y ↔ x = y := ⟨fun h => by rw [← unmix_mix x, h, unmix_mix], fun h => by rw [h]⟩
theorem gold_inj {a b : Wd} (h : a * gold = b * gold) : a = b := by
  have e : gold * inv gold = 1#64 := by decide +kernel
  have := congrArg (· * inv gold) h
  simpa [BitVec.mul_assoc, e] using this
def acc (n : Nat) (w : Wd) : Bool := decide (w.toNat / n < 18446744073709551616 / n)
def word (key : Wd) (i : Nat) : Wd := mix (key + BitVec.ofNat 64 (i + 1) * gold)

theorem acc_iff {n : Nat} (hn : 1 ≤ n) (w : Wd) : acc n w = true ↔ w.toNat < 18446744073709551616 - 18446744073709551616 % n := by
  unfold acc
  have h1 := Nat.div_add_mod 18446744073709551616 n
  have h2 : w.toNat / n < 18446744073709551616 / n ↔ w.toNat < 18446744073709551616 / n * n := Nat.div_lt_iff_lt_mul (by omega)
  rw [decide_eq_true_iff, h2, Nat.mul_comm]
  omega

theorem word_inj {key : Wd} {i j : Nat} (hi : i < 2 ^ 40) (hj : j < 2 ^ 40) (h : word key i = word key j) : i = j := by
  unfold word at h
  have h1 := mix_inj.1 h
  have h2 : BitVec.ofNat 64 (i + 1) * gold = BitVec.ofNat 64 (j + 1) * gold := by
    have := congrArg (fun z => z - key) h1
    simpa [BitVec.add_comm key, BitVec.add_sub_cancel] using this
  have h3 := congrArg BitVec.toNat (gold_inj h2)
  simp only [BitVec.toNat_ofNat] at h3
  omega

theorem php : ∀ (r n : Nat) (f : Nat → Nat), (∀ i, i < n → f i < r) → (∀ i, i < n → ∀ j, j < n → f i = f j → i = j) → n ≤ r
  | 0, n, f, h, _ => by
    cases n with
    | zero => exact Nat.le_refl _
    | succ n => exact absurd (h 0 (by omega)) (by omega)
  | r + 1, n, f, h, hi => by
    by_cases hr : ∃ i, i < n ∧ f i = r
    · obtain ⟨i, hin, hir⟩ := hr
      have := php r (n - 1) (fun j => f (if j < i then j else j + 1)) (fun j hj => by
          have h1 := h (if j < i then j else j + 1) (by split <;> omega)
          have h2 : f (if j < i then j else j + 1) ≠ r := fun e => by
            have := hi _ (by split <;> omega) _ hin (e.trans hir.symm)
            split at this <;> omega
          show f (if j < i then j else j + 1) < r
          omega) (fun a ha b hb e => by
          have := hi _ (by split <;> omega) _ (by split <;> omega) e
          split at this <;> split at this <;> omega)
      omega
    · have := php r n f (fun j hj => by
          have h1 := h j hj
          have h2 : f j ≠ r := fun e => hr ⟨j, hj, e⟩
          omega) hi
      omega

/-- Below: at most k words from index i on. -/
def bel (key : Wd) (n : Nat) : Nat → Nat → Option (Nat × Nat)
  | 0, _ => none
  | k + 1, i => if acc n (word key i) then some ((word key i).toNat % n, i + 1) else bel key n k (i + 1)

theorem bel_some {key : Wd} {n : Nat} : ∀ {k i v j : Nat}, bel key n k i = some (v, j) →
    i < j ∧ j ≤ i + k ∧ acc n (word key (j - 1)) = true ∧ v = (word key (j - 1)).toNat % n ∧ ∀ m, i ≤ m → m + 1 < j → acc n (word key m) = false
  | 0, _, _, _, h => by simp [bel] at h
  | k + 1, i, v, j, h => by
    unfold bel at h
    split at h
    · rename_i ha
      simp only [Option.some.injEq, Prod.mk.injEq] at h
      obtain ⟨rfl, rfl⟩ := h
      exact ⟨by omega, by omega, ha, rfl, fun m _ _ => by omega⟩
    · rename_i ha
      obtain ⟨h1, h2, h3, h4, h5⟩ := bel_some h
      refine ⟨by omega, by omega, h3, h4, fun m hm hj => ?_⟩
      by_cases e : m = i
      · subst e; simpa using ha
      · exact h5 m (by omega) hj
theorem bel_none {key : Wd} {n : Nat} : ∀ {k i : Nat}, bel key n k i = none → ∀ m, i ≤ m → m < i + k → acc n (word key m) = false
  | 0, _, _, m, _, _ => by omega
  | k + 1, i, h, m, h1, h2 => by
    unfold bel at h
    split at h
    · cases h
    · rename_i ha
      by_cases e : m = i
      · subst e; simpa using ha
      · exact bel_none h m (by omega) (by omega)

theorem few {key : Wd} {n i c : Nat} (hn : 1 ≤ n) (hc : i + c ≤ 2 ^ 40) (h : ∀ m, i ≤ m → m < i + c → acc n (word key m) = false) : c < n := by
  have hr : 18446744073709551616 % n < n := Nat.mod_lt _ (by omega)
  have := php (18446744073709551616 % n) c (fun m => 18446744073709551615 - (word key (i + m)).toNat) (fun m hm => by
      have h1 := h (i + m) (by omega) (by omega)
      have h2 : ¬ (word key (i + m)).toNat < 18446744073709551616 - 18446744073709551616 % n := fun e => by
        rw [(acc_iff hn _).2 e] at h1; cases h1
      have := (word key (i + m)).isLt
      have h3 := Nat.mod_le 18446744073709551616 n
      show 18446744073709551615 - (word key (i + m)).toNat < _
      omega) (fun a ha b hb e => by
      have h1 := (word key (i + a)).isLt
      have h2 := (word key (i + b)).isLt
      have e' : 18446744073709551615 - (word key (i + a)).toNat = 18446744073709551615 - (word key (i + b)).toNat := e
      have := word_inj (by omega) (by omega) (BitVec.eq_of_toNat_eq (x := word key (i + a)) (y := word key (i + b)) (by omega))
      omega)
  omega
theorem bel_within {key : Wd} {n k i v j : Nat} (hn : 1 ≤ n) (hk : i + k ≤ 2 ^ 40) (h : bel key n k i = some (v, j)) : j ≤ i + n := by
  obtain ⟨h1, h2, h3, h4, h5⟩ := bel_some h
  have := few (c := j - 1 - i) hn (by omega) (fun m hm hj => h5 m hm (by omega))
  omega
theorem bel_full {key : Wd} {n k i : Nat} (hn : 1 ≤ n) (hk : i + k ≤ 2 ^ 40) (h : bel key n k i = none) : k < n :=
  few hn hk (bel_none h)
theorem bel_lt {key : Wd} {n k i v j : Nat} (hn : 1 ≤ n) (h : bel key n k i = some (v, j)) : v < n := by
  obtain ⟨h1, h2, h3, rfl, h5⟩ := bel_some h
  exact Nat.mod_lt _ (by omega)
/-- A source: the next index, the error. -/
abbrev Src := Nat × Nat
def belS (key : Wd) (n : Nat) (s : Src) : Nat × Src :=
  if s.2 = 0 then (match bel key n (1099511627776 - s.1) s.1 with | some (v, j) => (v, (j, 0)) | none => (0, (1099511627776, 4))) else (0, s)

theorem belS_lt {key : Wd} {n : Nat} (hn : 1 ≤ n) (s : Src) : (belS key n s).1 < n := by
  unfold belS
  split
  · split
    · rename_i h; exact bel_lt hn h
    · exact hn
  · exact hn
theorem belS_at {key : Wd} {n : Nat} (s : Src) (hs : s.1 ≤ 1099511627776) : s.1 ≤ (belS key n s).2.1 ∧ (belS key n s).2.1 ≤ 1099511627776 := by
  unfold belS
  split
  · split
    · rename_i h; obtain ⟨h1, h2, _⟩ := bel_some h; exact ⟨by simp; omega, by simp; omega⟩
    · exact ⟨hs, Nat.le_refl _⟩
  · exact ⟨Nat.le_refl _, hs⟩
theorem belS_err {key : Wd} {n : Nat} (s : Src) : s.2 ≠ 0 → belS key n s = (0, s) := by
  intro h; unfold belS; rw [if_neg h]
theorem belS_ok {key : Wd} {n : Nat} (hn : 1 ≤ n) (s : Src) (h0 : s.2 = 0) (h : s.1 + n ≤ 1099511627776) : (belS key n s).2.2 = 0 ∧ s.1 < (belS key n s).2.1 ∧ (belS key n s).2.1 ≤ s.1 + n := by
  unfold belS
  rw [if_pos h0]
  split
  · rename_i hb; obtain ⟨h1, _⟩ := bel_some hb; have := bel_within hn (by omega) hb; exact ⟨rfl, h1, this⟩
  · rename_i hb; have := bel_full hn (by omega) hb; omega
theorem belS_full {key : Wd} {n : Nat} (hn : 1 ≤ n) (s : Src) (h0 : s.2 = 0) (hs : s.1 ≤ 1099511627776) (h : (belS key n s).2.2 ≠ 0) : (belS key n s).2.2 = 4 ∧ 1099511627776 < s.1 + n := by
  unfold belS at h ⊢
  rw [if_pos h0] at h ⊢
  split at h
  · simp at h
  · rename_i hb; have := bel_full hn (by omega) hb; exact ⟨rfl, by omega⟩
theorem belS_two {key : Wd} {n : Nat} (s : Src) (h : s.2 = 0 ∨ s.2 = 4) : (belS key n s).2.2 = 0 ∨ (belS key n s).2.2 = 4 := by
  unfold belS
  split
  · split <;> simp
  · exact h

def swp (l : List Nat) (p q : Nat) : List Nat := (l.set p (l.getD q 0)).set q (l.getD p 0)
theorem swp_length (l : List Nat) (p q : Nat) : (swp l p q).length = l.length := by simp [swp]
theorem swp_perm (l : List Nat) (p q : Nat) (hp : p < l.length) (hq : q < l.length) : (swp l p q).Perm l := by
  unfold swp
  simp only [List.getD_eq_getElem?_getD, List.getElem?_eq_getElem hp, List.getElem?_eq_getElem hq, Option.getD_some]
  exact List.set_set_perm hp hq

/-- Perm: the rounds p, p - 1, .., 1. -/
def permGo (key : Wd) : Nat → List Nat → Src → List Nat × Src
  | 0, l, s => (l, s)
  | p + 1, l, s => permGo key p (swp l (p + 1) (belS key (p + 2) s).1) (belS key (p + 2) s).2
def permS (key : Wd) (n i : Nat) : List Nat × Src := permGo key (n - 1) (List.range n) (i, 0)

theorem permGo_perm (key : Wd) : ∀ (p : Nat) (l : List Nat) (s : Src), p < l.length ∨ p = 0 → (permGo key p l s).1.Perm l
  | 0, l, s, _ => List.Perm.refl _
  | p + 1, l, s, h => by
    have hb := belS_lt (key := key) (n := p + 2) (by omega) s
    exact (permGo_perm key p _ _ (by rw [swp_length]; omega)).trans (swp_perm l _ _ (by omega) (by omega))
theorem permGo_at (key : Wd) : ∀ (p : Nat) (l : List Nat) (s : Src), s.1 ≤ 1099511627776 → s.1 ≤ (permGo key p l s).2.1 ∧ (permGo key p l s).2.1 ≤ 1099511627776
  | 0, l, s, h => ⟨Nat.le_refl _, h⟩
  | p + 1, l, s, h => by
    have hb := belS_at (key := key) (n := p + 2) s h
    have := permGo_at key p (swp l (p + 1) (belS key (p + 2) s).1) _ hb.2
    exact ⟨Nat.le_trans hb.1 this.1, this.2⟩
theorem permGo_ok (key : Wd) : ∀ (p : Nat) (l : List Nat) (s : Src), s.2 = 0 → s.1 + p * (p + 1) ≤ 1099511627776 → (permGo key p l s).2.2 = 0 ∧ s.1 + p ≤ (permGo key p l s).2.1
  | 0, l, s, h, _ => ⟨h, Nat.le_refl _⟩
  | p + 1, l, s, h, hb => by
    have e : (p + 1) * (p + 1 + 1) = p * (p + 1) + (p + 2) + p := by simp [Nat.add_mul, Nat.mul_add]; omega
    rw [e] at hb
    obtain ⟨h1, h2, h3⟩ := belS_ok (key := key) (n := p + 2) (by omega) s h (by omega)
    have := permGo_ok key p (swp l (p + 1) (belS key (p + 2) s).1) _ h1 (by omega)
    exact ⟨this.1, by have := this.2; simp only [permGo]; omega⟩
theorem permGo_two (key : Wd) : ∀ (p : Nat) (l : List Nat) (s : Src), s.2 = 0 ∨ s.2 = 4 → (permGo key p l s).2.2 = 0 ∨ (permGo key p l s).2.2 = 4
  | 0, l, s, h => h
  | p + 1, l, s, h => permGo_two key p _ _ (belS_two s h)

/-- Choose: k rounds, m, m + 1, .. -/
def chooseGo (key : Wd) : Nat → Nat → List Nat → Src → List Nat × Src
  | 0, _, l, s => (l, s)
  | k + 1, m, l, s => chooseGo key k (m + 1) (l ++ [if l.contains (belS key (m + 1) s).1 then m else (belS key (m + 1) s).1]) (belS key (m + 1) s).2
def chooseS (key : Wd) (n k i : Nat) : List Nat × Src := chooseGo key k (n - k) [] (i, 0)

theorem chooseGo_length (key : Wd) : ∀ (k m : Nat) (l : List Nat) (s : Src), (chooseGo key k m l s).1.length = l.length + k
  | 0, m, l, s => rfl
  | k + 1, m, l, s => by unfold chooseGo; rw [chooseGo_length]; simp; omega
theorem chooseGo_nodup (key : Wd) : ∀ (k m : Nat) (l : List Nat) (s : Src), l.Nodup → (∀ x ∈ l, x < m) → (chooseGo key k m l s).1.Nodup ∧ ∀ x ∈ (chooseGo key k m l s).1, x < m + k
  | 0, m, l, s, h1, h2 => ⟨h1, h2⟩
  | k + 1, m, l, s, h1, h2 => by
    have hb := belS_lt (key := key) (n := m + 1) (by omega) s
    have := chooseGo_nodup key k (m + 1) (l ++ [if l.contains (belS key (m + 1) s).1 then m else (belS key (m + 1) s).1]) (belS key (m + 1) s).2 (by
      rw [List.nodup_append]
      refine ⟨h1, by simp, ?_⟩
      intro a ha b hb' e
      subst e
      simp only [List.mem_singleton] at hb'
      split at hb'
      · subst hb'; have := h2 _ ha; omega
      · rename_i hc; subst hb'; exact hc (by simpa using ha)) (by
      intro x hx
      rw [List.mem_append] at hx
      rcases hx with hx | hx
      · have := h2 x hx; omega
      · simp only [List.mem_singleton] at hx
        split at hx <;> omega)
    refine ⟨this.1, fun x hx => ?_⟩
    have := this.2 x hx; omega
theorem chooseGo_at (key : Wd) : ∀ (k m : Nat) (l : List Nat) (s : Src), s.1 ≤ 1099511627776 → s.1 ≤ (chooseGo key k m l s).2.1 ∧ (chooseGo key k m l s).2.1 ≤ 1099511627776
  | 0, m, l, s, h => ⟨Nat.le_refl _, h⟩
  | k + 1, m, l, s, h => by
    have hb := belS_at (key := key) (n := m + 1) s h
    have := chooseGo_at key k (m + 1) (l ++ [if l.contains (belS key (m + 1) s).1 then m else (belS key (m + 1) s).1]) _ hb.2
    exact ⟨Nat.le_trans hb.1 this.1, this.2⟩
theorem chooseGo_ok (key : Wd) (B : Nat) : ∀ (k m : Nat) (l : List Nat) (s : Src), s.2 = 0 → m + k ≤ B → s.1 + k * B ≤ 1099511627776 → (chooseGo key k m l s).2.2 = 0 ∧ s.1 + k ≤ (chooseGo key k m l s).2.1
  | 0, m, l, s, h, _, _ => ⟨h, Nat.le_refl _⟩
  | k + 1, m, l, s, h, hm, hb => by
    rw [Nat.add_mul] at hb
    obtain ⟨h1, h2, h3⟩ := belS_ok (key := key) (n := m + 1) (by omega) s h (by omega)
    have := chooseGo_ok key B k (m + 1) (l ++ [if l.contains (belS key (m + 1) s).1 then m else (belS key (m + 1) s).1]) _ h1 (by omega) (by omega)
    exact ⟨this.1, by have := this.2; simp only [chooseGo]; omega⟩
theorem chooseGo_two (key : Wd) : ∀ (k m : Nat) (l : List Nat) (s : Src), s.2 = 0 ∨ s.2 = 4 → (chooseGo key k m l s).2.2 = 0 ∨ (chooseGo key k m l s).2.2 = 4
  | 0, m, l, s, h => h
  | k + 1, m, l, s, h => chooseGo_two key k _ _ _ (belS_two s h)

/-- Weigh: the first place whose weights reach beyond t. -/
def weighGo : List Nat → Nat → Nat
  | [], _ => 0
  | x :: l, t => if x ≤ t then weighGo l (t - x) + 1 else 0
theorem weighGo_lt : ∀ (l : List Nat) (t : Nat), t < l.sum → weighGo l t < l.length ∧ 0 < l.getD (weighGo l t) 0
  | [], t, h => by simp at h
  | x :: l, t, h => by
    unfold weighGo
    split
    · have := weighGo_lt l (t - x) (by simp at h; omega)
      exact ⟨by simp; exact this.1, by simpa using this.2⟩
    · simp; omega

end Go.Proofs.Ytodaembemcljnaa
