import Derived.Test.YtodaembemcljnaaSeedM
/-
  SameInts, Pick.
-/
namespace Go.Proofs.Ytodaembemcljnaa
open Go.RowKit
set_option linter.unusedVariables false

theorem same_long {l m : List Int} (h : l.length ≠ m.length) : decide (l = m) = false := by
  simp only [decide_eq_false_iff_not]; intro e; exact h (by rw [e])
set_option maxHeartbeats 1000000 in
theorem sameInts_any (l m : List Int) (a b : Value) (w : World) (ha : SliceI w a l) (hb : SliceI w b m) :
    Calls Try.prog 20 #[a, b] w fun e w' => e = .returned (.bool (decide (l = m))) ∧ Below w.heap.size w w' := by
  obtain ⟨p, cap, rfl, hcap, hmax, hcells⟩ := ha.at'
  obtain ⟨q, cap2, rfl, hcap2, hmax2, hcells2⟩ := hb.at'
  have HC := Lib.hid hcells
  have HC2 := Lib.hid hcells2
  have hm1 : l.length ≤ 9223372036854775807 := by unfold maxLen at hmax; omega
  have hm2 : m.length ≤ 9223372036854775807 := by unfold maxLen at hmax2; omega
  clear hcells hcells2 ha hb hmax hmax2
  by_cases hlen : l.length = m.length
  · have HL := Lib.hid hlen
    have hd : ((l.length : Int) != (m.length : Int)) = false := by simp; omega
    clear hlen
    go_enter Try.func20, Try.ntmps20
    go_wp2_with fail
    go_loopw [5] (fun i wr => ∃ k : Nat, k ≤ l.length ∧ i = .int .i64 (k : Int) ∧ Hid (∀ (j : Nat) (h1 : j < l.length) (h2 : j < m.length), j < k → l[j] = m[j]) ∧ Below w.heap.size w wr) (fun i _ => l.length - (intOf i).toNat)
    case atStart => exact ⟨0, Nat.zero_le _, rfl, fun _ _ _ h => absurd h (Nat.not_lt_zero _), Below.refl _ _⟩
    case round =>
      obtain ⟨k, hk, rfl, HQ, hB⟩ := hrel
      by_cases hlt : k < l.length
      · have hlt2 : k < m.length := by have := HL.out; omega
        obtain ⟨b1, o1, rfl, k1, k2⟩ := HC.out (by omega)
        obtain ⟨b2, o2, rfl, k3, k4⟩ := HC2.out (by omega)
        have d1 := (hB.cell (p := ⟨b1, o1 + k, none⟩) k1).trans (k2 k hlt)
        have d2 := (hB.cell (p := ⟨b2, o2 + k, none⟩) k3).trans (k4 k hlt2)
        clear k2 k4
        have HB := Lib.hid hB
        clear hB
        by_cases he : l[k] = m[k]
        · have i1 : (l[k] != m[k]) = false := by simp [he]
          have HE := Lib.hid he
          clear he
          go_wp2_with fail
          go_quiet (fail)
          clear i1
          go_wp2_with fail
          go_roundw
          case rel => exact ⟨k + 1, hlt, by go_num, fun j h1 h2 hj => by
            by_cases e : j = k
            · subst e; exact HE.out
            · exact HQ.out j h1 h2 (by omega), below_drewN HB.out _⟩
          case measure => simp [intOf]; omega
        · have i1 : (l[k] != m[k]) = true := by simp [he]
          have hne : decide (l = m) = false := by
            simp only [decide_eq_false_iff_not]; intro e; subst e; exact he rfl
          have HE := Lib.hid hne
          clear he hne
          go_wp2_with fail
          go_quiet (fail)
          clear i1
          go_wp2_with fail
          go_ret
          exact ⟨by rw [HE.out]; rfl, below_drewN HB.out _⟩
      · obtain rfl : l.length = k := by omega
        have he : decide (l = m) = true := by
          simp only [decide_eq_true_eq]
          exact List.ext_getElem HL.out (fun j h1 h2 => HQ.out j h1 h2 h1)
        have HE := Lib.hid he
        clear he
        go_wp2_with fail
        go_ret
        exact ⟨by rw [HE.out]; rfl, hB⟩
  · have hd : ((l.length : Int) != (m.length : Int)) = true := by simp; omega
    have HE := Lib.hid (same_long hlen)
    clear hlen
    go_enter Try.func20, Try.ntmps20
    go_wp2_with fail
    go_ret
    exact ⟨by rw [HE.out]; rfl, Below.refl _ _⟩

theorem pick_any (x : Int) (n : Nat) (hn : 1 ≤ n) (hm : n ≤ 4611686018427387904) (hx : -9223372036854775808 ≤ x ∧ x ≤ 9223372036854775807) (w : World) :
    Calls Try.prog 16 #[.int .i64 x, .int .i64 (n : Int)] w fun e w' => e = .returned (.int .i64 (x % (n : Int))) ∧ w = w' := by
  have h1 : ¬ (n : Int) < 1 := by omega
  have hp : (0 : Int) < n := by omega
  have e1 : x.tmod n = if x.tmod n < 0 then x % n - n else x % n := by
    rw [Int.tmod_eq_emod]
    have := Int.emod_nonneg x (b := (n : Int)) (by omega)
    have := Int.emod_lt_of_pos x hp
    have hna : (n : Int).natAbs = n := by simp
    split <;> split <;> omega
  have b1 := Int.emod_nonneg x (b := (n : Int)) (by omega)
  have b2 := Int.emod_lt_of_pos x hp
  obtain ⟨y, hy⟩ : ∃ y, x.tmod n = y := ⟨_, rfl⟩
  obtain ⟨z, hz⟩ : ∃ z, x % (n : Int) = z := ⟨_, rfl⟩
  rw [hz] at e1 b1 b2 ⊢
  rw [hy] at e1
  have HE := Lib.hid e1
  by_cases h0 : y < 0
  · rw [if_pos h0] at e1
    have HY := Lib.hid hy
    have HZ := Lib.hid hz
    clear hz e1
    go_enter Try.func16, Try.ntmps16
    go_wp2_with fail
    go_ret
    have e : wrap64 (y + (n : Int)) = z := by
      have := HE.out
      rw [if_pos h0] at this
      rw [IntWalk.wrap64_in _ (by omega)]; omega
    exact ⟨by rw [← e]; rfl, rfl⟩
  · rw [if_neg h0] at e1
    have HY := Lib.hid hy
    have HZ := Lib.hid hz
    clear hz e1
    go_enter Try.func16, Try.ntmps16
    go_wp2_with fail
    go_ret
    have e : y = z := by
      have := HE.out
      rw [if_neg (by omega)] at this
      exact this
    exact ⟨by rw [← e]; rfl, rfl⟩
end Go.Proofs.Ytodaembemcljnaa
