import Derived.Test.YtodaembemcljnaaSeedZb
/-
  The reference's Weigh.
-/
namespace Go.Proofs.Ytodaembemcljnaa
open Go.RowKit
set_option linter.unusedVariables false

theorem rweigh_long (key : Wd) (i : Int) (l : List Int) (v : Value) (w : World) (hv : SliceI w v l) (h : i < 0 ∨ 1099511627776 < i ∨ 1000 < l.length) :
    Calls Try.prog 35 #[.int .u64 (key.toNat : Int), .int .i64 i, v] w fun e w' => e = .returned (.tuple #[.int .i64 0, .int .i64 0, .int .i64 2]) ∧ w = w' := by
  obtain ⟨a, cap, rfl, hcap, hmax, hcells⟩ := hv.at'
  have hmx : l.length ≤ 9223372036854775807 := by unfold maxLen at hmax; omega
  clear hcells hv
  by_cases h1 : i < 0
  · go_enter Try.func35, Try.ntmps35
    go_wp2_with fail
    go_ret3
    exact ⟨rfl, rfl⟩
  by_cases h2 : 1099511627776 < i
  · go_enter Try.func35, Try.ntmps35
    go_wp2_with fail
    go_ret3
    exact ⟨rfl, rfl⟩
  have h3 : (1000 : Int) < l.length := by omega
  clear h
  go_enter Try.func35, Try.ntmps35
  go_wp2_with fail
  go_ret3
  exact ⟨rfl, rfl⟩
theorem any_all {l : List Int} (h : ∀ (j : Nat) (hj : j < l.length), wrongW l[j] = false) : l.any wrongW = false := by
  rw [List.any_eq_false]
  intro x hx
  obtain ⟨j, hj, rfl⟩ := List.getElem_of_mem hx
  rw [h j hj]; simp
theorem wrong_get {x : Int} (h : wrongW x = false) : 0 ≤ x ∧ x ≤ 1099511627776 := by
  unfold wrongW at h
  simp only [Bool.or_eq_false_iff, decide_eq_false_iff_not] at h
  omega

set_option maxRecDepth 100000 in
set_option maxHeartbeats 1000000 in
theorem rweigh_any (key : Wd) (i : Nat) (hi : i ≤ 1099511627776) (l : List Int) (v : Value) (w : World) (hv : SliceI w v l) (hl : l.length ≤ 1000) :
    Calls Try.prog 35 #[.int .u64 (key.toNat : Int), .int .i64 (i : Int), v] w fun e w' => e = .returned (if l.any wrongW = false ∧ 0 < (nats l).sum then weighV key l i else .tuple #[.int .i64 0, .int .i64 0, .int .i64 2]) ∧ w = w' := by
  obtain ⟨R, hR⟩ : ∃ R, (if l.any wrongW = false ∧ 0 < (nats l).sum then weighV key l i else .tuple #[.int .i64 0, .int .i64 0, .int .i64 2]) = R := ⟨_, rfl⟩
  rw [hR]
  have HR := Lib.hid hR
  obtain ⟨a, cap, rfl, hcap, hmax, hcells⟩ := hv.at'
  have HCE := Lib.hid hcells
  have HI := Lib.hid hi
  have d1 : decide ((i : Int) < 0) = false := by simp
  have d2 : decide ((1099511627776 : Int) < (i : Int)) = false := by simp; omega
  have d3 : decide ((1000 : Int) < (l.length : Int)) = false := by simp; omega
  clear hcells hv hR hi
  go_enter Try.func35, Try.ntmps35
  go_wp2_with fail
  clear d1 d2 d3
  go_loop [9, 10] (fun s x => ∃ k S : Nat, k ≤ l.length ∧ x = .int .i64 (k : Int) ∧ s = .int .i64 (S : Int) ∧ Hid (((nats l).take k).sum = S) ∧ S ≤ k * 1099511627776 ∧ Hid (∀ (j : Nat) (hj : j < l.length), j < k → wrongW l[j] = false)) (fun _ x => l.length - (intOf x).toNat)
  case atStart => exact ⟨0, 0, Nat.zero_le _, rfl, rfl, Lib.hid (by simp), by omega, fun _ _ h => absurd h (Nat.not_lt_zero _)⟩
  case round =>
    obtain ⟨k, S, hk, rfl, rfl, HS, hSb, HQ⟩ := hrel
    by_cases hlt : k < l.length
    · obtain ⟨b, off, rfl, hbl, hc⟩ := HCE.out (by omega)
      have c1 := hc k hlt
      obtain ⟨x, hx⟩ : ∃ x, l[k] = x := ⟨_, rfl⟩
      rw [hx] at c1
      cases hw : wrongW x
      · obtain ⟨g1, g2⟩ := wrong_get hw
        have hkn : k < (nats l).length := by rw [nats_length]; exact hlt
        have hst := sum_take (nats l) k hkn
        have hxn : (nats l)[k] = x.toNat := by simp only [nats, List.getElem_map, hx]
        rw [hxn, HS.out] at hst
        have HST := Lib.hid hst
        have HQ2 : Hid (∀ (j : Nat) (hj : j < l.length), j < k + 1 → wrongW l[j] = false) := fun j hj hjk => by
          by_cases e : j = k
          · subst e; rw [hx]; exact hw
          · exact HQ.out j hj (by omega)
        obtain ⟨y, rfl⟩ : ∃ y : Nat, x = (y : Int) := ⟨x.toNat, by omega⟩
        have hSb2 : S + y ≤ (k + 1) * 1099511627776 := by rw [Nat.add_mul]; omega
        have hb1 : (S : Int) + y ≤ 2000000000000000 := by
          have : (k + 1) * 1099511627776 ≤ 1000 * 1099511627776 := Nat.mul_le_mul_right _ (by omega)
          omega
        have HSB := Lib.hid hSb2
        have HLT := Lib.hid hlt
        clear hc hx hw hst hxn hSb hSb2 hlt hkn
        go_wp2_with fail
        go_round
        case rel => exact ⟨k + 1, S + y, HLT.out, by go_num, by go_num, by have := HST.out; exact Lib.hid (by simpa using this), HSB.out, HQ2⟩
        case measure => simp [intOf]; have := HLT.out; omega
      · have hany : l.any wrongW = true := by
          rw [List.any_eq_true]
          exact ⟨l[k], List.getElem_mem hlt, by rw [hx]; exact hw⟩
        have hrr : R = .tuple #[.int .i64 0, .int .i64 0, .int .i64 2] := by
          rw [← HR.out, if_neg (by rw [hany]; simp)]
        have HRR := Lib.hid hrr
        unfold wrongW at hw
        simp only [Bool.or_eq_true, decide_eq_true_eq] at hw
        clear hc hx hany hrr
        rcases hw with hw | hw
        · go_wp2_with fail
          go_ret3
          exact ⟨by rw [HRR.out]; rfl, rfl⟩
        · have hw0 : ¬ x < 0 := by omega
          go_wp2_with fail
          go_ret3
          exact ⟨by rw [HRR.out]; rfl, rfl⟩
    · obtain rfl : l.length = k := by omega
      have hany : l.any wrongW = false := any_all (fun j hj => HQ.out j hj hj)
      have hall : (nats l).take l.length = nats l := List.take_of_length_le (by rw [nats_length]; exact Nat.le_refl _)
      have hSS := HS.out
      rw [hall] at hSS
      have HSS := Lib.hid hSS
      have HANY := Lib.hid hany
      have hb1 : (S : Int) ≤ 2000000000000000 := by
        have : l.length * 1099511627776 ≤ 1000 * 1099511627776 := Nat.mul_le_mul_right _ hl
        omega
      by_cases h0 : S = 0
      · have hrr : R = .tuple #[.int .i64 0, .int .i64 0, .int .i64 2] := by
          rw [← HR.out, if_neg (by rw [hSS, h0]; simp)]
        have HRR := Lib.hid hrr
        subst h0
        clear hall hSS hany hrr hSb HS HQ hlt hk
        go_wp2_with fail
        go_ret3
        exact ⟨by rw [HRR.out]; rfl, rfl⟩
      · have hrr : weighV key l i = R := by
          rw [← HR.out, if_pos ⟨hany, by omega⟩]
        unfold weighV at hrr
        rw [hSS] at hrr
        have i1 : ((S : Int) == 0) = false := by rw [beq_eq_false_iff_ne]; omega
        have HRB := Lib.hid (fun w => rbelow_any key i S HI.out (by omega) (by omega) w)
        obtain ⟨BB, hBB⟩ : ∃ BB, bel key S (1099511627776 - i) i = BB := ⟨_, rfl⟩
        rw [hBB] at HRB hrr
        rcases BB with _ | ⟨t, j⟩
        · have HRR := Lib.hid hrr
          unfold belV at HRB
          clear hall hSS hany hrr hSb HS HQ hlt hk hBB h0
          go_wp2_with fail
          refine (HRB.out _).mono ?_
          rintro e w3 ⟨rfl, rfl⟩
          go_wp2_with fail
          go_ret3
          exact ⟨by rw [← HRR.out]; rfl, rfl⟩
        · have HRR := Lib.hid hrr
          have htS := bel_lt (by omega) hBB
          unfold belV at HRB
          have HL := Lib.hid hl
          clear hall hSS hany hrr hSb HS HQ hlt hk hBB h0
          go_wp2_with fail
          refine (HRB.out _).mono ?_
          rintro e w3 ⟨rfl, rfl⟩
          go_wp2_with fail
          clear i1
          go_loop [14, 15] (fun s x => ∃ k u : Nat, x = .int .i64 (k : Int) ∧ s = .int .i64 (u : Int) ∧ k < l.length ∧ Hid (((nats l).take k).sum = u) ∧ u ≤ t ∧ Hid (weighGo ((nats l).drop k) (t - u) + k = weighGo (nats l) t)) (fun _ x => l.length - (intOf x).toNat)
          case atStart =>
            refine ⟨0, 0, rfl, rfl, ?_, Lib.hid (by simp), Nat.zero_le _, Lib.hid rfl⟩
            rcases Nat.eq_zero_or_pos l.length with h | h
            · have hz : l = [] := List.eq_nil_of_length_eq_zero h
              have e := HSS.out
              rw [hz] at e
              have : S = 0 := by rw [← e]; rfl
              omega
            · exact h
          case round =>
            obtain ⟨k, u, rfl, rfl, hk, HU, hut, HW⟩ := hrel
            obtain ⟨b, off, rfl, hbl, hc⟩ := HCE.out (by omega)
            have c1 := hc k hk
            have hkn : k < (nats l).length := by rw [nats_length]; exact hk
            obtain ⟨g1, g2, g3⟩ := nats_get l k hk HANY.out
            have hst := sum_take (nats l) k hkn
            have hwd := weigh_drop (nats l) k (t - u) hkn
            obtain ⟨y, hy⟩ : ∃ y, (nats l)[k] = y := ⟨_, rfl⟩
            rw [hy] at g3 hst hwd
            rw [← g3] at c1 g1 g2
            rw [HU.out] at hst
            have HST := Lib.hid hst
            have HWD := Lib.hid hwd
            have HK := Lib.hid hk
            have hb2 : (u : Int) + y ≤ 4000000000000000 := by omega
            clear hc hy hst hwd g3 hk hkn
            by_cases hgt : t < u + y
            · have i2 : (t : Int) < (u : Int) + y := by omega
              have hres : weighGo (nats l) t = k := by
                rw [← HW.out, HWD.out, if_neg (by omega)]; omega
              have HRES := Lib.hid hres
              clear hres
              go_wp2_with fail
              go_ret3
              exact ⟨by rw [← HRR.out]; simp only [HRES.out]; rfl, rfl⟩
            · have i2 : ¬ (t : Int) < (u : Int) + y := by omega
              have hk1 : k + 1 < l.length := by
                rcases Nat.lt_or_ge (k + 1) l.length with h | h
                · exact h
                · have hall : (nats l).take (k + 1) = nats l := List.take_of_length_le (by rw [nats_length]; exact h)
                  have := HST.out
                  rw [hall, HSS.out] at this
                  omega
              have HK1 := Lib.hid hk1
              clear hk1
              go_wp2_with fail
              go_round
              case rel =>
                refine ⟨k + 1, u + y, by go_num, by go_num, HK1.out, HST, by omega, ?_⟩
                have h1 := HWD.out
                rw [if_pos (by omega)] at h1
                have h2 := HW.out
                rw [h1] at h2
                rw [show t - (u + y) = t - u - y by omega]
                exact Lib.hid (by omega)
              case measure => simp [intOf]; have := HK1.out; omega
end Go.Proofs.Ytodaembemcljnaa
