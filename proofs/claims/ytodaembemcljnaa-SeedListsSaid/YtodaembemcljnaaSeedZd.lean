import Derived.Test.YtodaembemcljnaaSeedZc
/-
  weighs; SeedWeighs' walk.
-/
namespace Go.Proofs.Ytodaembemcljnaa
open Go.RowKit
set_option linter.unusedVariables false

theorem weighV_form (key : Wd) (l : List Int) (i : Nat) : ∃ a b c : Nat, weighV key l i = .tuple #[.int .i64 (a : Int), .int .i64 (b : Int), .int .i64 (c : Int)] := by
  unfold weighV
  rcases bel key (nats l).sum (1099511627776 - i) i with _ | ⟨t, j⟩
  · exact ⟨0, 0, 4, rfl⟩
  · exact ⟨_, j, 0, rfl⟩
theorem weigh_both (key : Wd) (i : Int) (l : List Int) : ∃ a b c : Nat,
    (∀ w v, SliceI w v l → Calls Try.prog 21 #[.agg #[.int .u64 (key.toNat : Int)], .int .i64 i, v] w fun e w' => e = .returned (.tuple #[.int .i64 (a : Int), .int .i64 (b : Int), .int .i64 (c : Int)]) ∧ Below w.heap.size w w') ∧
    (∀ w v, SliceI w v l → Calls Try.prog 35 #[.int .u64 (key.toNat : Int), .int .i64 i, v] w fun e w' => e = .returned (.tuple #[.int .i64 (a : Int), .int .i64 (b : Int), .int .i64 (c : Int)]) ∧ w = w') := by
  by_cases hl : 1000 < l.length
  · exact ⟨0, 0, 2, fun w v hv => Weigh_long key i l v w hv hl, fun w v hv => rweigh_long key i l v w hv (Or.inr (Or.inr hl))⟩
  · by_cases hi : i < 0 ∨ 1099511627776 < i
    · refine ⟨0, 0, 2, fun w v hv => ?_, fun w v hv => rweigh_long key i l v w hv (by rcases hi with h | h; exact Or.inl h; exact Or.inr (Or.inl h))⟩
      cases hw : l.any wrongW
      · have := Weigh_any key i l v w hv (by omega) hw
        rw [if_neg (by omega)] at this
        exact this
      · exact Weigh_wrong key i l v w hv (by omega) hw
    · obtain ⟨j, rfl⟩ : ∃ j : Nat, i = (j : Int) := ⟨i.toNat, by omega⟩
      cases hw : l.any wrongW
      · by_cases hs : 0 < (nats l).sum
        · obtain ⟨a, b, c, hv0⟩ := weighV_form key l j
          refine ⟨a, b, c, fun w v hv => ?_, fun w v hv => ?_⟩
          · have := Weigh_any key j l v w hv (by omega) hw
            rw [if_pos ⟨hs, by omega, by omega⟩, show ((j : Nat) : Int).toNat = j by omega, hv0] at this
            exact this
          · have := rweigh_any key j (by omega) l v w hv (by omega)
            rw [if_pos ⟨hw, hs⟩, hv0] at this
            exact this
        · refine ⟨0, 0, 2, fun w v hv => ?_, fun w v hv => ?_⟩
          · have := Weigh_any key j l v w hv (by omega) hw
            rw [if_neg (by omega)] at this
            exact this
          · have := rweigh_any key j (by omega) l v w hv (by omega)
            rw [if_neg (by intro h; exact hs h.2)] at this
            exact this
      · refine ⟨0, 0, 2, fun w v hv => Weigh_wrong key j l v w hv (by omega) hw, fun w v hv => ?_⟩
        have := rweigh_any key j (by omega) l v w hv (by omega)
        rw [if_neg (by rw [hw]; simp)] at this
        exact this

set_option maxRecDepth 100000 in
theorem weighs_any (x : Wd) (i : Int) (l : List Int) (v : Value) (w : World) (hv : SliceI w v l) (hnil : ∀ n c, v = .slice none n c → c = 0) (hl : l.length ≤ 1048576) :
    Calls Try.prog 14 #[.int .u64 (x.toNat : Int), .int .i64 i, v] w fun e w' => e = .returned (.bool true) ∧ Below w.heap.size w w' := by
  obtain ⟨a, b, c, h1, h2⟩ := weigh_both x i l
  have H1 := Lib.hid h1
  have H2 := Lib.hid h2
  have HV := Lib.hid hv
  have HNIL := Lib.hid hnil
  clear h1 h2 hv hnil
  go_enter Try.func14, Try.ntmps14
  go_wp2_with fail
  refine (lent_any l v _ HV.out HNIL.out hl).mono ?_
  rintro e w1 ⟨G, u, rfl, hu, hb1⟩
  have HU := Lib.hid hu
  clear hu
  go_wp2_with fail
  refine (H1.out _ _ HU.out.slice).mono ?_
  rintro e w2 ⟨rfl, hb2⟩
  have HU2 := Lib.hid (HU.out.below hb2)
  replace hb2 := hb1.trans (hb2.mono hb1.size)
  clear hb1
  go_wp2_with fail
  refine (H2.out _ _ (HV.out.below hb2)).mono ?_
  rintro e w3 ⟨rfl, rfl⟩
  go_wp2_with fail
  refine (kept_any G l u v _ HU2.out (HV.out.below hb2) hl).mono ?_
  rintro e w4 ⟨rfl, hb4⟩
  replace hb4 := hb2.trans (hb4.mono hb2.size)
  clear hb2
  go_wp2_with fail
  go_ret
  exact ⟨rfl, hb4⟩
set_option maxRecDepth 100000 in
theorem seedWeighs_walk (x : Wd) (i : Int) (l : List Int) (v : Value) (w : World) (hv : SliceI w v l) (hnil : ∀ n c, v = .slice none n c → c = 0) (hl : l.length ≤ 1048576) :
    Calls Try.prog 4 #[.int .u64 (x.toNat : Int), .int .i64 i, v] w fun e w' => e = .returned (.bool true) ∧ Below w.heap.size w w' := by
  have HV := Lib.hid hv
  have HNIL := Lib.hid hnil
  have HVV := Lib.hid hv.at'
  have hmx : l.length ≤ 9223372036854775807 := by omega
  by_cases hm : 100 < l.length ∧ l.length ≤ 1000
  · obtain ⟨m1, m2⟩ := hm
    obtain ⟨a, cap, rfl, hcap, _, _⟩ := hv.at'
    have m3 : (100 : Int) < l.length := by omega
    have m4 : (l.length : Int) ≤ 1000 := by omega
    clear hv hnil
    go_enter Try.func4, Try.ntmps4
    go_wp2_with fail
    refine (awake_yes _).mono ?_
    rintro e w2 ⟨rfl, hb2⟩
    go_wp2_with fail
    go_ret
    exact ⟨rfl, hb2⟩
  · have W := Lib.hid (fun w1 (hb : Below w.heap.size w w1) => weighs_any x i l v w1 (hv.below hb) hnil hl)
    obtain ⟨a, cap, rfl, hcap, _, _⟩ := hv.at'
    have m5 : l.length ≤ 100 ∨ 1000 < l.length := by omega
    clear hv hnil hm
    rcases m5 with m5 | m5
    · have m3 : (l.length : Int) ≤ 100 := by omega
      go_enter Try.func4, Try.ntmps4
      go_wp2_with fail
      refine (W.out _ (Below.refl _ _)).mono ?_
      rintro e w1 ⟨rfl, hb1⟩
      go_wp2_with fail
      refine (awake_yes _).mono ?_
      rintro e w2 ⟨rfl, hb2⟩
      replace hb2 := hb1.trans (hb2.mono hb1.size)
      go_wp2_with fail
      go_ret
      exact ⟨rfl, hb2⟩
    · have m3 : (1000 : Int) < (l.length : Int) := by omega
      have m4 : (100 : Int) < (l.length : Int) := by omega
      go_enter Try.func4, Try.ntmps4
      go_wp2_with fail
      refine (W.out _ (Below.refl _ _)).mono ?_
      rintro e w1 ⟨rfl, hb1⟩
      go_wp2_with fail
      refine (awake_yes _).mono ?_
      rintro e w2 ⟨rfl, hb2⟩
      replace hb2 := hb1.trans (hb2.mono hb1.size)
      go_wp2_with fail
      go_ret
      exact ⟨rfl, hb2⟩
end Go.Proofs.Ytodaembemcljnaa
