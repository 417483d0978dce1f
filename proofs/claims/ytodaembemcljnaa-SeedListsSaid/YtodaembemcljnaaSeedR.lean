import Derived.Test.YtodaembemcljnaaSeedO
/-
  awake.
-/
namespace Go.Proofs.Ytodaembemcljnaa
open Go.RowKit
set_option linter.unusedVariables false

set_option maxRecDepth 100000 in
set_option maxHeartbeats 4000000 in
theorem awake_yes (w : World) : Calls Try.prog 13 #[] w fun e w' => e = .returned (.bool true) ∧ Below w.heap.size w w' := by
  go_enter Try.func13, Try.ntmps13
  go_wp2_with fail
  refine (rest_a1 _).mono ?_
  rintro e w1 ⟨rfl, rfl⟩
  go_wp2_with fail
  refine (rest_a2 _).mono ?_
  rintro e w1 ⟨rfl, rfl⟩
  go_wp2_with fail
  refine (rest_a3 _).mono ?_
  rintro e w1 ⟨rfl, rfl⟩
  go_wp2_with fail
  refine (new_a _).mono ?_
  rintro e w1 ⟨K, rfl, hb1⟩
  go_wp2_with fail
  obtain ⟨w2, hw2⟩ : ∃ w2, w1.alloc (.cells #[.int .u64 (K.toNat : Int)] 31) = w2 := ⟨_, rfl⟩
  obtain ⟨B, hB⟩ : ∃ B, w1.heap.size = B := ⟨_, rfl⟩
  have c2 : w2.cell? ⟨B, 0, none⟩ = some (.int .u64 (K.toNat : Int)) := by rw [← hw2, ← hB]; simp [go_sem]
  have l2 : B < w2.heap.size := by rw [← hw2, ← hB]; simp
  have hb2 : Below w.heap.size w w2 := by rw [← hw2]; exact hb1.alloc hb1.size _
  rw [hw2, hB]
  clear hw2 hB hb1
  refine (perm_a K _).mono ?_
  rintro e w3 ⟨v3, rfl, hs3, hb3⟩
  have c3 := (hb3.cell (p := ⟨B, 0, none⟩) l2).trans c2
  have l3 : B < w3.heap.size := Nat.lt_of_lt_of_le l2 hb3.size
  replace hb3 := hb2.trans (hb3.mono hb2.size)
  have HS3 := Lib.hid hs3
  clear c2 l2 hb2 hs3
  go_wp2_with fail
  refine (choose_a K _).mono ?_
  rintro e w4 ⟨v4, x4, rfl, hs4, hb4⟩
  have c4 := (hb4.cell (p := ⟨B, 0, none⟩) l3).trans c3
  have l4 : B < w4.heap.size := Nat.lt_of_lt_of_le l3 hb4.size
  have HS3' := Lib.hid (HS3.out.below hb4)
  replace hb4 := hb3.trans (hb4.mono hb3.size)
  have HS4 := Lib.hid hs4
  clear c3 l3 hb3 hs4 HS3
  go_wp2_with fail
  have hz : SliceI (w4.alloc (.cells #[.int .i64 0, .int .i64 5, .int .i64 0] 3)) (.slice (some ⟨w4.heap.size, 0, none⟩) 3 3) [0, 5, 0] := by
    refine ⟨_, 3, rfl, by simp, by unfold maxLen; omega, fun _ => ⟨_, 0, rfl, by simp, fun j hj => ?_⟩⟩
    rw [Nat.zero_add, World.cell?_alloc_at _ _ _ _ rfl]
    have hj' : j = 0 ∨ j = 1 ∨ j = 2 := by simp at hj; omega
    rcases hj' with rfl | rfl | rfl <;> rfl
  refine (weigh_a K _ _ hz).mono ?_
  rintro e w5 ⟨x5, rfl, hb5⟩
  have hA := Below.alloc (Below.refl w4.heap.size w4) (Nat.le_refl _) (.cells #[.int .i64 0, .int .i64 5, .int .i64 0] 3)
  replace hb5 := hA.trans (hb5.mono hA.size)
  have c5 := (hb5.cell (p := ⟨B, 0, none⟩) l4).trans c4
  have l5 : B < w5.heap.size := Nat.lt_of_lt_of_le l4 hb5.size
  have HS35 := Lib.hid (HS3'.out.below hb5)
  have HS45 := Lib.hid (HS4.out.below hb5)
  replace hb5 := hb4.trans (hb5.mono hb4.size)
  clear c4 l4 hb4 HS3' HS4 hA hz
  go_wp2_with fail
  refine (Word_no K 1099511627776 (by omega) _).mono ?_
  rintro e w6 ⟨rfl, hb6⟩
  have c6 := (hb6.cell (p := ⟨B, 0, none⟩) l5).trans c5
  have l6 : B < w6.heap.size := Nat.lt_of_lt_of_le l5 hb6.size
  have HS36 := Lib.hid (HS35.out.below hb6)
  have HS46 := Lib.hid (HS45.out.below hb6)
  replace hb6 := hb5.trans (hb6.mono hb5.size)
  clear c5 l5 hb5 HS35 HS45
  go_wp2_with fail
  refine (below_a K _).mono ?_
  rintro e w7 ⟨rfl, hb7⟩
  have HS37 := Lib.hid (HS36.out.below hb7)
  have HS47 := Lib.hid (HS46.out.below hb7)
  replace hb7 := hb6.trans (hb7.mono hb6.size)
  clear c6 l6 hb6 HS36 HS46
  go_wp2_with fail
  refine (mix_a _).mono ?_
  rintro e w8 ⟨rfl, hb8⟩
  have HS38 := Lib.hid (HS37.out.below hb8)
  have HS48 := Lib.hid (HS47.out.below hb8)
  replace hb8 := hb7.trans (hb8.mono hb7.size)
  clear hb7 HS37 HS47
  go_wp2_with fail
  refine (unmix_a _).mono ?_
  rintro e w9 ⟨rfl, hb9⟩
  have HS39 := Lib.hid (HS38.out.below hb9)
  have HS49 := Lib.hid (HS48.out.below hb9)
  replace hb9 := hb8.trans (hb9.mono hb8.size)
  clear hb8 HS38 HS48
  go_wp2_with fail
  have hz1 : SliceI (w9.alloc (.cells #[.int .i64 0] 3)) (.slice (some ⟨w9.heap.size, 0, none⟩) 1 1) [0] := by
    refine ⟨_, 1, rfl, by simp, by unfold maxLen; omega, fun _ => ⟨_, 0, rfl, by simp, fun j hj => ?_⟩⟩
    rw [Nat.zero_add, World.cell?_alloc_at _ _ _ _ rfl]
    have hj' : j = 0 := by simp at hj; omega
    subst hj'; rfl
  have hA1 := Below.alloc (Below.refl w9.heap.size w9) (Nat.le_refl _) (.cells #[.int .i64 0] 3)
  refine (sameInts_any [0] [0] _ _ _ (HS39.out.below hA1) hz1).mono ?_
  rintro e wa ⟨rfl, hba⟩
  have HS4a := Lib.hid ((HS49.out.below hA1).below hba)
  replace hba := (hb9.trans (hA1.mono hb9.size)).trans (hba.mono (by have := hb9.size; simp; omega))
  clear hb9 HS39 HS49 hz1 hA1
  go_wp2_with fail
  have hz1 : SliceI (wa.alloc (.cells #[.int .i64 0, .int .i64 1, .int .i64 2, .int .i64 3] 3)) (.slice (some ⟨wa.heap.size, 0, none⟩) 4 4) [0, 1, 2, 3] := by
    refine ⟨_, 4, rfl, by simp, by unfold maxLen; omega, fun _ => ⟨_, 0, rfl, by simp, fun j hj => ?_⟩⟩
    rw [Nat.zero_add, World.cell?_alloc_at _ _ _ _ rfl]
    have hj' : j = 0 ∨ j = 1 ∨ j = 2 ∨ j = 3 := by simp at hj; omega
    rcases hj' with rfl | rfl | rfl | rfl <;> rfl
  have hA1 := Below.alloc (Below.refl wa.heap.size wa) (Nat.le_refl _) (.cells #[.int .i64 0, .int .i64 1, .int .i64 2, .int .i64 3] 3)
  refine (sameInts_any [0, 1, 2, 3] [0, 1, 2, 3] _ _ _ (HS4a.out.below hA1) hz1).mono ?_
  rintro e wb ⟨rfl, hbb⟩
  replace hbb := (hba.trans (hA1.mono hba.size)).trans (hbb.mono (by have := hba.size; simp; omega))
  clear hba HS4a hz1 hA1
  go_wp2_with fail
  go_ret
  exact ⟨rfl, hbb⟩

theorem wd_of (a : Int) (h : (Lit.int .u64 a).wf = true) : ∃ x : Wd, a = (x.toNat : Int) := by
  have hb : 0 ≤ a ∧ a ≤ 18446744073709551615 := by simpa [Lit.wf, IntKind.min, IntKind.max, IntKind.signed, IntKind.bits] using h
  exact ⟨BitVec.ofNat 64 a.toNat, by rw [BitVec.toNat_ofNat, Nat.mod_eq_of_lt (by omega)]; omega⟩
theorem i64_of (a : Int) (h : (Lit.int .i64 a).wf = true) : -9223372036854775808 ≤ a ∧ a ≤ 9223372036854775807 := by
  simpa [Lit.wf, IntKind.min, IntKind.max, IntKind.signed, IntKind.bits] using h

end Go.Proofs.Ytodaembemcljnaa
