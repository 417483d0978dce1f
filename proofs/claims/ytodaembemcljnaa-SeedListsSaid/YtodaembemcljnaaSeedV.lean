import Derived.Test.YtodaembemcljnaaSeedU
/-
  names; SeedTells' walk.
-/
namespace Go.Proofs.Ytodaembemcljnaa
open Go.RowKit
set_option linter.unusedVariables false

theorem sub_both (x : Wd) (s : ByteArray) (hs : s.size ≤ maxLen) : ∃ (K : Wd) (e : Nat), e ≤ 3 ∧
    (∀ w, Calls Try.prog 23 #[.agg #[.int .u64 (x.toNat : Int)], .string s] w fun r w' => r = .returned (.tuple #[.agg #[.int .u64 (K.toNat : Int)], .int .i64 (e : Int)]) ∧ Below w.heap.size w w') ∧
    (∀ w, Calls Try.prog 47 #[.int .u64 (x.toNat : Int), .string s] w fun r w' => r = .returned (.tuple #[.int .u64 (K.toNat : Int), .int .i64 (e : Int)]) ∧ w = w') := by
  by_cases h0 : s.size = 0
  · exact ⟨0#64, 2, by omega, fun w => Sub_empty x s h0 w, fun w => rsub_empty x s h0 w⟩
  · by_cases h1 : 32 < s.size
    · exact ⟨0#64, 3, by omega, fun w => Sub_long x s h1 hs w, fun w => rsub_long x s h1 hs w⟩
    · exact ⟨subK x s, 0, by omega, fun w => Sub_any x s (by omega) (by omega) w, fun w => rsub_any x s (by omega) (by omega) w⟩
theorem word_both (x : Wd) (i : Int) : ∃ (K : Wd) (e : Nat), e ≤ 3 ∧
    (∀ w, Calls Try.prog 18 #[.agg #[.int .u64 (x.toNat : Int)], .int .i64 i] w fun r w' => r = .returned (.tuple #[.int .u64 (K.toNat : Int), .int .i64 (e : Int)]) ∧ Below w.heap.size w w') ∧
    (∀ w, Calls Try.prog 48 #[.int .u64 (x.toNat : Int), .int .i64 i] w fun r w' => r = .returned (.tuple #[.int .u64 (K.toNat : Int), .int .i64 (e : Int)]) ∧ w = w') := by
  by_cases h : i < 0 ∨ 1099511627776 ≤ i
  · exact ⟨0#64, 2, by omega, fun w => Word_no x i h w, fun w => rword_no x i h w⟩
  · obtain ⟨m, rfl⟩ : ∃ m : Nat, i = (m : Int) := ⟨i.toNat, by omega⟩
    exact ⟨word x m, 0, by omega, fun w => Word_any x m (by omega) w, fun w => rword_any x m (by omega) w⟩

theorem run_key (v : Int) (W : World) : Sem.run Try.prog (Instr.field 31 (.agg #[.int .u64 v]) 0) W = .ok (.int .u64 v) W := by
  kernel_rfl
set_option maxRecDepth 100000 in
theorem names_any (x : Wd) (s : ByteArray) (hs : s.size ≤ maxLen) (n i : Int) (w : World) : Calls Try.prog 24 #[.int .u64 (x.toNat : Int), .string s, .int .i64 n, .int .i64 i] w fun e w' => e = .returned (.bool true) ∧ Below w.heap.size w w' := by
  obtain ⟨K, e1, he1, hS1, hS2⟩ := sub_both x s hs
  obtain ⟨V, e2, he2, hW1, hW2⟩ := word_both x i
  have S1 := Lib.hid hS1
  have S2 := Lib.hid hS2
  have W1 := Lib.hid hW1
  have W2 := Lib.hid hW2
  have A1 := Lib.hid (fun w => at_any x n w)
  have A2 := Lib.hid (fun w => rat_any x n w)
  obtain ⟨A, hA⟩ : ∃ A, mix (mix (x + 1#64) ^^^ BitVec.ofInt 64 n) = A := ⟨_, rfl⟩
  rw [hA] at A1 A2
  have M1 := Lib.hid (fun w => mix_any x w)
  have M2 := Lib.hid (fun w => rmix_any x w)
  have N1 := Lib.hid (fun w => new_any x w)
  have N2 := Lib.hid (fun w => rnew_any x w)
  obtain ⟨M, hM⟩ : ∃ M, mix x = M := ⟨_, rfl⟩
  rw [hM] at M1 M2 N1 N2
  have U1 := Lib.hid (fun w => unmix_any x w)
  have U2 := Lib.hid (fun w => runmix_any x w)
  obtain ⟨U, hU⟩ : ∃ U, unmix x = U := ⟨_, rfl⟩
  rw [hU] at U1 U2
  clear hS1 hS2 hW1 hW2 hA hM hU
  go_enter Try.func24, Try.ntmps24
  go_wp2_with fail
  refine (S1.out _).mono ?_
  rintro e w1 ⟨rfl, hb1⟩
  have c1 : w1.cell? ⟨w.heap.size, 0, none⟩ = some (.int .u64 (x.toNat : Int)) := ((kept hb1).1 _ _ (by simp)).trans (by simp [go_sem])
  have l1 : w.heap.size < w1.heap.size := by have := hb1.size; simp at this; omega
  have B1 : Below w.heap.size w w1 := ((Below.refl _ _).alloc (Nat.le_refl _) _).trans (hb1.mono (by simp))
  clear hb1
  obtain ⟨w2, hw2⟩ : ∃ w2, w1.alloc (.cells #[.int .u64 (K.toNat : Int)] 31) = w2 := ⟨_, rfl⟩
  have c2 : w2.cell? ⟨w.heap.size, 0, none⟩ = some (.int .u64 (x.toNat : Int)) := by rw [← hw2, World.cell?_alloc_past _ _ _ l1]; exact c1
  have d2 : w2.cell? ⟨w1.heap.size, 0, none⟩ = some (.int .u64 (K.toNat : Int)) := by rw [← hw2]; simp [go_sem]
  have B2 : Below w.heap.size w w2 := by rw [← hw2]; exact B1.alloc B1.size _
  have l2 : w1.heap.size < w2.heap.size := by rw [← hw2]; simp
  obtain ⟨Z, hZ⟩ : ∃ Z, w1.heap.size = Z := ⟨_, rfl⟩
  have l3 : w.heap.size < w2.heap.size := by omega
  rw [hZ] at d2 l2
  go_wp2_with fail
  clear hw2 c1 l1 B1
  refine (S2.out _).mono ?_
  rintro e w3 ⟨rfl, rfl⟩
  go_wp2_with fail
  refine (W1.out _).mono ?_
  rintro e w3 ⟨rfl, hb3⟩
  have c3 := (hb3.cell (p := ⟨w.heap.size, 0, none⟩) l3).trans c2
  have d3 := (hb3.cell (p := ⟨Z, 0, none⟩) l2).trans d2
  have l4 : w.heap.size < w3.heap.size := Nat.lt_of_lt_of_le l3 hb3.size
  have B3 := B2.trans (hb3.mono B2.size)
  clear c2 d2 l3 l2 B2 hb3
  go_wp2_with fail
  refine (W2.out _).mono ?_
  rintro e w4 ⟨rfl, rfl⟩
  go_wp2_with fail
  clear hZ
  have hk := run_key
  refine (A1.out _).mono ?_
  rintro e w5 ⟨rfl, hb5⟩
  replace hb5 := B3.trans (hb5.mono B3.size)
  clear c3 d3 B3 l4
  go_wp2_with fail
  refine (A2.out _).mono ?_
  rintro e w6 ⟨rfl, rfl⟩
  go_wp2_with fail
  refine (N1.out _).mono ?_
  rintro e w6 ⟨rfl, hb6⟩
  replace hb6 := hb5.trans (hb6.mono hb5.size)
  clear hb5
  go_wp2_with fail
  refine (N2.out _).mono ?_
  rintro e w7 ⟨rfl, rfl⟩
  go_wp2_with fail
  refine (M1.out _).mono ?_
  rintro e w7 ⟨rfl, hb7⟩
  replace hb7 := hb6.trans (hb7.mono hb6.size)
  clear hb6
  go_wp2_with fail
  refine (M2.out _).mono ?_
  rintro e w8 ⟨rfl, rfl⟩
  go_wp2_with fail
  refine (U1.out _).mono ?_
  rintro e w8 ⟨rfl, hb8⟩
  replace hb8 := hb7.trans (hb8.mono hb7.size)
  clear hb7
  go_wp2_with fail
  refine (U2.out _).mono ?_
  rintro e w9 ⟨rfl, rfl⟩
  go_wp2_with fail
  go_ret
  exact ⟨rfl, hb8⟩

theorem seedTells_yes (a : Int) (s : ByteArray) (n i : Int) (ha : (Lit.int .u64 a).wf = true) (hs : s.size ≤ maxLen) (hn : (Lit.int .i64 n).wf = true) (hi : (Lit.int .i64 i).wf = true) (w : World) :
    Calls Try.prog 9 #[.int .u64 a, .string s, .int .i64 n, .int .i64 i] w fun e w' => e = .returned (.bool true) ∧ Below w.heap.size w w' := by
  obtain ⟨x, rfl⟩ := wd_of a ha
  go_enter Try.func9, Try.ntmps9
  go_wp2_with fail
  refine (names_any x s hs n i _).mono ?_
  rintro e w1 ⟨rfl, hb1⟩
  go_wp2_with fail
  refine (awake_yes _).mono ?_
  rintro e w2 ⟨rfl, hb2⟩
  replace hb2 := hb1.trans (hb2.mono hb1.size)
  go_wp2_with fail
  go_ret
  exact ⟨rfl, hb2⟩
end Go.Proofs.Ytodaembemcljnaa
