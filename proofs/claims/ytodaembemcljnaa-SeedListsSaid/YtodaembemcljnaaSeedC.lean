import Derived.Test.YtodaembemcljnaaSeedB
/-
  Rest, the streams, the words.
-/
namespace Go.Proofs.Ytodaembemcljnaa
open Go.RowKit
set_option linter.unusedVariables false

theorem w_of (n : Int) : IntKind.u64.wrap n = ((BitVec.ofInt 64 n).toNat : Int) := by
  rw [IntKind.wrap_u64, BitVec.toNat_ofInt]; omega

theorem rest_no (x : Wd) (n : Int) (hn : n < 1) (w : World) : Calls Try.prog 15 #[.int .u64 (x.toNat : Int), .int .i64 n] w fun e w' => e = .returned (.tuple #[.int .i64 0, .bool false]) ∧ w = w' := by
  go_enter Try.func15, Try.ntmps15
  go_wp2_with fail
  go_ret2
  exact ⟨rfl, rfl⟩
theorem thr (n : Nat) (hn : 1 ≤ n) (hm : n ≤ 9223372036854775807) (x : Wd) : IntKind.u64.wrap (18446744073709551615 - (IntKind.u64.wrap (-(n : Int))).tmod (n : Int)) < (x.toNat : Int) ↔ acc n x = false := by
  have h1 : IntKind.u64.wrap (-(n : Int)) = ((18446744073709551616 - n : Nat) : Int) := by rw [IntKind.wrap_u64]; omega
  have h2 : (((18446744073709551616 - n : Nat) : Int)).tmod (n : Int) = ((18446744073709551616 % n : Nat) : Int) := by
    rw [Int.tmod_eq_emod_of_nonneg (by omega), ← Int.natCast_emod]
    congr 1
    rw [← Nat.mod_eq_sub_mod (by omega)]
  have h3 := Nat.mod_lt 18446744073709551616 (y := n) (by omega)
  rw [h1, h2, IntKind.wrap_u64]
  have h4 : acc n x = false ↔ ¬ acc n x = true := by simp
  rw [h4, acc_iff hn]
  have := x.isLt
  generalize 18446744073709551616 % n = r at *
  omega
theorem rest_yes (x : Wd) (n : Nat) (hn : 1 ≤ n) (hm : n ≤ 9223372036854775807) (ha : acc n x = true) (w : World) : Calls Try.prog 15 #[.int .u64 (x.toNat : Int), .int .i64 (n : Int)] w fun e w' => e = .returned (.tuple #[.int .i64 ((x.toNat % n : Nat) : Int), .bool true]) ∧ w = w' := by
  have ht := thr n hn hm x
  have hx := x.isLt
  have hr : wrap64 ((x.toNat : Int) % (n : Int)) = ((x.toNat % n : Nat) : Int) := by
    have := Nat.mod_lt x.toNat (y := n) (by omega)
    rw [← Int.natCast_emod]
    exact IntWalk.wrap64_in _ (by omega)
  have i1 : decide (IntKind.u64.wrap (18446744073709551615 - (IntKind.u64.wrap (-(n : Int))).tmod (n : Int)) < (x.toNat : Int)) = false := by
    simp only [decide_eq_false_iff_not]; intro h; rw [ht.1 h] at ha; cases ha
  have HR := Lib.hid hr
  clear ht ha hr
  go_enter Try.func15, Try.ntmps15
  go_wp2_with fail
  go_ret2
  exact ⟨by rw [← HR.out]; rfl, rfl⟩
theorem rest_not (x : Wd) (n : Nat) (hn : 1 ≤ n) (hm : n ≤ 9223372036854775807) (ha : acc n x = false) (w : World) : Calls Try.prog 15 #[.int .u64 (x.toNat : Int), .int .i64 (n : Int)] w fun e w' => e = .returned (.tuple #[.int .i64 0, .bool false]) ∧ w = w' := by
  have hx := x.isLt
  have i1 : decide (IntKind.u64.wrap (18446744073709551615 - (IntKind.u64.wrap (-(n : Int))).tmod (n : Int)) < (x.toNat : Int)) = true := by
    simp only [decide_eq_true_iff]; exact (thr n hn hm x).2 ha
  clear ha
  go_enter Try.func15, Try.ntmps15
  go_wp2_with fail
  go_ret2
  exact ⟨rfl, rfl⟩

theorem kept {W w1 : World} (hb : Below W.heap.size W w1) : (∀ b o, b < W.heap.size → w1.cell? ⟨b, o, none⟩ = W.cell? ⟨b, o, none⟩) ∧ (∀ b o, b < W.heap.size → w1.frozen? ⟨b, o, none⟩ = W.frozen? ⟨b, o, none⟩) :=
  ⟨fun b o h => hb.cell (p := ⟨b, o, none⟩) h, fun b o h => hb.frozen (p := ⟨b, o, none⟩) h⟩

theorem new_any (x : Wd) (w : World) : Calls Try.prog 29 #[.int .u64 (x.toNat : Int)] w fun e w' => e = .returned (.agg #[.int .u64 ((mix x).toNat : Int)]) ∧ Below w.heap.size w w' := by
  go_enter Try.func29, Try.ntmps29
  go_wp2_with fail
  refine (mix_any x _).mono ?_
  rintro e w1 ⟨rfl, hb1⟩
  have hz : w.heap.size < w1.heap.size := by have := hb1.size; simp at this; omega
  have hb2 : Below w.heap.size w w1 := ((Below.refl _ _).alloc (Nat.le_refl _) _).trans (hb1.mono (by simp))
  obtain ⟨hc, hf⟩ := kept hb1
  clear hb1
  go_wp2_with fail
  exact bodyPost_ret (v := .agg #[.int .u64 ((mix x).toNat : Int)]) (by simp [results, Try.results29, go_sem, hc]) rfl ⟨rfl, hb2.setCell (by simp) _⟩

theorem at_any (x : Wd) (n : Int) (w : World) : Calls Try.prog 30 #[.agg #[.int .u64 (x.toNat : Int)], .int .i64 n] w fun e w' => e = .returned (.agg #[.int .u64 ((mix (mix (x + 1#64) ^^^ BitVec.ofInt 64 n)).toNat : Int)]) ∧ Below w.heap.size w w' := by
  have w1 : IntKind.u64.wrap ((x.toNat : Int) + 1) = ((x + 1#64).toNat : Int) := w_add x 1#64
  have HW := Lib.hid w1
  clear w1
  go_enter Try.func30, Try.ntmps30
  go_wp2_with fail
  rw [HW.out]
  refine (mix_any _ _).mono ?_
  rintro e w1 ⟨rfl, hb1⟩
  have hz : w.heap.size + 1 < w1.heap.size := by have := hb1.size; simp at this; omega
  have hb2 : Below w.heap.size w w1 := (((Below.refl _ _).alloc (Nat.le_refl _) _).alloc (by simp) _).trans (hb1.mono (by simp; omega))
  obtain ⟨hc, hf⟩ := kept hb1
  clear hb1
  go_wp2_with fail
  rw [w_of, w_xor]
  refine (mix_any _ _).mono ?_
  rintro e w2 ⟨rfl, hb1⟩
  have hc' : w2.cell? ⟨w.heap.size + 1, 0, none⟩ = w1.cell? ⟨w.heap.size + 1, 0, none⟩ := hb1.cell (p := ⟨w.heap.size + 1, 0, none⟩) hz
  have hf' : w2.frozen? ⟨w.heap.size + 1, 0, none⟩ = w1.frozen? ⟨w.heap.size + 1, 0, none⟩ := hb1.frozen (p := ⟨w.heap.size + 1, 0, none⟩) hz
  have hb3 : Below w.heap.size w w2 := hb2.trans (hb1.mono hb2.size)
  clear hb1 hb2
  go_wp2_with fail
  exact bodyPost_ret (v := .agg #[.int .u64 ((mix (mix (x + 1#64) ^^^ BitVec.ofInt 64 n)).toNat : Int)]) (by simp [results, Try.results30, go_sem, hc, hc']) rfl ⟨rfl, hb3.setCell (by simp) _⟩

theorem w_mulg (a : Wd) : IntKind.u64.wrap ((a.toNat : Int) * 11400714819323198485) = ((a * gold).toNat : Int) := w_mul a gold
theorem w_step (i : Nat) (hi : i < 1099511627776) : IntKind.u64.wrap (((i : Int) + 1) * 11400714819323198485) = ((BitVec.ofNat 64 (i + 1) * gold).toNat : Int) := by
  have h : ((i : Int) + 1) = ((BitVec.ofNat 64 (i + 1)).toNat : Int) := by
    rw [BitVec.toNat_ofNat, Nat.mod_eq_of_lt (by omega)]; simp
  rw [h, w_mulg]
theorem word_any (x : Wd) (i : Nat) (hi : i < 1099511627776) (w : World) : Calls Try.prog 39 #[.agg #[.int .u64 (x.toNat : Int)], .int .i64 (i : Int)] w fun e w' => e = .returned (.int .u64 ((word x i).toNat : Int)) ∧ Below w.heap.size w w' := by
  obtain ⟨z, hz⟩ : ∃ z, x + BitVec.ofNat 64 (i + 1) * gold = z := ⟨_, rfl⟩
  have hw : word x i = mix z := by rw [word, hz]
  have hs : IntKind.u64.wrap ((x.toNat : Int) + IntKind.u64.wrap (((i : Int) + 1) * 11400714819323198485)) = (z.toNat : Int) := by rw [w_step i hi, w_add, hz]
  rw [hw]
  have HW := Lib.hid hs
  clear hz hs hw
  go_enter Try.func39, Try.ntmps39
  go_wp2_with fail
  rw [HW.out]
  refine (mix_any _ _).mono ?_
  rintro e w1 ⟨rfl, hb1⟩
  have hb2 : Below w.heap.size w w1 := ((Below.refl _ _).alloc (Nat.le_refl _) _).trans (hb1.mono (by simp))
  clear hb1
  go_wp2_with fail
  go_ret
  exact ⟨rfl, hb2⟩
theorem Word_any (x : Wd) (i : Nat) (hi : i < 1099511627776) (w : World) : Calls Try.prog 18 #[.agg #[.int .u64 (x.toNat : Int)], .int .i64 (i : Int)] w fun e w' => e = .returned (.tuple #[.int .u64 ((word x i).toNat : Int), .int .i64 0]) ∧ Below w.heap.size w w' := by
  go_enter Try.func18, Try.ntmps18
  go_wp2_with fail
  refine (word_any x i hi _).mono ?_
  rintro e w1 ⟨rfl, hb1⟩
  have hb2 : Below w.heap.size w w1 := ((Below.refl _ _).alloc (Nat.le_refl _) _).trans (hb1.mono (by simp))
  clear hb1
  go_wp2_with fail
  go_ret2
  exact ⟨rfl, hb2⟩
theorem Word_no (x : Wd) (i : Int) (hi : i < 0 ∨ 1099511627776 ≤ i) (w : World) : Calls Try.prog 18 #[.agg #[.int .u64 (x.toNat : Int)], .int .i64 i] w fun e w' => e = .returned (.tuple #[.int .u64 0, .int .i64 2]) ∧ Below w.heap.size w w' := by
  rcases hi with hi | hi
  · go_enter Try.func18, Try.ntmps18
    go_wp2_with fail
    go_ret2
    exact ⟨rfl, (Below.refl _ _).alloc (Nat.le_refl _) _⟩
  · have h0 : ¬ i < 0 := by omega
    go_enter Try.func18, Try.ntmps18
    go_wp2_with fail
    go_ret2
    exact ⟨rfl, (Below.refl _ _).alloc (Nat.le_refl _) _⟩

end Go.Proofs.Ytodaembemcljnaa
