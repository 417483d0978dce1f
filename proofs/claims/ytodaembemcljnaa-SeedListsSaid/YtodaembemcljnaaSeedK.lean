import Derived.Test.YtodaembemcljnaaSeedJ
import Derived.Lib.SlKeysI
import Derived.Lib.OwnBridge
/-
  Choose: the call.
-/
namespace Go.Proofs.Ytodaembemcljnaa
open Go.RowKit
set_option linter.unusedVariables false

theorem sort_any (B : Nat) (v : Value) (l : List Nat) (w : World) (h : OwnI B w v l) (hl : l.length ≤ 1000000) :
    Calls Try.prog 46 #[v] w fun e w' => e = .returned (.tuple #[]) ∧ OwnI B w' v (sortL l) ∧ Off (fun k => B ≤ k) w w' := by
  have hsl : (sortL l).length = l.length := (sortL_perm l).length_eq
  by_cases h0 : 0 < l.length
  · obtain ⟨g, cap, rfl, h1, h2, h3, h4, h5⟩ := h.form h0
    have hg : ∃ cur, w.heap[g]? = some (.cells cur 3 (0, 0)) ∧ cur.size = cap * 1 := by
      rcases h.2 with ⟨e, _⟩ | ⟨g', cap', cur, hv, _, hh, _, _, hs, _⟩
      · cases e
      · cases hv; exact ⟨cur, hh, hs⟩
    obtain ⟨cur, hg, hcs⟩ := hg
    refine (Calls.mono (R := fun e w' => e = .returned (.tuple #[]) ∧ ∃ n os, w' = Go.Sort.grow (Go.Sort.putRow (Value.int .i64) (Go.Sort.ahead w n) g 0 ((l.map Int.ofNat).mergeSort fun x y => decide (x ≤ y)).toArray) os) ?_ ?_)
    · have := Try.slices_Sort_int g 0 cap (l.map Int.ofNat) w (fun j hj => by
        have hj' : j < l.length := by simpa using hj
        obtain ⟨a, b⟩ := h5.out j hj'
        rw [Nat.zero_add]
        refine ⟨a.trans ?_, b⟩
        simp [hj']) h2 (by simp; omega)
      simpa using this
    · rintro e w' ⟨rfl, n, os, rfl⟩
      refine ⟨rfl, ?_, ?_⟩
      · rw [sortL_int]
        have := ownsRow_sorted_i (n := n) (os := os) (ss := l.map Int.ofNat) (ts := (sortL l).map Int.ofNat) (by simp [hsl]) h1 hg (by simpa using h3) h4 hcs
        unfold OwnI
        rw [hsl]
        have e2 : ints (sortL l) = ((sortL l).map Int.ofNat).map (Value.int .i64) := by simp [ints]
        rw [e2]
        simpa using this
      · have hgr := grownBy_sorted_i (w := w) (g := g) (n := n) (os := os) ((l.map Int.ofNat).mergeSort fun x y => decide (x ≤ y)).toArray
        exact ⟨hgr.os, hgr.tape, hgr.output, hgr.size, fun k hk hs => hgr.block k hk fun e => hs (by cases e; exact h1)⟩
  · have : l = [] := List.eq_nil_of_length_eq_zero (by omega)
    subst this
    have hv : ∃ p c, v = .slice p 0 c := by
      rcases h.2 with ⟨rfl, _⟩ | ⟨g', cap', cur, rfl, _⟩
      · exact ⟨none, 0, rfl⟩
      · exact ⟨_, _, rfl⟩
    obtain ⟨p, c, rfl⟩ := hv
    refine (Try.slices_Sort_int_none p c w).mono ?_
    rintro e w' ⟨rfl, rfl⟩
    exact ⟨rfl, by simpa [sortL] using h, Off.refl _ _⟩
set_option maxRecDepth 100000 in
theorem Choose_any (key : Wd) (i n k : Nat) (hi : i ≤ 1099511627776) (hn : n ≤ 1000) (hk : k ≤ n) (w : World) :
    Calls Try.prog 22 #[.agg #[.int .u64 (key.toNat : Int)], .int .i64 (i : Int), .int .i64 (n : Int), .int .i64 (k : Int)] w (ListMade w.heap.size (sortL (chooseS key n k i).1, (chooseS key n k i).2) w) := by
  have hlen : (chooseS key n k i).1.length = k := by unfold chooseS; rw [chooseGo_length]; simp
  obtain ⟨r, hr⟩ : ∃ r, chooseS key n k i = r := ⟨_, rfl⟩
  have HR := Lib.hid hr
  rw [hr] at hlen ⊢
  have HLE := Lib.hid hlen
  clear hr hlen
  go_enter Try.func22, Try.ntmps22
  go_wp2_with fail
  obtain ⟨w0, hw0⟩ : ∃ w0, (((w.alloc (.cells #[.int .u64 (key.toNat : Int)] 31)).alloc (.cells #[.int .i64 (n : Int)] 3)).alloc (.cells #[.int .i64 (k : Int)] 3)).alloc (.cells #[.slice none 0 0] 25) = w0 := ⟨_, rfl⟩
  have h1 : w0.cell? ⟨w.heap.size + 1, 0, none⟩ = some (.int .i64 (n : Int)) := by rw [← hw0]; simp [go_sem]
  have h2 : w0.cell? ⟨w.heap.size + 1 + 1 + 1, 0, none⟩ = some (.slice none 0 0) := by rw [← hw0]; simp [go_sem]
  have h3 : w0.frozen? ⟨w.heap.size + 1 + 1 + 1, 0, none⟩ = false := by rw [← hw0]; simp [go_sem]
  have h4 : w0.heap.size = w.heap.size + 4 := by rw [← hw0]; simp
  have h5 : Below w.heap.size w w0 := by rw [← hw0]; exact ((((Below.refl _ _).alloc (Nat.le_refl _) _).alloc (by simp) _).alloc (by simp; omega) _).alloc (by simp; omega) _
  have h8 : w0.cell? ⟨w.heap.size + 1 + 1, 0, none⟩ = some (.int .i64 (k : Int)) := by rw [← hw0]; simp [go_sem]
  rw [hw0]
  clear hw0
  have h6 : w.heap.size + 4 ≤ w0.heap.size := by omega
  have h7 := Lib.hid h4
  clear h4
  refine (draw_any key i hi 44 #[.pointer (some ⟨w.heap.size + 1, 0, none⟩), .pointer (some ⟨w.heap.size + 1 + 1, 0, none⟩), .pointer (some ⟨w.heap.size + 1 + 1 + 1, 0, none⟩)] w0
    (fun s w' => ∃ v, s = r.2 ∧ w'.cell? ⟨w.heap.size + 1 + 1 + 1, 0, none⟩ = some v ∧ OwnI (w.heap.size + 4) w' v r.1 ∧ Below w.heap.size w w')
    (fun s w' k ⟨v, a, b, o, c⟩ => ⟨v, a, by simpa using b, o.below (below_drewN (Below.refl _ _) k), below_drewN c k⟩) (fun xs w => by rfl)
    (fun c w1 hb hc hsrc => (choose1_any c key n k hn hk i hi (w.heap.size + 1) (w.heap.size + 1 + 1) (w.heap.size + 1 + 1 + 1) w1
        ⟨hsrc, by have := hb.size; omega, (hb.cell (p := ⟨w.heap.size + 1 + 1 + 1, 0, none⟩) (by simp; omega)).trans h2, (hb.frozen (p := ⟨w.heap.size + 1 + 1 + 1, 0, none⟩) (by simp; omega)).trans h3⟩
        ((hb.cell (p := ⟨w.heap.size + 1, 0, none⟩) (by simp; omega)).trans h1) ((hb.cell (p := ⟨w.heap.size + 1 + 1, 0, none⟩) (by simp; omega)).trans h8) (by omega) (by omega) (by have := hb.size; omega) (by omega)).mono
      fun e w2 ⟨he, v, g1, g2, g3⟩ => by
        rw [HR.out] at g1 g2
        have hs := chooseGo_two key k (n - k) [] (i, 0) (Or.inl rfl)
        have ha := (chooseGo_at key k (n - k) [] (i, 0) hi).2
        have e1 : chooseGo key k (n - k) [] (i, 0) = r := HR.out
        rw [e1] at hs ha
        exact ⟨he, r.2, hs, ha, g1.src, v, rfl, g1.cell, g2.mono (by have := hb.size; omega), (h5.trans (hb.mono h5.size)).trans (g3.below (by have := hb.size; omega) (by rintro k (rfl | rfl) <;> omega))⟩)).mono ?_
  rintro e w2 ⟨s, hs, _, rfl, v, rfl, g1, g2, g3⟩
  clear h1 h2 h3 h5 h6 h7 h8
  have HG := Lib.hid g2
  have HB := Lib.hid g3
  clear g2 g3 HR
  obtain ⟨l, at', er⟩ := r
  rcases hs with hs | hs
  · replace hs : er = 0 := hs
    subst hs
    unfold drawV
    go_wp2_with fail
    have hbl : w.heap.size + 1 + 1 + 1 < w2.heap.size := World.block_lt_of_cell? w2 _ g1
    refine (sort_any (w.heap.size + 4) v l _ HG.out (by rw [HLE.out]; omega)).mono ?_
    rintro e w3 ⟨rfl, ho3, hf3⟩
    have g4 := (hf3.cell (p := ⟨w.heap.size + 1 + 1 + 1, 0, none⟩) hbl (by simp)).trans g1
    have HO := Lib.hid (ho3.mono (B' := w.heap.size) (by omega))
    have HB3 := Lib.hid (HB.out.trans (hf3.below (n := w.heap.size) (by omega) (by intro k hk; omega)))
    clear ho3 hf3 g1 hbl
    go_wp2_with fail
    go_ret3
    exact ⟨⟨v, rfl, fun _ => HO.out⟩, Or.inl rfl, HB3.out⟩
  · replace hs : er = 4 := hs
    subst hs
    unfold drawV
    go_wp2_with fail
    go_ret3
    exact ⟨⟨v, rfl, fun h => by cases h⟩, Or.inr rfl, HB.out⟩
theorem Choose_no (key : Wd) (i n k : Int) (h : n < 0 ∨ 1000 < n ∨ k < 0 ∨ n < k ∨ i < 0 ∨ 1099511627776 < i) (w : World) :
    Calls Try.prog 22 #[.agg #[.int .u64 (key.toNat : Int)], .int .i64 i, .int .i64 n, .int .i64 k] w fun e w' => e = .returned (.tuple #[.slice none 0 0, .int .i64 0, .int .i64 2]) ∧ Below w.heap.size w w' := by
  by_cases h0 : n < 0
  · go_enter Try.func22, Try.ntmps22
    go_wp2_with fail
    obtain ⟨w0, hw0⟩ : ∃ w0, (((w.alloc (.cells #[.int .u64 (key.toNat : Int)] 31)).alloc (.cells #[.int .i64 n] 3)).alloc (.cells #[.int .i64 k] 3)).alloc (.cells #[.slice none 0 0] 25) = w0 := ⟨_, rfl⟩
    have h5 : Below w.heap.size w w0 := by rw [← hw0]; exact ((((Below.refl _ _).alloc (Nat.le_refl _) _).alloc (by simp) _).alloc (by simp; omega) _).alloc (by simp; omega) _
    rw [hw0]
    clear hw0
    refine (draw_no key i _ _ w0 (Or.inl (by simp; try omega))).mono ?_
    rintro e w2 ⟨rfl, hb⟩
    have hb2 := Lib.hid (h5.trans (hb.mono h5.size))
    clear hb h5
    go_wp2_with fail
    go_ret3
    exact ⟨rfl, hb2.out⟩
  by_cases h1 : 1000 < n
  · go_enter Try.func22, Try.ntmps22
    go_wp2_with fail
    obtain ⟨w0, hw0⟩ : ∃ w0, (((w.alloc (.cells #[.int .u64 (key.toNat : Int)] 31)).alloc (.cells #[.int .i64 n] 3)).alloc (.cells #[.int .i64 k] 3)).alloc (.cells #[.slice none 0 0] 25) = w0 := ⟨_, rfl⟩
    have h5 : Below w.heap.size w w0 := by rw [← hw0]; exact ((((Below.refl _ _).alloc (Nat.le_refl _) _).alloc (by simp) _).alloc (by simp; omega) _).alloc (by simp; omega) _
    rw [hw0]
    clear hw0
    refine (draw_no key i _ _ w0 (Or.inl (by simp; try omega))).mono ?_
    rintro e w2 ⟨rfl, hb⟩
    have hb2 := Lib.hid (h5.trans (hb.mono h5.size))
    clear hb h5
    go_wp2_with fail
    go_ret3
    exact ⟨rfl, hb2.out⟩
  by_cases h2 : k < 0
  · go_enter Try.func22, Try.ntmps22
    go_wp2_with fail
    obtain ⟨w0, hw0⟩ : ∃ w0, (((w.alloc (.cells #[.int .u64 (key.toNat : Int)] 31)).alloc (.cells #[.int .i64 n] 3)).alloc (.cells #[.int .i64 k] 3)).alloc (.cells #[.slice none 0 0] 25) = w0 := ⟨_, rfl⟩
    have h5 : Below w.heap.size w w0 := by rw [← hw0]; exact ((((Below.refl _ _).alloc (Nat.le_refl _) _).alloc (by simp) _).alloc (by simp; omega) _).alloc (by simp; omega) _
    rw [hw0]
    clear hw0
    refine (draw_no key i _ _ w0 (Or.inl (by simp; try omega))).mono ?_
    rintro e w2 ⟨rfl, hb⟩
    have hb2 := Lib.hid (h5.trans (hb.mono h5.size))
    clear hb h5
    go_wp2_with fail
    go_ret3
    exact ⟨rfl, hb2.out⟩
  by_cases h3 : n < k
  · go_enter Try.func22, Try.ntmps22
    go_wp2_with fail
    obtain ⟨w0, hw0⟩ : ∃ w0, (((w.alloc (.cells #[.int .u64 (key.toNat : Int)] 31)).alloc (.cells #[.int .i64 n] 3)).alloc (.cells #[.int .i64 k] 3)).alloc (.cells #[.slice none 0 0] 25) = w0 := ⟨_, rfl⟩
    have h5 : Below w.heap.size w w0 := by rw [← hw0]; exact ((((Below.refl _ _).alloc (Nat.le_refl _) _).alloc (by simp) _).alloc (by simp; omega) _).alloc (by simp; omega) _
    rw [hw0]
    clear hw0
    refine (draw_no key i _ _ w0 (Or.inl (by simp; try omega))).mono ?_
    rintro e w2 ⟨rfl, hb⟩
    have hb2 := Lib.hid (h5.trans (hb.mono h5.size))
    clear hb h5
    go_wp2_with fail
    go_ret3
    exact ⟨rfl, hb2.out⟩
  have h4 : i < 0 ∨ 1099511627776 < i := by omega
  clear h
  go_enter Try.func22, Try.ntmps22
  go_wp2_with fail
  obtain ⟨w0, hw0⟩ : ∃ w0, (((w.alloc (.cells #[.int .u64 (key.toNat : Int)] 31)).alloc (.cells #[.int .i64 n] 3)).alloc (.cells #[.int .i64 k] 3)).alloc (.cells #[.slice none 0 0] 25) = w0 := ⟨_, rfl⟩
  have h5 : Below w.heap.size w w0 := by rw [← hw0]; exact ((((Below.refl _ _).alloc (Nat.le_refl _) _).alloc (by simp) _).alloc (by simp; omega) _).alloc (by simp; omega) _
  rw [hw0]
  clear hw0
  refine (draw_no key i _ _ w0 (Or.inr h4)).mono ?_
  rintro e w2 ⟨rfl, hb⟩
  have hb2 := Lib.hid (h5.trans (hb.mono h5.size))
  clear hb h5
  go_wp2_with fail
  go_ret3
  exact ⟨rfl, hb2.out⟩
end Go.Proofs.Ytodaembemcljnaa
