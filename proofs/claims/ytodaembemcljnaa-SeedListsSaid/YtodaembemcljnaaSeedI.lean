import Derived.Test.YtodaembemcljnaaSeedH
/-
  Perm: the call.
-/
namespace Go.Proofs.Ytodaembemcljnaa
open Go.RowKit
set_option linter.unusedVariables false

theorem OwnI.mono {B B' : Nat} {w : World} {v : Value} {l : List Nat} (h : OwnI B w v l) (hb : B' ≤ B) : OwnI B' w v l := by
  refine ⟨h.1, ?_⟩
  rcases h.2 with h2 | ⟨g, cap, cur, hv, hg, r⟩
  · exact Or.inl h2
  · exact Or.inr ⟨g, cap, cur, hv, Nat.le_trans hb hg, r⟩
/-- What Perm hands back. -/
def listV (s : Src) (v : Value) : Value := if s.2 = 0 then .tuple #[v, .int .i64 (s.1 : Int), .int .i64 0] else .tuple #[.slice none 0 0, .int .i64 0, .int .i64 (s.2 : Int)]
/-- A list from a draw: a slice that holds it, or none. -/
def ListMade (B : Nat) (r : List Nat × Src) (w : World) (e : Ending) (w' : World) : Prop := (∃ v, e = .returned (listV r.2 v) ∧ (r.2.2 = 0 → OwnI B w' v r.1)) ∧ (r.2.2 = 0 ∨ r.2.2 = 4) ∧ Below w.heap.size w w'
set_option maxRecDepth 100000 in
theorem Perm_any (key : Wd) (i n : Nat) (hi : i ≤ 1099511627776) (hn : n ≤ 1000) (w : World) :
    Calls Try.prog 19 #[.agg #[.int .u64 (key.toNat : Int)], .int .i64 (i : Int), .int .i64 (n : Int)] w (ListMade w.heap.size (permS key n i) w) := by
  obtain ⟨r, hr⟩ : ∃ r, permS key n i = r := ⟨_, rfl⟩
  have HR := Lib.hid hr
  rw [hr]
  clear hr
  go_enter Try.func19, Try.ntmps19
  go_wp2_with fail
  have hd : decide ((n : Int) ≤ 1000) = true := by simp; omega
  rw [hd]
  obtain ⟨w0, hw0⟩ : ∃ w0, ((w.alloc (.cells #[.int .u64 (key.toNat : Int)] 31)).alloc (.cells #[.int .i64 (n : Int)] 3)).alloc (.cells #[.slice none 0 0] 25) = w0 := ⟨_, rfl⟩
  have h1 : w0.cell? ⟨w.heap.size + 1, 0, none⟩ = some (.int .i64 (n : Int)) := by rw [← hw0]; simp [go_sem]
  have h2 : w0.cell? ⟨w.heap.size + 1 + 1, 0, none⟩ = some (.slice none 0 0) := by rw [← hw0]; simp [go_sem]
  have h3 : w0.frozen? ⟨w.heap.size + 1 + 1, 0, none⟩ = false := by rw [← hw0]; simp [go_sem]
  have h4 : w0.heap.size = w.heap.size + 3 := by rw [← hw0]; simp
  have h5 : Below w.heap.size w w0 := by rw [← hw0]; exact (((Below.refl _ _).alloc (Nat.le_refl _) _).alloc (by simp) _).alloc (by simp; omega) _
  rw [hw0]
  clear hw0 hd
  have h6 : w.heap.size + 3 ≤ w0.heap.size := by omega
  have h7 := Lib.hid h4
  clear h4
  refine (draw_any key i hi 40 #[.pointer (some ⟨w.heap.size + 1, 0, none⟩), .pointer (some ⟨w.heap.size + 1 + 1, 0, none⟩)] w0
    (fun s w' => ∃ v, s = r.2 ∧ w'.cell? ⟨w.heap.size + 1 + 1, 0, none⟩ = some v ∧ OwnI w.heap.size w' v r.1 ∧ Below w.heap.size w w')
    (fun s w' k ⟨v, a, b, o, c⟩ => ⟨v, a, by simpa using b, o.below (below_drewN (Below.refl _ _) k), below_drewN c k⟩) (fun xs w => by rfl)
    (fun c w1 hb hc hsrc => (perm1_any c key n hn i hi (w.heap.size + 1) (w.heap.size + 1 + 1) w1
        ⟨hsrc, by have := hb.size; omega, (hb.cell (p := ⟨w.heap.size + 1 + 1, 0, none⟩) (by simp; omega)).trans h2, (hb.frozen (p := ⟨w.heap.size + 1 + 1, 0, none⟩) (by simp; omega)).trans h3⟩
        ((hb.cell (p := ⟨w.heap.size + 1, 0, none⟩) (by simp; omega)).trans h1) (by omega) (by omega) (by have := hb.size; omega) (by omega)).mono
      fun e w2 ⟨he, v, g1, g2, g3⟩ => by
        rw [HR.out] at g1 g2
        have hs := permGo_two key (n - 1) (List.range n) (i, 0) (Or.inl rfl)
        have ha := (permGo_at key (n - 1) (List.range n) (i, 0) hi).2
        have e1 : permGo key (n - 1) (List.range n) (i, 0) = r := HR.out
        rw [e1] at hs ha
        exact ⟨he, r.2, hs, ha, g1.src, v, rfl, g1.cell, g2.mono (by have := hb.size; omega), (h5.trans (hb.mono h5.size)).trans (g3.below (by have := hb.size; omega) (by rintro k (rfl | rfl) <;> omega))⟩)).mono ?_
  rintro e w2 ⟨s, hs, _, rfl, v, rfl, g1, g2, g3⟩
  clear h1 h2 h3 h5 h6 h7
  have HG := Lib.hid g2
  have HB := Lib.hid g3
  clear g2 g3 HR
  obtain ⟨l, at', er⟩ := r
  rcases hs with hs | hs
  · replace hs : er = 0 := hs
    subst hs
    unfold drawV
    go_wp2_with fail
    go_ret3
    exact ⟨⟨v, rfl, fun _ => HG.out⟩, Or.inl rfl, HB.out⟩
  · replace hs : er = 4 := hs
    subst hs
    unfold drawV
    go_wp2_with fail
    go_ret3
    exact ⟨⟨v, rfl, fun h => by cases h⟩, Or.inr rfl, HB.out⟩
theorem Perm_no (key : Wd) (i n : Int) (h : n < 0 ∨ 1000 < n ∨ i < 0 ∨ 1099511627776 < i) (w : World) :
    Calls Try.prog 19 #[.agg #[.int .u64 (key.toNat : Int)], .int .i64 i, .int .i64 n] w fun e w' => e = .returned (.tuple #[.slice none 0 0, .int .i64 0, .int .i64 2]) ∧ Below w.heap.size w w' := by
  by_cases h0 : n < 0
  · go_enter Try.func19, Try.ntmps19
    go_wp2_with fail
    obtain ⟨w0, hw0⟩ : ∃ w0, ((w.alloc (.cells #[.int .u64 (key.toNat : Int)] 31)).alloc (.cells #[.int .i64 n] 3)).alloc (.cells #[.slice none 0 0] 25) = w0 := ⟨_, rfl⟩
    have h5 : Below w.heap.size w w0 := by rw [← hw0]; exact (((Below.refl _ _).alloc (Nat.le_refl _) _).alloc (by simp) _).alloc (by simp; omega) _
    rw [hw0]
    clear hw0
    refine (draw_no key i _ _ w0 (Or.inl rfl)).mono ?_
    rintro e w2 ⟨rfl, hb⟩
    have hb2 := Lib.hid (h5.trans (hb.mono h5.size))
    clear hb h5
    go_wp2_with fail
    go_ret3
    exact ⟨rfl, hb2.out⟩
  · by_cases h1 : 1000 < n
    · go_enter Try.func19, Try.ntmps19
      go_wp2_with fail
      obtain ⟨w0, hw0⟩ : ∃ w0, ((w.alloc (.cells #[.int .u64 (key.toNat : Int)] 31)).alloc (.cells #[.int .i64 n] 3)).alloc (.cells #[.slice none 0 0] 25) = w0 := ⟨_, rfl⟩
      have h5 : Below w.heap.size w w0 := by rw [← hw0]; exact (((Below.refl _ _).alloc (Nat.le_refl _) _).alloc (by simp) _).alloc (by simp; omega) _
      rw [hw0]
      clear hw0
      refine (draw_no key i _ _ w0 (Or.inl (by simp; omega))).mono ?_
      rintro e w2 ⟨rfl, hb⟩
      have hb2 := Lib.hid (h5.trans (hb.mono h5.size))
      clear hb h5
      go_wp2_with fail
      go_ret3
      exact ⟨rfl, hb2.out⟩
    · have h2 : i < 0 ∨ 1099511627776 < i := by omega
      clear h
      go_enter Try.func19, Try.ntmps19
      go_wp2_with fail
      obtain ⟨w0, hw0⟩ : ∃ w0, ((w.alloc (.cells #[.int .u64 (key.toNat : Int)] 31)).alloc (.cells #[.int .i64 n] 3)).alloc (.cells #[.slice none 0 0] 25) = w0 := ⟨_, rfl⟩
      have h5 : Below w.heap.size w w0 := by rw [← hw0]; exact (((Below.refl _ _).alloc (Nat.le_refl _) _).alloc (by simp) _).alloc (by simp; omega) _
      rw [hw0]
      clear hw0
      refine (draw_no key i _ _ w0 (Or.inr h2)).mono ?_
      rintro e w2 ⟨rfl, hb⟩
      have hb2 := Lib.hid (h5.trans (hb.mono h5.size))
      clear hb h5
      go_wp2_with fail
      go_ret3
      exact ⟨rfl, hb2.out⟩
end Go.Proofs.Ytodaembemcljnaa
