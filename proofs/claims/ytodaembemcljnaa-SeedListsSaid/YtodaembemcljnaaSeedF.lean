import Derived.Test.YtodaembemcljnaaSeedE
/-
  draw: a function draws from a source.
-/
namespace Go.Proofs.Ytodaembemcljnaa
open Go.RowKit
set_option linter.unusedVariables false

theorem below_any (c : Nat) (key : Wd) (n : Nat) (s : Src) (w : World) (hn : 1 ≤ n) (hm : n ≤ 9223372036854775807) (hs : s.2 = 0 ∨ s.2 = 4) (ha : s.1 ≤ 1099511627776) (h : SrcAt c key s w) :
    Calls Try.prog 58 #[.pointer (some ⟨c, 0, none⟩), .int .i64 (n : Int)] w (Drew c key n s w) := by
  rcases hs with hs | hs
  · exact below_ok c key n s w hn hm hs ha h
  · exact below_err c key n s w hs h

/-- What draw hands back. -/
def drawV (s : Src) : Value := .tuple #[.int .i64 ((if s.2 = 0 then s.1 else 0 : Nat) : Int), .int .i64 (s.2 : Int)]
theorem draw_no (key : Wd) (i : Int) (r : Bool) (v : Value) (w : World) (hi : r = false ∨ i < 0 ∨ 1099511627776 < i) :
    Calls Try.prog 37 #[.agg #[.int .u64 (key.toNat : Int)], .int .i64 i, .bool r, v] w fun e w' => e = .returned (.tuple #[.int .i64 0, .int .i64 2]) ∧ Below w.heap.size w w' := by
  cases r
  · clear hi
    go_enter Try.func37, Try.ntmps37
    go_wp2_with fail
    go_ret2
    exact ⟨rfl, (Below.refl _ _).alloc (Nat.le_refl _) _⟩
  · have hi' : i < 0 ∨ 1099511627776 < i := by rcases hi with h | h; cases h; exact h
    clear hi
    rcases hi' with hi | hi
    · go_enter Try.func37, Try.ntmps37
      go_wp2_with fail
      go_ret2
      exact ⟨rfl, (Below.refl _ _).alloc (Nat.le_refl _) _⟩
    · have h0 : ¬ i < 0 := by omega
      go_enter Try.func37, Try.ntmps37
      go_wp2_with fail
      go_ret2
      exact ⟨rfl, (Below.refl _ _).alloc (Nat.le_refl _) _⟩
set_option maxRecDepth 100000 in
theorem draw_any (key : Wd) (i : Nat) (hi : i ≤ 1099511627776) (k : Nat) (caps : Array Value) (w : World) (Post : Src → World → Prop) (hN : ∀ s w n, Post s w → Post s (w.drewN n))
    (hE : ∀ (xs : Array Value) (w : World), Sem.run Try.prog (callFunc k xs) w = .ok (.enter k xs) w)
    (hF : ∀ c w1, Below w.heap.size w w1 → w.heap.size ≤ c → SrcAt c key (i, 0) w1 → Calls Try.prog k (#[.func (.func 58) #[.pointer (some ⟨c, 0, none⟩)] #[]] ++ caps) w1 fun e w2 => e = .returned (.tuple #[]) ∧ ∃ s : Src, (s.2 = 0 ∨ s.2 = 4) ∧ s.1 ≤ 1099511627776 ∧ SrcAt c key s w2 ∧ Post s w2) :
    Calls Try.prog 37 #[.agg #[.int .u64 (key.toNat : Int)], .int .i64 (i : Int), .bool true, .func (.func k) #[] caps] w fun e w' => ∃ s : Src, (s.2 = 0 ∨ s.2 = 4) ∧ s.1 ≤ 1099511627776 ∧ e = .returned (drawV s) ∧ Post s w' := by
  have HE := hE
  have HF := Lib.hid hF
  have HN := Lib.hid hN
  clear hF hN
  go_enter Try.func37, Try.ntmps37
  go_wp2_with fail
  have hb1 : Below w.heap.size w ((w.alloc (.cells #[.int .u64 (key.toNat : Int)] 31)).alloc (.cells #[.int .u64 (key.toNat : Int), .int .i64 (i : Int), .int .i64 0] 84)) := ((Below.refl _ _).alloc (Nat.le_refl _) _).alloc (by simp) _
  refine (HF.out (w.heap.size + 1) _ hb1 (by omega) ⟨by simp, by simp [go_sem], by simp [go_sem], by simp [go_sem], by simp [go_sem], by simp [go_sem]⟩).mono ?_
  rintro e w2 ⟨rfl, s, hs, hat, hsrc, hp⟩
  obtain ⟨h1, h2, h3, h4, h5, h6⟩ := hsrc
  clear hE HE hb1
  obtain ⟨at', er⟩ := s
  have HP := Lib.hid hp
  clear hp
  rcases hs with hs | hs
  · replace hs : er = 0 := hs
    subst hs
    go_wp2_with fail
    go_ret2
    exact ⟨_, Or.inl rfl, hat, rfl, HP.out⟩
  · replace hs : er = 4 := hs
    subst hs
    go_wp2_with fail
    go_quiet (fail)
    go_wp2_with fail
    go_ret2
    exact ⟨_, Or.inr rfl, hat, rfl, HN.out _ _ _ HP.out⟩

/-- Below's closure. -/
theorem below1_any (c : Nat) (key : Wd) (n : Nat) (hn : 1 ≤ n) (hm : n ≤ 9223372036854775807) (s : Src) (hs : s.2 = 0 ∨ s.2 = 4) (ha : s.1 ≤ 1099511627776) (a b : Nat) (w : World) (h : SrcAt c key s w)
    (hna : w.cell? ⟨a, 0, none⟩ = some (.int .i64 (n : Int))) (hb : b < w.heap.size) (hbc : b ≠ c) (hfb : w.frozen? ⟨b, 0, none⟩ = false) (hcb : ∃ v, w.cell? ⟨b, 0, none⟩ = some v) :
    Calls Try.prog 38 #[.func (.func 58) #[.pointer (some ⟨c, 0, none⟩)] #[], .pointer (some ⟨a, 0, none⟩), .pointer (some ⟨b, 0, none⟩)] w fun e w2 =>
      e = .returned (.tuple #[]) ∧ SrcAt c key (belS key n s).2 w2 ∧ w2.cell? ⟨b, 0, none⟩ = some (.int .i64 ((belS key n s).1 : Int)) ∧ Off (fun k => k = b ∨ k = c) w w2 := by
  obtain ⟨v0, hcb⟩ := hcb
  go_enter Try.func38, Try.ntmps38
  go_wp2_with fail
  refine (below_any c key n s w hn hm hs ha h).mono ?_
  rintro e w1 ⟨rfl, hsrc, hoff⟩
  have hc1 := (hoff.cell (p := ⟨b, 0, none⟩) hb hbc).trans hcb
  have hf1 := (hoff.frozen (p := ⟨b, 0, none⟩) hb hbc).trans hfb
  have hb1 : b < w1.heap.size := Nat.lt_of_lt_of_le hb hoff.size
  have HO := Lib.hid hoff
  have HS := Lib.hid hsrc
  clear h hna hcb hoff hsrc
  go_wp2_with fail
  refine bodyPost_end (results_none rfl _ _ _) rfl ?_
  refine ⟨rfl, HS.out.off (S := fun k => k = b) (Off.setCell (p := ⟨b, 0, none⟩) (Off.refl (fun k => k = b) _) (Or.inl rfl) _) (fun h => hbc h.symm), by simp [go_sem, hc1], ?_⟩
  exact Off.setCell (S := fun k => k = b ∨ k = c) (p := ⟨b, 0, none⟩) (HO.out.wider (fun k _ h => Or.inr h)) (Or.inl (Or.inl rfl)) _

theorem belS_some {key : Wd} {n i v j : Nat} (h : bel key n (1099511627776 - i) i = some (v, j)) : belS key n (i, 0) = (v, (j, 0)) := by
  unfold belS; rw [if_pos rfl, h]
theorem belS_none {key : Wd} {n i : Nat} (h : bel key n (1099511627776 - i) i = none) : belS key n (i, 0) = (0, (1099511627776, 4)) := by
  unfold belS; rw [if_pos rfl, h]
/-- What Below hands back. -/
def belV (o : Option (Nat × Nat)) : Value := match o with | some (v, j) => .tuple #[.int .i64 (v : Int), .int .i64 (j : Int), .int .i64 0] | none => .tuple #[.int .i64 0, .int .i64 0, .int .i64 4]
/-- Below. -/
theorem Below_any (key : Wd) (i n : Nat) (hi : i ≤ 1099511627776) (hn : 1 ≤ n) (hm : n ≤ 9223372036854775807) (w : World) :
    Calls Try.prog 17 #[.agg #[.int .u64 (key.toNat : Int)], .int .i64 (i : Int), .int .i64 (n : Int)] w fun e w' => e = .returned (belV (bel key n (1099511627776 - i) i)) ∧ Below w.heap.size w w' := by
  obtain ⟨B, hB⟩ : ∃ B, bel key n (1099511627776 - i) i = B := ⟨_, rfl⟩
  have HB := Lib.hid hB
  rw [hB]
  clear hB
  go_enter Try.func17, Try.ntmps17
  go_wp2_with fail
  have hd : decide (1 ≤ (n : Int)) = true := by simp; omega
  rw [hd]
  obtain ⟨w0, hw0⟩ : ∃ w0, ((w.alloc (.cells #[.int .u64 (key.toNat : Int)] 31)).alloc (.cells #[.int .i64 (n : Int)] 3)).alloc (.cells #[.int .i64 0] 3) = w0 := ⟨_, rfl⟩
  have h1 : w0.cell? ⟨w.heap.size + 1, 0, none⟩ = some (.int .i64 (n : Int)) := by rw [← hw0]; simp [go_sem]
  have h2 : w0.cell? ⟨w.heap.size + 1 + 1, 0, none⟩ = some (.int .i64 0) := by rw [← hw0]; simp [go_sem]
  have h3 : w0.frozen? ⟨w.heap.size + 1 + 1, 0, none⟩ = false := by rw [← hw0]; simp [go_sem]
  have h4 : w0.heap.size = w.heap.size + 3 := by rw [← hw0]; simp
  have h5 : Below w.heap.size w w0 := by rw [← hw0]; exact (((Below.refl _ _).alloc (Nat.le_refl _) _).alloc (by simp) _).alloc (by simp; omega) _
  rw [hw0]
  clear hw0 hd
  have h6 : w.heap.size + 3 ≤ w0.heap.size := by omega
  have h7 := h4
  clear h4
  refine (draw_any key i hi 38 #[.pointer (some ⟨w.heap.size + 1, 0, none⟩), .pointer (some ⟨w.heap.size + 1 + 1, 0, none⟩)] w0
    (fun s w' => s = (belS key n (i, 0)).2 ∧ w'.cell? ⟨w.heap.size + 1 + 1, 0, none⟩ = some (.int .i64 ((belS key n (i, 0)).1 : Int)) ∧ Below w.heap.size w w')
    (fun s w' k ⟨a, b, c⟩ => ⟨a, by simpa using b, below_drewN c k⟩) (fun xs w => by rfl)
    (fun c w1 hb hc hsrc => (below1_any c key n hn hm (i, 0) (Or.inl rfl) hi (w.heap.size + 1) (w.heap.size + 1 + 1) w1 hsrc ((hb.cell (p := ⟨w.heap.size + 1, 0, none⟩) (by simp; omega)).trans h1)
      (by have := hb.size; omega) (by omega) ((hb.frozen (p := ⟨w.heap.size + 1 + 1, 0, none⟩) (by simp; omega)).trans h3) ⟨_, (hb.cell (p := ⟨w.heap.size + 1 + 1, 0, none⟩) (by simp; omega)).trans h2⟩).mono
      fun e w2 ⟨he, g1, g2, g3⟩ => ⟨he, _, belS_two _ (Or.inl rfl), (belS_at _ hi).2, g1, rfl, g2, (h5.trans (hb.mono h5.size)).trans (g3.below (by have := hb.size; omega) (by rintro k (rfl | rfl) <;> omega))⟩)).mono ?_
  rintro e w2 ⟨s, _, _, rfl, rfl, g1, g2⟩
  clear h1 h2 h3 h5 h6 h7
  have HG := Lib.hid g2
  clear g2
  rcases hBB : B with _ | ⟨v, j⟩
  · rw [belS_none (HB.out.trans hBB)] at g1 ⊢
    unfold drawV
    have HBB := Lib.hid hBB
    clear hBB
    go_wp2_with fail
    go_ret3
    exact ⟨by rw [HBB.out]; rfl, HG.out⟩
  · rw [belS_some (HB.out.trans hBB)] at g1 ⊢
    unfold drawV
    have HBB := Lib.hid hBB
    clear hBB
    go_wp2_with fail
    go_ret3
    exact ⟨by rw [HBB.out]; rfl, HG.out⟩
theorem Below_no (key : Wd) (i n : Int) (h : n < 1 ∨ i < 0 ∨ 1099511627776 < i) (w : World) :
    Calls Try.prog 17 #[.agg #[.int .u64 (key.toNat : Int)], .int .i64 i, .int .i64 n] w fun e w' => e = .returned (.tuple #[.int .i64 0, .int .i64 0, .int .i64 2]) ∧ Below w.heap.size w w' := by
  have hd : decide (1 ≤ n) = false ∨ i < 0 ∨ 1099511627776 < i := by
    rcases h with h | h
    · exact Or.inl (by simp; omega)
    · exact Or.inr h
  clear h
  go_enter Try.func17, Try.ntmps17
  go_wp2_with fail
  obtain ⟨w0, hw0⟩ : ∃ w0, ((w.alloc (.cells #[.int .u64 (key.toNat : Int)] 31)).alloc (.cells #[.int .i64 n] 3)).alloc (.cells #[.int .i64 0] 3) = w0 := ⟨_, rfl⟩
  have h5 : Below w.heap.size w w0 := by rw [← hw0]; exact (((Below.refl _ _).alloc (Nat.le_refl _) _).alloc (by simp) _).alloc (by simp; omega) _
  rw [hw0]
  clear hw0
  refine (draw_no key i _ _ w0 hd).mono ?_
  rintro e w2 ⟨rfl, hb⟩
  have hb2 := h5.trans (hb.mono h5.size)
  clear hd
  go_wp2_with fail
  go_ret3
  exact ⟨rfl, hb2⟩
end Go.Proofs.Ytodaembemcljnaa
