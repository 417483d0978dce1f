import Derived.Test.YtodaembemcljnaaSeedR
/-
  SeedWrong's walk.
-/
namespace Go.Proofs.Ytodaembemcljnaa
open Go.RowKit
set_option linter.unusedVariables false

theorem slice_1 (w : World) (a : Int) : SliceI (w.alloc (.cells #[.int .i64 a] 3)) (.slice (some ⟨w.heap.size, 0, none⟩) 1 1) [a] := by
  refine ⟨_, 1, rfl, by simp, by unfold maxLen; omega, fun _ => ⟨_, 0, rfl, by simp, fun j hj => ?_⟩⟩
  rw [Nat.zero_add, World.cell?_alloc_at _ _ _ _ rfl]
  have hj' : j = 0 := by simp at hj; omega
  subst hj'; rfl
theorem slice_2 (w : World) (a b : Int) : SliceI (w.alloc (.cells #[.int .i64 a, .int .i64 b] 3)) (.slice (some ⟨w.heap.size, 0, none⟩) 2 2) [a, b] := by
  refine ⟨_, 2, rfl, by simp, by unfold maxLen; omega, fun _ => ⟨_, 0, rfl, by simp, fun j hj => ?_⟩⟩
  rw [Nat.zero_add, World.cell?_alloc_at _ _ _ _ rfl]
  have hj' : j = 0 ∨ j = 1 := by simp at hj; omega
  rcases hj' with rfl | rfl <;> rfl

set_option maxRecDepth 100000 in
set_option maxHeartbeats 4000000 in
theorem wrong_walk (x : Wd) (n : Int) (s : ByteArray) (hn : -9223372036854775808 ≤ n ∧ n ≤ 9223372036854775807) (hs : s.size ≤ 1048576) (w : World) :
    Calls Try.prog 8 #[.int .u64 (x.toNat : Int), .int .i64 n, .string s] w fun e w' => e = .returned (.bool true) ∧ Below w.heap.size w w' := by
  obtain ⟨lo, elo⟩ : ∃ z, min n (-1) = z := ⟨_, rfl⟩
  obtain ⟨hi, ehi⟩ : ∃ z, max n 1099511627777 = z := ⟨_, rfl⟩
  obtain ⟨m3, e3⟩ : ∃ z, max n 1099511627776 = z := ⟨_, rfl⟩
  obtain ⟨m4, e4⟩ : ∃ z, min n 0 = z := ⟨_, rfl⟩
  obtain ⟨m5, e5⟩ : ∃ z, max n 1001 = z := ⟨_, rfl⟩
  obtain ⟨m6, e6⟩ : ∃ z, max n 6 = z := ⟨_, rfl⟩
  have hlo : lo < 0 := by omega
  have hhi : 1099511627776 < hi := by omega
  have h3 : 1099511627776 ≤ m3 := by omega
  have h4 : m4 < 1 := by omega
  have h5 : 1000 < m5 := by omega
  have h6 : 5 < m6 := by omega
  have E4 := Lib.hid e4
  have E5 := Lib.hid e5
  have E6 := Lib.hid e6
  go_enter Try.func8, Try.ntmps8
  go_wp2_with fail
  refine (awake_yes _).mono ?_
  rintro e w1 ⟨rfl, hb1⟩
  go_wp2_with fail
  obtain ⟨B, hB⟩ : ∃ B, w1.heap.size = B := ⟨_, rfl⟩
  obtain ⟨w2, hw2⟩ : ∃ w2, w1.alloc (.cells #[.int .u64 (x.toNat : Int)] 31) = w2 := ⟨_, rfl⟩
  have c2 : w2.cell? ⟨B, 0, none⟩ = some (.int .u64 (x.toNat : Int)) := by rw [← hw2, ← hB]; simp [go_sem]
  have l2 : B < w2.heap.size := by rw [← hw2, ← hB]; simp
  have hb2 : Below w.heap.size w w2 := by rw [← hw2]; exact hb1.alloc hb1.size _
  rw [hw2, hB]
  clear hw2 hB hb1
  refine (Word_no x lo (Or.inl hlo) _).mono ?_
  rintro e w3 ⟨rfl, hb3⟩
  have c3 := (hb3.cell (p := ⟨B, 0, none⟩) l2).trans c2
  have l3 : B < w3.heap.size := Nat.lt_of_lt_of_le l2 hb3.size
  replace hb3 := hb2.trans (hb3.mono hb2.size)
  clear c2 l2 hb2
  go_wp2_with fail
  refine (Word_no x m3 (Or.inr h3) _).mono ?_
  rintro e w4 ⟨rfl, hb4⟩
  have c4 := (hb4.cell (p := ⟨B, 0, none⟩) l3).trans c3
  have l4 : B < w4.heap.size := Nat.lt_of_lt_of_le l3 hb4.size
  replace hb4 := hb3.trans (hb4.mono hb3.size)
  clear c3 l3 hb3 e3
  go_wp2_with fail
  obtain ⟨G, hG⟩ : ∃ G, w4.heap.size = G := ⟨_, rfl⟩
  obtain ⟨w5, hw5⟩ : ∃ w5, w4.alloc (.cells #[.int .i64 lo, .int .i64 hi] 3) = w5 := ⟨_, rfl⟩
  have c5 : w5.cell? ⟨B, 0, none⟩ = some (.int .u64 (x.toNat : Int)) := by rw [← hw5, World.cell?_alloc_past _ _ _ l4]; exact c4
  have g0 : w5.cell? ⟨G, 0, none⟩ = some (.int .i64 lo) := by rw [← hw5, ← hG]; simp [go_sem]
  have g1 : w5.cell? ⟨G, 1, none⟩ = some (.int .i64 hi) := by rw [← hw5, ← hG]; simp [go_sem]
  have l5 : B < w5.heap.size := World.block_lt_of_cell? w5 _ c5
  have lg : G < w5.heap.size := World.block_lt_of_cell? w5 _ g0
  have hb5 : Below w.heap.size w w5 := by rw [← hw5]; exact hb4.alloc hb4.size _
  rw [hw5, hG]
  clear hw5 hG c4 l4 hb4
  have HB5 := Lib.hid hb5
  clear hb5
  go_loopw [97] (fun i wr => ∃ k : Nat, k ≤ 2 ∧ i = .int .i64 (k : Int) ∧ Below w5.heap.size w5 wr) (fun i _ => 2 - (intOf i).toNat)
  case atStart => exact ⟨0, by omega, rfl, Below.refl _ _⟩
  case round =>
    obtain ⟨k, hk, rfl, hb⟩ := hrel
    have c6 := (hb.cell (p := ⟨B, 0, none⟩) l5).trans c5
    by_cases hlt : k < 2
    · obtain ⟨t, ht, ct⟩ : ∃ t : Int, (t < 0 ∨ 1099511627776 < t) ∧ wr.cell? ⟨G, k, none⟩ = some (.int .i64 t) := by
        have hk2 : k = 0 ∨ k = 1 := by omega
        rcases hk2 with rfl | rfl
        · exact ⟨lo, Or.inl hlo, (hb.cell (p := ⟨G, 0, none⟩) lg).trans g0⟩
        · exact ⟨hi, Or.inr hhi, (hb.cell (p := ⟨G, 1, none⟩) lg).trans g1⟩
      have HT := Lib.hid ht
      clear g0 g1 c5 ht
      have lr : B < wr.heap.size := Nat.lt_of_lt_of_le l5 hb.size
      go_wp2_with fail
      refine (Below_no x t 5 (Or.inr HT.out) _).mono ?_
      rintro e w6 ⟨rfl, hb6⟩
      have c7 := (hb6.cell (p := ⟨B, 0, none⟩) lr).trans c6
      have l7 : B < w6.heap.size := Nat.lt_of_lt_of_le lr hb6.size
      replace hb6 := hb.trans (hb6.mono hb.size)
      clear c6 lr hb
      go_wp2_with fail
      refine (Perm_no x t 0 (Or.inr (Or.inr HT.out)) _).mono ?_
      rintro e w7 ⟨rfl, hb7⟩
      have c8 := (hb7.cell (p := ⟨B, 0, none⟩) l7).trans c7
      have l8 : B < w7.heap.size := Nat.lt_of_lt_of_le l7 hb7.size
      replace hb7 := hb6.trans (hb7.mono hb6.size)
      clear c7 l7 hb6
      go_wp2_with fail
      refine (Choose_no x t 0 0 (Or.inr (Or.inr (Or.inr (Or.inr HT.out)))) _).mono ?_
      rintro e w8 ⟨rfl, hb8⟩
      have c9 := (hb8.cell (p := ⟨B, 0, none⟩) l8).trans c8
      replace hb8 := hb7.trans (hb8.mono hb7.size)
      clear c8 l8 hb7
      go_wp2_with fail
      refine (Weigh_any x t [1] _ _ (slice_1 w8 1) (by simp) (by decide)).mono ?_
      rintro e w9 ⟨rfl, hb9⟩
      rw [if_neg (by have := HT.out; omega)]
      have hA := Below.alloc (Below.refl w8.heap.size w8) (Nat.le_refl _) (.cells #[.int .i64 1] 3)
      replace hb9 := hb8.trans ((hA.trans (hb9.mono hA.size)).mono hb8.size)
      clear hb8 hA c9
      go_wp2_with fail
      go_roundw
      case rel => exact ⟨k + 1, by omega, by go_num, hb9⟩
      case measure => simp [intOf]; omega
    · obtain rfl : k = 2 := by omega
      have lr : B < wr.heap.size := Nat.lt_of_lt_of_le l5 hb.size
      have hbr := HB5.out.trans (hb.mono HB5.out.size)
      clear c5 g0 g1 hb hlt
      go_wp2_with fail
      refine (Below_no x 0 m4 (Or.inl h4) _).mono ?_
      rintro e w6 ⟨rfl, hb6⟩
      have c7 := (hb6.cell (p := ⟨B, 0, none⟩) lr).trans c6
      have l7 : B < w6.heap.size := Nat.lt_of_lt_of_le lr hb6.size
      replace hb6 := hbr.trans (hb6.mono hbr.size)
      clear c6 lr hbr
      go_wp2_with fail
      refine (Perm_no x 0 lo (Or.inl hlo) _).mono ?_
      rintro e w7 ⟨rfl, hb7⟩
      have c8 := (hb7.cell (p := ⟨B, 0, none⟩) l7).trans c7
      have l8 : B < w7.heap.size := Nat.lt_of_lt_of_le l7 hb7.size
      replace hb7 := hb6.trans (hb7.mono hb6.size)
      clear c7 l7 hb6
      go_wp2_with fail
      refine (Perm_no x 0 m5 (Or.inr (Or.inl h5)) _).mono ?_
      rintro e w8 ⟨rfl, hb8⟩
      have c9 := (hb8.cell (p := ⟨B, 0, none⟩) l8).trans c8
      have l9 : B < w8.heap.size := Nat.lt_of_lt_of_le l8 hb8.size
      replace hb8 := hb7.trans (hb8.mono hb7.size)
      clear c8 l8 hb7
      go_wp2_with fail
      refine (Choose_no x 0 5 lo (Or.inr (Or.inr (Or.inl hlo))) _).mono ?_
      rintro e w9 ⟨rfl, hb9⟩
      have ca := (hb9.cell (p := ⟨B, 0, none⟩) l9).trans c9
      have la : B < w9.heap.size := Nat.lt_of_lt_of_le l9 hb9.size
      replace hb9 := hb8.trans (hb9.mono hb8.size)
      clear c9 l9 hb8
      go_wp2_with fail
      refine (Choose_no x 0 5 m6 (Or.inr (Or.inr (Or.inr (Or.inl h6)))) _).mono ?_
      rintro e wa ⟨rfl, hba⟩
      have cb := (hba.cell (p := ⟨B, 0, none⟩) la).trans ca
      have lb : B < wa.heap.size := Nat.lt_of_lt_of_le la hba.size
      replace hba := hb9.trans (hba.mono hb9.size)
      clear ca la hb9
      go_wp2_with fail
      refine (Weigh_wrong x 0 [3, lo] _ _ (slice_2 wa 3 lo) (by simp) (by simp [wrongW, hlo])).mono ?_
      rintro e wb ⟨rfl, hbb⟩
      have hA := Below.alloc (Below.refl wa.heap.size wa) (Nat.le_refl _) (.cells #[.int .i64 3, .int .i64 lo] 3)
      replace hbb := hA.trans (hbb.mono hA.size)
      have cc := (hbb.cell (p := ⟨B, 0, none⟩) lb).trans cb
      have lc : B < wb.heap.size := Nat.lt_of_lt_of_le lb hbb.size
      replace hbb := hba.trans (hbb.mono hba.size)
      clear cb lb hba hA
      go_wp2_with fail
      refine (Weigh_any x 0 [0, 0] _ _ (slice_2 wb 0 0) (by simp) (by decide)).mono ?_
      rintro e wc ⟨rfl, hbc⟩
      rw [if_neg (by intro h; exact absurd h.1 (by decide))]
      have hA := Below.alloc (Below.refl wb.heap.size wb) (Nat.le_refl _) (.cells #[.int .i64 0, .int .i64 0] 3)
      replace hbc := hA.trans (hbc.mono hA.size)
      have cd := (hbc.cell (p := ⟨B, 0, none⟩) lc).trans cc
      have ld : B < wc.heap.size := Nat.lt_of_lt_of_le lc hbc.size
      replace hbc := hbb.trans (hbc.mono hbb.size)
      clear cc lc hbb hA
      go_wp2_with fail
      refine (Weigh_wrong x 0 [hi] _ _ (slice_1 wc hi) (by simp) (by simp [wrongW, hhi])).mono ?_
      rintro e wd ⟨rfl, hbd⟩
      have hA := Below.alloc (Below.refl wc.heap.size wc) (Nat.le_refl _) (.cells #[.int .i64 hi] 3)
      replace hbd := hA.trans (hbd.mono hA.size)
      have ce := (hbd.cell (p := ⟨B, 0, none⟩) ld).trans cd
      have le : B < wd.heap.size := Nat.lt_of_lt_of_le ld hbd.size
      replace hbd := hbc.trans (hbd.mono hbc.size)
      clear cd ld hbc hA elo ehi e4 e5 e6
      go_wp2_with fail
      refine (Sub_empty x ⟨#[]⟩ rfl _).mono ?_
      rintro e we ⟨rfl, hbe⟩
      have cf := (hbe.cell (p := ⟨B, 0, none⟩) le).trans ce
      have lf : B < we.heap.size := Nat.lt_of_lt_of_le le hbe.size
      replace hbe := hbd.trans (hbe.mono hbd.size)
      clear ce le hbd
      go_wp2_with fail
      obtain ⟨L, hL, hLs⟩ : ∃ L : ByteArray, L = ⟨#[97, 98, 99, 100, 101, 102, 103, 104, 105, 106, 107, 108, 109, 110, 111, 112, 113, 114, 115, 116, 117, 118, 119, 120, 121, 122, 48, 49, 50, 51, 52, 53, 54]⟩ ∧ L.size = 33 := ⟨_, rfl, rfl⟩
      rw [← hL]
      have hsz : (L ++ s).size = 33 + s.size := by rw [ByteArray.size_append, hLs]
      refine (Sub_long x (L ++ s) (by omega) (by unfold maxLen; omega) _).mono ?_
      rintro e wg ⟨rfl, hbg⟩
      clear hL hLs hsz
      have cx := (hbg.cell (p := ⟨we.heap.size, 0, none⟩) (by simp)).trans (show (we.alloc (.cells #[.int .u64 0] 31)).cell? ⟨we.heap.size, 0, none⟩ = some (.int .u64 0) by simp [go_sem])
      have lx : we.heap.size < wg.heap.size := World.block_lt_of_cell? wg _ cx
      have hbg2 := (hbe.alloc hbe.size (.cells #[.int .u64 0] 31)).trans (hbg.mono (by have := hbe.size; simp; omega))
      clear cf lf hbe hbg
      go_wp2_with fail
      obtain ⟨wh, hwh⟩ : ∃ wh, (wg.alloc (.cells #[.int .u64 0] 31)).alloc (.cells #[.int .i64 2, .int .i64 2, .int .i64 2, .int .i64 2, .int .i64 2, .int .i64 2, .int .i64 2, .int .i64 2, .int .i64 2] 33) = wh := ⟨_, rfl⟩
      have cxh : wh.cell? ⟨we.heap.size, 0, none⟩ = some (.int .u64 0) := by rw [← hwh, World.cell?_alloc_past _ _ _ (by simp; omega), World.cell?_alloc_past _ _ _ lx]; exact cx
      have cyh : wh.cell? ⟨wg.heap.size, 0, none⟩ = some (.int .u64 0) := by rw [← hwh]; simp [go_sem]
      have cqh : ∀ j, j < 9 → wh.cell? ⟨wg.heap.size + 1, j, none⟩ = some (.int .i64 2) := by
        intro j hj
        rw [← hwh, World.cell?_alloc_at _ _ _ _ (by simp)]
        have hj' : j = 0 ∨ j = 1 ∨ j = 2 ∨ j = 3 ∨ j = 4 ∨ j = 5 ∨ j = 6 ∨ j = 7 ∨ j = 8 := by omega
        rcases hj' with rfl | rfl | rfl | rfl | rfl | rfl | rfl | rfl | rfl <;> rfl
      have hbh : Below w.heap.size w wh := by rw [← hwh]; exact (hbg2.alloc hbg2.size _).alloc (by have := hbg2.size; simp; omega) _
      rw [hwh]
      have HCQ := Lib.hid cqh
      clear hwh cx lx hbg2 cqh
      go_loop [255] (fun i => ∃ k : Nat, k ≤ 9 ∧ i = .int .i64 (k : Int)) (fun i => 9 - (intOf i).toNat)
      case atStart => exact ⟨0, by omega, rfl⟩
      case round =>
        obtain ⟨k, hk, rfl⟩ := hrel
        by_cases hlt : k < 9
        · have cq := HCQ.out k hlt
          go_wp2_with fail
          go_round
          case rel => exact ⟨k + 1, by omega, by go_num⟩
          case measure => simp [intOf]; omega
        · obtain rfl : k = 9 := by omega
          go_wp2_with fail
          go_ret
          exact ⟨rfl, hbh⟩
theorem seedWrong_yes (a n : Int) (s : ByteArray) (ha : (Lit.int .u64 a).wf = true) (hn : (Lit.int .i64 n).wf = true) (hs : s.size ≤ 1048576) (w : World) :
    Calls Try.prog 8 #[.int .u64 a, .int .i64 n, .string s] w fun e w' => e = .returned (.bool true) ∧ Below w.heap.size w w' := by
  obtain ⟨x, rfl⟩ := wd_of a ha
  exact wrong_walk x n s (i64_of n hn) hs w
end Go.Proofs.Ytodaembemcljnaa
