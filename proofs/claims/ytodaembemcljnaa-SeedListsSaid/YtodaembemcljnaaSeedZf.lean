import Derived.Test.YtodaembemcljnaaSeedZe
/-
  SeedSmall's walk: the loops.
-/
namespace Go.Proofs.Ytodaembemcljnaa
open Go.RowKit
set_option linter.unusedVariables false

set_option maxRecDepth 100000 in
set_option maxHeartbeats 4000000 in
theorem small_yes (w : World) : Calls Try.prog 10 #[] w fun e w' => e = .returned (.bool true) ∧ Below w.heap.size w w' := by
  go_enter Try.func10, Try.ntmps10
  go_wp2_with fail
  go_loopw [1] (fun n wr => ∃ k : Nat, k ≤ 302 ∧ n = .int .i64 ((k : Int) - 1) ∧ Below w.heap.size w wr) (fun n _ => 302 - (intOf n + 1).toNat)
  case atStart => exact ⟨0, by omega, rfl, Below.refl _ _⟩
  case round =>
    obtain ⟨k, hk, rfl, hb⟩ := hrel
    by_cases hlt : k < 302
    · obtain ⟨n, hn⟩ : ∃ n : Int, (k : Int) - 1 = n := ⟨_, rfl⟩
      have hn1 : -1 ≤ n := by omega
      have hn2 : n ≤ 300 := by omega
      rw [hn]
      have HN := Lib.hid hn
      have HB := Lib.hid hb
      clear hn hb
      go_wp2_with fail
      go_loopw [2] (fun a wr2 => ∃ q : Nat, q ≤ 300 ∧ a = .int .u64 (q : Int) ∧ Below w.heap.size w wr2) (fun a _ => 300 - (intOf a).toNat)
      case atStart => exact ⟨0, by omega, rfl, HB.out⟩
      case round =>
        obtain ⟨q, hq, rfl, hb2⟩ := hrel
        by_cases hlq : q < 300
        · go_wp2_with fail
          refine (rests_any _ _ (by omega) (by omega) (by omega) _).mono ?_
          rintro e w2 ⟨rfl, rfl⟩
          go_wp2_with fail
          refine (rests_any _ _ (xor_bd _ _).1 (xor_bd _ _).2 (by omega) _).mono ?_
          rintro e w2 ⟨rfl, rfl⟩
          go_wp2_with fail
          go_roundw
          case rel => exact ⟨q + 1, by omega, by go_num, hb2⟩
          case measure => simp [intOf]; omega
        · go_wp2_with fail
          go_roundw
          case rel => exact ⟨k + 1, by omega, by have := HN.out; simp; omega, hb2⟩
          case measure => simp [intOf]; have := HN.out; omega
    · obtain rfl : k = 302 := by omega
      have HB := Lib.hid hb
      clear hb hk hlt
      rw [show (((302 : Nat) : Int) - 1) = 301 from rfl]
      go_wp2_with fail
      go_loopw [3] (fun a wr2 => ∃ q : Nat, q ≤ 64 ∧ a = .int .i64 (q : Int) ∧ Below w.heap.size w wr2) (fun a _ => 64 - (intOf a).toNat)
      case atStart => exact ⟨0, by omega, rfl, HB.out⟩
      case round =>
        obtain ⟨q, hq, rfl, hb2⟩ := hrel
        have HB2 := Lib.hid hb2
        clear hb2
        by_cases hlq : q < 64
        · have dq : decide ((q : Int) < 64) = true := by simp; omega
          go_wp2_with fail
          clear dq
          go_loopw [4] (fun a wr2 => ∃ (p : Nat) (d : Int), p ≤ 7 ∧ (p : Int) - 3 = d ∧ a = .int .i64 d ∧ Below w.heap.size w wr2) (fun a _ => 7 - (intOf a + 3).toNat)
          case atStart => exact ⟨0, -3, by omega, rfl, rfl, HB2.out⟩
          case round =>
            obtain ⟨p, d, hp, hpd, rfl, hb3⟩ := hrel
            have HB3 := Lib.hid hb3
            have HPD := Lib.hid hpd
            have hd1 : -3 ≤ d := by omega
            have hd2 : d ≤ 4 := by omega
            clear hb3 hpd
            by_cases hlp : p < 7
            · have hd3 : d ≤ 3 := by have := HPD.out; omega
              have hqb : q ≤ 64 := hq
              go_wp2_with fail
              obtain ⟨n5, hn5⟩ : ∃ n, wrap64 (IntKind.u64.wrap (IntKind.u64.wrap ((2 : Int) ^ q) + IntKind.u64.wrap d)) = n := ⟨_, rfl⟩
              have hn6 := w64_bd (IntKind.u64.wrap (IntKind.u64.wrap ((2 : Int) ^ q) + IntKind.u64.wrap d))
              rw [hn5] at hn6 ⊢
              obtain ⟨hn7, hn8⟩ := hn6
              obtain ⟨n4, hn4⟩ : ∃ n, IntKind.u64.wrap (IntKind.u64.wrap ((2 : Int) ^ q) + IntKind.u64.wrap d) = n := ⟨_, rfl⟩
              obtain ⟨n3, hn3⟩ : ∃ n, IntKind.u64.wrap ((2 : Int) ^ q) = n := ⟨_, rfl⟩
              obtain ⟨n2, hn2⟩ : ∃ n, IntKind.u64.wrap d = n := ⟨_, rfl⟩
              rw [hn4, hn3, hn2]
              clear hn5 hn4 hn3 hn2
              go_loopw [6] (fun a wr2 => ∃ z : Nat, z ≤ 4 ∧ a = .int .u64 (z : Int) ∧ Below w.heap.size w wr2) (fun a _ => 4 - (intOf a).toNat)
              case atStart => exact ⟨0, by omega, rfl, HB3.out⟩
              case round =>
                obtain ⟨z, hz, rfl, hb4⟩ := hrel
                by_cases hlz : z < 4
                · go_wp2_with fail
                  refine (rests_any _ _ (by omega) (by omega) hn8 _).mono ?_
                  rintro e w2 ⟨rfl, rfl⟩
                  go_wp2_with fail
                  refine (rests_any _ _ (xor_bd _ _).1 (xor_bd _ _).2 hn8 _).mono ?_
                  rintro e w2 ⟨rfl, rfl⟩
                  go_wp2_with fail
                  refine (rests_any _ _ (u64_bd _).1 (u64_bd _).2 hn8 _).mono ?_
                  rintro e w2 ⟨rfl, rfl⟩
                  go_wp2_with fail
                  refine (rests_any _ _ (u64_bd _).1 (u64_bd _).2 hn8 _).mono ?_
                  rintro e w2 ⟨rfl, rfl⟩
                  go_wp2_with fail
                  refine (names_int _ (u64_bd _).1 (u64_bd _).2 _ (by decide) _ _ _).mono ?_
                  rintro e w2 ⟨rfl, hb5⟩
                  replace hb5 := hb4.trans (hb5.mono hb4.size)
                  clear hb4
                  go_wp2_with fail
                  go_roundw
                  case rel => exact ⟨z + 1, by omega, by go_num, hb5⟩
                  case measure => simp [intOf]; omega
                · go_wp2_with fail
                  go_roundw
                  case rel => exact ⟨p + 1, d + 1, by omega, by have := HPD.out; omega, rfl, hb4⟩
                  case measure => simp [intOf]; have := HPD.out; omega
            · have hd3 : ¬ d ≤ 3 := by have := HPD.out; omega
              go_wp2_with fail
              go_roundw
              case rel => exact ⟨q + 1, by omega, by go_num, HB3.out⟩
              case measure => simp [intOf]; omega
        · obtain rfl : q = 64 := by omega
          clear hlq hq
          rw [show ((64 : Nat) : Int) = 64 from rfl]
          go_wp2_with fail
          go_loopw [7] (fun a wr2 => ∃ z : Nat, z ≤ 40 ∧ a = .int .u64 (z : Int) ∧ Below w.heap.size w wr2) (fun a _ => 40 - (intOf a).toNat)
          case atStart => exact ⟨0, by omega, rfl, HB2.out⟩
          case round =>
            obtain ⟨z, hz, rfl, hb4⟩ := hrel
            have HB4 := Lib.hid hb4
            clear hb4
            by_cases hlz : z < 40
            · have dz : decide ((z : Int) < 40) = true := by simp; omega
              go_wp2_with fail
              clear dz
              go_loopw [8] (fun a wr2 => ∃ (p : Nat) (d : Int), p ≤ 9 ∧ (p : Int) - 1 = d ∧ a = .int .i64 d ∧ Below w.heap.size w wr2) (fun a _ => 9 - (intOf a + 1).toNat)
              case atStart => exact ⟨0, -1, by omega, rfl, rfl, HB4.out⟩
              case round =>
                obtain ⟨p, d, hp, hpd, rfl, hb5⟩ := hrel
                have HB5 := Lib.hid hb5
                have HPD := Lib.hid hpd
                have hd1 : -1 ≤ d := by omega
                have hd2 : d ≤ 8 := by omega
                clear hb5 hpd
                by_cases hlp : p < 9
                · have hd3 : d ≤ 7 := by have := HPD.out; omega
                  have dd : decide (d ≤ 7) = true := by simp; omega
                  go_wp2_with fail
                  clear dd
                  go_loopw [9] (fun a wr2 => ∃ (r : Nat) (k : Int), r ≤ 12 ∧ (r : Int) - 1 = k ∧ k ≤ d + 2 ∧ a = .int .i64 k ∧ Below w.heap.size w wr2) (fun a _ => 12 - (intOf a + 1).toNat)
                  case atStart => exact ⟨0, -1, by omega, rfl, by omega, rfl, HB5.out⟩
                  case round =>
                    obtain ⟨r, k, hr, hrk, hkd, rfl, hb6⟩ := hrel
                    have HB6 := Lib.hid hb6
                    have HRK := Lib.hid hrk
                    have hk1 : -1 ≤ k := by omega
                    clear hb6 hrk
                    by_cases hkk : k ≤ d + 1
                    · go_wp2_with fail
                      obtain ⟨wl, hwl⟩ : ∃ wl, wr.alloc (.cells #[.int .i64 (-1), .int .i64 0, .int .i64 1, .int .i64 5, .int .i64 1099511627770, .int .i64 1099511627773, .int .i64 1099511627775, .int .i64 1099511627776, .int .i64 1099511627777] 3) = wl := ⟨_, rfl⟩
                      obtain ⟨Q, hQ⟩ : ∃ Q, wr.heap.size = Q := ⟨_, rfl⟩
                      have cq : ∀ j, j < 9 → ∃ y : Int, wl.cell? ⟨Q, j, none⟩ = some (.int .i64 y) := by
                        intro j hj
                        rw [← hwl, World.cell?_alloc_at _ _ _ _ hQ.symm]
                        have hj' : j = 0 ∨ j = 1 ∨ j = 2 ∨ j = 3 ∨ j = 4 ∨ j = 5 ∨ j = 6 ∨ j = 7 ∨ j = 8 := by omega
                        rcases hj' with rfl | rfl | rfl | rfl | rfl | rfl | rfl | rfl | rfl <;> exact ⟨_, rfl⟩
                      have hbl : Below w.heap.size w wl := by rw [← hwl]; exact HB6.out.alloc HB6.out.size _
                      have hQl : Q < wl.heap.size := by rw [← hwl, ← hQ]; simp
                      rw [hwl, hQ]
                      have HCQ := Lib.hid cq
                      have HBL := Lib.hid hbl
                      clear hwl hQ cq hbl
                      go_loopw [105] (fun a wr2 => ∃ y : Nat, y ≤ 9 ∧ a = .int .i64 (y : Int) ∧ Below wl.heap.size wl wr2) (fun a _ => 9 - (intOf a).toNat)
                      case atStart => exact ⟨0, by omega, rfl, Below.refl _ _⟩
                      case round =>
                        obtain ⟨y, hy, rfl, hb7⟩ := hrel
                        by_cases hly : y < 9
                        · obtain ⟨v, hv⟩ := HCQ.out y hly
                          have cv := (hb7.cell (p := ⟨Q, y, none⟩) hQl).trans hv
                          clear hv
                          go_wp2_with fail
                          refine (draws_int _ (by omega) (by omega) _ _ _ (by omega) _).mono ?_
                          rintro e w2 ⟨rfl, hb8⟩
                          replace hb8 := hb7.trans (hb8.mono hb7.size)
                          clear hb7 cv
                          go_wp2_with fail
                          go_roundw
                          case rel => exact ⟨y + 1, by omega, by go_num, hb8⟩
                          case measure => simp [intOf]; omega
                        · have hb8 := HBL.out.trans (hb7.mono HBL.out.size)
                          clear hb7
                          go_wp2_with fail
                          go_roundw
                          case rel => exact ⟨r + 1, k + 1, by have := HRK.out; omega, by have := HRK.out; omega, by omega, rfl, hb8⟩
                          case measure => simp [intOf]; have := HRK.out; omega
                    · go_wp2_with fail
                      go_roundw
                      case rel => exact ⟨p + 1, d + 1, by omega, by have := HPD.out; omega, rfl, HB6.out⟩
                      case measure => simp [intOf]; have := HPD.out; omega
                · have hd3 : ¬ d ≤ 7 := by have := HPD.out; omega
                  go_wp2_with fail
                  go_roundw
                  case rel => exact ⟨z + 1, by omega, by go_num, HB5.out⟩
                  case measure => simp [intOf]; omega
            · obtain rfl : z = 40 := by omega
              clear hlz hz
              rw [show ((40 : Nat) : Int) = 40 from rfl]
              go_wp2_with fail
              go_loopw [12, 116] (fun s a wr2 => ∃ (y : Nat) (b : ByteArray), y ≤ 35 ∧ a = .int .i64 (y : Int) ∧ s = .string b ∧ b.size ≤ y ∧ Below w.heap.size w wr2) (fun _ a _ => 35 - (intOf a).toNat)
              case atStart => exact ⟨0, ⟨#[]⟩, by omega, rfl, rfl, Nat.le_refl _, HB4.out⟩
              case round =>
                obtain ⟨y, b, hy, rfl, rfl, hbs, hb5⟩ := hrel
                by_cases hly : y < 35
                · have hbm : b.size ≤ maxLen := by unfold maxLen; omega
                  go_wp2_with fail
                  refine (names_int _ (by omega) (by omega) _ hbm _ _ _).mono ?_
                  rintro e w2 ⟨rfl, hb6⟩
                  replace hb6 := hb5.trans (hb6.mono hb5.size)
                  clear hb5
                  go_wp2_with fail
                  go_roundw
                  case rel => exact ⟨y + 1, _, by omega, by go_num, rfl, by rw [ByteArray.size_append]; show b.size + 1 ≤ y + 1; omega, hb6⟩
                  case measure => simp [intOf]; omega
                · go_wp2_with fail
                  refine (lists_yes _).mono ?_
                  rintro e w2 ⟨rfl, hb6⟩
                  replace hb6 := hb5.trans (hb6.mono hb5.size)
                  clear hb5
                  go_wp2_with fail
                  refine (awake_yes _).mono ?_
                  rintro e w3 ⟨rfl, hb7⟩
                  replace hb7 := hb6.trans (hb7.mono hb6.size)
                  go_wp2_with fail
                  go_ret
                  exact ⟨rfl, hb7⟩
end Go.Proofs.Ytodaembemcljnaa
