import Derived.Test.YtijoechhhnagpaaLexN
import Derived.Test.YtijoechhhnagpaaLexQ
import Derived.Lib.SlicesS
namespace Go.Proofs.Ytijoechhhnagpaa
open Go.RowKit

theorem lexS_len2 {s : ByteArray} {ts : List Tok} {p : Nat} (hs : s.size ≤ 16384) (h : lexS s = (ts, p, 0)) : ts.length ≤ s.size + 1 := by
  have := lexL_length s (s.size + 1) 0
  rw [lexS_toks hs h] at this; exact this

theorem two_cells (w : World) (a b : Array Value) (t : TypeId) (j : Nat) : ((w.alloc (.cells a t)).alloc (.cells b t)).drew.cell? ⟨w.heap.size, j, none⟩ = a[j]? ∧ ((w.alloc (.cells a t)).alloc (.cells b t)).drew.cell? ⟨w.heap.size + 1, j, none⟩ = b[j]? := by
  constructor
  · show ((w.alloc (.cells a t)).alloc (.cells b t)).cell? _ = _
    rw [World.cell?_alloc_past _ _ _ (by simp), World.cell?_alloc_at _ _ _ _ rfl]
  · show ((w.alloc (.cells a t)).alloc (.cells b t)).cell? _ = _
    rw [World.cell?_alloc_at _ _ _ _ (by simp)]

set_option maxRecDepth 100000 in
set_option maxHeartbeats 4000000 in
theorem lexLongest_yes (s : ByteArray) (hs : s.size ≤ maxLen) (w : World) : Calls Try.prog 6 #[.string s] w fun e w' => e = .returned (.bool true) ∧ Below w.heap.size w w' := by
  unfold maxLen at hs
  by_cases h3 : s.size ≤ 3000
  · rcases hl : lexS s with ⟨ts, p, er⟩
    by_cases he : er = 0
    · subst he
      have hst := fun k h2 hat => longest_yes h3 hl k h2 hat
      have hsz := stands_yes hl
      have hlen := lexS_len2 (by omega) hl
      have HS := Lib.hid hst
      have HZ := Lib.hid hsz
      have HL := Lib.hid hl
      clear hl hst hsz
      go_enter Try.func6, Try.ntmps6
      go_wp2_with fail
      refine (awake_yes _).mono ?_
      rintro e w1 ⟨rfl, hb1⟩
      go_wp2_with fail
      refine (lex_is s _ _ _ HL.out _ hs).mono ?_
      rintro e w2 ⟨v2, rfl, hr2, hb2⟩
      obtain ⟨a2, cap2, rfl, hcap2, hc2⟩ := hr2.at
      have HC := Lib.hid hc2
      clear hr2 hc2
      go_wp2_with fail
      go_loopw [6] (fun i wr => ∃ k : Nat, i = .int .i64 (k : Int) ∧ k ≤ ts.length ∧ Below w2.heap.size w2 wr) (fun i _ => ts.length - (intOf i).toNat)
      case atStart => exact ⟨0, rfl, Nat.zero_le _, Below.refl _ _⟩
      case round =>
        obtain ⟨k, rfl, hk, hb⟩ := hrel
        by_cases hlt : k + 2 < ts.length
        · obtain ⟨b, off, rfl, hbl, hc⟩ := HC.out (by omega)
          obtain ⟨hc0, hc1, hc2⟩ := hc k (by omega)
          obtain ⟨hc3, hc4, hc5⟩ := hc (k + 1) (by omega)
          have d0 := (hb.cell (p := ⟨b, off + k * 3, none⟩) hbl).trans hc0
          have d1 := (hb.cell (p := ⟨b, off + k * 3 + 1, none⟩) hbl).trans hc1
          have d2 := (hb.cell (p := ⟨b, off + k * 3 + 2, none⟩) hbl).trans hc2
          have d3 := (hb.cell (p := ⟨b, off + (k + 1) * 3, none⟩) hbl).trans hc3
          have d4 := (hb.cell (p := ⟨b, off + (k + 1) * 3 + 1, none⟩) hbl).trans hc4
          have d5 := (hb.cell (p := ⟨b, off + (k + 1) * 3 + 2, none⟩) hbl).trans hc5
          clear hc hc0 hc1 hc2 hc3 hc4 hc5
          have e0 := World.new_ne wr _ d0
          have e1 := World.new_ne wr _ d1
          have e2 := World.new_ne wr _ d2
          have e3 := World.new_ne wr _ d3
          have e4 := World.new_ne wr _ d4
          have e5 := World.new_ne wr _ d5
          have i1 : IntKind.i64.wrap ((k : Int) + 1) = (k : Int) + 1 := IntWalk.i64_in _ (by omega)
          have i2 : IntKind.i64.wrap ((k : Int) + 2) = (k : Int) + 2 := IntWalk.i64_in _ (by omega)
          have i3 : (0 : Int) ≤ (k : Int) + 1 := by omega
          have i5 : ((k : Int) + 1) < (ts.length : Int) := by omega
          have i6 : ((k : Int)) < (ts.length : Int) := by omega
          have i4 : ((k : Int) + 1).toNat = k + 1 := by omega
          obtain ⟨K1, hK1⟩ : ∃ x, ts[k].kind = x := ⟨_, rfl⟩
          obtain ⟨T1, hT1⟩ : ∃ x, ts[k].text = x := ⟨_, rfl⟩
          obtain ⟨A1, hA1⟩ : ∃ x, ts[k].at_ = x := ⟨_, rfl⟩
          obtain ⟨K2, hK2⟩ : ∃ x, ts[k + 1].kind = x := ⟨_, rfl⟩
          obtain ⟨T2, hT2⟩ : ∃ x, ts[k + 1].text = x := ⟨_, rfl⟩
          obtain ⟨A2, hA2⟩ : ∃ x, ts[k + 1].at_ = x := ⟨_, rfl⟩
          have hs1 := (HZ.out.1 k (by omega)).inn
          have hs2 := (HZ.out.1 (k + 1) (by omega)).inn
          have hlong := HS.out k hlt
          rw [hK1] at d0
          rw [hT1] at d1
          rw [hA1] at d2
          rw [hK2] at d3
          rw [hT2] at d4
          rw [hA2] at d5
          rw [hK1, hT1, hA1, hK2, hT2, hA2] at hlong
          rw [hT1, hA1] at hs1
          rw [hT2, hA2] at hs2
          have HG := Lib.hid hlong
          clear hK1 hT1 hA1 hK2 hT2 hA2 hlong
          go_upto_region 11 with fail
          go_cut [7, 8] (fun p q wx => ∃ B1 B2 : Nat, p = .pointer (some ⟨B1, 0, none⟩) ∧ q = .pointer (some ⟨B2, 0, none⟩) ∧ Below w2.heap.size w2 wx ∧ B1 < wx.heap.size ∧ B2 < wx.heap.size ∧ wx.cell? ⟨B1, 0, none⟩ = some (.int .u8 K1) ∧ wx.cell? ⟨B1, 1, none⟩ = some (.string T1) ∧ wx.cell? ⟨B1, 2, none⟩ = some (.int .i64 (A1 : Int)) ∧ wx.cell? ⟨B2, 0, none⟩ = some (.int .u8 K2) ∧ wx.cell? ⟨B2, 1, none⟩ = some (.string T2) ∧ wx.cell? ⟨B2, 2, none⟩ = some (.int .i64 (A2 : Int)))
          case first =>
            go_region_held3 (fun w' => (w'.cell? ⟨b, off + k * 3, none⟩ = some (.int .u8 K1) ∧ w'.cell? ⟨b, off + k * 3 + 1, none⟩ = some (.string T1) ∧ w'.cell? ⟨b, off + k * 3 + 2, none⟩ = some (.int .i64 (A1 : Int))) ∧ (w'.cell? ⟨b, off + (k + 1) * 3, none⟩ = some (.int .u8 K2) ∧ w'.cell? ⟨b, off + (k + 1) * 3 + 1, none⟩ = some (.string T2) ∧ w'.cell? ⟨b, off + (k + 1) * 3 + 2, none⟩ = some (.int .i64 (A2 : Int)))) (go_keep) (fail)
            · go_wp2_with fail
              go_meet
              case rel => exact ⟨_, _, rfl, rfl, ((hb.alloc hb.size _).alloc (by have := hb.size; simp; omega) _).drew, by show _ < ((wr.alloc _).alloc _).heap.size; rw [World.size_alloc, World.size_alloc]; omega, by show _ < ((wr.alloc _).alloc _).heap.size; rw [World.size_alloc, World.size_alloc]; omega, (two_cells _ _ _ _ 0).1, (two_cells _ _ _ _ 1).1, (two_cells _ _ _ _ 2).1, (two_cells _ _ _ _ 0).2, (two_cells _ _ _ _ 1).2, (two_cells _ _ _ _ 2).2⟩
            · go_wp2_with fail
              go_meet
              case rel => exact ⟨_, _, rfl, rfl, ((hb.alloc hb.size _).alloc (by have := hb.size; simp; omega) _).drew, by show _ < ((wr.alloc _).alloc _).heap.size; rw [World.size_alloc, World.size_alloc]; omega, by show _ < ((wr.alloc _).alloc _).heap.size; rw [World.size_alloc, World.size_alloc]; omega, (two_cells _ _ _ _ 0).2, (two_cells _ _ _ _ 1).2, (two_cells _ _ _ _ 2).2, (two_cells _ _ _ _ 0).1, (two_cells _ _ _ _ 1).1, (two_cells _ _ _ _ 2).1⟩
          case rest =>
            obtain ⟨B1, B2, rfl, rfl, hbx, hl1, hl2, f0, f1, f2, g0, g1, g2⟩ := hcut
            clear d0 d1 d2 d3 d4 d5 e0 e1 e2 e3 e4 e5 i3 i5 i6 i4
            by_cases hat : A1 + T1.size = A2
            · obtain ⟨hlx, hkn⟩ := HG.out hat
              have hne : ((A1 : Int) + T1.size != (A2 : Int)) = false := by simp; omega
              have HX := Lib.hid hlx
              have HK := Lib.hid hkn
              clear hlx hkn HG
              go_wp2_with fail
              refine (lex_is (T1 ++ T2) _ _ _ HX.out _ (by rw [ByteArray.size_append]; omega)).mono ?_
              rintro e w3 ⟨v3, rfl, hr3, hb3⟩
              obtain ⟨a3, cap3, rfl, hcap3, hc3⟩ := hr3.at
              obtain ⟨b3, off3, rfl, hbl3, hc3⟩ := hc3 (by simp)
              obtain ⟨_, k1, _⟩ := hc3 0 (by simp)
              obtain ⟨_, k2, _⟩ := hc3 1 (by simp)
              clear hc3
              simp only [List.length_cons, List.length_nil, List.getElem_cons_zero, List.getElem_cons_succ, Nat.zero_mul, Nat.add_zero, Nat.one_mul, Nat.zero_add] at k1 k2 hcap3 ⊢
              have f0' := (hb3.cell (p := ⟨B1, 0, none⟩) hl1).trans f0
              have f1' := (hb3.cell (p := ⟨B1, 1, none⟩) hl1).trans f1
              have g0' := (hb3.cell (p := ⟨B2, 0, none⟩) hl2).trans g0
              have g1' := (hb3.cell (p := ⟨B2, 1, none⟩) hl2).trans g1
              clear f0 f1 f2 g0 g1 g2
              go_wp2_with fail
              go_quiet (fail)
              go_wp2_with fail
              all_goals first
                | (go_roundw
                   case rel => exact ⟨k + 1, by go_num, by omega, hbx.trans ((below_drewN hb3 _).mono hbx.size)⟩
                   case measure => simp [intOf]; omega)
                | (exfalso; rename_i hh; obtain ⟨⟨n1, n2⟩, n3⟩ := hh
                   rcases HK.out with h | h | h
                   · rw [h] at n1; exact absurd n1 (by decide)
                   · rw [h] at n2; exact absurd n2 (by decide)
                   · rw [h] at n3; exact absurd n3 (by decide))
            · have hne : ((A1 : Int) + T1.size != (A2 : Int)) = true := by simp; omega
              go_wp2_with fail
              go_roundw
              case rel => exact ⟨k + 1, by go_num, by omega, hbx⟩
              case measure => simp [intOf]; omega
        · have hnl : ¬ ((k : Int) + 2 < (ts.length : Int)) := by omega
          go_wp2_with fail
          go_ret
          exact ⟨rfl, hb1.trans ((hb2.trans (hb.mono hb2.size)).mono hb1.size)⟩
    · obtain ⟨hbad, hnil⟩ := lexS_bad (by omega) hl he
      have her := lexBad_err hbad
      have HL := Lib.hid hl
      clear hl hbad he
      rcases her with rfl | rfl
      all_goals
        go_enter Try.func6, Try.ntmps6
        go_wp2_with fail
        refine (awake_yes _).mono ?_
        rintro e w1 ⟨rfl, hb1⟩
        go_wp2_with fail
        refine (lex_is s _ _ _ HL.out _ hs).mono ?_
        rintro e w2 ⟨v2, rfl, hr2, hb2⟩
        go_wp2_with fail
        go_ret
        exact ⟨rfl, hb1.trans (hb2.mono hb1.size)⟩
  · go_enter Try.func6, Try.ntmps6
    go_wp2_with fail
    refine (awake_yes _).mono ?_
    rintro e w1 ⟨rfl, hb1⟩
    go_wp2_with fail
    go_ret
    exact ⟨rfl, hb1⟩

end Go.Proofs.Ytijoechhhnagpaa
