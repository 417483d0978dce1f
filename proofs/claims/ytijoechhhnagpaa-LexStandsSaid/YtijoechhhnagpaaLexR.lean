import Derived.Test.YtijoechhhnagpaaLexN
import Derived.Test.YtijoechhhnagpaaLexQ
import Derived.Lib.SlicesS
namespace Go.Proofs.Ytijoechhhnagpaa
open Go.RowKit

theorem lexS_len {s : ByteArray} {ts : List Tok} {p : Nat} (hs : s.size ≤ 16384) (h : lexS s = (ts, p, 0)) : ts.length ≤ s.size + 1 := by
  have := lexL_length s (s.size + 1) 0
  rw [lexS_toks hs h] at this; exact this

set_option maxRecDepth 100000 in
set_option maxHeartbeats 4000000 in
theorem lexStands_yes (s : ByteArray) (hs : s.size ≤ maxLen) (w : World) : Calls Try.prog 4 #[.string s] w fun e w' => e = .returned (.bool true) ∧ Below w.heap.size w w' := by
  unfold maxLen at hs
  by_cases h3 : s.size ≤ 3000
  · rcases hl : lexS s with ⟨ts, p, er⟩
    by_cases he : er = 0
    · subst he
      have hst := stands_yes hl
      have hlen := lexS_len (by omega) hl
      have HS := Lib.hid hst
      have HL := Lib.hid hl
      clear hl hst
      go_enter Try.func4, Try.ntmps4
      go_wp2_with fail
      refine (awake_yes _).mono ?_
      rintro e w1 ⟨rfl, hb1⟩
      go_wp2_with fail
      refine (lex_is s _ _ _ HL.out _ hs).mono ?_
      rintro e w2 ⟨v2, rfl, hr2, hb2⟩
      obtain ⟨a2, cap2, rfl, hcap2, hc2⟩ := hr2.at
      have HC := Lib.hid hc2
      clear hr2 hc2
      go_wp2_with fail
      go_loopw [6, 7] (fun a i wr => ∃ k : Nat, i = .int .i64 (k : Int) ∧ a = .int .i64 ((pos 0 ts k : Nat) : Int) ∧ k ≤ ts.length ∧ Below w2.heap.size w2 wr) (fun _ i _ => ts.length - (intOf i).toNat)
      case atStart => exact ⟨0, rfl, by rw [pos_zero]; rfl, Nat.zero_le _, Below.refl _ _⟩
      case round =>
        obtain ⟨k, rfl, rfl, hk, hb⟩ := hrel
        by_cases hlt : k < ts.length
        · obtain ⟨b, off, rfl, hbl, hc⟩ := HC.out (by omega)
          obtain ⟨hc0, hc1, hc2⟩ := hc k hlt
          have d0 := (hb.cell (p := ⟨b, off + k * 3, none⟩) hbl).trans hc0
          have d1 := (hb.cell (p := ⟨b, off + k * 3 + 1, none⟩) hbl).trans hc1
          have d2 := (hb.cell (p := ⟨b, off + k * 3 + 2, none⟩) hbl).trans hc2
          clear hc hc0 hc1 hc2
          go_wp2_with fail
          obtain ⟨wb, hwb⟩ : ∃ wb, wr.alloc (.cells #[.int .u8 ts[k].kind, .string ts[k].text, .int .i64 (ts[k].at_ : Int)] 31) = wb := ⟨_, rfl⟩
          have hbb : Below w2.heap.size w2 wb := by rw [← hwb]; exact hb.alloc hb.size _
          have f0 : wb.cell? ⟨wr.heap.size, 0, none⟩ = some (.int .u8 ts[k].kind) := by rw [← hwb, World.cell?_alloc_at _ _ _ _ rfl]; rfl
          have f1 : wb.cell? ⟨wr.heap.size, 1, none⟩ = some (.string ts[k].text) := by rw [← hwb, World.cell?_alloc_at _ _ _ _ rfl]; rfl
          have f2 : wb.cell? ⟨wr.heap.size, 2, none⟩ = some (.int .i64 (ts[k].at_ : Int)) := by rw [← hwb, World.cell?_alloc_at _ _ _ _ rfl]; rfl
          have hsz : wr.heap.size < wb.heap.size := by rw [← hwb]; simp
          change Code.wp _ _ _ _ (wr.alloc (.cells #[.int .u8 ts[k].kind, .string ts[k].text, .int .i64 (ts[k].at_ : Int)] 31))
          rw [hwb]
          clear hwb d0 d1 d2
          obtain ⟨B, hB⟩ : ∃ B, wr.heap.size = B := ⟨_, rfl⟩
          rw [hB] at f0 f1 f2 hsz ⊢
          clear hB
          obtain ⟨g1, g2, g3, g4, g5, g6⟩ := HS.out.1 k hlt
          have hps := pos_succ 0 ts k hlt
          obtain ⟨P, hP⟩ : ∃ P, pos 0 ts k = P := ⟨_, rfl⟩
          obtain ⟨kd, hkd⟩ : ∃ x, ts[k].kind = x := ⟨_, rfl⟩
          obtain ⟨tx, htx⟩ : ∃ x, ts[k].text = x := ⟨_, rfl⟩
          obtain ⟨A, hA⟩ : ∃ x, ts[k].at_ = x := ⟨_, rfl⟩
          rw [hP] at g1 g6 ⊢
          rw [hkd] at g4 g5 f0
          rw [htx] at g2 g3 g5 f1 hps
          rw [hA] at g1 g2 g3 g6 f2 hps
          have HP := Lib.hid hps
          have HB := Lib.hid g6
          clear g6 hps hP hkd htx hA
          have i1 : decide (A < P) = false := by simp; omega
          have i2 : IntKind.i64.wrap ((A : Int) + tx.size) = (A : Int) + tx.size := IntWalk.i64_in _ (by omega)
          have i3 : decide ((s.size : Int) < (A : Int) + tx.size) = false := by simp; omega
          have i4 : IntKind.i64.wrap ((k : Int) + 1) = (k : Int) + 1 := IntWalk.i64_in _ (by omega)
          have i5 : (0 : Int) ≤ (A : Int) + tx.size := by omega
          have i6 : ((A : Int) + tx.size).toNat = A + tx.size := by omega
          have i7 : (A : Int) + tx.size ≤ s.size := by omega
          have i8 : (A : Int) ≤ (A : Int) + tx.size := by omega
          have i9 : ((s.extract A (A + tx.size)).toList == tx.toList) = true := by rw [g3]; simp
          have i10 : ((kd == 5) == ((k : Int) + 1 == (ts.length : Int))) = true := by
            by_cases hz : kd = 5
            · have := g4.1 hz
              have e : (k : Int) + 1 = (ts.length : Int) := by omega
              rw [hz, e]; simp
            · have : ¬ k + 1 = ts.length := fun h => hz (g4.2 h)
              have e : ((k : Int) + 1 == (ts.length : Int)) = false := by simp; omega
              rw [e]; simp [hz]
          have i11 : (tx.toList.isEmpty == (kd == 5)) = true := by
            by_cases hz : kd = 5
            · rw [hz, g5.2 hz, ByteArray.toList_eq]; rfl
            · have h1 := fun h => hz (g5.1 h)
              have h2 : tx.toList.isEmpty = false := by
                cases h : tx.toList.isEmpty
                · rfl
                · exfalso; apply h1; rw [List.isEmpty_iff, ByteArray.toList_eq] at h; exact ByteArray.ext (Array.toList_inj.1 h)
              rw [h2]; simp [hz]
          clear g3 g4 g5
          go_quiet (fail)
          clear i1 i3 i5 i6 i7 i8 i9 i10 i11
          go_wp2_with fail
          go_loopw [6] (fun a wr2 => ∃ q : Nat, a = .int .i64 (q : Int) ∧ P ≤ q ∧ q ≤ A ∧ Below wb.heap.size wb wr2) (fun a _ => A - (intOf a).toNat)
          case atStart => exact ⟨P, rfl, Nat.le_refl _, g1, below_drewN (Below.refl _ _) _⟩
          case round =>
            obtain ⟨q, rfl, hq1, hq2, hb3⟩ := hrel
            have e1 := (hb3.cell (p := ⟨B, 1, none⟩) hsz).trans f1
            have e2 := (hb3.cell (p := ⟨B, 2, none⟩) hsz).trans f2
            by_cases hqa : q < A
            · have hqs : q < s.size := by omega
              have hbk := HB.out q hqs hq1 hqa
              have hbk2 : s[q] = 32 ∨ s[q] = 9 ∨ s[q] = 10 ∨ s[q] = 13 := by
                unfold isBlank at hbk; simp only [Bool.or_eq_true, beq_iff_eq] at hbk; rcases hbk with ((h | h) | h) | h <;> simp [h]
              obtain ⟨cq, hcq⟩ : ∃ c, s[q] = c := ⟨_, rfl⟩
              rw [hcq] at hbk2
              have hx : s.data.toList[q]? = some cq := by rw [List.getElem?_eq_getElem (by simpa using hqs)]; rw [← hcq]; rfl
              go_wp2_with fail
              all_goals first
                | (go_roundw
                   case rel => exact ⟨q + 1, by go_num, by omega, by omega, hb3⟩
                   case measure => simp [intOf]; omega)
                | (exfalso; rename_i hh; obtain ⟨⟨⟨n1, n2⟩, n3⟩, n4⟩ := hh
                   rcases hbk2 with rfl | rfl | rfl | rfl
                   · exact absurd n1 (by decide)
                   · exact absurd n2 (by decide)
                   · exact absurd n3 (by decide)
                   · exact absurd n4 (by decide))
            · go_wp2_with fail
              go_roundw
              case rel => exact ⟨k + 1, by go_num, by rw [HP.out]; go_num, by omega, hbb.trans (hb3.mono hbb.size)⟩
              case measure => simp [intOf]; omega
        · have hkl : k = ts.length := by omega
          subst hkl
          have h1 : pos 0 ts ts.length = s.size := HS.out.2
          rw [h1]
          clear h1
          go_wp2_with fail
          go_ret
          exact ⟨by simp, hb1.trans ((hb2.trans (hb.mono hb2.size)).mono hb1.size)⟩
    · obtain ⟨hbad, hnil⟩ := lexS_bad (by omega) hl he
      have her := lexBad_err hbad
      have HL := Lib.hid hl
      clear hl hbad he
      rcases her with rfl | rfl
      all_goals
        go_enter Try.func4, Try.ntmps4
        go_wp2_with fail
        refine (awake_yes _).mono ?_
        rintro e w1 ⟨rfl, hb1⟩
        go_wp2_with fail
        refine (lex_is s _ _ _ HL.out _ hs).mono ?_
        rintro e w2 ⟨v2, rfl, hr2, hb2⟩
        go_wp2_with fail
        go_ret
        exact ⟨rfl, hb1.trans (hb2.mono hb1.size)⟩
  · go_enter Try.func4, Try.ntmps4
    go_wp2_with fail
    refine (awake_yes _).mono ?_
    rintro e w1 ⟨rfl, hb1⟩
    go_wp2_with fail
    go_ret
    exact ⟨rfl, hb1⟩

end Go.Proofs.Ytijoechhhnagpaa
