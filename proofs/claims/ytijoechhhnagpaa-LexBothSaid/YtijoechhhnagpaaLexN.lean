import Derived.Test.YtijoechhhnagpaaLexM
import Derived.Test.YtijoechhhnagpaaLexP
namespace Go.Proofs.Ytijoechhhnagpaa
open Go.RowKit

theorem lexS_toks {s : ByteArray} {ts : List Tok} {p : Nat} (hs : s.size ≤ 16384) (h : lexS s = (ts, p, 0)) : (lexL s (s.size + 1) 0).1 = ts := by
  unfold lexS at h
  rw [if_neg (by omega)] at h
  split at h
  · simp only [Prod.mk.injEq] at h; exact h.1
  · rename_i h0; simp only [Prod.mk.injEq] at h; exact absurd (by rw [h.2]) h0

set_option maxRecDepth 100000 in
set_option maxHeartbeats 2000000 in
theorem lexJoined_yes (s : ByteArray) (hs : s.size ≤ maxLen) (w : World) : Calls Try.prog 3 #[.string s] w fun e w' => e = .returned (.bool true) ∧ Below w.heap.size w w' := by
  unfold maxLen at hs
  by_cases h3 : s.size ≤ 3000
  · rcases hl : lexS s with ⟨ts, p, er⟩
    by_cases he : er = 0
    · subst he
      obtain ⟨hj1, ts', hj2, hj3, hj4⟩ := joined_law h3 hl
      have hok := lexS_ok hl
      have hn : ts.length ≤ 1000000 := by
        have : ts.length ≤ s.size + 1 := by
          have := lexL_length s (s.size + 1) 0
          rw [lexS_toks (by omega) hl] at this; exact this
        omega
      have hn' : ts'.length ≤ 1000000 := by rw [← hj3.1]; exact hn
      have HJ := Lib.hid (And.intro hj2 (And.intro hj3 hj4))
      have HL := Lib.hid hl
      clear hl hj2 hj3 hj4 hok
      go_enter Try.func3, Try.ntmps3
      go_wp2_with fail
      refine (awake_yes _).mono ?_
      rintro e w1 ⟨rfl, hb1⟩
      go_wp2_with fail
      refine (lex_is s _ _ _ HL.out _ hs).mono ?_
      rintro e w2 ⟨v2, rfl, hr2, hb2⟩
      go_wp2_with fail
      refine (join_any _ ts _ hr2 hn (by omega)).mono ?_
      rintro e w3 ⟨rfl, hb3⟩
      go_wp2_with fail
      refine (lex_is (joinT ts) _ _ _ HJ.out.1 _ (by omega)).mono ?_
      rintro e w4 ⟨v4, rfl, hr4, hb4⟩
      go_wp2_with fail
      have hr2' : ReadsToks w4 v2 ts := (hr2.below hb3).below hb4
      refine (alike_yes _ _ ts ts' _ hr2' hr4 hn HJ.out.2.1).mono ?_
      rintro e w5 ⟨rfl, hb5⟩
      go_wp2_with fail
      have hr4' : ReadsToks w5 v4 ts' := hr4.below hb5
      refine (join_any _ ts' _ hr4' hn' (by rw [HJ.out.2.2]; omega)).mono ?_
      rintro e w6 ⟨rfl, hb6⟩
      rw [HJ.out.2.2]
      go_wp2_with fail
      go_ret
      exact ⟨by simp, hb1.trans ((hb2.trans ((hb3.trans ((hb4.trans ((hb5.trans (hb6.mono hb5.size)).mono hb4.size)).mono hb3.size)).mono hb2.size)).mono hb1.size)⟩
    · obtain ⟨hbad, hnil⟩ := lexS_bad (by omega) hl he
      have her := lexBad_err hbad
      subst hnil
      have HL := Lib.hid hl
      clear hl hbad he
      rcases her with rfl | rfl
      all_goals
        go_enter Try.func3, Try.ntmps3
        go_wp2_with fail
        refine (awake_yes _).mono ?_
        rintro e w1 ⟨rfl, hb1⟩
        go_wp2_with fail
        refine (lex_is s _ _ _ HL.out _ hs).mono ?_
        rintro e w2 ⟨v2, rfl, hr2, hb2⟩
        obtain ⟨a2, cap2, rfl, _⟩ := hr2.at
        simp only [List.length_nil]
        go_wp2_with fail
        go_ret
        exact ⟨rfl, hb1.trans (hb2.mono hb1.size)⟩
  · go_enter Try.func3, Try.ntmps3
    go_wp2_with fail
    refine (awake_yes _).mono ?_
    rintro e w1 ⟨rfl, hb1⟩
    go_wp2_with fail
    go_ret
    exact ⟨rfl, hb1⟩

end Go.Proofs.Ytijoechhhnagpaa
