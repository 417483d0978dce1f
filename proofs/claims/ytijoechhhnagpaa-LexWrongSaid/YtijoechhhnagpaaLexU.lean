import Derived.Test.YtijoechhhnagpaaLexN
import Derived.Test.YtijoechhhnagpaaLexQ
import Derived.OpenShut
namespace Go.Proofs.Ytijoechhhnagpaa
open Go.RowKit

theorem app_assoc3 (s a b c : ByteArray) : s ++ a ++ b ++ c = s ++ a ++ (b ++ c) := by rw [ByteArray.append_assoc (a := s ++ a)]

/-- What Lex says of the text behind a bad thing. -/
def WrongSays (s b : ByteArray) (a : Nat) (e E : Int) : Prop :=
  (e ≠ 0 → lexS (s ++ ⟨#[32]⟩ ++ b ++ ⟨#[32, 80]⟩) = ([], a, e)) ∧ (e = 0 → lexS (s ++ ⟨#[32]⟩ ++ b ++ ⟨#[32, 80]⟩) = ([], s.size + 1, E))
theorem wrong_says {s : ByteArray} {l : List Tok} {a : Nat} {e : Int} (hs : s.size ≤ 1500) (h : lexS s = (l, a, e)) (n : Nat) (hn : n < badL.length) (h2 : n < badE.length) : WrongSays s badL[n] a e badE[n] := by
  have hsz : (badL[n] ++ ⟨#[32, 80]⟩ : ByteArray).size ≤ 8000 := by
    have : ∀ (n : Nat) (_ : n < badL.length), badL[n].size ≤ 2 := by decide
    rw [ByteArray.size_append]
    have := this n hn
    have h3 : (⟨#[32, 80]⟩ : ByteArray).size = 2 := rfl
    omega
  refine ⟨fun he => ?_, fun he => ?_⟩
  · rw [app_assoc3]; exact wrong_first (by omega) h he _ hsz
  · subst he; rw [app_assoc3]; exact wrong_bad (by omega) h n hn h2

set_option maxRecDepth 100000 in
set_option maxHeartbeats 4000000 in
theorem lexWrong_at (s : ByteArray) (hs : s.size ≤ 1500) (n : Int) (m : Nat) (hm : n.tmod 6 = (m : Int)) (h6 : m < 6) (b : ByteArray) (E : Int) (hb : b.size ≤ 2)
    (hcell : ([⟨#[55]⟩, ⟨#[36]⟩, ⟨#[45]⟩, ⟨#[120, 121]⟩, ⟨#[63]⟩, ⟨#[128]⟩] : List ByteArray)[m]? = some b) (hE : E = 40 ∧ m ≠ 3 ∧ m ≠ 4 ∨ E = 41 ∧ (m = 3 ∨ m = 4)) (l : List Tok) (a : Nat) (e : Int) (h : lexS s = (l, a, e)) (hw : WrongSays s b a e E) (w : World) :
    Calls Try.prog 7 #[.string s, .int .u8 n] w fun e w' => e = .returned (.bool true) ∧ Below w.heap.size w w' := by
  have HL := Lib.hid h
  have HW := Lib.hid hw
  have HC := Lib.hid hcell
  clear h hw hcell
  have hmi : (m : Int) < 6 := by omega
  go_enter Try.func7, Try.ntmps7
  go_wp2_with fail
  refine (awake_yes _).mono ?_
  rintro e' w1 ⟨rfl, hb1⟩
  go_upto_region 5 with fail
  have hm2 : IntKind.u8.wrap ((m : Int)) = (m : Int) := by unfold IntKind.wrap; simp [IntKind.signed, IntKind.bits]; omega
  have hc1 : (#[.string ⟨#[55]⟩, .string ⟨#[36]⟩, .string ⟨#[45]⟩, .string ⟨#[120, 121]⟩, .string ⟨#[63]⟩, .string ⟨#[128]⟩] : Array Value)[m]? = some (.string b) := by
    have := HC.out
    rcases (by omega : m = 0 ∨ m = 1 ∨ m = 2 ∨ m = 3 ∨ m = 4 ∨ m = 5) with rfl | rfl | rfl | rfl | rfl | rfl <;> (simp at this; subst this; rfl)
  have hc2 : (w1.alloc (.cells #[.string ⟨#[55]⟩, .string ⟨#[36]⟩, .string ⟨#[45]⟩, .string ⟨#[120, 121]⟩, .string ⟨#[63]⟩, .string ⟨#[128]⟩] 9)).cell? ⟨w1.heap.size, m, none⟩ = some (.string b) := by
    rw [World.cell?_alloc_at _ _ _ _ rfl]; exact hc1
  go_wp2_with fail
  refine (lex_is s _ _ _ HL.out _ (by omega)).mono ?_
  rintro e' w2 ⟨v2, rfl, hr2, hb2⟩
  clear hc1 hc2
  have hb12 : Below w.heap.size w w2 := hb1.trans (((Below.refl _ _).alloc (Nat.le_refl _) _).trans (hb2.mono (by simp)) |>.mono hb1.size)
  have hsz : (s ++ ⟨#[32]⟩ ++ b ++ ⟨#[32, 80]⟩ : ByteArray).size ≤ 9223372036854775807 := by
    have h1 : (⟨#[32, 80]⟩ : ByteArray).size = 2 := rfl
    have h2 : (⟨#[32]⟩ : ByteArray).size = 1 := rfl
    simp only [ByteArray.size_append]; omega
  have i1 : IntKind.i64.wrap ((s.size : Int) + 1) = (s.size : Int) + 1 := IntWalk.i64_in _ (by omega)
  by_cases he : e = 0
  · subst he
    have hx := HW.out.2 rfl
    go_wp2_with fail
    refine (lex_is _ _ _ _ hx _ hsz).mono ?_
    rintro e' w3 ⟨v3, rfl, hr3, hb3⟩
    obtain ⟨a3, cap3, rfl, _⟩ := hr3.at
    clear hx
    simp only [List.length_nil]
    rcases hE with ⟨rfl, h3, h4⟩ | ⟨rfl, h3 | h3⟩
    · have j1 : ((m : Int) == 3) = false := by simp; omega
      have j2 : ((m : Int) == 4) = false := by simp; omega
      have j3 : ¬ (m : Int) = 3 := by omega
      have j4 : ¬ (m : Int) = 4 := by omega
      go_wp2_with fail
      go_ret
      exact ⟨by simp, hb12.trans (hb3.mono hb12.size)⟩
    · subst h3
      have hm' : n.tmod 6 = 3 := hm
      go_wp2_with fail
      go_ret
      exact ⟨by simp, hb12.trans (hb3.mono hb12.size)⟩
    · subst h3
      have hm' : n.tmod 6 = 4 := hm
      go_wp2_with fail
      go_ret
      exact ⟨by simp, hb12.trans (hb3.mono hb12.size)⟩
  · have hx := HW.out.1 he
    have hne : (e != 0) = true := by simpa using he
    go_wp2_with fail
    refine (lex_is _ _ _ _ hx _ hsz).mono ?_
    rintro e' w3 ⟨v3, rfl, hr3, hb3⟩
    obtain ⟨a3, cap3, rfl, _⟩ := hr3.at
    clear hx
    simp only [List.length_nil]
    go_wp2_with fail
    go_ret
    exact ⟨by simp, hb12.trans (hb3.mono hb12.size)⟩

theorem lexWrong_yes (s : ByteArray) (n : Int) (hs : s.size ≤ maxLen) (hwf : (Lit.int .u8 n).wf = true) (w : World) :
    Calls Try.prog 7 #[.string s, .int .u8 n] w fun e w' => e = .returned (.bool true) ∧ Below w.heap.size w w' := by
  have hn : 0 ≤ n ∧ n < 256 := by
    have := bounds_u8 hwf; omega
  by_cases h3 : s.size ≤ 1500
  · rcases hl : lexS s with ⟨ts, p, er⟩
    have hmod : n.tmod 6 = n % 6 := Int.tmod_eq_emod_of_nonneg hn.1
    obtain ⟨m, hm⟩ : ∃ m : Nat, n.tmod 6 = (m : Int) := ⟨(n % 6).toNat, by omega⟩
    have h6 : m < 6 := by omega
    refine lexWrong_at s h3 n m hm h6 (badL[m]'h6) (badE[m]'h6) ?_ ?_ ?_ ts p er hl (wrong_says h3 hl m h6 h6) w
    · have : ∀ (n : Nat) (_ : n < badL.length), badL[n].size ≤ 2 := by decide
      exact this m h6
    · exact List.getElem?_eq_getElem (l := badL) h6
    · have : ∀ (m : Nat) (h : m < badE.length), badE[m] = 40 ∧ m ≠ 3 ∧ m ≠ 4 ∨ badE[m] = 41 ∧ (m = 3 ∨ m = 4) := by decide
      exact this m h6
  · unfold maxLen at hs
    go_enter Try.func7, Try.ntmps7
    go_wp2_with fail
    refine (awake_yes _).mono ?_
    rintro e w1 ⟨rfl, hb1⟩
    go_wp2_with fail
    go_ret
    exact ⟨rfl, hb1⟩

end Go.Proofs.Ytijoechhhnagpaa
