import Derived.Test.YtijoechhhnagpaaLexL
namespace Go.Proofs.Ytijoechhhnagpaa
open Go.RowKit

/-- Lex, its answer given. -/
def LexIs (toks : List Tok) (p : Nat) (er : Int) (w : World) (e : Ending) (w' : World) : Prop :=
  ∃ v, e = .returned (.tuple #[v, .int .i64 (p : Int), .int .i64 er]) ∧ ReadsToks w' v toks ∧ Below w.heap.size w w'
theorem lex_is (s : ByteArray) (toks : List Tok) (p : Nat) (er : Int) (h : lexS s = (toks, p, er)) (w : World) (hs : s.size ≤ 9223372036854775807) : Calls Try.prog 9 #[.string s] w (LexIs toks p er w) :=
  (lex_any s w hs).mono fun e w' ⟨v, he, hr, hb⟩ => by rw [h] at he hr; exact ⟨v, he, Reads.of_owns hr, hb⟩

def c1 : ByteArray := ⟨#[97, 108, 108, 32, 120, 32, 40, 80, 40, 120, 41, 45, 62, 126, 81, 41]⟩
def c2 : ByteArray := ⟨#[80, 32, 38, 32, 120, 121]⟩
def c3 : ByteArray := ⟨#[80, 32, 45, 32, 81]⟩
def c4 : ByteArray := ⟨#[63, 65, 91, 63, 116, 47, 120, 93]⟩
def wantL : List ByteArray := [⟨#[97, 108, 108]⟩, ⟨#[120]⟩, ⟨#[40]⟩, ⟨#[80]⟩, ⟨#[40]⟩, ⟨#[120]⟩, ⟨#[41]⟩, ⟨#[45, 62]⟩, ⟨#[126]⟩, ⟨#[81]⟩, ⟨#[41]⟩, ⟨#[]⟩]
def placeL : List Int := [0, 4, 6, 7, 8, 9, 10, 11, 13, 14, 15, 16]
theorem c1_end : (lexS c1).2 = (0, 0) := by decide +kernel
theorem c1_text : (lexS c1).1.map (·.text) = wantL := by decide +kernel
theorem c1_at : (lexS c1).1.map (fun t => (t.at_ : Int)) = placeL := by decide +kernel
theorem c2_end : (lexS c2).2 = (4, 41) := by decide +kernel
theorem c3_end : (lexS c3).2 = (2, 40) := by decide +kernel
theorem c4_end : (lexS c4).2 = (0, 0) := by decide +kernel
theorem c4_len : (lexS c4).1.length = 7 := by decide +kernel
theorem c4_one : ((lexS c4).1[1]?).map (·.text) = some ⟨#[91]⟩ := by decide +kernel
theorem c4_join : joinT (lexS c4).1 = ⟨#[63, 65, 32, 91, 32, 63, 116, 32, 47, 32, 120, 32, 93]⟩ := by decide +kernel
theorem until_word : isWord ⟨#[117, 110, 116, 105, 108]⟩ = true := by decide +kernel
theorem lex_eta (s : ByteArray) {p : Nat} {er : Int} (h : (lexS s).2 = (p, er)) : lexS s = ((lexS s).1, p, er) := by rw [← h]

set_option maxRecDepth 100000 in
set_option maxHeartbeats 4000000 in
theorem awake_yes (w : World) : Calls Try.prog 8 #[] w fun e w' => e = .returned (.bool true) ∧ Below w.heap.size w w' := by
  obtain ⟨l, hl⟩ : ∃ l, (lexS c1).1 = l := ⟨_, rfl⟩
  have hlen : l.length = 12 := by rw [← hl, ← List.length_map (f := (·.text)), c1_text]; rfl
  have hs1 : lexS c1 = (l, 0, 0) := by rw [← hl]; exact lex_eta _ c1_end
  have hq : ∀ (k : Nat) (h : k < l.length) (h1 : k < wantL.length) (h2 : k < placeL.length), l[k].text = wantL[k] ∧ (l[k].at_ : Int) = placeL[k] := fun k h h1 h2 => by
    have e1 : l.map (·.text) = wantL := by rw [← hl]; exact c1_text
    have e2 : l.map (fun t => (t.at_ : Int)) = placeL := by rw [← hl]; exact c1_at
    refine ⟨?_, ?_⟩
    · have := List.getElem_of_eq e1 (i := k) (by simpa using h); rw [List.getElem_map] at this; exact this
    · have := List.getElem_of_eq e2 (i := k) (by simpa using h); rw [List.getElem_map] at this; exact this
  have HQ := Lib.hid hq
  have HL := Lib.hid hlen
  clear hl hlen hq
  go_enter Try.func8, Try.ntmps8
  go_wp2_with fail
  refine (lex_is c1 l 0 0 hs1 _ (by decide)).mono ?_
  rintro e w1 ⟨v1, rfl, hr1, hb1⟩
  obtain ⟨a1, cap1, rfl, hcap1, hc1⟩ := hr1.at
  rw [HL.out]
  have HC1 := Lib.hid hc1
  have HR1 := Lib.hid hr1
  clear hc1 hr1 hs1
  go_wp2_with fail
  obtain ⟨w3, hw3⟩ : ∃ w3, (w1.alloc (.cells (wantL.map Value.string).toArray 9)).alloc (.cells (placeL.map (Value.int .i64)).toArray 3) = w3 := ⟨_, rfl⟩
  have hb3 : Below w1.heap.size w1 w3 := by rw [← hw3]; exact (by repeat (first | exact Below.refl _ _ | assumption | refine Below.alloc ?_ (by simp; try omega) _ | refine Below.drew ?_ | refine Below.setCell ?_ (by simp; try omega) _))
  have hsz3 : w3.heap.size = w1.heap.size + 2 := by rw [← hw3]; simp
  have hwant : ∀ (k : Nat) (h : k < wantL.length), w3.cell? ⟨w1.heap.size, k, none⟩ = some (.string wantL[k]) := fun k h => by
    rw [← hw3, World.cell?_alloc_past _ _ _ (by simp), World.cell?_alloc_at _ _ _ _ rfl]; simp [h]
  have hplace : ∀ (k : Nat) (h : k < placeL.length), w3.cell? ⟨w1.heap.size + 1, k, none⟩ = some (.int .i64 placeL[k]) := fun k h => by
    rw [← hw3, World.cell?_alloc_at _ _ _ _ (by simp)]; simp [h]
  change Code.wp _ _ _ _ ((w1.alloc (.cells (wantL.map Value.string).toArray 9)).alloc (.cells (placeL.map (Value.int .i64)).toArray 3))
  rw [hw3]
  have HW := Lib.hid hwant
  have HP := Lib.hid hplace
  have HB3 := Lib.hid hb3
  clear hw3 hwant hplace hb3
  go_loopw [6] (fun i wr => ∃ k : Nat, i = .int .i64 (k : Int) ∧ k ≤ 12 ∧ Below w3.heap.size w3 wr) (fun i _ => 12 - (intOf i).toNat)
  case atStart => exact ⟨0, rfl, Nat.zero_le _, Below.refl _ _⟩
  case round =>
    obtain ⟨k, rfl, hk, hb⟩ := hrel
    by_cases hlt : k < 12
    · obtain ⟨b, off, rfl, hbl, hc⟩ := HC1.out (by rw [HL.out]; omega)
      have hkl : k < l.length := by rw [HL.out]; omega
      obtain ⟨_, hc1, hc2⟩ := hc k hkl
      obtain ⟨e1, e2⟩ := HQ.out k hkl hlt hlt
      have d1 := (hb.cell (p := ⟨b, off + k * 3 + 1, none⟩) (by simp; omega)).trans ((HB3.out.cell (p := ⟨b, off + k * 3 + 1, none⟩) hbl).trans hc1)
      have d2 := (hb.cell (p := ⟨b, off + k * 3 + 2, none⟩) (by simp; omega)).trans ((HB3.out.cell (p := ⟨b, off + k * 3 + 2, none⟩) hbl).trans hc2)
      have d3 := (hb.cell (p := ⟨w1.heap.size, k, none⟩) (by simp; omega)).trans (HW.out k hlt)
      have d4 := (hb.cell (p := ⟨w1.heap.size + 1, k, none⟩) (by simp; omega)).trans (HP.out k hlt)
      rw [← e1] at d3
      rw [← e2] at d4
      clear hc hc1 hc2 e1 e2
      go_wp2_with fail
      go_quiet (fail)
      go_wp2_with fail
      go_roundw
      case rel => exact ⟨k + 1, by go_num, by omega, below_drewN hb _⟩
      case measure => simp [intOf]; omega
    · go_wp2_with fail
      refine (lex_is c2 _ 4 41 (lex_eta _ c2_end) _ (by decide)).mono ?_
      rintro e w4 ⟨v4, rfl, hr4, hb4⟩
      go_wp2_with fail
      refine (lex_is c3 _ 2 40 (lex_eta _ c3_end) _ (by decide)).mono ?_
      rintro e w5 ⟨v5, rfl, hr5, hb5⟩
      go_wp2_with fail
      refine (lex_is c4 _ 0 0 (lex_eta _ c4_end) _ (by decide)).mono ?_
      rintro e w6 ⟨v6, rfl, hr6, hb6⟩
      have hr6' : Hid (ReadsToks w6 v6 (lexS c4).1) := hr6
      obtain ⟨a6, cap6, rfl, hcap6, hc6⟩ := hr6.at
      obtain ⟨b6, off6, rfl, hb6l, hc6⟩ := hc6 (by rw [c4_len]; omega)
      obtain ⟨_, hc61, _⟩ := hc6 1 (by rw [c4_len]; omega)
      have h1 : ((lexS c4).1[1]'(by rw [c4_len]; omega)).text = ⟨#[91]⟩ := by
        have := c4_one; rw [List.getElem?_eq_getElem (by rw [c4_len]; omega)] at this; simpa using this
      rw [h1, Nat.one_mul] at hc61
      have hr7 : ReadsToks w6 (.slice (some ⟨b6, off6, none⟩) 7 cap6) (lexS c4).1 := by
        have h := hr6'.out
        rw [show Value.slice (some ⟨b6, off6, none⟩) (lexS c4).1.length cap6 = Value.slice (some ⟨b6, off6, none⟩) 7 cap6 from by rw [c4_len]] at h
        exact h
      have HR7 := Lib.hid hr7
      clear hr7
      rw [c4_len]
      rw [c4_len] at hcap6
      clear hc6 hr6 h1
      go_wp2_with fail
      refine (join_any _ _ _ HR7.out (by rw [c4_len]; omega) (by rw [c4_join]; decide)).mono ?_
      rintro e w7 ⟨rfl, hb7⟩
      rw [c4_join]
      go_wp2_with fail
      refine (word_any _ _).mono ?_
      rintro e w8 ⟨rfl, hb8⟩
      rw [until_word]
      go_wp2_with fail
      go_ret
      exact ⟨rfl, hb1.trans ((HB3.out.trans ((hb.trans ((hb4.trans ((hb5.trans ((hb6.trans ((hb7.trans (hb8.mono hb7.size)).mono hb6.size)).mono hb5.size)).mono hb4.size)).mono hb.size)).mono HB3.out.size)).mono hb1.size)⟩

end Go.Proofs.Ytijoechhhnagpaa
