import Derived.Test.YtijoechhhnagpaaLexJ
import Derived.Test.YtijoechhhnagpaaShelf
namespace Go.Proofs.Ytijoechhhnagpaa
open Go.RowKit

/-- The slice v reads as xs: n elements of k cells each. -/
structure Reads (W : World) (v : Value) (k n : Nat) (xs : List Value) : Prop where
  len : xs.length = n * k
  val : ∃ a cap, v = .slice a n cap ∧ n ≤ cap ∧ (0 < n → ∃ b off, a = some ⟨b, off, none⟩ ∧ b < W.heap.size ∧ ∀ (j : Nat) (u : Value), xs[j]? = some u → W.cell? ⟨b, off + j, none⟩ = some u)
theorem Reads.below {W W' : World} {v : Value} {k n : Nat} {xs : List Value} (h : Reads W v k n xs) (hb : Below W.heap.size W W') : Reads W' v k n xs := by
  obtain ⟨hl, a, cap, hv, hc, h⟩ := h
  refine ⟨hl, a, cap, hv, hc, fun h0 => ?_⟩
  obtain ⟨b, off, ha, hlt, hcell⟩ := h h0
  exact ⟨b, off, ha, Nat.lt_of_lt_of_le hlt hb.size, fun j u hj => (hb.cell (p := ⟨b, off + j, none⟩) hlt).trans (hcell j u hj)⟩
theorem Reads.of_owns {W : World} {base : Nat} {e : TypeId} {v : Value} {k n : Nat} {xs : List Value} (h : W.ownsRow base e k v n xs) : Reads W v k n xs := by
  refine ⟨h.1, ?_⟩
  rcases h.2 with ⟨rfl, rfl⟩ | ⟨g, cap, cur, rfl, hg, hh, hn, hm, hs, ht⟩
  · exact ⟨none, 0, rfl, Nat.le_refl _, fun h => absurd h (Nat.lt_irrefl _)⟩
  · refine ⟨some ⟨g, 0, none⟩, cap, rfl, hn, fun _ => ⟨g, 0, rfl, lt_of_block hh, fun j u hj => ?_⟩⟩
    rw [Nat.zero_add, cell_of_row _ _ _ _ _ _ hh, ← Array.getElem?_toList]
    rw [← ht, List.getElem?_take] at hj
    split at hj
    · exact hj
    · cases hj

def toksCells (l : List Tok) : List Value := l.flatMap fun t => (tokCells t).toList
theorem toksCells_length (l : List Tok) : (toksCells l).length = l.length * 3 := by
  induction l with
  | nil => rfl
  | cons t r ih =>
    have e : toksCells (t :: r) = (tokCells t).toList ++ toksCells r := rfl
    rw [e, List.length_append, ih, List.length_cons]
    have : (tokCells t).toList.length = 3 := rfl
    omega
theorem toksCells_at (l : List Tok) (i : Nat) (h : i < l.length) : (toksCells l)[i * 3]? = some (.int .u8 l[i].kind) ∧ (toksCells l)[i * 3 + 1]? = some (.string l[i].text) ∧ (toksCells l)[i * 3 + 2]? = some (.int .i64 (l[i].at_ : Int)) := by
  induction l generalizing i with
  | nil => exact absurd h (Nat.not_lt_zero _)
  | cons t r ih =>
    cases i with
    | zero => exact ⟨rfl, rfl, rfl⟩
    | succ i =>
      have := ih i (by simpa using h)
      simp only [toksCells, List.flatMap_cons] at *
      have e : (i + 1) * 3 = i * 3 + 3 := by omega
      refine ⟨?_, ?_, ?_⟩
      · rw [e]; exact this.1
      · rw [show (i + 1) * 3 + 1 = (i * 3 + 1) + 3 by omega]; exact this.2.1
      · rw [show (i + 1) * 3 + 2 = (i * 3 + 2) + 3 by omega]; exact this.2.2
/-- A slice of tokens. -/
abbrev ReadsToks (W : World) (v : Value) (l : List Tok) : Prop := Reads W v 3 l.length (toksCells l)
theorem ReadsToks.at {W : World} {v : Value} {l : List Tok} (h : ReadsToks W v l) : ∃ a cap, v = .slice a l.length cap ∧ l.length ≤ cap ∧ (0 < l.length → ∃ b off, a = some ⟨b, off, none⟩ ∧ b < W.heap.size ∧ ∀ (i : Nat) (hi : i < l.length),
    W.cell? ⟨b, off + i * 3, none⟩ = some (.int .u8 l[i].kind) ∧ W.cell? ⟨b, off + i * 3 + 1, none⟩ = some (.string l[i].text) ∧ W.cell? ⟨b, off + i * 3 + 2, none⟩ = some (.int .i64 (l[i].at_ : Int))) := by
  obtain ⟨_, a, cap, hv, hc, h⟩ := h
  refine ⟨a, cap, hv, hc, fun h0 => ?_⟩
  obtain ⟨b, off, ha, hlt, hcell⟩ := h h0
  refine ⟨b, off, ha, hlt, fun i hi => ?_⟩
  obtain ⟨h1, h2, h3⟩ := toksCells_at l i hi
  exact ⟨hcell _ _ h1, by rw [Nat.add_assoc]; exact hcell _ _ h2, by rw [Nat.add_assoc]; exact hcell _ _ h3⟩

theorem Try.info9 : (Try.prog.info? 9).map (fun i => (i.zero, i.size, i.bytes)) = some (some (.string ⟨#[]⟩), 1, 16) := by kernel_rfl

theorem cell_one_at (w : World) (n : Nat) (hn : n = w.heap.size) (a : Value) (t : TypeId) : ∀ j u, [a][j]? = some u → (w.alloc (.cells #[a] t)).cell? ((⟨n, 0, none⟩ : Addr).add j) = some u := by
  intro j u hu
  rw [Addr.add_lit, Nat.zero_add, World.cell?_alloc_at _ _ _ _ hn]
  simpa using hu

set_option maxHeartbeats 1000000 in
theorem join_any (v : Value) (l : List Tok) (w : World) (hv : ReadsToks w v l) (hl : l.length ≤ 1000000) (hj : (joinT l).size ≤ 100000000) :
    Calls Try.prog 10 #[v] w fun e w' => e = .returned (.string (joinT l)) ∧ Below w.heap.size w w' := by
  obtain ⟨a, cap, rfl, hcap, hcells⟩ := hv.at
  have HC := Lib.hid hcells
  clear hcells hv
  go_enter Try.func10, Try.ntmps10
  go_wp2_with fail
  go_loopw [3, 8] (fun o i wr => ∃ k : Nat, i = .int .i64 (k : Int) ∧ k ≤ l.length ∧ wr.ownsRow w.heap.size 9 1 o (joinTexts (l.take k)).length ((joinTexts (l.take k)).map Value.string) ∧ Below w.heap.size w wr) (fun _ i _ => l.length - (intOf i).toNat)
  case atStart => exact ⟨0, rfl, Nat.zero_le _, World.ownsRow_nil _ _ _ _, Below.refl _ _⟩
  case round =>
    obtain ⟨k, rfl, hk, hown, hb⟩ := hrel
    by_cases hlt : k < l.length
    · obtain ⟨b, off, rfl, hbl, hc⟩ := HC.out (by omega)
      obtain ⟨hc0, hc1, hc2⟩ := hc k hlt
      have d0 := (hb.cell (p := ⟨b, off + k * 3, none⟩) hbl).trans hc0
      have d1 := (hb.cell (p := ⟨b, off + k * 3 + 1, none⟩) hbl).trans hc1
      have d2 := (hb.cell (p := ⟨b, off + k * 3 + 2, none⟩) hbl).trans hc2
      clear hc hc0 hc1 hc2
      by_cases h5 : l[k].kind = 5
      · have hne : (l[k].kind != 5) = false := by simp [h5]
        have HT := Lib.hid (joinTexts_skip l k hlt h5)
        clear h5
        go_wp2_with fail
        go_roundw
        case rel => exact ⟨k + 1, by go_num, by omega, by rw [HT.out]; exact hown.alloc _, hb.alloc hb.size _⟩
        case measure => simp [intOf]; omega
      · have hne : (l[k].kind != 5) = true := by simpa using h5
        have HT := Lib.hid (joinTexts_take l k hlt h5)
        have hle := joinTexts_len l k
        clear h5
        obtain ⟨i0, hi, hz0, hz1, hz2⟩ := info_parts Try.info9
        go_wp2_with (at_builtin; refine wpList_append_own _ rfl _ _ 33 rfl w.heap.size 9 i0 (.string ⟨#[]⟩) 1 16 Try.underlying33 hi hz0 hz1 hz2 rfl (by decide) _ _ _ rfl ((hown.alloc _).alloc _) ⟨wr.heap.size + 1, 0, none⟩ 1 1 [.string l[k].text] rfl rfl (cell_one_at _ _ (by simp) _ _) (by simp [Value.oneCell']) (by unfold maxLen; omega) (by omega) (by have := hb.size; simp; omega) ?_; intro v' w1 hown' hgrow _)
        go_roundw
        case rel => exact ⟨k + 1, by go_num, by omega, by rw [HT.out]; simpa using hown', ((hb.alloc hb.size _).alloc (by have := hb.size; simp; omega) _).grown hgrow (by have := hb.size; simp; omega) (fun j e => (hown.lt j e).1)⟩
        case measure => simp [intOf]; omega
    · have hkl : k = l.length := by omega
      have hall : joinTexts (l.take k) = joinTexts l := by rw [List.take_of_length_le (by omega)]
      rw [hall] at hown
      clear hall hkl
      obtain ⟨_, a2, cap2, rfl, hcap2, hc2⟩ := Reads.of_owns hown
      have HC2 := Lib.hid hc2
      clear hc2 hown
      have hlen : (Lib.join ((joinTexts l).map (·.data.toList)) [32]).length ≤ 140737488355328 := by
        have : (Lib.join ((joinTexts l).map (·.data.toList)) [32]).length = (joinT l).size := rfl
        omega
      have hn : (joinTexts l).length ≤ 140737488355328 := by
        have := joinTexts_len l l.length; rw [List.take_of_length_le (Nat.le_refl _)] at this; omega
      have HLN := Lib.hid (And.intro hlen hn)
      clear hlen hn
      by_cases hz : (joinTexts l).length = 0
      · have hj0 : joinTexts l = [] := List.eq_nil_of_length_eq_zero hz
        have hj1 : joinT l = ⟨#[]⟩ := by unfold joinT joinB; rw [hj0]; rfl
        have HJ := Lib.hid hj1
        have HZ := Lib.hid hz
        clear hz hj0 hj1
        go_wp2_with fail
        rw [HZ.out]
        refine (Try.strings_Join_none _ _ _ _).mono ?_
        rintro e w' ⟨rfl, rfl⟩
        go_wp2_with fail
        go_ret
        exact ⟨by rw [HJ.out]; rfl, hb⟩
      · obtain ⟨b2, off2, rfl, hb2, hcell2⟩ := HC2.out (by omega)
        have HC3 := Lib.hid hcell2
        clear hz hcell2 HC2
        go_wp2_with fail
        refine (Try.strings_Join b2 off2 cap2 (joinTexts l) _ _ (fun j x hx => HC3.out j _ (by simp [hx])) hb2 HLN.out.2 hcap2 HLN.out.1).mono ?_
        rintro e w' ⟨rfl, hb'⟩
        go_wp2_with fail
        go_ret
        exact ⟨rfl, hb.trans (hb'.mono hb.size)⟩

end Go.Proofs.Ytijoechhhnagpaa
