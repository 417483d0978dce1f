import Derived.Test.YtodaembemcljnaaSeedF
import Derived.Laws.AppendOwn
import Derived.OneCell
/-
  Slices of integers that the call owns; Perm.
-/
namespace Go.Proofs.Ytodaembemcljnaa
open Go.RowKit
set_option linter.unusedVariables false

def ints (l : List Nat) : List Value := l.map fun n : Nat => .int .i64 (n : Int)
theorem ints_length (l : List Nat) : (ints l).length = l.length := by simp [ints]
theorem ints_set (l : List Nat) (i n : Nat) : ints (l.set i n) = (ints l).set i (.int .i64 (n : Int)) := by simp [ints, List.map_set]
theorem ints_append (l m : List Nat) : ints (l ++ m) = ints l ++ ints m := by simp [ints]
theorem ints_get (l : List Nat) (i : Nat) (h : i < l.length) : (ints l)[i]? = some (.int .i64 (l[i] : Int)) := by simp [ints, h]

/-- A slice of integers of the call's own. -/
def OwnI (B : Nat) (w : World) (v : Value) (l : List Nat) : Prop := w.ownsRow B 3 1 v l.length (ints l)
theorem OwnI.below {B : Nat} {w w' : World} {v : Value} {l : List Nat} (h : OwnI B w v l) (hb : Below w.heap.size w w') : OwnI B w' v l := by
  refine ⟨h.1, ?_⟩
  rcases h.2 with h2 | ⟨g, cap, cur, hv, hg, hh, r⟩
  · exact Or.inl h2
  · have hlt : g < w.heap.size := by
      rcases Nat.lt_or_ge g w.heap.size with h | h
      · exact h
      · rw [Array.getElem?_eq_none h] at hh; cases hh
    exact Or.inr ⟨g, cap, cur, hv, hg, (hb.block g hlt).trans hh, r⟩
theorem OwnI.off {S : Nat → Prop} {B : Nat} {w w' : World} {v : Value} {l : List Nat} (h : OwnI B w v l) (hb : Off S w w') (hS : ∀ k, B ≤ k → ¬ S k) : OwnI B w' v l := by
  refine ⟨h.1, ?_⟩
  rcases h.2 with h2 | ⟨g, cap, cur, hv, hg, hh, r⟩
  · exact Or.inl h2
  · have hlt : g < w.heap.size := by
      rcases Nat.lt_or_ge g w.heap.size with h | h
      · exact h
      · rw [Array.getElem?_eq_none h] at hh; cases hh
    exact Or.inr ⟨g, cap, cur, hv, hg, (hb.block g hlt (hS g hg)).trans hh, r⟩
theorem OwnI.other {B : Nat} {w : World} {v : Value} {l : List Nat} (h : OwnI B w v l) {a : Addr} (ha : a.block < B) (u : Value) : OwnI B (w.setCell a u) v l := by
  refine ownsRow_setCell_other h ?_ u
  rcases h.2 with ⟨rfl, _⟩ | ⟨g, cap, cur, rfl, hg, _⟩
  · simp [Value.ownBlock]
  · simp [Value.ownBlock]; omega
/-- What one has that is not empty. -/
theorem OwnI.form {B : Nat} {w : World} {v : Value} {l : List Nat} (h : OwnI B w v l) (hl : 0 < l.length) :
    ∃ g cap, v = .slice (some ⟨g, 0, none⟩) l.length cap ∧ B ≤ g ∧ g < w.heap.size ∧ l.length ≤ cap ∧ cap ≤ maxLen ∧ Hid (∀ j (hj : j < l.length), w.cell? ⟨g, j, none⟩ = some (.int .i64 (l[j] : Int)) ∧ w.frozen? ⟨g, j, none⟩ = false) := by
  rcases h.2 with ⟨_, h2⟩ | ⟨g, cap, cur, hv, hg, hh, h3, h4, h5, h6⟩
  · omega
  · have hlt : g < w.heap.size := by
      rcases Nat.lt_or_ge g w.heap.size with h | h
      · exact h
      · rw [Array.getElem?_eq_none h] at hh; cases hh
    refine ⟨g, cap, hv, hg, hlt, h3, h4, fun j hj => ?_⟩
    have hc : cur.toList[j]? = some (.int .i64 (l[j] : Int)) := by
      rw [← ints_get l j hj, ← h6, List.getElem?_take_of_lt (by omega)]
    have hc2 : cur[j]? = some (.int .i64 (l[j] : Int)) := by rw [← Array.getElem?_toList]; exact hc
    constructor
    · simp [World.cell?, hh, hc2]
    · simp [World.frozen?, hh]
theorem OwnI.set {B : Nat} {w : World} {g cap : Nat} {l : List Nat} (h : OwnI B w (.slice (some ⟨g, 0, none⟩) l.length cap) l) (j n : Nat) (hj : j < l.length) :
    OwnI B (w.setCell ⟨g, j, none⟩ (.int .i64 (n : Int))) (.slice (some ⟨g, 0, none⟩) l.length cap) (l.set j n) := by
  refine ⟨by simp [ints], ?_⟩
  rcases h.2 with ⟨h1, _⟩ | ⟨g', cap', cur, hv, hg, hh, h3, h4, h5, h6⟩
  · cases h1
  · cases hv
    refine Or.inr ⟨g, cap, cur.setIfInBounds j (.int .i64 (n : Int)), by simp, hg, ?_, by simpa using h3, h4, by simpa using h5, ?_⟩
    · simp [World.setCell, Array.getElem?_modify, hh]
    · rw [ints_set, ← h6]
      simp [List.take_set]
/-- A slice of integers in memory. -/
structure SliceI (w : World) (v : Value) (l : List Int) : Prop where
  at' : ∃ a cap, v = .slice a l.length cap ∧ l.length ≤ cap ∧ cap ≤ maxLen ∧ (0 < l.length → ∃ b off, a = some ⟨b, off, none⟩ ∧ b < w.heap.size ∧ ∀ j (hj : j < l.length), w.cell? ⟨b, off + j, none⟩ = some (.int .i64 l[j]))
theorem SliceI.below {w w' : World} {v : Value} {l : List Int} (h : SliceI w v l) (hb : Below w.heap.size w w') : SliceI w' v l := by
  obtain ⟨a, cap, h1, h2, h3, h4⟩ := h.at'
  refine ⟨a, cap, h1, h2, h3, fun hl => ?_⟩
  obtain ⟨b, off, h5, h6, h7⟩ := h4 hl
  exact ⟨b, off, h5, Nat.lt_of_lt_of_le h6 hb.size, fun j hj => (hb.cell (p := ⟨b, off + j, none⟩) h6).trans (h7 j hj)⟩
theorem OwnI.slice {B : Nat} {w : World} {v : Value} {l : List Nat} (h : OwnI B w v l) : SliceI w v (l.map Int.ofNat) := by
  rcases h.2 with ⟨rfl, h2⟩ | ⟨g, cap, cur, hv, hg, hh, h3, h4, h5, h6⟩
  · exact ⟨none, 0, by simp [h2], by simp [h2], by simp, fun hl => by simp [h2] at hl⟩
  · refine ⟨some ⟨g, 0, none⟩, cap, by simpa using hv, by simpa using h3, h4, fun hl => ?_⟩
    obtain ⟨g', cap', hv', _, hlt, _, _, hc⟩ := h.form (by simpa using hl)
    rw [hv'] at hv
    cases hv
    exact ⟨g, 0, rfl, hlt, fun j hj => by have := (hc.out j (by simpa using hj)).1; simpa using this⟩
end Go.Proofs.Ytodaembemcljnaa
