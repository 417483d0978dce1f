import Derived.Test.YtodaembemcljnaaSeedY
import Derived.Laws.AppendOwnNone
/-
  A list that is lent, and is kept.
-/
namespace Go.Proofs.Ytodaembemcljnaa
open Go.RowKit
set_option linter.unusedVariables false

def zvals (l : List Int) : List Value := l.map (Value.int .i64)
/-- A slice of integers of the call's own, whatever they are. -/
def OwnZ (B : Nat) (w : World) (v : Value) (l : List Int) : Prop := w.ownsRow B 3 1 v l.length (zvals l)
theorem OwnZ.below {B : Nat} {w w' : World} {v : Value} {l : List Int} (h : OwnZ B w v l) (hb : Below w.heap.size w w') : OwnZ B w' v l := by
  refine ⟨h.1, ?_⟩
  rcases h.2 with h2 | ⟨g, cap, cur, hv, hg, hh, r⟩
  · exact Or.inl h2
  · have hlt : g < w.heap.size := by
      rcases Nat.lt_or_ge g w.heap.size with h | h
      · exact h
      · rw [Array.getElem?_eq_none h] at hh; cases hh
    exact Or.inr ⟨g, cap, cur, hv, hg, (hb.block g hlt).trans hh, r⟩
theorem OwnZ.form {B : Nat} {w : World} {v : Value} {l : List Int} (h : OwnZ B w v l) (hl : 0 < l.length) :
    ∃ g cap, v = .slice (some ⟨g, 0, none⟩) l.length cap ∧ B ≤ g ∧ g < w.heap.size ∧ l.length ≤ cap ∧ cap ≤ maxLen ∧ Hid (∀ j (hj : j < l.length), w.cell? ⟨g, j, none⟩ = some (.int .i64 l[j]) ∧ w.frozen? ⟨g, j, none⟩ = false) := by
  rcases h.2 with ⟨_, h2⟩ | ⟨g, cap, cur, hv, hg, hh, h3, h4, h5, h6⟩
  · omega
  · have hlt : g < w.heap.size := by
      rcases Nat.lt_or_ge g w.heap.size with h | h
      · exact h
      · rw [Array.getElem?_eq_none h] at hh; cases hh
    refine ⟨g, cap, hv, hg, hlt, h3, h4, fun j hj => ?_⟩
    have hz : (zvals l)[j]? = some (.int .i64 l[j]) := by simp [zvals, hj]
    have hc : cur.toList[j]? = some (.int .i64 l[j]) := by
      rw [← hz, ← h6, List.getElem?_take_of_lt (by omega)]
    have hc2 : cur[j]? = some (.int .i64 l[j]) := by rw [← Array.getElem?_toList]; exact hc
    constructor
    · simp [World.cell?, hh, hc2]
    · simp [World.frozen?, hh]
theorem OwnZ.lt {B : Nat} {w : World} {v : Value} {l : List Int} (h : OwnZ B w v l) {g : Nat} (hg : v.ownBlock = some g) : B ≤ g := by
  rcases h.2 with ⟨rfl, _⟩ | ⟨g', cap, cur, rfl, hb, _⟩
  · cases hg
  · simp [Value.ownBlock] at hg; omega
theorem OwnZ.slice {B : Nat} {w : World} {v : Value} {l : List Int} (h : OwnZ B w v l) : SliceI w v l := by
  rcases h.2 with ⟨rfl, h2⟩ | ⟨g, cap, cur, hv, hg, hh, h3, h4, h5, h6⟩
  · have : l = [] := List.eq_nil_of_length_eq_zero h2
    subst this
    exact ⟨none, 0, rfl, Nat.le_refl _, Nat.zero_le _, fun hl => by simp at hl⟩
  · refine ⟨some ⟨g, 0, none⟩, cap, hv, h3, h4, fun hl => ?_⟩
    obtain ⟨g', cap', hv', _, hlt, _, _, hc⟩ := h.form hl
    rw [hv'] at hv
    cases hv
    exact ⟨g, 0, rfl, hlt, fun j hj => by have := (hc.out j hj).1; simpa using this⟩
/-- An append of a slice to one of the call's own. -/
theorem wpList_append_z (w : World) {ops : Array Oper} {rest : List Oper} {o : Oper} {a : Act} {Q : Exit → Act → World → Prop} (hgd : o.guard = none) (s x : Operand)
    (ho : o.op = .call { callee := .builtin .append, args := #[s, x], argTypes := #[25, 25] })
    (B : Nat) (v : Value) (l m : List Int) (hs : a.eval s = v) (hown : Hid (OwnZ B w v l)) (p : Addr) (c : Nat) (hx : a.eval x = .slice (some p) m.length c)
    (hp : ∀ j u, (zvals m)[j]? = some u → w.cell? (p.add j) = some u) (hl : l.length + m.length ≤ 10000000) (hB : B ≤ w.heap.size)
    (h : ∀ v' w', Hid (OwnZ B w' v' (l ++ m)) → Hid (Off (fun k => B ≤ k) w w') → (v' = .slice none 0 0 ↔ v = .slice none 0 0 ∧ m.length = 0) → wpList Try.prog ops Q rest (a.put o.dst v') w') : wpList Try.prog ops Q (o :: rest) a w := by
  obtain ⟨i0, hi0, hz0, hz1, hz2⟩ := info_parts info_int
  refine wpList_append_own w hgd s x 25 ho B 3 i0 (.int .i64 0) 1 8 Try.underlying25 hi0 hz0 hz1 hz2 rfl (by decide) v l.length (zvals l) hs hown.out p m.length c (zvals m) hx (by simp [zvals]) hp (by intro u hu; simp [zvals] at hu; obtain ⟨y, _, rfl⟩ := hu; rfl) (by unfold maxLen; omega) (by omega) hB ?_
  intro v' w' ho' hg hi
  refine h v' w' ?_ ⟨hg.os, hg.tape, hg.output, hg.size, fun k hk hs => hg.block k hk fun e => hs (hown.out.lt e.symm)⟩ hi
  show OwnZ B w' _ (l ++ m)
  unfold OwnZ
  have e : zvals (l ++ m) = zvals l ++ zvals m := by simp [zvals]
  rw [e, List.length_append]
  exact ho'
theorem mark_any (i : Nat) (hi : i ≤ 1000) (w : World) : Calls Try.prog 57 #[.int .i64 1, .int .i64 (i : Int)] w fun e w' => e = .returned (.int .i64 (8000024 + (i : Int))) ∧ w = w' := by
  go_enter Try.func57, Try.ntmps57
  go_wp2_with fail
  go_ret
  exact ⟨rfl, rfl⟩
/-- A list's copy, with marks behind it. -/
structure LentAt (G : Nat) (l : List Int) (w : World) (v : Value) : Prop where
  lt : G < w.heap.size
  val : ∃ cap, v = .slice (some ⟨G, 0, none⟩) l.length cap ∧ l.length + 12 ≤ cap ∧ cap ≤ maxLen
  here : ∀ j (hj : j < l.length), w.cell? ⟨G, j, none⟩ = some (.int .i64 l[j])
  behind : ∀ j, j < 12 → w.cell? ⟨G, l.length + j, none⟩ = some (.int .i64 (8000024 + (j : Int)))
theorem LentAt.below {G : Nat} {l : List Int} {w w' : World} {v : Value} (h : LentAt G l w v) (hb : Below w.heap.size w w') : LentAt G l w' v :=
  ⟨Nat.lt_of_lt_of_le h.lt hb.size, h.val, fun j hj => (hb.cell (p := ⟨G, j, none⟩) h.lt).trans (h.here j hj), fun j hj => (hb.cell (p := ⟨G, l.length + j, none⟩) h.lt).trans (h.behind j hj)⟩
theorem LentAt.slice {G : Nat} {l : List Int} {w : World} {v : Value} (h : LentAt G l w v) : SliceI w v l := by
  obtain ⟨cap, h1, h2, h3⟩ := h.val
  exact ⟨some ⟨G, 0, none⟩, cap, h1, by omega, h3, fun _ => ⟨G, 0, rfl, h.lt, fun j hj => by rw [Nat.zero_add]; exact h.here j hj⟩⟩
def marks (k : Nat) : List Int := (List.range k).map fun j : Nat => 8000024 + (j : Int)
theorem marks_succ (k : Nat) : marks (k + 1) = marks k ++ [8000024 + (k : Int)] := by unfold marks; rw [List.range_succ, List.map_append]; rfl

theorem run_make_z (n : Nat) (hn : n ≤ 10000000) (w : World) : ∃ w', Sem.run Try.prog (Instr.makeSlice 25 (.int .i64 0) (.int .i64 (n : Int))) w = .ok (.slice (some ⟨w.heap.size, 0, none⟩) 0 n) w' ∧
    OwnZ w.heap.size w' (.slice (some ⟨w.heap.size, 0, none⟩) 0 n) [] ∧ Below w.heap.size w w' := by
  obtain ⟨i0, hi0, hz0, hz1, hz2⟩ := info_parts info_int
  obtain ⟨w', h1, h2, h3⟩ := run_make_own (w := w) w.heap.size 25 3 i0 (.int .i64 0) 1 Try.underlying25 hi0 hz0 hz1 .i64 .i64 n (by rw [hz2]; omega) (by unfold maxLen; omega) (Nat.le_refl _)
  exact ⟨w', h1, h2, ⟨h3.os, h3.tape, h3.output, h3.size, fun k hk => h3.block k hk (by simp)⟩⟩
theorem marks_length (k : Nat) : (marks k).length = k := by simp [marks]
theorem marks_get (k j : Nat) (h : j < k) : (marks k)[j]'(by rw [marks_length]; exact h) = 8000024 + (j : Int) := by simp [marks]

set_option maxRecDepth 100000 in
theorem lent_any (l : List Int) (v : Value) (w : World) (hv : SliceI w v l) (hnil : ∀ n c, v = .slice none n c → c = 0) (hl : l.length ≤ 1048576) :
    Calls Try.prog 34 #[v] w fun e w' => ∃ G u, e = .returned u ∧ LentAt G l w' u ∧ Below w.heap.size w w' := by
  have HV := Lib.hid hv
  obtain ⟨a, cap, rfl, hcap, hmax, hcells⟩ := hv.at'
  have HCE := Lib.hid hcells
  have HNIL := Lib.hid hnil
  have HMX := Lib.hid hmax
  obtain ⟨w0, hmk, ho, hb0⟩ := run_make_z (l.length + 12) (by omega) w
  have e0 : ((l.length + 12 : Nat) : Int) = (l.length : Int) + 12 := by omega
  rw [e0] at hmk
  have HO := Lib.hid ho
  have HB0 := Lib.hid hb0
  obtain ⟨G0, hG⟩ : ∃ G, w.heap.size = G := ⟨_, rfl⟩
  have HG := Lib.hid hG
  rw [hG] at hmk HO
  have hB0 : G0 ≤ w0.heap.size := by rw [← hG]; exact hb0.size
  clear hv hcells hnil e0 ho hb0 hG hmax
  -- the loop and the end, whatever the copy is
  go_enter Try.func34, Try.ntmps34
  by_cases ha : a = none
  · have hlz : l = [] := by
      rcases Nat.eq_zero_or_pos l.length with h | h
      · exact List.eq_nil_of_length_eq_zero h
      · obtain ⟨b, off, h1, _⟩ := HCE.out h; rw [h1] at ha; cases ha
    subst hlz
    subst ha
    have hc0 : cap = 0 := HNIL.out _ _ rfl
    subst hc0
    obtain ⟨i0, hi0, hz0, hz1, hz2⟩ := info_parts info_int
    have hmk' : Sem.run Try.prog (Instr.makeSlice 25 (.int .i64 0) (.int .i64 12)) w = .ok (.slice (some ⟨G0, 0, none⟩) 0 12) w0 := by simpa using hmk
    have HO' : OwnZ G0 w0 (.slice (some ⟨G0, 0, none⟩) 0 12) [] := HO.out
    have HOO := Lib.hid HO'
    clear hmk HO'
    go_wp2_with (at_builtin; refine wpList_append_own_none rfl _ _ 25 rfl G0 3 i0 1 Try.underlying25 hi0 _ 0 [] rfl HOO.out rfl ?_)
    have hb1 := HB0.out
    have ho1' := HOO.out
    have HB1 := Lib.hid hb1
    have HO1 := Lib.hid ho1'
    clear hb1 ho1'
    go_loopw [3, 4] (fun v i wr => ∃ k : Nat, k ≤ 12 ∧ i = .int .i64 (k : Int) ∧ OwnZ G0 wr v (marks k) ∧ Below w.heap.size w wr) (fun _ i _ => 12 - (intOf i).toNat)
    case atStart => exact ⟨0, by omega, rfl, by have := HO1.out; simpa [marks] using this, HB1.out⟩
    case round =>
      obtain ⟨k, hk, rfl, hO, hB⟩ := hrel
      by_cases hlt : k < 12
      · have hG2 : G0 ≤ wr.heap.size := by rw [← HG.out]; exact hB.size
        have hwr := hB.size
        have HOA := Lib.hid (hO.below (Below.alloc (Below.refl _ _) (Nat.le_refl _) (.cells #[.int .i64 (8000024 + (k : Int))] 3)))
        have HBA := Lib.hid (hB.alloc hB.size (.cells #[.int .i64 (8000024 + (k : Int))] 3))
        have hlen : (marks k).length ≤ 2000000 := by rw [marks_length]; omega
        clear hO hB
        go_wp2_with fail
        refine (mark_any k (by omega) _).mono ?_
        rintro e w3 ⟨rfl, rfl⟩
        go_wp2_with (at_builtin; refine wpList_append_z _ rfl _ _ rfl G0 _ (marks k) [8000024 + (k : Int)] rfl HOA ⟨wr.heap.size, 0, none⟩ 1 rfl (cell_one_at _ _ rfl _ _) (by simp at hlen ⊢; omega) (by simp; omega) ?_; intro v2 w4 ho2 hf2 _)
        go_roundw
        case rel => exact ⟨k + 1, hlt, by go_num, by rw [marks_succ]; exact ho2.out, HBA.out.trans (hf2.out.below (by simp; omega) (fun j hj => by rw [HG.out]; exact hj))⟩
        case measure => simp [intOf]; omega
      · obtain rfl : k = 12 := by omega
        obtain ⟨g, cp, rfl, q1, q2, q3, q4, q5⟩ := hO.form (by rw [marks_length]; omega)
        have hll : (marks 12).length = 12 := marks_length 12
        rw [hll] at q3 ⊢
        have HLL := Lib.hid hll
        have HB := Lib.hid hB
        have HQ := Lib.hid q5
        have HQ4 := Lib.hid q4
        have q7 : cp ≤ 9223372036854775807 := by unfold maxLen at q4; omega
        clear hO hB q5 q4 hlt hll
        go_wp2_with fail
        go_ret
        refine ⟨g, _, rfl, ⟨q2, ⟨cp, rfl, by simpa using q3, HQ4.out⟩, fun j hj => by simp at hj, fun j hj => ?_⟩, HB.out⟩
        have h1 := (HQ.out j (by rw [HLL.out]; exact hj)).1
        rw [show ([] : List Int).length + j = j by simp, h1, marks_get 12 j hj]
  · obtain ⟨p, rfl⟩ : ∃ p, a = some p := by cases a with | none => exact absurd rfl ha | some p => exact ⟨p, rfl⟩
    have hcl : ∀ j u, (zvals l)[j]? = some u → w0.cell? (p.add j) = some u := by
      intro j u hu
      have hj : j < l.length := by
        have := (List.getElem?_eq_some_iff.1 hu).1
        simpa [zvals] using this
      obtain ⟨b, off, h1, h2, h3⟩ := HCE.out (by omega)
      cases h1
      rw [Addr.add_lit]
      have h4 := (HB0.out.cell (p := ⟨b, off + j, none⟩) h2).trans (h3 j hj)
      rw [h4, ← hu]; simp [zvals, hj]
    have HCL := Lib.hid hcl
    clear hcl
    go_wp2_with (at_builtin; refine wpList_append_z _ rfl _ _ rfl G0 _ [] l rfl HO p cap rfl HCL.out (by simp; omega) hB0 ?_; intro v1 w1 ho1 hf1 _)
    have hb1 : Below w.heap.size w w1 := HB0.out.trans (hf1.out.below HB0.out.size (fun k hk => by rw [HG.out]; exact hk))
    have ho1' : OwnZ G0 w1 v1 l := ho1.out
    have HB1 := Lib.hid hb1
    have HO1 := Lib.hid ho1'
    clear hb1 ho1'
    go_loopw [3, 4] (fun v i wr => ∃ k : Nat, k ≤ 12 ∧ i = .int .i64 (k : Int) ∧ OwnZ G0 wr v (l ++ marks k) ∧ Below w.heap.size w wr) (fun _ i _ => 12 - (intOf i).toNat)
    case atStart => exact ⟨0, by omega, rfl, by have := HO1.out; simpa [marks] using this, HB1.out⟩
    case round =>
      obtain ⟨k, hk, rfl, hO, hB⟩ := hrel
      by_cases hlt : k < 12
      · have hG2 : G0 ≤ wr.heap.size := by rw [← HG.out]; exact hB.size
        have hwr := hB.size
        have HOA := Lib.hid (hO.below (Below.alloc (Below.refl _ _) (Nat.le_refl _) (.cells #[.int .i64 (8000024 + (k : Int))] 3)))
        have HBA := Lib.hid (hB.alloc hB.size (.cells #[.int .i64 (8000024 + (k : Int))] 3))
        have hlen : (l ++ marks k).length ≤ 2000000 := by rw [List.length_append, marks_length]; omega
        clear hO hB
        go_wp2_with fail
        refine (mark_any k (by omega) _).mono ?_
        rintro e w3 ⟨rfl, rfl⟩
        go_wp2_with (at_builtin; refine wpList_append_z _ rfl _ _ rfl G0 _ (l ++ marks k) [8000024 + (k : Int)] rfl HOA ⟨wr.heap.size, 0, none⟩ 1 rfl (cell_one_at _ _ rfl _ _) (by simp at hlen ⊢; omega) (by simp; omega) ?_; intro v2 w4 ho2 hf2 _)
        go_roundw
        case rel => exact ⟨k + 1, hlt, by go_num, by rw [marks_succ, ← List.append_assoc]; exact ho2.out, HBA.out.trans (hf2.out.below (by simp; omega) (fun j hj => by rw [HG.out]; exact hj))⟩
        case measure => simp [intOf]; omega
      · obtain rfl : k = 12 := by omega
        obtain ⟨g, cp, rfl, q1, q2, q3, q4, q5⟩ := hO.form (by rw [List.length_append, marks_length]; omega)
        have hll : (l ++ marks 12).length = l.length + 12 := by rw [List.length_append, marks_length]
        rw [hll] at q3 ⊢
        have HLL := Lib.hid hll
        have HB := Lib.hid hB
        have HQ := Lib.hid q5
        have HQ4 := Lib.hid q4
        have q6 : l.length ≤ cp := by omega
        have q7 : cp ≤ 9223372036854775807 := by unfold maxLen at q4; omega
        clear hO hB q5 q4 hlt hll
        go_wp2_with fail
        go_ret
        refine ⟨g, _, rfl, ⟨q2, ⟨cp, rfl, q3, HQ4.out⟩, fun j hj => ?_, fun j hj => ?_⟩, HB.out⟩
        · have := (HQ.out j (by rw [HLL.out]; omega)).1
          rw [this, List.getElem_append_left hj]
        · have := (HQ.out (l.length + j) (by rw [HLL.out]; omega)).1
          rw [this, List.getElem_append_right (by omega)]
          have e : l.length + j - l.length = j := by omega
          simp only [e, marks_get 12 j hj]
end Go.Proofs.Ytodaembemcljnaa
