import Derived.Test.YtijoechhhnagpaaLexI
namespace Go.Proofs.Ytijoechhhnagpaa
open Go.RowKit
attribute [local go_sem] Oper.semAt_some

theorem tokens_any (pc pe : Nat) (w : World) :
    Calls Try.prog 13 #[.pointer (some ⟨pc, 0, none⟩), .pointer (some ⟨pe, 0, none⟩)] w fun e w' =>
      e = .returned (.func (.func 16) #[] #[.pointer (some ⟨w.heap.size, 0, none⟩), .pointer (some ⟨w.heap.size + 1, 0, none⟩)]) ∧
      (w.alloc (.cells #[.pointer (some ⟨pc, 0, none⟩)] 36)).alloc (.cells #[.pointer (some ⟨pe, 0, none⟩)] 44) = w' := by
  go_enter Try.func13, Try.ntmps13
  go_wp2_with fail
  go_ret
  exact ⟨rfl, rfl⟩

theorem ownsRow_only {own : Nat → Prop} {A B : World} {base : Nat} {e : TypeId} {size : Nat} {v : Value} {n : Nat} {xs : List Value} (h : A.ownsRow base e size v n xs) (ho : Only own A B) (hs : ∀ k, own k → k < base) : B.ownsRow base e size v n xs := by
  refine ⟨h.1, ?_⟩
  rcases h.2 with hn | ⟨g, cap, cur, rfl, hb, hg, rest⟩
  · exact .inl hn
  · exact .inr ⟨g, cap, cur, rfl, hb, (ho.block g (lt_of_block hg) (fun h => by have := hs g h; omega)).trans hg, rest⟩

theorem Try.info31 : (Try.prog.info? 31).map (fun i => (i.zero, i.size, i.bytes)) = some (some (.agg #[.int .u8 0, .string ⟨#[]⟩, .int .i64 0]), 3, 32) := by kernel_rfl

theorem heap_at_alloc (w : World) (o : Obj) (k : Nat) : (w.alloc o).heap[k]? = if k = w.heap.size then some o else w.heap[k]? := by
  show (w.heap.push o)[k]? = _; rw [Array.getElem?_push]

/-- What Lex leaves: the tokens in a slice of its own. -/
def LexPost (s : ByteArray) (w : World) (e : Ending) (w' : World) : Prop :=
  ∃ v, e = .returned (.tuple #[v, .int .i64 ((lexS s).2.1 : Int), .int .i64 (lexS s).2.2]) ∧ w'.ownsRow w.heap.size 31 3 v (lexS s).1.length ((lexS s).1.flatMap fun t => (tokCells t).toList) ∧ Below w.heap.size w w'

theorem lexL_length (s : ByteArray) : ∀ (f i : Nat), (lexL s f i).1.length ≤ f
  | 0, _ => Nat.zero_le _
  | f + 1, i => by
    simp only [lexL]
    split
    · simp
    · split
      · simpa using lexL_length s f _
      · simp

theorem cell_three_new (w : World) (a b c : Value) (t : TypeId) : ∀ j u, [a, b, c][j]? = some u → (w.alloc (.cells #[a, b, c] t)).cell? ((⟨w.heap.size, 0, none⟩ : Addr).add j) = some u := by
  intro j u hu
  have hj : j < 3 := by have := (List.getElem?_eq_some_iff.1 hu).1; simpa using this
  rw [Addr.add_lit, Nat.zero_add, World.cell?_alloc_at _ _ _ _ rfl]
  simpa using hu

theorem box_grown {W2 w1 : World} {base b : Nat} {e : TypeId} {size : Nat} {v : Value} {n : Nat} {xs : List Value} {o : Obj} {u : Value} {t : TypeId} (hrow : W2.ownsRow base e size v n xs) (hg : (W2.alloc o).grownBy w1 v.ownBlock)
    (hb : W2.heap[b]? = some (.cells #[u] t (0, 0))) (hlt : b < base) : w1.heap[b]? = some (.cells #[u] t (0, 0)) :=
  (hg.block b (by have := lt_of_block hb; simp; omega) (fun e => by have := (hrow.lt _ e.symm).1; omega)).trans ((heap_alloc_old _ _ (h := lt_of_block hb)).trans hb)

theorem ownsRow_base {W : World} {base base' : Nat} {e : TypeId} {size : Nat} {v : Value} {n : Nat} {xs : List Value} (h : W.ownsRow base e size v n xs) (hb : base' ≤ base) : W.ownsRow base' e size v n xs := by
  refine ⟨h.1, ?_⟩
  rcases h.2 with hn | ⟨g, cap, cur, rfl, hg, rest⟩
  · exact .inl hn
  · exact .inr ⟨g, cap, cur, rfl, Nat.le_trans hb hg, rest⟩
theorem _root_.Go.RowKit.Below.putObj {B : Nat} {a w : World} (h : Below B a w) {l : Nat} (hl : B ≤ l) (o : Obj) : Below B a (w.putObj l o) :=
  h.trans ⟨rfl, rfl, rfl, by simp, fun k hk => World.putObj_heap_other (by omega)⟩

set_option maxHeartbeats 1000000 in
theorem lex_any (s : ByteArray) (w : World) (hs : s.size ≤ 9223372036854775807) : Calls Try.prog 9 #[.string s] w (LexPost s w) := by
  by_cases hz : s.size ≤ 16384
  · refine (callsIn_wide (n := 3)).1 (callsIn_of_wp_marks Try.func9 rfl trivial (wpIn_wide.2 ?_))
    simp only [Try.ntmps9, List.size_toArray, List.length_cons, List.length_nil, Nat.reduceAdd, Nat.reduceSub, Array.replicate_succ,
     Array.replicate_zero, List.push_toArray, List.append_toArray, List.nil_append, List.cons_append]
    go_wp2_with fail
    refine (tokens_any _ _ _).mono ?_
    rintro e w' ⟨rfl, rfl⟩
    go_wp2_with fail
    obtain ⟨W5, hW5⟩ : ∃ W5, ((((w.alloc (.cells #[.int .i64 0, .string s] 40)).alloc (.cells #[.int .i64 0] 24)).alloc (.cells #[.slice none 0 0] 23)).alloc (.cells #[.pointer (some ⟨w.heap.size, 0, none⟩)] 36)).alloc (.cells #[.pointer (some ⟨w.heap.size + 1, 0, none⟩)] 44) = W5 := ⟨_, rfl⟩
    have hsz : W5.heap.size = w.heap.size + 5 := by rw [← hW5]; simp
    have hbW : Below w.heap.size w W5 := by rw [← hW5]; exact (by repeat (first | exact Below.refl _ _ | assumption | refine Below.alloc ?_ (by simp; try omega) _ | refine Below.drew ?_ | refine Below.setCell ?_ (by simp; try omega) _))
    have hA : At ⟨w.heap.size, w.heap.size + 1, w.heap.size + 3, w.heap.size + 4⟩ s 0 0 W5 := by
      rw [← hW5]
      refine ⟨?_, ?_, ?_, ?_⟩
      all_goals
        simp only [heap_at_alloc, World.size_alloc]
        (repeat (first | rw [if_pos (by omega)] | rw [if_neg (by omega)]))
        try rfl
    have hO : W5.heap[w.heap.size + 2]? = some (.cells #[.slice none 0 0] 23 (0, 0)) := by
      rw [← hW5]
      simp only [heap_at_alloc, World.size_alloc]
      (repeat (first | rw [if_pos trivial] | rw [if_pos (by omega)] | rw [if_neg (by omega)]))
    rw [hW5]
    have HW5 := Lib.hid hW5
    clear hW5
    have hseq := tokens1_seq ⟨w.heap.size, w.heap.size + 1, w.heap.size + 3, w.heap.size + 4⟩ ⟨by simp, by simp, by simp, by simp, by simp⟩ s hz 2
    obtain ⟨full, hfull⟩ : ∃ x, (lexL s (s.size + 1) 0).1 = x := ⟨_, rfl⟩
    obtain ⟨fin, hfin⟩ : ∃ x, (lexL s (s.size + 1) 0).2 = x := ⟨_, rfl⟩
    rw [hfull, hfin] at hseq
    have hlen : full.length ≤ s.size + 1 := by rw [← hfull]; exact lexL_length _ _ _
    have HF := Lib.hid (And.intro hfull hfin)
    clear hfull hfin
    refine wpIn_wide.1 (wpIn_rangeFunc_cells (F := Fence.wide) (n := 3) rfl (by omega) rfl trivial Try.call16 hseq (fun _ => rfl) ?hlt
      (fun pre W => ∃ v, W.heap[w.heap.size + 2]? = some (.cells #[v] 23 (0, 0)) ∧ W.ownsRow (w.heap.size + 7) 31 3 v pre.length (pre.flatMap fun t => (tokCells t).toList) ∧ Below w.heap.size w W)
      (fun _ _ _ => False) ?hI ?hIx ?hPre ?h0 ?hround ?hdone ?hstop ?hS)
    case hlt => intro k hk; unfold Blocks.own at hk; simp only at hk; omega
    case hI =>
      rintro pre A B ⟨v, h1, h2, h3⟩ ho
      have hown : ∀ k, (Blocks.own ⟨w.heap.size, w.heap.size + 1, w.heap.size + 3, w.heap.size + 4⟩ k ∨ k = W5.heap.size ∨ k = W5.heap.size + 1) → w.heap.size ≤ k ∧ k < w.heap.size + 7 ∧ k ≠ w.heap.size + 2 := by
        intro k hk; unfold Blocks.own at hk; simp only at hk; omega
      exact ⟨v, (ho.block _ (lt_of_block h1) (fun h => by have := hown _ h; omega)).trans h1, ownsRow_only h2 ho (fun k h => (hown k h).2.1), h3.trans (ho.below (fun k h => (hown k h).1) h3.size)⟩
    case hIx => exact fun _ _ _ _ h _ => h.elim
    case hPre => exact fun W h => hA.below h
    case h0 => exact ⟨_, hO, World.ownsRow_nil _ _ _ _, hbW⟩
    case hround =>
      rintro l pre x W ⟨v, h1, h2, h3⟩ hsz1 hpre
      simp only [tokVal, tokCells, List.zip_toArray, List.zip_cons_cons, List.zip_nil_left]
      gi_wp2
      refine ⟨KeepOwn.alloc _ _ _, fun W2 ho2 hk2 hs2 => ?_⟩
      have hx2 : W2.heap[W.heap.size]? = some (.cells #[.int .u8 x.kind, .string x.text, .int .i64 (x.at_ : Int)] 31 (0, 0)) :=
        (hk2.same _ (by omega) (by simp)).trans (heap_alloc_new _ _)
      have hv2 : W2.heap[w.heap.size + 1 + 1]? = some (.cells #[v] 23 (0, 0)) :=
        (hk2.same _ (by omega) (by have := lt_of_block h1; simp; omega)).trans ((heap_alloc_old _ _ (h := by have := lt_of_block h1; omega)).trans h1)
      have hrow := ownsRow_only (h2.alloc (.cells #[.int .u8 x.kind, .string x.text, .int .i64 (x.at_ : Int)] 31)) ho2 (fun k hk => by omega)
      have hbW2 : Below w.heap.size w W2 := (h3.alloc h3.size _).trans (ho2.below (fun k hk => by omega) (by have := h3.size; simp; omega))
      have hsz2 : w.heap.size + 7 ≤ W2.heap.size := by omega
      have HH := Lib.hid (And.intro hbW2 (And.intro hs2 (And.intro hv2 hpre)))
      have cv := cell_of_one hv2
      have x0 : W2.cell? ⟨W.heap.size, 0, none⟩ = some (.int .u8 x.kind) := by rw [cell_of_row _ _ _ _ _ _ hx2]; rfl
      have x1 : W2.cell? ⟨W.heap.size, 1, none⟩ = some (.string x.text) := by rw [cell_of_row _ _ _ _ _ _ hx2]; rfl
      have x2 : W2.cell? ⟨W.heap.size, 2, none⟩ = some (.int .i64 (x.at_ : Int)) := by rw [cell_of_row _ _ _ _ _ _ hx2]; rfl
      have hplen : pre.length + 1 ≤ s.size + 1 := by have := hpre.length_le; simp at this; omega
      clear h1 h2 h3 ho2 hk2 hx2 hpre hbW2 hs2 hv2
      obtain ⟨i0, hi, hz0, hz1, hz2⟩ := info_parts Try.info31
      have hcells := cell_three_new W2 (.int .u8 x.kind) (.string x.text) (.int .i64 (x.at_ : Int)) 31
      have HC := Lib.hid hcells
      clear hcells
      gi_wp2_with (gi_at_builtin; refine wpListIn_append_own _ rfl _ _ 23 rfl (w.heap.size + 7) 31 i0 (.agg #[.int .u8 0, .string ⟨#[]⟩, .int .i64 0]) 3 32 Try.underlying23 hi hz0 hz1 hz2 rfl (by decide) _ _ _ rfl (hrow.alloc _) ⟨W2.heap.size, 0, none⟩ 1 1 [.int .u8 x.kind, .string x.text, .int .i64 (x.at_ : Int)] rfl rfl HC.out (by simp [Value.oneCell']) (by unfold maxLen; omega) (by omega) (by simp; omega) ?_; intro v' w1 hown' hgrow _; obtain ⟨g', cap', rfl⟩ := ownsRow_succ hown'; have hv1 := box_grown hrow hgrow (HH.out.2.2.1) (by omega); have hcv := cell_of_one hv1; have hfv := free_of_one hv1)
      have hne : ∀ k, v.ownBlock = some k → w.heap.size + 7 ≤ k := fun k e => (hrow.lt k e).1
      refine ⟨((KeepOwn.alloc _ _ _).trans (KeepOwn.grown hgrow (fun k e h => by have := hne k e; unfold Blocks.own at h; simp only at h; omega))).trans (KeepOwn.setCell (fun h => by unfold Blocks.own at h; simp only at h; omega) _), _, one_setCell hv1, ?_, ?_⟩
      · have := ownsRow_setCell_below hown' (a := ⟨w.heap.size + 1 + 1, 0, none⟩) (by simp) (.slice (some ⟨g', 0, none⟩) (pre.length + 1) cap')
        simpa [tokCells] using this
      · exact (((HH.out.1.alloc HH.out.1.size _).grown hgrow (by simp; omega) (fun k e => by have := hne k e; omega)).setCell (by simp; omega) _)
    case hdone =>
      rintro W ⟨v, h1, h2, h3⟩ hS hD
      dsimp only
      obtain ⟨c0, c1, c2, c3, c4, c5, c6⟩ := hS.cells
      have cv : W.cell? ⟨w.heap.size + 1 + 1, 0, none⟩ = some v := cell_of_one h1
      have HH := Lib.hid (And.intro h1 (And.intro h2 h3))
      have hlex : lexS s = if fin.2 = 0 then (full, 0, 0) else ([], fin) := by
        unfold lexS; rw [if_neg (by omega), HF.out.1, HF.out.2]
      have HL := Lib.hid hlex
      clear h1 h2 h3 hlex
      dsimp only at c0 c1 c2 c3 c4 c5 c6
      by_cases hfe : fin.2 = 0
      · have hb1 : (fin.2 == 0) = true := by simpa using hfe
        have hb2 : (fin.2 != 0) = false := by simp [hfe]
        have HFE := Lib.hid hfe
        clear hfe
        go_wp2_with fail
        rw [hsz] at hD
        refine ⟨by simp, .inl ⟨_, _, rfl, run_takeDeferred hD, ?_⟩⟩
        refine ⟨_, results_tmp3 rfl _ _ _, v, ?_, ?_, ?_⟩
        · rw [HL.out, if_pos HFE.out]; rfl
        · rw [HL.out, if_pos HFE.out]; exact ownsRow_base (ownsRow_putObj HH.out.2.1 _ hD rfl) (by omega)
        · exact HH.out.2.2.putObj (by omega) _
      · have hb1 : (fin.2 == 0) = false := by simpa using hfe
        have hb2 : (fin.2 != 0) = true := by simpa using hfe
        have HFE := Lib.hid hfe
        clear hfe
        go_wp2_with fail
        go_quiet (fail)
        go_wp2_with fail
        rw [hsz] at hD
        refine ⟨by simp, .inl ⟨_, _, rfl, run_takeDeferred (w := W.drewN nq) hD, ?_⟩⟩
        refine ⟨_, results_tmp3 rfl _ _ _, .slice none 0 0, ?_, ?_, ?_⟩
        · rw [HL.out, if_neg HFE.out]; rfl
        · rw [HL.out, if_neg HFE.out]; exact World.ownsRow_nil _ _ _ _
        · exact (below_drewN HH.out.2.2 nq).putObj (by omega) _
    case hstop => exact fun _ _ _ _ h _ => h.elim
    case hS => exact fun A B h ho => h.keep ⟨ho.size, fun k hk hl => ho.block k hl (fun e => by unfold Blocks.own at hk; simp only at hk; omega)⟩
  · go_enter Try.func9, Try.ntmps9
    have hlex : lexS s = ([], 0, 3) := by unfold lexS; rw [if_pos (by omega)]
    have HL := Lib.hid hlex
    clear hlex
    go_wp2_with fail
    go_ret3
    exact ⟨.slice none 0 0, by rw [HL.out]; rfl, by rw [HL.out]; exact World.ownsRow_nil _ _ _ _, Below.refl _ _⟩

end Go.Proofs.Ytijoechhhnagpaa
