import Derived.Test.YtollifednpjkeaaTextH
import Derived.Maps.OwnIn
import Derived.RangeFuncBox
/-
  Prefix texts.
-/
namespace Go.Proofs.Ytollifednpjkeaa
open Go.RowKit
attribute [local go_sem] Oper.semAt_some

theorem trimW_le (s : ByteArray) : (trimW s).size ≤ s.size := by
  have h : (trimW s).size = (Lib.trimSuffix s.data.toList [32]).length := rfl
  rw [h]; unfold Lib.trimSuffix
  have h2 : s.data.toList.length = s.size := by simp
  split
  · rw [List.length_take]; omega
  · omega
theorem headW_le (o : Int) (n : ByteArray) (a : List Tm) (b : Bool) : (headW o n a b).size ≤ n.size + 7 + 4 * wts a := by
  have h1 := trimW_le (bif b then simpleTx ⟨#[44]⟩ o n a else sgT o.toNat ++ n)
  have h2 := simpleTx_le ⟨#[44]⟩ o n a (by decide)
  have h3 := sgT_name_le o.toNat n
  unfold headW
  cases b
  · simp only [cond_false] at *; omega
  · simp only [cond_true] at *; omega
mutual
theorem Fm.pw_le (f : Fm) : sumSz 1 f.pw ≤ 20 * f.wt ∧ f.pw.length ≤ f.wt := by
  cases f with
  | mk o n a s =>
    have h1 := pws_le s
    have h2 := headW_le o n a s.isEmpty
    simp only [Fm.pw, Fm.wt, sumSz, List.length_cons]; omega
theorem pws_le (l : List Fm) : sumSz 1 (pws l) ≤ 20 * wfs l ∧ (pws l).length ≤ wfs l := by
  cases l with
  | nil => exact ⟨Nat.zero_le _, Nat.zero_le _⟩
  | cons f r =>
    have h1 := f.pw_le
    have h2 := pws_le r
    have h3 : ∀ (x y : List ByteArray), sumSz 1 (x ++ y) = sumSz 1 x + sumSz 1 y := fun x y => by
      induction x with
      | nil => simp [sumSz]
      | cons z x ih => simp only [List.cons_append, sumSz, ih]; omega
    simp only [pws, wfs, h3, List.length_append]; omega
end

theorem ownsRow_belowC {W W' : World} {base : Nat} {e : TypeId} {k : Nat} {v : Value} {n : Nat} {xs : List Value} {m : Nat} (h : W.ownsRow base e k v n xs) (hb : BelowC m W W') : W'.ownsRow base e k v n xs := by
  refine ⟨h.1, ?_⟩
  rcases h.2 with ⟨rfl, hx⟩ | ⟨g, cap, cur, rfl, hg, hh, hn, hm, hs, ht⟩
  · exact .inl ⟨rfl, hx⟩
  · exact .inr ⟨g, cap, cur, rfl, hg, hb.cells _ _ hh rfl, hn, hm, hs, ht⟩

theorem box_grown {W2 w1 : World} {base b : Nat} {e : TypeId} {size : Nat} {v : Value} {n : Nat} {xs : List Value} {o : Obj} {u : Value} {t : TypeId} (hrow : W2.ownsRow base e size v n xs) (hg : (W2.alloc o).grownBy w1 v.ownBlock)
    (hb : W2.heap[b]? = some (.cells #[u] t (0, 0))) (hlt : b < base) : w1.heap[b]? = some (.cells #[u] t (0, 0)) :=
  (hg.block b (by have := lt_of_block hb; simp; omega) (fun e => by have := (hrow.lt _ e.symm).1; omega)).trans ((heap_alloc_old _ _ (h := lt_of_block hb)).trans hb)

/-- The words so far, in a slice of one's own. -/
structure GotWords (B : Nat) (w : World) (pre : List ByteArray) (K : Nat → Prop) (W : World) : Prop where
  at' : ∃ v, W.heap[B]? = some (.cells #[v] 53 (0, 0)) ∧ W.ownsRow (B + 1) 9 1 v pre.length (pre.map Value.string) ∧ ∀ g, v.ownBlock = some g → ¬ K g
  no : ¬ K B
  lt : ∀ k, K k → k < W.heap.size
  below : Below w.heap.size w W
theorem GotWords.up {B : Nat} {w : World} {pre : List ByteArray} {K K' : Nat → Prop} {A C : World} {m : Nat} (h : GotWords B w pre K A) (hm : w.heap.size ≤ m) (hb : BelowC m A C) (hg : Grows K K' A C) : GotWords B w pre K' C := by
  obtain ⟨⟨v, h1, h2, h3⟩, h4, h5, h6⟩ := h
  refine ⟨⟨v, hb.cells _ _ h1 rfl, ownsRow_belowC h2 hb, fun g hv hk => ?_⟩, fun hk => ?_, fun k hk => ?_, h6.trans (hb.below.mono hm)⟩
  · rcases hg.new g hk with h | h
    · exact h3 g hv h
    · have := (h2.lt g hv).2; omega
  · rcases hg.new B hk with h | h
    · exact h4 h
    · have := lt_of_block h1; omega
  · rcases hg.new k hk with h | h
    · have := h5 k h; have := hb.size; omega
    · exact h.2

set_option maxRecDepth 100000 in
set_option maxHeartbeats 4000000 in
theorem prefixC_any (f : Fm) (hf : f.wt ≤ 10000000) (b : Nat) (w : World) (hb : FmBox b f w) (hok : okB f = true) :
    Calls Try.prog 29 #[.pointer (some ⟨b, 0, none⟩)] w fun e w' => e = .returned (.string (joinS ⟨#[32]⟩ f.pw)) ∧ Below w.heap.size w w' := by
  obtain ⟨hl, ax, cx, ay, cy, c0, c1, c2, c3, hv⟩ := hb
  have hsh : f.sh true = true := by unfold okB at hok; simp only [Bool.and_eq_true] at hok; exact hok.2
  obtain ⟨FW, hFW⟩ : ∃ FW, f.pw = FW := ⟨_, rfl⟩
  have hle := f.pw_le
  rw [hFW] at hle ⊢
  refine (callsIn_wide (n := 3)).1 (callsIn_of_wp_marks Try.func29 rfl trivial (wpIn_wide.2 ?_))
  simp only [Try.ntmps29, List.size_toArray, List.length_cons, List.length_nil, Nat.reduceAdd, Nat.reduceSub, Array.replicate_succ, Array.replicate_zero, List.push_toArray, List.append_toArray, List.nil_append, List.cons_append]
  obtain ⟨w1, hw1⟩ : ∃ w1, w.alloc (.cells #[.slice none 0 0] 53) = w1 := ⟨_, rfl⟩
  have hb1 : Below w.heap.size w w1 := by rw [← hw1]; exact (Below.refl _ _).alloc (Nat.le_refl _) _
  have hs1 : w1.heap.size = w.heap.size + 1 := by rw [← hw1]; simp
  have hp1 : w1.heap[w.heap.size]? = some (.cells #[.slice none 0 0] 53 (0, 0)) := by rw [← hw1]; exact World.alloc_heap_new _ _
  have d0 := (hb1.cell (p := ⟨b, 0, none⟩) hl).trans c0
  have d1 := (hb1.cell (p := ⟨b, 1, none⟩) hl).trans c1
  have d2 := (hb1.cell (p := ⟨b, 2, none⟩) hl).trans c2
  have d3 := (hb1.cell (p := ⟨b, 3, none⟩) hl).trans c3
  obtain ⟨w2, hw2⟩ : ∃ w2, w1.alloc (.cells #[.int .u8 f.op, .string f.name, .slice ax f.args.length cx, .slice ay f.sub.length cy] 25) = w2 := ⟨_, rfl⟩
  have hb2 : Below w1.heap.size w1 w2 := by rw [← hw2]; exact (Below.refl _ _).alloc (Nat.le_refl _) _
  have hs2 : w2.heap.size = w1.heap.size + 1 := by rw [← hw2]; simp
  have z0 : w2.cell? ⟨w1.heap.size, 0, none⟩ = some (.int .u8 f.op) := by rw [← hw2, World.cell?_alloc_at _ _ _ _ rfl]; rfl
  have z1 : w2.cell? ⟨w1.heap.size, 1, none⟩ = some (.string f.name) := by rw [← hw2, World.cell?_alloc_at _ _ _ _ rfl]; rfl
  have z2 : w2.cell? ⟨w1.heap.size, 2, none⟩ = some (.slice ax f.args.length cx) := by rw [← hw2, World.cell?_alloc_at _ _ _ _ rfl]; rfl
  have z3 : w2.cell? ⟨w1.heap.size, 3, none⟩ = some (.slice ay f.sub.length cy) := by rw [← hw2, World.cell?_alloc_at _ _ _ _ rfl]; rfl
  have hp2 : w2.heap[w.heap.size]? = some (.cells #[.slice none 0 0] 53 (0, 0)) := (hb2.block _ (by omega)).trans hp1
  have hbw : Below w.heap.size w w2 := hb1.trans (hb2.mono (by omega))
  have HS := Lib.hid (And.intro hs1 hs2)
  have hsz : w1.heap.size < w2.heap.size ∧ w.heap.size < w1.heap.size ∧ w2.heap.size ≤ w.heap.size + 2 := by omega
  clear hs1 hs2 hp1
  go_wp2_with fail
  refine (words_mk _ _ _ _ _).mono ?_
  rintro e w2' ⟨rfl, rfl⟩
  rw [hw2]
  clear hw1 hw2 d0 d1 d2 d3 c0 c1 c2 c3
  go_wp2_with fail
  have hLo : ∀ k, (k < w.heap.size ∨ k = w1.heap.size) → k < w2.heap.size := fun k h => by omega
  have hseq := words_seq w f.wt f (Nat.le_refl _) hf hsh ax cx ay cy hv w1.heap.size (3 - 1) (fun k => k < w.heap.size ∨ k = w1.heap.size) (fun k h => .inl h) (.inr rfl)
  refine wpIn_wide.1 (wpIn_rangeFunc_newS (F := Fence.wide) (n := 3) rfl (by omega) rfl trivial Try.call57 hseq (fun _ => rfl) hLo
    (fun pre K W => GotWords w.heap.size w pre K W) (fun _ _ _ _ => False) ?hI ?hIx ?hPre ?h0 ?hround ?hdone ?hstop)
  case hI => exact fun s K K' A B h hb hg => h.up (by omega) hb hg
  case hIx => exact fun _ _ _ _ _ _ h _ _ => h.elim
  case hPre =>
    exact fun W hb => ⟨Holds.of_below (hbw.trans (hb.mono (by omega))), (hb.cell (p := ⟨w1.heap.size, 0, none⟩) hsz.1).trans z0, (hb.cell (p := ⟨w1.heap.size, 1, none⟩) hsz.1).trans z1, (hb.cell (p := ⟨w1.heap.size, 2, none⟩) hsz.1).trans z2, (hb.cell (p := ⟨w1.heap.size, 3, none⟩) hsz.1).trans z3⟩
  case h0 => exact ⟨⟨_, hp2, World.ownsRow_nil _ _ _ _, fun g h => by cases h⟩, fun h => by omega, hLo, hbw⟩
  case hround =>
    rintro l pre x K W hl2 hKl hLK hKL hG hpre
    simp only [List.zip_toArray, List.zip_cons_cons, List.zip_nil_left]
    have hWl := hKL l hKl
    have HLK := Lib.hid hLK
    clear hLK hKL
    gi_wp2
    refine ⟨KeepOwn.refl _ _, fun W2 ho2 hk2 hr2 hc2 => ?_⟩
    obtain ⟨⟨v, h1, h2, h3⟩, h4, h5, h6⟩ := hG.up (m := w2.heap.size) (by omega) (BelowC.of_only ho2 (by omega) (by omega) hc2) (Grows.refl _ _ _)
    have hsz2 := h6.size
    have cv := cell_of_one h1
    have HH := Lib.hid (And.intro h1 (And.intro h2 (And.intro h3 (And.intro h4 (And.intro h5 h6)))))
    have hplen : pre.length + 1 ≤ 10000000 := by rw [hFW] at hpre; omega
    have hlt2 := h2.lt
    have HLT := Lib.hid hlt2
    clear h3 h5 h6 ho2 hk2 hc2 hG h4 hlt2
    obtain ⟨i0, hi, hz0, hz1, hz2⟩ := info_parts Try.info9
    have HC := Lib.hid (cell_one_at W2 W2.heap.size rfl (.string x) 9)
    gi_wp2_with (gi_at_builtin; refine wpListIn_append_own_at _ rfl _ _ 53 rfl (w.heap.size + 1) 9 i0 (.string ⟨#[]⟩) 1 16 Try.underlying53 hi hz0 hz1 hz2 rfl (by decide) _ _ _ rfl (h2.alloc _) ⟨W2.heap.size, 0, none⟩ 1 1 [.string x] rfl rfl HC.out (by simp [Value.oneCell']) (by unfold maxLen; omega) (by omega) (by simp; omega) ?_; intro v' w3 hown' hgrow _ hat; obtain ⟨g', cap', rfl⟩ := ownsRow_succ hown'; have hv1 := box_grown h2 hgrow h1 (by omega); have hcv := cell_of_one hv1; have hfv := free_of_one hv1)
    obtain ⟨q1, q2, q3, q4, q5, q6⟩ := HH.out
    have hbf : Below w.heap.size W2 (w3.setCell ⟨w.heap.size, 0, none⟩ (.slice (some ⟨g', 0, none⟩) (pre.length + 1) cap')) :=
      (((Below.refl w.heap.size W2).alloc (by omega) _).grown hgrow (by simp; omega) (fun k e => by have := (HLT.out k e).1; omega)).setCell (Nat.le_refl _) _
    refine ⟨((KeepOwn.alloc _ _ _).trans (KeepOwn.grown hgrow (fun k e => q3 k e))).trans (KeepOwn.setCell q4 _), ⟨⟨_, one_setCell hv1, ?_, fun g hg hk => ?_⟩, q4, fun k hk => Nat.lt_of_lt_of_le (q5 k hk) hbf.size, q6.trans hbf⟩⟩
    · have := ownsRow_setCell_below hown' (a := ⟨w.heap.size, 0, none⟩) (by simp) (.slice (some ⟨g', 0, none⟩) (pre.length + 1) cap')
      simpa using this
    · rcases hat with h | h
      · exact q3 g (h.symm.trans hg) hk
      · rw [hg] at h
        have h2 := Option.some.inj h
        have h3 := q5 g hk
        simp at h2; omega
  case hdone =>
    rintro xs K W hxs ⟨⟨v, h1, h2, h3⟩, h4, h5, h6⟩ hK hD
    rw [hxs, hFW] at h2
    have cv := cell_of_one h1
    have HS := Lib.hid (StrsAt.of_owns h2)
    have hml : FW.length ≤ 100000000 := by omega
    have hjl := joinS_le ⟨#[32]⟩ FW
    have hjl2 : (joinS ⟨#[32]⟩ FW).size ≤ 10000000000 := by
      have : (⟨#[32]⟩ : ByteArray).size = 1 := rfl
      rw [this] at hjl; omega
    have HJ := Lib.hid hjl2
    obtain ⟨a2, cap2, rfl, _⟩ := StrsAt.of_owns h2
    clear h1 h2 h3 h5 hjl hjl2 hxs
    go_wp2_with fail
    refine (sJoin_any _ _ _ _ HS.out hml HJ.out).mono ?_
    rintro e w4 ⟨rfl, hb4⟩
    go_wp2_with fail
    refine leaves_of_marks (B := w.heap.size) [w2.heap.size] _ (by simp) (fun D hD' => ?_) (fun W' hb => ⟨_, results_tmp rfl _ _ _, rfl, (h6.trans (hb4.mono h6.size)).trans hb⟩)
    obtain rfl : D = w2.heap.size := by simpa using hD'
    exact ⟨by omega, (hb4.block _ (lt_of_block hD)).trans hD⟩
  case hstop => exact fun _ _ _ _ _ h _ _ => h.elim

theorem prefix_any (f : Fm) (hf : f.wt ≤ 10000000) (v : Value) (w : World) (hv : FmVal w v f) :
    Calls Try.prog 11 #[v] w fun e w' => e = .returned (ansR (okB f) (joinS ⟨#[32]⟩ f.pw)) ∧ Below w.heap.size w w' := by
  have hv' := hv
  obtain ⟨x, y, rfl, hx, hy, hz⟩ := hv
  obtain ⟨ax, cx, rfl, -⟩ := hx.at
  obtain ⟨ay, cy, rfl, -⟩ := hy.at
  obtain ⟨wb, hwb⟩ : ∃ wb, w.alloc (.cells #[.int .u8 f.op, .string f.name, .slice ax f.args.length cx, .slice ay f.sub.length cy] 25) = wb := ⟨_, rfl⟩
  have hbb : Below w.heap.size w wb := by rw [← hwb]; exact (Below.refl _ _).alloc (Nat.le_refl _) _
  have f0 : wb.cell? ⟨w.heap.size, 0, none⟩ = some (.int .u8 f.op) := by rw [← hwb, World.cell?_alloc_at _ _ _ _ rfl]; rfl
  have f1 : wb.cell? ⟨w.heap.size, 1, none⟩ = some (.string f.name) := by rw [← hwb, World.cell?_alloc_at _ _ _ _ rfl]; rfl
  have f2 : wb.cell? ⟨w.heap.size, 2, none⟩ = some (.slice ax f.args.length cx) := by rw [← hwb, World.cell?_alloc_at _ _ _ _ rfl]; rfl
  have f3 : wb.cell? ⟨w.heap.size, 3, none⟩ = some (.slice ay f.sub.length cy) := by rw [← hwb, World.cell?_alloc_at _ _ _ _ rfl]; rfl
  have hBl : w.heap.size < wb.heap.size := by rw [← hwb]; simp
  have hvb := hv'.up hbb
  have hbx : FmBox w.heap.size f wb := ⟨hBl, _, _, _, _, f0, f1, f2, f3, hvb⟩
  have H := Lib.hid (checked_any 29 _ _ f hf _ wb hvb Try.call29 (fun hok W hb => prefixC_any f hf w.heap.size W (hbx.up hb) hok))
  clear hv' hvb hbx
  go_enter Try.func11, Try.ntmps11
  go_wp2_with fail
  refine H.out.mono ?_
  rintro e w2 ⟨rfl, hb2⟩
  unfold ansR
  go_wp2_with fail
  go_ret2
  exact ⟨rfl, hbb.trans (hb2.mono hbb.size)⟩

end Go.Proofs.Ytollifednpjkeaa
