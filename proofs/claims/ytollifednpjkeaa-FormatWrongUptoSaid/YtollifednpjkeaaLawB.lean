import Derived.Test.YtollifednpjkeaaLawA
/-
  FormatWrong.
-/
namespace Go.Proofs.Ytollifednpjkeaa
open Go.RowKit

theorem ok_of_head {f : Fm} (h : headOk true f.op f.name f.args.length f.sub.length = false) : okB f = false := by
  unfold okB; rw [f.sh_eq, h, Bool.false_and, Bool.and_false]
theorem head_nm {o : Int} {n : ByteArray} {a s : Nat} (h : (rowD o.toNat).nm n = false) : headOk true o n a s = false := by
  unfold headOk; rw [h]; simp
theorem head_sub {o : Int} {n : ByteArray} {a s : Nat} (h : s ≠ (rowD o.toNat).sb) : headOk true o n a s = false := by
  unfold headOk; rw [decide_eq_false h]; simp
theorem head_args {o : Int} {n : ByteArray} {a s : Nat} (h : ¬ a ≤ (rowD o.toNat).ar) : headOk true o n a s = false := by
  unfold headOk; rw [decide_eq_false h]; simp
theorem head_op {o : Int} {n : ByteArray} {a s : Nat} (h : ¬ (1 ≤ o ∧ o ≤ 16)) : headOk true o n a s = false := by
  unfold headOk; rw [decide_eq_false h]; simp

/-- The six wrong formulas. -/
def badF (f : Fm) (t : Tm) : Nat → Fm
  | 0 => .mk 3 ⟨#[120]⟩ [] [f]
  | 1 => .mk 4 ⟨#[]⟩ [] [f]
  | 2 => .mk 8 ⟨#[97]⟩ [] [f]
  | 3 => .mk 1 ⟨#[112]⟩ [t] []
  | 4 => .mk 0 ⟨#[]⟩ [] [f]
  | _ => .mk 1 ⟨#[80]⟩ [t, t, t, t, t] []
theorem badF_no (f : Fm) (t : Tm) (k : Nat) : okB (badF f t k) = false := by
  refine ok_of_head ?_
  unfold badF
  split
  · exact head_nm (by show isEmp ⟨#[120]⟩ = false; decide +kernel)
  · exact head_sub (by show (1 : Nat) ≠ 2; decide)
  · exact head_nm (by show isVar ⟨#[97]⟩ = false; decide +kernel)
  · exact head_nm (by show isPred ⟨#[112]⟩ = false; decide +kernel)
  · exact head_op (by show ¬ (1 ≤ (0 : Int) ∧ (0 : Int) ≤ 16); decide)
  · exact head_args (by show ¬ (5 : Nat) ≤ 4; decide)
theorem badF_wt (f : Fm) (t : Tm) (k : Nat) (hf : f.wt ≤ 1048576) (ht : t.wt ≤ 1048576) : (badF f t k).wt ≤ 6000000 := by
  have h1 : (⟨#[120]⟩ : ByteArray).size = 1 := rfl
  have h2 : (⟨#[97]⟩ : ByteArray).size = 1 := rfl
  have h3 : (⟨#[112]⟩ : ByteArray).size = 1 := rfl
  have h4 : (⟨#[80]⟩ : ByteArray).size = 1 := rfl
  have h5 : (⟨#[]⟩ : ByteArray).size = 0 := rfl
  unfold badF
  split <;> simp only [Fm.wt, wts, wfs] <;> omega

/-- A place where a formula lies. -/
def FmAtP (f : Fm) (v : Value) (W : World) : Prop := ∃ b off ax cx ay cy, v = .pointer (some ⟨b, off, none⟩) ∧ b < W.heap.size ∧ W.cell? ⟨b, off, none⟩ = some (.int .u8 f.op) ∧ W.cell? ⟨b, off + 1, none⟩ = some (.string f.name) ∧ W.cell? ⟨b, off + 2, none⟩ = some (.slice ax f.args.length cx) ∧ W.cell? ⟨b, off + 3, none⟩ = some (.slice ay f.sub.length cy) ∧
  FmVal W (.agg #[.int .u8 f.op, .string f.name, .slice ax f.args.length cx, .slice ay f.sub.length cy]) f
theorem FmAtP.up {f : Fm} (v : Value) (A B : World) (h : FmAtP f v A) (hb : Below A.heap.size A B) : FmAtP f v B := by
  obtain ⟨b, off, ax, cx, ay, cy, rfl, hl, c0, c1, c2, c3, hv⟩ := h
  exact ⟨b, off, ax, cx, ay, cy, rfl, Nat.lt_of_lt_of_le hl hb.size, (hb.cell (p := ⟨b, off, none⟩) hl).trans c0, (hb.cell (p := ⟨b, off + 1, none⟩) hl).trans c1, (hb.cell (p := ⟨b, off + 2, none⟩) hl).trans c2, (hb.cell (p := ⟨b, off + 3, none⟩) hl).trans c3, hv.up hb⟩
theorem fmAtP_of {W : World} {v : Value} {l : List Fm} (h : FmsAt W v l) (i : Nat) (hi : i < l.length) : ∃ b off cap, v = .slice (some ⟨b, off, none⟩) l.length cap ∧ FmAtP l[i] (.pointer (some ⟨b, off + i * 4, none⟩)) W := by
  obtain ⟨a, cap, rfl, -, -, hc⟩ := h.at
  obtain ⟨b, off, rfl, hl, hcell⟩ := hc (by omega)
  obtain ⟨x, y, c0, c1, c2, c3, hx, hy, hz⟩ := hcell i hi
  obtain ⟨ax, cx, rfl, -⟩ := hx.at
  obtain ⟨ay, cy, rfl, -⟩ := hy.at
  exact ⟨b, off, cap, rfl, b, off + i * 4, ax, cx, ay, cy, rfl, hl, c0, c1, c2, c3, _, _, rfl, hx, hy, hz⟩
/-- A new box for a formula, laid from base on. -/
def NewBox (base : Nat) (v : Value) (W : World) : Prop := ∃ b, base ≤ b ∧ v = .pointer (some ⟨b, 0, none⟩) ∧ W.heap[b]? = some (.cells #[.int .u8 0, .string ⟨#[]⟩, .slice none 0 0, .slice none 0 0] 25 (0, 0))
theorem NewBox.up {base : Nat} (v : Value) (A B : World) (h : NewBox base v A) (hb : Below A.heap.size A B) : NewBox base v B := by
  obtain ⟨b, hl, rfl, h⟩ := h
  exact ⟨b, hl, rfl, (hb.block b (lt_of_block h)).trans h⟩
/-- A term in a box. -/
structure TmBox (b : Nat) (t : Tm) (W : World) : Prop where
  lt : b < W.heap.size
  at' : ∃ ax cx, W.cell? ⟨b, 0, none⟩ = some (.bool t.v) ∧ W.cell? ⟨b, 1, none⟩ = some (.string t.name) ∧ W.cell? ⟨b, 2, none⟩ = some (.slice ax t.args.length cx) ∧ TmVal W (.agg #[.bool t.v, .string t.name, .slice ax t.args.length cx]) t
theorem TmBox.up {b : Nat} {t : Tm} {W W' : World} (h : TmBox b t W) (hb : Below W.heap.size W W') : TmBox b t W' := by
  obtain ⟨hl, ax, cx, c0, c1, c2, hv⟩ := h
  exact ⟨Nat.lt_of_lt_of_le hl hb.size, ax, cx, (hb.cell (p := ⟨b, 0, none⟩) hl).trans c0, (hb.cell (p := ⟨b, 1, none⟩) hl).trans c1, (hb.cell (p := ⟨b, 2, none⟩) hl).trans c2, hv.up hb⟩
theorem tmBox_alloc {W : World} {t : Tm} {ax : Option Addr} {cx : Nat} (hv : TmVal W (.agg #[.bool t.v, .string t.name, .slice ax t.args.length cx]) t) :
    TmBox W.heap.size t (W.alloc (.cells #[.bool t.v, .string t.name, .slice ax t.args.length cx] 34)) := by
  refine ⟨by simp, ax, cx, ?_, ?_, ?_, hv.up ((Below.refl _ _).alloc (Nat.le_refl _) _)⟩
  all_goals rw [World.cell?_alloc_at _ _ _ _ rfl]; rfl

section
variable {Q : Exit → Act → World → Prop} {o : Oper} {a : Act} {w : World}
theorem st_loadT {s : Tmp} {b : Nat} {t : Tm} (ho : o.op = .load 34 (.tmp s)) (hs : a.tmps[s]? = some (.pointer (some ⟨b, 0, none⟩))) (hb : TmBox b t w) : o.wp Try.prog a w (Yield1 a o w (Fact.term t).holds) Q := by
  obtain ⟨hl, ax, cx, c0, c1, c2, hv⟩ := hb
  have he := eval_tmp hs
  refine yield_value (v := .agg #[.bool t.v, .string t.name, .slice ax t.args.length cx]) ?_ (Below.refl _ _) hv
  generalize a.eval = ρ at he
  simp [execOp, ho, go_sem, he, c0, c1, c2]
theorem st_loadP {s : Tmp} {v : Value} {f : Fm} (ho : o.op = .load 25 (.tmp s)) (hs : a.tmps[s]? = some v) (hb : FmAtP f v w) : o.wp Try.prog a w (Yield1 a o w (Fact.form f).holds) Q := by
  obtain ⟨b, off, ax, cx, ay, cy, rfl, hl, c0, c1, c2, c3, hv⟩ := hb
  have he := eval_tmp hs
  refine yield_value (v := .agg #[.int .u8 f.op, .string f.name, .slice ax f.args.length cx, .slice ay f.sub.length cy]) ?_ (Below.refl _ _) hv
  generalize a.eval = ρ at he
  simp [execOp, ho, go_sem, he, c0, c1, c2, c3]
theorem st_forms6 {s0 s1 s2 s3 s4 s5 : Tmp} {v0 v1 v2 v3 v4 v5 : Value} {f0 f1 f2 f3 f4 f5 : Fm} (ho : o.op = .buildSlice 23 6 #[(0, .tmp s0), (1, .tmp s1), (2, .tmp s2), (3, .tmp s3), (4, .tmp s4), (5, .tmp s5)]) (h0 : a.tmps[s0]? = some v0) (p0 : FmVal w v0 f0) (h1 : a.tmps[s1]? = some v1) (p1 : FmVal w v1 f1) (h2 : a.tmps[s2]? = some v2) (p2 : FmVal w v2 f2) (h3 : a.tmps[s3]? = some v3) (p3 : FmVal w v3 f3) (h4 : a.tmps[s4]? = some v4) (p4 : FmVal w v4 f4) (h5 : a.tmps[s5]? = some v5) (p5 : FmVal w v5 f5) : o.wp Try.prog a w (Yield1 a o w (Fact.forms [f0, f1, f2, f3, f4, f5]).holds) Q := by
  obtain ⟨v, w', hr, hb, hv⟩ := run_forms6 ho (eval_tmp h0) (eval_tmp h1) (eval_tmp h2) (eval_tmp h3) (eval_tmp h4) (eval_tmp h5) p0 p1 p2 p3 p4 p5
  exact yield_value hr hb hv
theorem st_terms5 {s0 s1 s2 s3 s4 : Tmp} {v0 v1 v2 v3 v4 : Value} {f0 f1 f2 f3 f4 : Tm} (ho : o.op = .buildSlice 22 5 #[(0, .tmp s0), (1, .tmp s1), (2, .tmp s2), (3, .tmp s3), (4, .tmp s4)]) (h0 : a.tmps[s0]? = some v0) (p0 : TmVal w v0 f0) (h1 : a.tmps[s1]? = some v1) (p1 : TmVal w v1 f1) (h2 : a.tmps[s2]? = some v2) (p2 : TmVal w v2 f2) (h3 : a.tmps[s3]? = some v3) (p3 : TmVal w v3 f3) (h4 : a.tmps[s4]? = some v4) (p4 : TmVal w v4 f4) : o.wp Try.prog a w (Yield1 a o w (Fact.terms [f0, f1, f2, f3, f4]).holds) Q := by
  obtain ⟨v, w', hr, hb, hv⟩ := run_terms5 ho (eval_tmp h0) (eval_tmp h1) (eval_tmp h2) (eval_tmp h3) (eval_tmp h4) p0 p1 p2 p3 p4
  exact yield_value hr hb hv
theorem st_rem {s : Tmp} {n m : Int} {t : TypeId} (ho : o.op = .binOp .rem t (.tmp s) (.const (.int .u8 m)) t) (hs : a.tmps[s]? = some (.int .u8 n)) (h0 : 0 ≤ n) (_ : n ≤ 255) (hm : 0 < m) : o.wp Try.prog a w (Yield1 a o w (Fact.is (.int .u8 (n % m))).holds) Q := by
  have he := eval_tmp hs
  have hc : a.eval (.const (.int .u8 m)) = .int .u8 m := rfl
  refine yield_value (v := .int .u8 (n % m)) ?_ (Below.refl _ _) rfl
  generalize a.eval = ρ at he hc
  have h2 : ¬ m = 0 := by omega
  have h3 : n.tmod m = n % m := Int.tmod_eq_emod_of_nonneg h0
  simp [execOp, ho, go_sem, he, hc, h2, h3]
theorem st_index {s c : Tmp} {v : Value} {l : List Fm} {k : Nat} (ho : o.op = .indexAddr 23 (.tmp s) (.tmp c)) (hs : a.tmps[s]? = some v) (hv : FmsAt w v l) (hc : a.tmps[c]? = some (.int .u8 (k : Int))) (hk : k < l.length) : o.wp Try.prog a w (Yield1 a o w (Fact.such (FmAtP l[k]) FmAtP.up).holds) Q := by
  obtain ⟨b, off, cap, rfl, hp⟩ := fmAtP_of hv k hk
  have he := eval_tmp hs
  have hc' := eval_tmp hc
  refine yield_value (v := .pointer (some ⟨b, off + k * 4, none⟩)) ?_ (Below.refl _ _) hp
  generalize a.eval = ρ at he hc'
  have hk2 : (k : Int) < (l.length : Int) := by omega
  simp [execOp, ho, go_sem, he, hc', hk]
theorem st_allocF {base : Nat} (ho : o.op = .alloc 25) (hb : base ≤ w.heap.size) : o.wp Try.prog a w (Yield1 a o w (Fact.such (NewBox base) NewBox.up).holds) Q := by
  refine yield_value (v := .pointer (some ⟨w.heap.size, 0, none⟩)) (w' := w.alloc (.cells #[.int .u8 0, .string ⟨#[]⟩, .slice none 0 0, .slice none 0 0] 25)) ?_ ((Below.refl _ _).alloc (Nat.le_refl _) _) ⟨_, hb, rfl, World.alloc_heap_new _ _⟩
  generalize a.eval = ρ
  simp [execOp, ho, go_sem]
end

end Go.Proofs.Ytollifednpjkeaa
