import Derived.Test.YtollifednpjkeaaFactsB
/-
  Steps of regions told by facts: loads, makers, texts.
-/
namespace Go.Proofs.Ytollifednpjkeaa
open Go.RowKit

theorem eval_tmp {a : Act} {s : Tmp} {v : Value} (h : a.tmps[s]? = some v) : a.eval (.tmp s) = v := by
  show a.tmps.getD s undef = v
  simp [h]
theorem wanted_of {ops : Array Oper} {a : Act} {o : Oper} {j : Nat} {b : Bool} {d : Tmp} (hg : o.guard = some (j, b)) (hd : (ops[j]?).bind (·.dst) = some d) (h : a.tmps[d]? = some (.bool b)) : Region.wanted o (yielded ops a.tmps) = true := by
  unfold Region.wanted yielded
  rw [hg]
  simp only [hd, Option.bind_some, h]
  simp
theorem out_of {l : List Oper} {s : Tmp} (h : (l.all fun o => o.dst != some s) = true) : ∀ (i : Nat) (o : Oper), l.toArray[i]? = some o → o.dst ≠ some s := by
  intro i o ho
  have ho' : l[i]? = some o := by simpa using ho
  have := List.all_eq_true.1 h o (List.mem_of_getElem? ho')
  simpa using this
theorem fmVal_mk {W : World} {op : Int} {n : ByteArray} {s u : Value} {a : List Tm} {l : List Fm} (hs : TmsAt W s a) (hu : FmsAt W u l) (h0 : 0 ≤ op) (h1 : op ≤ 255) (hn : n.size ≤ maxLen) : FmVal W (.agg #[.int .u8 op, .string n, s, u]) (.mk op n a l) :=
  ⟨s, u, rfl, hs, hu, hn, h0, h1⟩
theorem tmVal_mk {W : World} {b : Bool} {n : ByteArray} {s : Value} {a : List Tm} (hs : TmsAt W s a) (hn : n.size ≤ maxLen) : TmVal W (.agg #[.bool b, .string n, s]) (.mk b n a) := ⟨s, rfl, hs, hn⟩
theorem fmBox_alloc {W : World} {f : Fm} {ax ay : Option Addr} {cx cy : Nat} (hv : FmVal W (.agg #[.int .u8 f.op, .string f.name, .slice ax f.args.length cx, .slice ay f.sub.length cy]) f) :
    FmBox W.heap.size f (W.alloc (.cells #[.int .u8 f.op, .string f.name, .slice ax f.args.length cx, .slice ay f.sub.length cy] 25)) := by
  refine ⟨by simp, ax, cx, ay, cy, ?_, ?_, ?_, ?_, hv.up ((Below.refl _ _).alloc (Nat.le_refl _) _)⟩
  all_goals rw [World.cell?_alloc_at _ _ _ _ rfl]; rfl
theorem slice_of_forms {W : World} {v : Value} {l : List Fm} (h : FmsAt W v l) : ∃ a m c, v = .slice a m c := by obtain ⟨a, c, rfl, -⟩ := h.at; exact ⟨_, _, _, rfl⟩
theorem slice_of_terms {W : World} {v : Value} {l : List Tm} (h : TmsAt W v l) : ∃ a m c, v = .slice a m c := by obtain ⟨a, c, rfl, -⟩ := h.at; exact ⟨_, _, _, rfl⟩
theorem forms_nil (W : World) : FmsAt W (.slice none 0 0) [] := .nil none 0 (Nat.zero_le _)
theorem terms_nil (W : World) : TmsAt W (.slice none 0 0) [] := .nil none 0 (Nat.zero_le _)

section
variable {Q : Exit → Act → World → Prop} {o : Oper} {a : Act} {w : World}
theorem st_load {s : Tmp} {b : Nat} {f : Fm} (ho : o.op = .load 25 (.tmp s)) (hs : a.tmps[s]? = some (.pointer (some ⟨b, 0, none⟩))) (hb : FmBox b f w) : o.wp Try.prog a w (Yield1 a o w (Fact.form f).holds) Q := by
  obtain ⟨hl, ax, cx, ay, cy, c0, c1, c2, c3, hv⟩ := hb
  have he := eval_tmp hs
  refine yield_value (v := .agg #[.int .u8 f.op, .string f.name, .slice ax f.args.length cx, .slice ay f.sub.length cy]) ?_ (Below.refl _ _) hv
  generalize a.eval = ρ at he
  simp [execOp, ho, go_sem, he, c0, c1, c2, c3]
theorem st_forms1 {s0 : Tmp} {v0 : Value} {f0 : Fm} (ho : o.op = .buildSlice 23 1 #[(0, .tmp s0)]) (h0 : a.tmps[s0]? = some v0) (hv0 : FmVal w v0 f0) : o.wp Try.prog a w (Yield1 a o w (Fact.forms [f0]).holds) Q := by
  obtain ⟨v, w', hr, hb, hv⟩ := run_forms1 ho (eval_tmp h0) hv0
  exact yield_value hr hb hv
theorem st_forms2 {s0 s1 : Tmp} {v0 v1 : Value} {f0 f1 : Fm} (ho : o.op = .buildSlice 23 2 #[(0, .tmp s0), (1, .tmp s1)]) (h0 : a.tmps[s0]? = some v0) (hv0 : FmVal w v0 f0) (h1 : a.tmps[s1]? = some v1) (hv1 : FmVal w v1 f1) : o.wp Try.prog a w (Yield1 a o w (Fact.forms [f0, f1]).holds) Q := by
  obtain ⟨v, w', hr, hb, hv⟩ := run_forms2 ho (eval_tmp h0) (eval_tmp h1) hv0 hv1
  exact yield_value hr hb hv
theorem st_terms1 {s0 : Tmp} {v0 : Value} {f0 : Tm} (ho : o.op = .buildSlice 22 1 #[(0, .tmp s0)]) (h0 : a.tmps[s0]? = some v0) (hv0 : TmVal w v0 f0) : o.wp Try.prog a w (Yield1 a o w (Fact.terms [f0]).holds) Q := by
  obtain ⟨v, w', hr, hb, hv⟩ := run_terms1 ho (eval_tmp h0) hv0
  exact yield_value hr hb hv
theorem st_terms2 {s0 s1 : Tmp} {v0 v1 : Value} {f0 f1 : Tm} (ho : o.op = .buildSlice 22 2 #[(0, .tmp s0), (1, .tmp s1)]) (h0 : a.tmps[s0]? = some v0) (hv0 : TmVal w v0 f0) (h1 : a.tmps[s1]? = some v1) (hv1 : TmVal w v1 f1) : o.wp Try.prog a w (Yield1 a o w (Fact.terms [f0, f1]).holds) Q := by
  obtain ⟨v, w', hr, hb, hv⟩ := run_terms2 ho (eval_tmp h0) (eval_tmp h1) hv0 hv1
  exact yield_value hr hb hv
theorem st_of {s : Tmp} {v : Value} {l : List Fm} {op : Int} {n : ByteArray} {ts : Array TypeId} (ho : o.op = .call { callee := .value (.func 15), args := #[.const (.int .u8 op), .const (.string n), .tmp s], argTypes := ts }) (hs : a.tmps[s]? = some v) (hv : FmsAt w v l) (h0 : 0 ≤ op) (h1 : op ≤ 255) (hn : n.size ≤ maxLen) :
    o.wp Try.prog a w (Yield1 a o w (Fact.form (.mk op n [] l)).holds) Q := by
  refine yield_call (run_call_func ho rfl Try.call15) ?_
  rw [show (#[.const (.int .u8 op), .const (.string n), .tmp s] : Array Operand).map a.eval = #[.int .u8 op, .string n, v] by rw [List.map_toArray]; simp only [List.map_cons, List.map_nil, eval_tmp hs]; rfl]
  refine (ofR_any op n v w (slice_of_forms hv)).mono ?_
  rintro e w' ⟨rfl, hb⟩
  exact ⟨_, rfl, hb, fmVal_mk (terms_nil _) (hv.up hb) h0 h1 hn⟩
theorem st_ofNil {op : Int} {n : ByteArray} {ts : Array TypeId} (ho : o.op = .call { callee := .value (.func 15), args := #[.const (.int .u8 op), .const (.string n), .const (.slice none 0 0)], argTypes := ts }) (h0 : 0 ≤ op) (h1 : op ≤ 255) (hn : n.size ≤ maxLen) :
    o.wp Try.prog a w (Yield1 a o w (Fact.form (.mk op n [] [])).holds) Q := by
  refine yield_call (run_call_func ho rfl Try.call15) ?_
  rw [show (#[.const (.int .u8 op), .const (.string n), .const (.slice none 0 0)] : Array Operand).map a.eval = #[.int .u8 op, .string n, .slice none 0 0] by rw [List.map_toArray]; rfl]
  refine (ofR_any op n (.slice none 0 0) w ⟨_, _, _, rfl⟩).mono ?_
  rintro e w' ⟨rfl, hb⟩
  exact ⟨_, rfl, hb, fmVal_mk (terms_nil _) (forms_nil _) h0 h1 hn⟩
theorem st_p {s : Tmp} {v : Value} {l : List Tm} {n : ByteArray} {ts : Array TypeId} (ho : o.op = .call { callee := .value (.func 14), args := #[.const (.string n), .tmp s], argTypes := ts }) (hs : a.tmps[s]? = some v) (hv : TmsAt w v l) (hn : n.size ≤ maxLen) :
    o.wp Try.prog a w (Yield1 a o w (Fact.form (.mk 1 n l [])).holds) Q := by
  refine yield_call (run_call_func ho rfl Try.call14) ?_
  rw [show (#[.const (.string n), .tmp s] : Array Operand).map a.eval = #[.string n, v] by rw [List.map_toArray]; simp only [List.map_cons, List.map_nil, eval_tmp hs]; rfl]
  refine (pR_any n v w (slice_of_terms hv)).mono ?_
  rintro e w' ⟨rfl, hb⟩
  exact ⟨_, rfl, hb, fmVal_mk (hv.up hb) (forms_nil _) (by decide) (by decide) hn⟩
theorem st_c {s : Tmp} {v : Value} {l : List Tm} {n : ByteArray} {ts : Array TypeId} (ho : o.op = .call { callee := .value (.func 18), args := #[.const (.string n), .tmp s], argTypes := ts }) (hs : a.tmps[s]? = some v) (hv : TmsAt w v l) (hn : n.size ≤ maxLen) :
    o.wp Try.prog a w (Yield1 a o w (Fact.term (.mk false n l)).holds) Q := by
  refine yield_call (run_call_func ho rfl Try.call18) ?_
  rw [show (#[.const (.string n), .tmp s] : Array Operand).map a.eval = #[.string n, v] by rw [List.map_toArray]; simp only [List.map_cons, List.map_nil, eval_tmp hs]; rfl]
  refine (cR_any n v w (slice_of_terms hv)).mono ?_
  rintro e w' ⟨rfl, hb⟩
  exact ⟨_, rfl, hb, tmVal_mk (hv.up hb) hn⟩
theorem st_cNil {n : ByteArray} {ts : Array TypeId} (ho : o.op = .call { callee := .value (.func 18), args := #[.const (.string n), .const (.slice none 0 0)], argTypes := ts }) (hn : n.size ≤ maxLen) :
    o.wp Try.prog a w (Yield1 a o w (Fact.term (.mk false n [])).holds) Q := by
  refine yield_call (run_call_func ho rfl Try.call18) ?_
  rw [show (#[.const (.string n), .const (.slice none 0 0)] : Array Operand).map a.eval = #[.string n, .slice none 0 0] by rw [List.map_toArray]; rfl]
  refine (cR_any n (.slice none 0 0) w ⟨_, _, _, rfl⟩).mono ?_
  rintro e w' ⟨rfl, hb⟩
  exact ⟨_, rfl, hb, tmVal_mk (terms_nil _) hn⟩
theorem st_v {n : ByteArray} {ts : Array TypeId} (ho : o.op = .call { callee := .value (.func 21), args := #[.const (.string n)], argTypes := ts }) (hn : n.size ≤ maxLen) :
    o.wp Try.prog a w (Yield1 a o w (Fact.term (.mk true n [])).holds) Q := by
  refine yield_call (run_call_func ho rfl Try.call21) ?_
  rw [show (#[.const (.string n)] : Array Operand).map a.eval = #[.string n] by rw [List.map_toArray]; rfl]
  refine (vR_any n w).mono ?_
  rintro e w' ⟨rfl, hb⟩
  exact ⟨_, rfl, hb, tmVal_mk (terms_nil _) hn⟩
theorem st_writes {s : Tmp} {v : Value} {f : Fm} {x y z : ByteArray} {ts : Array TypeId} (ho : o.op = .call { callee := .value (.func 22), args := #[.tmp s, .const (.string x), .const (.string y), .const (.string z)], argTypes := ts }) (hs : a.tmps[s]? = some v) (hv : FmVal w v f)
    (hf : f.wt ≤ 10000000) (hok : okB f = true) (h1 : f.tx false = x) (h2 : f.tx true = y) (h3 : joinS ⟨#[32]⟩ f.pw = z) : o.wp Try.prog a w (Yield1 a o w (Fact.is (.bool true)).holds) Q := by
  refine yield_call (run_call_func ho rfl Try.call22) ?_
  rw [show (#[.tmp s, .const (.string x), .const (.string y), .const (.string z)] : Array Operand).map a.eval = #[v, .string x, .string y, .string z] by rw [List.map_toArray]; simp only [List.map_cons, List.map_nil, eval_tmp hs]; rfl]
  refine (writes_any f hf hok x y z h1 h2 h3 v w hv).mono ?_
  rintro e w' ⟨rfl, hb⟩
  exact ⟨_, rfl, hb, rfl⟩
theorem st_Forms {s : Tmp} {v : Value} {l : List Fm} {x : ByteArray} {ts : Array TypeId} (ho : o.op = .call { callee := .value (.func 16), args := #[.tmp s], argTypes := ts }) (hs : a.tmps[s]? = some v) (hv : FmsAt w v l)
    (hl : wfs l ≤ 10000000) (hok : (l.any fun f => !okB f) = false) (h1 : formsTx l = x) : o.wp Try.prog a w (Yield1 a o w (Fact.is (.tuple #[.string x, .int .i64 0])).holds) Q := by
  refine yield_call (run_call_func ho rfl Try.call16) ?_
  rw [show (#[.tmp s] : Array Operand).map a.eval = #[v] by rw [List.map_toArray]; simp only [List.map_cons, List.map_nil, eval_tmp hs]]
  refine (forms_any l hl v w hv).mono ?_
  rintro e w' ⟨rfl, hb⟩
  exact ⟨_, rfl, hb, by rw [hok, h1]; rfl⟩
theorem st_move {P : Program} {s : Tmp} {v : Value} {F : Fact} (ho : o.op = .move (.tmp s)) (hs : a.tmps[s]? = some v) (hv : F.holds v w) : o.wp P a w (Yield1 a o w F.holds) Q := by
  refine yield_value (run_move' ho) (Below.refl _ _) ?_
  rw [eval_tmp hs]; exact hv
theorem st_assign {P : Program} {s : Tmp} {v : Value} {F : Fact} (ho : o.op = .assign (.tmp s)) (hs : a.tmps[s]? = some v) (hv : F.holds v w) : o.wp P a w (Yield1 a o w F.holds) Q := by
  refine yield_value (run_assign' ho) (Below.refl _ _) ?_
  rw [eval_tmp hs]; exact hv
theorem st_pick {P : Program} {c s : Tmp} {x : Operand} {v : Value} {F : Fact} (ho : o.op = .pick (.tmp c) (.tmp s) x) (hc : a.tmps[c]? = some (.bool true)) (hs : a.tmps[s]? = some v) (hv : F.holds v w) : o.wp P a w (Yield1 a o w F.holds) Q := by
  refine yield_value (run_pick' ho (eval_tmp hc)) (Below.refl _ _) ?_
  rw [eval_tmp hs]; exact hv
theorem st_extract {P : Program} {s : Tmp} {i : Nat} {vs : Array Value} {u : Value} (ho : o.op = .extract (.tmp s) i) (hs : a.tmps[s]? = some (.tuple vs)) (hu : vs[i]? = some u) : o.wp P a w (Yield1 a o w (Fact.is u).holds) Q :=
  yield_value (run_extract' ho (eval_tmp hs) hu) (Below.refl _ _) rfl
theorem st_eqInt {s : Tmp} {n : Int} {t : TypeId} (ho : o.op = .binOp .eql t (.tmp s) (.const (.int .i64 n)) t) (hs : a.tmps[s]? = some (.int .i64 n)) : o.wp Try.prog a w (Yield1 a o w (Fact.is (.bool true)).holds) Q := by
  have he := eval_tmp hs
  have hc : a.eval (.const (.int .i64 n)) = .int .i64 n := rfl
  refine yield_value (v := .bool true) ?_ (Below.refl _ _) rfl
  generalize a.eval = ρ at he hc
  simp [execOp, ho, go_sem, he, hc]
theorem st_eqStr {s : Tmp} {x : ByteArray} {t : TypeId} (ho : o.op = .binOp .eql t (.tmp s) (.const (.string x)) t) (hs : a.tmps[s]? = some (.string x)) : o.wp Try.prog a w (Yield1 a o w (Fact.is (.bool true)).holds) Q := by
  have he := eval_tmp hs
  have hc : a.eval (.const (.string x)) = .string x := rfl
  refine yield_value (v := .bool true) ?_ (Below.refl _ _) rfl
  generalize a.eval = ρ at he hc
  simp [execOp, ho, go_sem, he, hc]
end

end Go.Proofs.Ytollifednpjkeaa
