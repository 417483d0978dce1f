import Derived.Test.YtollifednpjkeaaFacts
import Derived.Test.YtollifednpjkeaaTextJ
/-
  What operations that make terms and formulas yield.
-/
namespace Go.Proofs.Ytollifednpjkeaa
open Go.RowKit

inductive Fact where
  | form (f : Fm)
  | forms (l : List Fm)
  | term (t : Tm)
  | terms (l : List Tm)
  | is (v : Value)
  | such (R : Value → World → Prop) (h : ∀ v A B, R v A → Below A.heap.size A B → R v B)
def Fact.holds : Fact → Value → World → Prop
  | .form f, v, W => FmVal W v f
  | .forms l, v, W => FmsAt W v l
  | .term t, v, W => TmVal W v t
  | .terms l, v, W => TmsAt W v l
  | .is u, v, _ => v = u
  | .such R _, v, W => R v W
theorem Fact.up (F : Fact) {v : Value} {A B : World} (h : F.holds v A) (hb : Below A.heap.size A B) : F.holds v B := by
  cases F with
  | form f => exact FmVal.up h hb
  | forms l => exact FmsAt.up h hb
  | term t => exact TmVal.up h hb
  | terms l => exact TmsAt.up h hb
  | is u => exact h
  | such R hR => exact hR v A B h hb

section
variable {P : Program} {Q : Exit → Act → World → Prop} {o : Oper} {a : Act} {w : World} {R : Value → World → Prop}
theorem yield_value {v : Value} {w' : World} (hr : (execOp a.eval o).run P w = .ok (.value v) w') (hb : Below w.heap.size w w') (hR : R v w') : o.wp P a w (Yield1 a o w R) Q := by
  unfold Oper.wp; rw [hr]; exact ⟨v, rfl, hb, hR⟩
theorem yield_call {f : FuncId} {args : Array Value} (hr : (execOp a.eval o).run P w = .ok (.enter f args) w) (hc : Calls P f args w fun e w' => ∃ v, e = .returned v ∧ Below w.heap.size w w' ∧ R v w') : o.wp P a w (Yield1 a o w R) Q := by
  unfold Oper.wp; rw [hr, Oper.upon_enter]
  refine hc.mono ?_
  rintro e w' ⟨v, rfl, hb, hR⟩
  exact ⟨v, rfl, hb, hR⟩
theorem run_call_func {ρ : Operand → Value} {f : FuncId} {xs : Array Operand} {ts : Array TypeId} (ho : o.op = .call { callee := .value (.func f), args := xs, argTypes := ts }) (hf : ρ (.func f) = .func (.func f) #[] #[]) (he : ∀ args w, Sem.run P (callFunc f args) w = .ok (.enter f args) w) :
    (execOp ρ o).run P w = .ok (.enter f (xs.map ρ)) w := by
  have h := he (xs.map ρ) w
  simp [execOp, ho, go_sem, hf, h]
theorem run_move' {ρ : Operand → Value} {x : Operand} (ho : o.op = .move x) : (execOp ρ o).run P w = .ok (.value (ρ x)) w := by simp [execOp, ho, go_sem]
theorem run_assign' {ρ : Operand → Value} {x : Operand} (ho : o.op = .assign x) : (execOp ρ o).run P w = .ok (.value (ρ x)) w := by simp [execOp, ho, go_sem]
theorem run_pick' {ρ : Operand → Value} {c x y : Operand} (ho : o.op = .pick c x y) (hc : ρ c = .bool true) : (execOp ρ o).run P w = .ok (.value (ρ x)) w := by simp [execOp, ho, go_sem, hc, asBool]
theorem run_extract' {ρ : Operand → Value} {x : Operand} {i : Nat} {vs : Array Value} (ho : o.op = .extract x i) (hc : ρ x = .tuple vs) {v : Value} (hv : vs[i]? = some v) : (execOp ρ o).run P w = .ok (.value v) w := by simp [execOp, ho, go_sem, hc, hv]
end

section
variable {o : Oper} {w : World}
theorem fms1_new {w : World} {v0 : Value} {f0 : Fm} (hv0 : FmVal w v0 f0) :
    ∃ a0 c0 b0 d0, (v0 = .agg #[.int .u8 f0.op, .string f0.name, .slice a0 f0.args.length c0, .slice b0 f0.sub.length d0]) ∧ Below w.heap.size w (w.alloc (.cells #[.int .u8 f0.op, .string f0.name, .slice a0 f0.args.length c0, .slice b0 f0.sub.length d0] 25)) ∧ FmsAt (w.alloc (.cells #[.int .u8 f0.op, .string f0.name, .slice a0 f0.args.length c0, .slice b0 f0.sub.length d0] 25)) (.slice (some ⟨w.heap.size, 0, none⟩) 1 1) [f0] := by
  obtain ⟨p0, q0, rfl, hx0, hy0, hz0⟩ := hv0
  obtain ⟨a0, c0, rfl, -⟩ := hx0.at
  obtain ⟨b0, d0, rfl, -⟩ := hy0.at
  obtain ⟨W, hW⟩ : ∃ W, w.alloc (.cells #[.int .u8 f0.op, .string f0.name, .slice a0 f0.args.length c0, .slice b0 f0.sub.length d0] 25) = W := ⟨_, rfl⟩
  have hb : Below w.heap.size w W := by rw [← hW]; exact (Below.refl _ _).alloc (Nat.le_refl _) _
  have hB : w.heap.size < W.heap.size := by rw [← hW]; simp
  have hc : ∀ j, W.cell? ⟨w.heap.size, j, none⟩ = (#[.int .u8 f0.op, .string f0.name, .slice a0 f0.args.length c0, .slice b0 f0.sub.length d0] : Array Value)[j]? := fun j => by rw [← hW, World.cell?_alloc_at _ _ _ _ rfl]
  refine ⟨a0, c0, b0, d0, rfl, by rw [hW]; exact hb, ?_⟩
  rw [hW]
  refine FmsAt.row (W := W) w.heap.size 0 1 [f0] (fun i => match i with | 0 => .slice a0 f0.args.length c0 | _ => undef) (fun i => match i with | 0 => .slice b0 f0.sub.length d0 | _ => undef) (Nat.succ_pos _) (Nat.le_refl _) (by unfold maxLen; decide) hB (fun i h => ?_) (fun i h => ?_) (fun i h => ?_)
  · match i, h with
    | 0, _ => exact ⟨hc 0, hc 1, hc 2, hc 3, hz0⟩
  · match i, h with
    | 0, _ => exact hx0.up hb
  · match i, h with
    | 0, _ => exact hy0.up hb
theorem run_forms1 {ρ : Operand → Value} {x0 : Operand} {v0 : Value} {f0 : Fm} (ho : o.op = .buildSlice 23 1 #[(0, x0)]) (h0 : ρ x0 = v0) (hv0 : FmVal w v0 f0) :
    ∃ v w', (execOp ρ o).run Try.prog w = .ok (.value v) w' ∧ Below w.heap.size w w' ∧ FmsAt w' v [f0] := by
  obtain ⟨a0, c0, b0, d0, rfl, hb, hv⟩ := fms1_new hv0
  have hu := Try.underlying23
  exact ⟨_, _, by simp [execOp, ho, go_sem, h0], hb, hv⟩
theorem fms2_new {w : World} {v0 v1 : Value} {f0 f1 : Fm} (hv0 : FmVal w v0 f0) (hv1 : FmVal w v1 f1) :
    ∃ a0 c0 b0 d0 a1 c1 b1 d1, (v0 = .agg #[.int .u8 f0.op, .string f0.name, .slice a0 f0.args.length c0, .slice b0 f0.sub.length d0] ∧ v1 = .agg #[.int .u8 f1.op, .string f1.name, .slice a1 f1.args.length c1, .slice b1 f1.sub.length d1]) ∧ Below w.heap.size w (w.alloc (.cells #[.int .u8 f0.op, .string f0.name, .slice a0 f0.args.length c0, .slice b0 f0.sub.length d0, .int .u8 f1.op, .string f1.name, .slice a1 f1.args.length c1, .slice b1 f1.sub.length d1] 25)) ∧ FmsAt (w.alloc (.cells #[.int .u8 f0.op, .string f0.name, .slice a0 f0.args.length c0, .slice b0 f0.sub.length d0, .int .u8 f1.op, .string f1.name, .slice a1 f1.args.length c1, .slice b1 f1.sub.length d1] 25)) (.slice (some ⟨w.heap.size, 0, none⟩) 2 2) [f0, f1] := by
  obtain ⟨p0, q0, rfl, hx0, hy0, hz0⟩ := hv0
  obtain ⟨a0, c0, rfl, -⟩ := hx0.at
  obtain ⟨b0, d0, rfl, -⟩ := hy0.at
  obtain ⟨p1, q1, rfl, hx1, hy1, hz1⟩ := hv1
  obtain ⟨a1, c1, rfl, -⟩ := hx1.at
  obtain ⟨b1, d1, rfl, -⟩ := hy1.at
  obtain ⟨W, hW⟩ : ∃ W, w.alloc (.cells #[.int .u8 f0.op, .string f0.name, .slice a0 f0.args.length c0, .slice b0 f0.sub.length d0, .int .u8 f1.op, .string f1.name, .slice a1 f1.args.length c1, .slice b1 f1.sub.length d1] 25) = W := ⟨_, rfl⟩
  have hb : Below w.heap.size w W := by rw [← hW]; exact (Below.refl _ _).alloc (Nat.le_refl _) _
  have hB : w.heap.size < W.heap.size := by rw [← hW]; simp
  have hc : ∀ j, W.cell? ⟨w.heap.size, j, none⟩ = (#[.int .u8 f0.op, .string f0.name, .slice a0 f0.args.length c0, .slice b0 f0.sub.length d0, .int .u8 f1.op, .string f1.name, .slice a1 f1.args.length c1, .slice b1 f1.sub.length d1] : Array Value)[j]? := fun j => by rw [← hW, World.cell?_alloc_at _ _ _ _ rfl]
  refine ⟨a0, c0, b0, d0, a1, c1, b1, d1, ⟨rfl, rfl⟩, by rw [hW]; exact hb, ?_⟩
  rw [hW]
  refine FmsAt.row (W := W) w.heap.size 0 2 [f0, f1] (fun i => match i with | 0 => .slice a0 f0.args.length c0 | 1 => .slice a1 f1.args.length c1 | _ => undef) (fun i => match i with | 0 => .slice b0 f0.sub.length d0 | 1 => .slice b1 f1.sub.length d1 | _ => undef) (Nat.succ_pos _) (Nat.le_refl _) (by unfold maxLen; decide) hB (fun i h => ?_) (fun i h => ?_) (fun i h => ?_)
  · match i, h with
    | 0, _ => exact ⟨hc 0, hc 1, hc 2, hc 3, hz0⟩
    | 1, _ => exact ⟨hc 4, hc 5, hc 6, hc 7, hz1⟩
  · match i, h with
    | 0, _ => exact hx0.up hb
    | 1, _ => exact hx1.up hb
  · match i, h with
    | 0, _ => exact hy0.up hb
    | 1, _ => exact hy1.up hb
theorem run_forms2 {ρ : Operand → Value} {x0 x1 : Operand} {v0 v1 : Value} {f0 f1 : Fm} (ho : o.op = .buildSlice 23 2 #[(0, x0), (1, x1)]) (h0 : ρ x0 = v0) (h1 : ρ x1 = v1) (hv0 : FmVal w v0 f0) (hv1 : FmVal w v1 f1) :
    ∃ v w', (execOp ρ o).run Try.prog w = .ok (.value v) w' ∧ Below w.heap.size w w' ∧ FmsAt w' v [f0, f1] := by
  obtain ⟨a0, c0, b0, d0, a1, c1, b1, d1, ⟨rfl, rfl⟩, hb, hv⟩ := fms2_new hv0 hv1
  have hu := Try.underlying23
  exact ⟨_, _, by simp [execOp, ho, go_sem, h0, h1], hb, hv⟩
theorem fms6_new {w : World} {v0 v1 v2 v3 v4 v5 : Value} {f0 f1 f2 f3 f4 f5 : Fm} (hv0 : FmVal w v0 f0) (hv1 : FmVal w v1 f1) (hv2 : FmVal w v2 f2) (hv3 : FmVal w v3 f3) (hv4 : FmVal w v4 f4) (hv5 : FmVal w v5 f5) :
    ∃ a0 c0 b0 d0 a1 c1 b1 d1 a2 c2 b2 d2 a3 c3 b3 d3 a4 c4 b4 d4 a5 c5 b5 d5, (v0 = .agg #[.int .u8 f0.op, .string f0.name, .slice a0 f0.args.length c0, .slice b0 f0.sub.length d0] ∧ v1 = .agg #[.int .u8 f1.op, .string f1.name, .slice a1 f1.args.length c1, .slice b1 f1.sub.length d1] ∧ v2 = .agg #[.int .u8 f2.op, .string f2.name, .slice a2 f2.args.length c2, .slice b2 f2.sub.length d2] ∧ v3 = .agg #[.int .u8 f3.op, .string f3.name, .slice a3 f3.args.length c3, .slice b3 f3.sub.length d3] ∧ v4 = .agg #[.int .u8 f4.op, .string f4.name, .slice a4 f4.args.length c4, .slice b4 f4.sub.length d4] ∧ v5 = .agg #[.int .u8 f5.op, .string f5.name, .slice a5 f5.args.length c5, .slice b5 f5.sub.length d5]) ∧ Below w.heap.size w (w.alloc (.cells #[.int .u8 f0.op, .string f0.name, .slice a0 f0.args.length c0, .slice b0 f0.sub.length d0, .int .u8 f1.op, .string f1.name, .slice a1 f1.args.length c1, .slice b1 f1.sub.length d1, .int .u8 f2.op, .string f2.name, .slice a2 f2.args.length c2, .slice b2 f2.sub.length d2, .int .u8 f3.op, .string f3.name, .slice a3 f3.args.length c3, .slice b3 f3.sub.length d3, .int .u8 f4.op, .string f4.name, .slice a4 f4.args.length c4, .slice b4 f4.sub.length d4, .int .u8 f5.op, .string f5.name, .slice a5 f5.args.length c5, .slice b5 f5.sub.length d5] 25)) ∧ FmsAt (w.alloc (.cells #[.int .u8 f0.op, .string f0.name, .slice a0 f0.args.length c0, .slice b0 f0.sub.length d0, .int .u8 f1.op, .string f1.name, .slice a1 f1.args.length c1, .slice b1 f1.sub.length d1, .int .u8 f2.op, .string f2.name, .slice a2 f2.args.length c2, .slice b2 f2.sub.length d2, .int .u8 f3.op, .string f3.name, .slice a3 f3.args.length c3, .slice b3 f3.sub.length d3, .int .u8 f4.op, .string f4.name, .slice a4 f4.args.length c4, .slice b4 f4.sub.length d4, .int .u8 f5.op, .string f5.name, .slice a5 f5.args.length c5, .slice b5 f5.sub.length d5] 25)) (.slice (some ⟨w.heap.size, 0, none⟩) 6 6) [f0, f1, f2, f3, f4, f5] := by
  obtain ⟨p0, q0, rfl, hx0, hy0, hz0⟩ := hv0
  obtain ⟨a0, c0, rfl, -⟩ := hx0.at
  obtain ⟨b0, d0, rfl, -⟩ := hy0.at
  obtain ⟨p1, q1, rfl, hx1, hy1, hz1⟩ := hv1
  obtain ⟨a1, c1, rfl, -⟩ := hx1.at
  obtain ⟨b1, d1, rfl, -⟩ := hy1.at
  obtain ⟨p2, q2, rfl, hx2, hy2, hz2⟩ := hv2
  obtain ⟨a2, c2, rfl, -⟩ := hx2.at
  obtain ⟨b2, d2, rfl, -⟩ := hy2.at
  obtain ⟨p3, q3, rfl, hx3, hy3, hz3⟩ := hv3
  obtain ⟨a3, c3, rfl, -⟩ := hx3.at
  obtain ⟨b3, d3, rfl, -⟩ := hy3.at
  obtain ⟨p4, q4, rfl, hx4, hy4, hz4⟩ := hv4
  obtain ⟨a4, c4, rfl, -⟩ := hx4.at
  obtain ⟨b4, d4, rfl, -⟩ := hy4.at
  obtain ⟨p5, q5, rfl, hx5, hy5, hz5⟩ := hv5
  obtain ⟨a5, c5, rfl, -⟩ := hx5.at
  obtain ⟨b5, d5, rfl, -⟩ := hy5.at
  obtain ⟨W, hW⟩ : ∃ W, w.alloc (.cells #[.int .u8 f0.op, .string f0.name, .slice a0 f0.args.length c0, .slice b0 f0.sub.length d0, .int .u8 f1.op, .string f1.name, .slice a1 f1.args.length c1, .slice b1 f1.sub.length d1, .int .u8 f2.op, .string f2.name, .slice a2 f2.args.length c2, .slice b2 f2.sub.length d2, .int .u8 f3.op, .string f3.name, .slice a3 f3.args.length c3, .slice b3 f3.sub.length d3, .int .u8 f4.op, .string f4.name, .slice a4 f4.args.length c4, .slice b4 f4.sub.length d4, .int .u8 f5.op, .string f5.name, .slice a5 f5.args.length c5, .slice b5 f5.sub.length d5] 25) = W := ⟨_, rfl⟩
  have hb : Below w.heap.size w W := by rw [← hW]; exact (Below.refl _ _).alloc (Nat.le_refl _) _
  have hB : w.heap.size < W.heap.size := by rw [← hW]; simp
  have hc : ∀ j, W.cell? ⟨w.heap.size, j, none⟩ = (#[.int .u8 f0.op, .string f0.name, .slice a0 f0.args.length c0, .slice b0 f0.sub.length d0, .int .u8 f1.op, .string f1.name, .slice a1 f1.args.length c1, .slice b1 f1.sub.length d1, .int .u8 f2.op, .string f2.name, .slice a2 f2.args.length c2, .slice b2 f2.sub.length d2, .int .u8 f3.op, .string f3.name, .slice a3 f3.args.length c3, .slice b3 f3.sub.length d3, .int .u8 f4.op, .string f4.name, .slice a4 f4.args.length c4, .slice b4 f4.sub.length d4, .int .u8 f5.op, .string f5.name, .slice a5 f5.args.length c5, .slice b5 f5.sub.length d5] : Array Value)[j]? := fun j => by rw [← hW, World.cell?_alloc_at _ _ _ _ rfl]
  refine ⟨a0, c0, b0, d0, a1, c1, b1, d1, a2, c2, b2, d2, a3, c3, b3, d3, a4, c4, b4, d4, a5, c5, b5, d5, ⟨rfl, rfl, rfl, rfl, rfl, rfl⟩, by rw [hW]; exact hb, ?_⟩
  rw [hW]
  refine FmsAt.row (W := W) w.heap.size 0 6 [f0, f1, f2, f3, f4, f5] (fun i => match i with | 0 => .slice a0 f0.args.length c0 | 1 => .slice a1 f1.args.length c1 | 2 => .slice a2 f2.args.length c2 | 3 => .slice a3 f3.args.length c3 | 4 => .slice a4 f4.args.length c4 | 5 => .slice a5 f5.args.length c5 | _ => undef) (fun i => match i with | 0 => .slice b0 f0.sub.length d0 | 1 => .slice b1 f1.sub.length d1 | 2 => .slice b2 f2.sub.length d2 | 3 => .slice b3 f3.sub.length d3 | 4 => .slice b4 f4.sub.length d4 | 5 => .slice b5 f5.sub.length d5 | _ => undef) (Nat.succ_pos _) (Nat.le_refl _) (by unfold maxLen; decide) hB (fun i h => ?_) (fun i h => ?_) (fun i h => ?_)
  · match i, h with
    | 0, _ => exact ⟨hc 0, hc 1, hc 2, hc 3, hz0⟩
    | 1, _ => exact ⟨hc 4, hc 5, hc 6, hc 7, hz1⟩
    | 2, _ => exact ⟨hc 8, hc 9, hc 10, hc 11, hz2⟩
    | 3, _ => exact ⟨hc 12, hc 13, hc 14, hc 15, hz3⟩
    | 4, _ => exact ⟨hc 16, hc 17, hc 18, hc 19, hz4⟩
    | 5, _ => exact ⟨hc 20, hc 21, hc 22, hc 23, hz5⟩
  · match i, h with
    | 0, _ => exact hx0.up hb
    | 1, _ => exact hx1.up hb
    | 2, _ => exact hx2.up hb
    | 3, _ => exact hx3.up hb
    | 4, _ => exact hx4.up hb
    | 5, _ => exact hx5.up hb
  · match i, h with
    | 0, _ => exact hy0.up hb
    | 1, _ => exact hy1.up hb
    | 2, _ => exact hy2.up hb
    | 3, _ => exact hy3.up hb
    | 4, _ => exact hy4.up hb
    | 5, _ => exact hy5.up hb
theorem run_forms6 {ρ : Operand → Value} {x0 x1 x2 x3 x4 x5 : Operand} {v0 v1 v2 v3 v4 v5 : Value} {f0 f1 f2 f3 f4 f5 : Fm} (ho : o.op = .buildSlice 23 6 #[(0, x0), (1, x1), (2, x2), (3, x3), (4, x4), (5, x5)]) (h0 : ρ x0 = v0) (h1 : ρ x1 = v1) (h2 : ρ x2 = v2) (h3 : ρ x3 = v3) (h4 : ρ x4 = v4) (h5 : ρ x5 = v5) (hv0 : FmVal w v0 f0) (hv1 : FmVal w v1 f1) (hv2 : FmVal w v2 f2) (hv3 : FmVal w v3 f3) (hv4 : FmVal w v4 f4) (hv5 : FmVal w v5 f5) :
    ∃ v w', (execOp ρ o).run Try.prog w = .ok (.value v) w' ∧ Below w.heap.size w w' ∧ FmsAt w' v [f0, f1, f2, f3, f4, f5] := by
  obtain ⟨a0, c0, b0, d0, a1, c1, b1, d1, a2, c2, b2, d2, a3, c3, b3, d3, a4, c4, b4, d4, a5, c5, b5, d5, ⟨rfl, rfl, rfl, rfl, rfl, rfl⟩, hb, hv⟩ := fms6_new hv0 hv1 hv2 hv3 hv4 hv5
  have hu := Try.underlying23
  exact ⟨_, _, by simp [execOp, ho, go_sem, h0, h1, h2, h3, h4, h5], hb, hv⟩
theorem tms1_new {w : World} {v0 : Value} {f0 : Tm} (hv0 : TmVal w v0 f0) :
    ∃ a0 c0, (v0 = .agg #[.bool f0.v, .string f0.name, .slice a0 f0.args.length c0]) ∧ Below w.heap.size w (w.alloc (.cells #[.bool f0.v, .string f0.name, .slice a0 f0.args.length c0] 34)) ∧ TmsAt (w.alloc (.cells #[.bool f0.v, .string f0.name, .slice a0 f0.args.length c0] 34)) (.slice (some ⟨w.heap.size, 0, none⟩) 1 1) [f0] := by
  obtain ⟨p0, rfl, hx0, hz0⟩ := hv0
  obtain ⟨a0, c0, rfl, -⟩ := hx0.at
  obtain ⟨W, hW⟩ : ∃ W, w.alloc (.cells #[.bool f0.v, .string f0.name, .slice a0 f0.args.length c0] 34) = W := ⟨_, rfl⟩
  have hb : Below w.heap.size w W := by rw [← hW]; exact (Below.refl _ _).alloc (Nat.le_refl _) _
  have hB : w.heap.size < W.heap.size := by rw [← hW]; simp
  have hc : ∀ j, W.cell? ⟨w.heap.size, j, none⟩ = (#[.bool f0.v, .string f0.name, .slice a0 f0.args.length c0] : Array Value)[j]? := fun j => by rw [← hW, World.cell?_alloc_at _ _ _ _ rfl]
  refine ⟨a0, c0, rfl, by rw [hW]; exact hb, ?_⟩
  rw [hW]
  refine TmsAt.row (W := W) w.heap.size 0 1 [f0] (fun i => match i with | 0 => .slice a0 f0.args.length c0 | _ => undef) (Nat.succ_pos _) (Nat.le_refl _) (by unfold maxLen; decide) hB (fun i h => ?_) (fun i h => ?_)
  · match i, h with
    | 0, _ => exact ⟨hc 0, hc 1, hc 2, hz0⟩
  · match i, h with
    | 0, _ => exact hx0.up hb
theorem run_terms1 {ρ : Operand → Value} {x0 : Operand} {v0 : Value} {f0 : Tm} (ho : o.op = .buildSlice 22 1 #[(0, x0)]) (h0 : ρ x0 = v0) (hv0 : TmVal w v0 f0) :
    ∃ v w', (execOp ρ o).run Try.prog w = .ok (.value v) w' ∧ Below w.heap.size w w' ∧ TmsAt w' v [f0] := by
  obtain ⟨a0, c0, rfl, hb, hv⟩ := tms1_new hv0
  have hu := Try.underlying22
  exact ⟨_, _, by simp [execOp, ho, go_sem, h0], hb, hv⟩
theorem tms2_new {w : World} {v0 v1 : Value} {f0 f1 : Tm} (hv0 : TmVal w v0 f0) (hv1 : TmVal w v1 f1) :
    ∃ a0 c0 a1 c1, (v0 = .agg #[.bool f0.v, .string f0.name, .slice a0 f0.args.length c0] ∧ v1 = .agg #[.bool f1.v, .string f1.name, .slice a1 f1.args.length c1]) ∧ Below w.heap.size w (w.alloc (.cells #[.bool f0.v, .string f0.name, .slice a0 f0.args.length c0, .bool f1.v, .string f1.name, .slice a1 f1.args.length c1] 34)) ∧ TmsAt (w.alloc (.cells #[.bool f0.v, .string f0.name, .slice a0 f0.args.length c0, .bool f1.v, .string f1.name, .slice a1 f1.args.length c1] 34)) (.slice (some ⟨w.heap.size, 0, none⟩) 2 2) [f0, f1] := by
  obtain ⟨p0, rfl, hx0, hz0⟩ := hv0
  obtain ⟨a0, c0, rfl, -⟩ := hx0.at
  obtain ⟨p1, rfl, hx1, hz1⟩ := hv1
  obtain ⟨a1, c1, rfl, -⟩ := hx1.at
  obtain ⟨W, hW⟩ : ∃ W, w.alloc (.cells #[.bool f0.v, .string f0.name, .slice a0 f0.args.length c0, .bool f1.v, .string f1.name, .slice a1 f1.args.length c1] 34) = W := ⟨_, rfl⟩
  have hb : Below w.heap.size w W := by rw [← hW]; exact (Below.refl _ _).alloc (Nat.le_refl _) _
  have hB : w.heap.size < W.heap.size := by rw [← hW]; simp
  have hc : ∀ j, W.cell? ⟨w.heap.size, j, none⟩ = (#[.bool f0.v, .string f0.name, .slice a0 f0.args.length c0, .bool f1.v, .string f1.name, .slice a1 f1.args.length c1] : Array Value)[j]? := fun j => by rw [← hW, World.cell?_alloc_at _ _ _ _ rfl]
  refine ⟨a0, c0, a1, c1, ⟨rfl, rfl⟩, by rw [hW]; exact hb, ?_⟩
  rw [hW]
  refine TmsAt.row (W := W) w.heap.size 0 2 [f0, f1] (fun i => match i with | 0 => .slice a0 f0.args.length c0 | 1 => .slice a1 f1.args.length c1 | _ => undef) (Nat.succ_pos _) (Nat.le_refl _) (by unfold maxLen; decide) hB (fun i h => ?_) (fun i h => ?_)
  · match i, h with
    | 0, _ => exact ⟨hc 0, hc 1, hc 2, hz0⟩
    | 1, _ => exact ⟨hc 3, hc 4, hc 5, hz1⟩
  · match i, h with
    | 0, _ => exact hx0.up hb
    | 1, _ => exact hx1.up hb
theorem run_terms2 {ρ : Operand → Value} {x0 x1 : Operand} {v0 v1 : Value} {f0 f1 : Tm} (ho : o.op = .buildSlice 22 2 #[(0, x0), (1, x1)]) (h0 : ρ x0 = v0) (h1 : ρ x1 = v1) (hv0 : TmVal w v0 f0) (hv1 : TmVal w v1 f1) :
    ∃ v w', (execOp ρ o).run Try.prog w = .ok (.value v) w' ∧ Below w.heap.size w w' ∧ TmsAt w' v [f0, f1] := by
  obtain ⟨a0, c0, a1, c1, ⟨rfl, rfl⟩, hb, hv⟩ := tms2_new hv0 hv1
  have hu := Try.underlying22
  exact ⟨_, _, by simp [execOp, ho, go_sem, h0, h1], hb, hv⟩
theorem tms5_new {w : World} {v0 v1 v2 v3 v4 : Value} {f0 f1 f2 f3 f4 : Tm} (hv0 : TmVal w v0 f0) (hv1 : TmVal w v1 f1) (hv2 : TmVal w v2 f2) (hv3 : TmVal w v3 f3) (hv4 : TmVal w v4 f4) :
    ∃ a0 c0 a1 c1 a2 c2 a3 c3 a4 c4, (v0 = .agg #[.bool f0.v, .string f0.name, .slice a0 f0.args.length c0] ∧ v1 = .agg #[.bool f1.v, .string f1.name, .slice a1 f1.args.length c1] ∧ v2 = .agg #[.bool f2.v, .string f2.name, .slice a2 f2.args.length c2] ∧ v3 = .agg #[.bool f3.v, .string f3.name, .slice a3 f3.args.length c3] ∧ v4 = .agg #[.bool f4.v, .string f4.name, .slice a4 f4.args.length c4]) ∧ Below w.heap.size w (w.alloc (.cells #[.bool f0.v, .string f0.name, .slice a0 f0.args.length c0, .bool f1.v, .string f1.name, .slice a1 f1.args.length c1, .bool f2.v, .string f2.name, .slice a2 f2.args.length c2, .bool f3.v, .string f3.name, .slice a3 f3.args.length c3, .bool f4.v, .string f4.name, .slice a4 f4.args.length c4] 34)) ∧ TmsAt (w.alloc (.cells #[.bool f0.v, .string f0.name, .slice a0 f0.args.length c0, .bool f1.v, .string f1.name, .slice a1 f1.args.length c1, .bool f2.v, .string f2.name, .slice a2 f2.args.length c2, .bool f3.v, .string f3.name, .slice a3 f3.args.length c3, .bool f4.v, .string f4.name, .slice a4 f4.args.length c4] 34)) (.slice (some ⟨w.heap.size, 0, none⟩) 5 5) [f0, f1, f2, f3, f4] := by
  obtain ⟨p0, rfl, hx0, hz0⟩ := hv0
  obtain ⟨a0, c0, rfl, -⟩ := hx0.at
  obtain ⟨p1, rfl, hx1, hz1⟩ := hv1
  obtain ⟨a1, c1, rfl, -⟩ := hx1.at
  obtain ⟨p2, rfl, hx2, hz2⟩ := hv2
  obtain ⟨a2, c2, rfl, -⟩ := hx2.at
  obtain ⟨p3, rfl, hx3, hz3⟩ := hv3
  obtain ⟨a3, c3, rfl, -⟩ := hx3.at
  obtain ⟨p4, rfl, hx4, hz4⟩ := hv4
  obtain ⟨a4, c4, rfl, -⟩ := hx4.at
  obtain ⟨W, hW⟩ : ∃ W, w.alloc (.cells #[.bool f0.v, .string f0.name, .slice a0 f0.args.length c0, .bool f1.v, .string f1.name, .slice a1 f1.args.length c1, .bool f2.v, .string f2.name, .slice a2 f2.args.length c2, .bool f3.v, .string f3.name, .slice a3 f3.args.length c3, .bool f4.v, .string f4.name, .slice a4 f4.args.length c4] 34) = W := ⟨_, rfl⟩
  have hb : Below w.heap.size w W := by rw [← hW]; exact (Below.refl _ _).alloc (Nat.le_refl _) _
  have hB : w.heap.size < W.heap.size := by rw [← hW]; simp
  have hc : ∀ j, W.cell? ⟨w.heap.size, j, none⟩ = (#[.bool f0.v, .string f0.name, .slice a0 f0.args.length c0, .bool f1.v, .string f1.name, .slice a1 f1.args.length c1, .bool f2.v, .string f2.name, .slice a2 f2.args.length c2, .bool f3.v, .string f3.name, .slice a3 f3.args.length c3, .bool f4.v, .string f4.name, .slice a4 f4.args.length c4] : Array Value)[j]? := fun j => by rw [← hW, World.cell?_alloc_at _ _ _ _ rfl]
  refine ⟨a0, c0, a1, c1, a2, c2, a3, c3, a4, c4, ⟨rfl, rfl, rfl, rfl, rfl⟩, by rw [hW]; exact hb, ?_⟩
  rw [hW]
  refine TmsAt.row (W := W) w.heap.size 0 5 [f0, f1, f2, f3, f4] (fun i => match i with | 0 => .slice a0 f0.args.length c0 | 1 => .slice a1 f1.args.length c1 | 2 => .slice a2 f2.args.length c2 | 3 => .slice a3 f3.args.length c3 | 4 => .slice a4 f4.args.length c4 | _ => undef) (Nat.succ_pos _) (Nat.le_refl _) (by unfold maxLen; decide) hB (fun i h => ?_) (fun i h => ?_)
  · match i, h with
    | 0, _ => exact ⟨hc 0, hc 1, hc 2, hz0⟩
    | 1, _ => exact ⟨hc 3, hc 4, hc 5, hz1⟩
    | 2, _ => exact ⟨hc 6, hc 7, hc 8, hz2⟩
    | 3, _ => exact ⟨hc 9, hc 10, hc 11, hz3⟩
    | 4, _ => exact ⟨hc 12, hc 13, hc 14, hz4⟩
  · match i, h with
    | 0, _ => exact hx0.up hb
    | 1, _ => exact hx1.up hb
    | 2, _ => exact hx2.up hb
    | 3, _ => exact hx3.up hb
    | 4, _ => exact hx4.up hb
theorem run_terms5 {ρ : Operand → Value} {x0 x1 x2 x3 x4 : Operand} {v0 v1 v2 v3 v4 : Value} {f0 f1 f2 f3 f4 : Tm} (ho : o.op = .buildSlice 22 5 #[(0, x0), (1, x1), (2, x2), (3, x3), (4, x4)]) (h0 : ρ x0 = v0) (h1 : ρ x1 = v1) (h2 : ρ x2 = v2) (h3 : ρ x3 = v3) (h4 : ρ x4 = v4) (hv0 : TmVal w v0 f0) (hv1 : TmVal w v1 f1) (hv2 : TmVal w v2 f2) (hv3 : TmVal w v3 f3) (hv4 : TmVal w v4 f4) :
    ∃ v w', (execOp ρ o).run Try.prog w = .ok (.value v) w' ∧ Below w.heap.size w w' ∧ TmsAt w' v [f0, f1, f2, f3, f4] := by
  obtain ⟨a0, c0, a1, c1, a2, c2, a3, c3, a4, c4, ⟨rfl, rfl, rfl, rfl, rfl⟩, hb, hv⟩ := tms5_new hv0 hv1 hv2 hv3 hv4
  have hu := Try.underlying22
  exact ⟨_, _, by simp [execOp, ho, go_sem, h0, h1, h2, h3, h4], hb, hv⟩
end

end Go.Proofs.Ytollifednpjkeaa
