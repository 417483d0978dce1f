import Derived.Test.YtollifednpjkeaaTreeJ
/-
  Formulas that are right: shape, Schema.
-/
namespace Go.Proofs.Ytollifednpjkeaa
open Go.RowKit

def isEmp (s : ByteArray) : Bool := s.toList.isEmpty
theorem none_any (s : ByteArray) (w : World) : Calls Try.prog 76 #[.string s] w fun e w' => e = .returned (.bool (isEmp s)) ∧ Below w.heap.size w w' := by
  obtain ⟨b, hb⟩ : ∃ b, s.toList.isEmpty = b := ⟨_, rfl⟩
  have HB := Lib.hid hb
  go_enter Try.func76, Try.ntmps76
  go_wp2_with fail
  go_ret
  exact ⟨ret_bool (by unfold isEmp; rw [HB.out]), Below.refl _ _⟩

/-- What a formula with an operator has. -/
structure RowD where
  nm : ByteArray → Bool
  ar : Nat
  sb : Nat
  sc : Int
def rowD : Nat → RowD
  | 1 => ⟨isPred, 4, 0, 0⟩
  | 2 => ⟨isEmp, 0, 0, 0⟩
  | 4 => ⟨isEmp, 0, 2, 0⟩
  | 5 => ⟨isEmp, 0, 2, 0⟩
  | 6 => ⟨isEmp, 0, 2, 0⟩
  | 7 => ⟨isEmp, 0, 2, 0⟩
  | 14 => ⟨isEmp, 0, 2, 0⟩
  | 8 => ⟨isVar, 0, 1, 0⟩
  | 9 => ⟨isVar, 0, 1, 0⟩
  | 15 => ⟨isMetaF, 0, 0, 1⟩
  | 16 => ⟨isMetaF, 2, 0, 1⟩
  | _ => ⟨isEmp, 0, 1, 0⟩
theorem tellsNone : TellsStr 76 isEmp := ⟨Try.call76, none_any⟩
theorem tellsVar : TellsStr 63 isVar := ⟨Try.call63, variable_any⟩
theorem tellsPred : TellsStr 77 isPred := ⟨Try.call77, predicate_any⟩
theorem tellsMetaF : TellsStr 78 isMetaF := ⟨Try.call78, ofForms_any⟩
theorem rows_at (k : Nat) (h1 : 1 ≤ k) (h2 : k ≤ 16) : ∃ kf, rowsCells[k * 4]? = some (.func (.func kf) #[] #[]) ∧ rowsCells[k * 4 + 1]? = some (.int .i64 (rowD k).ar) ∧ rowsCells[k * 4 + 2]? = some (.int .i64 (rowD k).sb) ∧ rowsCells[k * 4 + 3]? = some (.int .i64 (rowD k).sc) ∧ TellsStr kf (rowD k).nm := by
  obtain rfl | rfl | rfl | rfl | rfl | rfl | rfl | rfl | rfl | rfl | rfl | rfl | rfl | rfl | rfl | rfl : k = 1 ∨ k = 2 ∨ k = 3 ∨ k = 4 ∨ k = 5 ∨ k = 6 ∨ k = 7 ∨ k = 8 ∨ k = 9 ∨ k = 10 ∨ k = 11 ∨ k = 12 ∨ k = 13 ∨ k = 14 ∨ k = 15 ∨ k = 16 := by omega
  all_goals exact ⟨_, rfl, rfl, rfl, rfl, by first | exact tellsNone | exact tellsVar | exact tellsPred | exact tellsMetaF⟩
theorem rowD_le (k : Nat) : (rowD k).ar ≤ 4 ∧ (rowD k).sb ≤ 2 ∧ 0 ≤ (rowD k).sc ∧ (rowD k).sc ≤ 1 := by
  unfold rowD; split <;> decide

/-- The part of a formula with a metavariable of formulas and two terms. -/
def instOk : List Tm → Bool
  | [x, y] => x.ok false && (x.v && (y.v && (isMetaT y.name && y.args.isEmpty)))
  | _ => false
def headOk (sc : Bool) (o : Int) (n : ByteArray) (a s : Nat) : Bool :=
  decide (1 ≤ o ∧ o ≤ 16) && (decide ((rowD o.toNat).sc ≤ scI sc) && ((rowD o.toNat).nm n && (decide (a ≤ (rowD o.toNat).ar) && decide (s = (rowD o.toNat).sb))))
def argsOk (sc : Bool) (o : Int) (a : List Tm) : Bool := if o = 16 then instOk a else allOk sc a
mutual
def Fm.sh (sc : Bool) : Fm → Bool
  | .mk o n a s => headOk sc o n a.length s.length && (argsOk sc o a && allSh sc s)
def allSh (sc : Bool) : List Fm → Bool
  | [] => true
  | f :: r => f.sh sc && allSh sc r
end
theorem Fm.sh_eq (sc : Bool) (f : Fm) : f.sh sc = (headOk sc f.op f.name f.args.length f.sub.length && (argsOk sc f.op f.args && allSh sc f.sub)) := by cases f; simp only [Fm.sh, Fm.op, Fm.name, Fm.args, Fm.sub]
theorem allSh_any (sc : Bool) (l : List Fm) : allSh sc l = !(l.any fun f => !f.sh sc) := by
  induction l with
  | nil => rfl
  | cons t r ih => simp only [allSh, List.any_cons, ih]; cases t.sh sc <;> simp

def ShapeP (N : Nat) : Prop := ∀ (f : Fm), f.wt ≤ N → N ≤ 10000000 → ∀ (sc : Bool) (v : Value) (w : World), FmVal w v f →
    Calls Try.prog 24 #[v, .int .i64 (scI sc)] w fun e w' => e = .returned (.bool (f.sh sc)) ∧ Below w.heap.size w w'

theorem shape1_tells (N : Nat) (hN : N ≤ 10000000) (sc : Bool) (b : Nat) :
    TellsTm 51 #[.pointer (some ⟨b, 0, none⟩)] (fun W => W.cell? ⟨b, 0, none⟩ = some (.int .i64 (scI sc))) (fun t => !t.ok sc) N := by
  refine ⟨Try.call51, fun A B h hb => (hb.cell (p := ⟨b, 0, none⟩) (World.block_lt_of_cell? A _ h)).trans h, ?_⟩
  intro t v W hP ht hv
  have hv' := hv
  obtain ⟨x, rfl, hx, hz⟩ := hv
  obtain ⟨ax, cx, rfl, _⟩ := hx.at
  obtain ⟨wb, hwb⟩ : ∃ wb, W.alloc (.cells #[.bool t.v, .string t.name, .slice ax t.args.length cx] 34) = wb := ⟨_, rfl⟩
  have hbb : Below W.heap.size W wb := by rw [← hwb]; exact (Below.refl _ _).alloc (Nat.le_refl _) _
  have f0 : wb.cell? ⟨W.heap.size, 0, none⟩ = some (.bool t.v) := by rw [← hwb, World.cell?_alloc_at _ _ _ _ rfl]; rfl
  have f1 : wb.cell? ⟨W.heap.size, 1, none⟩ = some (.string t.name) := by rw [← hwb, World.cell?_alloc_at _ _ _ _ rfl]; rfl
  have f2 : wb.cell? ⟨W.heap.size, 2, none⟩ = some (.slice ax t.args.length cx) := by rw [← hwb, World.cell?_alloc_at _ _ _ _ rfl]; rfl
  have hPb := (hbb.cell (p := ⟨b, 0, none⟩) (World.block_lt_of_cell? W _ hP)).trans hP
  have H := Lib.hid (term_all N t ht hN sc _ wb (hv'.up hbb))
  clear hv'
  show Calls Try.prog _ #[.agg #[.bool t.v, .string t.name, .slice ax t.args.length cx], .pointer (some ⟨b, 0, none⟩)] W _
  go_enter Try.func51, Try.ntmps51
  go_wp2_with fail
  refine H.out.mono ?_
  rintro e w' ⟨rfl, hb⟩
  go_wp2_with fail
  go_ret
  exact ⟨rfl, hbb.trans (hb.mono hbb.size)⟩
theorem shape2_tells (N : Nat) (hN : N ≤ 10000000) (ih : ShapeP N) (sc : Bool) (b : Nat) :
    TellsFm 52 #[.pointer (some ⟨b, 0, none⟩)] (fun W => W.cell? ⟨b, 0, none⟩ = some (.int .i64 (scI sc))) (fun t => !t.sh sc) N := by
  refine ⟨Try.call52, fun A B h hb => (hb.cell (p := ⟨b, 0, none⟩) (World.block_lt_of_cell? A _ h)).trans h, ?_⟩
  intro t v W hP ht hv
  have hv' := hv
  obtain ⟨x, y, rfl, hx, hy, hz⟩ := hv
  obtain ⟨ax, cx, rfl, _⟩ := hx.at
  obtain ⟨ay, cy, rfl, _⟩ := hy.at
  obtain ⟨wb, hwb⟩ : ∃ wb, W.alloc (.cells #[.int .u8 t.op, .string t.name, .slice ax t.args.length cx, .slice ay t.sub.length cy] 25) = wb := ⟨_, rfl⟩
  have hbb : Below W.heap.size W wb := by rw [← hwb]; exact (Below.refl _ _).alloc (Nat.le_refl _) _
  have f0 : wb.cell? ⟨W.heap.size, 0, none⟩ = some (.int .u8 t.op) := by rw [← hwb, World.cell?_alloc_at _ _ _ _ rfl]; rfl
  have f1 : wb.cell? ⟨W.heap.size, 1, none⟩ = some (.string t.name) := by rw [← hwb, World.cell?_alloc_at _ _ _ _ rfl]; rfl
  have f2 : wb.cell? ⟨W.heap.size, 2, none⟩ = some (.slice ax t.args.length cx) := by rw [← hwb, World.cell?_alloc_at _ _ _ _ rfl]; rfl
  have f3 : wb.cell? ⟨W.heap.size, 3, none⟩ = some (.slice ay t.sub.length cy) := by rw [← hwb, World.cell?_alloc_at _ _ _ _ rfl]; rfl
  have hPb := (hbb.cell (p := ⟨b, 0, none⟩) (World.block_lt_of_cell? W _ hP)).trans hP
  have H := Lib.hid (ih t ht hN sc _ wb (hv'.up hbb))
  clear hv' ih
  show Calls Try.prog _ #[.agg #[.int .u8 t.op, .string t.name, .slice ax t.args.length cx, .slice ay t.sub.length cy], .pointer (some ⟨b, 0, none⟩)] W _
  go_enter Try.func52, Try.ntmps52
  go_wp2_with fail
  refine H.out.mono ?_
  rintro e w' ⟨rfl, hb⟩
  go_wp2_with fail
  go_ret
  exact ⟨rfl, hbb.trans (hb.mono hbb.size)⟩

end Go.Proofs.Ytollifednpjkeaa
