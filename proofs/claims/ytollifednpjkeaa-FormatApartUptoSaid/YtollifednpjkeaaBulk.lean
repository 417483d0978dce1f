import Derived.Test.YtollifednpjkeaaTree
/-
  What the bound of the second form gives, and: an argument that a law has not touched reads as it did.
-/
namespace Go.Proofs.Ytollifednpjkeaa
open Go.RowKit Go

theorem bulk_one {H : Type} (d : DataW H) : 1 ≤ Rows.uptoBulk d := by
  cases d with
  | lit l => cases l <;> simp [Rows.uptoBulk]
  | nil => simp [Rows.uptoBulk]
  | ptr d => simp [Rows.uptoBulk]
  | slice elems spare => simp [Rows.uptoBulk]
  | agg parts => simp [Rows.uptoBulk]
  | iface t d => simp [Rows.uptoBulk]
  | map entries => simp [Rows.uptoBulk]
  | held h => simp [Rows.uptoBulk]

theorem laid_out : laidOutB Try.prog = true := by kernel_rfl
theorem read_form : Try.prog.readableRec 25 = true := by kernel_rfl
theorem read_term : Try.prog.readableRec 34 = true := by kernel_rfl
theorem type_form : 25 < Try.prog.types.size := of_decide_eq_true (by kernel_rfl)
theorem type_term : 34 < Try.prog.types.size := of_decide_eq_true (by kernel_rfl)

theorem form_stays {H : Type} {enc : TypeId × Value → H} {W W' : World} {v : Value} {d : DataW H} {ps before : List MemPlace} {sp : Nat → Bool} (h : DataW.Trod enc Try.prog W 0 (fun _ => true) true 25 v d ps) (hb : Below W.heap.size W W')
    (hlt : ∀ p ∈ before, p.block < W.heap.size) (hsub : ∀ p ∈ ps, p ∈ before) (hs : ∀ p ∈ before, sp p.block = true) : DataW.Trod enc Try.prog W' 0 sp true 25 v d ps :=
  WideElems.Trod_stays laid_out read_form type_form h (fun x hx => hb.same (hlt x (hsub x hx))) (fun x hx => hs x (hsub x hx))
theorem term_stays {H : Type} {enc : TypeId × Value → H} {W W' : World} {v : Value} {d : DataW H} {ps before : List MemPlace} {sp : Nat → Bool} (h : DataW.Trod enc Try.prog W 0 (fun _ => true) true 34 v d ps) (hb : Below W.heap.size W W')
    (hlt : ∀ p ∈ before, p.block < W.heap.size) (hsub : ∀ p ∈ ps, p ∈ before) (hs : ∀ p ∈ before, sp p.block = true) : DataW.Trod enc Try.prog W' 0 sp true 34 v d ps :=
  WideElems.Trod_stays laid_out read_term type_term h (fun x hx => hb.same (hlt x (hsub x hx))) (fun x hx => hs x (hsub x hx))

end Go.Proofs.Ytollifednpjkeaa
