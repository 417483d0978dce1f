import Derived.WalkKit
import Derived.BigQuiet
import Derived.Deep.QuietTactic
import Derived.Lib.Hide
namespace Go.Proofs.Ytodaembemcljnaa
open Go.RowKit

/-! A region that draws its order, whose callees make memory of their own and hand back plain values: one walk. -/
structure Later (w : World) where
  w' : World
  h : Below w.heap.size w w'

instance (w : World) : Nonempty (Later w) := ⟨⟨w, Below.refl _ _⟩⟩

theorem wp_region_later {P : Program} {id : Nat} {Q : Exit → Act → World → Prop} {a : Act} {w : World} {l : List Oper} (hm : P.follows .mixedOrders = true) (hB : Region.lexB .any l.toArray = true)
    (h : wpQuiet P l.toArray (fun x => ∃ p : Later w, x = p.w') (fun a' => ∀ x, (∃ p : Later w, x = p.w') → Q .normal a' x) l a) : (Code.region id l.toArray true).wp P Q a w :=
  wp_region_quiet (C := fun x => ∃ p : Later w, x = p.w') hm hB ⟨⟨w.drew, (Below.refl _ _).drew⟩, rfl⟩ (by simpa using h)
theorem Calls.later_of {P : Program} {f : FuncId} {args : Array Value} {w : World} {p : Later w} {v : Value}
    (h : Calls P f args p.w' fun e x => e = .returned v ∧ Below p.w'.heap.size p.w' x) : Calls P f args p.w' fun e x => e = .returned v ∧ ∃ q : Later w, x = q.w' :=
  h.mono fun _ x ⟨he, hb⟩ => ⟨he, ⟨x, p.h.trans (hb.mono p.h.size)⟩, rfl⟩
theorem Later.cell {w : World} (p : Later w) {b o : Nat} {v : Value} (h : w.cell? ⟨b, o, none⟩ = some v) (hb : b < w.heap.size) : p.w'.cell? ⟨b, o, none⟩ = some v :=
  (p.h.cell (p := ⟨b, o, none⟩) hb).trans h

end Go.Proofs.Ytodaembemcljnaa
