import Derived.Test.YtollifednpjkeaaTreeH
import Derived.Laws.EntriesVeiled
import Derived.Deep.MidRow
/-
  Formulas that are right: the rows of the operators, shape, Schema.
-/
namespace Go.Proofs.Ytollifednpjkeaa
open Go.RowKit

def rowsCells : Array Value := #[.nilFunc, .int .i64 0, .int .i64 0, .int .i64 0, .func (.func 77) #[] #[], .int .i64 4, .int .i64 0, .int .i64 0, .func (.func 76) #[] #[], .int .i64 0, .int .i64 0, .int .i64 0, .func (.func 76) #[] #[], .int .i64 0, .int .i64 1, .int .i64 0, .func (.func 76) #[] #[], .int .i64 0, .int .i64 2, .int .i64 0, .func (.func 76) #[] #[], .int .i64 0, .int .i64 2, .int .i64 0, .func (.func 76) #[] #[], .int .i64 0, .int .i64 2, .int .i64 0, .func (.func 76) #[] #[], .int .i64 0, .int .i64 2, .int .i64 0, .func (.func 63) #[] #[], .int .i64 0, .int .i64 1, .int .i64 0, .func (.func 63) #[] #[], .int .i64 0, .int .i64 1, .int .i64 0, .func (.func 76) #[] #[], .int .i64 0, .int .i64 1, .int .i64 0, .func (.func 76) #[] #[], .int .i64 0, .int .i64 1, .int .i64 0, .func (.func 76) #[] #[], .int .i64 0, .int .i64 1, .int .i64 0, .func (.func 76) #[] #[], .int .i64 0, .int .i64 1, .int .i64 0, .func (.func 76) #[] #[], .int .i64 0, .int .i64 2, .int .i64 0, .func (.func 78) #[] #[], .int .i64 0, .int .i64 0, .int .i64 1, .func (.func 78) #[] #[], .int .i64 2, .int .i64 0, .int .i64 1]

theorem rows_there (w : World) (a b c : Obj) : ((((w.alloc (.cells Try.zeroCells75 75)).alloc a).alloc b).alloc c).there w.heap.size 0 rowsCells.size := by
  intro j hj
  have hj' : j < 68 := hj
  have hz : (Try.zeroCells75).size = 68 := by kernel_rfl
  have hh : ∀ W : World, Below (w.heap.size + 1) (w.alloc (.cells Try.zeroCells75 75)) W → (W.cell? ⟨w.heap.size, 0 + j, none⟩).isSome = true ∧ W.frozen? ⟨w.heap.size, 0 + j, none⟩ = false := by
    intro W hb
    have h1 : W.heap[w.heap.size]? = some (.cells Try.zeroCells75 75 (0, 0)) := (hb.block _ (by omega)).trans (World.alloc_heap_new w _)
    constructor
    · simp [World.cell?, h1, hz, hj']
    · simp [World.frozen?, h1]
  exact hh _ ((((Below.refl _ _).alloc (by simp) _).alloc (by simp) _).alloc (by simp) _)

/-- The result is a variable in memory. -/
theorem results_cell {P : Program} {fn : Func} {s : Tmp} {T : TypeId} {tmps : Array Value} {a : Addr} {v : Value} {w : World} (h : fn.results = #[.cell s T]) (ht : tmps.getD s undef = .pointer (some a)) (hl : (loadVar T a).run P w = .ok v w) :
    (results fn tmps).run P w = .ok v w := by
  have ht' : tmps[s]?.getD undef = .pointer (some a) := by simpa using ht
  simp [results, h, ht', asAddr, hl]
theorem Below.setCells' {B : Nat} {A : World} (b : Nat) (hb : B ≤ b) : ∀ (vs : List Value) (o : Nat) (W : World), Below B A W → Below B A (W.setCells b o vs)
  | [], _, _, h => h
  | v :: r, o, _, h => Below.setCells' b hb r (o + 1) _ (h.setCell hb v)

set_option maxRecDepth 100000 in
set_option maxHeartbeats 4000000 in
theorem rows_any (w : World) : Calls Try.prog 47 #[] w fun e w' => e = .returned (.agg rowsCells) ∧ Below w.heap.size w w' := by
  go_enter Try.func47, Try.ntmps47
  go_wp2_with (refine wpList_store_mid rfl 75 _ _ rfl w.heap.size 0 rowsCells rfl rfl ?c1 ?c2 ?c3 ?_)
  case c1 => exact rows_there w _ _ _
  case c2 => kernel_rfl
  case c3 => simp [rowsCells, Value.oneCell']
  refine bodyPost_ret (v := .agg rowsCells) ?_ rfl ⟨rfl, ?_⟩
  · have hl := fun a b c : Obj => run_loadVar_mid (P := Try.prog) (((((w.alloc (.cells Try.zeroCells75 75)).alloc a).alloc b).alloc c).setCells w.heap.size 0 rowsCells.toList) w.heap.size 0 75 rowsCells.toList _ (World.rangeAt_setCells_same _ w.heap.size 0 rowsCells.toList (rows_there w a b c)) Try.underlying75 rfl (by kernel_rfl)
    exact results_cell rfl rfl (hl _ _ _)
  · exact Below.setCells' _ (Nat.le_refl _) _ _ _ (((((Below.refl _ _).alloc (Nat.le_refl _) _).alloc (by simp) _).alloc (by simp; omega) _).alloc (by simp; omega) _)

end Go.Proofs.Ytollifednpjkeaa
