/-
  lyceumlaw01.SeedWeighs returns true for every key, index and list: Weigh returns what the reference returns, and leaves the list unchanged.
  Conditions: the arguments are of bulk at most 1048576 (the given second form); else none beyond the given row's own.
-/
import Derived.Test.YtodaembemcljnaaRows
import Derived.Test.YtodaembemcljnaaPost
import Derived.Test.YtodaembemcljnaaSeedZd
import Derived.ChangeOld
import Derived.Below
import Derived.WalkKit
import Derived.ProofKit
import Derived.OpenShut
import Derived.ShutString
import Derived.JoinedCond
namespace Go.Proofs.Ytodaembemcljnaa.seedWeighs
open Go.ChangeShapes Go.WideShapes Go.ChangeAt Go.RowKit
open Go.ChangeMaps (open_string shut_string)
set_option linter.unusedVariables false

theorem laidOut : laidOutB Try.prog = true := by kernel_rfl
theorem own : ownKnob Try.prog.godebug = none := by kernel_rfl

set_option maxRecDepth 100000 in
/-- What the walk gives. -/
theorem contract (H : Type) (enc : TypeId × Value → H) (W : World) (base : Nat) (args : Array Value) (ds gs : List (DataW H)) (before : List MemPlace)
    (hval : ∀ (j : Nat) t v, Try.f4.params[j]? = some t → args[j]? = some v → Value.okWide Try.prog W .any base t v)
    (hW : DataW.Whole enc Try.prog Try.f4.params.toList Rows.seedWeighsSpec.vars false W args.toList ds gs before) (hk : Rows.uptoSmall H (ds ++ gs) = true) :
    Calls Try.prog 4 args W fun e W' => ∃ v, e = .returned v ∧ Rows.seedWeighsSpec.post enc Try.prog Try.f4 false true false false W args v W' := by
  have hW' := hW
  obtain ⟨p, q, hA0, hV, rfl, hfz, hnd⟩ := hW
  have hA : DataW.TrodAll enc Try.prog W 0 (fun _ => true) true Try.f4.params.toList args.toList ds p := hA0
  rw [Try.params4] at hA hval
  obtain ⟨v0, vs0, d0, ds0, p0, q0, hargs, rfl, rfl, h0, r0⟩ := trodAll_cons hA
  obtain ⟨v1, vs1, d1, ds1, p1, q1, rfl, rfl, rfl, h1, r1⟩ := trodAll_cons r0
  obtain ⟨v2, vs2, d2, ds2, p2, q2, rfl, rfl, rfl, h2, r2⟩ := trodAll_cons r1
  obtain ⟨rfl, rfl, rfl⟩ := trodAll_nil r2
  obtain rfl : args = #[v0, v1, v2] := by cases args; simp_all
  obtain ⟨rfl, rfl⟩ := trodVars_none hV
  obtain ⟨a0, rfl, rfl, rfl, w0⟩ := open_int Try.underlying22 (hval 0 22 v0 rfl rfl) h0
  obtain ⟨a1, rfl, rfl, rfl, w1⟩ := open_int Try.underlying3 (hval 1 3 v1 rfl rfl) h1
  obtain ⟨a2, len2, cap2, rfl⟩ := okWide_slice Try.underlying25 (hval 2 25 v2 rfl rfl)
  have k2 := h2
  have lt2 : ∀ x ∈ p2, x.block < W.heap.size := by obtain ⟨m, hm⟩ := k2; exact DataW.trod_lt m _ _ _ hm
  have hB := of_decide_eq_true hk
  obtain ⟨fuel, hf⟩ := h2
  clear hA0
  rcases open_ints Try.underlying25 Try.underlying3 (by kernel_rfl) hf with ⟨hcs, hx⟩ | ⟨x, l, c, zs, hcs, _, hl, hm, hz, hx, hcell, hwz⟩
  · simp [Value.cells] at hcs
    obtain ⟨rfl, rfl, rfl⟩ := hcs
    have HSL : SliceI W (.slice none 0 0) [] := ⟨none, 0, rfl, Nat.le_refl _, Nat.zero_le _, fun h => by simp at h⟩
    have HNIL : ∀ n c, (Value.slice none 0 0) = .slice none n c → c = 0 := fun n c h => by cases h; rfl
    have HLEN : ([] : List Int).length ≤ 1048576 := by simp
    obtain ⟨x, rfl⟩ := wd_of a0 w0
    refine (seedWeighs_walk x a1 _ _ W HSL HNIL HLEN).mono fun e W' ⟨he, bel⟩ => ?_
    subst he
    exact ⟨_, rfl, _, _, _, [], _, [], hW', trodAll_mk1 (shut_bool Try.underlying4 _), (trodAll_cons_mk (shut_int Try.underlying22 w0) (trodAll_cons_mk (shut_int Try.underlying3 w1) (trodAll_cons_mk (Below.trod laidOut (by kernel_rfl) (of_decide_eq_true (by kernel_rfl)) k2 bel lt2) trodAll_mk0))), rfl, bel.frame _, fun h => by cases h⟩
  · simp [Value.cells] at hcs
    obtain ⟨rfl, rfl, rfl⟩ := hcs
    have hzc : zs.length = cap2 := by simpa using hz
    have hd : d2 = .slice (lits .i64 (zs.take len2)) (lits .i64 (zs.drop len2)) := congrArg Prod.fst hx
    have HSL : SliceI W (.slice (some x) len2 cap2) (zs.take len2) := by
      have htl : (zs.take len2).length = len2 := by rw [List.length_take]; omega
      refine ⟨some x, cap2, by rw [htl], by rw [htl]; exact hl, hm, fun h0 => ?_⟩
      rw [htl] at h0
      have hx0 := hcell 0 (by omega)
      have hsp : x.spot = none := World.cell?_spot (w := W) (a := x) hx0
      have hxe : x = ⟨x.block, x.off, none⟩ := by cases x; cases hsp; rfl
      refine ⟨x.block, x.off, by rw [← hxe], World.block_lt_of_cell? W x hx0, fun j hj => ?_⟩
      have hj2 : j < zs.length := by rw [htl] at hj; omega
      have h1 := hcell j hj2
      have e : x.add j = ⟨x.block, x.off + j, none⟩ := by
        rw [hxe]
        cases j with
        | zero => rfl
        | succ j => simp [Addr.add]
      rw [e] at h1
      rw [h1, List.getElem_take, List.getD_eq_getElem?_getD, List.getElem?_eq_getElem hj2]
      rfl
    have HNIL : ∀ n c', (Value.slice (some x) len2 cap2) = .slice none n c' → c' = 0 := fun n c' h => by cases h
    have HLEN : (zs.take len2).length ≤ 1048576 := by
      have hbl : ∀ (m : List Int), Rows.uptoBulkAll (H := H) (lits .i64 m) = m.length := by
        intro m
        induction m with
        | nil => rfl
        | cons a m ih =>
          show Rows.uptoBulk (H := H) (.lit (.int .i64 a)) + Rows.uptoBulkAll (H := H) (lits .i64 m) = m.length + 1
          rw [ih]; simp only [Rows.uptoBulk]; omega
      rw [hd] at hB
      simp only [List.append_nil, Rows.uptoBulkAll, Rows.uptoBulk, hbl] at hB
      omega
    obtain ⟨ky, rfl⟩ := wd_of a0 w0
    refine (seedWeighs_walk ky a1 _ _ W HSL HNIL HLEN).mono fun e W' ⟨he, bel⟩ => ?_
    subst he
    exact ⟨_, rfl, _, _, _, [], _, [], hW', trodAll_mk1 (shut_bool Try.underlying4 _), (trodAll_cons_mk (shut_int Try.underlying22 w0) (trodAll_cons_mk (shut_int Try.underlying3 w1) (trodAll_cons_mk (Below.trod laidOut (by kernel_rfl) (of_decide_eq_true (by kernel_rfl)) k2 bel lt2) trodAll_mk0))), rfl, bel.frame _, fun h => by cases h⟩

set_option maxRecDepth 100000 in
theorem lifted (os : Os) (started : os.Started) (H : Type) (enc : TypeId × Value → H) (F : Stop.Interp) :
    ReturnsInHanded {} Try.checked os 4 .any ((Rows.OpenSpec.upto Rows.seedWeighsSpec).pre6 enc Try.prog Try.f4 Rows.seedWeighsUptoRow.domain false) (((Rows.OpenSpec.upto Rows.seedWeighsSpec).at F).post enc Try.prog Try.f4 false true false false) := by
  refine returnsInHanded_of_cond (C := Try.checked) (s := Rows.OpenSpec.upto Rows.seedWeighsSpec) (k := Rows.uptoSmall) rfl own started (by kernel_rfl) Try.func4
    (OpenSpec.witness (enc := enc) (C := Try.checked) (s := Rows.OpenSpec.upto Rows.seedWeighsSpec) (k := Rows.uptoSmall) rfl false ⟨#[], #[.int .u64 0, .int .i64 0, .slice none 0 0], []⟩ 8 (by kernel_rfl) (by kernel_rfl) (by kernel_rfl)
      (x := ([.lit (.int .u64 0), .lit (.int .i64 0), .nil], [], [])) (by kernel_rfl) rfl (by kernel_rfl)) ?_
  intro W base args ds gs before hval hW _ hk _
  exact contract H enc W base args ds gs before hval hW hk

theorem over : Rows.seedWeighsUptoRow.holds Try.pinned (Rows.OpenSpec.upto Rows.seedWeighsSpec) :=
  OpenClaim.holds_of_cond 4 Try.f4 rfl rfl rfl rfl rfl rfl rfl ⟨rfl, rfl, rfl, rfl, rfl⟩ rfl rfl rfl rfl rfl (by kernel_rfl) Try.func4 (by kernel_rfl)
    (of_decide_eq_true (by kernel_rfl)) (by unfold Func.isWrapper; first | (rw [if_pos (by decide +kernel)]; kernel_rfl) | (rw [if_neg (by decide +kernel)]; exact ⟨rfl, rfl⟩))
    (fun os started H enc _ F => lifted os started H enc F)

theorem proved : Rows.SeedWeighsUptoSaid :=
  over
end Go.Proofs.Ytodaembemcljnaa.seedWeighs
