/-
  A range over a function whose iterator keeps its state in cells of its own: the law for the caller, out of the kit's laws of a round and of the statement.
-/
import Derived.RangeFuncNested
import Derived.RangeFuncLeaves
import Derived.TacticsInMore
import Derived.LoopNIn
import Derived.LoopIn
import Derived.OwnWalkIn
import Derived.OneCell
import Derived.WalkSmall
import Derived.Deep.Draws
namespace Go.Proofs.Ytollifednpjkeaa
open Go.RowKit Go

/-- From A to B there come new blocks, and blocks of 'own' may have turned; nothing else. -/
structure Only (own : Nat → Prop) (A B : World) : Prop where
  os : B.os = A.os
  tape : B.tape = A.tape
  output : B.output = A.output
  size : A.heap.size ≤ B.heap.size
  block : ∀ k, k < A.heap.size → ¬ own k → B.heap[k]? = A.heap[k]?
/-- The blocks of 'own' lie as they lay. -/
structure KeepOwn (own : Nat → Prop) (A B : World) : Prop where
  size : A.heap.size ≤ B.heap.size
  same : ∀ k, own k → k < A.heap.size → B.heap[k]? = A.heap[k]?

theorem Only.refl (own : Nat → Prop) (A : World) : Only own A A := ⟨rfl, rfl, rfl, Nat.le_refl _, fun _ _ _ => rfl⟩
theorem Only.trans {own : Nat → Prop} {A B C : World} (h : Only own A B) (k : Only own B C) : Only own A C :=
  ⟨k.os.trans h.os, k.tape.trans h.tape, k.output.trans h.output, Nat.le_trans h.size k.size, fun i hi ho => (k.block i (Nat.lt_of_lt_of_le hi h.size) ho).trans (h.block i hi ho)⟩
theorem Only.mono {own own' : Nat → Prop} {A B : World} (h : Only own A B) (hs : ∀ k, own k → own' k) : Only own' A B :=
  ⟨h.os, h.tape, h.output, h.size, fun k hk ho => h.block k hk (fun h' => ho (hs k h'))⟩
theorem Only.of_below {own : Nat → Prop} {A B : World} (h : Below A.heap.size A B) : Only own A B := ⟨h.os, h.tape, h.output, h.size, fun k hk _ => h.block k hk⟩
theorem Only.alloc (own : Nat → Prop) (A : World) (o : Obj) : Only own A (A.alloc o) := Only.of_below ((Below.refl _ _).alloc (Nat.le_refl _) _)
theorem Only.drewN (own : Nat → Prop) (A : World) (n : Nat) : Only own A (A.drewN n) := Only.of_below (below_drewN (Below.refl _ _) n)
theorem Only.setCell {own : Nat → Prop} {A : World} {a : Addr} (h : own a.block) (v : Value) : Only own A (A.setCell a v) :=
  ⟨rfl, rfl, rfl, by simp, fun k _ ho => Below.heap_setCell _ _ _ _ (fun e => ho (e ▸ h))⟩
theorem Only.putObj {own : Nat → Prop} {A : World} {l : Nat} (h : own l) (o : Obj) : Only own A (A.putObj l o) :=
  ⟨rfl, rfl, rfl, by simp, fun k _ ho => World.putObj_heap_other (fun e => ho (e ▸ h))⟩
theorem Only.below {own : Nat → Prop} {A B : World} {n : Nat} (h : Only own A B) (ho : ∀ k, own k → n ≤ k) (hn : n ≤ A.heap.size) : Below n A B :=
  ⟨h.os, h.tape, h.output, h.size, fun k hk => h.block k (by omega) (fun h' => by have := ho k h'; omega)⟩
theorem KeepOwn.refl (own : Nat → Prop) (A : World) : KeepOwn own A A := ⟨Nat.le_refl _, fun _ _ _ => rfl⟩
theorem KeepOwn.trans {own : Nat → Prop} {A B C : World} (h : KeepOwn own A B) (k : KeepOwn own B C) : KeepOwn own A C :=
  ⟨Nat.le_trans h.size k.size, fun i ho hi => (k.same i ho (Nat.lt_of_lt_of_le hi h.size)).trans (h.same i ho hi)⟩
theorem KeepOwn.mono {own own' : Nat → Prop} {A B : World} (h : KeepOwn own A B) (hs : ∀ k, own' k → own k) : KeepOwn own' A B := ⟨h.size, fun k ho hk => h.same k (hs k ho) hk⟩
theorem KeepOwn.of_below {own : Nat → Prop} {A B : World} (h : Below A.heap.size A B) : KeepOwn own A B := ⟨h.size, fun k _ hk => h.block k hk⟩
theorem KeepOwn.alloc (own : Nat → Prop) (A : World) (o : Obj) : KeepOwn own A (A.alloc o) := KeepOwn.of_below ((Below.refl _ _).alloc (Nat.le_refl _) _)
theorem KeepOwn.setCell {own : Nat → Prop} {A : World} {a : Addr} (h : ¬ own a.block) (v : Value) : KeepOwn own A (A.setCell a v) :=
  ⟨by simp, fun k ho _ => Below.heap_setCell _ _ _ _ (fun e => h (e ▸ ho))⟩
theorem KeepOwn.grown {own : Nat → Prop} {A B : World} {row : Option Nat} (h : A.grownBy B row) (hr : ∀ k, row = some k → ¬ own k) : KeepOwn own A B :=
  ⟨h.size, fun k ho hk => h.block k hk (fun e => hr k e.symm ho)⟩

section
variable {F : Fence} {n : Nat} {P : Program}

/-- The contract of an iterator value that hands 'full' over, one by one, and keeps its state in the blocks 'own' (all laid before the loop). 'S': what it leaves where all have come; 'Sp': where a round has said 'no more'. -/
def SeqOwn {α : Type} (F : Fence) (n : Nat) (P : Program) (g : Nat) (lb : Array Value) (encs : α → Array Value) (own : Nat → Prop) (Pre : World → Prop) (full : List α) (S : World → Prop) : Prop :=
  ∀ (l : Nat) (J Jx : List α → World → Prop) (W : World), Pre W → (∀ s A B, J s A → Only own A B → J s B) → (∀ s A B, Jx s A → Only own A B → Jx s B) →
    (∀ pre x W1, J pre W1 → pre ++ [x] <+: full → YieldAt F (n - 1) P l (encs x) W1 fun e W' =>
      (e = .returned (.bool true) ∧ J (pre ++ [x]) W' ∧ KeepOwn own W1 W') ∨ (e = .returned (.bool false) ∧ Jx (pre ++ [x]) W')) →
    J [] W →
    CallsIn F n P g (#[.func (.yield l) #[] #[]] ++ lb) W fun e W' => (∃ v, e = .returned v) ∧ ((J full W' ∧ S W') ∨ (∃ pre, pre <+: full ∧ Jx pre W'))

/-- What the body of a round owes, by the way in which it is left. -/
def ownPostC {α : Type} (own : Nat → Prop) (I : List α → World → Prop) (Ix : Code → List α → World → Prop) (s : List α) (W : World) : Exit → Act → World → Prop
  | .normal, _, W' => KeepOwn own W W' ∧ I s W'
  | .ret, _, W' => KeepOwn own W W' ∧ Ix .ret s W'
  | .exit id, _, W' => KeepOwn own W W' ∧ Ix (.exit id) s W'
  | .goto t, _, W' => KeepOwn own W W' ∧ Ix (.goto t) s W'
  | .panic _, _, _ => False
  | .outgrown, _, _ => False

theorem wpIn_rangeFunc_cells {α : Type} {g : Operand} {ps : Array Tmp} {assign body : Code} {Q : Exit → Act → World → Prop} {a : Act} {w : World}
    (hro : F.round = none) (h1 : 1 ≤ n) {gf : Nat} {lb : Array Value} (hg : a.eval g = .func (.func gf) #[] lb) (hFg : F.fn gf) (eg : ∀ args w, (callFunc gf args).run P w = .ok (.enter gf args) w)
    {encs : α → Array Value} {own : Nat → Prop} {Pre : World → Prop} {full : List α} {S : World → Prop} (hseq : SeqOwn F (n - 1) P gf lb encs own Pre full S) (hps : ∀ x, (encs x).size = ps.size)
    (hlt : ∀ k, own k → k < w.heap.size)
    (I : List α → World → Prop) (Ix : Code → List α → World → Prop)
    (hI : ∀ s A B, I s A → Only (fun k => own k ∨ k = w.heap.size ∨ k = w.heap.size + 1) A B → I s B)
    (hIx : ∀ c s A B, Ix c s A → Only (fun k => own k ∨ k = w.heap.size ∨ k = w.heap.size + 1) A B → Ix c s B)
    (hPre : ∀ W, Below w.heap.size w W → Pre W) (h0 : I [] w)
    (hround : ∀ (l : Nat) (pre : List α) (x : α) (W : World), I pre W → w.heap.size + 1 < W.heap.size → pre ++ [x] <+: full →
      assign.wpIn (F.inRound l) (n - 1 - 1) P (Exit.then (fun a1 W1 => KeepOwn (fun k => own k ∨ k = w.heap.size ∨ k = w.heap.size + 1) W W1 ∧
          ∀ W2, Only (fun k => k = w.heap.size + 1) W1 W2 → KeepOwn (fun k => k ≠ w.heap.size + 1) W1 W2 → W1.heap.size = W2.heap.size → body.wpIn (F.inRound l) (n - 1 - 1) P (ownPostC (fun k => own k ∨ k = w.heap.size ∨ k = w.heap.size + 1) I Ix (pre ++ [x]) W2) a1 W2) (fun _ _ _ => False))
        { tmps := (ps.zip (encs x)).foldl (fun t (p, v) => t.setIfInBounds p v) a.tmps, defers := [] } W)
    (hdone : ∀ (W : World), I full W → S W → W.heap[w.heap.size]? = some (.deferred (some [])) → Q .normal { a with defers := { target := .collected w.heap.size, args := #[] } :: a.defers } W)
    (hstop : ∀ (c : Code) (pre : List α) (W : World), pre <+: full → Ix c pre W → W.heap[w.heap.size]? = some (.deferred (some [])) → c.wpIn F n P Q { a with defers := { target := .collected w.heap.size, args := #[] } :: a.defers } W)
    (hS : ∀ A B, S A → Only (fun k => k = w.heap.size + 1) A B → S B) :
    (Code.rangeFunc g ps assign body).wpIn F n P Q a w := by
  refine wpIn_rangeFunc ?_
  intro fn hfn
  rw [hro]
  obtain ⟨rec, hrec⟩ : ∃ rec : LoopState → Option Code → Loop, rec = fun st pe => { state := st, pending := pe, fn, tmps := a.tmps, params := ps, assign, body, defers := w.heap.size } := ⟨_, rfl⟩
  obtain ⟨W1, hW1⟩ : ∃ W1, (w.alloc (.deferred (some []))).alloc (.loop (rec .ready none)) = W1 := ⟨_, rfl⟩
  have hL1 : W1.heap[w.heap.size + 1]? = some (.loop (rec .ready none)) := by
    rw [← hW1]; have := World.alloc_heap_new (w.alloc (.deferred (some []))) (.loop (rec .ready none)); rwa [World.size_alloc] at this
  have hK1 : W1.heap[w.heap.size]? = some (.deferred (some [])) := by
    rw [← hW1]; exact (Below.heap_alloc _ _ _ (by simp)).trans (World.alloc_heap_new w _)
  have hbW1 : Below w.heap.size w W1 := by rw [← hW1]; exact ((Below.refl _ w).alloc (Nat.le_refl _) _).alloc (by simp) _
  have hI1 : I [] W1 := hI _ _ _ h0 (Only.of_below hbW1)
  refine ⟨w.heap.size + 1, [{ target := .collected w.heap.size, args := #[] }], W1, { target := .fn (.func gf) lb, args := #[.func (.yield (w.heap.size + 1)) #[] #[]] }, W1, gf,
    #[.func (.yield (w.heap.size + 1)) #[] #[]] ++ lb, W1, ?_, ?_, ?_, ?_, fun _ => h1, ?_⟩
  · rw [← hW1, hrec]; exact run_enterLoop_outer _ _ _ _ _
  · simp only [resolve, hg]
    simp [go_sem]
  · intro f' hf'; simp [Target.leads] at hf'; subst hf'; exact hFg
  · simp [invoke, go_sem, eg]
  · have oo : ∀ {A B : World}, Only own A B → Only (fun k => own k ∨ k = w.heap.size ∨ k = w.heap.size + 1) A B := fun h => h.mono fun _ h' => .inl h'
    refine (hseq (w.heap.size + 1)
      (fun pre W => I pre W ∧ W.heap[w.heap.size + 1]? = some (.loop (rec .ready none)) ∧ W.heap[w.heap.size]? = some (.deferred (some [])))
      (fun pre W => ∃ c, Ix c pre W ∧ W.heap[w.heap.size + 1]? = some (.loop (rec .done (some c))) ∧ W.heap[w.heap.size]? = some (.deferred (some [])))
      W1 (hPre _ hbW1)
      (fun s A B hs hg' => ⟨hI s A B hs.1 (oo hg'), (hg'.block _ (lt_of_block hs.2.1) (fun h => by have := hlt _ h; omega)).trans hs.2.1, (hg'.block _ (lt_of_block hs.2.2) (fun h => by have := hlt _ h; omega)).trans hs.2.2⟩)
      (fun s A B hs hg' => by
        obtain ⟨c, hc, hl, hk⟩ := hs
        exact ⟨c, hIx c s A B hc (oo hg'), (hg'.block _ (lt_of_block hl) (fun h => by have := hlt _ h; omega)).trans hl, (hg'.block _ (lt_of_block hk) (fun h => by have := hlt _ h; omega)).trans hk⟩)
      ?_ ⟨hI1, hL1, hK1⟩).mono ?_
    · rintro pre x W ⟨hi, hl, hk⟩ hpre
      have hltW : w.heap.size + 1 < W.heap.size := lt_of_block hl
      have hy := run_yield (P := P) (args := encs x) hl (by rw [hrec]; exact hps x)
      rw [hrec] at hy
      refine ⟨fn, _, assign, body, hy, roundIn_of_wpIn hfn (wpIn_mono (hround _ pre x W hi hltW hpre) ?_)⟩
      clear hy
      intro e a' Wa hea
      cases e with
      | normal =>
        obtain ⟨hka, hbody⟩ := hea
        have hla : Wa.heap[w.heap.size + 1]? = some (.loop (rec .ready none)) := (hka.same _ (.inr (.inr rfl)) hltW).trans hl
        have hda : Wa.heap[w.heap.size]? = some (.deferred (some [])) := (hka.same _ (.inr (.inl rfl)) (by omega)).trans hk
        have hlta : w.heap.size + 1 < Wa.heap.size := lt_of_block hla
        refine ⟨_, run_beginRound hla (by rw [hrec]), ?_⟩
        have hl2 : (Wa.putObj (w.heap.size + 1) (.loop { rec .ready none with state := .busy })).heap[w.heap.size + 1]? = some (.loop { rec .ready none with state := .busy }) := World.putObj_heap_same hlta
        have hd2 : (Wa.putObj (w.heap.size + 1) (.loop { rec .ready none with state := .busy })).heap[w.heap.size]? = some (.deferred (some [])) := (World.putObj_heap_other (by omega)).trans hda
        refine wpIn_mono (hbody _ (Only.putObj (own := fun k => k = w.heap.size + 1) rfl _) ⟨by simp, fun k hk' _ => World.putObj_heap_other hk'⟩ (by simp)) ?_
        have fin : ∀ (jump : Option Code) (W3 : World), KeepOwn (fun k => own k ∨ k = w.heap.size ∨ k = w.heap.size + 1) (Wa.putObj (w.heap.size + 1) (.loop { rec .ready none with state := .busy })) W3 →
            (Instr.endRound (w.heap.size + 1) jump).run P W3 = .ok (.bool jump.isNone) (W3.putObj (w.heap.size + 1) (.loop (rec (if jump.isNone then .ready else .done) jump))) ∧
            (W3.putObj (w.heap.size + 1) (.loop (rec (if jump.isNone then .ready else .done) jump))).heap[w.heap.size + 1]? = some (.loop (rec (if jump.isNone then .ready else .done) jump)) ∧
            (W3.putObj (w.heap.size + 1) (.loop (rec (if jump.isNone then .ready else .done) jump))).heap[w.heap.size]? = some (.deferred (some [])) := fun jump W3 hk3 => by
          have hl3 := (hk3.same (w.heap.size + 1) (.inr (.inr rfl)) (by simpa using hlta)).trans hl2
          have hd3 := (hk3.same w.heap.size (.inr (.inl rfl)) (by simp; omega)).trans hd2
          have := run_endRound (P := P) jump hl3
          rw [hrec] at this ⊢
          exact ⟨this, World.putObj_heap_same (lt_of_block hl3), (World.putObj_heap_other (by omega)).trans hd3⟩
        rintro e a3 W3 hp
        have hkeep : ∀ (W3 : World) (o : Obj), KeepOwn (fun k => own k ∨ k = w.heap.size ∨ k = w.heap.size + 1) (Wa.putObj (w.heap.size + 1) (.loop { rec .ready none with state := .busy })) W3 → KeepOwn own W (W3.putObj (w.heap.size + 1) o) := fun W3 o hk3 => by
          refine ⟨Nat.le_trans hka.size (Nat.le_trans (by simp) (Nat.le_trans hk3.size (by simp))), fun k ho hkW => ?_⟩
          have hne : k ≠ w.heap.size + 1 := fun e => by have := hlt k ho; omega
          rw [World.putObj_heap_other hne, hk3.same k (.inl ho) (by simp; exact Nat.lt_of_lt_of_le hkW hka.size), World.putObj_heap_other hne, hka.same k (.inl ho) hkW]
        cases e with
        | normal =>
          obtain ⟨hk3, hi3⟩ := hp
          obtain ⟨hr, hl3, hd3⟩ := fin none W3 hk3
          exact ⟨_, _, hr, .inl ⟨rfl, ⟨hI _ _ _ hi3 (Only.putObj (.inr (.inr rfl)) _), hl3, hd3⟩, hkeep _ _ hk3⟩⟩
        | ret =>
          obtain ⟨hk3, hi3⟩ := hp
          obtain ⟨hr, hl3, hd3⟩ := fin (some .ret) W3 hk3
          exact ⟨_, _, hr, .inr ⟨rfl, .ret, hIx _ _ _ _ hi3 (Only.putObj (.inr (.inr rfl)) _), hl3, hd3⟩⟩
        | exit id =>
          obtain ⟨hk3, hi3⟩ := hp
          obtain ⟨hr, hl3, hd3⟩ := fin (some (.exit id)) W3 hk3
          exact ⟨_, _, hr, .inr ⟨rfl, .exit id, hIx _ _ _ _ hi3 (Only.putObj (.inr (.inr rfl)) _), hl3, hd3⟩⟩
        | goto t =>
          obtain ⟨hk3, hi3⟩ := hp
          obtain ⟨hr, hl3, hd3⟩ := fin (some (.goto t)) W3 hk3
          exact ⟨_, _, hr, .inr ⟨rfl, .goto t, hIx _ _ _ _ hi3 (Only.putObj (.inr (.inr rfl)) _), hl3, hd3⟩⟩
        | panic ch => exact hp.elim
        | outgrown => exact hp.elim
      | ret => exact hea.elim
      | exit id => exact hea.elim
      | goto t => exact hea.elim
      | panic ch => exact hea.elim
      | outgrown => exact hea.elim
    · rintro e W2 ⟨⟨v, rfl⟩, (⟨⟨hi, hl, hk⟩, hS'⟩ | ⟨pre, hpre, c, hi, hl, hk⟩)⟩
      · exact ⟨none, _, by have := run_endLoop (P := P) hl (by rw [hrec]; simp); rw [hrec] at this; exact this,
          hdone _ (hI _ _ _ hi (Only.putObj (.inr (.inr rfl)) _)) (hS _ _ hS' (Only.putObj (own := fun k => k = w.heap.size + 1) rfl _)) ((World.putObj_heap_other (by omega)).trans hk)⟩
      · exact ⟨some c, _, by have := run_endLoop (P := P) hl (by rw [hrec]; simp); rw [hrec] at this; exact this,
          hstop c pre _ hpre (hIx _ _ _ _ hi (Only.putObj (.inr (.inr rfl)) _)) ((World.putObj_heap_other (by omega)).trans hk)⟩
end
end Go.Proofs.Ytollifednpjkeaa
