import Derived.Test.YtollifednpjkeaaIter2
/-
  A range over a function, where the iterator lays boxes and loops of its own, and what a round keeps below is a set of blocks.
-/
namespace Go.Proofs.Ytollifednpjkeaa
open Go.RowKit Go

/-- What an iterator that writes none of the blocks of cells that are there does to memory. -/
structure BelowC (n : Nat) (A B : World) : Prop where
  below : Below n A B
  cells : ∀ (k : Nat) (o : Obj), A.heap[k]? = some o → o.isCells = true → B.heap[k]? = some o
theorem BelowC.of_below {n : Nat} {A B : World} (h : Below A.heap.size A B) (hn : n ≤ A.heap.size) : BelowC n A B :=
  ⟨h.mono hn, fun k _ hk _ => (h.block k (lt_of_block hk)).trans hk⟩
theorem BelowC.refl (n : Nat) (A : World) : BelowC n A A := ⟨Below.refl _ _, fun _ _ h _ => h⟩
theorem BelowC.trans {n : Nat} {A B C : World} (h : BelowC n A B) (k : BelowC n B C) : BelowC n A C := ⟨h.below.trans k.below, fun i o hi hc => k.cells i o (h.cells i o hi hc) hc⟩
theorem BelowC.mono {n m : Nat} {A B : World} (h : BelowC n A B) (hm : m ≤ n) : BelowC m A B := ⟨h.below.mono hm, h.cells⟩
theorem BelowC.size {n : Nat} {A B : World} (h : BelowC n A B) : A.heap.size ≤ B.heap.size := h.below.size
theorem BelowC.putObj {n : Nat} {A : World} {l : Nat} {o₀ : Obj} (hl : n ≤ l) (h : A.heap[l]? = some o₀) (hc : o₀.isCells = false) (o : Obj) : BelowC n A (A.putObj l o) :=
  ⟨⟨rfl, rfl, rfl, by simp, fun k hk => World.putObj_heap_other (by omega)⟩, fun k o' hk hc' => (World.putObj_heap_other (fun e => by subst e; rw [h] at hk; cases hk; rw [hc] at hc'; cases hc')).trans hk⟩
/-- More blocks are the iterators' own: what was not there yet. -/
structure Grows (K K' : Nat → Prop) (A B : World) : Prop where
  up : ∀ k, K k → K' k
  new : ∀ k, K' k → K k ∨ (A.heap.size ≤ k ∧ k < B.heap.size)
theorem Grows.refl (K : Nat → Prop) (A B : World) : Grows K K A B := ⟨fun _ h => h, fun _ h => .inl h⟩
/-- Only one block of no cells has turned. -/
theorem BelowC.of_only {n : Nat} {A B : World} {l : Nat} (h : Only (fun k => k = l) A B) (hl : n ≤ l) (hn : n ≤ A.heap.size) (hk : ∀ (k : Nat) (o : Obj), A.heap[k]? = some o → o.isCells = true → B.heap[k]? = some o) : BelowC n A B :=
  ⟨h.below (fun k hk => by omega) hn, hk⟩

section
variable {F : Fence} {n : Nat} {P : Program}

def SeqNewS {α : Type} (F : Fence) (n : Nat) (P : Program) (g : Nat) (lb : Array Value) (encs : α → Array Value) (Lo : Nat → Prop) (N : Nat) (Pre : World → Prop) (S Sp : List α → Prop) : Prop :=
  ∀ (l : Nat) (J Jx : List α → (Nat → Prop) → World → Prop) (W : World), Pre W → (∀ k, Lo k → k < W.heap.size) →
    (∀ s K K' A B, J s K A → BelowC W.heap.size A B → Grows K K' A B → J s K' B) → (∀ s K K' A B, Jx s K A → BelowC W.heap.size A B → Grows K K' A B → Jx s K' B) →
    (∀ pre x K W1, J pre K W1 → (∀ k, Lo k → K k) → (∀ k, K k → k < W1.heap.size) → pre.length < N → YieldAt F (n - 1) P l (encs x) W1 fun e W' =>
      (e = .returned (.bool true) ∧ J (pre ++ [x]) K W' ∧ KeepOwn K W1 W') ∨ (e = .returned (.bool false) ∧ Jx (pre ++ [x]) K W' ∧ KeepOwn K W1 W')) →
    J [] Lo W →
    CallsIn F n P g (#[.func (.yield l) #[] #[]] ++ lb) W fun e W' => (∃ v, e = .returned v) ∧ ((∃ xs K, S xs ∧ J xs K W') ∨ (∃ pre K, Sp pre ∧ Jx pre K W'))

theorem SeqNewS.inRound {α : Type} {F : Fence} {n : Nat} {P : Program} {g : Nat} {lb : Array Value} {encs : α → Array Value} {Lo : Nat → Prop} {N : Nat} {Pre : World → Prop} {S Sp : List α → Prop} (l : Nat) (h : SeqNewS F n P g lb encs Lo N Pre S Sp) : SeqNewS (F.inRound l) n P g lb encs Lo N Pre S Sp := h

theorem wpIn_rangeFunc_newS {α : Type} {g : Operand} {ps : Array Tmp} {assign body : Code} {Q : Exit → Act → World → Prop} {a : Act} {w : World}
    (hro : F.round = none) (h1 : 1 ≤ n) {gf : Nat} {lb : Array Value} (hg : a.eval g = .func (.func gf) #[] lb) (hFg : F.fn gf) (eg : ∀ args w, (callFunc gf args).run P w = .ok (.enter gf args) w)
    {encs : α → Array Value} {Lo : Nat → Prop} {N : Nat} {Pre : World → Prop} {S Sp : List α → Prop} (hseq : SeqNewS F (n - 1) P gf lb encs Lo N Pre S Sp) (hps : ∀ x, (encs x).size = ps.size) (hLo : ∀ k, Lo k → k < w.heap.size)
    (I : List α → (Nat → Prop) → World → Prop) (Ix : Code → List α → (Nat → Prop) → World → Prop)
    (hI : ∀ s K K' A B, I s K A → BelowC w.heap.size A B → Grows K K' A B → I s K' B) (hIx : ∀ c s K K' A B, Ix c s K A → BelowC w.heap.size A B → Grows K K' A B → Ix c s K' B)
    (hPre : ∀ W, Below w.heap.size w W → Pre W) (h0 : I [] Lo w)
    (hround : ∀ (l : Nat) (pre : List α) (x : α) (K : Nat → Prop) (W : World), w.heap.size ≤ l → K l → (∀ k, Lo k → K k) → (∀ k, K k → k < W.heap.size) → I pre K W → pre.length < N →
      assign.wpIn (F.inRound l) (n - 1 - 1) P (Exit.then (fun a1 W1 => KeepOwn K W W1 ∧
          ∀ W2, Only (fun k => k = l) W1 W2 → KeepOwn (fun k => k ≠ l) W1 W2 → (∃ r, W2.heap[l]? = some (.loop r)) → (∀ (k : Nat) (o : Obj), W1.heap[k]? = some o → o.isCells = true → W2.heap[k]? = some o) → body.wpIn (F.inRound l) (n - 1 - 1) P (ownPostC K (fun s => I s K) (fun c s => Ix c s K) (pre ++ [x]) W2) a1 W2) (fun _ _ _ => False))
        { tmps := (ps.zip (encs x)).foldl (fun t (p, v) => t.setIfInBounds p v) a.tmps, defers := [] } W)
    (hdone : ∀ (xs : List α) (K : Nat → Prop) (W : World), S xs → I xs K W → K w.heap.size → W.heap[w.heap.size]? = some (.deferred (some [])) → Q .normal { a with defers := { target := .collected w.heap.size, args := #[] } :: a.defers } W)
    (hstop : ∀ (c : Code) (pre : List α) (K : Nat → Prop) (W : World), Sp pre → Ix c pre K W → K w.heap.size → W.heap[w.heap.size]? = some (.deferred (some [])) → c.wpIn F n P Q { a with defers := { target := .collected w.heap.size, args := #[] } :: a.defers } W) :
    (Code.rangeFunc g ps assign body).wpIn F n P Q a w := by
  refine wpIn_rangeFunc ?_
  intro fn hfn
  rw [hro]
  obtain ⟨rec, hrec⟩ : ∃ rec : LoopState → Option Code → Loop, rec = fun st pe => { state := st, pending := pe, fn, tmps := a.tmps, params := ps, assign, body, defers := w.heap.size } := ⟨_, rfl⟩
  obtain ⟨W1, hW1⟩ : ∃ W1, (w.alloc (.deferred (some []))).alloc (.loop (rec .ready none)) = W1 := ⟨_, rfl⟩
  have hL1 : W1.heap[w.heap.size + 1]? = some (.loop (rec .ready none)) := by
    rw [← hW1]; have := World.alloc_heap_new (w.alloc (.deferred (some []))) (.loop (rec .ready none)); rwa [World.size_alloc] at this
  have hK1 : W1.heap[w.heap.size]? = some (.deferred (some [])) := by
    rw [← hW1]; exact (Below.heap_alloc _ _ _ (by simp)).trans (World.alloc_heap_new w _)
  have hs1 : W1.heap.size = w.heap.size + 2 := by rw [← hW1]; simp
  have hbW1 : Below w.heap.size w W1 := by rw [← hW1]; exact ((Below.refl _ w).alloc (Nat.le_refl _) _).alloc (by simp) _
  have hI1 : I [] ((fun (K : Nat → Prop) k => K k ∨ k = w.heap.size ∨ k = w.heap.size + 1) Lo) W1 := hI _ _ _ _ _ h0 (BelowC.of_below hbW1 (Nat.le_refl _)) ⟨fun _ h => .inl h, fun k h => by rcases h with h | h; exact .inl h; exact .inr (by omega)⟩
  refine ⟨w.heap.size + 1, [{ target := .collected w.heap.size, args := #[] }], W1, { target := .fn (.func gf) lb, args := #[.func (.yield (w.heap.size + 1)) #[] #[]] }, W1, gf,
    #[.func (.yield (w.heap.size + 1)) #[] #[]] ++ lb, W1, ?_, ?_, ?_, ?_, fun _ => h1, ?_⟩
  · rw [← hW1, hrec]; exact run_enterLoop_outer _ _ _ _ _
  · simp only [resolve, hg]
    simp [go_sem]
  · intro f' hf'; simp [Target.leads] at hf'; subst hf'; exact hFg
  · simp [invoke, go_sem, eg]
  · have pm : ∀ {A : World} {l : Nat} {o₀ : Obj} (o : Obj), w.heap.size ≤ l → A.heap[l]? = some o₀ → o₀.isCells = false → BelowC w.heap.size A (A.putObj l o) := fun o hl h0 hc => BelowC.putObj hl h0 hc o
    refine (hseq (w.heap.size + 1)
      (fun pre K W => I pre (fun k => K k ∨ k = w.heap.size ∨ k = w.heap.size + 1) W ∧ W.heap[w.heap.size + 1]? = some (.loop (rec .ready none)) ∧ W.heap[w.heap.size]? = some (.deferred (some [])) ∧ (∀ k, K k → Lo k ∨ W1.heap.size ≤ k))
      (fun pre K W => ∃ c, Ix c pre (fun k => K k ∨ k = w.heap.size ∨ k = w.heap.size + 1) W ∧ W.heap[w.heap.size + 1]? = some (.loop (rec .done (some c))) ∧ W.heap[w.heap.size]? = some (.deferred (some [])))
      W1 (hPre _ hbW1)
      (fun k hk => by have := hLo k hk; omega)
      (fun s K K' A B hs hg' hgr => by
        obtain ⟨hi, hl, hk, hb⟩ := hs
        have hlt := lt_of_block hl
        exact ⟨hI _ _ _ _ _ hi (hg'.mono (by omega)) ⟨fun k h => h.imp (hgr.up k) id, fun k h => by
          rcases h with h | h
          · exact (hgr.new k h).imp .inl id
          · exact .inl (.inr h)⟩, (hg'.below.block _ (by omega)).trans hl, (hg'.below.block _ (by omega)).trans hk, fun k h => by
          rcases hgr.new k h with h | h
          · exact hb k h
          · exact .inr (by omega)⟩)
      (fun s K K' A B hs hg' hgr => by
        obtain ⟨c, hc, hl, hk⟩ := hs
        exact ⟨c, hIx _ _ _ _ _ _ hc (hg'.mono (by omega)) ⟨fun k h => h.imp (hgr.up k) id, fun k h => by
          rcases h with h | h
          · exact (hgr.new k h).imp .inl id
          · exact .inl (.inr h)⟩, (hg'.below.block _ (by omega)).trans hl, (hg'.below.block _ (by omega)).trans hk⟩)
      ?_ ⟨hI1, hL1, hK1, fun k hk => .inl hk⟩).mono ?_
    · rintro pre x K W ⟨hi, hl, hk, hKb⟩ hKlo hKlt hpre
      have hltW : w.heap.size + 1 < W.heap.size := lt_of_block hl
      have hy := run_yield (P := P) (args := encs x) hl (by rw [hrec]; exact hps x)
      rw [hrec] at hy
      refine ⟨fn, _, assign, body, hy, roundIn_of_wpIn hfn (wpIn_mono (hround (w.heap.size + 1) pre x (fun k => K k ∨ k = w.heap.size ∨ k = w.heap.size + 1) W (by omega) (.inr (.inr rfl)) (fun k h => .inl (hKlo k h)) (fun k h => by rcases h with h | h | h; exact hKlt k h; omega; omega) hi hpre) ?_)⟩
      clear hy
      intro e a' Wa hea
      cases e with
      | normal =>
        obtain ⟨hka, hbody⟩ := hea
        have hla : Wa.heap[w.heap.size + 1]? = some (.loop (rec .ready none)) := (hka.same _ (.inr (.inr rfl)) hltW).trans hl
        have hda : Wa.heap[w.heap.size]? = some (.deferred (some [])) := (hka.same _ (.inr (.inl rfl)) (by omega)).trans hk
        have hlta : w.heap.size + 1 < Wa.heap.size := lt_of_block hla
        refine ⟨_, run_beginRound hla (by rw [hrec]), ?_⟩
        have hl2 : (Wa.putObj (w.heap.size + 1) (.loop { rec .ready none with state := .busy })).heap[w.heap.size + 1]? = some (.loop { rec .ready none with state := .busy }) := World.putObj_heap_same hlta
        have hd2 : (Wa.putObj (w.heap.size + 1) (.loop { rec .ready none with state := .busy })).heap[w.heap.size]? = some (.deferred (some [])) := (World.putObj_heap_other (by omega)).trans hda
        refine wpIn_mono (hbody _ (Only.putObj (own := fun k => k = w.heap.size + 1) rfl _) ⟨by simp, fun k hk' _ => World.putObj_heap_other hk'⟩ ⟨_, hl2⟩ (BelowC.putObj (Nat.zero_le _) hla rfl _).cells) ?_
        have fin : ∀ (jump : Option Code) (W3 : World), KeepOwn (fun k => K k ∨ k = w.heap.size ∨ k = w.heap.size + 1) (Wa.putObj (w.heap.size + 1) (.loop { rec .ready none with state := .busy })) W3 →
            (Instr.endRound (w.heap.size + 1) jump).run P W3 = .ok (.bool jump.isNone) (W3.putObj (w.heap.size + 1) (.loop (rec (if jump.isNone then .ready else .done) jump))) ∧
            (W3.putObj (w.heap.size + 1) (.loop (rec (if jump.isNone then .ready else .done) jump))).heap[w.heap.size + 1]? = some (.loop (rec (if jump.isNone then .ready else .done) jump)) ∧ (W3.putObj (w.heap.size + 1) (.loop (rec (if jump.isNone then .ready else .done) jump))).heap[w.heap.size]? = some (.deferred (some [])) ∧ BelowC w.heap.size W3 (W3.putObj (w.heap.size + 1) (.loop (rec (if jump.isNone then .ready else .done) jump))) := fun jump W3 hk3 => by
          have hl3 := (hk3.same (w.heap.size + 1) (.inr (.inr rfl)) (by simpa using hlta)).trans hl2
          have hd3 := (hk3.same w.heap.size (.inr (.inl rfl)) (by simp; omega)).trans hd2
          have := run_endRound (P := P) jump hl3
          rw [hrec] at this ⊢
          exact ⟨this, World.putObj_heap_same (lt_of_block hl3), (World.putObj_heap_other (by omega)).trans hd3, pm _ (by omega) hl3 rfl⟩
        rintro e a3 W3 hp
        have hkeep : ∀ (W3 : World) (o : Obj), KeepOwn (fun k => K k ∨ k = w.heap.size ∨ k = w.heap.size + 1) (Wa.putObj (w.heap.size + 1) (.loop { rec .ready none with state := .busy })) W3 → KeepOwn K W (W3.putObj (w.heap.size + 1) o) := fun W3 o hk3 => by
          refine ⟨Nat.le_trans hka.size (Nat.le_trans (by simp) (Nat.le_trans hk3.size (by simp))), fun k ho hkW => ?_⟩
          have hne : k ≠ w.heap.size + 1 := fun e => by
            rcases hKb k ho with h | h
            · have := hLo k h; omega
            · omega
          have hm : (fun k => K k ∨ k = w.heap.size ∨ k = w.heap.size + 1) k := .inl ho
          rw [World.putObj_heap_other hne, hk3.same k hm (by simp; exact Nat.lt_of_lt_of_le hkW hka.size), World.putObj_heap_other hne, hka.same k hm hkW]
        cases e with
        | normal =>
          obtain ⟨hk3, hi3⟩ := hp
          obtain ⟨hr, hl3, hd3, hpm⟩ := fin none W3 hk3
          exact ⟨_, _, hr, .inl ⟨rfl, ⟨hI _ _ _ _ _ hi3 hpm (Grows.refl _ _ _), hl3, hd3, hKb⟩, hkeep _ _ hk3⟩⟩
        | ret =>
          obtain ⟨hk3, hi3⟩ := hp
          obtain ⟨hr, hl3, hd3, hpm⟩ := fin (some .ret) W3 hk3
          exact ⟨_, _, hr, .inr ⟨rfl, ⟨.ret, hIx _ _ _ _ _ _ hi3 hpm (Grows.refl _ _ _), hl3, hd3⟩, hkeep _ _ hk3⟩⟩
        | exit id =>
          obtain ⟨hk3, hi3⟩ := hp
          obtain ⟨hr, hl3, hd3, hpm⟩ := fin (some (.exit id)) W3 hk3
          exact ⟨_, _, hr, .inr ⟨rfl, ⟨.exit id, hIx _ _ _ _ _ _ hi3 hpm (Grows.refl _ _ _), hl3, hd3⟩, hkeep _ _ hk3⟩⟩
        | goto t =>
          obtain ⟨hk3, hi3⟩ := hp
          obtain ⟨hr, hl3, hd3, hpm⟩ := fin (some (.goto t)) W3 hk3
          exact ⟨_, _, hr, .inr ⟨rfl, ⟨.goto t, hIx _ _ _ _ _ _ hi3 hpm (Grows.refl _ _ _), hl3, hd3⟩, hkeep _ _ hk3⟩⟩
        | panic ch => exact hp.elim
        | outgrown => exact hp.elim
      | ret => exact hea.elim
      | exit id => exact hea.elim
      | goto t => exact hea.elim
      | panic ch => exact hea.elim
      | outgrown => exact hea.elim
    · rintro e W2 ⟨⟨v, rfl⟩, (⟨xs, K, hxs, hi, hl, hk, -⟩ | ⟨pre, K, hpre, c, hi, hl, hk⟩)⟩
      · exact ⟨none, _, by have := run_endLoop (P := P) hl (by rw [hrec]; simp); rw [hrec] at this; exact this,
          hdone _ _ _ hxs (hI _ _ _ _ _ hi (pm _ (by omega) hl rfl) (Grows.refl _ _ _)) (.inr (.inl rfl)) ((World.putObj_heap_other (by omega)).trans hk)⟩
      · exact ⟨some c, _, by have := run_endLoop (P := P) hl (by rw [hrec]; simp); rw [hrec] at this; exact this,
          hstop c pre _ _ hpre (hIx _ _ _ _ _ _ hi (pm _ (by omega) hl rfl) (Grows.refl _ _ _)) (.inr (.inl rfl)) ((World.putObj_heap_other (by omega)).trans hk)⟩

theorem wpIn_rangeFunc_newSN {α : Type} {g : Operand} {ps : Array Tmp} {assign body : Code} {Q : Exit → Act → World → Prop} {a : Act} {w : World}
    {l₀ : Nat} {r₀ : Loop} (hro : F.round = some l₀) (hl₀ : w.heap[l₀]? = some (.loop r₀)) (h1 : 1 ≤ n) {gf : Nat} {lb : Array Value} (hg : a.eval g = .func (.func gf) #[] lb) (hFg : F.fn gf) (eg : ∀ args w, (callFunc gf args).run P w = .ok (.enter gf args) w)
    {encs : α → Array Value} {Lo : Nat → Prop} {N : Nat} {Pre : World → Prop} {S Sp : List α → Prop} (hseq : SeqNewS F (n - 1) P gf lb encs Lo N Pre S Sp) (hps : ∀ x, (encs x).size = ps.size) (hLo : ∀ k, Lo k → k < w.heap.size)
    (I : List α → (Nat → Prop) → World → Prop) (Ix : Code → List α → (Nat → Prop) → World → Prop)
    (hI : ∀ s K K' A B, I s K A → BelowC w.heap.size A B → Grows K K' A B → I s K' B) (hIx : ∀ c s K K' A B, Ix c s K A → BelowC w.heap.size A B → Grows K K' A B → Ix c s K' B)
    (hPre : ∀ W, Below w.heap.size w W → Pre W) (h0 : I [] Lo w)
    (hround : ∀ (l : Nat) (pre : List α) (x : α) (K : Nat → Prop) (W : World), w.heap.size ≤ l → K l → (∀ k, Lo k → K k) → (∀ k, K k → k < W.heap.size) → I pre K W → pre.length < N →
      assign.wpIn (F.inRound l) (n - 1 - 1) P (Exit.then (fun a1 W1 => KeepOwn K W W1 ∧
          ∀ W2, Only (fun k => k = l) W1 W2 → KeepOwn (fun k => k ≠ l) W1 W2 → (∃ r, W2.heap[l]? = some (.loop r)) → (∀ (k : Nat) (o : Obj), W1.heap[k]? = some o → o.isCells = true → W2.heap[k]? = some o) → body.wpIn (F.inRound l) (n - 1 - 1) P (ownPostC K (fun s => I s K) (fun c s => Ix c s K) (pre ++ [x]) W2) a1 W2) (fun _ _ _ => False))
        { tmps := (ps.zip (encs x)).foldl (fun t (p, v) => t.setIfInBounds p v) a.tmps, defers := [] } W)
    (hdone : ∀ (xs : List α) (K : Nat → Prop) (W : World), S xs → I xs K W → Q .normal a W)
    (hstop : ∀ (c : Code) (pre : List α) (K : Nat → Prop) (W : World), Sp pre → Ix c pre K W → c.wpIn F n P Q a W) :
    (Code.rangeFunc g ps assign body).wpIn F n P Q a w := by
  refine wpIn_rangeFunc ?_
  intro fn hfn
  rw [hro]
  obtain ⟨rec, hrec⟩ : ∃ rec : LoopState → Option Code → Loop, rec = fun st pe => { state := st, pending := pe, fn, tmps := a.tmps, params := ps, assign, body, defers := r₀.defers } := ⟨_, rfl⟩
  obtain ⟨W1, hW1⟩ : ∃ W1, w.alloc (.loop (rec .ready none)) = W1 := ⟨_, rfl⟩
  have hL1 : W1.heap[w.heap.size]? = some (.loop (rec .ready none)) := by rw [← hW1]; exact World.alloc_heap_new w _
  have hs1 : W1.heap.size = w.heap.size + 1 := by rw [← hW1]; simp
  have hbW1 : Below w.heap.size w W1 := by rw [← hW1]; exact (Below.refl _ w).alloc (Nat.le_refl _) _
  have hI1 : I [] ((fun (K : Nat → Prop) k => K k ∨ k = w.heap.size) Lo) W1 := hI _ _ _ _ _ h0 (BelowC.of_below hbW1 (Nat.le_refl _)) ⟨fun _ h => .inl h, fun k h => by rcases h with h | h; exact .inl h; exact .inr (by omega)⟩
  refine ⟨w.heap.size, [], W1, { target := .fn (.func gf) lb, args := #[.func (.yield w.heap.size) #[] #[]] }, W1, gf,
    #[.func (.yield w.heap.size) #[] #[]] ++ lb, W1, ?_, ?_, ?_, ?_, fun _ => h1, ?_⟩
  · rw [← hW1, hrec]; exact run_enterLoop_inner hl₀ _ _ _ _ _
  · simp only [resolve, hg]
    simp [go_sem]
  · intro f' hf'; simp [Target.leads] at hf'; subst hf'; exact hFg
  · simp [invoke, go_sem, eg]
  · have pm : ∀ {A : World} {l : Nat} {o₀ : Obj} (o : Obj), w.heap.size ≤ l → A.heap[l]? = some o₀ → o₀.isCells = false → BelowC w.heap.size A (A.putObj l o) := fun o hl h0 hc => BelowC.putObj hl h0 hc o
    refine (hseq (w.heap.size)
      (fun pre K W => I pre (fun k => K k ∨ k = w.heap.size) W ∧ W.heap[w.heap.size]? = some (.loop (rec .ready none)) ∧ (∀ k, K k → Lo k ∨ W1.heap.size ≤ k))
      (fun pre K W => ∃ c, Ix c pre (fun k => K k ∨ k = w.heap.size) W ∧ W.heap[w.heap.size]? = some (.loop (rec .done (some c))))
      W1 (hPre _ hbW1)
      (fun k hk => by have := hLo k hk; omega)
      (fun s K K' A B hs hg' hgr => by
        obtain ⟨hi, hl, hb⟩ := hs
        have hlt := lt_of_block hl
        exact ⟨hI _ _ _ _ _ hi (hg'.mono (by omega)) ⟨fun k h => h.imp (hgr.up k) id, fun k h => by
          rcases h with h | h
          · exact (hgr.new k h).imp .inl id
          · exact .inl (.inr h)⟩, (hg'.below.block _ (by omega)).trans hl, fun k h => by
          rcases hgr.new k h with h | h
          · exact hb k h
          · exact .inr (by omega)⟩)
      (fun s K K' A B hs hg' hgr => by
        obtain ⟨c, hc, hl⟩ := hs
        exact ⟨c, hIx _ _ _ _ _ _ hc (hg'.mono (by omega)) ⟨fun k h => h.imp (hgr.up k) id, fun k h => by
          rcases h with h | h
          · exact (hgr.new k h).imp .inl id
          · exact .inl (.inr h)⟩, (hg'.below.block _ (by omega)).trans hl⟩)
      ?_ ⟨hI1, hL1, fun k hk => .inl hk⟩).mono ?_
    · rintro pre x K W ⟨hi, hl, hKb⟩ hKlo hKlt hpre
      have hltW : w.heap.size < W.heap.size := lt_of_block hl
      have hy := run_yield (P := P) (args := encs x) hl (by rw [hrec]; exact hps x)
      rw [hrec] at hy
      refine ⟨fn, _, assign, body, hy, roundIn_of_wpIn hfn (wpIn_mono (hround w.heap.size pre x (fun k => K k ∨ k = w.heap.size) W (by omega) (.inr rfl) (fun k h => .inl (hKlo k h)) (fun k h => by rcases h with h | h; exact hKlt k h; omega) hi hpre) ?_)⟩
      clear hy
      intro e a' Wa hea
      cases e with
      | normal =>
        obtain ⟨hka, hbody⟩ := hea
        have hla : Wa.heap[w.heap.size]? = some (.loop (rec .ready none)) := (hka.same _ (.inr rfl) hltW).trans hl
        have hlta : w.heap.size < Wa.heap.size := lt_of_block hla
        refine ⟨_, run_beginRound hla (by rw [hrec]), ?_⟩
        have hl2 : (Wa.putObj (w.heap.size) (.loop { rec .ready none with state := .busy })).heap[w.heap.size]? = some (.loop { rec .ready none with state := .busy }) := World.putObj_heap_same hlta
        refine wpIn_mono (hbody _ (Only.putObj (own := fun k => k = w.heap.size) rfl _) ⟨by simp, fun k hk' _ => World.putObj_heap_other hk'⟩ ⟨_, hl2⟩ (BelowC.putObj (Nat.zero_le _) hla rfl _).cells) ?_
        have fin : ∀ (jump : Option Code) (W3 : World), KeepOwn (fun k => K k ∨ k = w.heap.size) (Wa.putObj (w.heap.size) (.loop { rec .ready none with state := .busy })) W3 →
            (Instr.endRound (w.heap.size) jump).run P W3 = .ok (.bool jump.isNone) (W3.putObj (w.heap.size) (.loop (rec (if jump.isNone then .ready else .done) jump))) ∧
            (W3.putObj (w.heap.size) (.loop (rec (if jump.isNone then .ready else .done) jump))).heap[w.heap.size]? = some (.loop (rec (if jump.isNone then .ready else .done) jump)) ∧ BelowC w.heap.size W3 (W3.putObj w.heap.size (.loop (rec (if jump.isNone then .ready else .done) jump))) := fun jump W3 hk3 => by
          have hl3 := (hk3.same (w.heap.size) (.inr rfl) (by simpa using hlta)).trans hl2
          have := run_endRound (P := P) jump hl3
          rw [hrec] at this ⊢
          exact ⟨this, World.putObj_heap_same (lt_of_block hl3), pm _ (by omega) hl3 rfl⟩
        rintro e a3 W3 hp
        have hkeep : ∀ (W3 : World) (o : Obj), KeepOwn (fun k => K k ∨ k = w.heap.size) (Wa.putObj (w.heap.size) (.loop { rec .ready none with state := .busy })) W3 → KeepOwn K W (W3.putObj (w.heap.size) o) := fun W3 o hk3 => by
          refine ⟨Nat.le_trans hka.size (Nat.le_trans (by simp) (Nat.le_trans hk3.size (by simp))), fun k ho hkW => ?_⟩
          have hne : k ≠ w.heap.size := fun e => by
            rcases hKb k ho with h | h
            · have := hLo k h; omega
            · omega
          have hm : (fun k => K k ∨ k = w.heap.size) k := .inl ho
          rw [World.putObj_heap_other hne, hk3.same k hm (by simp; exact Nat.lt_of_lt_of_le hkW hka.size), World.putObj_heap_other hne, hka.same k hm hkW]
        cases e with
        | normal =>
          obtain ⟨hk3, hi3⟩ := hp
          obtain ⟨hr, hl3, hpm⟩ := fin none W3 hk3
          exact ⟨_, _, hr, .inl ⟨rfl, ⟨hI _ _ _ _ _ hi3 hpm (Grows.refl _ _ _), hl3, hKb⟩, hkeep _ _ hk3⟩⟩
        | ret =>
          obtain ⟨hk3, hi3⟩ := hp
          obtain ⟨hr, hl3, hpm⟩ := fin (some .ret) W3 hk3
          exact ⟨_, _, hr, .inr ⟨rfl, ⟨.ret, hIx _ _ _ _ _ _ hi3 hpm (Grows.refl _ _ _), hl3⟩, hkeep _ _ hk3⟩⟩
        | exit id =>
          obtain ⟨hk3, hi3⟩ := hp
          obtain ⟨hr, hl3, hpm⟩ := fin (some (.exit id)) W3 hk3
          exact ⟨_, _, hr, .inr ⟨rfl, ⟨.exit id, hIx _ _ _ _ _ _ hi3 hpm (Grows.refl _ _ _), hl3⟩, hkeep _ _ hk3⟩⟩
        | goto t =>
          obtain ⟨hk3, hi3⟩ := hp
          obtain ⟨hr, hl3, hpm⟩ := fin (some (.goto t)) W3 hk3
          exact ⟨_, _, hr, .inr ⟨rfl, ⟨.goto t, hIx _ _ _ _ _ _ hi3 hpm (Grows.refl _ _ _), hl3⟩, hkeep _ _ hk3⟩⟩
        | panic ch => exact hp.elim
        | outgrown => exact hp.elim
      | ret => exact hea.elim
      | exit id => exact hea.elim
      | goto t => exact hea.elim
      | panic ch => exact hea.elim
      | outgrown => exact hea.elim
    · rintro e W2 ⟨⟨v, rfl⟩, (⟨xs, K, hxs, hi, hl, -⟩ | ⟨pre, K, hpre, c, hi, hl⟩)⟩
      · exact ⟨none, _, by have := run_endLoop (P := P) hl (by rw [hrec]; simp); rw [hrec] at this; exact this,
          hdone _ _ _ hxs (hI _ _ _ _ _ hi (pm _ (by omega) hl rfl) (Grows.refl _ _ _))⟩
      · exact ⟨some c, _, by have := run_endLoop (P := P) hl (by rw [hrec]; simp); rw [hrec] at this; exact this,
          hstop c pre _ _ hpre (hIx _ _ _ _ _ _ hi (pm _ (by omega) hl rfl) (Grows.refl _ _ _))⟩
theorem leaves_of_marksC {fn : Func} {tmps : Array Value} {R : Ending → World → Prop} {B : Nat} : ∀ (Ds : List Nat) (W : World), Ds.Nodup → (∀ D ∈ Ds, B ≤ D ∧ W.heap[D]? = some (.deferred (some []))) →
    (∀ W', BelowC B W W' → ∃ v, (results fn tmps).run P W' = .ok v W' ∧ R (.returned v) W') → LeavesInM F n P fn tmps R (Ds.map mark) .returning W := by
  intro Ds
  induction Ds with
  | nil => intro W _ _ hR; exact hR W (BelowC.refl _ _)
  | cons D r ih =>
    intro W hnd hD hR
    obtain ⟨hB, hk⟩ := hD D (by simp)
    have hb : BelowC B W (W.putObj D (.deferred none)) := BelowC.putObj hB hk rfl _
    refine ⟨by simp, .inl ⟨D, _, rfl, run_takeDeferred hk, ih _ (List.nodup_cons.1 hnd).2 (fun E hE => ?_) (fun W' h => hR W' (hb.trans h))⟩⟩
    obtain ⟨h1, h2⟩ := hD E (by simp [hE])
    exact ⟨h1, (World.putObj_heap_other (fun e : E = D => (List.nodup_cons.1 hnd).1 (by rw [← e]; exact hE))).trans h2⟩
end

end Go.Proofs.Ytollifednpjkeaa
