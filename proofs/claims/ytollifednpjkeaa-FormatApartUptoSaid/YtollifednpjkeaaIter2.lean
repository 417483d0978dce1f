import Derived.Test.YtollifednpjkeaaIter
/-
  A range over a function, where the iterator lays boxes and loops of its own: the law for the caller, in a function and in a round.
-/
namespace Go.Proofs.Ytollifednpjkeaa
open Go.RowKit Go

/-- What a round keeps: what lay below n₀, and what was laid from n₂ on. -/
abbrev Mine (n₀ n₂ : Nat) : Nat → Prop := fun k => k < n₀ ∨ n₂ ≤ k

section
variable {F : Fence} {n : Nat} {P : Program}

def SeqNew {α : Type} (F : Fence) (n : Nat) (P : Program) (g : Nat) (lb : Array Value) (encs : α → Array Value) (n₀ N : Nat) (Pre : World → Prop) (S Sp : List α → Prop) : Prop :=
  ∀ (l : Nat) (J Jx : List α → World → Prop) (W : World), Pre W → (∀ s A B, J s A → Below W.heap.size A B → J s B) → (∀ s A B, Jx s A → Below W.heap.size A B → Jx s B) →
    (∀ pre x W1, J pre W1 → pre.length < N → YieldAt F (n - 1) P l (encs x) W1 fun e W' =>
      (e = .returned (.bool true) ∧ J (pre ++ [x]) W' ∧ KeepOwn (Mine n₀ W.heap.size) W1 W') ∨ (e = .returned (.bool false) ∧ Jx (pre ++ [x]) W' ∧ KeepOwn (Mine n₀ W.heap.size) W1 W')) →
    J [] W →
    CallsIn F n P g (#[.func (.yield l) #[] #[]] ++ lb) W fun e W' => (∃ v, e = .returned v) ∧ ((∃ xs, S xs ∧ J xs W') ∨ (∃ pre, Sp pre ∧ Jx pre W'))

theorem SeqNew.inRound {α : Type} {F : Fence} {n : Nat} {P : Program} {g : Nat} {lb : Array Value} {encs : α → Array Value} {n₀ N : Nat} {Pre : World → Prop} {S Sp : List α → Prop} (l : Nat) (h : SeqNew F n P g lb encs n₀ N Pre S Sp) : SeqNew (F.inRound l) n P g lb encs n₀ N Pre S Sp := h

theorem wpIn_rangeFunc_new {α : Type} {g : Operand} {ps : Array Tmp} {assign body : Code} {Q : Exit → Act → World → Prop} {a : Act} {w : World}
    (hro : F.round = none) (h1 : 1 ≤ n) {gf : Nat} {lb : Array Value} (hg : a.eval g = .func (.func gf) #[] lb) (hFg : F.fn gf) (eg : ∀ args w, (callFunc gf args).run P w = .ok (.enter gf args) w)
    {encs : α → Array Value} {n₀ N : Nat} {Pre : World → Prop} {S Sp : List α → Prop} (hseq : SeqNew F (n - 1) P gf lb encs n₀ N Pre S Sp) (hps : ∀ x, (encs x).size = ps.size) (hn₀ : n₀ ≤ w.heap.size)
    (I : List α → World → Prop) (Ix : Code → List α → World → Prop)
    (hI : ∀ s A B, I s A → Below w.heap.size A B → I s B) (hIx : ∀ c s A B, Ix c s A → Below w.heap.size A B → Ix c s B)
    (hPre : ∀ W, Below w.heap.size w W → Pre W) (h0 : I [] w)
    (hround : ∀ (l : Nat) (pre : List α) (x : α) (W : World), w.heap.size ≤ l → l < W.heap.size → I pre W → pre.length < N →
      assign.wpIn (F.inRound l) (n - 1 - 1) P (Exit.then (fun a1 W1 => KeepOwn (Mine n₀ w.heap.size) W W1 ∧
          ∀ W2, Only (fun k => k = l) W1 W2 → KeepOwn (fun k => k ≠ l) W1 W2 → (∃ r, W2.heap[l]? = some (.loop r)) → body.wpIn (F.inRound l) (n - 1 - 1) P (ownPostC (Mine n₀ w.heap.size) I Ix (pre ++ [x]) W2) a1 W2) (fun _ _ _ => False))
        { tmps := (ps.zip (encs x)).foldl (fun t (p, v) => t.setIfInBounds p v) a.tmps, defers := [] } W)
    (hdone : ∀ (xs : List α) (W : World), S xs → I xs W → W.heap[w.heap.size]? = some (.deferred (some [])) → Q .normal { a with defers := { target := .collected w.heap.size, args := #[] } :: a.defers } W)
    (hstop : ∀ (c : Code) (pre : List α) (W : World), Sp pre → Ix c pre W → W.heap[w.heap.size]? = some (.deferred (some [])) → c.wpIn F n P Q { a with defers := { target := .collected w.heap.size, args := #[] } :: a.defers } W) :
    (Code.rangeFunc g ps assign body).wpIn F n P Q a w := by
  refine wpIn_rangeFunc ?_
  intro fn hfn
  rw [hro]
  obtain ⟨rec, hrec⟩ : ∃ rec : LoopState → Option Code → Loop, rec = fun st pe => { state := st, pending := pe, fn, tmps := a.tmps, params := ps, assign, body, defers := w.heap.size } := ⟨_, rfl⟩
  obtain ⟨W1, hW1⟩ : ∃ W1, (w.alloc (.deferred (some []))).alloc (.loop (rec .ready none)) = W1 := ⟨_, rfl⟩
  have hL1 : W1.heap[w.heap.size + 1]? = some (.loop (rec .ready none)) := by
    rw [← hW1]; have := World.alloc_heap_new (w.alloc (.deferred (some []))) (.loop (rec .ready none)); rwa [World.size_alloc] at this
  have hK1 : W1.heap[w.heap.size]? = some (.deferred (some [])) := by
    rw [← hW1]; exact (Below.heap_alloc _ _ _ (by simp)).trans (World.alloc_heap_new w _)
  have hs1 : W1.heap.size = w.heap.size + 2 := by rw [← hW1]; simp
  have hbW1 : Below w.heap.size w W1 := by rw [← hW1]; exact ((Below.refl _ w).alloc (Nat.le_refl _) _).alloc (by simp) _
  have hI1 : I [] W1 := hI _ _ _ h0 hbW1
  refine ⟨w.heap.size + 1, [{ target := .collected w.heap.size, args := #[] }], W1, { target := .fn (.func gf) lb, args := #[.func (.yield (w.heap.size + 1)) #[] #[]] }, W1, gf,
    #[.func (.yield (w.heap.size + 1)) #[] #[]] ++ lb, W1, ?_, ?_, ?_, ?_, fun _ => h1, ?_⟩
  · rw [← hW1, hrec]; exact run_enterLoop_outer _ _ _ _ _
  · simp only [resolve, hg]
    simp [go_sem]
  · intro f' hf'; simp [Target.leads] at hf'; subst hf'; exact hFg
  · simp [invoke, go_sem, eg]
  · have pm : ∀ {A : World} {l : Nat} (o : Obj), w.heap.size ≤ l → Below w.heap.size A (A.putObj l o) := fun o hl => ⟨rfl, rfl, rfl, by simp, fun k hk => World.putObj_heap_other (by omega)⟩
    refine (hseq (w.heap.size + 1)
      (fun pre W => I pre W ∧ W.heap[w.heap.size + 1]? = some (.loop (rec .ready none)) ∧ W.heap[w.heap.size]? = some (.deferred (some [])))
      (fun pre W => ∃ c, Ix c pre W ∧ W.heap[w.heap.size + 1]? = some (.loop (rec .done (some c))) ∧ W.heap[w.heap.size]? = some (.deferred (some [])))
      W1 (hPre _ hbW1)
      (fun s A B hs hg' => ⟨hI s A B hs.1 (hg'.mono (by omega)), (hg'.block _ (by omega)).trans hs.2.1, (hg'.block _ (by omega)).trans hs.2.2⟩)
      (fun s A B hs hg' => by
        obtain ⟨c, hc, hl, hk⟩ := hs
        exact ⟨c, hIx c s A B hc (hg'.mono (by omega)), (hg'.block _ (by omega)).trans hl, (hg'.block _ (by omega)).trans hk⟩)
      ?_ ⟨hI1, hL1, hK1⟩).mono ?_
    · rintro pre x W ⟨hi, hl, hk⟩ hpre
      have hltW : w.heap.size + 1 < W.heap.size := lt_of_block hl
      have hy := run_yield (P := P) (args := encs x) hl (by rw [hrec]; exact hps x)
      rw [hrec] at hy
      refine ⟨fn, _, assign, body, hy, roundIn_of_wpIn hfn (wpIn_mono (hround _ pre x W (by omega) hltW hi hpre) ?_)⟩
      clear hy
      intro e a' Wa hea
      cases e with
      | normal =>
        obtain ⟨hka, hbody⟩ := hea
        have hla : Wa.heap[w.heap.size + 1]? = some (.loop (rec .ready none)) := (hka.same _ (.inr (by omega)) hltW).trans hl
        have hda : Wa.heap[w.heap.size]? = some (.deferred (some [])) := (hka.same _ (.inr (by omega)) (by omega)).trans hk
        have hlta : w.heap.size + 1 < Wa.heap.size := lt_of_block hla
        refine ⟨_, run_beginRound hla (by rw [hrec]), ?_⟩
        have hl2 : (Wa.putObj (w.heap.size + 1) (.loop { rec .ready none with state := .busy })).heap[w.heap.size + 1]? = some (.loop { rec .ready none with state := .busy }) := World.putObj_heap_same hlta
        have hd2 : (Wa.putObj (w.heap.size + 1) (.loop { rec .ready none with state := .busy })).heap[w.heap.size]? = some (.deferred (some [])) := (World.putObj_heap_other (by omega)).trans hda
        refine wpIn_mono (hbody _ (Only.putObj (own := fun k => k = w.heap.size + 1) rfl _) ⟨by simp, fun k hk' _ => World.putObj_heap_other hk'⟩ ⟨_, hl2⟩) ?_
        have fin : ∀ (jump : Option Code) (W3 : World), KeepOwn (Mine n₀ w.heap.size) (Wa.putObj (w.heap.size + 1) (.loop { rec .ready none with state := .busy })) W3 →
            (Instr.endRound (w.heap.size + 1) jump).run P W3 = .ok (.bool jump.isNone) (W3.putObj (w.heap.size + 1) (.loop (rec (if jump.isNone then .ready else .done) jump))) ∧
            (W3.putObj (w.heap.size + 1) (.loop (rec (if jump.isNone then .ready else .done) jump))).heap[w.heap.size + 1]? = some (.loop (rec (if jump.isNone then .ready else .done) jump)) ∧ (W3.putObj (w.heap.size + 1) (.loop (rec (if jump.isNone then .ready else .done) jump))).heap[w.heap.size]? = some (.deferred (some [])) := fun jump W3 hk3 => by
          have hl3 := (hk3.same (w.heap.size + 1) (.inr (by omega)) (by simpa using hlta)).trans hl2
          have hd3 := (hk3.same w.heap.size (.inr (by omega)) (by simp; omega)).trans hd2
          have := run_endRound (P := P) jump hl3
          rw [hrec] at this ⊢
          exact ⟨this, World.putObj_heap_same (lt_of_block hl3), (World.putObj_heap_other (by omega)).trans hd3⟩
        rintro e a3 W3 hp
        have hkeep : ∀ (W3 : World) (o : Obj), KeepOwn (Mine n₀ w.heap.size) (Wa.putObj (w.heap.size + 1) (.loop { rec .ready none with state := .busy })) W3 → KeepOwn (Mine n₀ W1.heap.size) W (W3.putObj (w.heap.size + 1) o) := fun W3 o hk3 => by
          refine ⟨Nat.le_trans hka.size (Nat.le_trans (by simp) (Nat.le_trans hk3.size (by simp))), fun k ho hkW => ?_⟩
          have hne : k ≠ w.heap.size + 1 := fun e => by rcases ho with h | h <;> omega
          have hm : Mine n₀ w.heap.size k := by rcases ho with h | h; exact .inl h; exact .inr (by omega)
          rw [World.putObj_heap_other hne, hk3.same k hm (by simp; exact Nat.lt_of_lt_of_le hkW hka.size), World.putObj_heap_other hne, hka.same k hm hkW]
        cases e with
        | normal =>
          obtain ⟨hk3, hi3⟩ := hp
          obtain ⟨hr, hl3, hd3⟩ := fin none W3 hk3
          exact ⟨_, _, hr, .inl ⟨rfl, ⟨hI _ _ _ hi3 (pm _ (by omega)), hl3, hd3⟩, hkeep _ _ hk3⟩⟩
        | ret =>
          obtain ⟨hk3, hi3⟩ := hp
          obtain ⟨hr, hl3, hd3⟩ := fin (some .ret) W3 hk3
          exact ⟨_, _, hr, .inr ⟨rfl, ⟨.ret, hIx _ _ _ _ hi3 (pm _ (by omega)), hl3, hd3⟩, hkeep _ _ hk3⟩⟩
        | exit id =>
          obtain ⟨hk3, hi3⟩ := hp
          obtain ⟨hr, hl3, hd3⟩ := fin (some (.exit id)) W3 hk3
          exact ⟨_, _, hr, .inr ⟨rfl, ⟨.exit id, hIx _ _ _ _ hi3 (pm _ (by omega)), hl3, hd3⟩, hkeep _ _ hk3⟩⟩
        | goto t =>
          obtain ⟨hk3, hi3⟩ := hp
          obtain ⟨hr, hl3, hd3⟩ := fin (some (.goto t)) W3 hk3
          exact ⟨_, _, hr, .inr ⟨rfl, ⟨.goto t, hIx _ _ _ _ hi3 (pm _ (by omega)), hl3, hd3⟩, hkeep _ _ hk3⟩⟩
        | panic ch => exact hp.elim
        | outgrown => exact hp.elim
      | ret => exact hea.elim
      | exit id => exact hea.elim
      | goto t => exact hea.elim
      | panic ch => exact hea.elim
      | outgrown => exact hea.elim
    · rintro e W2 ⟨⟨v, rfl⟩, (⟨xs, hxs, hi, hl, hk⟩ | ⟨pre, hpre, c, hi, hl, hk⟩)⟩
      · exact ⟨none, _, by have := run_endLoop (P := P) hl (by rw [hrec]; simp); rw [hrec] at this; exact this,
          hdone _ _ hxs (hI _ _ _ hi (pm _ (by omega))) ((World.putObj_heap_other (by omega)).trans hk)⟩
      · exact ⟨some c, _, by have := run_endLoop (P := P) hl (by rw [hrec]; simp); rw [hrec] at this; exact this,
          hstop c pre _ hpre (hIx _ _ _ _ hi (pm _ (by omega))) ((World.putObj_heap_other (by omega)).trans hk)⟩

theorem wpIn_rangeFunc_newN {α : Type} {g : Operand} {ps : Array Tmp} {assign body : Code} {Q : Exit → Act → World → Prop} {a : Act} {w : World}
    {l₀ : Nat} {r₀ : Loop} (hro : F.round = some l₀) (hl₀ : w.heap[l₀]? = some (.loop r₀)) (h1 : 1 ≤ n) {gf : Nat} {lb : Array Value} (hg : a.eval g = .func (.func gf) #[] lb) (hFg : F.fn gf) (eg : ∀ args w, (callFunc gf args).run P w = .ok (.enter gf args) w)
    {encs : α → Array Value} {n₀ N : Nat} {Pre : World → Prop} {S Sp : List α → Prop} (hseq : SeqNew F (n - 1) P gf lb encs n₀ N Pre S Sp) (hps : ∀ x, (encs x).size = ps.size) (hn₀ : n₀ ≤ w.heap.size)
    (I : List α → World → Prop) (Ix : Code → List α → World → Prop)
    (hI : ∀ s A B, I s A → Below w.heap.size A B → I s B) (hIx : ∀ c s A B, Ix c s A → Below w.heap.size A B → Ix c s B)
    (hPre : ∀ W, Below w.heap.size w W → Pre W) (h0 : I [] w)
    (hround : ∀ (l : Nat) (pre : List α) (x : α) (W : World), w.heap.size ≤ l → l < W.heap.size → I pre W → pre.length < N →
      assign.wpIn (F.inRound l) (n - 1 - 1) P (Exit.then (fun a1 W1 => KeepOwn (Mine n₀ w.heap.size) W W1 ∧
          ∀ W2, Only (fun k => k = l) W1 W2 → KeepOwn (fun k => k ≠ l) W1 W2 → (∃ r, W2.heap[l]? = some (.loop r)) → body.wpIn (F.inRound l) (n - 1 - 1) P (ownPostC (Mine n₀ w.heap.size) I Ix (pre ++ [x]) W2) a1 W2) (fun _ _ _ => False))
        { tmps := (ps.zip (encs x)).foldl (fun t (p, v) => t.setIfInBounds p v) a.tmps, defers := [] } W)
    (hdone : ∀ (xs : List α) (W : World), S xs → I xs W → Q .normal a W)
    (hstop : ∀ (c : Code) (pre : List α) (W : World), Sp pre → Ix c pre W → c.wpIn F n P Q a W) :
    (Code.rangeFunc g ps assign body).wpIn F n P Q a w := by
  refine wpIn_rangeFunc ?_
  intro fn hfn
  rw [hro]
  obtain ⟨rec, hrec⟩ : ∃ rec : LoopState → Option Code → Loop, rec = fun st pe => { state := st, pending := pe, fn, tmps := a.tmps, params := ps, assign, body, defers := r₀.defers } := ⟨_, rfl⟩
  obtain ⟨W1, hW1⟩ : ∃ W1, w.alloc (.loop (rec .ready none)) = W1 := ⟨_, rfl⟩
  have hL1 : W1.heap[w.heap.size]? = some (.loop (rec .ready none)) := by rw [← hW1]; exact World.alloc_heap_new w _
  have hs1 : W1.heap.size = w.heap.size + 1 := by rw [← hW1]; simp
  have hbW1 : Below w.heap.size w W1 := by rw [← hW1]; exact (Below.refl _ w).alloc (Nat.le_refl _) _
  have hI1 : I [] W1 := hI _ _ _ h0 hbW1
  refine ⟨w.heap.size, [], W1, { target := .fn (.func gf) lb, args := #[.func (.yield w.heap.size) #[] #[]] }, W1, gf,
    #[.func (.yield w.heap.size) #[] #[]] ++ lb, W1, ?_, ?_, ?_, ?_, fun _ => h1, ?_⟩
  · rw [← hW1, hrec]; exact run_enterLoop_inner hl₀ _ _ _ _ _
  · simp only [resolve, hg]
    simp [go_sem]
  · intro f' hf'; simp [Target.leads] at hf'; subst hf'; exact hFg
  · simp [invoke, go_sem, eg]
  · have pm : ∀ {A : World} {l : Nat} (o : Obj), w.heap.size ≤ l → Below w.heap.size A (A.putObj l o) := fun o hl => ⟨rfl, rfl, rfl, by simp, fun k hk => World.putObj_heap_other (by omega)⟩
    refine (hseq (w.heap.size)
      (fun pre W => I pre W ∧ W.heap[w.heap.size]? = some (.loop (rec .ready none)))
      (fun pre W => ∃ c, Ix c pre W ∧ W.heap[w.heap.size]? = some (.loop (rec .done (some c))))
      W1 (hPre _ hbW1)
      (fun s A B hs hg' => ⟨hI s A B hs.1 (hg'.mono (by omega)), (hg'.block _ (by omega)).trans hs.2⟩)
      (fun s A B hs hg' => by
        obtain ⟨c, hc, hl⟩ := hs
        exact ⟨c, hIx c s A B hc (hg'.mono (by omega)), (hg'.block _ (by omega)).trans hl⟩)
      ?_ ⟨hI1, hL1⟩).mono ?_
    · rintro pre x W ⟨hi, hl⟩ hpre
      have hltW : w.heap.size < W.heap.size := lt_of_block hl
      have hy := run_yield (P := P) (args := encs x) hl (by rw [hrec]; exact hps x)
      rw [hrec] at hy
      refine ⟨fn, _, assign, body, hy, roundIn_of_wpIn hfn (wpIn_mono (hround _ pre x W (by omega) hltW hi hpre) ?_)⟩
      clear hy
      intro e a' Wa hea
      cases e with
      | normal =>
        obtain ⟨hka, hbody⟩ := hea
        have hla : Wa.heap[w.heap.size]? = some (.loop (rec .ready none)) := (hka.same _ (.inr (by omega)) hltW).trans hl
        have hlta : w.heap.size < Wa.heap.size := lt_of_block hla
        refine ⟨_, run_beginRound hla (by rw [hrec]), ?_⟩
        have hl2 : (Wa.putObj (w.heap.size) (.loop { rec .ready none with state := .busy })).heap[w.heap.size]? = some (.loop { rec .ready none with state := .busy }) := World.putObj_heap_same hlta
        refine wpIn_mono (hbody _ (Only.putObj (own := fun k => k = w.heap.size) rfl _) ⟨by simp, fun k hk' _ => World.putObj_heap_other hk'⟩ ⟨_, hl2⟩) ?_
        have fin : ∀ (jump : Option Code) (W3 : World), KeepOwn (Mine n₀ w.heap.size) (Wa.putObj (w.heap.size) (.loop { rec .ready none with state := .busy })) W3 →
            (Instr.endRound (w.heap.size) jump).run P W3 = .ok (.bool jump.isNone) (W3.putObj (w.heap.size) (.loop (rec (if jump.isNone then .ready else .done) jump))) ∧
            (W3.putObj (w.heap.size) (.loop (rec (if jump.isNone then .ready else .done) jump))).heap[w.heap.size]? = some (.loop (rec (if jump.isNone then .ready else .done) jump)) := fun jump W3 hk3 => by
          have hl3 := (hk3.same (w.heap.size) (.inr (by omega)) (by simpa using hlta)).trans hl2
          have := run_endRound (P := P) jump hl3
          rw [hrec] at this ⊢
          exact ⟨this, World.putObj_heap_same (lt_of_block hl3)⟩
        rintro e a3 W3 hp
        have hkeep : ∀ (W3 : World) (o : Obj), KeepOwn (Mine n₀ w.heap.size) (Wa.putObj (w.heap.size) (.loop { rec .ready none with state := .busy })) W3 → KeepOwn (Mine n₀ W1.heap.size) W (W3.putObj (w.heap.size) o) := fun W3 o hk3 => by
          refine ⟨Nat.le_trans hka.size (Nat.le_trans (by simp) (Nat.le_trans hk3.size (by simp))), fun k ho hkW => ?_⟩
          have hne : k ≠ w.heap.size := fun e => by rcases ho with h | h <;> omega
          have hm : Mine n₀ w.heap.size k := by rcases ho with h | h; exact .inl h; exact .inr (by omega)
          rw [World.putObj_heap_other hne, hk3.same k hm (by simp; exact Nat.lt_of_lt_of_le hkW hka.size), World.putObj_heap_other hne, hka.same k hm hkW]
        cases e with
        | normal =>
          obtain ⟨hk3, hi3⟩ := hp
          obtain ⟨hr, hl3⟩ := fin none W3 hk3
          exact ⟨_, _, hr, .inl ⟨rfl, ⟨hI _ _ _ hi3 (pm _ (by omega)), hl3⟩, hkeep _ _ hk3⟩⟩
        | ret =>
          obtain ⟨hk3, hi3⟩ := hp
          obtain ⟨hr, hl3⟩ := fin (some .ret) W3 hk3
          exact ⟨_, _, hr, .inr ⟨rfl, ⟨.ret, hIx _ _ _ _ hi3 (pm _ (by omega)), hl3⟩, hkeep _ _ hk3⟩⟩
        | exit id =>
          obtain ⟨hk3, hi3⟩ := hp
          obtain ⟨hr, hl3⟩ := fin (some (.exit id)) W3 hk3
          exact ⟨_, _, hr, .inr ⟨rfl, ⟨.exit id, hIx _ _ _ _ hi3 (pm _ (by omega)), hl3⟩, hkeep _ _ hk3⟩⟩
        | goto t =>
          obtain ⟨hk3, hi3⟩ := hp
          obtain ⟨hr, hl3⟩ := fin (some (.goto t)) W3 hk3
          exact ⟨_, _, hr, .inr ⟨rfl, ⟨.goto t, hIx _ _ _ _ hi3 (pm _ (by omega)), hl3⟩, hkeep _ _ hk3⟩⟩
        | panic ch => exact hp.elim
        | outgrown => exact hp.elim
      | ret => exact hea.elim
      | exit id => exact hea.elim
      | goto t => exact hea.elim
      | panic ch => exact hea.elim
      | outgrown => exact hea.elim
    · rintro e W2 ⟨⟨v, rfl⟩, (⟨xs, hxs, hi, hl⟩ | ⟨pre, hpre, c, hi, hl⟩)⟩
      · exact ⟨none, _, by have := run_endLoop (P := P) hl (by rw [hrec]; simp); rw [hrec] at this; exact this,
          hdone _ _ hxs (hI _ _ _ hi (pm _ (by omega)))⟩
      · exact ⟨some c, _, by have := run_endLoop (P := P) hl (by rw [hrec]; simp); rw [hrec] at this; exact this,
          hstop c pre _ hpre (hIx _ _ _ _ hi (pm _ (by omega)))⟩
/-- The marks of the loops that are over: their blocks hold nothing. -/
def mark (D : Nat) : Deferred := { target := .collected D, args := #[] }
theorem leaves_of_marks {fn : Func} {tmps : Array Value} {R : Ending → World → Prop} {B : Nat} : ∀ (Ds : List Nat) (W : World), Ds.Nodup → (∀ D ∈ Ds, B ≤ D ∧ W.heap[D]? = some (.deferred (some []))) →
    (∀ W', Below B W W' → ∃ v, (results fn tmps).run P W' = .ok v W' ∧ R (.returned v) W') → LeavesInM F n P fn tmps R (Ds.map mark) .returning W := by
  intro Ds
  induction Ds with
  | nil => intro W _ _ hR; exact hR W (Below.refl _ _)
  | cons D r ih =>
    intro W hnd hD hR
    obtain ⟨hB, hk⟩ := hD D (by simp)
    have hb : Below B W (W.putObj D (.deferred none)) := ⟨rfl, rfl, rfl, by simp, fun k hk' => World.putObj_heap_other (by omega)⟩
    refine ⟨by simp, .inl ⟨D, _, rfl, run_takeDeferred hk, ih _ (List.nodup_cons.1 hnd).2 (fun E hE => ?_) (fun W' h => hR W' (hb.trans h))⟩⟩
    obtain ⟨h1, h2⟩ := hD E (by simp [hE])
    exact ⟨h1, (World.putObj_heap_other (fun e : E = D => (List.nodup_cons.1 hnd).1 (by rw [← e]; exact hE))).trans h2⟩
end
end Go.Proofs.Ytollifednpjkeaa
