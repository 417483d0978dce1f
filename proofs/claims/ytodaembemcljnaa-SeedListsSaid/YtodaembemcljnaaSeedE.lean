import Derived.Test.YtodaembemcljnaaSeedD
import Derived.Test.YtodaembemcljnaaLaterS
/-
  A source of draws.
-/
namespace Go.Proofs.Ytodaembemcljnaa
open Go.RowKit
set_option linter.unusedVariables false

/-- What was there is as it was, but for the blocks of S. -/
structure Off (S : Nat → Prop) (w w' : World) : Prop where
  os : w'.os = w.os
  tape : w'.tape = w.tape
  output : w'.output = w.output
  size : w.heap.size ≤ w'.heap.size
  block : ∀ k, k < w.heap.size → ¬ S k → w'.heap[k]? = w.heap[k]?
theorem Off.refl (S : Nat → Prop) (w : World) : Off S w w := ⟨rfl, rfl, rfl, Nat.le_refl _, fun _ _ _ => rfl⟩
theorem Off.trans {S : Nat → Prop} {a b c : World} (h : Off S a b) (k : Off S b c) : Off S a c :=
  ⟨k.os.trans h.os, k.tape.trans h.tape, k.output.trans h.output, Nat.le_trans h.size k.size, fun i hi hs => (k.block i (Nat.lt_of_lt_of_le hi h.size) hs).trans (h.block i hi hs)⟩
theorem Off.of_below {S : Nat → Prop} {w w' : World} (h : Below w.heap.size w w') : Off S w w' := ⟨h.os, h.tape, h.output, h.size, fun k hk _ => h.block k hk⟩
theorem Off.wider {S T : Nat → Prop} {w w' : World} (h : Off S w w') (hs : ∀ k, k < w.heap.size → S k → T k) : Off T w w' := ⟨h.os, h.tape, h.output, h.size, fun k hk ht => h.block k hk fun h' => ht (hs k hk h')⟩
theorem Off.below {S : Nat → Prop} {w w' : World} (h : Off S w w') {n : Nat} (hn : n ≤ w.heap.size) (hs : ∀ k, S k → n ≤ k) : Below n w w' := ⟨h.os, h.tape, h.output, h.size, fun k hk => h.block k (by omega) fun hh => by have := hs k hh; omega⟩
theorem Off.setCell {S : Nat → Prop} {a w : World} (h : Off S a w) {p : Addr} (hp : S p.block ∨ a.heap.size ≤ p.block) (u : Value) : Off S a (w.setCell p u) :=
  ⟨h.os, h.tape, h.output, by have := h.size; simp [World.setCell]; exact this, fun k hk hs => (Below.heap_setCell _ _ _ _ (by rintro rfl; rcases hp with hp | hp; exact hs hp; omega)).trans (h.block k hk hs)⟩
theorem Off.alloc {S : Nat → Prop} {a w : World} (h : Off S a w) (o : Obj) : Off S a (w.alloc o) := h.trans (Off.of_below ((Below.refl _ _).alloc (Nat.le_refl _) _))
theorem Off.drew {S : Nat → Prop} {a w : World} (h : Off S a w) : Off S a w.drew := ⟨h.os, h.tape, h.output, h.size, h.block⟩
theorem Off.drewN {S : Nat → Prop} {a w : World} (h : Off S a w) (n : Nat) : Off S a (w.drewN n) := ⟨h.os, h.tape, h.output, h.size, h.block⟩
theorem Off.cell {S : Nat → Prop} {w w' : World} (h : Off S w w') {p : Addr} (hp : p.block < w.heap.size) (hs : ¬ S p.block) : w'.cell? p = w.cell? p := World.cell?_of_block (w := w) (h.block p.block hp hs)
theorem Off.frozen {S : Nat → Prop} {w w' : World} (h : Off S w w') {p : Addr} (hp : p.block < w.heap.size) (hs : ¬ S p.block) : w'.frozen? p = w.frozen? p := World.frozen?_of_block (w := w) (h.block p.block hp hs)

/-- A source in memory: the stream's key, the next index, the error. -/
structure SrcAt (c : Nat) (key : Wd) (s : Src) (w : World) : Prop where
  lt : c < w.heap.size
  key_ : w.cell? ⟨c, 0, none⟩ = some (.int .u64 (key.toNat : Int))
  at_ : w.cell? ⟨c, 1, none⟩ = some (.int .i64 (s.1 : Int))
  err : w.cell? ⟨c, 2, none⟩ = some (.int .i64 (s.2 : Int))
  f1 : w.frozen? ⟨c, 1, none⟩ = false
  f2 : w.frozen? ⟨c, 2, none⟩ = false
theorem SrcAt.off {S : Nat → Prop} {c : Nat} {key : Wd} {s : Src} {w w' : World} (h : SrcAt c key s w) (k : Off S w w') (hs : ¬ S c) : SrcAt c key s w' :=
  ⟨Nat.lt_of_lt_of_le h.lt k.size, (k.cell h.lt hs).trans h.key_, (k.cell h.lt hs).trans h.at_, (k.cell h.lt hs).trans h.err, (k.frozen h.lt hs).trans h.f1, (k.frozen h.lt hs).trans h.f2⟩
theorem SrcAt.up {c : Nat} {key : Wd} {s : Src} {w w' : World} (h : SrcAt c key s w) (k : Below w.heap.size w w') : SrcAt c key s w' := h.off (S := fun _ => False) (Off.of_below k) (fun h => h)

def Drew (c : Nat) (key : Wd) (n : Nat) (s : Src) (w : World) (e : Ending) (w' : World) : Prop := e = .returned (.int .i64 ((belS key n s).1 : Int)) ∧ SrcAt c key (belS key n s).2 w' ∧ Off (· = c) w w'
def atOf (c : Nat) (w : World) : Nat := (intOf ((w.cell? ⟨c, 1, none⟩).getD undef)).toNat
theorem SrcAt.atOf {c : Nat} {key : Wd} {s : Src} {w : World} (h : SrcAt c key s w) : atOf c w = s.1 := by
  unfold Proofs.Ytodaembemcljnaa.atOf; rw [h.at_]; simp [intOf]

set_option maxRecDepth 100000 in
theorem below_err (c : Nat) (key : Wd) (n : Nat) (s : Src) (w : World) (hs : s.2 = 4) (h : SrcAt c key s w) :
    Calls Try.prog 58 #[.pointer (some ⟨c, 0, none⟩), .int .i64 (n : Int)] w (Drew c key n s w) := by
  have hd : ∀ e w', e = .returned (.int .i64 0) ∧ w = w' → Drew c key n s w e w' := by
    rintro e w' ⟨rfl, rfl⟩
    have : belS key n s = (0, s) := belS_err s (by omega)
    exact ⟨by rw [this]; rfl, by rw [this]; exact h, Off.refl _ _⟩
  refine Calls.mono ?_ hd
  obtain ⟨h1, h2, h3, h4, h5, h6⟩ := h
  rw [hs] at h4
  clear hd hs h2 h3 h5 h6
  go_enter Try.func58, Try.ntmps58
  go_wp2_with fail
  go_loopw [5] (fun _ wr => wr = w) (fun _ _ => 0)
  case atStart => rfl
  case round =>
    obtain rfl := hrel
    go_wp2_with fail
    go_ret
    exact ⟨rfl, rfl⟩
theorem below_ok (c : Nat) (key : Wd) (n : Nat) (s : Src) (w : World) (hn : 1 ≤ n) (hm : n ≤ 9223372036854775807) (hs : s.2 = 0) (ha : s.1 ≤ 1099511627776) (h : SrcAt c key s w) :
    Calls Try.prog 58 #[.pointer (some ⟨c, 0, none⟩), .int .i64 (n : Int)] w (Drew c key n s w) := by
  obtain ⟨B, hB⟩ : ∃ B, bel key n (1099511627776 - s.1) s.1 = B := ⟨_, rfl⟩
  have hD : ∀ e w', (∃ v j : Nat, B = some (v, j) ∧ e = .returned (.int .i64 (v : Int)) ∧ SrcAt c key (j, 0) w' ∧ Off (· = c) w w') ∨ (B = none ∧ e = .returned (.int .i64 0) ∧ SrcAt c key (1099511627776, 4) w' ∧ Off (· = c) w w') → Drew c key n s w e w' := by
    intro e w' h
    unfold Drew belS
    rw [if_pos hs, hB]
    rcases h with ⟨v, j, rfl, rfl, h1, h2⟩ | ⟨rfl, rfl, h1, h2⟩
    · exact ⟨rfl, h1, h2⟩
    · exact ⟨rfl, h1, h2⟩
  refine Calls.mono ?_ hD
  have h' : SrcAt c key (s.1, 0) w := by rw [← hs]; exact h
  obtain ⟨i0, hi0⟩ : ∃ i, s.1 = i := ⟨_, rfl⟩
  rw [hi0] at hB ha h'
  have HB := Lib.hid hB
  clear hs h hD hB hi0
  go_enter Try.func58, Try.ntmps58
  go_wp2_with fail
  go_loopw [5] (fun _ wr => ∃ i : Nat, i ≤ 1099511627776 ∧ SrcAt c key (i, 0) wr ∧ Off (· = c) w wr ∧ Hid (bel key n (1099511627776 - i) i = B)) (fun _ wr => 1099511627776 - atOf c wr)
  case atStart => exact ⟨i0, ha, h', Off.refl _ _, HB⟩
  case round =>
    obtain ⟨i, hi, hsrc, hoff, HI⟩ := hrel
    have hsat := Lib.hid hsrc.atOf
    obtain ⟨h1, h2, h3, h4, h5, h6⟩ := hsrc
    by_cases hlt : i < 1099511627776
    · have i1 : ((i : Int) == 1099511627776) = false := by simp; omega
      have hbe : bel key n (1099511627776 - i) i = if acc n (word key i) then some ((word key i).toNat % n, i + 1) else bel key n (1099511627776 - (i + 1)) (i + 1) := by
        have e : 1099511627776 - i = (1099511627776 - (i + 1)) + 1 := by omega
        rw [e, bel]
      have HE := Lib.hid hbe
      clear hbe
      cases hacc : acc n (word key i)
      · have H := Lib.hid (fun p : Later wr => (Calls.later_of (p := p) (word_any key i hlt p.w')))
        obtain ⟨x, hx⟩ : ∃ x, word key i = x := ⟨_, rfl⟩
        rw [hx] at H hacc
        have HA := Lib.hid hacc
        have HX := Lib.hid hx
        clear hx hacc h'
        have k0 : ∀ p : Later wr, p.w'.cell? ⟨c, 0, none⟩ = some (.int .u64 (key.toNat : Int)) := fun p => p.cell h2 h1
        have k1 : ∀ p : Later wr, p.w'.cell? ⟨c, 1, none⟩ = some (.int .i64 (i : Int)) := fun p => p.cell h3 h1
        go_wp2_with fail
        refine wp_region_later (by kernel_rfl) (by kernel_rfl) ?_
        repeat (go_big_quiet_step (first | (go_at_call 39; exact H.out _) | (go_at_call 15; exact Calls.later_of ((rest_not x n hn hm HA.out _).mono (fun _ _ h => ⟨h.1, h.2 ▸ Below.refl _ _⟩)))))
        (refine wpQuiet_nil ?_; rintro wq ⟨⟨_, hq⟩, rfl⟩; try dsimp only)
        clear k0 k1
        have g0 := (hq.cell (p := ⟨c, 0, none⟩) h1).trans h2
        have g1 := (hq.cell (p := ⟨c, 1, none⟩) h1).trans h3
        have g2 := (hq.cell (p := ⟨c, 2, none⟩) h1).trans h4
        have g3 := (hq.frozen (p := ⟨c, 1, none⟩) h1).trans h5
        have g4 := (hq.frozen (p := ⟨c, 2, none⟩) h1).trans h6
        have hlt2 : c < wq.heap.size := Nat.lt_of_lt_of_le h1 hq.size
        have hoff2 : Off (· = c) w wq := hoff.trans (Off.of_below hq)
        clear h2 h3 h4 h5 h6
        have i2 : IntKind.i64.wrap ((i : Int) + 1) = (i : Int) + 1 := IntWalk.i64_in _ (by omega)
        go_wp2_with fail
        have hs' : SrcAt c key (i + 1, 0) (wq.setCell ⟨c, 1, none⟩ (.int .i64 ((i : Int) + 1))) := by
          refine ⟨by simp [World.setCell]; exact hlt2, ?_, ?_, ?_, ?_, ?_⟩ <;> simp [go_sem, g0, g1, g2, g3, g4]
        go_roundw
        case rel => exact ⟨i + 1, by omega, hs', hoff2.setCell (Or.inl rfl) _, by have := HE.out; rw [HX.out, HA.out] at this; exact (this.symm.trans HI.out)⟩
        case measure =>
          have m1 := hs'.atOf
          have m2 := hsat.out
          rw [m1, m2]; omega
      · have H := Lib.hid (fun p : Later wr => (Calls.later_of (p := p) (word_any key i hlt p.w')))
        obtain ⟨x, hx⟩ : ∃ x, word key i = x := ⟨_, rfl⟩
        rw [hx] at H hacc
        have HA := Lib.hid hacc
        have HX := Lib.hid hx
        clear hx hacc h'
        have k0 : ∀ p : Later wr, p.w'.cell? ⟨c, 0, none⟩ = some (.int .u64 (key.toNat : Int)) := fun p => p.cell h2 h1
        have k1 : ∀ p : Later wr, p.w'.cell? ⟨c, 1, none⟩ = some (.int .i64 (i : Int)) := fun p => p.cell h3 h1
        go_wp2_with fail
        refine wp_region_later (by kernel_rfl) (by kernel_rfl) ?_
        repeat (go_big_quiet_step (first | (go_at_call 39; exact H.out _) | (go_at_call 15; exact Calls.later_of ((rest_yes x n hn hm HA.out _).mono (fun _ _ h => ⟨h.1, h.2 ▸ Below.refl _ _⟩)))))
        (refine wpQuiet_nil ?_; rintro wq ⟨⟨_, hq⟩, rfl⟩; try dsimp only)
        clear k0 k1
        have g0 := (hq.cell (p := ⟨c, 0, none⟩) h1).trans h2
        have g1 := (hq.cell (p := ⟨c, 1, none⟩) h1).trans h3
        have g2 := (hq.cell (p := ⟨c, 2, none⟩) h1).trans h4
        have g3 := (hq.frozen (p := ⟨c, 1, none⟩) h1).trans h5
        have g4 := (hq.frozen (p := ⟨c, 2, none⟩) h1).trans h6
        have hlt2 : c < wq.heap.size := Nat.lt_of_lt_of_le h1 hq.size
        have hoff2 : Off (· = c) w wq := hoff.trans (Off.of_below hq)
        clear h2 h3 h4 h5 h6
        have i2 : IntKind.i64.wrap ((i : Int) + 1) = (i : Int) + 1 := IntWalk.i64_in _ (by omega)
        go_wp2_with fail
        go_ret
        refine Or.inl ⟨x.toNat % n, i + 1, ?_, rfl, ?_, hoff2.setCell (Or.inl rfl) _⟩
        · have := HE.out; rw [HX.out, HA.out] at this; exact (HI.out.symm.trans this)
        · refine ⟨by simp [World.setCell]; exact hlt2, ?_, ?_, ?_, ?_, ?_⟩ <;> simp [go_sem, g0, g1, g2, g3, g4]
    · obtain rfl : i = 1099511627776 := by omega
      go_wp2_with fail
      go_ret
      refine Or.inr ⟨HI.out.symm, rfl, ?_, hoff.setCell (Or.inl rfl) _⟩
      refine ⟨by simp [World.setCell]; exact h1, ?_, ?_, ?_, ?_, ?_⟩ <;> simp [go_sem, h2, h3, h4, h5, h6]
end Go.Proofs.Ytodaembemcljnaa
