import Derived.Test.YtollifednpjkeaaTreeD
import Derived.OneCell
import Derived.WalkSmall
/-
  How many nodes a formula has.
-/
namespace Go.Proofs.Ytollifednpjkeaa
open Go.RowKit
attribute [local go_sem] Oper.semAt_some

theorem preTs_le : ∀ (N : Nat) (l : List Tm), wts l ≤ N → (preTs l).length ≤ wts l := by
  intro N
  induction N with
  | zero =>
    intro l h
    have : l = [] := by have := wts_length l; exact List.eq_nil_of_length_eq_zero (by omega)
    subst this; simp [preTs]
  | succ N ih =>
    intro l
    induction l with
    | nil => intro _; simp [preTs]
    | cons t r ihr =>
      intro h
      have h1 := t.wt_eq
      simp only [wts] at h
      have h2 := ih t.args (by omega)
      have h3 := ihr (by omega)
      simp only [preTs, List.length_append, Tm.pre_eq, List.length_cons, wts]; omega
/-- The nodes of parts: each part and its terms. -/
def cntN (l : List Fm) : Nat := (l.map fun g => 1 + (preTs g.args).length).sum
theorem cntN_append (l m : List Fm) : cntN (l ++ m) = cntN l + cntN m := by simp [cntN]
def nodesF (f : Fm) : Nat := cntN f.pre
theorem cntN_le : ∀ (N : Nat) (l : List Fm), wfs l ≤ N → cntN (preFs l) ≤ wfs l := by
  intro N
  induction N with
  | zero =>
    intro l h
    have : l = [] := by have := wfs_length l; exact List.eq_nil_of_length_eq_zero (by omega)
    subst this; simp [preFs, cntN]
  | succ N ih =>
    intro l
    induction l with
    | nil => intro _; simp [preFs, cntN]
    | cons f r ihr =>
      intro h
      have h1 := f.wt_eq
      simp only [wfs] at h
      have h2 := ih f.sub (by omega)
      have h3 := ihr (by omega)
      have h4 := preTs_le _ f.args (Nat.le_refl _)
      simp only [preFs, cntN_append, Fm.pre_eq, wfs]
      have : cntN (f :: preFs f.sub) = 1 + (preTs f.args).length + cntN (preFs f.sub) := by simp [cntN]
      omega
theorem nodesF_le (f : Fm) : nodesF f ≤ f.wt := by
  have h1 := f.wt_eq
  have h2 := cntN_le _ f.sub (Nat.le_refl _)
  have h4 := preTs_le _ f.args (Nat.le_refl _)
  unfold nodesF
  rw [Fm.pre_eq]
  have : cntN (f :: preFs f.sub) = 1 + (preTs f.args).length + cntN (preFs f.sub) := by simp [cntN]
  omega
theorem KeepOwn.below {own : Nat → Prop} {A B C : World} {n : Nat} (h : KeepOwn own A B) (hb : Below n B C) (hn : A.heap.size ≤ n) : KeepOwn own A C :=
  ⟨Nat.le_trans h.size hb.size, fun k ho hk => (hb.block k (by omega)).trans (h.same k ho hk)⟩

def w64 (n : Nat) : Int := IntKind.i64.wrap (n : Int)
theorem w64_succ (n : Nat) : IntKind.i64.wrap (w64 n + 1) = w64 (n + 1) := by
  unfold w64 IntKind.wrap
  simp [IntKind.signed, IntKind.bits]
  split <;> split <;> (try split) <;> (try split) <;> omega
theorem w64_small {n : Nat} (h : n ≤ 100000000) : w64 n = (n : Int) := IntWalk.i64_in _ (by omega)

set_option maxRecDepth 100000 in
set_option maxHeartbeats 4000000 in
theorem nodes_any (f : Fm) (hf : f.wt ≤ 10000000) (v : Value) (w : World) (hv : FmVal w v f) :
    Calls Try.prog 45 #[v] w fun e w' => e = .returned (.int .i64 (nodesF f : Int)) ∧ Below w.heap.size w w' := by
  have hv' := hv
  obtain ⟨x, y, rfl, hx, hy, hz⟩ := hv
  obtain ⟨ax, cx, rfl, _⟩ := hx.at
  obtain ⟨ay, cy, rfl, _⟩ := hy.at
  have hN := nodesF_le f
  refine (callsIn_wide (n := 6)).1 (callsIn_of_wp_marks Try.func45 rfl trivial (wpIn_wide.2 ?_))
  simp only [Try.ntmps45, List.size_toArray, List.length_cons, List.length_nil, Nat.reduceAdd, Nat.reduceSub, Array.replicate_succ, Array.replicate_zero, List.push_toArray, List.append_toArray, List.nil_append, List.cons_append]
  go_wp2_with fail
  refine (all_mk _ _ _ _ _).mono ?_
  rintro e w1 ⟨rfl, rfl⟩
  go_wp2_with fail
  obtain ⟨box, hbox⟩ : ∃ b : Array Value, #[.int .u8 f.op, .string f.name, .slice ax f.args.length cx, .slice ay f.sub.length cy] = b := ⟨_, rfl⟩
  obtain ⟨Wl, hWl⟩ : ∃ Wl, ((w.alloc (.cells box 25)).alloc (.cells #[.int .i64 0] 3)).alloc (.cells box 25) = Wl := ⟨_, rfl⟩
  have hsl : Wl.heap.size = w.heap.size + 3 := by rw [← hWl]; simp
  have hbl : Below w.heap.size w Wl := by rw [← hWl]; exact (((Below.refl _ _).alloc (Nat.le_refl _) _).alloc (by simp) _).alloc (by simp; omega) _
  have hn : Wl.heap[w.heap.size + 1]? = some (.cells #[.int .i64 0] 3 (0, 0)) := by
    rw [← hWl]
    have h1 := World.alloc_heap_new (w.alloc (.cells box 25)) (.cells #[.int .i64 0] 3)
    rw [World.size_alloc] at h1
    exact (Below.heap_alloc _ _ _ (by simp)).trans h1
  have hc : ∀ j, Wl.cell? ⟨w.heap.size + 2, j, none⟩ = box[j]? := fun j => by
    rw [← hWl, World.cell?_alloc_at _ _ _ _ (by simp)]
  have hc0 := hc 0
  have hc1 := hc 1
  have hc2 := hc 2
  have hc3 := hc 3
  rw [← hbox] at hc0 hc1 hc2 hc3
  change Code.wp _ _ _ _ (((w.alloc (.cells #[.int .u8 f.op, .string f.name, .slice ax f.args.length cx, .slice ay f.sub.length cy] 25)).alloc (.cells #[.int .i64 0] 3)).alloc (.cells #[.int .u8 f.op, .string f.name, .slice ax f.args.length cx, .slice ay f.sub.length cy] 25))
  rw [hbox, hWl]
  clear hWl hc hbox
  have hseq := all_seq w f _ hv' (w.heap.size + 2) (6 - 1)
  refine wpIn_wide.1 (wpIn_rangeFunc_new (F := Fence.wide) (n := 6) rfl (by omega) rfl trivial Try.call94 hseq (fun _ => rfl) (by omega)
    (fun es W => W.heap[w.heap.size + 1]? = some (.cells #[.int .i64 (w64 (cntN (es.map (·.1.2))))] 3 (0, 0)) ∧ Below w.heap.size w W)
    (fun _ _ _ => False) ?hI ?hIx ?hPre ?h0 ?hround ?hdone ?hstop)
  case hI => rintro s A B ⟨q1, q2⟩ hb; exact ⟨(hb.block _ (by omega)).trans q1, q2.trans (hb.mono (by omega))⟩
  case hIx => exact fun _ _ _ _ h _ => h.elim
  case hPre =>
    intro W hb
    have hbw : Below w.heap.size w W := hbl.trans (hb.mono (by omega))
    exact ⟨Holds.of_below hbw, _, _, rfl, (hb.cell (p := ⟨w.heap.size + 2, 0, none⟩) (by show w.heap.size + 2 < _; omega)).trans hc0, (hb.cell (p := ⟨w.heap.size + 2, 1, none⟩) (by show w.heap.size + 2 < _; omega)).trans hc1, (hb.cell (p := ⟨w.heap.size + 2, 2, none⟩) (by show w.heap.size + 2 < _; omega)).trans hc2, (hb.cell (p := ⟨w.heap.size + 2, 3, none⟩) (by show w.heap.size + 2 < _; omega)).trans hc3⟩
  case h0 => exact ⟨hn, hbl⟩
  case hround =>
    rintro l pre x W hl hl' ⟨q1, q2⟩ hpre
    obtain ⟨⟨xv, g⟩, hx5⟩ := x
    have hx6 := hx5
    obtain ⟨xa, xb, hxv, hxa, hxb, hxz⟩ := hx6
    obtain ⟨ga, gc, rfl, _⟩ := hxa.at
    obtain ⟨gb, gd, rfl, _⟩ := hxb.at
    dsimp only at hxv
    subst hxv
    simp only [List.zip_toArray, List.zip_cons_cons, List.zip_nil_left]
    obtain ⟨Wa, hWa⟩ : ∃ Wa, W.alloc (.cells #[.int .u8 g.op, .string g.name, .slice ga g.args.length gc, .slice gb g.sub.length gd] 25) = Wa := ⟨_, rfl⟩
    have hb5 : Below W.heap.size W Wa := by rw [← hWa]; exact (Below.refl _ _).alloc (Nat.le_refl _) _
    have y2 : Wa.cell? ⟨W.heap.size, 2, none⟩ = some (.slice ga g.args.length gc) := by rw [← hWa, World.cell?_alloc_at _ _ _ _ rfl]; rfl
    have hko5 : KeepOwn (Mine w.heap.size (w.heap.size + 3)) W Wa := by rw [← hWa]; exact KeepOwn.alloc _ _ _
    have hs5 : Wa.heap.size = W.heap.size + 1 := by rw [← hWa]; simp
    have q1a : Wa.heap[w.heap.size + 1]? = some (.cells #[.int .i64 (w64 (cntN (pre.map (·.1.2))))] 3 (0, 0)) := (hb5.block _ (by omega)).trans q1
    gi_wp2
    intro W2 ho2 hk2 r2 hr2
    have hb2 : Below Wl.heap.size Wa W2 := ho2.below (fun k hk => by omega) (by omega)
    have q1b : W2.heap[w.heap.size + 1]? = some (.cells #[.int .i64 (w64 (cntN (pre.map (·.1.2))))] 3 (0, 0)) := (hb2.block _ (by omega)).trans q1a
    have z2 : W2.cell? ⟨W.heap.size, 2, none⟩ = some (.slice ga g.args.length gc) := by
      have := hk2.same W.heap.size (by omega) (by omega)
      unfold World.cell? at *
      dsimp only at *
      rw [this]; exact y2
    have hs2 := hb2.size
    obtain ⟨c, hc⟩ : ∃ c, cntN (pre.map (·.1.2)) = c := ⟨_, rfl⟩
    rw [hc] at q1b
    have cn := cell_of_one q1b
    have fn := free_of_one q1b
    have hsucc := w64_succ c
    have HB := Lib.hid hc
    clear hc y2 q1a
    have q1c := one_setCell (u := .int .i64 (w64 (c + 1))) q1b
    gi_wp2
    refine ⟨trivial, (CallsIn.inRound l (callsIn_wide.2 (terms_mk _ _ ⟨_, _, _, rfl⟩))).mono ?_⟩
    rintro e W4 ⟨rfl, rfl⟩
    obtain ⟨W3, hW3⟩ : ∃ W3, W2.setCell ⟨w.heap.size + 1, 0, none⟩ (.int .i64 (w64 (c + 1))) = W3 := ⟨_, rfl⟩
    have hs3 : W3.heap.size ≤ W2.heap.size ∧ W2.heap.size ≤ W3.heap.size := by rw [← hW3]; simp
    have hk3 : KeepOwn (Mine w.heap.size Wl.heap.size) W2 W3 := by rw [← hW3]; exact KeepOwn.setCell (fun h => by unfold Mine at h; simp only at h; omega) _
    have hb3 : Below w.heap.size W2 W3 := by rw [← hW3]; exact (Below.refl _ _).setCell (by show w.heap.size ≤ w.heap.size + 1; omega) _
    have hr3 : W3.heap[l]? = some (.loop r2) := by rw [← hW3]; exact (Below.heap_setCell _ _ _ _ (by show l ≠ w.heap.size + 1; omega)).trans hr2
    rw [hW3] at q1c ⊢
    clear hW3 q1b cn fn hsucc
    obtain ⟨W4, hW4⟩ : ∃ W4, W3.alloc (.cells #[.slice ga g.args.length gc] 22) = W4 := ⟨_, rfl⟩
    have hb4 : Below W3.heap.size W3 W4 := by rw [← hW4]; exact (Below.refl _ _).alloc (Nat.le_refl _) _
    have hs4 : W4.heap.size ≤ W3.heap.size + 1 ∧ W3.heap.size + 1 ≤ W4.heap.size := by rw [← hW4]; simp
    have hbx : W4.cell? ⟨W3.heap.size, 0, none⟩ = some (.slice ga g.args.length gc) := by rw [← hW4, World.cell?_alloc_at _ _ _ _ rfl]; rfl
    have hr4 : W4.heap[l]? = some (.loop r2) := (hb4.block _ (lt_of_block hr3)).trans hr3
    have q1d : W4.heap[w.heap.size + 1]? = some (.cells #[.int .i64 (w64 (c + 1))] 3 (0, 0)) := (hb4.block _ (lt_of_block q1c)).trans q1c
    have hbw2 : Below w.heap.size w W2 := q2.trans (((hb5.mono (by omega)).trans (hb2.mono (by omega))))
    have hbw4 : Below w.heap.size w W4 := (hbw2.trans hb3).trans (hb4.mono (by omega))
    have hk4 : KeepOwn (Mine w.heap.size Wl.heap.size) W2 W4 := hk3.below hb4 (by omega)
    rw [hW4]
    clear hW4
    gi_wp2
    have hseq2 := termsIt_seq w (wts g.args) g.args (Nat.le_refl _) _ hxa W3.heap.size (4 - 1)
    refine wpIn_rangeFunc_newN (F := Fence.wide.inRound l) (n := 4) (l₀ := l) (r₀ := r2) rfl hr4 (by omega) rfl trivial Try.call96 (hseq2.inRound l) (fun _ => rfl) (by omega)
      (fun es' W' => W'.heap[w.heap.size + 1]? = some (.cells #[.int .i64 (w64 (c + 1 + es'.length))] 3 (0, 0)) ∧ Below w.heap.size w W' ∧ KeepOwn (Mine w.heap.size Wl.heap.size) W2 W')
      (fun _ _ _ => False) ?hI2 ?hIx2 ?hPre2 ?h02 ?hround2 ?hdone2 ?hstop2
    case hI2 => rintro s A B ⟨p1, p2, p3⟩ hb; exact ⟨(hb.block _ (by omega)).trans p1, p2.trans (hb.mono (by omega)), p3.below hb (by omega)⟩
    case hIx2 => exact fun _ _ _ _ h _ => h.elim
    case hPre2 => exact fun W' hb => ⟨Holds.of_below (hbw4.trans (hb.mono (by omega))), (hb.cell (p := ⟨W3.heap.size, 0, none⟩) (by show W3.heap.size < W4.heap.size; omega)).trans hbx⟩
    case h02 => exact ⟨q1d, hbw4, hk4⟩
    case hround2 =>
      rintro l2 pre2 x2 W5 hl2 hl2' ⟨p1, p2, p3⟩ hpre2
      simp only [List.zip_toArray, List.zip_cons_cons, List.zip_nil_left]
      gi_wp2
      refine ⟨KeepOwn.refl _ _, fun W6 ho6 hk6 hr6 => ?_⟩
      have p1b : W6.heap[w.heap.size + 1]? = some (.cells #[.int .i64 (w64 (c + 1 + pre2.length))] 3 (0, 0)) := (ho6.block _ (lt_of_block p1) (by show w.heap.size + 1 ≠ l2; omega)).trans p1
      have hb6 : Below W4.heap.size W5 W6 := ho6.below (fun k hk => by omega) (by omega)
      have cn2 := cell_of_one p1b
      have fn2 := free_of_one p1b
      have hsucc2 := w64_succ (c + 1 + pre2.length)
      have p1c := one_setCell (u := .int .i64 (w64 (c + 1 + pre2.length + 1))) p1b
      have hb6' : Below w.heap.size w W6 := p2.trans (hb6.mono (by omega))
      have hk6' : KeepOwn (Mine w.heap.size Wl.heap.size) W2 W6 := p3.below hb6 (by omega)
      have hlen2 : c + 1 + (pre2 ++ [x2]).length = c + 1 + pre2.length + 1 := by simp; omega
      have HL2 := Lib.hid hlen2
      clear hlen2
      gi_wp2
      refine ⟨KeepOwn.setCell (fun h => by unfold Mine at h; simp only at h; omega) _, ?_, hb6'.setCell (by show w.heap.size ≤ w.heap.size + 1; omega) _, hk6'.trans (KeepOwn.setCell (fun h => by unfold Mine at h; simp only at h; omega) _)⟩
      rw [HL2.out]; exact p1c
    case hdone2 =>
      rintro xs W5 hxs ⟨p1, p2, p3⟩
      have hxl : cntN (pre.map (·.1.2) ++ [g]) = c + 1 + xs.length := by
        have h1 := congrArg List.length hxs
        rw [List.length_map] at h1
        rw [cntN_append, HB.out, h1]; simp [cntN]; omega
      have HXL := Lib.hid hxl
      clear hxl hxs
      gi_wp2
      refine ⟨by rw [hsl] at p3; exact p3, ?_, p2⟩
      rw [List.map_append]
      show W5.heap[w.heap.size + 1]? = some (Obj.cells #[.int .i64 (w64 (cntN (pre.map (·.1.2) ++ [g])))] 3 (0, 0))
      rw [HXL.out]; exact p1
    case hstop2 => exact fun _ _ _ _ h => h.elim
  case hdone =>
    rintro xs W hxs ⟨q1, q2⟩ hK
    have HX := Lib.hid hxs
    have hcn := cell_of_one q1
    rw [hxs, w64_small (by unfold nodesF at hN; omega)] at hcn
    clear hxs
    have HQ2 := Lib.hid q2
    have HK := Lib.hid hK
    clear hK
    go_wp2_with fail
    refine leaves_of_marks (B := w.heap.size) [Wl.heap.size] _ (by simp) (fun D hD => ?_) (fun W' hb => ⟨_, results_tmp rfl _ _ _, rfl, HQ2.out.trans hb⟩)
    obtain rfl : D = Wl.heap.size := by simpa using hD
    exact ⟨by omega, HK.out⟩
  case hstop => exact fun _ _ _ _ h _ => h.elim

end Go.Proofs.Ytollifednpjkeaa
