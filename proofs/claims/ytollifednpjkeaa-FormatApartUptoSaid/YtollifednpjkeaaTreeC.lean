import Derived.Test.YtollifednpjkeaaTreeB
import Derived.Test.YtollifednpjkeaaIter2
import Derived.RangeFuncNested
import Derived.RangeFuncBound
import Derived.RangeFuncCalls
import Derived.RangeFuncLeaves
import Derived.OwnWalkIn
import Derived.TacticsInMore
import Derived.LoopNIn
import Derived.LoopIn
/-
  How many nodes a formula has: the iterators over its parts and its terms.
-/
namespace Go.Proofs.Ytollifednpjkeaa
open Go.RowKit

mutual
/-- A term and all terms in it, in order; so for lists. -/
def Tm.pre : Tm → List Tm
  | .mk v n a => .mk v n a :: preTs a
def preTs : List Tm → List Tm
  | [] => []
  | t :: r => t.pre ++ preTs r
end
mutual
def Fm.pre : Fm → List Fm
  | .mk o n a s => .mk o n a s :: preFs s
def preFs : List Fm → List Fm
  | [] => []
  | f :: r => f.pre ++ preFs r
end
theorem Tm.pre_eq (t : Tm) : t.pre = t :: preTs t.args := by cases t; simp only [Tm.pre, Tm.args]
theorem Fm.pre_eq (f : Fm) : f.pre = f :: preFs f.sub := by cases f; simp only [Fm.pre, Fm.sub]
theorem preFs_append (l m : List Fm) : preFs (l ++ m) = preFs l ++ preFs m := by
  induction l with
  | nil => rfl
  | cons x r ih => simp only [List.cons_append, preFs, ih, List.append_assoc]
theorem preTs_append (l m : List Tm) : preTs (l ++ m) = preTs l ++ preTs m := by
  induction l with
  | nil => rfl
  | cons x r ih => simp only [List.cons_append, preTs, ih, List.append_assoc]
theorem preFs_snoc (l : List Fm) (k : Nat) (h : k < l.length) : preFs (l.take (k + 1)) = preFs (l.take k) ++ l[k].pre := by
  rw [List.take_succ_eq_append_getElem h, preFs_append]; simp [preFs]
theorem preTs_snoc (l : List Tm) (k : Nat) (h : k < l.length) : preTs (l.take (k + 1)) = preTs (l.take k) ++ l[k].pre := by
  rw [List.take_succ_eq_append_getElem h, preTs_append]; simp [preTs]
theorem preFs_take (l : List Fm) (k : Nat) : preFs (l.take k) <+: preFs l := ⟨preFs (l.drop k), by rw [← preFs_append, List.take_append_drop]⟩
theorem preTs_take (l : List Tm) (k : Nat) : preTs (l.take k) <+: preTs l := ⟨preTs (l.drop k), by rw [← preTs_append, List.take_append_drop]⟩

/-- Whatever cell lay in A lies in B, but for those of the blocks S. -/
structure KeepC (S : Nat → Prop) (A B : World) : Prop where
  size : A.heap.size ≤ B.heap.size
  cell : ∀ (p : Addr) (v : Value), ¬ S p.block → A.cell? p = some v → B.cell? p = some v
theorem KeepC.refl (S : Nat → Prop) (A : World) : KeepC S A A := ⟨Nat.le_refl _, fun _ _ _ h => h⟩
theorem KeepC.trans {S : Nat → Prop} {A B C : World} (h : KeepC S A B) (k : KeepC S B C) : KeepC S A C := ⟨Nat.le_trans h.size k.size, fun p v hs hp => k.cell p v hs (h.cell p v hs hp)⟩
theorem KeepC.of_below {S : Nat → Prop} {A B : World} (h : Below A.heap.size A B) : KeepC S A B := ⟨h.size, fun p _ _ hp => (h.cell (p := p) (World.block_lt_of_cell? A p hp)).trans hp⟩
theorem KeepC.alloc {S : Nat → Prop} {A B : World} (h : KeepC S A B) (o : Obj) : KeepC S A (B.alloc o) := h.trans (KeepC.of_below ((Below.refl _ _).alloc (Nat.le_refl _) _))
theorem KeepC.mono {S T : Nat → Prop} {A B : World} (h : KeepC S A B) (hs : ∀ k, S k → T k) : KeepC T A B := ⟨h.size, fun p v hn hp => h.cell p v (fun hk => hn (hs _ hk)) hp⟩
theorem KeepC.setCell {S : Nat → Prop} {A B : World} (h : KeepC S A B) {a : Addr} (ha : S a.block) (v : Value) : KeepC S A (B.setCell a v) :=
  h.trans ⟨by simp, fun p u hn hp => by
    have hne : p.block ≠ a.block := fun e => hn (e ▸ ha)
    have : (B.setCell a v).heap[p.block]? = B.heap[p.block]? := Below.heap_setCell _ _ _ _ hne
    unfold World.cell? at *
    rw [this]; exact hp⟩
theorem KeepC.putObj {S : Nat → Prop} (W : World) (l : Nat) (o o' : Obj) (h : W.heap[l]? = some o) (hc : o.isCells = false) : KeepC S W (W.putObj l o') :=
  ⟨by simp, fun p u _ hp => by
    have hne : p.block ≠ l := fun e => by
      unfold World.cell? at hp
      rw [e, h] at hp
      cases o with
      | cells c e f => simp [Obj.isCells] at hc
      | _ => simp at hp
    have : (W.putObj l o').heap[p.block]? = W.heap[p.block]? := World.putObj_heap_other hne
    unfold World.cell? at *
    rw [this]; exact hp⟩
/-- Nothing that lay has gone. -/
abbrev Holds (A B : World) : Prop := KeepC (fun k => A.heap.size ≤ k) A B
theorem Holds.of_below {A B : World} (h : Below A.heap.size A B) : Holds A B := KeepC.of_below h
theorem Holds.trans {A B C : World} (h : Holds A B) {S : Nat → Prop} (hS : ∀ k, S k → A.heap.size ≤ k) (k : KeepC S B C) : Holds A C :=
  KeepC.trans h (k.mono hS)
theorem Holds.at {A B : World} (h : Holds A B) {p : Addr} {v : Value} (hp : A.cell? p = some v) : B.cell? p = some v :=
  h.cell p v (by have := World.block_lt_of_cell? A p hp; omega) hp
theorem TmsAt.keep {W W' : World} {v : Value} {ts : List Tm} (h : TmsAt W v ts) (hb : Holds W W') : TmsAt W' v ts := by
  induction h with
  | nil a cap hcap => exact .nil a cap hcap
  | row b off cap ts vs h0 h1 hcap hlt hc _ ih =>
    refine .row b off cap ts vs h0 h1 hcap (Nat.lt_of_lt_of_le hlt hb.size) (fun i h => ?_) ih
    obtain ⟨c0, c1, c2, c3⟩ := hc i h
    exact ⟨hb.at c0, hb.at c1, hb.at c2, c3⟩
theorem FmsAt.keep {W W' : World} {v : Value} {fs : List Fm} (h : FmsAt W v fs) (hb : Holds W W') : FmsAt W' v fs := by
  induction h with
  | nil a cap hcap => exact .nil a cap hcap
  | row b off cap fs vs us h0 h1 hcap hlt hc ha _ ih =>
    refine .row b off cap fs vs us h0 h1 hcap (Nat.lt_of_lt_of_le hlt hb.size) (fun i h => ?_) (fun i h => (ha i h).keep hb) ih
    obtain ⟨c0, c1, c2, c3, c4⟩ := hc i h
    exact ⟨hb.at c0, hb.at c1, hb.at c2, hb.at c3, c4⟩
theorem TmVal.keep {W W' : World} {v : Value} {t : Tm} (h : TmVal W v t) (hb : Holds W W') : TmVal W' v t := by
  obtain ⟨x, e, h1, h2⟩ := h; exact ⟨x, e, h1.keep hb, h2⟩
theorem FmVal.keep {W W' : World} {v : Value} {f : Fm} (h : FmVal W v f) (hb : Holds W W') : FmVal W' v f := by
  obtain ⟨x, y, e, h1, h2, h3⟩ := h; exact ⟨x, y, e, h1.keep hb, h2.keep hb, h3⟩

/-- A formula, a term, with its value, as it lay in W0. -/
abbrev FE (W0 : World) := { p : Value × Fm // FmVal W0 p.1 p.2 }
abbrev TE (W0 : World) := { p : Value × Tm // TmVal W0 p.1 p.2 }

theorem KeepC.of_own {n₀ n₂ : Nat} {A B : World} (h : KeepOwn (Mine n₀ n₂) A B) : KeepC (fun k => n₀ ≤ k ∧ k < n₂) A B :=
  ⟨h.size, fun p v hn hp => by
    have hlt := World.block_lt_of_cell? A p hp
    have hm : Mine n₀ n₂ p.block := by
      rcases Nat.lt_or_ge p.block n₀ with h1 | h1
      · exact .inl h1
      · rcases Nat.lt_or_ge p.block n₂ with h2 | h2
        · exact absurd ⟨h1, h2⟩ hn
        · exact .inr h2
    have := h.same _ hm hlt
    unfold World.cell? at *
    rw [this]; exact hp⟩

/-- A round over formulas: it goes on, or it has said 'no more'. -/
def RoundF (W0 : World) (S : Nat → Prop) (l M : Nat) (J Jx : List (FE W0) → World → Prop) : Prop :=
  ∀ (pre : List (FE W0)) (x : FE W0) (W : World), J pre W → pre.length < M → ∃ fn tmps assign body, (Instr.yield l #[x.1.1]).run Try.prog W = .ok (.round l fn tmps assign body) W ∧ ∀ m, RoundIn Fence.wide m Try.prog l fn tmps assign body W fun e W' =>
      (e = .returned (.bool true) ∧ J (pre ++ [x]) W' ∧ KeepC S W W') ∨ (e = .returned (.bool false) ∧ Jx (pre ++ [x]) W')
/-- What 'every' leaves. -/
def EveryPost (W0 : World) (S : Nat → Prop) (f : List Fm) (J Jx : List (FE W0) → World → Prop) (pre : List (FE W0)) (W : World) (e : Ending) (W' : World) : Prop :=
  (e = .returned (.bool true) ∧ ∃ es : List (FE W0), es.map (·.1.2) = f ∧ J (pre ++ es) W' ∧ KeepC S W W') ∨ (e = .returned (.bool false) ∧ ∃ es : List (FE W0), es.map (·.1.2) <+: f ∧ Jx (pre ++ es) W')

set_option maxRecDepth 100000 in
set_option maxHeartbeats 4000000 in
theorem every_any (W0 : World) (S : Nat → Prop) (l M n₂ : Nat) (hS0 : ∀ k, S k → W0.heap.size ≤ k) (hS2 : ∀ k, S k → k < n₂) (J Jx : List (FE W0) → World → Prop) (hJ : ∀ s A B, J s A → Below n₂ A B → J s B) (hY : RoundF W0 S l M J Jx) :
    ∀ (N : Nat) (f : Fm), f.wt ≤ N → ∀ (v : Value) (pre : List (FE W0)) (W : World), Holds W0 W → n₂ ≤ W.heap.size → FmVal W0 v f → J pre W → pre.length + f.pre.length ≤ M →
      Calls Try.prog 95 #[v, .func (.yield l) #[] #[]] W (EveryPost W0 S f.pre J Jx pre W) := by
  intro N
  induction N with
  | zero => intro f hf; have := f.wt_pos; omega
  | succ N ih =>
    intro f hf v pre W hb hn2 hv hJ0 hM
    obtain ⟨x, y, rfl, hx, hy, hz⟩ := hv
    have hJ1 := hJ _ _ _ hJ0 ((Below.refl n₂ W).alloc hn2 (.cells #[.int .u8 f.op, .string f.name, x, y] 25))
    have hfp := f.pre_eq
    have hwe := f.wt_eq
    obtain ⟨E0, hE0⟩ : ∃ E0 : FE W0, E0 = ⟨(.agg #[.int .u8 f.op, .string f.name, x, y], f), ⟨x, y, rfl, hx, hy, hz⟩⟩ := ⟨_, rfl⟩
    obtain ⟨fn, tmps, assign, body, hyy, hR⟩ := hY pre E0 _ hJ1 (by rw [hfp] at hM; simp at hM; omega)
    have hE1 : E0.1.1 = .agg #[.int .u8 f.op, .string f.name, x, y] := by rw [hE0]
    have hE2 : E0.1.2 = f := by rw [hE0]
    rw [hE1] at hyy
    obtain ⟨sub, hsub⟩ : ∃ s, f.sub = s := ⟨_, rfl⟩
    rw [hsub] at hfp hwe hy
    obtain ⟨a, cap, rfl, hcap, hmax, hcells⟩ := hy.at
    have hmx : sub.length ≤ 9223372036854775807 := by unfold maxLen at hmax; omega
    have HC := Lib.hid hcells
    have IH := Lib.hid ih
    have HP := Lib.hid hfp
    have HE := Lib.hid hE2
    have HYR := Lib.hid hY
    clear ih hfp hE0 hE1 hE2 hcells hY
    go_enter Try.func95, Try.ntmps95
    go_upto_region 1 with fail
    refine (wpIn_wide (n := 3)).1 ?_
    gi_wp2
    refine (hR _).mono ?_
    rintro e W3 (⟨rfl, hJ3, hk3⟩ | ⟨rfl, hx3⟩)
    · have hbox : (W.alloc (.cells #[.int .u8 f.op, .string f.name, x, .slice a sub.length cap] 25)).cell? ⟨W.heap.size, 3, none⟩ = some (.slice a sub.length cap) := by
        rw [World.cell?_alloc_at _ _ _ _ rfl]; rfl
      have hbox3 := hk3.cell ⟨W.heap.size, 3, none⟩ _ (fun h => by have : W.heap.size < n₂ := hS2 _ h; omega) hbox
      have hkW : KeepC S W W3 := (KeepC.of_below ((Below.refl _ _).alloc (Nat.le_refl _) _)).trans hk3
      clear hR hbox
      gi_wp2
      go_wp2_with fail
      go_loopw [14] (fun i wr => ∃ (k : Nat) (es : List (FE W0)), i = .int .i64 (k : Int) ∧ k ≤ sub.length ∧ Hid (es.map (·.1.2) = f :: preFs (sub.take k)) ∧ J (pre ++ es) wr ∧ KeepC S W wr) (fun i _ => sub.length - (intOf i).toNat)
      case atStart => exact ⟨0, [E0], rfl, Nat.zero_le _, by show _ = _; simp [HE.out, preFs], hJ3, hkW⟩
      case round =>
        obtain ⟨k, es, rfl, hk, HM, hJk, hkk⟩ := hrel
        by_cases hlt : k < sub.length
        · have hH : Holds W0 wr := hb.trans hS0 hkk
          obtain ⟨b, off, rfl, hbl, hc⟩ := HC.out (by omega)
          obtain ⟨x', y', c0, c1, c2, c3, hx', hy', hz'⟩ := hc k hlt
          obtain ⟨ax, cx, rfl, _⟩ := hx'.at
          obtain ⟨ay, cy, rfl, _⟩ := hy'.at
          have d0 := hH.at c0
          have d1 := hH.at c1
          have d2 := hH.at c2
          have d3 := hH.at c3
          have hw : sub[k].wt ≤ N := by have := wfs_mem (List.getElem_mem hlt); omega
          have hlen : es.length = 1 + (preFs (sub.take k)).length := by have := congrArg List.length HM.out; simp at this; omega
          have hle2 : (preFs (sub.take k)).length + sub[k].pre.length ≤ (preFs sub).length := by
            have h1 := preFs_snoc sub k hlt
            have h2 := (preFs_take sub (k + 1)).length_le
            rw [h1, List.length_append] at h2; exact h2
          have hM2 : (pre ++ es).length + sub[k].pre.length ≤ M := by
            have h1 := congrArg List.length HP.out
            simp at h1
            rw [List.length_append]; omega
          have hn2' : n₂ ≤ wr.heap.size := Nat.le_trans hn2 hkk.size
          clear c0 c1 c2 c3 hc hle2 hlen
          go_wp2_with fail
          refine (IH.out sub[k] hw _ (pre ++ es) _ (hH.alloc _) (by simp; omega) ⟨_, _, rfl, hx', hy', hz'⟩ (hJ _ _ _ hJk ((Below.refl n₂ wr).alloc hn2' _)) hM2).mono ?_
          rintro e W4 (⟨rfl, es2, he2, hJ4, hk4⟩ | ⟨rfl, es2, he2, hx4⟩)
          · have HM2 := Lib.hid he2
            clear he2
            have HLT := Lib.hid hlt
            go_wp2_with fail
            go_roundw
            case rel =>
              refine ⟨k + 1, es ++ es2, by go_num, HLT.out, ?_, by rw [← List.append_assoc]; exact hJ4, (hkk.alloc _).trans hk4⟩
              show _ = _
              rw [List.map_append, HM.out, HM2.out, preFs_snoc sub k hlt]; rfl
            case measure => simp only [intOf]; have := HLT.out; omega
          · have HM2 := Lib.hid he2
            clear he2
            go_wp2_with fail
            go_ret
            refine .inr ⟨rfl, es ++ es2, ?_, by rw [← List.append_assoc]; exact hx4⟩
            rw [List.map_append, HM.out, HP.out]
            refine List.IsPrefix.trans ?_ (List.prefix_append_right_inj [f] |>.2 (preFs_take sub (k + 1)))
            rw [preFs_snoc sub k hlt]
            simpa using HM2.out
        · have hall : sub.take k = sub := List.take_of_length_le (by omega)
          have hfin := HM.out
          rw [hall, ← HP.out] at hfin
          have HF := Lib.hid hfin
          clear hall hfin
          go_wp2_with fail
          go_ret
          exact .inl ⟨rfl, es, HF.out, hJk, hkk⟩
    · gi_wp2
      go_wp2_with fail
      go_ret
      exact .inr ⟨rfl, [E0], by rw [HP.out]; simp [HE.out], hx3⟩

theorem Holds.of_keepC {W0 A B : World} {n₂ : Nat} (h : Holds W0 A) (k : KeepC (fun k => W0.heap.size ≤ k ∧ k < n₂) A B) : Holds W0 B := Holds.trans h (fun _ h => h.1) k

set_option maxHeartbeats 1000000 in
/-- The iterator over a formula's parts. -/
theorem all_seq (W0 : World) (f : Fm) (v : Value) (hv : FmVal W0 v f) (Bt n : Nat) :
    SeqNew Fence.wide n Try.prog 94 #[.pointer (some ⟨Bt, 0, none⟩)] (fun x : FE W0 => #[x.1.1]) W0.heap.size f.pre.length
      (fun W => Holds W0 W ∧ ∃ x y, v = .agg #[.int .u8 f.op, .string f.name, x, y] ∧ W.cell? ⟨Bt, 0, none⟩ = some (.int .u8 f.op) ∧ W.cell? ⟨Bt, 1, none⟩ = some (.string f.name) ∧ W.cell? ⟨Bt, 2, none⟩ = some x ∧ W.cell? ⟨Bt, 3, none⟩ = some y)
      (fun xs => xs.map (·.1.2) = f.pre) (fun _ => True) := by
  rintro l J Jx W ⟨hH, x, y, rfl, c0, c1, c2, c3⟩ hJ hJx hY h0
  refine callsIn_wide.2 ?_
  have hev := every_any W0 (fun k => W0.heap.size ≤ k ∧ k < W.heap.size) l f.pre.length W.heap.size (fun _ h => h.1) (fun _ h => h.2) J Jx hJ
    (fun pre x W1 hj hl => by
      obtain ⟨fn, tmps, assign, body, hy, hR⟩ := hY pre x W1 hj hl
      refine ⟨fn, tmps, assign, body, hy, fun m => ?_⟩
      refine RoundIn.mono ⟨hR.1, fun c cs _ => hR.2 c cs (fun d h => by cases h)⟩ ?_
      rintro e W' (⟨he, hj', hk⟩ | h)
      · exact .inl ⟨he, hj', KeepC.of_own hk⟩
      · exact .inr ⟨h.1, h.2.1⟩)
    f.wt f (Nat.le_refl _) _ [] W hH (Nat.le_refl _) hv h0 (by simp)
  show Calls Try.prog _ #[.func (.yield l) #[] #[], .pointer (some ⟨Bt, 0, none⟩)] W _
  have HEV := Lib.hid hev
  clear hev hY
  go_enter Try.func94, Try.ntmps94
  go_wp2_with fail
  refine HEV.out.mono ?_
  rintro e W' (⟨rfl, es, he, hj, _⟩ | ⟨rfl, es, he, hx⟩)
  · have HE := Lib.hid he
    clear he
    go_wp2_with fail
    go_end0
    exact ⟨⟨_, rfl⟩, .inl ⟨es, HE.out, by simpa using hj⟩⟩
  · clear he
    go_wp2_with fail
    go_end0
    exact ⟨⟨_, rfl⟩, .inr ⟨es, trivial, by simpa using hx⟩⟩

end Go.Proofs.Ytollifednpjkeaa
