import Derived.Test.YtollifednpjkeaaApartC
import Derived.Test.YtollifednpjkeaaTextI
/-
  Texts tell formulas apart: the prefix text.
-/
namespace Go.Proofs.Ytollifednpjkeaa
open Go.RowKit

theorem wch_32 {c : UInt8} (h : wch c = true) : c ≠ 32 := fun e => by rw [e] at h; revert h; decide
mutual
theorem tl_no32 : ∀ t : Tm, t.ok true = true → ∀ c ∈ t.tl [], c ≠ 32
  | .mk b n a, h => by
    obtain ⟨w1, o1, -, -⟩ := Tm.ok_word h
    simp only [Tm.name, Tm.args] at w1 o1
    intro c hc
    simp only [Tm.tl] at hc
    rcases List.mem_append.1 hc with hc | hc
    · exact wch_32 (w1.all c hc)
    · exact args_no32 a o1 c hc
theorem args_no32 : ∀ a : List Tm, allOk true a = true → ∀ c ∈ argsTl [] a, c ≠ 32
  | [], _, c, hc => by cases hc
  | t :: r, h, c, hc => by
    simp only [allOk, Bool.and_eq_true] at h
    simp only [argsTl, List.mem_cons, List.mem_append] at hc
    rcases hc with rfl | hc | hc
    · decide
    · exact tl_no32 t h.1 c hc
    · exact rest_no32 r h.2 c hc
theorem rest_no32 : ∀ a : List Tm, allOk true a = true → ∀ c ∈ restTl [] a, c ≠ 32
  | [], _, c, hc => by simp only [restTl, List.mem_singleton] at hc; rw [hc]; decide
  | t :: r, h, c, hc => by
    simp only [allOk, Bool.and_eq_true] at h
    simp only [restTl, List.nil_append, List.mem_cons, List.mem_append] at hc
    rcases hc with rfl | hc | hc
    · decide
    · exact tl_no32 t h.1 c hc
    · exact rest_no32 r h.2 c hc
end
theorem item_no32 {o : Int} {n : ByteArray} {a : List Tm} (h : ItemOk o n a) : ∀ c ∈ itemW o n ++ itemT [] o a, c ≠ 32 := by
  intro c hc
  rcases List.mem_append.1 hc with hc | hc
  · exact wch_32 ((itemW_w h).2.1 c hc)
  · rcases h with ⟨rfl, -, rfl⟩ | ⟨rfl, -, h⟩ | ⟨rfl, -, rfl⟩ | ⟨rfl, -, h⟩
    · cases hc
    · exact args_no32 a h c hc
    · cases hc
    · obtain ⟨xn, yn, rfl, hx, hy⟩ := inst_parts h
      have hc' : c ∈ instTl [.mk true xn [], .mk true yn []] := hc
      simp only [instTl, Tm.name, List.mem_cons, List.mem_append, List.not_mem_nil, or_false] at hc'
      rcases hc' with rfl | hc' | rfl | hc' | rfl
      · decide
      · exact wch_32 ((isMetaT_w hy).1.all c hc')
      · decide
      · exact wch_32 ((isVar_w hx).1.all c hc')
      · decide

/-- The word of a formula with parts. -/
def headO (o : Int) (n : ByteArray) : List UInt8 := if o = 12 then [110, 101, 120, 116] else if o = 13 then [97, 108, 119, 97, 121, 115] else (sgT o.toNat).data.toList ++ n.data.toList
def Fm.hl (f : Fm) : List UInt8 := bif f.sub.isEmpty then itemW f.op f.name ++ itemT [] f.op f.args else headO f.op f.name
theorem trim_not {s : List UInt8} (h : s.getLast? ≠ some 32) : Lib.trimSuffix s [32] = s := by
  unfold Lib.trimSuffix
  split
  · rename_i hs
    exfalso
    apply h
    have : ([32] : List UInt8) <:+ s := by simpa [Lib.hasSuffix] using hs
    obtain ⟨r, rfl⟩ := this
    simp
  · rfl
theorem last_mem {s : List UInt8} {c : UInt8} (h : s.getLast? = some c) : c ∈ s := List.mem_of_getLast? h
theorem last_app (a : List UInt8) {b : List UInt8} (h : b ≠ []) : (a ++ b).getLast? = b.getLast? := by
  rw [List.getLast?_append]
  cases hb : b.getLast? with
  | none => exact absurd (List.getLast?_eq_none_iff.1 hb) h
  | some c => rfl
theorem headW_list {f : Fm} (h : f.sh true = true) : (headW f.op f.name f.args f.sub.isEmpty).data.toList = f.hl := by
  unfold headW trimW Fm.hl
  rcases sh_view h with ⟨h1, h2⟩ | ⟨g, h1, -, h2, -⟩ | ⟨l, r, h1, -, h2, h0, h3, -⟩
  · rw [h1]
    simp only [List.isEmpty_nil, cond_true]
    rw [simple_tl _ [] rfl h2]
    exact trim_not fun e => item_no32 h2 32 (last_mem e) rfl
  · rw [h1]
    simp only [List.isEmpty_cons, cond_false, bs_app]
    rcases h2 with ⟨e | e, hv⟩ | ⟨e | e | e | e | e, hn⟩
    · have hw := (isVar_w hv).1
      rw [e]
      refine trim_not fun e => ?_
      rw [last_app _ hw.ne] at e
      exact wch_32 (hw.all _ (last_mem e)) rfl
    · have hw := (isVar_w hv).1
      rw [e]
      refine trim_not fun e => ?_
      rw [last_app _ hw.ne] at e
      exact wch_32 (hw.all _ (last_mem e)) rfl
    all_goals rw [e]; simp only [headO, hn]; decide
  · rw [h1]
    simp only [List.isEmpty_cons, cond_false, bs_app]
    have e : f.op = (f.op.toNat : Int) := by omega
    rcases h2 with e' | e' | e' | e' | e'
    all_goals rw [e, e']; simp only [headO, h3]; decide

mutual
/-- The prefix text. -/
def Fm.pl : Fm → List UInt8
  | .mk o n a s => (Fm.mk o n a s).hl ++ pls s
def pls : List Fm → List UInt8
  | [] => []
  | f :: r => 32 :: (f.pl ++ pls r)
end
theorem Fm.pl_eq (f : Fm) : f.pl = f.hl ++ pls f.sub := by cases f; simp only [Fm.pl, Fm.sub]
theorem joinTail_append (sep : List UInt8) (a b : List (List UInt8)) : Lib.joinTail sep (a ++ b) = Lib.joinTail sep a ++ Lib.joinTail sep b := by simp [Lib.joinTail]
mutual
theorem pl_tail : ∀ f : Fm, f.sh true = true → Lib.joinTail [32] (f.pw.map (·.data.toList)) = 32 :: f.pl
  | .mk o n a s, h => by
    have h1 := headW_list h
    have h2 := pls_tail s (fun g hg => (sh_parts h).sub g hg)
    simp only [Fm.op, Fm.name, Fm.args, Fm.sub] at h1
    simp only [Fm.pw, Fm.pl, List.map_cons, h1, ← h2]
    simp [Lib.joinTail]
theorem pls_tail : ∀ l : List Fm, (∀ g ∈ l, g.sh true = true) → Lib.joinTail [32] ((pws l).map (·.data.toList)) = pls l
  | [], _ => rfl
  | f :: r, h => by
    have h1 := pl_tail f (h f (by simp))
    have h2 := pls_tail r (fun g hg => h g (List.mem_cons_of_mem _ hg))
    simp only [pws, pls, List.map_append, joinTail_append, h1, h2, List.cons_append]
end
theorem prefix_list {f : Fm} (h : f.sh true = true) : (joinS ⟨#[32]⟩ f.pw).data.toList = f.pl := by
  have h1 := headW_list h
  have h2 := pls_tail f.sub (fun g hg => (sh_parts h).sub g hg)
  unfold joinS
  simp only [f.pw_eq, List.map_cons, Lib.join_cons, h1, f.pl_eq, ← h2]

/-! ## Reading -/
def Bl (u : List UInt8) : Prop := ∀ c r, u = c :: r → c = 32
theorem Bl.st {u : List UInt8} (h : Bl u) : St u := fun c r e => Or.inl (h c r e)
theorem bl_nil : Bl [] := fun _ _ e => by cases e
theorem pls_bl (l : List Fm) {u : List UInt8} (hu : Bl u) : Bl (pls l ++ u) := by
  cases l with
  | nil => exact hu
  | cons f r => exact fun _ _ e => by cases e; rfl
def OpK (o : Int) (n : ByteArray) : Prop := ((o = 8 ∨ o = 9) ∧ isVar n = true) ∨ ((o = 3 ∨ o = 10 ∨ o = 11 ∨ o = 12 ∨ o = 13 ∨ o = 4 ∨ o = 5 ∨ o = 6 ∨ o = 7 ∨ o = 14) ∧ n.data.toList = [])
theorem op_head {o : Int} {n : ByteArray} (h : OpK o n) : ∃ c r, headO o n = c :: r ∧ ¬ (c.toNat = 102 ∨ c.toNat = 63 ∨ (65 ≤ c.toNat ∧ c.toNat ≤ 90)) := by
  rcases h with ⟨rfl | rfl, -⟩ | ⟨rfl | rfl | rfl | rfl | rfl | rfl | rfl | rfl | rfl | rfl, -⟩
  all_goals exact ⟨_, _, rfl, by decide⟩
theorem head_read {o o' : Int} {n n' : ByteArray} {u v : List UInt8} (h : OpK o n) (h' : OpK o' n') (hu : Bl u) (hv : Bl v) (heq : headO o n ++ u = headO o' n' ++ v) : o = o' ∧ n = n' ∧ u = v := by
  have same : ∀ {n n' : ByteArray}, isVar n = true → isVar n' = true → n.data.toList ++ u = n'.data.toList ++ v → n = n' ∧ u = v := fun {n n'} hn hn' e => by
    obtain ⟨e1, e2⟩ := run_read (isVar_w hn).1.all (isVar_w hn').1.all hu.st.ends hv.st.ends e
    exact ⟨bs_ext e1, e2⟩
  rcases h with ⟨rfl | rfl, q⟩ | ⟨rfl | rfl | rfl | rfl | rfl | rfl | rfl | rfl | rfl | rfl, q⟩ <;> rcases h' with ⟨rfl | rfl, q'⟩ | ⟨rfl | rfl | rfl | rfl | rfl | rfl | rfl | rfl | rfl | rfl, q'⟩
  all_goals first
    | (exfalso; simp [headO, sgT] at heq; done)
    | (refine ⟨rfl, ?_⟩; simp [headO, sgT] at heq; exact same q q' heq)
    | (refine ⟨rfl, bs_ext (q.trans q'.symm), ?_⟩; simpa [headO, sgT, q, q'] using heq)
/-- The two kinds of words. -/
theorem hl_kind {f : Fm} (h : f.sh true = true) : ∃ c r, f.hl = c :: r ∧
    ((f.sub = [] ∧ ItemOk f.op f.name f.args ∧ f.hl = itemW f.op f.name ++ itemT [] f.op f.args ∧ (c.toNat = 102 ∨ c.toNat = 63 ∨ (65 ≤ c.toNat ∧ c.toNat ≤ 90))) ∨
     (f.sub.length = (rowD f.op.toNat).sb ∧ f.args = [] ∧ OpK f.op f.name ∧ f.hl = headO f.op f.name ∧ ¬ (c.toNat = 102 ∨ c.toNat = 63 ∨ (65 ≤ c.toNat ∧ c.toNat ≤ 90)))) := by
  rcases sh_view h with ⟨h1, h2⟩ | ⟨g, h1, h2, h3, h4⟩ | ⟨l, r, h1, h2, h3, h0, h4, -⟩
  · obtain ⟨w1, -, w3⟩ := itemW_w h2
    have e : f.hl = itemW f.op f.name ++ itemT [] f.op f.args := by unfold Fm.hl; rw [h1]; rfl
    cases hw : itemW f.op f.name with
    | nil => exact absurd hw w1
    | cons c r =>
      rw [hw] at w3
      simp only [hdI] at w3
      exact ⟨c, _, by rw [e, hw]; rfl, Or.inl ⟨h1, h2, by rw [e, hw], by omega⟩⟩
  · have e : f.hl = headO f.op f.name := by unfold Fm.hl; rw [h1]; rfl
    have k : OpK f.op f.name := by
      rcases h3 with h3 | ⟨h3, h5⟩
      · exact Or.inl h3
      · exact Or.inr ⟨by omega, h5⟩
    obtain ⟨c, r, e2, hc⟩ := op_head k
    refine ⟨c, r, by rw [e, e2], Or.inr ⟨?_, h2, k, e, hc⟩⟩
    rw [h1]
    rcases h3 with ⟨e | e, -⟩ | ⟨e | e | e | e | e, -⟩ <;> rw [e] <;> rfl
  · have e : f.hl = headO f.op f.name := by unfold Fm.hl; rw [h1]; rfl
    have k : OpK f.op f.name := Or.inr ⟨by unfold BinK at h3; omega, h4⟩
    obtain ⟨c, r', e2, hc⟩ := op_head k
    refine ⟨c, r', by rw [e, e2], Or.inr ⟨?_, h2, k, e, hc⟩⟩
    rw [h1]
    rcases h3 with e | e | e | e | e <;> rw [e] <;> rfl
theorem pl_read : ∀ (N : Nat), (∀ (f g : Fm) (u v : List UInt8), f.wt ≤ N → f.sh true = true → g.sh true = true → Bl u → Bl v → f.pl ++ u = g.pl ++ v → f = g ∧ u = v) ∧
    (∀ (l m : List Fm) (u v : List UInt8), wfs l ≤ N → (∀ g ∈ l, g.sh true = true) → (∀ g ∈ m, g.sh true = true) → l.length = m.length → Bl u → Bl v → pls l ++ u = pls m ++ v → l = m ∧ u = v)
  | 0 => by
    refine ⟨fun f _ _ _ h => by have := f.wt_pos; omega, fun l m u v h _ _ hl _ _ he => ?_⟩
    cases l with
    | nil => cases m with
      | nil => exact ⟨rfl, he⟩
      | cons _ _ => cases hl
    | cons f r => have := f.wt_pos; simp only [wfs] at h; omega
  | N + 1 => by
    obtain ⟨ihF, ihL⟩ := pl_read N
    have F : ∀ (f g : Fm) (u v : List UInt8), f.wt ≤ N + 1 → f.sh true = true → g.sh true = true → Bl u → Bl v → f.pl ++ u = g.pl ++ v → f = g ∧ u = v := by
      intro f g u v hN hf hg hu hv h
      rw [f.pl_eq, g.pl_eq, List.append_assoc, List.append_assoc] at h
      obtain ⟨c, r, e1, hc⟩ := hl_kind hf
      obtain ⟨d, r', e2, hd⟩ := hl_kind hg
      have hcd : c = d := by rw [e1, e2] at h; exact cons_first h
      subst hcd
      have hw : wfs f.sub ≤ N := by have := f.wt_eq; omega
      rcases hc with ⟨f1, f2, f3, f4⟩ | ⟨f1, f2, f3, f4, f5⟩ <;> rcases hd with ⟨g1, g2, g3, g4⟩ | ⟨g1, g2, g3, g4, g5⟩
      · rw [f3, g3, f1, g1, List.append_assoc, List.append_assoc] at h
        obtain ⟨x1, x2, x3, x4⟩ := item_read [] f2 g2 hu.st hv.st h
        exact ⟨Fm.ext' x1 x2 x3 (f1.trans g1.symm), x4⟩
      · exact absurd f4 g5
      · exact absurd g4 f5
      · rw [f4, g4] at h
        obtain ⟨x1, x2, x3⟩ := head_read f3 g3 (pls_bl _ hu) (pls_bl _ hv) h
        obtain ⟨x4, x5⟩ := ihL f.sub g.sub u v hw (fun g hg => (sh_parts hf).sub g hg) (fun x hx => (sh_parts hg).sub x hx) (by rw [f1, g1, x1]) hu hv x3
        exact ⟨Fm.ext' x1 x2 (f2.trans g2.symm) x4, x5⟩
    refine ⟨F, fun l m u v hN hl hm hlen hu hv h => ?_⟩
    cases l with
    | nil => cases m with
      | nil => exact ⟨rfl, h⟩
      | cons _ _ => cases hlen
    | cons f r => cases m with
      | nil => cases hlen
      | cons g s =>
        simp only [wfs] at hN
        simp only [pls, List.cons_append, List.append_assoc, List.cons.injEq, true_and] at h
        have hfw := f.wt_pos
        obtain ⟨rfl, e⟩ := F f g _ _ (by omega) (hl f (by simp)) (hm g (by simp)) (pls_bl r hu) (pls_bl s hv) h
        obtain ⟨rfl, e2⟩ := ihL r s u v (by omega) (fun x hx => hl x (List.mem_cons_of_mem _ hx)) (fun x hx => hm x (List.mem_cons_of_mem _ hx)) (by simpa using hlen) hu hv e
        exact ⟨rfl, e2⟩
theorem prefix_inj {f g : Fm} (hf : f.sh true = true) (hg : g.sh true = true) (h : joinS ⟨#[32]⟩ f.pw = joinS ⟨#[32]⟩ g.pw) : f = g := by
  have h' := congrArg (·.data.toList) h
  simp only [prefix_list hf, prefix_list hg] at h'
  exact ((pl_read _).1 f g [] [] (Nat.le_refl _) hf hg bl_nil bl_nil (by simpa using h')).1
theorem prefix_ne {f : Fm} (h : f.sh true = true) : joinS ⟨#[32]⟩ f.pw ≠ ⟨#[]⟩ := fun e => by
  have h' := congrArg (·.data.toList) e
  simp only [prefix_list h, f.pl_eq] at h'
  obtain ⟨c, r, e1, -⟩ := hl_kind h
  rw [e1] at h'
  cases h'

end Go.Proofs.Ytollifednpjkeaa
