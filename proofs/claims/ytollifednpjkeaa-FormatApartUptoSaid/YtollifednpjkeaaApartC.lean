import Derived.Test.YtollifednpjkeaaApartB
/-
  Texts tell formulas apart: both texts.
-/
namespace Go.Proofs.Ytollifednpjkeaa
open Go.RowKit

/-- What an operator with one part writes ahead of it. -/
def unHead (o : Int) (n : ByteArray) : List UInt8 := if o = 8 ∨ o = 9 then (sgT o.toNat).data.toList ++ (n.data.toList ++ [32]) else (sgT o.toNat).data.toList
theorem ahead_list {o : Int} {n : ByteArray} (h : UnOk o n) : (aheadTx o.toNat n).data.toList = unHead o n := by
  unfold aheadTx unHead
  rw [isEmp_list]
  rcases h with ⟨h1, h2⟩ | ⟨h1, h2⟩
  · have := (isVar_w h2).1.ne
    rw [if_pos h1, show n.data.toList.isEmpty = false by simpa using this]
    simp
  · have : ¬ (o = 8 ∨ o = 9) := by omega
    rw [if_neg this, h2]
    rfl
theorem un_head {o : Int} {n : ByteArray} (h : UnOk o n) : ∃ c r, unHead o n = c :: r ∧ (c = 126 ∨ c = 91 ∨ c = 60 ∨ c = 110 ∨ c = 97 ∨ c = 115) := by
  rcases h with ⟨rfl | rfl, -⟩ | ⟨rfl | rfl | rfl | rfl | rfl, -⟩
  all_goals exact ⟨_, _, rfl, by decide⟩
theorem ahead_read {o o' : Int} {n n' : ByteArray} {u v : List UInt8} (h : UnOk o n) (h' : UnOk o' n') (heq : unHead o n ++ u = unHead o' n' ++ v) : o = o' ∧ n = n' ∧ u = v := by
  have same : ∀ {n n' : ByteArray}, isVar n = true → isVar n' = true → n.data.toList ++ (32 :: u) = n'.data.toList ++ (32 :: v) → n = n' ∧ u = v := fun {n n'} hn hn' e => by
    obtain ⟨e1, e2⟩ := run_read (isVar_w hn).1.all (isVar_w hn').1.all (ends_cons (by decide)) (ends_cons (by decide)) e
    exact ⟨bs_ext e1, (List.cons.inj e2).2⟩
  rcases h with ⟨rfl | rfl, q⟩ | ⟨rfl | rfl | rfl | rfl | rfl, q⟩ <;> rcases h' with ⟨rfl | rfl, q'⟩ | ⟨rfl | rfl | rfl | rfl | rfl, q'⟩
  all_goals first
    | (exfalso; simp [unHead, sgT] at heq; done)
    | (refine ⟨rfl, ?_⟩; simp [unHead, sgT] at heq; first | exact same q q' heq | exact ⟨bs_ext (q.trans q'.symm), heq⟩)

def En (u : List UInt8) : Prop := ∀ c r, u = c :: r → c = 41 ∨ c = 44
theorem En.st {u : List UInt8} (h : En u) : St u := fun c r e => Or.inr (h c r e)
theorem en_nil : En [] := fun _ _ e => by cases e
theorem en_cons {c : UInt8} {r : List UInt8} (h : c = 41 ∨ c = 44) : En (c :: r) := fun _ _ e => by cases e; exact h
theorem seq_st (full : Bool) (L : List (Nat × Fm)) {u : List UInt8} (hu : En u) : St (seqR full L ++ u) := by
  cases L with
  | nil => exact hu.st
  | cons p r => exact st_cons (Or.inl rfl)
theorem sign_read {k m : Nat} (hk : BinK k) (hm : BinK m) {X Y : List UInt8} (h : (sgT k).data.toList ++ 32 :: X = (sgT m).data.toList ++ 32 :: Y) : k = m ∧ X = Y := by
  rcases hk with rfl | rfl | rfl | rfl | rfl <;> rcases hm with rfl | rfl | rfl | rfl | rfl
  all_goals first
    | (exfalso; simp [sgT] at h; done)
    | (refine ⟨rfl, ?_⟩; simpa [sgT] using h)
theorem seq_read (full : Bool) (U : Fm → Prop) (hU : ∀ h, U h → ∀ h' u v, h'.sh true = true → St u → St v → h.un full ++ u = h'.un full ++ v → h = h' ∧ u = v) :
    ∀ (L L' : List (Nat × Fm)) (u v : List UInt8), (∀ p ∈ L, U p.2 ∧ BinK p.1) → (∀ p ∈ L', p.2.sh true = true ∧ BinK p.1) → En u → En v → seqR full L ++ u = seqR full L' ++ v → L = L' ∧ u = v
  | [], [], _, _, _, _, _, _, h => ⟨rfl, h⟩
  | [], (k, g) :: r, u, v, _, _, hu, _, h => by
    rcases hu 32 _ (by simpa [seqR] using h) with h | h <;> cases h
  | (k, g) :: r, [], u, v, _, _, _, hv, h => by
    rcases hv 32 _ (by simpa [seqR] using h.symm) with h | h <;> cases h
  | (k, g) :: r, (k', g') :: r', u, v, hL, hL', hu, hv, h => by
    obtain ⟨a1, a2⟩ := hL (k, g) (by simp)
    obtain ⟨b1, b2⟩ := hL' (k', g') (by simp)
    simp only at a1 a2 b1 b2
    simp only [seqR, List.cons_append, List.append_assoc, List.cons.injEq, true_and] at h
    obtain ⟨rfl, h2⟩ := sign_read a2 b2 h
    clear h
    obtain ⟨rfl, h⟩ := hU g a1 g' _ _ b1 (seq_st full r hu) (seq_st full r' hv) h2
    clear h2
    obtain ⟨rfl, h2⟩ := seq_read full U hU r r' u v (fun p hp => hL p (List.mem_cons_of_mem _ hp)) (fun p hp => hL' p (List.mem_cons_of_mem _ hp)) hu hv h
    exact ⟨rfl, h2⟩

/-- The first byte of a part. -/
theorem un_first (full : Bool) {f : Fm} (h : f.sh true = true) (hs : f.str = 6) : f.un full = f.tl full ∧ ∃ c r, f.tl full = c :: r ∧
    ((f.sub = [] ∧ ItemOk f.op f.name f.args ∧ (c.toNat = 102 ∨ c.toNat = 63 ∨ (65 ≤ c.toNat ∧ c.toNat ≤ 90))) ∨
     (∃ g, f.sub = [g] ∧ f.args = [] ∧ UnOk f.op f.name ∧ g.sh true = true ∧ (c.toNat = 126 ∨ c.toNat = 91 ∨ c.toNat = 60 ∨ c.toNat = 110 ∨ c.toNat = 97 ∨ c.toNat = 115))) := by
  refine ⟨by unfold Fm.un; rw [if_neg (by omega)], ?_⟩
  rcases sh_view h with ⟨h1, h2⟩ | ⟨g, h1, h2, h3, h4⟩ | ⟨l, r, h1, -, h3, -⟩
  · obtain ⟨w1, -, w3⟩ := itemW_w h2
    rw [tl_item full h1 h2]
    cases hw : itemW f.op f.name with
    | nil => exact absurd hw w1
    | cons c r =>
      rw [hw] at w3
      simp only [hdI] at w3
      exact ⟨c, _, rfl, Or.inl ⟨h1, h2, by omega⟩⟩
  · obtain ⟨c, r, e, hc⟩ := un_head h3
    rw [tl_one full h1, ahead_list h3, e]
    refine ⟨c, _, rfl, Or.inr ⟨g, h1, h2, h3, h4, ?_⟩⟩
    rcases hc with rfl | rfl | rfl | rfl | rfl | rfl <;> decide
  · rw [str_two h1] at hs
    have := bin_str h3
    omega
theorem cons_first {c d : UInt8} {r r' u v : List UInt8} (h : (c :: r) ++ u = (d :: r') ++ v) : c = d := (List.cons.inj h).1
theorem read_all (full : Bool) : ∀ (N : Nat), (∀ (f g : Fm) (u v : List UInt8), f.wt ≤ N → f.sh true = true → g.sh true = true → En u → En v → f.tl full ++ u = g.tl full ++ v → f = g ∧ u = v) ∧
    (∀ (f g : Fm) (u v : List UInt8), f.wt ≤ N → f.sh true = true → g.sh true = true → St u → St v → f.un full ++ u = g.un full ++ v → f = g ∧ u = v)
  | 0 => ⟨fun f _ _ _ h => by have := f.wt_pos; omega, fun f _ _ _ h => by have := f.wt_pos; omega⟩
  | N + 1 => by
    obtain ⟨ihP, ihU⟩ := read_all full N
    have U6 : ∀ (f g : Fm) (u v : List UInt8), f.wt ≤ N + 1 → f.str = 6 → f.sh true = true → g.sh true = true → St u → St v → f.un full ++ u = g.un full ++ v → f = g ∧ u = v := by
      intro f g u v hN hs hf hg hu hv h
      obtain ⟨e1, c, r, e2, hc⟩ := un_first full hf hs
      rw [e1] at h
      have gle := str_le hg
      by_cases gs : g.str < 6
      · exfalso
        rw [show g.un full = 40 :: (g.tl full ++ [41]) by unfold Fm.un; rw [if_pos gs], e2] at h
        obtain rfl := cons_first h
        rcases hc with ⟨-, -, hc⟩ | ⟨_, -, -, -, -, hc⟩ <;> simp at hc
      obtain ⟨e3, d, r', e4, hd⟩ := un_first full hg (by omega)
      rw [e3] at h
      have hcd : c = d := by rw [e2, e4] at h; exact cons_first h
      subst hcd
      rcases hc with ⟨f1, f2, hc⟩ | ⟨a, f1, f2, f3, f4, hc⟩ <;> rcases hd with ⟨g1, g2, hd⟩ | ⟨b, g1, g2, g3, g4, hd⟩
      · rw [tl_item full f1 f2, tl_item full g1 g2, List.append_assoc, List.append_assoc] at h
        obtain ⟨x1, x2, x3, x4⟩ := item_read [32] f2 g2 hu hv h
        exact ⟨Fm.ext' x1 x2 x3 (f1.trans g1.symm), x4⟩
      · exfalso; omega
      · exfalso; omega
      · rw [tl_one full f1, tl_one full g1, ahead_list f3, ahead_list g3, List.append_assoc, List.append_assoc] at h
        obtain ⟨x1, x2, x3⟩ := ahead_read f3 g3 h
        have wa : a.wt < f.wt := wt_sub (by rw [f1]; simp)
        obtain ⟨rfl, x4⟩ := ihU a b u v (by omega) f4 g4 hu hv x3
        exact ⟨Fm.ext' x1 x2 (f2.trans g2.symm) (f1.trans g1.symm), x4⟩
    have P : ∀ (f g : Fm) (u v : List UInt8), f.wt ≤ N + 1 → f.sh true = true → g.sh true = true → En u → En v → f.tl full ++ u = g.tl full ++ v → f = g ∧ u = v := by
      intro f g u v hN hf hg hu hv h
      have pf := flatP full hf
      have pg := flatP full hg
      rw [pf.text, pg.text, List.append_assoc, List.append_assoc] at h
      have hU : ∀ x : Fm, (x.sh true = true ∧ (x.wt ≤ N ∨ (x.str = 6 ∧ x.wt ≤ N + 1))) → ∀ x' u v, x'.sh true = true → St u → St v → x.un full ++ u = x'.un full ++ v → x = x' ∧ u = v := by
        rintro x ⟨x1, x2 | ⟨x2, x3⟩⟩ x' u v hx' hu hv h
        · exact ihU x x' u v x2 x1 hx' hu hv h
        · exact U6 x x' u v x3 x2 x1 hx' hu hv h
      have small : ∀ x : Fm, x.sh true = true → x.wt ≤ f.wt → (x.str < 6 → x.wt < f.wt) → x.sh true = true ∧ (x.wt ≤ N ∨ (x.str = 6 ∧ x.wt ≤ N + 1)) := fun x x1 x2 x3 => by
        refine ⟨x1, ?_⟩
        have := str_le x1
        by_cases hx : x.str < 6
        · exact Or.inl (by have := x3 hx; omega)
        · exact Or.inr ⟨by omega, by omega⟩
      obtain ⟨e1, h⟩ := hU _ (small _ pf.head.1 pf.head.2.1 pf.head.2.2) _ _ _ pg.head.1 (seq_st full _ hu) (seq_st full _ hv) h
      obtain ⟨e2, h⟩ := seq_read full _ hU _ _ u v (fun p hp => by have := pf.rest p hp; exact ⟨small _ this.2.2.1 this.2.2.2.1 this.2.2.2.2, this.1⟩) (fun p hp => by have := pg.rest p hp; exact ⟨this.2.2.1, this.1⟩) hu hv h
      exact ⟨flat_inj full _ f g (Nat.le_refl _) hf hg (Prod.ext e1 e2), h⟩
    refine ⟨P, ?_⟩
    intro f g u v hN hf hg hu hv h
    have fle := str_le hf
    have gle := str_le hg
    by_cases fs : f.str < 6
    · by_cases gs : g.str < 6
      · simp only [Fm.un, if_pos fs, if_pos gs, List.cons_append, List.append_assoc, List.nil_append, List.cons.injEq, true_and] at h
        obtain ⟨rfl, e⟩ := P f g (41 :: u) (41 :: v) hN hf hg (en_cons (Or.inl rfl)) (en_cons (Or.inl rfl)) h
        exact ⟨rfl, (List.cons.inj e).2⟩
      · exfalso
        obtain ⟨e1, c, r, e2, hc⟩ := un_first full hg (by omega)
        rw [e1, show f.un full = 40 :: (f.tl full ++ [41]) by unfold Fm.un; rw [if_pos fs], e2] at h
        obtain rfl := cons_first h
        rcases hc with ⟨-, -, hc⟩ | ⟨_, -, -, -, -, hc⟩ <;> simp at hc
    · exact U6 f g u v hN (by omega) hf hg hu hv h

/-- Different formulas have different texts. -/
theorem tx_inj (full : Bool) {f g : Fm} (hf : f.sh true = true) (hg : g.sh true = true) (h : f.tx full = g.tx full) : f = g :=
  ((read_all full _).1 f g [] [] (Nat.le_refl _) hf hg en_nil en_nil (by unfold Fm.tl; rw [h])).1
theorem un_ne (full : Bool) : ∀ (N : Nat) (f : Fm), f.wt ≤ N → f.sh true = true → f.tl full ≠ []
  | 0, f, h, _ => by have := f.wt_pos; omega
  | N + 1, f, hN, h => by
    by_cases hs : f.str = 6
    · obtain ⟨-, c, r, e, -⟩ := un_first full h hs
      rw [e]; simp
    · have p := flatP full h
      rcases sh_view h with ⟨h1, h2⟩ | ⟨g, h1, h2, h3, h4⟩ | ⟨l, r, h1, -, h3, -⟩
      · exact absurd (str_nil h1) hs
      · exact absurd (str_one h1 h3) hs
      · rw [tl_two full h1 h3]; simp
theorem tx_ne (full : Bool) {f : Fm} (h : f.sh true = true) : f.tx full ≠ ⟨#[]⟩ := fun e => un_ne full _ f (Nat.le_refl _) h (by unfold Fm.tl; rw [e])

end Go.Proofs.Ytollifednpjkeaa
