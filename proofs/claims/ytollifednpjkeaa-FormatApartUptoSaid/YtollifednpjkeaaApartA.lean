import Derived.Test.YtollifednpjkeaaTextE
/-
  Texts tell formulas apart: words, terms, formulas without parts.
-/
namespace Go.Proofs.Ytollifednpjkeaa
open Go.RowKit

/-- The bytes that names and words are made of. -/
def wch (c : UInt8) : Bool := c == 63 || isAlnum c
/-- What may follow a part of a text: nothing, a blank, a bracket that closes, a comma. -/
def St (u : List UInt8) : Prop := ∀ c r, u = c :: r → c = 32 ∨ c = 41 ∨ c = 44
/-- What begins with no byte of a word. -/
def Ends (u : List UInt8) : Prop := ∀ c r, u = c :: r → wch c = false
theorem St.ends {u : List UInt8} (h : St u) : Ends u := fun c r e => by rcases h c r e with rfl | rfl | rfl <;> decide
theorem ends_cons {c : UInt8} {r : List UInt8} (h : wch c = false) : Ends (c :: r) := fun _ _ e => by cases e; exact h
theorem st_cons {c : UInt8} {r : List UInt8} (h : c = 32 ∨ c = 41 ∨ c = 44) : St (c :: r) := fun _ _ e => by cases e; exact h
theorem st_nil : St [] := fun _ _ e => by cases e
theorem run_read : ∀ {n m u v : List UInt8}, (∀ c ∈ n, wch c = true) → (∀ c ∈ m, wch c = true) → Ends u → Ends v → n ++ u = m ++ v → n = m ∧ u = v
  | [], [], _, _, _, _, _, _, h => ⟨rfl, h⟩
  | [], c :: m, u, v, _, hm, hu, _, h => by
    have h1 := hu c (m ++ v) (by simpa using h)
    have h2 := hm c (by simp)
    rw [h1] at h2; cases h2
  | c :: n, [], u, v, hn, _, _, hv, h => by
    have h1 := hv c (n ++ u) (by simpa using h.symm)
    have h2 := hn c (by simp)
    rw [h1] at h2; cases h2
  | c :: n, d :: m, u, v, hn, hm, hu, hv, h => by
    simp only [List.cons_append, List.cons.injEq] at h
    obtain ⟨rfl, h⟩ := h
    obtain ⟨rfl, e⟩ := run_read (fun x hx => hn x (List.mem_cons_of_mem _ hx)) (fun x hx => hm x (List.mem_cons_of_mem _ hx)) hu hv h
    exact ⟨rfl, e⟩
theorem bs_ext {a b : ByteArray} (h : a.data.toList = b.data.toList) : a = b := ByteArray.ext (Array.toList_inj.1 h)

/-- The first byte. -/
def hdI (l : List UInt8) : Int := match l with | [] => 0 | c :: _ => (c.toNat : Int)
structure IsW (s : ByteArray) : Prop where
  ne : s.data.toList ≠ []
  all : ∀ c ∈ s.data.toList, wch c = true
theorem nameB_w {f p : Int → Bool} {s : ByteArray} (hf : ∀ n, f n = true → alnumI n = true) (hp : ∀ n, p n = true → alnumI n = true) (h : nameB f p s = true) : IsW s ∧ f (hdI s.data.toList) = true := by
  unfold nameB at h
  split at h
  · cases h
  · rename_i c r e
    simp only [Bool.and_eq_true] at h
    obtain ⟨⟨⟨h1, h2⟩, h3⟩, h4⟩ := h
    have al : ∀ d : UInt8, alnumI (d.toNat : Int) = true → wch d = true := fun d hd => by
      unfold wch isAlnum alphaI
      unfold alnumI at hd
      rw [hd]; simp
    refine ⟨⟨by rw [e]; simp, fun d hd => ?_⟩, by rw [e]; exact h2⟩
    rw [e] at hd
    rcases List.mem_cons.1 hd with rfl | hd
    · exact al _ (hf _ h2)
    · exact al _ (hp _ (List.all_eq_true.1 h4 d hd))
theorem varI_al (n : Int) (h : varI n = true) : alnumI n = true := by simp only [varI, alnumI, smallI, capitalI, digitI, Bool.and_eq_true, Bool.or_eq_true, decide_eq_true_eq] at h ⊢; omega
theorem funI_al (n : Int) (h : funI n = true) : alnumI n = true := by simp only [funI, alnumI, smallI, capitalI, digitI, Bool.and_eq_true, Bool.or_eq_true, decide_eq_true_eq] at h ⊢; omega
theorem capI_al (n : Int) (h : capitalI n = true) : alnumI n = true := by simp only [alnumI, smallI, capitalI, digitI, Bool.and_eq_true, Bool.or_eq_true, decide_eq_true_eq] at h ⊢; omega
theorem digI_al (n : Int) (h : digitI n = true) : alnumI n = true := by simp only [alnumI, smallI, capitalI, digitI, Bool.and_eq_true, Bool.or_eq_true, decide_eq_true_eq] at h ⊢; omega
theorem isVar_w {s : ByteArray} (h : isVar s = true) : IsW s ∧ 117 ≤ hdI s.data.toList ∧ hdI s.data.toList ≤ 122 := by
  obtain ⟨h1, h2⟩ := nameB_w varI_al digI_al h
  exact ⟨h1, by simpa [varI] using h2⟩
theorem isFun_w {s : ByteArray} (h : isFun s = true) : IsW s ∧ 97 ≤ hdI s.data.toList ∧ hdI s.data.toList ≤ 116 := by
  obtain ⟨h1, h2⟩ := nameB_w funI_al (fun _ h => h) h
  exact ⟨h1, by simpa [funI] using h2⟩
theorem isPred_w {s : ByteArray} (h : isPred s = true) : IsW s ∧ 65 ≤ hdI s.data.toList ∧ hdI s.data.toList ≤ 90 := by
  obtain ⟨h1, h2⟩ := nameB_w capI_al (fun _ h => h) h
  exact ⟨h1, by simpa [capitalI] using h2⟩
theorem metaB_w {p : ByteArray → Bool} {s : ByteArray} (hp : ∀ s, p s = true → IsW s) (h : metaB p s = true) : IsW s ∧ hdI s.data.toList = 63 := by
  unfold metaB at h
  simp only [Bool.and_eq_true, decide_eq_true_eq] at h
  obtain ⟨⟨⟨h1, h2⟩, h3⟩, h4⟩ := h
  obtain ⟨r, e, e2, -⟩ := bs_cons (s := s) (by omega)
  have h5 := hp _ h4
  rw [e] at h3
  have h6 : s[0] = 63 := by simpa using h3
  refine ⟨⟨by rw [e]; simp, fun c hc => ?_⟩, by rw [e]; show ((s[0].toNat : Nat) : Int) = 63; rw [h6]; rfl⟩
  rw [e] at hc
  rcases List.mem_cons.1 hc with rfl | hc
  · rw [h6]; decide
  · exact h5.all c (by rw [← e2]; exact hc)
theorem isMetaT_w {s : ByteArray} (h : isMetaT s = true) : IsW s ∧ hdI s.data.toList = 63 := metaB_w (fun _ h => (isFun_w h).1) h
theorem isMetaF_w {s : ByteArray} (h : isMetaF s = true) : IsW s ∧ hdI s.data.toList = 63 := metaB_w (fun _ h => (isPred_w h).1) h

/-! ## Terms -/
mutual
/-- The text of a term, arguments parted by a comma and e. -/
def Tm.tl (e : List UInt8) : Tm → List UInt8
  | .mk _ n a => n.data.toList ++ argsTl e a
def argsTl (e : List UInt8) : List Tm → List UInt8
  | [] => []
  | t :: r => 40 :: (t.tl e ++ restTl e r)
def restTl (e : List UInt8) : List Tm → List UInt8
  | [] => [41]
  | t :: r => 44 :: (e ++ (t.tl e ++ restTl e r))
end
mutual
theorem Tm.tl_tx (sep : ByteArray) (e : List UInt8) (he : sep.data.toList = 44 :: e) : ∀ t : Tm, (t.tx sep).data.toList = t.tl e
  | .mk b n a => by
    have h := args_tx sep e he a
    simp only [Tm.tx, Tm.tl]
    cases a with
    | nil => simp [argsTl]
    | cons t r => rw [← h]; simp
theorem args_tx (sep : ByteArray) (e : List UInt8) (he : sep.data.toList = 44 :: e) : ∀ a : List Tm, (if a.isEmpty then [] else 40 :: ((joinS sep (txs sep a)).data.toList ++ [41])) = argsTl e a
  | [] => rfl
  | t :: r => by
    have h1 := Tm.tl_tx sep e he t
    have h2 := rest_tx sep e he r
    simp only [argsTl, joinS, txs, List.map_cons, Lib.join_cons, h1, ← h2]
    simp
theorem rest_tx (sep : ByteArray) (e : List UInt8) (he : sep.data.toList = 44 :: e) : ∀ r : List Tm, Lib.joinTail sep.data.toList ((txs sep r).map (·.data.toList)) ++ [41] = restTl e r
  | [] => rfl
  | t :: r => by
    have h1 := Tm.tl_tx sep e he t
    have h2 := rest_tx sep e he r
    simp only [restTl, txs, List.map_cons, h1, ← h2, Lib.joinTail, he]
    simp
end
theorem termTx_tl (sep : ByteArray) (e : List UInt8) (he : sep.data.toList = 44 :: e) (n : ByteArray) (a : List Tm) : (termTx sep n a).data.toList = n.data.toList ++ argsTl e a := by
  rw [← args_tx sep e he a, txs_map]
  unfold termTx
  cases a <;> simp
theorem rest_st (e : List UInt8) (l : List Tm) (u : List UInt8) : St (restTl e l ++ u) := by
  cases l with
  | nil => exact st_cons (Or.inr (Or.inl rfl))
  | cons t r => exact st_cons (Or.inr (Or.inr rfl))
theorem args_ends (e : List UInt8) (a : List Tm) {u : List UInt8} (hu : St u) : Ends (argsTl e a ++ u) := by
  cases a with
  | nil => exact hu.ends
  | cons t r => exact ends_cons (by decide)
theorem Tm.ok_word {t : Tm} (h : t.ok true = true) : IsW t.name ∧ allOk true t.args = true ∧ (t.v = true → (117 ≤ hdI t.name.data.toList ∧ hdI t.name.data.toList ≤ 122) ∨ hdI t.name.data.toList = 63) ∧ (t.v = false → 97 ≤ hdI t.name.data.toList ∧ hdI t.name.data.toList ≤ 116) := by
  rw [Tm.ok_eq] at h
  cases hv : t.v
  · rw [hv] at h
    simp only [cond_false, Bool.and_eq_true] at h
    have := isFun_w h.1
    exact ⟨this.1, h.2.2, fun h => (by cases h), fun _ => this.2⟩
  · rw [hv] at h
    simp only [cond_true, Bool.and_eq_true, Bool.or_eq_true, Bool.true_and] at h
    obtain ⟨h1, h2⟩ := h
    have ha : t.args = [] := by simpa using h1
    rcases h2 with h2 | h2
    · have := isVar_w h2
      exact ⟨this.1, by rw [ha]; rfl, fun _ => Or.inl this.2, fun h => by cases h⟩
    · have := isMetaT_w h2
      exact ⟨this.1, by rw [ha]; rfl, fun _ => Or.inr this.2, fun h => by cases h⟩
mutual
theorem tm_read (e : List UInt8) : ∀ (t t' : Tm) (u v : List UInt8), t.ok true = true → t'.ok true = true → St u → St v → t.tl e ++ u = t'.tl e ++ v → t = t' ∧ u = v
  | .mk b n a, .mk b' n' a', u, v, h, h', hu, hv, heq => by
    obtain ⟨w1, o1, x1, y1⟩ := Tm.ok_word h
    obtain ⟨w2, o2, x2, y2⟩ := Tm.ok_word h'
    simp only [Tm.v, Tm.name, Tm.args] at w1 o1 x1 y1 w2 o2 x2 y2
    simp only [Tm.tl, List.append_assoc] at heq
    obtain ⟨e1, e2⟩ := run_read w1.all w2.all (args_ends e a hu) (args_ends e a' hv) heq
    obtain rfl := bs_ext e1
    obtain ⟨rfl, e3⟩ := args_read e a a' u v o1 o2 hu hv e2
    have : b = b' := by
      cases b <;> cases b'
      · rfl
      · have p := y1 rfl
        have q := x2 rfl
        omega
      · have p := y2 rfl
        have q := x1 rfl
        omega
      · rfl
    exact ⟨by rw [this], e3⟩
theorem args_read (e : List UInt8) : ∀ (a a' : List Tm) (u v : List UInt8), allOk true a = true → allOk true a' = true → St u → St v → argsTl e a ++ u = argsTl e a' ++ v → a = a' ∧ u = v
  | [], [], _, _, _, _, _, _, heq => ⟨rfl, heq⟩
  | [], t :: r, u, v, _, _, hu, _, heq => by
    have := hu 40 _ (by simpa [argsTl] using heq)
    rcases this with h | h | h <;> cases h
  | t :: r, [], u, v, _, _, _, hv, heq => by
    have := hv 40 _ (by simpa [argsTl] using heq.symm)
    rcases this with h | h | h <;> cases h
  | t :: r, t' :: r', u, v, h, h', _, _, heq => by
    simp only [allOk, Bool.and_eq_true] at h h'
    simp only [argsTl, List.cons_append, List.append_assoc, List.cons.injEq, true_and] at heq
    obtain ⟨rfl, e1⟩ := tm_read e t t' _ _ h.1 h'.1 (rest_st e r u) (rest_st e r' v) heq
    obtain ⟨rfl, e2⟩ := rest_read e r r' u v h.2 h'.2 e1
    exact ⟨rfl, e2⟩
theorem rest_read (e : List UInt8) : ∀ (a a' : List Tm) (u v : List UInt8), allOk true a = true → allOk true a' = true → restTl e a ++ u = restTl e a' ++ v → a = a' ∧ u = v
  | [], [], _, _, _, _, heq => ⟨rfl, by simpa [restTl] using heq⟩
  | [], t :: r, u, v, _, _, heq => by simp [restTl] at heq
  | t :: r, [], u, v, _, _, heq => by simp [restTl] at heq
  | t :: r, t' :: r', u, v, h, h', heq => by
    simp only [allOk, Bool.and_eq_true] at h h'
    simp only [restTl, List.cons_append, List.append_assoc, List.cons.injEq, true_and, List.append_cancel_left_eq] at heq
    obtain ⟨rfl, e1⟩ := tm_read e t t' _ _ h.1 h'.1 (rest_st e r u) (rest_st e r' v) heq
    obtain ⟨rfl, e2⟩ := rest_read e r r' u v h.2 h'.2 e1
    exact ⟨rfl, e2⟩
end

/-! ## Formulas without parts -/
def instTl : List Tm → List UInt8
  | x :: y :: _ => 91 :: (y.name.data.toList ++ 47 :: (x.name.data.toList ++ [93]))
  | _ => []
def itemW (o : Int) (n : ByteArray) : List UInt8 := if o = 2 then wFalse.data.toList else n.data.toList
def itemT (e : List UInt8) (o : Int) (a : List Tm) : List UInt8 := if o = 2 then [] else if o = 16 then instTl a else argsTl e a
def ItemOk (o : Int) (n : ByteArray) (a : List Tm) : Prop :=
  (o = 2 ∧ n.data.toList = [] ∧ a = []) ∨ (o = 1 ∧ isPred n = true ∧ allOk true a = true) ∨ (o = 15 ∧ isMetaF n = true ∧ a = []) ∨ (o = 16 ∧ isMetaF n = true ∧ instOk a = true)
theorem inst_parts {a : List Tm} (h : instOk a = true) : ∃ xn yn : ByteArray, a = [.mk true xn [], .mk true yn []] ∧ isVar xn = true ∧ isMetaT yn = true := by
  match a, h with
  | [.mk b n l, .mk b' n' l'], h =>
    simp only [instOk, Bool.and_eq_true, Tm.v, Tm.name, Tm.args] at h
    obtain ⟨h1, rfl, rfl, h4, h5⟩ := h
    rw [Tm.ok_eq] at h1
    simp only [Tm.v, Tm.name, Tm.args, cond_true, Bool.and_eq_true, Bool.false_and, Bool.or_false] at h1
    obtain rfl : l = [] := by simpa using h1.1
    obtain rfl : l' = [] := by simpa using h5
    exact ⟨n, n', rfl, h1.2, h4⟩
theorem simple_tl (sep : ByteArray) (e : List UInt8) (he : sep.data.toList = 44 :: e) {o : Int} {n : ByteArray} {a : List Tm} (h : ItemOk o n a) : (simpleTx sep o n a).data.toList = itemW o n ++ itemT e o a := by
  unfold simpleTx itemW itemT
  rcases h with ⟨rfl, -, -⟩ | ⟨rfl, -, -⟩ | ⟨rfl, -, -⟩ | ⟨rfl, -, h⟩
  · simp
  · exact termTx_tl sep e he n a
  · exact termTx_tl sep e he n a
  · obtain ⟨xn, yn, rfl, -, -⟩ := inst_parts h
    simp [instTx, instTl]
theorem itemT_ends (e : List UInt8) (o : Int) (a : List Tm) {u : List UInt8} (hu : St u) : Ends (itemT e o a ++ u) := by
  unfold itemT
  split
  · exact hu.ends
  · split
    · match a with
      | [] => exact hu.ends
      | [_] => exact hu.ends
      | x :: y :: r => exact ends_cons (by decide)
    · exact args_ends e a hu
theorem itemW_w {o : Int} {n : ByteArray} {a : List Tm} (h : ItemOk o n a) : itemW o n ≠ [] ∧ (∀ c ∈ itemW o n, wch c = true) ∧
    ((o = 2 ∧ hdI (itemW o n) = 102) ∨ (o = 1 ∧ 65 ≤ hdI (itemW o n) ∧ hdI (itemW o n) ≤ 90) ∨ ((o = 15 ∨ o = 16) ∧ hdI (itemW o n) = 63)) := by
  unfold itemW
  rcases h with ⟨rfl, -, -⟩ | ⟨rfl, h, -⟩ | ⟨rfl, h, -⟩ | ⟨rfl, h, -⟩
  · rw [if_pos rfl]; exact ⟨by decide, by decide, Or.inl ⟨rfl, rfl⟩⟩
  · have := isPred_w h
    exact ⟨this.1.ne, this.1.all, Or.inr (Or.inl ⟨rfl, this.2⟩)⟩
  · have := isMetaF_w h
    exact ⟨this.1.ne, this.1.all, Or.inr (Or.inr ⟨Or.inl rfl, this.2⟩)⟩
  · have := isMetaF_w h
    exact ⟨this.1.ne, this.1.all, Or.inr (Or.inr ⟨Or.inr rfl, this.2⟩)⟩
theorem inst_read {a a' : List Tm} {u v : List UInt8} (h : instOk a = true) (h' : instOk a' = true) (heq : instTl a ++ u = instTl a' ++ v) : a = a' ∧ u = v := by
  obtain ⟨xn, yn, rfl, hx, hy⟩ := inst_parts h
  obtain ⟨xm, ym, rfl, hx', hy'⟩ := inst_parts h'
  simp only [instTl, Tm.name, List.cons_append, List.append_assoc, List.cons.injEq, true_and] at heq
  obtain ⟨e1, e2⟩ := run_read (isMetaT_w hy).1.all (isMetaT_w hy').1.all (ends_cons (by decide)) (ends_cons (by decide)) heq
  simp only [List.cons.injEq, true_and] at e2
  obtain ⟨e3, e4⟩ := run_read (isVar_w hx).1.all (isVar_w hx').1.all (ends_cons (by decide)) (ends_cons (by decide)) e2
  obtain rfl := bs_ext e1
  obtain rfl := bs_ext e3
  exact ⟨rfl, by simpa using e4⟩
theorem inst_clash {a : List Tm} {u v : List UInt8} (h : instOk a = true) (hv : St v) (heq : instTl a ++ u = v) : False := by
  obtain ⟨xn, yn, rfl, hx, hy⟩ := inst_parts h
  simp only [instTl, List.cons_append] at heq
  rcases hv _ _ heq.symm with h | h | h <;> cases h
theorem item_read (e : List UInt8) {o o' : Int} {n n' : ByteArray} {a a' : List Tm} {u v : List UInt8} (h : ItemOk o n a) (h' : ItemOk o' n' a') (hu : St u) (hv : St v)
    (heq : itemW o n ++ (itemT e o a ++ u) = itemW o' n' ++ (itemT e o' a' ++ v)) : o = o' ∧ n = n' ∧ a = a' ∧ u = v := by
  obtain ⟨n1, w1, c1⟩ := itemW_w h
  obtain ⟨n2, w2, c2⟩ := itemW_w h'
  obtain ⟨e1, e2⟩ := run_read w1 w2 (itemT_ends e o a hu) (itemT_ends e o' a' hv) heq
  rw [e1] at c1
  rcases h with ⟨rfl, z1, rfl⟩ | ⟨rfl, p1, q1⟩ | ⟨rfl, p1, rfl⟩ | ⟨rfl, p1, q1⟩ <;> rcases h' with ⟨rfl, z2, rfl⟩ | ⟨rfl, p2, q2⟩ | ⟨rfl, p2, rfl⟩ | ⟨rfl, p2, q2⟩
  all_goals try (exfalso; omega)
  · exact ⟨rfl, bs_ext (z1.trans z2.symm), rfl, by simpa [itemT] using e2⟩
  · obtain ⟨rfl, e3⟩ := args_read e a a' u v q1 q2 hu hv (by simpa [itemT] using e2)
    exact ⟨rfl, bs_ext (by simpa [itemW] using e1), rfl, e3⟩
  · exact ⟨rfl, bs_ext (by simpa [itemW] using e1), rfl, by simpa [itemT, argsTl] using e2⟩
  · exact (inst_clash q2 hu (by simpa [itemT, argsTl] using e2.symm)).elim
  · exact (inst_clash q1 hv (by simpa [itemT, argsTl] using e2)).elim
  · obtain ⟨rfl, e3⟩ := inst_read q1 q2 (by simpa [itemT] using e2)
    exact ⟨rfl, bs_ext (by simpa [itemW] using e1), rfl, e3⟩

end Go.Proofs.Ytollifednpjkeaa
