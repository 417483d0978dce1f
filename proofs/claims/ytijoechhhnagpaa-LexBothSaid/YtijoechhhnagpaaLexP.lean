import Derived.Test.YtijoechhhnagpaaPlain
import Derived.Lib.Join
namespace Go.Proofs.Ytijoechhhnagpaa

theorem signLen_some {l : List UInt8} {n : Nat} (h : signLen l = some n) : 1 ≤ n ∧ n ≤ l.length := by
  unfold signLen at h
  obtain ⟨g, hg, rfl⟩ := Option.map_eq_some_iff.1 h
  have hm := List.mem_of_find?_eq_some hg
  have hp := List.find?_some hg
  unfold startsWith at hp
  have hl := (List.isPrefixOf_iff_prefix.1 hp).length_le
  have h1 : 1 ≤ g.size := by
    simp only [signsL, List.mem_cons, List.not_mem_nil, or_false] at hm
    rcases hm with rfl | rfl | rfl | rfl | rfl | rfl | rfl | rfl | rfl | rfl | rfl | rfl | rfl <;> decide
  simp at hl
  exact ⟨h1, hl⟩
theorem tokAt_len {s : ByteArray} {j : Nat} (h : j < s.size) (he : (tokAt s j).2.2 = 0) : 1 ≤ (tokAt s j).2.1 ∧ j + (tokAt s j).2.1 ≤ s.size := by
  have hr := runFrom_le s (j + 1) (by omega)
  unfold tokAt at *
  rw [drop_get h] at *
  dsimp only at *
  split at he
  · rename_i ha
    rw [if_pos ha]
    unfold nameAt at *
    split at he
    · rename_i h1; rw [if_pos h1]; dsimp only; omega
    · rename_i h1; rw [if_neg h1]
      split at he
      · rename_i h2; rw [if_pos h2]; dsimp only; omega
      · exact absurd he (by decide)
  · rename_i ha
    rw [if_neg ha]
    split at he
    · rename_i hq
      rw [if_pos hq]
      unfold metaAt at *
      split at he
      · rename_i h1; rw [if_pos h1]; dsimp only; omega
      · exact absurd he (by decide)
    · rename_i hq
      rw [if_neg hq]
      unfold signAt at *
      cases hs : signLen (s[j] :: s.data.toList.drop (j + 1)) with
      | none => rw [hs] at he; exact absurd he (by decide)
      | some n =>
        obtain ⟨h1, h2⟩ := signLen_some hs
        dsimp only
        simp at h2
        omega

/-! ## The lexer on lists -/
def runL (l : List UInt8) : Nat := (l.takeWhile isAlnum).length
def textOf (l : List UInt8) : ByteArray := ⟨l.toArray⟩
theorem textOf_list (l : List UInt8) : (textOf l).data.toList = l := by simp [textOf]
theorem textOf_size (l : List UInt8) : (textOf l).size = l.length := by simp [textOf, ByteArray.size]
/-- What a list of bytes begins with. -/
def tokL : List UInt8 → Int × Nat × Int
  | [] => (0, 0, 40)
  | c :: r =>
    if alphaI (c.toNat : Int) then
      (if isWord (textOf ((c :: r).take (1 + runL r))) then (3, 1 + runL r, 0) else if isName (textOf ((c :: r).take (1 + runL r))) then (1, 1 + runL r, 0) else (0, 0, 41))
    else if (c.toNat : Int) == 63 then (if isMeta (textOf ((c :: r).take (1 + runL r))) then (2, 1 + runL r, 0) else (0, 0, 41))
    else signAt (c :: r)
theorem extract_textOf (s : ByteArray) (i n : Nat) : s.extract i (i + n) = textOf ((s.data.toList.drop i).take n) := by
  have h : (s.extract i (i + n)).data = ((s.data.toList.drop i).take n).toArray := by
    apply Array.toList_inj.1
    simp only [ByteArray.data_extract, Array.toList_extract, List.extract_eq_take_drop]
    congr 1; omega
  exact ByteArray.ext h
theorem tokAt_eq (s : ByteArray) (i : Nat) : tokAt s i = tokL (s.data.toList.drop i) := by
  unfold tokAt tokL
  cases h : s.data.toList.drop i with
  | nil => rfl
  | cons c r =>
    have hr : runFrom s (i + 1) = runL r := by
      unfold runFrom runLen runL
      rw [← List.tail_drop, h]; rfl
    dsimp only
    unfold nameAt metaAt
    simp only [extract_textOf, hr, h]

/-- The tokens of a list of bytes that stands at place i. -/
inductive LexOk : List UInt8 → Nat → List Tok → Prop
  | done (b : List UInt8) (i : Nat) (hb : ∀ c ∈ b, isBlank c = true) : LexOk b i [⟨5, ByteArray.empty, i + b.length⟩]
  | more (b x r : List UInt8) (i : Nat) (k : Int) (ts : List Tok) (hb : ∀ c ∈ b, isBlank c = true) (hx : 1 ≤ x.length) (ht : tokL (x ++ r) = (k, x.length, 0)) (h : LexOk r (i + b.length + x.length) ts) :
      LexOk (b ++ x ++ r) i (⟨k, textOf x, i + b.length⟩ :: ts)
/-- An error e at place p. -/
inductive LexBad : List UInt8 → Nat → Nat → Int → Prop
  | here (b r : List UInt8) (i : Nat) (hb : ∀ c ∈ b, isBlank c = true) (hr : r ≠ []) (hn : ∀ c, r.head? = some c → isBlank c = false) (e : Int) (he : e ≠ 0) (ht : (tokL r).2.2 = e) : LexBad (b ++ r) i (i + b.length) e
  | more (b x r : List UInt8) (i p : Nat) (k e : Int) (hb : ∀ c ∈ b, isBlank c = true) (hx : 1 ≤ x.length) (ht : tokL (x ++ r) = (k, x.length, 0)) (h : LexBad r (i + b.length + x.length) p e) :
      LexBad (b ++ x ++ r) i p e

theorem blank_not (c : UInt8) (h : isBlank c = true) : alphaI (c.toNat : Int) = false ∧ ((c.toNat : Int) == 63) = false ∧ isAlnum c = false := by
  unfold isBlank at h
  simp only [Bool.or_eq_true, beq_iff_eq] at h
  rcases h with ((rfl | rfl) | rfl) | rfl <;> decide
theorem tokL_blank (c : UInt8) (r : List UInt8) (h : isBlank c = true) : (tokL (c :: r)).2.2 ≠ 0 := by
  obtain ⟨h1, h2, _⟩ := blank_not c h
  unfold tokL
  simp only [h1, h2, Bool.false_eq_true, if_false]
  have : signLen (c :: r) = none := by
    unfold signLen
    rw [Option.map_eq_none_iff, List.find?_eq_none]
    intro g hg hp
    unfold isBlank at h
    simp only [Bool.or_eq_true, beq_iff_eq] at h
    simp only [signsL, List.mem_cons, List.not_mem_nil, or_false] at hg
    rcases hg with rfl | rfl | rfl | rfl | rfl | rfl | rfl | rfl | rfl | rfl | rfl | rfl | rfl <;>
      (simp [startsWith, List.isPrefixOf] at hp; rcases h with ((rfl | rfl) | rfl) | rfl <;> simp at hp)
  unfold signAt
  rw [this]
  decide

/-- What may stand behind a token in the place of r: a beginning of r, or such a one and a blank. -/
def Behind (r r' : List UInt8) : Prop := r' <+: r ∨ ∃ r0 c t, r0 <+: r ∧ r' = r0 ++ c :: t ∧ isBlank c = true
theorem Behind.blank (r t : List UInt8) {c : UInt8} (h : isBlank c = true) : Behind r (c :: t) := .inr ⟨[], c, t, List.nil_prefix, rfl, h⟩

theorem runL_app {t r : List UInt8} (h : runL (t ++ r) = t.length) : (∀ c ∈ t, isAlnum c = true) ∧ runL r = 0 := by
  induction t with
  | nil => exact ⟨fun _ h => absurd h (List.not_mem_nil), by simpa using h⟩
  | cons c t ih =>
    unfold runL at h ih ⊢
    rw [List.cons_append, List.takeWhile_cons] at h
    cases hc : isAlnum c
    · rw [hc] at h; simp at h
    · rw [hc] at h
      simp only [if_true, List.length_cons, Nat.add_right_cancel_iff] at h
      obtain ⟨h1, h2⟩ := ih h
      refine ⟨fun x hx => ?_, h2⟩
      rcases List.mem_cons.1 hx with rfl | hx
      · exact hc
      · exact h1 x hx
theorem runL_all {t r : List UInt8} (h : ∀ c ∈ t, isAlnum c = true) : runL (t ++ r) = t.length + runL r := by
  unfold runL
  rw [List.takeWhile_append_of_pos h, List.length_append]
theorem runL_behind {r r' : List UInt8} (h : runL r = 0) (hb : Behind r r') : runL r' = 0 := by
  have key : ∀ r0 : List UInt8, r0 <+: r → ∀ q, (∀ d u, q = d :: u → isAlnum d = false) → runL (r0 ++ q) = 0 := fun r0 hp q hq => by
    cases r0 with
    | nil =>
      cases q with
      | nil => rfl
      | cons d u => unfold runL; rw [List.nil_append, List.takeWhile_cons, hq d u rfl]; rfl
    | cons c t =>
      obtain ⟨q, rfl⟩ := hp
      unfold runL at *
      rw [List.cons_append, List.takeWhile_cons] at h
      rw [List.cons_append, List.takeWhile_cons]
      cases hc : isAlnum c
      · rfl
      · rw [hc] at h; simp at h
  rcases hb with hp | ⟨r0, c, t, hp, rfl, hc⟩
  · have := key r' hp [] (by simp); rwa [List.append_nil] at this
  · exact key r0 hp (c :: t) (fun d u e => by cases e; exact (blank_not c hc).2.2)
theorem take_app {α : Type} (c : α) (t r : List α) : (c :: (t ++ r)).take (1 + t.length) = c :: t := by
  rw [Nat.add_comm, List.take_succ_cons, List.take_left]

theorem starts_behind {x r r' : List UInt8} {g : ByteArray} (hg : g ∈ signsL) (hb : Behind r r') (h : startsWith (x ++ r') g = true) : startsWith (x ++ r) g = true := by
  unfold startsWith at *
  rw [List.isPrefixOf_iff_prefix] at *
  rcases hb with hp | ⟨r0, c, t, hp, rfl, hc⟩
  · exact h.trans ((List.prefix_append_right_inj x).2 hp)
  · refine List.IsPrefix.trans ?_ ((List.prefix_append_right_inj x).2 hp)
    rw [← List.append_assoc] at h
    rcases Nat.lt_or_ge (x ++ r0).length g.data.toList.length with hlt | hge
    · exfalso
      have h1 := List.IsPrefix.getElem h (i := (x ++ r0).length) hlt
      rw [List.getElem_append_right (Nat.le_refl _)] at h1
      simp only [Nat.sub_self, List.getElem_cons_zero] at h1
      have hm : c ∈ g.data.toList := by rw [← h1]; exact List.getElem_mem _
      unfold isBlank at hc
      simp only [Bool.or_eq_true, beq_iff_eq] at hc
      simp only [signsL, List.mem_cons, List.not_mem_nil, or_false] at hg
      rcases hg with rfl | rfl | rfl | rfl | rfl | rfl | rfl | rfl | rfl | rfl | rfl | rfl | rfl <;>
        (simp at hm; rcases hc with ((rfl | rfl) | rfl) | rfl <;> simp at hm)
    · exact List.prefix_of_prefix_length_le h (List.prefix_append _ _) hge
theorem startsWith_app {x r : List UInt8} {g : ByteArray} (h : startsWith x g = true) : startsWith (x ++ r) g = true := by
  unfold startsWith at *
  rw [List.isPrefixOf_iff_prefix] at *
  exact h.trans (List.prefix_append _ _)
theorem signLen_behind {x r r' : List UInt8} (hx : signLen (x ++ r) = some x.length) (hb : Behind r r') : signLen (x ++ r') = some x.length := by
  unfold signLen at *
  obtain ⟨g, hg, hl⟩ := Option.map_eq_some_iff.1 hx
  obtain ⟨hs, i, hi, hgi, hlt⟩ := List.find?_eq_some_iff_getElem.1 hg
  have hgx : startsWith x g = true := by
    unfold startsWith at *
    rw [List.isPrefixOf_iff_prefix] at *
    exact List.prefix_of_prefix_length_le hs (List.prefix_append _ _) (by simp; omega)
  rw [Option.map_eq_some_iff]
  refine ⟨g, ?_, hl⟩
  rw [List.find?_eq_some_iff_getElem]
  refine ⟨startsWith_app hgx, i, hi, hgi, fun j hj => ?_⟩
  have hj' := hlt j hj
  simp only [Bool.not_eq_eq_eq_not, Bool.not_true] at hj' ⊢
  cases h : startsWith (x ++ r') signsL[j]
  · rfl
  · exfalso
    have h1 := starts_behind (List.getElem_mem _) hb h
    rw [hj'] at h1; cases h1

/-- WHAT STANDS BEHIND A TOKEN DOES NOT MATTER. -/
theorem tokL_behind {x r r' : List UInt8} {k : Int} (hx : 1 ≤ x.length) (h : tokL (x ++ r) = (k, x.length, 0)) (hb : Behind r r') : tokL (x ++ r') = (k, x.length, 0) := by
  cases x with
  | nil => simp at hx
  | cons c t =>
    simp only [List.cons_append, tokL, List.length_cons] at h ⊢
    cases ha : alphaI (c.toNat : Int)
    · rw [ha] at h
      simp only [Bool.false_eq_true, if_false] at h ⊢
      cases hq : (c.toNat : Int) == 63
      · rw [hq] at h
        simp only [Bool.false_eq_true, if_false] at h ⊢
        unfold signAt at *
        cases hs : signLen (c :: (t ++ r)) with
        | none => rw [hs] at h; simp at h
        | some n =>
          rw [hs] at h
          simp only [Prod.mk.injEq] at h
          have := signLen_behind (x := c :: t) (r := r) (r' := r') (by rw [List.cons_append, hs, h.2.1]; rfl) hb
          rw [List.cons_append] at this
          rw [this]
          simp [h.1]
      · rw [hq] at h
        simp only [if_true] at h ⊢
        have hr : runL (t ++ r) = t.length := by
          split at h
          · simp only [Prod.mk.injEq] at h; omega
          · simp at h
        obtain ⟨h1, h2⟩ := runL_app hr
        have hr' : runL (t ++ r') = t.length := by rw [runL_all h1, runL_behind h2 hb]; rfl
        rw [hr, take_app] at h
        rw [hr', take_app]
        exact h
    · rw [ha] at h
      simp only [if_true] at h ⊢
      have hr : runL (t ++ r) = t.length := by
        split at h
        · simp only [Prod.mk.injEq] at h; omega
        · split at h
          · simp only [Prod.mk.injEq] at h; omega
          · simp at h
      obtain ⟨h1, h2⟩ := runL_app hr
      have hr' : runL (t ++ r') = t.length := by rw [runL_all h1, runL_behind h2 hb]; rfl
      rw [hr, take_app] at h
      rw [hr', take_app]
      exact h

theorem takeWhile_blank {b r : List UInt8} (hb : ∀ c ∈ b, isBlank c = true) (hr : ∀ c, r.head? = some c → isBlank c = false) : (b ++ r).takeWhile isBlank = b := by
  rw [List.takeWhile_append_of_pos hb]
  cases r with
  | nil => simp
  | cons c t => rw [List.takeWhile_cons_of_neg (by simp [hr c rfl])]; simp
theorem head_ok {x r : List UInt8} {k : Int} (hx : 1 ≤ x.length) (h : tokL (x ++ r) = (k, x.length, 0)) : ∀ c, (x ++ r).head? = some c → isBlank c = false := by
  cases x with
  | nil => simp at hx
  | cons d t =>
    intro c hc
    simp at hc
    subst hc
    cases hb : isBlank d
    · rfl
    · exfalso
      have := tokL_blank d (t ++ r) hb
      rw [List.cons_append] at h
      rw [h] at this
      exact this rfl
theorem drop_drop_app {s : ByteArray} {i : Nat} {a r : List UInt8} (h : s.data.toList.drop i = a ++ r) : s.data.toList.drop (i + a.length) = r := by
  rw [← List.drop_drop, h, List.drop_left]
theorem drop_len {s : ByteArray} {i : Nat} (h : i ≤ s.size) : (s.data.toList.drop i).length + i = s.size := by
  simp; omega

/-- The lexer gives the relation's tokens. -/
theorem lexL_ok {s : ByteArray} {l : List UInt8} {i : Nat} {ts : List Tok} (h : LexOk l i ts) : ∀ f, l = s.data.toList.drop i → i ≤ s.size → s.size < i + f → lexL s f i = (ts, s.size, 0) := by
  induction h with
  | done b i hb =>
    intro f hl hi hf
    obtain ⟨g, rfl⟩ : ∃ g, f = g + 1 := ⟨f - 1, by omega⟩
    have hbl : blanks s i = b.length := by
      unfold blanks
      rw [← hl]
      have := takeWhile_blank (r := []) hb (by simp)
      rw [List.append_nil] at this
      rw [this]
    have he : i + b.length = s.size := by have := drop_len hi; rw [← hl] at this; omega
    simp only [lexL, hbl, he, if_true]
  | more b x r i k ts hb hx ht _ ih =>
    intro f hl hi hf
    obtain ⟨g, rfl⟩ : ∃ g, f = g + 1 := ⟨f - 1, by omega⟩
    rw [List.append_assoc] at hl
    have hbl : blanks s i = b.length := by
      unfold blanks
      rw [← hl, takeWhile_blank hb (head_ok hx ht)]
    have hd : s.data.toList.drop (i + b.length) = x ++ r := drop_drop_app hl.symm
    have hd2 : s.data.toList.drop (i + b.length + x.length) = r := drop_drop_app hd
    have hlen : b.length + x.length + r.length + i = s.size := by
      have := drop_len hi; rw [← hl] at this; simp at this; omega
    have hne : ¬ i + b.length = s.size := by omega
    have hta : tokAt s (i + b.length) = (k, x.length, 0) := by rw [tokAt_eq, hd, ht]
    have htx : s.extract (i + b.length) (i + b.length + x.length) = textOf x := by rw [extract_textOf, hd, List.take_left]
    simp only [lexL, hbl, hne, if_false, hta, if_true, htx]
    rw [ih g hd2.symm (by omega) (by omega)]
theorem lexL_bad {s : ByteArray} {l : List UInt8} {i p : Nat} {e : Int} (h : LexBad l i p e) : ∀ f, l = s.data.toList.drop i → i ≤ s.size → s.size < i + f → (lexL s f i).2 = (p, e) ∧ e ≠ 0 := by
  induction h with
  | here b r i hb hr hn e he ht =>
    intro f hl hi hf
    obtain ⟨g, rfl⟩ : ∃ g, f = g + 1 := ⟨f - 1, by omega⟩
    have hbl : blanks s i = b.length := by
      unfold blanks
      rw [← hl, takeWhile_blank hb hn]
    have hd : s.data.toList.drop (i + b.length) = r := drop_drop_app hl.symm
    have hlen : b.length + r.length + i = s.size := by
      have := drop_len hi; rw [← hl] at this; simp at this; omega
    have hr1 : 1 ≤ r.length := by cases r with | nil => exact absurd rfl hr | cons => simp
    have hne : ¬ i + b.length = s.size := by omega
    have hta : (tokAt s (i + b.length)).2.2 = e := by rw [tokAt_eq, hd, ht]
    simp only [lexL, hbl, hne, if_false, hta]
    rw [if_neg he]
    exact ⟨rfl, he⟩
  | more b x r i p k e hb hx ht _ ih =>
    intro f hl hi hf
    obtain ⟨g, rfl⟩ : ∃ g, f = g + 1 := ⟨f - 1, by omega⟩
    rw [List.append_assoc] at hl
    have hbl : blanks s i = b.length := by
      unfold blanks
      rw [← hl, takeWhile_blank hb (head_ok hx ht)]
    have hd : s.data.toList.drop (i + b.length) = x ++ r := drop_drop_app hl.symm
    have hd2 : s.data.toList.drop (i + b.length + x.length) = r := drop_drop_app hd
    have hlen : b.length + x.length + r.length + i = s.size := by
      have := drop_len hi; rw [← hl] at this; simp at this; omega
    have hne : ¬ i + b.length = s.size := by omega
    have hta : tokAt s (i + b.length) = (k, x.length, 0) := by rw [tokAt_eq, hd, ht]
    simp only [lexL, hbl, hne, if_false, hta, if_true]
    exact ih g hd2.symm (by omega) (by omega)
/-- The lexer's answer is the relation's. -/
theorem lexL_rel (s : ByteArray) : ∀ f i, i ≤ s.size → s.size < i + f →
    ((lexL s f i).2.2 = 0 → LexOk (s.data.toList.drop i) i (lexL s f i).1 ∧ (lexL s f i).2.1 = s.size) ∧
    ((lexL s f i).2.2 ≠ 0 → LexBad (s.data.toList.drop i) i (lexL s f i).2.1 (lexL s f i).2.2) := by
  intro f
  induction f with
  | zero => intro i hi hf; omega
  | succ f ih =>
    intro i hi hf
    have hle := blanks_le s i hi
    have hb : ∀ c ∈ (s.data.toList.drop i).takeWhile isBlank, isBlank c = true := fun c hc => by
      have := List.all_takeWhile (p := isBlank) (l := s.data.toList.drop i)
      exact List.all_eq_true.1 this c hc
    have hsplit : s.data.toList.drop i = (s.data.toList.drop i).takeWhile isBlank ++ s.data.toList.drop (i + blanks s i) := by
      have := List.takeWhile_append_dropWhile (p := isBlank) (l := s.data.toList.drop i)
      have h2 : (s.data.toList.drop i).dropWhile isBlank = s.data.toList.drop (i + blanks s i) := by
        rw [← List.drop_drop]
        conv => rhs; arg 2; rw [← this]
        exact (List.drop_left (l₁ := (s.data.toList.drop i).takeWhile isBlank)).symm
      rw [← h2, this]
    have hblen : ((s.data.toList.drop i).takeWhile isBlank).length = blanks s i := rfl
    by_cases he : i + blanks s i = s.size
    · simp only [lexL, he, if_true]
      refine ⟨fun _ => ⟨?_, trivial⟩, fun h => absurd rfl h⟩
      have hnil : s.data.toList.drop (i + blanks s i) = [] := List.drop_eq_nil_of_le (by simp; omega)
      rw [hnil, List.append_nil] at hsplit
      have := LexOk.done ((s.data.toList.drop i).takeWhile isBlank) i hb
      rw [← hsplit] at this
      have h3 : i + (s.data.toList.drop i).length = s.size := by have := drop_len hi; omega
      rw [h3] at this
      exact this
    · have hlt : i + blanks s i < s.size := by omega
      have hta := tokAt_eq s (i + blanks s i)
      have hlen := tokAt_len hlt
      rcases htok : tokAt s (i + blanks s i) with ⟨k, n, e⟩
      rw [htok] at hta hlen
      dsimp only at hlen
      simp only [lexL, he, if_false, htok]
      by_cases h0 : e = 0
      · subst h0
        obtain ⟨hn1, hn2⟩ := hlen rfl
        simp only [if_true]
        have hd : s.data.toList.drop (i + blanks s i) = (s.data.toList.drop (i + blanks s i)).take n ++ s.data.toList.drop (i + blanks s i + n) := by
          rw [← List.drop_drop (i := n), List.take_append_drop]
        have hxl : ((s.data.toList.drop (i + blanks s i)).take n).length = n := by simp; omega
        have ht : tokL ((s.data.toList.drop (i + blanks s i)).take n ++ s.data.toList.drop (i + blanks s i + n)) = (k, ((s.data.toList.drop (i + blanks s i)).take n).length, 0) := by
          rw [← hd, hxl]; exact hta.symm
        obtain ⟨ih1, ih2⟩ := ih (i + blanks s i + n) (by omega) (by omega)
        refine ⟨fun h => ?_, fun h => ?_⟩
        · obtain ⟨hok, hp⟩ := ih1 h
          refine ⟨?_, hp⟩
          have := LexOk.more _ _ _ i k _ hb (by rw [hxl]; exact hn1) ht (by rw [hblen, hxl]; exact hok)
          rw [List.append_assoc, ← hd, ← hsplit, hblen] at this
          rw [extract_textOf]
          exact this
        · have hbad := ih2 h
          have := LexBad.more _ _ _ i _ k _ hb (by rw [hxl]; exact hn1) ht (by rw [hblen, hxl]; exact hbad)
          rw [List.append_assoc, ← hd, ← hsplit] at this
          exact this
      · rw [if_neg h0]
        refine ⟨fun h => absurd h h0, fun _ => ?_⟩
        have hne : s.data.toList.drop (i + blanks s i) ≠ [] := by rw [drop_get hlt]; simp
        have hnb : ∀ c, (s.data.toList.drop (i + blanks s i)).head? = some c → isBlank c = false := fun c hc => by
          cases hbc : isBlank c
          · rfl
          · exfalso
            have h1 := blanks_yes (s := s) hlt (by rw [drop_get hlt] at hc; simp at hc; rw [hc]; exact hbc)
            have h2 : blanks s (i + blanks s i) = 0 := by
              unfold blanks
              have := List.takeWhile_append_dropWhile (p := isBlank) (l := s.data.toList.drop i)
              have h3 : (s.data.toList.drop i).dropWhile isBlank = s.data.toList.drop (i + blanks s i) := by
                rw [← List.drop_drop]
                conv => rhs; arg 2; rw [← this]
                exact (List.drop_left (l₁ := (s.data.toList.drop i).takeWhile isBlank)).symm
              show ((s.data.toList.drop (i + blanks s i)).takeWhile isBlank).length = 0
              rw [← h3]
              cases hdw : (s.data.toList.drop i).dropWhile isBlank with
              | nil => rfl
              | cons d t =>
                have := List.head?_dropWhile_not (p := isBlank) (l := s.data.toList.drop i)
                rw [hdw] at this
                simp only [List.head?_cons] at this
                rw [List.takeWhile_cons_of_neg (by simpa using this)]; rfl
            omega
        have := LexBad.here _ _ i hb hne hnb e h0 (by rw [← hta])
        rw [← hsplit, hblen] at this
        exact this

/-! ## The text of tokens -/
def joinTexts (l : List Tok) : List ByteArray := (l.filter fun t => t.kind != 5).map (·.text)
def joinB (xs : List ByteArray) : ByteArray := ⟨(Lib.join (xs.map (·.data.toList)) [32]).toArray⟩
def joinT (l : List Tok) : ByteArray := joinB (joinTexts l)

theorem joinTexts_snoc (l : List Tok) (k : Nat) (h : k < l.length) : joinTexts (l.take (k + 1)) = joinTexts (l.take k) ++ joinTexts [l[k]] := by
  unfold joinTexts; rw [List.take_succ_eq_append_getElem h, List.filter_append, List.map_append]
theorem joinTexts_skip (l : List Tok) (k : Nat) (h : k < l.length) (h5 : l[k].kind = 5) : joinTexts (l.take (k + 1)) = joinTexts (l.take k) := by
  rw [joinTexts_snoc l k h]; simp [joinTexts, h5]
theorem joinTexts_take (l : List Tok) (k : Nat) (h : k < l.length) (h5 : ¬ l[k].kind = 5) : joinTexts (l.take (k + 1)) = joinTexts (l.take k) ++ [l[k].text] := by
  rw [joinTexts_snoc l k h]; simp [joinTexts, h5]
theorem joinTexts_len (l : List Tok) (k : Nat) : (joinTexts (l.take k)).length ≤ l.length := by
  unfold joinTexts
  rw [List.length_map]
  exact Nat.le_trans (List.length_filter_le _ _) (List.length_take_le' _ _)
/-- Equal but for their places. -/
def Alike (l m : List Tok) : Prop := l.length = m.length ∧ ∀ (i : Nat) (h1 : i < l.length) (h2 : i < m.length), l[i].kind = m[i].kind ∧ l[i].text = m[i].text


theorem alike_iff (l m : List Tok) : Alike l m ↔ l.map (fun t => (t.kind, t.text)) = m.map (fun t => (t.kind, t.text)) := by
  constructor
  · rintro ⟨h1, h2⟩
    apply List.ext_getElem (by simpa using h1)
    intro i hi hj
    obtain ⟨a, b⟩ := h2 i (by simpa using hi) (by simpa using hj)
    simp [a, b]
  · intro h
    have hl : l.length = m.length := by have := congrArg List.length h; simpa using this
    refine ⟨hl, fun i h1 h2 => ?_⟩
    have := List.getElem_of_eq h (i := i) (by simpa using h1)
    rw [List.getElem_map, List.getElem_map] at this
    simpa using this
theorem joinTexts_kt (l : List Tok) : joinTexts l = ((l.map (fun t => (t.kind, t.text))).filter (fun p => p.1 != 5)).map (·.2) := by
  unfold joinTexts
  induction l with
  | nil => rfl
  | cons t r ih =>
    simp only [List.map_cons, List.filter_cons]
    by_cases h : t.kind = 5
    · simp [h, ih]
    · simp [h, ih]
theorem joinT_alike {l m : List Tok} (h : Alike l m) : joinT l = joinT m := by
  unfold joinT; rw [joinTexts_kt l, joinTexts_kt m, (alike_iff l m).1 h]

theorem tokL_kind {l : List UInt8} {k : Int} {n : Nat} (h : tokL l = (k, n, 0)) : k = 1 ∨ k = 2 ∨ k = 3 ∨ k = 4 := by
  unfold tokL at h
  split at h
  · simp at h
  · split at h
    · split at h
      · simp only [Prod.mk.injEq] at h; omega
      · split at h
        · simp only [Prod.mk.injEq] at h; omega
        · simp at h
    · split at h
      · split at h
        · simp only [Prod.mk.injEq] at h; omega
        · simp at h
      · unfold signAt at h
        split at h
        · simp only [Prod.mk.injEq] at h; omega
        · simp at h

/-- The bytes of the text of tokens. -/
def joinL (ts : List Tok) : List UInt8 := Lib.join ((joinTexts ts).map (·.data.toList)) [32]
theorem joinT_list (ts : List Tok) : (joinT ts).data.toList = joinL ts := by simp [joinT, joinB, joinL]
theorem joinL_cons (k : Int) (hk : k ≠ 5) (x : List UInt8) (p : Nat) (ts : List Tok) :
    joinL (⟨k, textOf x, p⟩ :: ts) = x ++ (if joinTexts ts = [] then [] else [32] ++ joinL ts) := by
  have h1 : joinTexts (⟨k, textOf x, p⟩ :: ts) = textOf x :: joinTexts ts := by
    unfold joinTexts; rw [List.filter_cons]; simp [hk]
  unfold joinL
  rw [h1, List.map_cons, Lib.join_cons, textOf_list]
  cases h : joinTexts ts with
  | nil => simp [Lib.joinTail]
  | cons y r => simp [Lib.join_cons, Lib.joinTail]

/-- THE TEXT OF TOKENS HAS THE SAME TOKENS. -/
theorem lexOk_join {l : List UInt8} {i : Nat} {ts : List Tok} (h : LexOk l i ts) : (joinL ts).length ≤ 2 * l.length ∧ ∀ (b0 : List UInt8) (j : Nat), (∀ c ∈ b0, isBlank c = true) →
    ∃ ts', LexOk (b0 ++ joinL ts) j ts' ∧ ts.map (fun t => (t.kind, t.text)) = ts'.map (fun t => (t.kind, t.text)) := by
  induction h with
  | done b i hb =>
    have h1 : joinL [⟨5, ByteArray.empty, i + b.length⟩] = [] := rfl
    rw [h1]
    refine ⟨Nat.zero_le _, fun b0 j hb0 => ⟨[⟨5, ByteArray.empty, j + b0.length⟩], ?_, rfl⟩⟩
    rw [List.append_nil]; exact LexOk.done b0 j hb0
  | more b x r i k ts hb hx ht _ ih =>
    have hk : k ≠ 5 := by have := tokL_kind ht; omega
    obtain ⟨ih1, ih2⟩ := ih
    rw [joinL_cons k hk]
    refine ⟨?_, fun b0 j hb0 => ?_⟩
    · split
      · simp; omega
      · simp; omega
    · have hb1 : ∀ c ∈ (if joinTexts ts = [] then ([] : List UInt8) else [32]), isBlank c = true := by
        split
        · simp
        · intro c hc; simp at hc; subst hc; rfl
      obtain ⟨ts', h1, h2⟩ := ih2 (if joinTexts ts = [] then [] else [32]) (j + b0.length + x.length) hb1
      have he : (if joinTexts ts = [] then ([] : List UInt8) else [32]) ++ joinL ts = if joinTexts ts = [] then [] else [32] ++ joinL ts := by
        split
        · rename_i h0; unfold joinL; rw [h0]; rfl
        · rfl
      rw [he] at h1
      have hbeh : Behind r (if joinTexts ts = [] then [] else [32] ++ joinL ts) := by
        split
        · exact .inl (List.nil_prefix)
        · exact Behind.blank _ (joinL ts) rfl
      refine ⟨⟨k, textOf x, j + b0.length⟩ :: ts', ?_, by simp [h2]⟩
      rw [← List.append_assoc]; exact LexOk.more b0 x _ j k ts' hb0 hx (tokL_behind hx ht hbeh) h1

theorem lexS_ok {s : ByteArray} {ts : List Tok} {p : Nat} (h : lexS s = (ts, p, 0)) : s.size ≤ 16384 ∧ LexOk s.data.toList 0 ts ∧ p = 0 := by
  unfold lexS at h
  split at h
  · simp at h
  · rename_i hs
    split at h
    · rename_i h0
      simp only [Prod.mk.injEq, and_true] at h
      obtain ⟨h1, h2⟩ := h
      have := (lexL_rel s (s.size + 1) 0 (Nat.zero_le _) (by omega)).1 h0
      rw [List.drop_zero, h1] at this
      exact ⟨by omega, this.1, h2.symm⟩
    · rename_i h0
      simp only [Prod.mk.injEq] at h
      exact absurd (by rw [h.2]) h0
theorem lexS_of_ok {s : ByteArray} {ts : List Tok} (hs : s.size ≤ 16384) (h : LexOk s.data.toList 0 ts) : lexS s = (ts, 0, 0) := by
  have := lexL_ok (s := s) h (s.size + 1) (by simp) (Nat.zero_le _) (by omega)
  unfold lexS
  rw [if_neg (by omega), this, if_pos rfl]
theorem lexS_bad {s : ByteArray} {ts : List Tok} {p : Nat} {e : Int} (hs : s.size ≤ 16384) (h : lexS s = (ts, p, e)) (he : e ≠ 0) : LexBad s.data.toList 0 p e ∧ ts = [] := by
  unfold lexS at h
  rw [if_neg (by omega)] at h
  split at h
  · simp only [Prod.mk.injEq] at h; exact absurd h.2.2.symm he
  · rename_i h0
    have := (lexL_rel s (s.size + 1) 0 (Nat.zero_le _) (by omega)).2 h0
    simp only [Prod.mk.injEq] at h
    rw [List.drop_zero, h.2] at this
    exact ⟨this, h.1.symm⟩
theorem lexS_of_bad {s : ByteArray} {p : Nat} {e : Int} (hs : s.size ≤ 16384) (h : LexBad s.data.toList 0 p e) : lexS s = ([], p, e) ∧ e ≠ 0 := by
  have := lexL_bad (s := s) h (s.size + 1) (by simp) (Nat.zero_le _) (by omega)
  unfold lexS
  rw [if_neg (by omega), this.1, if_neg this.2]
  exact ⟨rfl, this.2⟩

/-- LexJoined, as a law on the answers. -/
theorem joined_law {s : ByteArray} {ts : List Tok} {p : Nat} (hs : s.size ≤ 3000) (h : lexS s = (ts, p, 0)) :
    (joinT ts).size ≤ 6000 ∧ ∃ ts', lexS (joinT ts) = (ts', 0, 0) ∧ Alike ts ts' ∧ joinT ts' = joinT ts := by
  obtain ⟨_, hok, _⟩ := lexS_ok h
  obtain ⟨h1, h2⟩ := lexOk_join hok
  have hsz : (joinT ts).size = (joinL ts).length := by rw [← joinT_list]; simp
  have hl : s.data.toList.length = s.size := by simp
  obtain ⟨ts', h3, h4⟩ := h2 [] 0 (by simp)
  rw [List.nil_append, ← joinT_list] at h3
  have ha : Alike ts ts' := (alike_iff _ _).2 h4
  exact ⟨by omega, ts', lexS_of_ok (by omega) h3, ha, (joinT_alike ha).symm⟩
theorem tokL_err (l : List UInt8) : (tokL l).2.2 = 0 ∨ (tokL l).2.2 = 40 ∨ (tokL l).2.2 = 41 := by
  unfold tokL
  split
  · exact .inr (.inl rfl)
  · split
    · split
      · exact .inl rfl
      · split
        · exact .inl rfl
        · exact .inr (.inr rfl)
    · split
      · split
        · exact .inl rfl
        · exact .inr (.inr rfl)
      · unfold signAt
        split
        · exact .inl rfl
        · exact .inr (.inl rfl)
theorem lexBad_err {l : List UInt8} {i p : Nat} {e : Int} (h : LexBad l i p e) : e = 40 ∨ e = 41 := by
  induction h with
  | here b r i hb hr hn e he ht => have := tokL_err r; omega
  | more b x r i p k e hb hx ht _ ih => exact ih

end Go.Proofs.Ytijoechhhnagpaa
