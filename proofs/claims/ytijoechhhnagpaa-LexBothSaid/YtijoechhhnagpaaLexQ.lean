import Derived.Test.YtijoechhhnagpaaLexP
/-
  The places of tokens; two texts; the longest sign; errors: as laws on the lexer's answers.
-/
namespace Go.Proofs.Ytijoechhhnagpaa

theorem lexOk_ne {l : List UInt8} {i : Nat} {ts : List Tok} (h : LexOk l i ts) : 1 ≤ ts.length := by
  cases h <;> simp

/-! ## Places -/
/-- Where the text goes on behind k tokens. -/
def pos (i : Nat) : List Tok → Nat → Nat
  | [], _ => i
  | _ :: _, 0 => i
  | t :: r, k + 1 => pos (t.at_ + t.text.size) r k
theorem pos_zero (i : Nat) (l : List Tok) : pos i l 0 = i := by cases l <;> rfl
theorem pos_succ (i : Nat) (l : List Tok) (k : Nat) (h : k < l.length) : pos i l (k + 1) = l[k].at_ + l[k].text.size := by
  induction l generalizing i k with
  | nil => simp at h
  | cons t r ih =>
    cases k with
    | zero => exact pos_zero _ _
    | succ k => exact ih _ k (by simpa using h)

structure StandAt (s : ByteArray) (p : Nat) (t : Tok) (last : Prop) : Prop where
  le : p ≤ t.at_
  inn : t.at_ + t.text.size ≤ s.size
  ext : s.extract t.at_ (t.at_ + t.text.size) = t.text
  five : t.kind = 5 ↔ last
  none : t.text = ⟨#[]⟩ ↔ t.kind = 5
  blank : ∀ (j : Nat) (h : j < s.size), p ≤ j → j < t.at_ → isBlank s[j] = true

theorem blank_at {s : ByteArray} {i : Nat} {b r : List UInt8} (hl : b ++ r = s.data.toList.drop i) (hb : ∀ c ∈ b, isBlank c = true) (j : Nat) (h : j < s.size) (h1 : i ≤ j) (h2 : j < i + b.length) : isBlank s[j] = true := by
  have e1 : s.data.toList[j]? = (b ++ r)[j - i]? := by rw [hl, List.getElem?_drop]; congr 1; omega
  rw [List.getElem?_append_left (by omega)] at e1
  have e2 : s.data.toList[j]? = some s[j] := by
    rw [List.getElem?_eq_getElem (by simpa using h)]; rfl
  rw [e2, List.getElem?_eq_getElem (by omega)] at e1
  have := Option.some.inj e1
  rw [this]; exact hb _ (List.getElem_mem _)

theorem stands_law {s : ByteArray} {l : List UInt8} {i : Nat} {ts : List Tok} (h : LexOk l i ts) (hl : l = s.data.toList.drop i) (hi : i ≤ s.size) :
    (∀ (k : Nat) (hk : k < ts.length), StandAt s (pos i ts k) ts[k] (k + 1 = ts.length)) ∧ pos i ts ts.length = s.size := by
  induction h with
  | done b i hb =>
    have hlen := drop_len hi
    rw [← hl] at hlen
    have hsz : i + b.length = s.size := by omega
    refine ⟨fun k hk => ?_, ?_⟩
    · have : k = 0 := by simpa using hk
      subst this
      refine ⟨Nat.le_add_right _ _, ?_, ?_, by simp, ⟨fun _ => rfl, fun _ => rfl⟩, fun j h h1 h2 => ?_⟩
      · show i + b.length + 0 ≤ s.size; omega
      · show s.extract (i + b.length) (i + b.length + 0) = ByteArray.empty
        apply ByteArray.ext; simp
      · exact blank_at (r := []) (by rw [List.append_nil]; exact hl) hb j h h1 h2
    · show i + b.length + 0 = s.size; omega
  | more b x r i k ts hb hx ht hok ih =>
    rw [List.append_assoc] at hl
    have hd : s.data.toList.drop (i + b.length) = x ++ r := drop_drop_app hl.symm
    have hd2 : s.data.toList.drop (i + b.length + x.length) = r := drop_drop_app hd
    have hlen : b.length + x.length + r.length + i = s.size := by
      have := drop_len hi; rw [← hl] at this; simp at this; omega
    obtain ⟨ih1, ih2⟩ := ih hd2.symm (by omega)
    have hne := lexOk_ne hok
    have hk5 : k ≠ 5 := by have := tokL_kind ht; omega
    refine ⟨fun n hn => ?_, ?_⟩
    · cases n with
      | zero =>
        refine ⟨Nat.le_add_right _ _, ?_, ?_, ?_, ?_, fun j h h1 h2 => ?_⟩
        · show i + b.length + (textOf x).size ≤ s.size; rw [textOf_size]; omega
        · show s.extract (i + b.length) (i + b.length + (textOf x).size) = textOf x
          rw [textOf_size, extract_textOf, hd, List.take_left]
        · show k = 5 ↔ 0 + 1 = ts.length + 1
          constructor
          · intro h; exact absurd h hk5
          · intro h; omega
        · show textOf x = ⟨#[]⟩ ↔ k = 5
          constructor
          · intro h
            have := textOf_size x; rw [h] at this
            have h0 : (⟨#[]⟩ : ByteArray).size = 0 := rfl
            omega
          · intro h; exact absurd h hk5
        · exact blank_at hl hb j h h1 h2
      | succ n =>
        have hn' : n < ts.length := by simpa using hn
        have e := ih1 n hn'
        have e2 : pos i (⟨k, textOf x, i + b.length⟩ :: ts) (n + 1) = pos (i + b.length + x.length) ts n := by
          show pos (i + b.length + (textOf x).size) ts n = _; rw [textOf_size]
        rw [e2]
        obtain ⟨a1, a2, a3, a4, a5, a6⟩ := e
        exact ⟨a1, a2, a3, a4.trans (by show n + 1 = ts.length ↔ n + 1 + 1 = ts.length + 1; omega), a5, a6⟩
    · show pos (i + b.length + (textOf x).size) ts ts.length = s.size
      rw [textOf_size]; exact ih2
theorem stands_yes {s : ByteArray} {ts : List Tok} {p : Nat} (h : lexS s = (ts, p, 0)) :
    (∀ (k : Nat) (hk : k < ts.length), StandAt s (pos 0 ts k) ts[k] (k + 1 = ts.length)) ∧ pos 0 ts ts.length = s.size := by
  obtain ⟨_, h, _⟩ := lexS_ok h
  exact stands_law h (by simp) (Nat.zero_le _)

/-! ## The longest sign -/
theorem tokL_run {x r : List UInt8} {k : Int} (hx : 1 ≤ x.length) (h : tokL (x ++ r) = (k, x.length, 0)) (hk : k ≠ 4) : runL r = 0 := by
  cases x with
  | nil => simp at hx
  | cons c t =>
    rw [List.cons_append] at h
    unfold tokL at h
    dsimp only at h
    have key : 1 + runL (t ++ r) = (c :: t).length → runL r = 0 := fun h => (runL_app (t := t) (r := r) (by simp at h; omega)).2
    split at h
    · split at h
      · simp only [Prod.mk.injEq] at h; exact key h.2.1
      · split at h
        · simp only [Prod.mk.injEq] at h; exact key h.2.1
        · simp at h
    · split at h
      · split at h
        · simp only [Prod.mk.injEq] at h; exact key h.2.1
        · simp at h
      · unfold signAt at h
        split at h
        · simp only [Prod.mk.injEq] at h; exact absurd h.1.symm hk
        · simp at h
theorem tokL_head {c : UInt8} {r : List UInt8} {k : Int} {n : Nat} (h : tokL (c :: r) = (k, n, 0)) (hc : isAlnum c = false) : k = 2 ∨ k = 4 := by
  unfold tokL at h
  dsimp only at h
  unfold isAlnum at hc
  simp only [Bool.or_eq_false_iff] at hc
  rw [hc.1] at h
  simp only [Bool.false_eq_true, if_false] at h
  split at h
  · split at h
    · simp only [Prod.mk.injEq] at h; exact .inl h.1.symm
    · simp at h
  · unfold signAt at h
    split at h
    · simp only [Prod.mk.injEq] at h; exact .inr h.1.symm
    · simp at h

theorem longest_law {l : List UInt8} {i : Nat} {ts : List Tok} (h : LexOk l i ts) : ∀ (k : Nat) (h2 : k + 2 < ts.length), ts[k].at_ + ts[k].text.size = ts[k + 1].at_ →
    LexOk (ts[k].text.data.toList ++ ts[k + 1].text.data.toList) 0 [⟨ts[k].kind, ts[k].text, 0⟩, ⟨ts[k + 1].kind, ts[k + 1].text, ts[k].text.size⟩, ⟨5, ByteArray.empty, ts[k].text.size + ts[k + 1].text.size⟩] ∧
    ts[k].text.size + ts[k + 1].text.size ≤ l.length ∧ (ts[k].kind = 4 ∨ ts[k + 1].kind = 4 ∨ ts[k + 1].kind = 2) := by
  induction h with
  | done b i hb => intro k h2; simp at h2
  | more b x r i k ts hb hx ht hok ih =>
    intro n h2 hat
    cases n with
    | succ n =>
      obtain ⟨a, b1, c⟩ := ih n (by simp only [List.length_cons] at h2; omega) hat
      exact ⟨a, by simp only [List.getElem_cons_succ]; rw [List.length_append]; omega, c⟩
    | zero =>
      cases hok with
      | done b2 _ hb2 => simp at h2
      | more b2 x2 r2 _ k2 ts2 hb2 hx2 ht2 hok2 =>
        simp only [List.getElem_cons_zero, List.getElem_cons_succ, textOf_size] at hat ⊢
        have hb0 : b2 = [] := List.eq_nil_of_length_eq_zero (by omega)
        subst hb0
        simp only [List.nil_append] at ht
        have hbeh : Behind (x2 ++ r2) x2 := .inl (List.prefix_append _ _)
        have t1 := tokL_behind hx ht hbeh
        have t2 := tokL_behind hx2 ht2 (.inl List.nil_prefix : Behind r2 [])
        have d := LexOk.done [] (0 + 0 + x.length + 0 + x2.length) (by simp)
        have m2 := LexOk.more [] x2 [] (0 + 0 + x.length) k2 _ (by simp) hx2 t2 d
        have m1 := LexOk.more [] x x2 0 k _ (by simp) hx t1 (by simpa using m2)
        refine ⟨?_, ?_, ?_⟩
        · rw [textOf_list, textOf_list]
          simpa using m1
        · simp only [List.length_append]; omega
        · by_cases hk : k = 4
          · exact .inl hk
          · right
            have hr := tokL_run hx ht hk
            cases x2 with
            | nil => simp at hx2
            | cons c t =>
              have hc : isAlnum c = false := by
                cases hc : isAlnum c
                · rfl
                · unfold runL at hr; rw [List.cons_append, List.takeWhile_cons_of_pos hc] at hr; simp at hr
              have := tokL_head ht2 hc
              omega

/-! ## Two texts with a blank between them -/
def shift (d : Nat) (t : Tok) : Tok := ⟨t.kind, t.text, t.at_ + d⟩
theorem lexOk_shift {l : List UInt8} {i : Nat} {ts : List Tok} (h : LexOk l i ts) (d : Nat) : LexOk l (i + d) (ts.map (shift d)) := by
  induction h with
  | done b i hb =>
    have := LexOk.done b (i + d) hb
    have e : i + d + b.length = i + b.length + d := by omega
    rw [e] at this; exact this
  | more b x r i k ts hb hx ht _ ih =>
    have e : i + d + b.length = i + b.length + d := by omega
    have e2 : i + b.length + d + x.length = i + b.length + x.length + d := by omega
    have := LexOk.more b x r (i + d) k (ts.map (shift d)) hb hx ht (by rw [e, e2]; exact ih)
    rw [e] at this; exact this
theorem lexBad_shift {l : List UInt8} {i p : Nat} {e : Int} (h : LexBad l i p e) (d : Nat) : LexBad l (i + d) (p + d) e := by
  induction h with
  | here b r i hb hr hn e he ht =>
    have := LexBad.here b r (i + d) hb hr hn e he ht
    have q : i + d + b.length = i + b.length + d := by omega
    rw [q] at this; exact this
  | more b x r i p k e hb hx ht _ ih =>
    have q : i + b.length + x.length + d = i + d + b.length + x.length := by omega
    exact LexBad.more b x r (i + d) (p + d) k e hb hx ht (by rw [← q]; exact ih)
theorem blank_app {a b : List UInt8} (ha : ∀ c ∈ a, isBlank c = true) (hb : ∀ c ∈ b, isBlank c = true) : ∀ c ∈ a ++ b, isBlank c = true := fun c h => by
  rcases List.mem_append.1 h with h | h
  · exact ha c h
  · exact hb c h
theorem lexOk_blank {t : List UInt8} {j i : Nat} {us : List Tok} (h : LexOk t j us) (b : List UInt8) (hb : ∀ c ∈ b, isBlank c = true) (hj : j = i + b.length) : LexOk (b ++ t) i us := by
  subst hj
  cases h with
  | done _ _ hb2 =>
    have := LexOk.done (b ++ t) i (blank_app hb hb2)
    rw [List.length_append, ← Nat.add_assoc] at this; exact this
  | more b2 x r _ k ts hb2 hx ht h =>
    have := LexOk.more (b ++ b2) x r i k ts (blank_app hb hb2) hx ht (by rw [List.length_append, ← Nat.add_assoc]; exact h)
    rw [List.length_append, ← Nat.add_assoc, List.append_assoc, List.append_assoc, ← List.append_assoc b2] at this; exact this
theorem lexBad_blank {t : List UInt8} {j i p : Nat} {e : Int} (h : LexBad t j p e) (b : List UInt8) (hb : ∀ c ∈ b, isBlank c = true) (hj : j = i + b.length) : LexBad (b ++ t) i p e := by
  subst hj
  cases h with
  | here b2 r _ hb2 hr hn _ he ht =>
    have := LexBad.here (b ++ b2) r i (blank_app hb hb2) hr hn e he ht
    rw [List.length_append, ← Nat.add_assoc, List.append_assoc] at this; exact this
  | more b2 x r _ _ k _ hb2 hx ht h =>
    have := LexBad.more (b ++ b2) x r i p k e (blank_app hb hb2) hx ht (by rw [List.length_append, ← Nat.add_assoc]; exact h)
    rw [List.append_assoc, List.append_assoc, ← List.append_assoc b2] at this; exact this
/-- What stands behind a text, ahead of its own end token. -/
theorem lexOk_app {l : List UInt8} {i : Nat} {ts : List Tok} (h : LexOk l i ts) (c : UInt8) (t : List UInt8) (hc : isBlank c = true) :
    (∀ us, LexOk t (i + l.length + 1) us → LexOk (l ++ c :: t) i (ts.dropLast ++ us)) ∧ (∀ p e, LexBad t (i + l.length + 1) p e → LexBad (l ++ c :: t) i p e) := by
  induction h with
  | done b i hb =>
    have hbc : ∀ d ∈ b ++ [c], isBlank d = true := blank_app hb (by intro d h; simp at h; subst h; exact hc)
    have e : b ++ c :: t = (b ++ [c]) ++ t := by simp
    refine ⟨fun us h => ?_, fun p e1 h => ?_⟩
    · rw [e]; exact lexOk_blank h _ hbc (by simp; omega)
    · rw [e]; exact lexBad_blank h _ hbc (by simp; omega)
  | more b x r i k ts hb hx ht hok ih =>
    have e : (b ++ x ++ r) ++ c :: t = b ++ x ++ (r ++ c :: t) := by simp
    have ht' : tokL (x ++ (r ++ c :: t)) = (k, x.length, 0) := tokL_behind hx ht (.inr ⟨r, c, t, List.prefix_refl _, rfl, hc⟩)
    have q : i + b.length + x.length + r.length + 1 = i + (b ++ x ++ r).length + 1 := by simp; omega
    have hne := lexOk_ne hok
    refine ⟨fun us h => ?_, fun p e1 h => ?_⟩
    · rw [e]
      have := LexOk.more b x (r ++ c :: t) i k _ hb hx ht' (ih.1 us (by rw [q]; exact h))
      have e2 : (⟨k, textOf x, i + b.length⟩ :: ts : List Tok).dropLast ++ us = ⟨k, textOf x, i + b.length⟩ :: (ts.dropLast ++ us) := by
        cases ts with
        | nil => simp at hne
        | cons => rfl
      rw [e2]; exact this
    · rw [e]
      exact LexBad.more b x (r ++ c :: t) i p k e1 hb hx ht' (ih.2 p e1 (by rw [q]; exact h))
/-- An error stays one, whatever stands behind it. -/
theorem runL_blank (r : List UInt8) (c : UInt8) (t : List UInt8) (hc : isBlank c = true) : runL (r ++ c :: t) = runL r := by
  induction r with
  | nil => unfold runL; rw [List.nil_append, List.takeWhile_cons, (blank_not c hc).2.2]; rfl
  | cons e r ih =>
    unfold runL at *
    rw [List.cons_append, List.takeWhile_cons, List.takeWhile_cons]
    cases he : isAlnum e
    · rfl
    · simp only [if_true, List.length_cons, ih]
theorem runL_le (r : List UInt8) : runL r ≤ r.length := (List.takeWhile_sublist (p := isAlnum) (l := r)).length_le
theorem take_more (d : UInt8) (r q : List UInt8) : (d :: (r ++ q)).take (1 + runL r) = (d :: r).take (1 + runL r) := by
  rw [← List.cons_append, List.take_append_of_le_length (by have := runL_le r; simp; omega)]
theorem signLen_none {r : List UInt8} (h : signLen r = none) (c : UInt8) (t : List UInt8) (hc : isBlank c = true) : signLen (r ++ c :: t) = none := by
  unfold signLen at *
  rw [Option.map_eq_none_iff, List.find?_eq_none] at *
  intro g hg hs
  have h1 := starts_behind (x := r) (r := []) hg (Behind.blank [] t hc) hs
  rw [List.append_nil] at h1
  exact h g hg h1
theorem tokL_bad_app {r : List UInt8} (hr : r ≠ []) (h : (tokL r).2.2 ≠ 0) (c : UInt8) (t : List UInt8) (hc : isBlank c = true) : (tokL (r ++ c :: t)).2.2 = (tokL r).2.2 := by
  cases r with
  | nil => exact absurd rfl hr
  | cons d r =>
    rw [List.cons_append]
    unfold tokL at *
    dsimp only at *
    rw [runL_blank r c t hc, take_more]
    split at h
    · rename_i ha; rw [if_pos ha, if_pos ha]
    · rename_i ha
      rw [if_neg ha, if_neg ha]
      split at h
      · rename_i hq; rw [if_pos hq, if_pos hq]
      · rename_i hq
        rw [if_neg hq, if_neg hq]
        unfold signAt at *
        cases hs : signLen (d :: r) with
        | some n => rw [hs] at h; exact absurd rfl h
        | none =>
          have := signLen_none hs c t hc
          rw [List.cons_append] at this
          rw [this]
theorem lexBad_app {l : List UInt8} {i p : Nat} {e : Int} (h : LexBad l i p e) (c : UInt8) (t : List UInt8) (hc : isBlank c = true) : LexBad (l ++ c :: t) i p e := by
  induction h with
  | here b r i hb hr hn e he ht =>
    rw [List.append_assoc]
    refine LexBad.here b (r ++ c :: t) i hb (by simp) (fun d hd => ?_) e he (by rw [tokL_bad_app hr (by rw [ht]; exact he) c t hc, ht])
    cases r with
    | nil => exact absurd rfl hr
    | cons x r => exact hn d (by simpa using hd)
  | more b x r i p k e hb hx ht _ ih =>
    have q : (b ++ x ++ r) ++ c :: t = b ++ x ++ (r ++ c :: t) := by simp
    rw [q]
    exact LexBad.more b x (r ++ c :: t) i p k e hb hx (tokL_behind hx ht (.inr ⟨r, c, t, List.prefix_refl _, rfl, hc⟩)) ih

/-- A text, a blank, a text. -/
def sBlank (s : ByteArray) (c : UInt8) (t : ByteArray) : ByteArray := s ++ ⟨#[c]⟩ ++ t
theorem sBlank_list (s : ByteArray) (c : UInt8) (t : ByteArray) : (sBlank s c t).data.toList = s.data.toList ++ c :: t.data.toList := by
  simp [sBlank]
theorem sBlank_size (s : ByteArray) (c : UInt8) (t : ByteArray) : (sBlank s c t).size = s.size + 1 + t.size := by
  have := congrArg List.length (sBlank_list s c t); simp at this; omega
theorem both_bad {s t : ByteArray} {c : UInt8} {l : List Tok} {a : Nat} {e : Int} (hc : isBlank c = true) (hs : s.size ≤ 8000) (ht : t.size ≤ 8000) (h : lexS s = (l, a, e)) (he : e ≠ 0) : lexS (sBlank s c t) = ([], a, e) := by
  obtain ⟨hb, _⟩ := lexS_bad (by omega) h he
  refine (lexS_of_bad (by rw [sBlank_size]; omega) ?_).1
  rw [sBlank_list]; exact lexBad_app hb c _ hc
theorem both_second {s t : ByteArray} {c : UInt8} {l : List Tok} {a : Nat} {m : List Tok} {b : Nat} {f : Int} (hc : isBlank c = true) (hs : s.size ≤ 8000) (ht : t.size ≤ 8000) (h : lexS s = (l, a, 0)) (h2 : lexS t = (m, b, f)) (hf : f ≠ 0) : lexS (sBlank s c t) = ([], b + s.size + 1, f) := by
  obtain ⟨_, hok, _⟩ := lexS_ok h
  obtain ⟨hb, _⟩ := lexS_bad (by omega) h2 hf
  refine (lexS_of_bad (by rw [sBlank_size]; omega) ?_).1
  rw [sBlank_list]
  have hl : s.data.toList.length = s.size := by simp
  refine (lexOk_app hok c _ hc).2 _ _ ?_
  have := lexBad_shift hb (s.size + 1)
  rw [hl, Nat.add_assoc, Nat.add_assoc]; exact this
theorem both_ok {s t : ByteArray} {c : UInt8} {l : List Tok} {a : Nat} {m : List Tok} {b : Nat} (hc : isBlank c = true) (hs : s.size ≤ 8000) (ht : t.size ≤ 8000) (h : lexS s = (l, a, 0)) (h2 : lexS t = (m, b, 0)) : lexS (sBlank s c t) = (l.dropLast ++ m.map (shift (s.size + 1)), 0, 0) := by
  obtain ⟨_, hok, _⟩ := lexS_ok h
  obtain ⟨_, hok2, _⟩ := lexS_ok h2
  refine lexS_of_ok (by rw [sBlank_size]; omega) ?_
  rw [sBlank_list]
  have hl : s.data.toList.length = s.size := by simp
  refine (lexOk_app hok c _ hc).1 _ ?_
  have := lexOk_shift hok2 (s.size + 1)
  rw [hl, Nat.add_assoc]; exact this

theorem longest_yes {s : ByteArray} {ts : List Tok} {p : Nat} (hs : s.size ≤ 3000) (h : lexS s = (ts, p, 0)) (k : Nat) (h2 : k + 2 < ts.length) (hat : ts[k].at_ + ts[k].text.size = ts[k + 1].at_) :
    lexS (ts[k].text ++ ts[k + 1].text) = ([⟨ts[k].kind, ts[k].text, 0⟩, ⟨ts[k + 1].kind, ts[k + 1].text, ts[k].text.size⟩, ⟨5, ByteArray.empty, ts[k].text.size + ts[k + 1].text.size⟩], 0, 0) ∧
    (ts[k].kind = 4 ∨ ts[k + 1].kind = 4 ∨ ts[k + 1].kind = 2) := by
  obtain ⟨_, hok, _⟩ := lexS_ok h
  obtain ⟨a, b, c⟩ := longest_law hok k h2 hat
  have hl : s.data.toList.length = s.size := by simp
  refine ⟨lexS_of_ok (by rw [ByteArray.size_append]; omega) ?_, c⟩
  have e : (ts[k].text ++ ts[k + 1].text).data.toList = ts[k].text.data.toList ++ ts[k + 1].text.data.toList := by simp
  rw [e]; exact a

/-- The six things that are no tokens: 7 $ - xy ? and a byte above the letters. -/
def badL : List ByteArray := [⟨#[55]⟩, ⟨#[36]⟩, ⟨#[45]⟩, ⟨#[120, 121]⟩, ⟨#[63]⟩, ⟨#[128]⟩]
def badE : List Int := [40, 40, 40, 41, 41, 40]
theorem bad_tok : ∀ (n : Nat) (_ : n < badL.length) (h2 : n < badE.length), (lexS (badL[n] ++ ⟨#[32, 80]⟩)).2 = (0, badE[n]) := by decide +kernel
theorem wrong_first {s : ByteArray} {l : List Tok} {a : Nat} {e : Int} (hs : s.size ≤ 8000) (h : lexS s = (l, a, e)) (he : e ≠ 0) (x : ByteArray) (hx : x.size ≤ 8000) : lexS (s ++ ⟨#[32]⟩ ++ x) = ([], a, e) :=
  both_bad (c := 32) rfl hs hx h he
theorem wrong_bad {s : ByteArray} {l : List Tok} {a : Nat} (hs : s.size ≤ 8000) (h : lexS s = (l, a, 0)) (n : Nat) (hn : n < badL.length) (h2 : n < badE.length) : lexS (s ++ ⟨#[32]⟩ ++ (badL[n] ++ ⟨#[32, 80]⟩)) = ([], s.size + 1, badE[n]) := by
  have hb := bad_tok n hn h2
  have hne : badE[n] ≠ 0 := by
    have : ∀ (n : Nat) (_ : n < badE.length), badE[n] ≠ 0 := by decide
    exact this n h2
  have hsz : (badL[n] ++ ⟨#[32, 80]⟩ : ByteArray).size ≤ 8000 := by
    have : ∀ (n : Nat) (_ : n < badL.length), badL[n].size ≤ 2 := by decide
    rw [ByteArray.size_append]
    have := this n hn
    have h3 : (⟨#[32, 80]⟩ : ByteArray).size = 2 := rfl
    omega
  have := both_second (c := 32) rfl hs hsz h (m := (lexS (badL[n] ++ ⟨#[32, 80]⟩)).1) (b := 0) (f := badE[n]) (by rw [← hb]) hne
  rw [Nat.zero_add] at this
  exact this
end Go.Proofs.Ytijoechhhnagpaa
