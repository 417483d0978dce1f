/-
  What the bytes, names and signs of formulas are, as plain functions on lists of bytes.
-/
import Derived.RowKit
namespace Go.Proofs.Ytodaembemcljnaa

theorem ret_bool {a b : Bool} (h : a = b) : Ending.returned (.bool a) = .returned (.bool b) := by rw [h]
theorem ret_int {k : IntKind} {a b : Int} (h : a = b) : Ending.returned (.int k a) = .returned (.int k b) := by rw [h]
theorem ret_bool_iff {a b : Bool} (h : a = true ↔ b = true) : Ending.returned (.bool a) = .returned (.bool b) := by rw [Bool.eq_iff_iff.2 h]

def smallI (n : Int) : Bool := decide (97 ≤ n) && decide (n ≤ 122)
def capitalI (n : Int) : Bool := decide (65 ≤ n) && decide (n ≤ 90)
def digitI (n : Int) : Bool := decide (48 ≤ n) && decide (n ≤ 57)
def alphaI (n : Int) : Bool := smallI n || capitalI n
def alnumI (n : Int) : Bool := (smallI n || capitalI n) || digitI n
def varI (n : Int) : Bool := decide (117 ≤ n) && decide (n ≤ 122)
def funI (n : Int) : Bool := decide (97 ≤ n) && decide (n ≤ 116)

/-- The first place at which q holds, or -1. -/
def idxI {α : Type} (q : α → Bool) (xs : List α) : Int := match xs.findIdx? q with | some i => (i : Int) | none => -1
theorem idxI_here {α : Type} {q : α → Bool} {xs : List α} {i : Nat} (hi : i < xs.length) (h : q xs[i] = true) (hlt : ∀ (j : Nat) (hj : j < xs.length), j < i → q xs[j] = false) : idxI q xs = i := by
  unfold idxI
  have : xs.findIdx? q = some i := by
    rw [List.findIdx?_eq_some_iff_getElem]
    exact ⟨hi, h, fun j hj => by simpa using hlt j (by omega) hj⟩
  rw [this]
theorem idxI_none {α : Type} {q : α → Bool} {xs : List α} (h : ∀ (j : Nat) (hj : j < xs.length), q xs[j] = false) : idxI q xs = -1 := by
  unfold idxI
  have : xs.findIdx? q = none := by
    rw [List.findIdx?_eq_none_iff]
    intro x hx
    obtain ⟨j, hj, rfl⟩ := List.getElem_of_mem hx
    exact h j hj
  rw [this]
theorem idxI_nonneg {α : Type} (q : α → Bool) (xs : List α) : decide (0 ≤ idxI q xs) = xs.any q := by
  unfold idxI
  rw [List.any_eq]
  cases h : xs.findIdx? q with
  | none =>
    rw [List.findIdx?_eq_none_iff] at h
    simp; exact h
  | some i =>
    obtain ⟨hi, hq, _⟩ := List.findIdx?_eq_some_iff_getElem.1 h
    simp; exact ⟨_, List.getElem_mem hi, hq⟩

/-- all, some, false, next, always, until -/
def words : List ByteArray := [⟨#[97, 108, 108]⟩, ⟨#[115, 111, 109, 101]⟩, ⟨#[102, 97, 108, 115, 101]⟩, ⟨#[110, 101, 120, 116]⟩, ⟨#[97, 108, 119, 97, 121, 115]⟩, ⟨#[117, 110, 116, 105, 108]⟩]
def isWord (s : ByteArray) : Bool := words.any (fun c => s.toList == c.toList)
/-- The first byte as f says, all others as p says, 1 to 16 bytes, no word. -/
def nameB (f p : Int → Bool) (s : ByteArray) : Bool :=
  match s.data.toList with
  | [] => false
  | c :: r => decide (r.length < 16) && f (c.toNat : Int) && !isWord s && r.all (fun c => p (c.toNat : Int))

theorem bs_cons {s : ByteArray} (h : 1 ≤ s.size) : ∃ r, s.data.toList = s[0] :: r ∧ r = (s.extract 1 s.size).data.toList ∧ r.length + 1 = s.size := by
  obtain ⟨⟨l⟩⟩ := s
  cases l with
  | nil => simp [ByteArray.size] at h
  | cons c r => exact ⟨r, rfl, by simp [ByteArray.size], by simp [ByteArray.size]⟩
theorem nameB_first {f p : Int → Bool} {s : ByteArray} (h : 1 ≤ s.size) (hf : f (s[0].toNat : Int) = false) : nameB f p s = false := by
  obtain ⟨r, e, _, _⟩ := bs_cons h
  simp only [nameB, e]; simp [hf]
theorem nameB_word {f p : Int → Bool} {s : ByteArray} (hw : isWord s = true) : nameB f p s = false := by
  unfold nameB; split <;> simp [hw]
theorem nameB_size {f p : Int → Bool} {s : ByteArray} (h : ¬(1 ≤ s.size ∧ s.size ≤ 16)) : nameB f p s = false := by
  unfold nameB
  split
  · rfl
  · rename_i c r e
    have : s.size = r.length + 1 := by rw [← s.size_data, ← Array.length_toList, e]; rfl
    have h2 : ¬ r.length < 16 := by omega
    simp [h2]
theorem nameB_rest {f p : Int → Bool} {s : ByteArray} (h : 1 ≤ s.size) (h2 : s.size ≤ 16) (hf : f (s[0].toNat : Int) = true) (hw : isWord s = false) :
    nameB f p s = !((s.extract 1 s.size).data.toList.any fun c => !p (c.toNat : Int)) := by
  obtain ⟨r, e, e2, e3⟩ := bs_cons h
  have h3 : r.length < 16 := by omega
  simp only [nameB, e, ← e2, List.all_eq_not_any_not]; simp [hf, hw, h3]

def isVar (s : ByteArray) : Bool := nameB varI digitI s
def isFun (s : ByteArray) : Bool := nameB funI alnumI s
def isPred (s : ByteArray) : Bool := nameB capitalI alnumI s
/-- A question mark, then a name of a kind; at most 16 bytes. -/
def metaB (p : ByteArray → Bool) (s : ByteArray) : Bool := decide (s.size ≤ 16) && decide (1 < s.size) && (s.data.toList.head? == some 63) && p (s.extract 1 s.size)
def isMetaT (s : ByteArray) : Bool := metaB isFun s
def isMetaF (s : ByteArray) : Bool := metaB isPred s
def isMeta (s : ByteArray) : Bool := isMetaT s || isMetaF s
theorem metaB_size {p : ByteArray → Bool} {s : ByteArray} (h : ¬(s.size ≤ 16 ∧ 1 < s.size)) : metaB p s = false := by
  unfold metaB
  by_cases h1 : s.size ≤ 16
  · have : ¬ 1 < s.size := fun h2 => h ⟨h1, h2⟩
    simp [this]
  · simp [h1]
theorem metaB_first {p : ByteArray → Bool} {s : ByteArray} (h : 1 ≤ s.size) (hf : ¬ (s[0].toNat : Int) = 63) : metaB p s = false := by
  obtain ⟨r, e, _, _⟩ := bs_cons h
  unfold metaB
  rw [e]
  have : ¬ s[0] = 63 := fun h => hf (by rw [h]; rfl)
  simp [this]
theorem metaB_rest {p : ByteArray → Bool} {s : ByteArray} (h1 : s.size ≤ 16) (h2 : 1 < s.size) (hf : (s[0].toNat : Int) = 63) : metaB p s = p (s.extract 1 s.size) := by
  obtain ⟨r, e, _, _⟩ := bs_cons (s := s) (by omega)
  unfold metaB
  rw [e]
  have : s[0] = 63 := UInt8.toNat_inj.1 (by simpa using (by omega : s[0].toNat = 63))
  simp [h1, h2, this]

/-- The signs, longer ones ahead of those that they begin with. -/
def signsL : List ByteArray := [⟨#[60, 45, 62]⟩, ⟨#[45, 62]⟩, ⟨#[60, 62]⟩, ⟨#[91, 93]⟩, ⟨#[40]⟩, ⟨#[41]⟩, ⟨#[44]⟩, ⟨#[126]⟩, ⟨#[38]⟩, ⟨#[124]⟩, ⟨#[47]⟩, ⟨#[91]⟩, ⟨#[93]⟩]

/-- letters and digits at the head of a list -/
def isAlnum (c : UInt8) : Bool := alphaI (c.toNat : Int) || digitI (c.toNat : Int)
def runLen (l : List UInt8) : Nat := (l.takeWhile isAlnum).length
/-- How far a run goes from place i on. -/
def runFrom (s : ByteArray) (i : Nat) : Nat := runLen (s.data.toList.drop i)
theorem runFrom_end {s : ByteArray} {i : Nat} (h : s.size ≤ i) : runFrom s i = 0 := by
  unfold runFrom runLen
  rw [List.drop_eq_nil_of_le (by simpa using h)]; rfl
theorem drop_get {s : ByteArray} {i : Nat} (h : i < s.size) : s.data.toList.drop i = s[i] :: s.data.toList.drop (i + 1) := by
  rw [List.drop_eq_getElem_cons (by simpa using h)]; rfl
theorem runFrom_no {s : ByteArray} {i : Nat} (h : i < s.size) (hn : isAlnum s[i] = false) : runFrom s i = 0 := by
  unfold runFrom runLen
  rw [drop_get h, List.takeWhile_cons_of_neg (by simp [hn])]; rfl
theorem runFrom_yes {s : ByteArray} {i : Nat} (h : i < s.size) (hn : isAlnum s[i] = true) : runFrom s i = runFrom s (i + 1) + 1 := by
  unfold runFrom runLen
  rw [drop_get h, List.takeWhile_cons_of_pos hn]; rfl
theorem runFrom_le (s : ByteArray) (i : Nat) (h : i ≤ s.size) : i + runFrom s i ≤ s.size := by
  unfold runFrom runLen
  have := (List.takeWhile_sublist (p := isAlnum) (l := s.data.toList.drop i)).length_le
  simp at this; omega

/-- a list of bytes begins with a text -/
def startsWith (l : List UInt8) (p : ByteArray) : Bool := p.data.toList.isPrefixOf l

/-- The first of the signs that a text begins with: its length. -/
def signLen (l : List UInt8) : Option Nat := (signsL.find? (fun g => startsWith l g)).map (·.size)
/-- A name: a variable, a function or a predicate. -/
def isName (s : ByteArray) : Bool := isVar s || isFun s || isPred s

/-! ## The tokens of a text -/
structure Tok where
  kind : Int
  text : ByteArray
  at_ : Nat

def isBlank (c : UInt8) : Bool := c == 32 || c == 9 || c == 10 || c == 13
/-- How many blanks stand from place i on. -/
def blanks (s : ByteArray) (i : Nat) : Nat := ((s.data.toList.drop i).takeWhile isBlank).length
theorem blanks_end {s : ByteArray} {i : Nat} (h : s.size ≤ i) : blanks s i = 0 := by
  unfold blanks
  rw [List.drop_eq_nil_of_le (by simpa using h)]; rfl
theorem blanks_no {s : ByteArray} {i : Nat} (h : i < s.size) (hn : isBlank s[i] = false) : blanks s i = 0 := by
  unfold blanks
  rw [drop_get h, List.takeWhile_cons_of_neg (by simp [hn])]; rfl
theorem blanks_yes {s : ByteArray} {i : Nat} (h : i < s.size) (hn : isBlank s[i] = true) : blanks s i = blanks s (i + 1) + 1 := by
  unfold blanks
  rw [drop_get h, List.takeWhile_cons_of_pos hn]; rfl
theorem blanks_le (s : ByteArray) (i : Nat) (h : i ≤ s.size) : i + blanks s i ≤ s.size := by
  unfold blanks
  have := (List.takeWhile_sublist (p := isBlank) (l := s.data.toList.drop i)).length_le
  simp at this; omega

/-- A token's kind, its length, an error: a run, a mark, a sign. -/
def nameAt (s : ByteArray) (i : Nat) : Int × Nat × Int :=
  if isWord (s.extract i (i + (1 + runFrom s (i + 1)))) then (3, 1 + runFrom s (i + 1), 0)
  else if isName (s.extract i (i + (1 + runFrom s (i + 1)))) then (1, 1 + runFrom s (i + 1), 0) else (0, 0, 41)
def metaAt (s : ByteArray) (i : Nat) : Int × Nat × Int :=
  if isMeta (s.extract i (i + (1 + runFrom s (i + 1)))) then (2, 1 + runFrom s (i + 1), 0) else (0, 0, 41)
def signAt (l : List UInt8) : Int × Nat × Int := match signLen l with | some n => (4, n, 0) | none => (0, 0, 40)
/-- What stands at place i, by its first byte. -/
def tokAt (s : ByteArray) (i : Nat) : Int × Nat × Int :=
  match s.data.toList.drop i with
  | [] => (0, 0, 40)
  | c :: _ => if alphaI (c.toNat : Int) then nameAt s i else if (c.toNat : Int) == 63 then metaAt s i else signAt (s.data.toList.drop i)
/-- The tokens from place i on; where the scanner stands at the end; the error. -/
def lexL (s : ByteArray) : Nat → Nat → List Tok × Nat × Int
  | 0, i => ([], i, 0)
  | f + 1, i =>
    if i + blanks s i = s.size then ([⟨5, ByteArray.empty, i + blanks s i⟩], i + blanks s i, 0)
    else if (tokAt s (i + blanks s i)).2.2 = 0 then
      (⟨(tokAt s (i + blanks s i)).1, s.extract (i + blanks s i) (i + blanks s i + (tokAt s (i + blanks s i)).2.1), i + blanks s i⟩ :: (lexL s f (i + blanks s i + (tokAt s (i + blanks s i)).2.1)).1,
        (lexL s f (i + blanks s i + (tokAt s (i + blanks s i)).2.1)).2)
    else ([], i + blanks s i, (tokAt s (i + blanks s i)).2.2)
/-- Lex: the tokens, the place, the error. -/
def lexS (s : ByteArray) : List Tok × Nat × Int :=
  if 16384 < s.size then ([], 0, 3)
  else if (lexL s (s.size + 1) 0).2.2 = 0 then ((lexL s (s.size + 1) 0).1, 0, 0) else ([], (lexL s (s.size + 1) 0).2)

end Go.Proofs.Ytodaembemcljnaa
