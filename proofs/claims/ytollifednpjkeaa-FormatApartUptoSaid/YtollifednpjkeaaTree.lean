import Derived.Test.YtollifednpjkeaaLexA
import Derived.Deep.Slices
import Derived.Carry
import Derived.OpenShut
/-
  Terms and formulas: as data, and as they lie in memory.
-/
namespace Go.Proofs.Ytollifednpjkeaa
open Go.RowKit Go.ChangeShapes Go.WideShapes Go.Deep

inductive Tm where
  | mk (v : Bool) (name : ByteArray) (args : List Tm)
inductive Fm where
  | mk (op : Int) (name : ByteArray) (args : List Tm) (sub : List Fm)
def Tm.v : Tm → Bool | .mk v _ _ => v
def Tm.name : Tm → ByteArray | .mk _ n _ => n
def Tm.args : Tm → List Tm | .mk _ _ a => a
def Fm.op : Fm → Int | .mk o _ _ _ => o
def Fm.name : Fm → ByteArray | .mk _ n _ _ => n
def Fm.args : Fm → List Tm | .mk _ _ a _ => a
def Fm.sub : Fm → List Fm | .mk _ _ _ s => s
instance : Inhabited Tm := ⟨.mk false ⟨#[]⟩ []⟩
instance : Inhabited Fm := ⟨.mk 0 ⟨#[]⟩ [] []⟩
theorem Tm.eta (t : Tm) : t = .mk t.v t.name t.args := by cases t; rfl
theorem Fm.eta (f : Fm) : f = .mk f.op f.name f.args f.sub := by cases f; rfl
theorem Tm.lt_args {t u : Tm} (h : u ∈ t.args) : SizeOf.sizeOf u < SizeOf.sizeOf t := by
  cases t with
  | mk v n a => have := List.sizeOf_lt_of_mem h; simp only [Tm.args] at this; simp; omega
theorem Fm.lt_args {f : Fm} {u : Tm} (h : u ∈ f.args) : SizeOf.sizeOf u < SizeOf.sizeOf f := by
  cases f with
  | mk o n a s => have := List.sizeOf_lt_of_mem h; simp only [Fm.args] at this; simp; omega
theorem Fm.lt_sub {f g : Fm} (h : g ∈ f.sub) : SizeOf.sizeOf g < SizeOf.sizeOf f := by
  cases f with
  | mk o n a s => have := List.sizeOf_lt_of_mem h; simp only [Fm.sub] at this; simp; omega

mutual
/-- How much there is: values and letters. -/
def Tm.wt : Tm → Nat
  | .mk _ n a => 1 + n.size + wts a
def wts : List Tm → Nat
  | [] => 0
  | t :: r => t.wt + wts r
end
mutual
def Fm.wt : Fm → Nat
  | .mk _ n a s => 1 + n.size + wts a + wfs s
def wfs : List Fm → Nat
  | [] => 0
  | f :: r => f.wt + wfs r
end
theorem Tm.wt_eq (t : Tm) : t.wt = 1 + t.name.size + wts t.args := by cases t; simp only [Tm.wt, Tm.name, Tm.args]
theorem Fm.wt_eq (f : Fm) : f.wt = 1 + f.name.size + wts f.args + wfs f.sub := by cases f; simp only [Fm.wt, Fm.name, Fm.args, Fm.sub]
theorem Tm.wt_pos (t : Tm) : 1 ≤ t.wt := by rw [Tm.wt_eq]; omega
theorem Fm.wt_pos (f : Fm) : 1 ≤ f.wt := by rw [Fm.wt_eq]; omega
theorem wts_length (l : List Tm) : l.length ≤ wts l := by
  induction l with
  | nil => simp
  | cons t r ih => have := t.wt_pos; simp only [wts, List.length_cons]; omega
theorem wfs_length (l : List Fm) : l.length ≤ wfs l := by
  induction l with
  | nil => simp
  | cons t r ih => have := t.wt_pos; simp only [wfs, List.length_cons]; omega
theorem wts_mem {l : List Tm} {t : Tm} (h : t ∈ l) : t.wt ≤ wts l := by
  induction l with
  | nil => cases h
  | cons x r ih =>
    simp only [wts]
    rcases List.mem_cons.1 h with rfl | h
    · omega
    · have := ih h; omega
theorem wfs_mem {l : List Fm} {t : Fm} (h : t ∈ l) : t.wt ≤ wfs l := by
  induction l with
  | nil => cases h
  | cons x r ih =>
    simp only [wfs]
    rcases List.mem_cons.1 h with rfl | h
    · omega
    · have := ih h; omega
theorem wts_bulk {H : Type} : ∀ (l : List Tm) (ds : List (DataW H)), l.length = ds.length → (∀ (i : Nat) (h : i < l.length) (h' : i < ds.length), l[i].wt ≤ Rows.uptoBulk ds[i]) → wts l ≤ Rows.uptoBulkAll ds := by
  intro l
  induction l with
  | nil => intro ds h _; cases ds with
    | nil => simp [wts]
    | cons => simp at h
  | cons t r ih =>
    intro ds h hi
    cases ds with
    | nil => simp at h
    | cons d e =>
      have h0 := hi 0 (by simp) (by simp)
      have h1 := ih e (by simpa using h) (fun i h1 h2 => by have := hi (i + 1) (by simpa using h1) (by simpa using h2); simpa using this)
      simp only [List.getElem_cons_zero] at h0
      simp only [wts, Rows.uptoBulkAll]; omega
theorem wfs_bulk {H : Type} : ∀ (l : List Fm) (ds : List (DataW H)), l.length = ds.length → (∀ (i : Nat) (h : i < l.length) (h' : i < ds.length), l[i].wt ≤ Rows.uptoBulk ds[i]) → wfs l ≤ Rows.uptoBulkAll ds := by
  intro l
  induction l with
  | nil => intro ds h _; cases ds with
    | nil => simp [wfs]
    | cons => simp at h
  | cons t r ih =>
    intro ds h hi
    cases ds with
    | nil => simp at h
    | cons d e =>
      have h0 := hi 0 (by simp) (by simp)
      have h1 := ih e (by simpa using h) (fun i h1 h2 => by have := hi (i + 1) (by simpa using h1) (by simpa using h2); simpa using this)
      simp only [List.getElem_cons_zero] at h0
      simp only [wfs, Rows.uptoBulkAll]; omega

/-- A slice that reads as a list of terms. -/
inductive TmsAt (W : World) : Value → List Tm → Prop
  | nil (a : Option Addr) (cap : Nat) (hcap : cap ≤ maxLen) : TmsAt W (.slice a 0 cap) []
  | row (b off cap : Nat) (ts : List Tm) (vs : Nat → Value) (h0 : 0 < ts.length) (h1 : ts.length ≤ cap) (hcap : cap ≤ maxLen) (hb : b < W.heap.size)
      (hc : ∀ (i : Nat) (h : i < ts.length), W.cell? ⟨b, off + i * 3, none⟩ = some (.bool ts[i].v) ∧ W.cell? ⟨b, off + i * 3 + 1, none⟩ = some (.string ts[i].name) ∧ W.cell? ⟨b, off + i * 3 + 2, none⟩ = some (vs i) ∧ ts[i].name.size ≤ maxLen)
      (hr : ∀ (i : Nat) (h : i < ts.length), TmsAt W (vs i) ts[i].args) : TmsAt W (.slice (some ⟨b, off, none⟩) ts.length cap) ts
/-- A slice that reads as a list of formulas. -/
inductive FmsAt (W : World) : Value → List Fm → Prop
  | nil (a : Option Addr) (cap : Nat) (hcap : cap ≤ maxLen) : FmsAt W (.slice a 0 cap) []
  | row (b off cap : Nat) (fs : List Fm) (vs us : Nat → Value) (h0 : 0 < fs.length) (h1 : fs.length ≤ cap) (hcap : cap ≤ maxLen) (hb : b < W.heap.size)
      (hc : ∀ (i : Nat) (h : i < fs.length), W.cell? ⟨b, off + i * 4, none⟩ = some (.int .u8 fs[i].op) ∧ W.cell? ⟨b, off + i * 4 + 1, none⟩ = some (.string fs[i].name) ∧ W.cell? ⟨b, off + i * 4 + 2, none⟩ = some (vs i) ∧ W.cell? ⟨b, off + i * 4 + 3, none⟩ = some (us i) ∧ fs[i].name.size ≤ maxLen ∧ 0 ≤ fs[i].op ∧ fs[i].op ≤ 255)
      (ha : ∀ (i : Nat) (h : i < fs.length), TmsAt W (vs i) fs[i].args) (hr : ∀ (i : Nat) (h : i < fs.length), FmsAt W (us i) fs[i].sub) : FmsAt W (.slice (some ⟨b, off, none⟩) fs.length cap) fs
/-- A term, a formula, by value. -/
def TmVal (W : World) (v : Value) (t : Tm) : Prop := ∃ x, v = .agg #[.bool t.v, .string t.name, x] ∧ TmsAt W x t.args ∧ t.name.size ≤ maxLen
def FmVal (W : World) (v : Value) (f : Fm) : Prop := ∃ x y, v = .agg #[.int .u8 f.op, .string f.name, x, y] ∧ TmsAt W x f.args ∧ FmsAt W y f.sub ∧ f.name.size ≤ maxLen ∧ 0 ≤ f.op ∧ f.op ≤ 255

theorem TmsAt.up {W W' : World} {v : Value} {ts : List Tm} (h : TmsAt W v ts) (hb : Below W.heap.size W W') : TmsAt W' v ts := by
  induction h with
  | nil a cap hcap => exact .nil a cap hcap
  | row b off cap ts vs h0 h1 hcap hlt hc _ ih =>
    refine .row b off cap ts vs h0 h1 hcap (Nat.lt_of_lt_of_le hlt hb.size) (fun i h => ?_) ih
    obtain ⟨c0, c1, c2, c3⟩ := hc i h
    exact ⟨(hb.cell (p := ⟨b, off + i * 3, none⟩) hlt).trans c0, (hb.cell (p := ⟨b, off + i * 3 + 1, none⟩) hlt).trans c1, (hb.cell (p := ⟨b, off + i * 3 + 2, none⟩) hlt).trans c2, c3⟩
theorem FmsAt.up {W W' : World} {v : Value} {fs : List Fm} (h : FmsAt W v fs) (hb : Below W.heap.size W W') : FmsAt W' v fs := by
  induction h with
  | nil a cap hcap => exact .nil a cap hcap
  | row b off cap fs vs us h0 h1 hcap hlt hc ha _ ih =>
    refine .row b off cap fs vs us h0 h1 hcap (Nat.lt_of_lt_of_le hlt hb.size) (fun i h => ?_) (fun i h => (ha i h).up hb) ih
    obtain ⟨c0, c1, c2, c3, c4⟩ := hc i h
    exact ⟨(hb.cell (p := ⟨b, off + i * 4, none⟩) hlt).trans c0, (hb.cell (p := ⟨b, off + i * 4 + 1, none⟩) hlt).trans c1, (hb.cell (p := ⟨b, off + i * 4 + 2, none⟩) hlt).trans c2, (hb.cell (p := ⟨b, off + i * 4 + 3, none⟩) hlt).trans c3, c4⟩
theorem TmVal.up {W W' : World} {v : Value} {t : Tm} (h : TmVal W v t) (hb : Below W.heap.size W W') : TmVal W' v t := by
  obtain ⟨x, e, h1, h2⟩ := h; exact ⟨x, e, h1.up hb, h2⟩
theorem FmVal.up {W W' : World} {v : Value} {f : Fm} (h : FmVal W v f) (hb : Below W.heap.size W W') : FmVal W' v f := by
  obtain ⟨x, y, e, h1, h2, h3⟩ := h; exact ⟨x, y, e, h1.up hb, h2.up hb, h3⟩

/-- A slice of terms, seen from the walk. -/
theorem TmsAt.at {W : World} {v : Value} {ts : List Tm} (h : TmsAt W v ts) : ∃ a cap, v = .slice a ts.length cap ∧ ts.length ≤ cap ∧ cap ≤ maxLen ∧ (0 < ts.length → ∃ b off, a = some ⟨b, off, none⟩ ∧ b < W.heap.size ∧ ∀ (i : Nat) (hi : i < ts.length), ∃ x,
    W.cell? ⟨b, off + i * 3, none⟩ = some (.bool ts[i].v) ∧ W.cell? ⟨b, off + i * 3 + 1, none⟩ = some (.string ts[i].name) ∧ W.cell? ⟨b, off + i * 3 + 2, none⟩ = some x ∧ TmsAt W x ts[i].args ∧ ts[i].name.size ≤ maxLen) := by
  cases h with
  | nil a cap hcap => exact ⟨a, cap, rfl, Nat.zero_le _, hcap, fun h => absurd h (Nat.lt_irrefl _)⟩
  | row b off cap ts vs h0 h1 hcap hlt hc hr => exact ⟨_, cap, rfl, h1, hcap, fun _ => ⟨b, off, rfl, hlt, fun i hi => ⟨vs i, (hc i hi).1, (hc i hi).2.1, (hc i hi).2.2.1, hr i hi, (hc i hi).2.2.2⟩⟩⟩
/-- A slice of formulas, seen from the walk. -/
theorem FmsAt.at {W : World} {v : Value} {fs : List Fm} (h : FmsAt W v fs) : ∃ a cap, v = .slice a fs.length cap ∧ fs.length ≤ cap ∧ cap ≤ maxLen ∧ (0 < fs.length → ∃ b off, a = some ⟨b, off, none⟩ ∧ b < W.heap.size ∧ ∀ (i : Nat) (hi : i < fs.length), ∃ x y,
    W.cell? ⟨b, off + i * 4, none⟩ = some (.int .u8 fs[i].op) ∧ W.cell? ⟨b, off + i * 4 + 1, none⟩ = some (.string fs[i].name) ∧ W.cell? ⟨b, off + i * 4 + 2, none⟩ = some x ∧ W.cell? ⟨b, off + i * 4 + 3, none⟩ = some y ∧ TmsAt W x fs[i].args ∧ FmsAt W y fs[i].sub ∧ fs[i].name.size ≤ maxLen ∧ 0 ≤ fs[i].op ∧ fs[i].op ≤ 255) := by
  cases h with
  | nil a cap hcap => exact ⟨a, cap, rfl, Nat.zero_le _, hcap, fun h => absurd h (Nat.lt_irrefl _)⟩
  | row b off cap fs vs us h0 h1 hcap hlt hc ha hr => exact ⟨_, cap, rfl, h1, hcap, fun _ => ⟨b, off, rfl, hlt, fun i hi => ⟨vs i, us i, (hc i hi).1, (hc i hi).2.1, (hc i hi).2.2.1, (hc i hi).2.2.2.1, ha i hi, hr i hi, (hc i hi).2.2.2.2⟩⟩⟩

/-! ## A datum that came in -/
section
variable {H : Type} {enc : TypeId × Value → H} {w : World} {spare : Nat → Bool} {held : Bool}
theorem spot_none {w : World} {a : Addr} {v : Value} (h : w.cell? a = some v) : a = ⟨a.block, a.off, none⟩ := by
  obtain ⟨b, o, s⟩ := a
  cases s with
  | none => rfl
  | some k =>
    unfold World.cell? at h
    dsimp only at h
    split at h
    · simp at h
    · cases h
set_option maxRecDepth 100000 in
theorem open_terms : ∀ (fuel : Nat), (∀ cs x, DataW.trod enc Try.prog w 0 spare held fuel 22 cs = some x → ∃ v ts, cs = [v] ∧ TmsAt w v ts ∧ wts ts + 1 ≤ Rows.uptoBulk x.1) ∧
    (∀ cs x, DataW.trod enc Try.prog w 0 spare held fuel 34 cs = some x → ∃ (t : Tm) (v : Value), cs = [.bool t.v, .string t.name, v] ∧ TmsAt w v t.args ∧ t.name.size ≤ maxLen ∧ t.wt ≤ Rows.uptoBulk x.1) := by
  intro fuel
  induction fuel with
  | zero => exact ⟨fun cs x h => by simp [DataW.trod] at h, fun cs x h => by simp [DataW.trod] at h⟩
  | succ n ih =>
    refine ⟨fun cs x h => ?_, fun cs x h => ?_⟩
    · rcases DataW.trod_slice Try.underlying22 h with ⟨rfl, rfl⟩ | ⟨a, len, cap, elems, rest, n', hn, rfl, rfl, _, hl, hm, hlen, hel, _, _⟩
      · exact ⟨_, [], rfl, .nil _ _ (Nat.zero_le _), by simp [wts, Rows.uptoBulk]⟩
      · obtain rfl : n' = n := by omega
        have hC : Try.prog.cellsOf 34 = 3 := by kernel_rfl
        rw [hC] at hel
        have hall : ∀ i, i < len → ∃ p : Tm × Value, (∀ h : i < elems.length, p.1.wt ≤ Rows.uptoBulk elems[i].1) ∧ w.cell? (a.add (i * 3)) = some (.bool p.1.v) ∧ w.cell? (a.add (i * 3 + 1)) = some (.string p.1.name) ∧ w.cell? (a.add (i * 3 + 2)) = some p.2 ∧ TmsAt w p.2 p.1.args ∧ p.1.name.size ≤ maxLen := by
          intro i hi
          have h1 := hel i hi
          rw [List.getElem?_eq_getElem (by omega)] at h1
          obtain ⟨cs', hc', ht'⟩ := Option.bind_eq_some_iff.1 h1
          obtain ⟨t, v, rfl, htv, hsz, hwt⟩ := ih.2 _ _ ht'
          obtain ⟨_, _, hat⟩ := World.cells?_some hc'
          have c0 := hat 0 (by omega)
          have c1 := hat 1 (by omega)
          have c2 := hat 2 (by omega)
          rw [Go.Deep.add_add] at c0 c1 c2
          exact ⟨(t, v), fun _ => hwt, c0, c1, c2, htv, hsz⟩
        by_cases h0 : len = 0
        · subst h0; exact ⟨_, [], rfl, .nil _ _ hm, by simp [wts, Rows.uptoBulk]⟩
        · let F : Nat → Tm × Value := fun i => if h : i < len then Classical.choose (hall i h) else default
          have hF : ∀ i, i < len → (∀ h : i < elems.length, (F i).1.wt ≤ Rows.uptoBulk elems[i].1) ∧ w.cell? (a.add (i * 3)) = some (.bool (F i).1.v) ∧ w.cell? (a.add (i * 3 + 1)) = some (.string (F i).1.name) ∧ w.cell? (a.add (i * 3 + 2)) = some (F i).2 ∧ TmsAt w (F i).2 (F i).1.args ∧ (F i).1.name.size ≤ maxLen := by
            intro i hi
            have := Classical.choose_spec (hall i hi)
            simp only [F, dif_pos hi]; exact this
          have ha := spot_none (by have := (hF 0 (by omega)).2.1; rw [Nat.zero_mul] at this; exact this : w.cell? a = some _)
          obtain ⟨b, off, sp⟩ := a
          cases ha
          have hadd : ∀ k, (⟨b, off, none⟩ : Addr).add k = ⟨b, off + k, none⟩ := fun k => by unfold Addr.add; split <;> simp_all
          have hrow := TmsAt.row (W := w) b off cap ((List.range len).map fun i => (F i).1) (fun i => (F i).2) (by simp; omega) (by simp; omega) hm
            (World.block_lt_of_cell? w _ (by have := (hF 0 (by omega)).2.1; exact this)) (fun i h => by
              simp only [List.length_map, List.length_range] at h
              obtain ⟨_, c0, c1, c2, _, c4⟩ := hF i h
              simp only [hadd] at c0 c1 c2
              simp only [List.getElem_map, List.getElem_range]
              exact ⟨c0, c1, c2, c4⟩) (fun i h => by
              simp only [List.length_map, List.length_range] at h
              simp only [List.getElem_map, List.getElem_range]
              exact (hF i h).2.2.2.2.1)
          simp only [List.length_map, List.length_range] at hrow
          refine ⟨_, _, rfl, hrow, ?_⟩
          have := wts_bulk ((List.range len).map fun i => (F i).1) (elems.map (·.1)) (by simp [hlen]) (fun i h h' => by
            simp only [List.length_map, List.length_range] at h
            simp only [List.getElem_map, List.getElem_range]
            exact (hF i h).1 (by omega))
          simp only [Rows.uptoBulk]; omega
    · obtain ⟨xs, n', hn, rfl, hlen, hxl, hg⟩ := DataW.trod_struct Try.underlying34 h
      obtain rfl : n' = n := by omega
      have hC : Try.prog.cellsOf 34 = 3 := by kernel_rfl
      rw [hC] at hlen
      have hx : ∀ i, i < xs.length → xs[i]? = some (xs[i]?.getD default) := fun i hi => by rw [List.getElem?_eq_getElem hi]; rfl
      match cs, hlen with
      | [c0, c1, c2], _ =>
        have h0 : DataW.trod enc Try.prog w 0 spare held n' 4 (([c0, c1, c2].drop 0).take (Try.prog.cellsOf 4)) = xs[0]? := hg 0 _ rfl
        have h1 : DataW.trod enc Try.prog w 0 spare held n' 9 (([c0, c1, c2].drop 1).take (Try.prog.cellsOf 9)) = xs[1]? := hg 1 _ rfl
        have h2 : DataW.trod enc Try.prog w 0 spare held n' 22 (([c0, c1, c2].drop 2).take (Try.prog.cellsOf 22)) = xs[2]? := hg 2 _ rfl
        rw [show Try.prog.cellsOf 4 = 1 by kernel_rfl, hx 0 (by rw [hxl]; decide)] at h0
        rw [show Try.prog.cellsOf 9 = 1 by kernel_rfl, hx 1 (by rw [hxl]; decide)] at h1
        rw [show Try.prog.cellsOf 22 = 1 by kernel_rfl, hx 2 (by rw [hxl]; decide)] at h2
        obtain ⟨b, e0, q0⟩ := DataW.trod_bool Try.underlying4 h0
        obtain ⟨s, e1, q1, hs⟩ := DataW.trod_string Try.underlying9 h1
        obtain ⟨v, ts, e2, hv, q2⟩ := ih.1 _ _ h2
        simp only [List.drop, List.take] at e0 e1 e2
        cases e0
        cases e1
        cases e2
        refine ⟨.mk b s ts, _, rfl, hv, hs, ?_⟩
        match xs, hxl with
        | [y0, y1, y2], _ =>
          simp only [List.getElem?_cons_zero, List.getElem?_cons_succ, Option.getD_some] at q0 q1 q2
          simp only [List.map_cons, List.map_nil, Rows.uptoBulk, Rows.uptoBulkAll, Tm.wt, q0, q1]
          have : s.data.toList.length = s.size := by simp
          omega
set_option maxRecDepth 100000 in
theorem open_forms : ∀ (fuel : Nat), (∀ cs x, DataW.trod enc Try.prog w 0 spare held fuel 23 cs = some x → ∃ v fs, cs = [v] ∧ FmsAt w v fs ∧ wfs fs + 1 ≤ Rows.uptoBulk x.1) ∧
    (∀ cs x, DataW.trod enc Try.prog w 0 spare held fuel 25 cs = some x → ∃ (f : Fm) (v u : Value), cs = [.int .u8 f.op, .string f.name, v, u] ∧ TmsAt w v f.args ∧ FmsAt w u f.sub ∧ f.name.size ≤ maxLen ∧ 0 ≤ f.op ∧ f.op ≤ 255 ∧ f.wt ≤ Rows.uptoBulk x.1) := by
  intro fuel
  induction fuel with
  | zero => exact ⟨fun cs x h => by simp [DataW.trod] at h, fun cs x h => by simp [DataW.trod] at h⟩
  | succ n ih =>
    refine ⟨fun cs x h => ?_, fun cs x h => ?_⟩
    · rcases DataW.trod_slice Try.underlying23 h with ⟨rfl, rfl⟩ | ⟨a, len, cap, elems, rest, n', hn, rfl, rfl, _, hl, hm, hlen, hel, _, _⟩
      · exact ⟨_, [], rfl, .nil _ _ (Nat.zero_le _), by simp [wfs, Rows.uptoBulk]⟩
      · obtain rfl : n' = n := by omega
        have hC : Try.prog.cellsOf 25 = 4 := by kernel_rfl
        rw [hC] at hel
        have hall : ∀ i, i < len → ∃ p : Fm × Value × Value, (∀ h : i < elems.length, p.1.wt ≤ Rows.uptoBulk elems[i].1) ∧ w.cell? (a.add (i * 4)) = some (.int .u8 p.1.op) ∧ w.cell? (a.add (i * 4 + 1)) = some (.string p.1.name) ∧ w.cell? (a.add (i * 4 + 2)) = some p.2.1 ∧ w.cell? (a.add (i * 4 + 3)) = some p.2.2 ∧ TmsAt w p.2.1 p.1.args ∧ FmsAt w p.2.2 p.1.sub ∧ p.1.name.size ≤ maxLen ∧ 0 ≤ p.1.op ∧ p.1.op ≤ 255 := by
          intro i hi
          have h1 := hel i hi
          rw [List.getElem?_eq_getElem (by omega)] at h1
          obtain ⟨cs', hc', ht'⟩ := Option.bind_eq_some_iff.1 h1
          obtain ⟨f, v, u, rfl, hv, hu, hz1, hz2, hz3, hwt⟩ := ih.2 _ _ ht'
          obtain ⟨_, _, hat⟩ := World.cells?_some hc'
          have c0 := hat 0 (by omega)
          have c1 := hat 1 (by omega)
          have c2 := hat 2 (by omega)
          have c3 := hat 3 (by omega)
          rw [Go.Deep.add_add] at c0 c1 c2 c3
          exact ⟨(f, v, u), fun _ => hwt, c0, c1, c2, c3, hv, hu, hz1, hz2, hz3⟩
        by_cases h0 : len = 0
        · subst h0; exact ⟨_, [], rfl, .nil _ _ hm, by simp [wfs, Rows.uptoBulk]⟩
        · let F : Nat → Fm × Value × Value := fun i => if h : i < len then Classical.choose (hall i h) else default
          have hF : ∀ i, i < len → (∀ h : i < elems.length, (F i).1.wt ≤ Rows.uptoBulk elems[i].1) ∧ w.cell? (a.add (i * 4)) = some (.int .u8 (F i).1.op) ∧ w.cell? (a.add (i * 4 + 1)) = some (.string (F i).1.name) ∧ w.cell? (a.add (i * 4 + 2)) = some (F i).2.1 ∧ w.cell? (a.add (i * 4 + 3)) = some (F i).2.2 ∧ TmsAt w (F i).2.1 (F i).1.args ∧ FmsAt w (F i).2.2 (F i).1.sub ∧ (F i).1.name.size ≤ maxLen ∧ 0 ≤ (F i).1.op ∧ (F i).1.op ≤ 255 := by
            intro i hi
            have := Classical.choose_spec (hall i hi)
            simp only [F, dif_pos hi]; exact this
          have ha := spot_none (by have := (hF 0 (by omega)).2.1; rw [Nat.zero_mul] at this; exact this : w.cell? a = some _)
          obtain ⟨b, off, sp⟩ := a
          cases ha
          have hadd : ∀ k, (⟨b, off, none⟩ : Addr).add k = ⟨b, off + k, none⟩ := fun k => by unfold Addr.add; split <;> simp_all
          have hrow := FmsAt.row (W := w) b off cap ((List.range len).map fun i => (F i).1) (fun i => (F i).2.1) (fun i => (F i).2.2) (by simp; omega) (by simp; omega) hm
            (World.block_lt_of_cell? w _ (by have := (hF 0 (by omega)).2.1; exact this)) (fun i h => by
              simp only [List.length_map, List.length_range] at h
              obtain ⟨_, c0, c1, c2, c3, _, _, c4⟩ := hF i h
              simp only [hadd] at c0 c1 c2 c3
              simp only [List.getElem_map, List.getElem_range]
              exact ⟨c0, c1, c2, c3, c4⟩) (fun i h => by
              simp only [List.length_map, List.length_range] at h
              simp only [List.getElem_map, List.getElem_range]
              exact (hF i h).2.2.2.2.2.1) (fun i h => by
              simp only [List.length_map, List.length_range] at h
              simp only [List.getElem_map, List.getElem_range]
              exact (hF i h).2.2.2.2.2.2.1)
          simp only [List.length_map, List.length_range] at hrow
          refine ⟨_, _, rfl, hrow, ?_⟩
          have := wfs_bulk ((List.range len).map fun i => (F i).1) (elems.map (·.1)) (by simp [hlen]) (fun i h h' => by
            simp only [List.length_map, List.length_range] at h
            simp only [List.getElem_map, List.getElem_range]
            exact (hF i h).1 (by omega))
          simp only [Rows.uptoBulk]; omega
    · obtain ⟨xs, n', hn, rfl, hlen, hxl, hg⟩ := DataW.trod_struct Try.underlying25 h
      obtain rfl : n' = n := by omega
      have hC : Try.prog.cellsOf 25 = 4 := by kernel_rfl
      rw [hC] at hlen
      have hx : ∀ i, i < xs.length → xs[i]? = some (xs[i]?.getD default) := fun i hi => by rw [List.getElem?_eq_getElem hi]; rfl
      match cs, hlen with
      | [c0, c1, c2, c3], _ =>
        have h0 : DataW.trod enc Try.prog w 0 spare held n' 5 (([c0, c1, c2, c3].drop 0).take (Try.prog.cellsOf 5)) = xs[0]? := hg 0 _ rfl
        have h1 : DataW.trod enc Try.prog w 0 spare held n' 9 (([c0, c1, c2, c3].drop 1).take (Try.prog.cellsOf 9)) = xs[1]? := hg 1 _ rfl
        have h2 : DataW.trod enc Try.prog w 0 spare held n' 22 (([c0, c1, c2, c3].drop 2).take (Try.prog.cellsOf 22)) = xs[2]? := hg 2 _ rfl
        have h3 : DataW.trod enc Try.prog w 0 spare held n' 23 (([c0, c1, c2, c3].drop 3).take (Try.prog.cellsOf 23)) = xs[3]? := hg 3 _ rfl
        rw [show Try.prog.cellsOf 5 = 1 by kernel_rfl, hx 0 (by rw [hxl]; decide)] at h0
        rw [show Try.prog.cellsOf 9 = 1 by kernel_rfl, hx 1 (by rw [hxl]; decide)] at h1
        rw [show Try.prog.cellsOf 22 = 1 by kernel_rfl, hx 2 (by rw [hxl]; decide)] at h2
        rw [show Try.prog.cellsOf 23 = 1 by kernel_rfl, hx 3 (by rw [hxl]; decide)] at h3
        obtain ⟨o, e0, q0, hwf⟩ := DataW.trod_int Try.underlying5 h0
        obtain ⟨s, e1, q1, hs⟩ := DataW.trod_string Try.underlying9 h1
        obtain ⟨v, ts, e2, hv, q2⟩ := (open_terms n').1 _ _ h2
        obtain ⟨u, fs, e3, hu, q3⟩ := ih.1 _ _ h3
        simp only [List.drop, List.take] at e0 e1 e2 e3
        cases e0
        cases e1
        cases e2
        cases e3
        have := bounds_u8 hwf
        refine ⟨.mk o s ts fs, _, _, rfl, hv, hu, hs, this.1, this.2, ?_⟩
        match xs, hxl with
        | [y0, y1, y2, y3], _ =>
          simp only [List.getElem?_cons_zero, List.getElem?_cons_succ, Option.getD_some] at q0 q1 q2 q3
          simp only [List.map_cons, List.map_nil, Rows.uptoBulk, Rows.uptoBulkAll, Fm.wt, q0, q1]
          have : s.data.toList.length = s.size := by simp
          omega
/-- A formula, terms, formulas that came in. -/
theorem form_of_trod {v : Value} {d : DataW H} {p : List MemPlace} (h : DataW.Trod enc Try.prog w 0 spare held 25 v d p) (hv : ∃ cs, v = .agg cs) : ∃ f, FmVal w v f ∧ f.wt ≤ Rows.uptoBulk d := by
  obtain ⟨fuel, hf⟩ := h
  obtain ⟨cs, rfl⟩ := hv
  obtain ⟨f, x, y, hc, h1, h2, h3, h4, h5, h6⟩ := (open_forms fuel).2 _ _ hf
  refine ⟨f, ⟨x, y, ?_, h1, h2, h3, h4, h5⟩, h6⟩
  have : cs = #[.int .u8 f.op, .string f.name, x, y] := Array.toList_inj.1 (by simpa [Value.cells] using hc)
  rw [this]
theorem term_of_trod {v : Value} {d : DataW H} {p : List MemPlace} (h : DataW.Trod enc Try.prog w 0 spare held 34 v d p) (hv : ∃ cs, v = .agg cs) : ∃ t, TmVal w v t ∧ t.wt ≤ Rows.uptoBulk d := by
  obtain ⟨fuel, hf⟩ := h
  obtain ⟨cs, rfl⟩ := hv
  obtain ⟨t, x, hc, h1, h2, h3⟩ := (open_terms fuel).2 _ _ hf
  refine ⟨t, ⟨x, ?_, h1, h2⟩, h3⟩
  have : cs = #[.bool t.v, .string t.name, x] := Array.toList_inj.1 (by simpa [Value.cells] using hc)
  rw [this]
end

end Go.Proofs.Ytollifednpjkeaa
