import Derived.Test.YtollifednpjkeaaTreeE
/-
  How deep a formula is.
-/
namespace Go.Proofs.Ytollifednpjkeaa
open Go.RowKit

mutual
def Tm.hi : Tm → Nat
  | .mk _ _ a => 1 + hiTs a
def hiTs : List Tm → Nat
  | [] => 0
  | t :: r => max t.hi (hiTs r)
end
mutual
def Fm.dp : Fm → Nat
  | .mk _ _ a s => max (hiTs a) (dpFs s) + 1
def dpFs : List Fm → Nat
  | [] => 0
  | f :: r => max f.dp (dpFs r)
end
theorem Tm.hi_eq (t : Tm) : t.hi = 1 + hiTs t.args := by cases t; simp only [Tm.hi, Tm.args]
theorem Fm.dp_eq (f : Fm) : f.dp = max (hiTs f.args) (dpFs f.sub) + 1 := by cases f; simp only [Fm.dp, Fm.args, Fm.sub]
theorem hiTs_append (l m : List Tm) : hiTs (l ++ m) = max (hiTs l) (hiTs m) := by
  induction l with
  | nil => simp [hiTs]
  | cons x r ih => simp only [List.cons_append, hiTs, ih]; omega
theorem dpFs_append (l m : List Fm) : dpFs (l ++ m) = max (dpFs l) (dpFs m) := by
  induction l with
  | nil => simp [dpFs]
  | cons x r ih => simp only [List.cons_append, dpFs, ih]; omega
theorem hiTs_snoc (l : List Tm) (k : Nat) (h : k < l.length) : hiTs (l.take (k + 1)) = max (hiTs (l.take k)) l[k].hi := by
  rw [List.take_succ_eq_append_getElem h, hiTs_append]; simp [hiTs]
theorem dpFs_snoc (l : List Fm) (k : Nat) (h : k < l.length) : dpFs (l.take (k + 1)) = max (dpFs (l.take k)) l[k].dp := by
  rw [List.take_succ_eq_append_getElem h, dpFs_append]; simp [dpFs]
theorem hiTs_le : ∀ (N : Nat) (l : List Tm), wts l ≤ N → hiTs l ≤ wts l := by
  intro N
  induction N with
  | zero =>
    intro l h
    have : l = [] := by have := wts_length l; exact List.eq_nil_of_length_eq_zero (by omega)
    subst this; simp [hiTs]
  | succ N ih =>
    intro l
    induction l with
    | nil => intro _; simp [hiTs]
    | cons t r ihr =>
      intro h
      have h1 := t.wt_eq
      simp only [wts] at h
      have h2 := ih t.args (by omega)
      have h3 := ihr (by omega)
      simp only [hiTs, Tm.hi_eq, wts]; omega
theorem dpFs_le : ∀ (N : Nat) (l : List Fm), wfs l ≤ N → dpFs l ≤ wfs l := by
  intro N
  induction N with
  | zero =>
    intro l h
    have : l = [] := by have := wfs_length l; exact List.eq_nil_of_length_eq_zero (by omega)
    subst this; simp [dpFs]
  | succ N ih =>
    intro l
    induction l with
    | nil => intro _; simp [dpFs]
    | cons f r ihr =>
      intro h
      have h1 := f.wt_eq
      simp only [wfs] at h
      have h2 := ih f.sub (by omega)
      have h3 := ihr (by omega)
      have h4 := hiTs_le _ f.args (Nat.le_refl _)
      simp only [dpFs, Fm.dp_eq, wfs]; omega

set_option maxHeartbeats 1000000 in
theorem high_any : ∀ (N : Nat) (l : List Tm), wts l ≤ N → N ≤ 10000000 → ∀ (v : Value) (w : World), TmsAt w v l →
    Calls Try.prog 75 #[v] w fun e w' => e = .returned (.int .i64 (hiTs l : Int)) ∧ Below w.heap.size w w' := by
  intro N
  induction N with
  | zero =>
    intro l hl _ v w hv
    have : l = [] := by have := wts_length l; exact List.eq_nil_of_length_eq_zero (by omega)
    subst this
    obtain ⟨a, cap, rfl, hcap, hmax, _⟩ := hv.at
    simp only [List.length_nil]
    go_enter Try.func75, Try.ntmps75
    go_wp2_with fail
    go_loop [3, 8] (fun n i => n = .int .i64 0 ∧ i = .int .i64 0) (fun _ _ => 0)
    case atStart => exact ⟨rfl, rfl⟩
    case round =>
      obtain ⟨rfl, rfl⟩ := hrel
      go_wp2_with fail
      go_ret
      exact ⟨by simp [hiTs], Below.refl _ _⟩
  | succ N ih =>
    intro l hl hN v w hv
    obtain ⟨a, cap, rfl, hcap, hmax, hcells⟩ := hv.at
    have HC := Lib.hid hcells
    have IH := Lib.hid ih
    clear hcells ih hv
    have hlen := wts_length l
    go_enter Try.func75, Try.ntmps75
    go_wp2_with fail
    go_loopw [3, 8] (fun n i wr => ∃ (k : Nat) (m : Nat), n = .int .i64 (m : Int) ∧ i = .int .i64 (k : Int) ∧ k ≤ l.length ∧ m ≤ wts l ∧ Hid (m = hiTs (l.take k)) ∧ Below w.heap.size w wr) (fun _ i _ => l.length - (intOf i).toNat)
    case atStart => exact ⟨0, 0, rfl, rfl, Nat.zero_le _, Nat.zero_le _, by show _ = _; simp [hiTs], Below.refl _ _⟩
    case round =>
      obtain ⟨k, m, rfl, rfl, hk, hm1, HS, hb⟩ := hrel
      by_cases hlt : k < l.length
      · obtain ⟨b, off, rfl, hbl, hc⟩ := HC.out (by omega)
        obtain ⟨x, c0, c1, c2, hx, hsz⟩ := hc k hlt
        obtain ⟨ax, cx, rfl, _⟩ := hx.at
        have d0 := (hb.cell (p := ⟨b, off + k * 3, none⟩) hbl).trans c0
        have d1 := (hb.cell (p := ⟨b, off + k * 3 + 1, none⟩) hbl).trans c1
        have d2 := (hb.cell (p := ⟨b, off + k * 3 + 2, none⟩) hbl).trans c2
        have hwk : l[k].wt ≤ wts l := wts_mem (List.getElem_mem hlt)
        have hwe := Tm.wt_eq l[k]
        have hargs : wts l[k].args ≤ N := by omega
        have hh := hiTs_le _ l[k].args (Nat.le_refl _)
        have hsn := hiTs_snoc l k hlt
        have hhe := Tm.hi_eq l[k]
        obtain ⟨c, hcc⟩ : ∃ c, hiTs l[k].args = c := ⟨_, rfl⟩
        rw [hcc] at hh hhe
        have hh2 : 1 + c ≤ wts l := by omega
        have HSN := Lib.hid (And.intro hsn (And.intro hhe hcc))
        have s1 : IntKind.i64.wrap (1 + (c : Int)) = 1 + (c : Int) := IntWalk.i64_in _ (by omega)
        clear hsn hhe hcc c0 c1 c2 hc hwe
        go_wp2_with fail
        refine (IH.out l[k].args hargs (by omega) _ _ (((hx.up hb)).up ((Below.refl _ _).alloc (Nat.le_refl _) _))).mono ?_
        rintro e w2 ⟨rfl, hb2⟩
        rw [HSN.out.2.2]
        go_wp2_with fail
        have HLT := Lib.hid hlt
        go_roundw
        case rel =>
          obtain ⟨z1, z2, z3⟩ := HSN.out
          have hm := HS.out
          refine ⟨k + 1, max m (1 + c), by congr 1; split <;> omega, by go_num, HLT.out, by omega, ?_, hb.trans (((Below.refl _ wr).alloc (Nat.le_refl _) _ |>.trans (hb2.mono (by simp))).mono hb.size)⟩
          show _ = _
          rw [z1, z2, ← hm]
        case measure => simp only [intOf]; have := HLT.out; omega
      · have hkl : l.take k = l := List.take_of_length_le (by omega)
        have h0 := HS.out
        rw [hkl] at h0
        have HF := Lib.hid h0
        clear h0 hkl
        go_wp2_with fail
        go_ret
        exact ⟨by rw [← HF.out]; rfl, hb⟩

set_option maxHeartbeats 1000000 in
theorem depth_any : ∀ (N : Nat) (f : Fm), f.wt ≤ N → N ≤ 10000000 → ∀ (v : Value) (w : World), FmVal w v f →
    Calls Try.prog 46 #[v] w fun e w' => e = .returned (.int .i64 (f.dp : Int)) ∧ Below w.heap.size w w' := by
  intro N
  induction N with
  | zero => intro f hf; have := f.wt_pos; omega
  | succ N ih =>
    intro f hf hN v w hv
    obtain ⟨x, y, rfl, hx, hy, hname, _, _⟩ := hv
    have hfe := f.wt_eq
    have hdp := f.dp_eq
    have hha := hiTs_le _ f.args (Nat.le_refl _)
    obtain ⟨l, hl⟩ : ∃ l, f.sub = l := ⟨_, rfl⟩
    rw [hl] at hfe hdp hy
    have hdl := dpFs_le _ l (Nat.le_refl _)
    obtain ⟨c0, hc0⟩ : ∃ c, hiTs f.args = c := ⟨_, rfl⟩
    rw [hc0] at hha hdp
    obtain ⟨a, cap, rfl, hcap, hmax, hcells⟩ := hy.at
    obtain ⟨fx, fc, rfl, _⟩ := hx.at
    have HC := Lib.hid hcells
    have IH := Lib.hid ih
    have HD := Lib.hid hdp
    have HC0 := Lib.hid hc0
    clear hcells ih hdp hc0
    have hlen := wfs_length l
    obtain ⟨wb, hwb⟩ : ∃ wb, w.alloc (.cells #[.int .u8 f.op, .string f.name, .slice fx f.args.length fc, .slice a l.length cap] 25) = wb := ⟨_, rfl⟩
    have hbb : Below w.heap.size w wb := by rw [← hwb]; exact (Below.refl _ _).alloc (Nat.le_refl _) _
    have f2 : wb.cell? ⟨w.heap.size, 2, none⟩ = some (.slice fx f.args.length fc) := by rw [← hwb, World.cell?_alloc_at _ _ _ _ rfl]; rfl
    have f3 : wb.cell? ⟨w.heap.size, 3, none⟩ = some (.slice a l.length cap) := by rw [← hwb, World.cell?_alloc_at _ _ _ _ rfl]; rfl
    have hBl : w.heap.size < wb.heap.size := by rw [← hwb]; simp
    go_enter Try.func46, Try.ntmps46
    go_wp2_with fail
    refine (high_any (wts f.args) f.args (Nat.le_refl _) (by omega) _ _ (hx.up hbb)).mono ?_
    rintro e w1 ⟨rfl, hb1⟩
    rw [HC0.out]
    have f3' := (hb1.cell (p := ⟨w.heap.size, 3, none⟩) hBl).trans f3
    have hbw1 : Below w.heap.size w w1 := hbb.trans (hb1.mono hbb.size)
    clear hwb f2 f3
    go_wp2_with fail
    go_loopw [3, 12] (fun n i wr => ∃ (k : Nat) (m : Nat), n = .int .i64 (m : Int) ∧ i = .int .i64 (k : Int) ∧ k ≤ l.length ∧ m ≤ f.wt ∧ Hid (m = max c0 (dpFs (l.take k))) ∧ Below w.heap.size w wr) (fun _ i _ => l.length - (intOf i).toNat)
    case atStart => exact ⟨0, c0, rfl, rfl, Nat.zero_le _, by omega, by show _ = _; simp [dpFs], hbw1⟩
    case round =>
      obtain ⟨k, m, rfl, rfl, hk, hm1, HS, hb⟩ := hrel
      by_cases hlt : k < l.length
      · obtain ⟨b, off, rfl, hbl, hc⟩ := HC.out (by omega)
        obtain ⟨x', y', c0', c1, c2, c3, hx', hy', hz'⟩ := hc k hlt
        obtain ⟨ax, cx, rfl, _⟩ := hx'.at
        obtain ⟨ay, cy, rfl, _⟩ := hy'.at
        have d0 := (hb.cell (p := ⟨b, off + k * 4, none⟩) hbl).trans c0'
        have d1 := (hb.cell (p := ⟨b, off + k * 4 + 1, none⟩) hbl).trans c1
        have d2 := (hb.cell (p := ⟨b, off + k * 4 + 2, none⟩) hbl).trans c2
        have d3 := (hb.cell (p := ⟨b, off + k * 4 + 3, none⟩) hbl).trans c3
        have hwk : l[k].wt ≤ wfs l := wfs_mem (List.getElem_mem hlt)
        have hh : l[k].dp ≤ l[k].wt := by
          have h1 := Fm.dp_eq l[k]
          have h2 := hiTs_le _ l[k].args (Nat.le_refl _)
          have h3 := dpFs_le _ l[k].sub (Nat.le_refl _)
          have h4 := Fm.wt_eq l[k]
          omega
        have hsn := dpFs_snoc l k hlt
        have hvk : FmVal (wr.alloc (.cells #[.int .u8 l[k].op, .string l[k].name, .slice ax l[k].args.length cx, .slice ay l[k].sub.length cy] 25)) (.agg #[.int .u8 l[k].op, .string l[k].name, .slice ax l[k].args.length cx, .slice ay l[k].sub.length cy]) l[k] :=
          ⟨_, _, rfl, (hx'.up hb).up ((Below.refl _ _).alloc (Nat.le_refl _) _), (hy'.up hb).up ((Below.refl _ _).alloc (Nat.le_refl _) _), hz'⟩
        obtain ⟨c, hcc⟩ : ∃ c, l[k].dp = c := ⟨_, rfl⟩
        rw [hcc] at hh
        have HSN := Lib.hid (And.intro hsn hcc)
        clear hsn hcc c0' c1 c2 c3 hc
        go_wp2_with fail
        refine (IH.out l[k] (by omega) (by omega) _ _ hvk).mono ?_
        rintro e w2 ⟨rfl, hb2⟩
        rw [HSN.out.2]
        go_wp2_with fail
        have HLT := Lib.hid hlt
        go_roundw
        case rel =>
          obtain ⟨z1, z3⟩ := HSN.out
          have hm := HS.out
          refine ⟨k + 1, max m c, by congr 1; split <;> omega, by go_num, HLT.out, by omega, ?_, hb.trans (((Below.refl _ wr).alloc (Nat.le_refl _) _ |>.trans (hb2.mono (by simp))).mono hb.size)⟩
          show _ = _
          rw [z1, z3]; omega
        case measure => simp only [intOf]; have := HLT.out; omega
      · have hkl : l.take k = l := List.take_of_length_le (by omega)
        have h0 := HS.out
        rw [hkl] at h0
        have HF := Lib.hid (show f.dp = m + 1 by rw [HD.out, h0])
        have s1 : IntKind.i64.wrap ((m : Int) + 1) = (m : Int) + 1 := IntWalk.i64_in _ (by omega)
        clear h0 hkl
        go_wp2_with fail
        go_ret
        exact ⟨by rw [HF.out]; rfl, hb⟩

end Go.Proofs.Ytollifednpjkeaa
