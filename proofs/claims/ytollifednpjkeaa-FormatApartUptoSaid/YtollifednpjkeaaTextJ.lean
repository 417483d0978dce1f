import Derived.Test.YtollifednpjkeaaTextI
/-
  Terms that are right, as format tells; Term, Forms.
-/
namespace Go.Proofs.Ytollifednpjkeaa
open Go.RowKit

theorem isMeta_parts {n : ByteArray} (h : isMeta n = true) : 1 < n.size ∧ isMetaT n = isFun (n.extract 1 n.size) := by
  by_cases hs : n.size ≤ 16 ∧ 1 < n.size
  · by_cases h0 : (n[0].toNat : Int) = 63
    · exact ⟨hs.2, metaB_rest hs.1 hs.2 h0⟩
    · have h1 := metaB_first (p := isFun) (s := n) (by omega) h0
      have h2 := metaB_first (p := isPred) (s := n) (by omega) h0
      unfold isMeta isMetaT isMetaF at h
      rw [h1, h2] at h; cases h
  · have h1 := metaB_size (p := isFun) hs
    have h2 := metaB_size (p := isPred) hs
    unfold isMeta isMetaT isMetaF at h
    rw [h1, h2] at h; cases h
theorem isMeta_not {n : ByteArray} (h : isMeta n = false) : isMetaT n = false := by
  unfold isMeta at h
  simp only [Bool.or_eq_false_iff] at h
  exact h.1

def RightP (N : Nat) : Prop := ∀ (t : Tm), t.wt ≤ N → N ≤ 10000000 → ∀ (v : Value) (w : World), TmVal w v t →
    Calls Try.prog 39 #[v] w fun e w' => e = .returned (.bool (t.ok true)) ∧ Below w.heap.size w w'

theorem right1_tells (N : Nat) (hN : N ≤ 10000000) (ih : RightP N) :
    TellsTm 66 #[] (fun _ => True) (fun t => !t.ok true) N := by
  refine ⟨Try.call66, fun A B h hb => h, ?_⟩
  intro t v W hP ht hv
  have hv' := hv
  obtain ⟨x, rfl, hx, hz⟩ := hv
  obtain ⟨ax, cx, rfl, -⟩ := hx.at
  obtain ⟨wb, hwb⟩ : ∃ wb, W.alloc (.cells #[.bool t.v, .string t.name, .slice ax t.args.length cx] 34) = wb := ⟨_, rfl⟩
  have hbb : Below W.heap.size W wb := by rw [← hwb]; exact (Below.refl _ _).alloc (Nat.le_refl _) _
  have f0 : wb.cell? ⟨W.heap.size, 0, none⟩ = some (.bool t.v) := by rw [← hwb, World.cell?_alloc_at _ _ _ _ rfl]; rfl
  have f1 : wb.cell? ⟨W.heap.size, 1, none⟩ = some (.string t.name) := by rw [← hwb, World.cell?_alloc_at _ _ _ _ rfl]; rfl
  have f2 : wb.cell? ⟨W.heap.size, 2, none⟩ = some (.slice ax t.args.length cx) := by rw [← hwb, World.cell?_alloc_at _ _ _ _ rfl]; rfl
  have H := Lib.hid (ih t ht hN _ wb (hv'.up hbb))
  clear hv' ih
  show Calls Try.prog _ #[.agg #[.bool t.v, .string t.name, .slice ax t.args.length cx]] W _
  go_enter Try.func66, Try.ntmps66
  go_wp2_with fail
  refine H.out.mono ?_
  rintro e w' ⟨rfl, hb⟩
  go_wp2_with fail
  go_ret
  exact ⟨rfl, hbb.trans (hb.mono hbb.size)⟩

set_option maxHeartbeats 2000000 in
theorem right_step (N : Nat) (ih : RightP N) : RightP (N + 1) := by
  intro t ht hN v w hv
  obtain ⟨x, rfl, hx, hz⟩ := hv
  obtain ⟨ax, cx, rfl, -⟩ := hx.at
  have hwe := t.wt_eq
  have hargs : wts t.args ≤ N := by omega
  have hlen := wts_length t.args
  have hok := Tm.ok_eq true t
  have T := Lib.hid (right1_tells N (by omega) ih)
  obtain ⟨wb, hwb⟩ : ∃ wb, w.alloc (.cells #[.bool t.v, .string t.name, .slice ax t.args.length cx] 34) = wb := ⟨_, rfl⟩
  have hbb : Below w.heap.size w wb := by rw [← hwb]; exact (Below.refl _ _).alloc (Nat.le_refl _) _
  have f0 : wb.cell? ⟨w.heap.size, 0, none⟩ = some (.bool t.v) := by rw [← hwb, World.cell?_alloc_at _ _ _ _ rfl]; rfl
  have f1 : wb.cell? ⟨w.heap.size, 1, none⟩ = some (.string t.name) := by rw [← hwb, World.cell?_alloc_at _ _ _ _ rfl]; rfl
  have f2 : wb.cell? ⟨w.heap.size, 2, none⟩ = some (.slice ax t.args.length cx) := by rw [← hwb, World.cell?_alloc_at _ _ _ _ rfl]; rfl
  have hB0 : w.heap.size < wb.heap.size := by rw [← hwb]; simp
  cases hV : t.v
  · rw [hV] at hok f0 hwb
    cases hF : isFun t.name
    · rw [hF] at hok
      have HO := Lib.hid hok
      have HF := Lib.hid hF
      clear hok hF hV
      go_enter Try.func39, Try.ntmps39
      go_wp2_with fail
      refine (function_any _ _).mono ?_
      rintro e w1 ⟨rfl, hb1⟩
      rw [HF.out]
      go_wp2_with fail
      go_ret
      exact ⟨ret_bool (by rw [HO.out]; rfl), hbb.trans (hb1.mono hbb.size)⟩
    · rw [hF] at hok
      by_cases h4 : t.args.length ≤ 4
      · have i1 : (t.args.length : Int) ≤ 4 := by omega
        have hok2 : t.ok true = !(t.args.any fun u => !u.ok true) := by rw [hok]; simp [h4, allOk_any]
        have HO := Lib.hid hok2
        have HF := Lib.hid hF
        clear hok hok2 hF hV
        go_enter Try.func39, Try.ntmps39
        go_wp2_with fail
        refine (function_any _ _).mono ?_
        rintro e w1 ⟨rfl, hb1⟩
        rw [HF.out]
        have g2 := (hb1.cell (p := ⟨w.heap.size, 2, none⟩) hB0).trans f2
        have hbw := hbb.trans (hb1.mono hbb.size)
        go_wp2_with fail
        refine (containsTm_any _ _ _ _ N T.out t.args hargs _ _ trivial (hx.up hbw)).mono ?_
        rintro e w2 ⟨rfl, hb2⟩
        go_wp2_with fail
        go_ret
        exact ⟨ret_bool (by rw [HO.out]), hbw.trans (hb2.mono hbw.size)⟩
      · have i1 : ¬ (t.args.length : Int) ≤ 4 := by omega
        have i2 : decide ((t.args.length : Int) ≤ 4) = false := by simp; omega
        have hok2 : t.ok true = false := by rw [hok]; simp [h4]
        have HO := Lib.hid hok2
        have HF := Lib.hid hF
        clear hok hok2 hF hV
        go_enter Try.func39, Try.ntmps39
        go_wp2_with fail
        refine (function_any _ _).mono ?_
        rintro e w1 ⟨rfl, hb1⟩
        rw [HF.out]
        have g2 := (hb1.cell (p := ⟨w.heap.size, 2, none⟩) hB0).trans f2
        go_wp2_with fail
        go_ret
        exact ⟨ret_bool (by rw [HO.out]), hbb.trans (hb1.mono hbb.size)⟩
  · rw [hV] at hok f0 hwb
    by_cases h0 : t.args.length = 0
    · have hnil : t.args = [] := List.eq_nil_of_length_eq_zero h0
      rw [hnil] at hok
      rw [h0] at hwb f2
      cases hF : isVar t.name
      · rw [hF] at hok
        have hok1 : t.ok true = isMetaT t.name := by rw [hok]; rfl
        cases hM : isMeta t.name
        · have HO := Lib.hid (hok1.trans (isMeta_not hM))
          have HF := Lib.hid (And.intro hF hM)
          clear hok hok1 hF hV hnil hM
          go_enter Try.func39, Try.ntmps39
          go_wp2_with fail
          refine (variable_any _ _).mono ?_
          rintro e w1 ⟨rfl, hb1⟩
          rw [HF.out.1]
          have g1 := (hb1.cell (p := ⟨w.heap.size, 1, none⟩) hB0).trans f1
          have hbw := hbb.trans (hb1.mono hbb.size)
          go_wp2_with fail
          refine (Meta_any _ _).mono ?_
          rintro e w2 ⟨rfl, hb2⟩
          rw [HF.out.2]
          go_wp2_with fail
          go_ret
          exact ⟨ret_bool HO.out.symm, hbw.trans (hb2.mono hbw.size)⟩
        · obtain ⟨hsz, hmt⟩ := isMeta_parts hM
          have HO := Lib.hid (hok1.trans hmt)
          have HF := Lib.hid (And.intro hF hM)
          have hsz2 : (1 : Int) ≤ (t.name.size : Int) := by omega
          clear hok hok1 hF hV hnil hM hmt
          go_enter Try.func39, Try.ntmps39
          go_wp2_with fail
          refine (variable_any _ _).mono ?_
          rintro e w1 ⟨rfl, hb1⟩
          rw [HF.out.1]
          have g1 := (hb1.cell (p := ⟨w.heap.size, 1, none⟩) hB0).trans f1
          have hbw := hbb.trans (hb1.mono hbb.size)
          go_wp2_with fail
          refine (Meta_any _ _).mono ?_
          rintro e w2 ⟨rfl, hb2⟩
          rw [HF.out.2]
          have hB1 : w.heap.size < w1.heap.size := Nat.lt_of_lt_of_le hB0 hb1.size
          have k1 := (hb2.cell (p := ⟨w.heap.size, 1, none⟩) hB1).trans g1
          have hbw2 := hbw.trans (hb2.mono hbw.size)
          go_wp2_with fail
          refine (function_any _ _).mono ?_
          rintro e w3 ⟨rfl, hb3⟩
          go_wp2_with fail
          go_ret
          exact ⟨ret_bool HO.out.symm, hbw2.trans (hb3.mono hbw2.size)⟩
      · rw [hF] at hok
        have HO := Lib.hid hok
        have HF := Lib.hid hF
        clear hok hF hV hnil
        go_enter Try.func39, Try.ntmps39
        go_wp2_with fail
        refine (variable_any _ _).mono ?_
        rintro e w1 ⟨rfl, hb1⟩
        rw [HF.out]
        go_wp2_with fail
        go_ret
        exact ⟨ret_bool (by rw [HO.out]; rfl), hbb.trans (hb1.mono hbb.size)⟩
    · have i1 : ((t.args.length : Int) == 0) = false := by rw [beq_eq_false_iff_ne]; omega
      have hok2 : t.ok true = false := by
        rw [hok]
        cases h : t.args with
        | nil => rw [h] at h0; simp at h0
        | cons => rfl
      have HO := Lib.hid hok2
      clear hok hok2 hV
      go_enter Try.func39, Try.ntmps39
      go_wp2_with fail
      go_ret
      exact ⟨ret_bool (by rw [HO.out]), hbb⟩
theorem right_all : ∀ N, RightP N := by
  intro N
  induction N with
  | zero => intro t ht; have := t.wt_pos; omega
  | succ N ih => exact right_step N ih

theorem Term_any (t : Tm) (ht : t.wt ≤ 10000000) (v : Value) (w : World) (hv : TmVal w v t) :
    Calls Try.prog 17 #[v] w fun e w' => e = .returned (ansR (t.ok true) (t.tx ⟨#[44, 32]⟩)) ∧ Below w.heap.size w w' := by
  have hv' := hv
  obtain ⟨x, rfl, hx, hz⟩ := hv
  obtain ⟨ax, cx, rfl, -⟩ := hx.at
  obtain ⟨wb, hwb⟩ : ∃ wb, w.alloc (.cells #[.bool t.v, .string t.name, .slice ax t.args.length cx] 34) = wb := ⟨_, rfl⟩
  have hbb : Below w.heap.size w wb := by rw [← hwb]; exact (Below.refl _ _).alloc (Nat.le_refl _) _
  have f0 : wb.cell? ⟨w.heap.size, 0, none⟩ = some (.bool t.v) := by rw [← hwb, World.cell?_alloc_at _ _ _ _ rfl]; rfl
  have f1 : wb.cell? ⟨w.heap.size, 1, none⟩ = some (.string t.name) := by rw [← hwb, World.cell?_alloc_at _ _ _ _ rfl]; rfl
  have f2 : wb.cell? ⟨w.heap.size, 2, none⟩ = some (.slice ax t.args.length cx) := by rw [← hwb, World.cell?_alloc_at _ _ _ _ rfl]; rfl
  have hB0 : w.heap.size < wb.heap.size := by rw [← hwb]; simp
  have hwe := t.wt_eq
  have HR := Lib.hid (right_all t.wt t (Nat.le_refl _) ht _ wb (hv'.up hbb))
  have HT := Lib.hid (Tm.tx_eq ⟨#[44, 32]⟩ t)
  obtain ⟨r, hr⟩ : ∃ r, t.ok true = r := ⟨_, rfl⟩
  rw [hr]
  have HRR := Lib.hid hr
  clear hv' hr
  go_enter Try.func17, Try.ntmps17
  go_wp2_with fail
  refine HR.out.mono ?_
  rintro e w1 ⟨rfl, hb1⟩
  rw [HRR.out]
  have g1 := (hb1.cell (p := ⟨w.heap.size, 1, none⟩) hB0).trans f1
  have g2 := (hb1.cell (p := ⟨w.heap.size, 2, none⟩) hB0).trans f2
  have hbw := hbb.trans (hb1.mono hbb.size)
  cases r
  · go_wp2_with fail
    go_ret2
    exact ⟨ret_ansF rfl, hbw⟩
  · have H := Lib.hid (termTx_all 10000000 t.args (by omega) (Nat.le_refl _) t.name ⟨#[44, 32]⟩ (by omega) (Nat.le_refl _) _ w1 (hx.up hbw))
    go_wp2_with fail
    refine H.out.mono ?_
    rintro e w2 ⟨rfl, hb2⟩
    go_wp2_with fail
    go_ret2
    exact ⟨by rw [HT.out]; exact ret_ansT rfl, hbw.trans (hb2.mono hbw.size)⟩

theorem forms1_tells (N : Nat) (hN : N ≤ 10000000) : TellsFm 36 #[] (fun _ => True) (fun f => !okB f) N := by
  refine ⟨Try.call36, fun A B h hb => h, ?_⟩
  intro f v w hP ht hv
  have hv' := hv
  obtain ⟨x, y, rfl, hx, hy, hz⟩ := hv
  obtain ⟨ax, cx, rfl, -⟩ := hx.at
  obtain ⟨ay, cy, rfl, -⟩ := hy.at
  obtain ⟨wb, hwb⟩ : ∃ wb, w.alloc (.cells #[.int .u8 f.op, .string f.name, .slice ax f.args.length cx, .slice ay f.sub.length cy] 25) = wb := ⟨_, rfl⟩
  have hbb : Below w.heap.size w wb := by rw [← hwb]; exact (Below.refl _ _).alloc (Nat.le_refl _) _
  have f0 : wb.cell? ⟨w.heap.size, 0, none⟩ = some (.int .u8 f.op) := by rw [← hwb, World.cell?_alloc_at _ _ _ _ rfl]; rfl
  have f1 : wb.cell? ⟨w.heap.size, 1, none⟩ = some (.string f.name) := by rw [← hwb, World.cell?_alloc_at _ _ _ _ rfl]; rfl
  have f2 : wb.cell? ⟨w.heap.size, 2, none⟩ = some (.slice ax f.args.length cx) := by rw [← hwb, World.cell?_alloc_at _ _ _ _ rfl]; rfl
  have f3 : wb.cell? ⟨w.heap.size, 3, none⟩ = some (.slice ay f.sub.length cy) := by rw [← hwb, World.cell?_alloc_at _ _ _ _ rfl]; rfl
  have H := Lib.hid (schema_any f (by omega) _ wb (hv'.up hbb))
  clear hv'
  show Calls Try.prog _ #[.agg #[.int .u8 f.op, .string f.name, .slice ax f.args.length cx, .slice ay f.sub.length cy]] w _
  go_enter Try.func36, Try.ntmps36
  go_wp2_with fail
  refine H.out.mono ?_
  rintro e w' ⟨rfl, hb⟩
  go_wp2_with fail
  go_ret
  exact ⟨rfl, hbb.trans (hb.mono hbb.size)⟩
theorem forms2_texts (N : Nat) (hN : N ≤ 10000000) : TextsFm 38 #[] (fun _ => True) (fun f => f.tx false) N (fun f => f.sh true = true) := by
  refine ⟨Try.call38, fun A B h hb => h, ?_⟩
  intro f v w hQ hP ht hv
  have hv' := hv
  obtain ⟨x, y, rfl, hx, hy, hz⟩ := hv
  obtain ⟨ax, cx, rfl, -⟩ := hx.at
  obtain ⟨ay, cy, rfl, -⟩ := hy.at
  obtain ⟨wb, hwb⟩ : ∃ wb, w.alloc (.cells #[.int .u8 f.op, .string f.name, .slice ax f.args.length cx, .slice ay f.sub.length cy] 25) = wb := ⟨_, rfl⟩
  have hbb : Below w.heap.size w wb := by rw [← hwb]; exact (Below.refl _ _).alloc (Nat.le_refl _) _
  have f0 : wb.cell? ⟨w.heap.size, 0, none⟩ = some (.int .u8 f.op) := by rw [← hwb, World.cell?_alloc_at _ _ _ _ rfl]; rfl
  have f1 : wb.cell? ⟨w.heap.size, 1, none⟩ = some (.string f.name) := by rw [← hwb, World.cell?_alloc_at _ _ _ _ rfl]; rfl
  have f2 : wb.cell? ⟨w.heap.size, 2, none⟩ = some (.slice ax f.args.length cx) := by rw [← hwb, World.cell?_alloc_at _ _ _ _ rfl]; rfl
  have f3 : wb.cell? ⟨w.heap.size, 3, none⟩ = some (.slice ay f.sub.length cy) := by rw [← hwb, World.cell?_alloc_at _ _ _ _ rfl]; rfl
  have H := Lib.hid (text_all f.wt f (Nat.le_refl _) (by omega) hQ false _ wb (hv'.up hbb))
  clear hv' hQ
  show Calls Try.prog _ #[.agg #[.int .u8 f.op, .string f.name, .slice ax f.args.length cx, .slice ay f.sub.length cy]] w _
  go_enter Try.func38, Try.ntmps38
  go_wp2_with fail
  refine H.out.mono ?_
  rintro e w' ⟨rfl, hb⟩
  go_wp2_with fail
  go_ret
  exact ⟨rfl, hbb.trans (hb.mono hbb.size)⟩

/-- The texts of right schemas with commas between them. -/
def formsTx (l : List Fm) : ByteArray := joinS ⟨#[44, 32]⟩ (l.map (Fm.tx false))
theorem formsTx_le (l : List Fm) : (formsTx l).size ≤ 20 * wfs l := by
  refine Nat.le_trans (joinS_le _ _) ?_
  have h2 : (⟨#[44, 32]⟩ : ByteArray).size = 2 := rfl
  rw [h2]
  induction l with
  | nil => exact Nat.zero_le _
  | cons f r ih =>
    have := f.tx_le false
    simp only [List.map_cons, sumSz, wfs]; omega
theorem forms_any (l : List Fm) (hl : wfs l ≤ 10000000) (v : Value) (w : World) (hv : FmsAt w v l) :
    Calls Try.prog 16 #[v] w fun e w' => e = .returned (ansR (!(l.any fun f => !okB f)) (formsTx l)) ∧ Below w.heap.size w w' := by
  have HC := Lib.hid (containsFm_any _ _ _ _ 10000000 (forms1_tells 10000000 (Nat.le_refl _)) l hl v w trivial hv)
  have hbl := formsTx_le l
  obtain ⟨r, hr⟩ : ∃ r, (l.any fun f => !okB f) = r := ⟨_, rfl⟩
  rw [hr]
  have HR := Lib.hid hr
  have HV := Lib.hid hv
  obtain ⟨a, cap, rfl, -⟩ := hv.at
  clear hv hr
  go_enter Try.func16, Try.ntmps16
  go_wp2_with fail
  refine HC.out.mono ?_
  rintro e w1 ⟨rfl, hb1⟩
  rw [HR.out]
  cases r
  · have hq : ∀ t ∈ l, t.sh true = true := fun t ht => by
      have := HR.out
      simp only [List.any_eq_false, Bool.not_eq_true', Bool.not_eq_false] at this
      have h := this t ht
      unfold okB at h; simp only [Bool.and_eq_true] at h; exact h.2
    have H := Lib.hid (joinedFm_any _ _ _ _ 10000000 _ (forms2_texts 10000000 (Nat.le_refl _)) l hq hl (Nat.le_refl _) ⟨#[44, 32]⟩ (by show (formsTx l).size ≤ _; omega) _ w1 trivial (HV.out.up hb1))
    clear hq
    go_wp2_with fail
    refine H.out.mono ?_
    rintro e w2 ⟨rfl, hb2⟩
    go_wp2_with fail
    go_ret2
    exact ⟨ret_ansT rfl, hb1.trans (hb2.mono hb1.size)⟩
  · go_wp2_with fail
    go_ret2
    exact ⟨ret_ansF rfl, hb1⟩

end Go.Proofs.Ytollifednpjkeaa
