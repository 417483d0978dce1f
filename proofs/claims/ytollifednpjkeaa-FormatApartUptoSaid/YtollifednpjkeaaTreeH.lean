import Derived.Test.YtollifednpjkeaaTreeG
/-
  Terms that are right.
-/
namespace Go.Proofs.Ytollifednpjkeaa
open Go.RowKit

mutual
def Tm.ok (sc : Bool) : Tm → Bool
  | .mk v n a => bif v then a.isEmpty && (isVar n || (sc && isMetaT n)) else isFun n && (decide (a.length ≤ 4) && allOk sc a)
def allOk (sc : Bool) : List Tm → Bool
  | [] => true
  | t :: r => t.ok sc && allOk sc r
end
theorem Tm.ok_eq (sc : Bool) (t : Tm) : t.ok sc = bif t.v then t.args.isEmpty && (isVar t.name || (sc && isMetaT t.name)) else isFun t.name && (decide (t.args.length ≤ 4) && allOk sc t.args) := by
  cases t; simp only [Tm.ok, Tm.v, Tm.name, Tm.args]; rfl
theorem allOk_any (sc : Bool) (l : List Tm) : allOk sc l = !(l.any fun t => !t.ok sc) := by
  induction l with
  | nil => rfl
  | cons t r ih => simp only [allOk, List.any_cons, ih]; cases t.ok sc <;> simp
def scI (sc : Bool) : Int := bif sc then 1 else 0

def TermP (N : Nat) : Prop := ∀ (t : Tm), t.wt ≤ N → N ≤ 10000000 → ∀ (sc : Bool) (v : Value) (w : World), TmVal w v t →
    Calls Try.prog 48 #[v, .int .i64 (scI sc)] w fun e w' => e = .returned (.bool (t.ok sc)) ∧ Below w.heap.size w w'

theorem term1_tells (N : Nat) (hN : N ≤ 10000000) (ih : TermP N) (sc : Bool) (b : Nat) :
    TellsTm 79 #[.pointer (some ⟨b, 0, none⟩)] (fun W => W.cell? ⟨b, 0, none⟩ = some (.int .i64 (scI sc))) (fun t => !t.ok sc) N := by
  refine ⟨Try.call79, fun A B h hb => (hb.cell (p := ⟨b, 0, none⟩) (World.block_lt_of_cell? A _ h)).trans h, ?_⟩
  intro t v W hP ht hv
  have hv' := hv
  obtain ⟨x, rfl, hx, hz⟩ := hv
  obtain ⟨ax, cx, rfl, _⟩ := hx.at
  obtain ⟨wb, hwb⟩ : ∃ wb, W.alloc (.cells #[.bool t.v, .string t.name, .slice ax t.args.length cx] 34) = wb := ⟨_, rfl⟩
  have hbb : Below W.heap.size W wb := by rw [← hwb]; exact (Below.refl _ _).alloc (Nat.le_refl _) _
  have f0 : wb.cell? ⟨W.heap.size, 0, none⟩ = some (.bool t.v) := by rw [← hwb, World.cell?_alloc_at _ _ _ _ rfl]; rfl
  have f1 : wb.cell? ⟨W.heap.size, 1, none⟩ = some (.string t.name) := by rw [← hwb, World.cell?_alloc_at _ _ _ _ rfl]; rfl
  have f2 : wb.cell? ⟨W.heap.size, 2, none⟩ = some (.slice ax t.args.length cx) := by rw [← hwb, World.cell?_alloc_at _ _ _ _ rfl]; rfl
  have hPb := (hbb.cell (p := ⟨b, 0, none⟩) (World.block_lt_of_cell? W _ hP)).trans hP
  have H := Lib.hid (ih t ht hN sc _ wb (hv'.up hbb))
  clear hv' ih
  show Calls Try.prog _ #[.agg #[.bool t.v, .string t.name, .slice ax t.args.length cx], .pointer (some ⟨b, 0, none⟩)] W _
  go_enter Try.func79, Try.ntmps79
  go_wp2_with fail
  refine H.out.mono ?_
  rintro e w' ⟨rfl, hb⟩
  go_wp2_with fail
  go_ret
  exact ⟨rfl, hbb.trans (hb.mono hbb.size)⟩

set_option maxHeartbeats 2000000 in
theorem term_step (N : Nat) (ih : TermP N) : TermP (N + 1) := by
  intro t ht hN sc v w hv
  obtain ⟨x, rfl, hx, hz⟩ := hv
  obtain ⟨ax, cx, rfl, _⟩ := hx.at
  have hwe := t.wt_eq
  have hargs : wts t.args ≤ N := by omega
  have hlen := wts_length t.args
  have hok := Tm.ok_eq sc t
  have T := Lib.hid (term1_tells N (by omega) ih sc (w.heap.size + 1))
  obtain ⟨wb, hwb⟩ : ∃ wb, (w.alloc (.cells #[.bool t.v, .string t.name, .slice ax t.args.length cx] 34)).alloc (.cells #[.int .i64 (scI sc)] 3) = wb := ⟨_, rfl⟩
  have hbb : Below w.heap.size w wb := by rw [← hwb]; exact ((Below.refl _ _).alloc (Nat.le_refl _) _).alloc (by simp) _
  have hc0 : ∀ j, wb.cell? ⟨w.heap.size, j, none⟩ = (#[.bool t.v, .string t.name, .slice ax t.args.length cx] : Array Value)[j]? := fun j => by
    rw [← hwb, World.cell?_alloc_past _ _ _ (by simp), World.cell?_alloc_at _ _ _ _ rfl]
  have f0 : wb.cell? ⟨w.heap.size, 0, none⟩ = some (.bool t.v) := hc0 0
  have f1 : wb.cell? ⟨w.heap.size, 1, none⟩ = some (.string t.name) := hc0 1
  have f2 : wb.cell? ⟨w.heap.size, 2, none⟩ = some (.slice ax t.args.length cx) := hc0 2
  have f3 : wb.cell? ⟨w.heap.size + 1, 0, none⟩ = some (.int .i64 (scI sc)) := by rw [← hwb, World.cell?_alloc_at _ _ _ _ (by simp)]; rfl
  have hB0 : w.heap.size < wb.heap.size := by rw [← hwb]; simp; omega
  have hB1 : w.heap.size + 1 < wb.heap.size := by rw [← hwb]; simp
  clear hc0
  cases hV : t.v
  · rw [hV] at hok f0 hwb
    cases hF : isFun t.name
    · rw [hF] at hok
      have HO := Lib.hid hok
      have HF := Lib.hid hF
      clear hok hF hV
      go_enter Try.func48, Try.ntmps48
      go_wp2_with fail
      refine (function_any _ _).mono ?_
      rintro e w1 ⟨rfl, hb1⟩
      rw [HF.out]
      go_wp2_with fail
      go_ret
      exact ⟨ret_bool (by rw [HO.out]; rfl), hbb.trans (hb1.mono hbb.size)⟩
    · rw [hF] at hok
      by_cases h4 : t.args.length ≤ 4
      · have i1 : (t.args.length : Int) ≤ 4 := by omega
        have hok2 : t.ok sc = !(t.args.any fun u => !u.ok sc) := by rw [hok]; simp [h4, allOk_any]
        have HO := Lib.hid hok2
        have HF := Lib.hid hF
        clear hok hok2 hF hV
        go_enter Try.func48, Try.ntmps48
        go_wp2_with fail
        refine (function_any _ _).mono ?_
        rintro e w1 ⟨rfl, hb1⟩
        rw [HF.out]
        have g2 := (hb1.cell (p := ⟨w.heap.size, 2, none⟩) hB0).trans f2
        have g3 := (hb1.cell (p := ⟨w.heap.size + 1, 0, none⟩) hB1).trans f3
        have hbw := hbb.trans (hb1.mono hbb.size)
        go_wp2_with fail
        refine (containsTm_any _ _ _ _ N T.out t.args hargs _ _ g3 (hx.up hbw)).mono ?_
        rintro e w2 ⟨rfl, hb2⟩
        go_wp2_with fail
        go_ret
        exact ⟨ret_bool (by rw [HO.out]), hbw.trans (hb2.mono hbw.size)⟩
      · have i1 : ¬ (t.args.length : Int) ≤ 4 := by omega
        have i2 : decide ((t.args.length : Int) ≤ 4) = false := by simp; omega
        have hok2 : t.ok sc = false := by rw [hok]; simp [h4]
        have HO := Lib.hid hok2
        have HF := Lib.hid hF
        clear hok hok2 hF hV
        go_enter Try.func48, Try.ntmps48
        go_wp2_with fail
        refine (function_any _ _).mono ?_
        rintro e w1 ⟨rfl, hb1⟩
        rw [HF.out]
        have g2 := (hb1.cell (p := ⟨w.heap.size, 2, none⟩) hB0).trans f2
        go_wp2_with fail
        go_ret
        exact ⟨ret_bool (by rw [HO.out]), hbb.trans (hb1.mono hbb.size)⟩
  · rw [hV] at hok f0 hwb
    by_cases h0 : t.args.length = 0
    · have hnil : t.args = [] := List.eq_nil_of_length_eq_zero h0
      rw [hnil] at hok
      rw [h0] at hwb f2
      cases hF : isVar t.name
      · rw [hF] at hok
        cases sc
        · have HO := Lib.hid hok
          have HF := Lib.hid hF
          have f3' : wb.cell? ⟨w.heap.size + 1, 0, none⟩ = some (.int .i64 0) := f3
          have hs0 : scI false = 0 := rfl
          rw [hs0] at hwb
          rw [hs0]
          clear hok hF hV hnil f3 hs0
          go_enter Try.func48, Try.ntmps48
          go_wp2_with fail
          refine (variable_any _ _).mono ?_
          rintro e w1 ⟨rfl, hb1⟩
          rw [HF.out]
          have g3 := (hb1.cell (p := ⟨w.heap.size + 1, 0, none⟩) hB1).trans f3'
          go_wp2_with fail
          go_ret
          exact ⟨ret_bool (by rw [HO.out]; rfl), hbb.trans (hb1.mono hbb.size)⟩
        · have HO := Lib.hid hok
          have HF := Lib.hid hF
          have f3' : wb.cell? ⟨w.heap.size + 1, 0, none⟩ = some (.int .i64 1) := f3
          have hs0 : scI true = 1 := rfl
          rw [hs0] at hwb
          rw [hs0]
          clear hok hF hV hnil f3 hs0
          go_enter Try.func48, Try.ntmps48
          go_wp2_with fail
          refine (variable_any _ _).mono ?_
          rintro e w1 ⟨rfl, hb1⟩
          rw [HF.out]
          have g3 := (hb1.cell (p := ⟨w.heap.size + 1, 0, none⟩) hB1).trans f3'
          have g1 := (hb1.cell (p := ⟨w.heap.size, 1, none⟩) hB0).trans f1
          have hbw := hbb.trans (hb1.mono hbb.size)
          go_wp2_with fail
          refine (ofTerms_any _ _).mono ?_
          rintro e w2 ⟨rfl, hb2⟩
          go_wp2_with fail
          go_ret
          exact ⟨ret_bool (by rw [HO.out]; rfl), hbw.trans (hb2.mono hbw.size)⟩
      · rw [hF] at hok
        have HO := Lib.hid hok
        have HF := Lib.hid hF
        clear hok hF hV hnil
        go_enter Try.func48, Try.ntmps48
        go_wp2_with fail
        refine (variable_any _ _).mono ?_
        rintro e w1 ⟨rfl, hb1⟩
        rw [HF.out]
        go_wp2_with fail
        go_ret
        exact ⟨ret_bool (by rw [HO.out]; rfl), hbb.trans (hb1.mono hbb.size)⟩
    · have i1 : ((t.args.length : Int) == 0) = false := by rw [beq_eq_false_iff_ne]; omega
      have hok2 : t.ok sc = false := by
        rw [hok]
        cases h : t.args with
        | nil => rw [h] at h0; simp at h0
        | cons => rfl
      have HO := Lib.hid hok2
      clear hok hok2 hV
      go_enter Try.func48, Try.ntmps48
      go_wp2_with fail
      go_ret
      exact ⟨ret_bool (by rw [HO.out]), hbb⟩
theorem term_all : ∀ N, TermP N := by
  intro N
  induction N with
  | zero => intro t ht; have := t.wt_pos; omega
  | succ N ih => exact term_step N ih

end Go.Proofs.Ytollifednpjkeaa
