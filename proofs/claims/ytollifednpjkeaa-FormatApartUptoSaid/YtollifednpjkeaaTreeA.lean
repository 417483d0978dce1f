import Derived.Test.YtollifednpjkeaaTree
import Derived.Test.YtollifednpjkeaaLater
/-
  How large formulas are, as lyceumlaw02 reckons.
-/
namespace Go.Proofs.Ytollifednpjkeaa
open Go.RowKit

mutual
def szT : Tm → Int → Int
  | .mk _ n a, left => 1 + (n.size : Int).tdiv 40 + szTs a left 0
def szTs : List Tm → Int → Int → Int
  | [], _, n => n
  | t :: r, left, n => if n ≤ left then szTs r left (n + szT t (left - n)) else n
end
theorem tdiv40 (n : Nat) : 0 ≤ (n : Int).tdiv 40 ∧ (n : Int).tdiv 40 ≤ n := by
  rw [Int.tdiv_eq_ediv_of_nonneg (by omega)]; omega
mutual
theorem szT_le (t : Tm) (left : Int) : 0 ≤ szT t left ∧ szT t left ≤ t.wt := by
  cases t with
  | mk v n a =>
    have h1 := szTs_le a left 0
    have h2 := tdiv40 n.size
    simp only [szT, Tm.wt]; omega
theorem szTs_le (l : List Tm) (left n : Int) : n ≤ szTs l left n ∧ szTs l left n ≤ n + wts l := by
  cases l with
  | nil => simp [szTs, wts]
  | cons t r =>
    have h1 := szT_le t (left - n)
    have h2 := szTs_le r left (n + szT t (left - n))
    simp only [szTs, wts]
    split <;> omega
end
theorem szTs_stop (l : List Tm) (left n : Int) (h : ¬ n ≤ left) : szTs l left n = n := by
  cases l with
  | nil => rfl
  | cons t r => simp [szTs, h]

set_option maxHeartbeats 1000000 in
theorem sizeTs_any : ∀ (N : Nat) (l : List Tm), wts l ≤ N → N ≤ 10000000 → ∀ (left : Int), -20000000 ≤ left → left ≤ 20000000 → ∀ (v : Value) (w : World), TmsAt w v l →
    Calls Try.prog 34 #[v, .int .i64 left] w fun e w' => e = .returned (.int .i64 (szTs l left 0)) ∧ Below w.heap.size w w' := by
  intro N
  induction N with
  | zero =>
    intro l hl _ left hl1 hl2 v w hv
    have : l = [] := by have := wts_length l; exact List.eq_nil_of_length_eq_zero (by omega)
    subst this
    obtain ⟨a, cap, rfl, hcap, hmax, _⟩ := hv.at
    simp only [List.length_nil]
    go_enter Try.func34, Try.ntmps34
    go_wp2_with fail
    go_loop [5, 6] (fun n i => n = .int .i64 0 ∧ i = .int .i64 0) (fun _ _ => 0)
    case atStart => exact ⟨rfl, rfl⟩
    case round =>
      obtain ⟨rfl, rfl⟩ := hrel
      go_wp2_with fail
      go_ret
      exact ⟨rfl, Below.refl _ _⟩
  | succ N ih =>
    intro l hl hN left hl1 hl2 v w hv
    obtain ⟨a, cap, rfl, hcap, hmax, hcells⟩ := hv.at
    have HC := Lib.hid hcells
    have IH := Lib.hid ih
    clear hcells ih hv
    have hlen := wts_length l
    go_enter Try.func34, Try.ntmps34
    go_wp2_with fail
    go_loopw [5, 6] (fun n i wr => ∃ (k : Nat) (m : Int), n = .int .i64 m ∧ i = .int .i64 (k : Int) ∧ k ≤ l.length ∧ 0 ≤ m ∧ m ≤ wts l ∧ Hid (szTs (l.drop k) left m = szTs l left 0) ∧ Below w.heap.size w wr) (fun _ i _ => l.length - (intOf i).toNat)
    case atStart => exact ⟨0, 0, rfl, rfl, Nat.zero_le _, Int.le_refl _, by omega, rfl, Below.refl _ _⟩
    case round =>
      obtain ⟨k, m, rfl, rfl, hk, hm0, hm1, HS, hb⟩ := hrel
      by_cases hlt : k < l.length
      · by_cases hml : m ≤ left
        · obtain ⟨b, off, rfl, hbl, hc⟩ := HC.out (by omega)
          obtain ⟨x, _, c1, c2, hx, hsz⟩ := hc k hlt
          have d1 := (hb.cell (p := ⟨b, off + k * 3 + 1, none⟩) hbl).trans c1
          have d2 := (hb.cell (p := ⟨b, off + k * 3 + 2, none⟩) hbl).trans c2
          have hbr : b < wr.heap.size := Nat.lt_of_lt_of_le hbl hb.size
          have f1 : ∀ p : Later wr, p.w'.cell? ⟨b, off + k * 3 + 1, none⟩ = some (.string l[k].name) := fun p => p.cell d1 hbr
          have f2 : ∀ p : Later wr, p.w'.cell? ⟨b, off + k * 3 + 2, none⟩ = some x := fun p => p.cell d2 hbr
          have hdr : l.drop k = l[k] :: l.drop (k + 1) := List.drop_eq_getElem_cons hlt
          have hxr : TmsAt wr x l[k].args := hx.up hb
          have hwk : l[k].wt ≤ wts l := wts_mem (List.getElem_mem hlt)
          have hwe := Tm.wt_eq l[k]
          have hsum : szTs (l.drop (k + 1)) left (m + szT l[k] (left - m)) = szTs l left 0 := by
            rw [← HS.out, hdr]; simp only [szTs]; rw [if_pos hml]
          have hto := szTs_le (l.drop (k + 1)) left (m + szT l[k] (left - m))
          have htl := szTs_le l left 0
          have hq0 := tdiv40 l[k].name.size
          have hc := szTs_le l[k].args (left - m) 0
          have hT := szT_le l[k] (left - m)
          have hTe : szT l[k] (left - m) = 1 + (l[k].name.size : Int).tdiv 40 + szTs l[k].args (left - m) 0 := by
            obtain ⟨t, ht⟩ : ∃ t, l[k] = t := ⟨_, rfl⟩
            rw [ht]; cases t; simp only [szT, Tm.name, Tm.args]
          obtain ⟨q, hqq⟩ : ∃ q, (l[k].name.size : Int).tdiv 40 = q := ⟨_, rfl⟩
          obtain ⟨c, hcc⟩ : ∃ c, szTs l[k].args (left - m) 0 = c := ⟨_, rfl⟩
          rw [hqq] at hTe hq0
          rw [hcc] at hTe hc
          have HSUM := Lib.hid (And.intro hsum (And.intro hTe (And.intro hto htl)))
          have HCC := Lib.hid hcc
          have hargs : wts l[k].args ≤ N := by omega
          have s0 : IntKind.i64.wrap q = q := IntWalk.i64_in _ (by omega)
          have s1 : IntKind.i64.wrap (1 + q) = 1 + q := IntWalk.i64_in _ (by omega)
          have s2 : IntKind.i64.wrap (left - m) = left - m := IntWalk.i64_in _ (by omega)
          have s3 : IntKind.i64.wrap (1 + q + c) = 1 + q + c := IntWalk.i64_in _ (by omega)
          have s4 : IntKind.i64.wrap (m + (1 + q + c)) = m + (1 + q + c) := IntWalk.i64_in _ (by omega)
          clear hsum hTe hto htl hwe hT hcc hdr d1 d2 c1 c2
          go_wp2_with fail
          refine wp_region_later (by kernel_rfl) (by kernel_rfl) ?_
          repeat (go_big_quiet_step ((go_at_call 34; exact Calls.later_of ((IH.out l[k].args hargs (by omega) (left - m) (by omega) (by omega) x _ (hxr.up (Later.h _))).mono (fun _ _ h => ⟨by rw [h.1, HCC.out], h.2⟩)))))
          (refine wpQuiet_nil ?_; rintro wq ⟨⟨_, hq⟩, rfl⟩; try dsimp only)
          go_wp2_with fail
          go_roundw
          case rel =>
            obtain ⟨z1, z2, z3, z4⟩ := HSUM.out
            refine ⟨k + 1, m + (1 + q + c), by go_num, by go_num, by omega, by omega, by omega, ?_, hb.trans (hq.mono hb.size)⟩
            rw [z2] at z1; exact z1
          case measure => simp [intOf]; omega
        · have h0 := szTs_stop (l.drop k) left m hml
          have HF := Lib.hid (h0.symm.trans HS.out)
          clear h0
          go_wp2_with fail
          go_ret
          exact ⟨by rw [HF.out]; rfl, hb⟩
      · have hkl : l.drop k = [] := List.drop_eq_nil_of_le (by omega)
        have h0 := HS.out
        rw [hkl] at h0
        simp only [szTs] at h0
        have HF := Lib.hid h0
        clear h0 hkl
        go_wp2_with fail
        go_ret
        exact ⟨by rw [HF.out]; rfl, hb⟩

mutual
def szF : Fm → Int → Int
  | .mk _ n a s, left => szFs s left (1 + (n.size : Int).tdiv 40 + szTs a left 0)
def szFs : List Fm → Int → Int → Int
  | [], _, n => n
  | t :: r, left, n => if n ≤ left then szFs r left (n + szF t (left - n)) else n
end
mutual
theorem szF_le (f : Fm) (left : Int) : 0 ≤ szF f left ∧ szF f left ≤ f.wt := by
  cases f with
  | mk o n a s =>
    have h1 := szTs_le a left 0
    have h2 := tdiv40 n.size
    have h3 := szFs_le s left (1 + (n.size : Int).tdiv 40 + szTs a left 0)
    simp only [szF, Fm.wt]; omega
theorem szFs_le (l : List Fm) (left n : Int) : n ≤ szFs l left n ∧ szFs l left n ≤ n + wfs l := by
  cases l with
  | nil => simp [szFs, wfs]
  | cons t r =>
    have h1 := szF_le t (left - n)
    have h2 := szFs_le r left (n + szF t (left - n))
    simp only [szFs, wfs]
    split <;> omega
end
theorem szFs_stop (l : List Fm) (left n : Int) (h : ¬ n ≤ left) : szFs l left n = n := by
  cases l with
  | nil => rfl
  | cons t r => simp [szFs, h]

set_option maxHeartbeats 1000000 in
theorem sizeF_any : ∀ (N : Nat) (f : Fm), f.wt ≤ N → N ≤ 10000000 → ∀ (left : Int), -20000000 ≤ left → left ≤ 20000000 → ∀ (v : Value) (w : World), FmVal w v f →
    Calls Try.prog 13 #[v, .int .i64 left] w fun e w' => e = .returned (.int .i64 (szF f left)) ∧ Below w.heap.size w w' := by
  intro N
  induction N with
  | zero => intro f hf; have := f.wt_pos; omega
  | succ N ih =>
    intro f hf hN left hl1 hl2 v w hv
    obtain ⟨x, y, rfl, hx, hy, hname, _, _⟩ := hv
    have hfe := f.wt_eq
    have hSf : szF f left = szFs f.sub left (1 + (f.name.size : Int).tdiv 40 + szTs f.args left 0) := by cases f; rfl
    have hq := tdiv40 f.name.size
    have hc := szTs_le f.args left 0
    obtain ⟨l, hl⟩ : ∃ l, f.sub = l := ⟨_, rfl⟩
    obtain ⟨q, hqq⟩ : ∃ q, (f.name.size : Int).tdiv 40 = q := ⟨_, rfl⟩
    obtain ⟨c, hcc⟩ : ∃ c, szTs f.args left 0 = c := ⟨_, rfl⟩
    rw [hl] at hfe hSf hy
    rw [hqq] at hq hSf
    rw [hcc] at hc hSf
    have htop := szFs_le l left (1 + q + c)
    obtain ⟨a, cap, rfl, hcap, hmax, hcells⟩ := hy.at
    have HC := Lib.hid hcells
    have IH := Lib.hid ih
    have HSF := Lib.hid hSf
    have HCC := Lib.hid hcc
    have HTOP := Lib.hid htop
    clear hcells ih hSf hcc htop
    have hlen := wfs_length l
    have s0 : IntKind.i64.wrap q = q := IntWalk.i64_in _ (by omega)
    have s1 : IntKind.i64.wrap (1 + q) = 1 + q := IntWalk.i64_in _ (by omega)
    have s2 : IntKind.i64.wrap (1 + q + c) = 1 + q + c := IntWalk.i64_in _ (by omega)
    go_enter Try.func13, Try.ntmps13
    go_wp2_with fail
    obtain ⟨wb, hwb⟩ : ∃ wb, w.alloc (.cells #[.int .u8 f.op, .string f.name, x, .slice a l.length cap] 25) = wb := ⟨_, rfl⟩
    have hbb : Below w.heap.size w wb := by rw [← hwb]; exact (Below.refl _ _).alloc (Nat.le_refl _) _
    obtain ⟨B, hB⟩ : ∃ B, w.heap.size = B := ⟨_, rfl⟩
    have f1 : wb.cell? ⟨B, 1, none⟩ = some (.string f.name) := by rw [← hwb, ← hB, World.cell?_alloc_at _ _ _ _ rfl]; rfl
    have f2 : wb.cell? ⟨B, 2, none⟩ = some x := by rw [← hwb, ← hB, World.cell?_alloc_at _ _ _ _ rfl]; rfl
    have f3 : wb.cell? ⟨B, 3, none⟩ = some (.slice a l.length cap) := by rw [← hwb, ← hB, World.cell?_alloc_at _ _ _ _ rfl]; rfl
    have hBl : B < wb.heap.size := by rw [← hwb, ← hB]; simp
    change Code.wp _ _ _ _ (w.alloc (.cells #[.int .u8 f.op, .string f.name, x, .slice a l.length cap] 25))
    rw [hwb, hB]
    clear hwb
    have g1 : ∀ p : Later wb, p.w'.cell? ⟨B, 1, none⟩ = some (.string f.name) := fun p => p.cell f1 hBl
    have g2 : ∀ p : Later wb, p.w'.cell? ⟨B, 2, none⟩ = some x := fun p => p.cell f2 hBl
    have hxb : TmsAt wb x f.args := hx.up hbb
    have hargs : wts f.args ≤ 10000000 := by omega
    refine wp_region_later (by kernel_rfl) (by kernel_rfl) ?_
    repeat (go_big_quiet_step ((go_at_call 34; exact Calls.later_of ((sizeTs_any 10000000 f.args hargs (Nat.le_refl _) left (by omega) (by omega) x _ (hxb.up (Later.h _))).mono (fun _ _ h => ⟨by rw [h.1, HCC.out], h.2⟩)))))
    (refine wpQuiet_nil ?_; rintro wq ⟨⟨_, hq⟩, rfl⟩; try dsimp only)
    have hbq : Below w.heap.size w wq := hbb.trans (hq.mono hbb.size)
    have f3' := (hq.cell (p := ⟨B, 3, none⟩) hBl).trans f3
    have hBq : B < wq.heap.size := Nat.lt_of_lt_of_le hBl hq.size
    clear g1 g2 f1 f2 f3 hq hBl
    go_wp2_with fail
    go_loopw [5, 6] (fun n i wr => ∃ (k : Nat) (m : Int), n = .int .i64 m ∧ i = .int .i64 (k : Int) ∧ k ≤ l.length ∧ 0 ≤ m ∧ m ≤ f.wt ∧ Hid (szFs (l.drop k) left m = szF f left) ∧ Below wq.heap.size wq wr) (fun _ i _ => l.length - (intOf i).toNat)
    case atStart => exact ⟨0, 1 + q + c, rfl, rfl, Nat.zero_le _, by omega, by omega, HSF.out.symm, Below.refl _ _⟩
    case round =>
      obtain ⟨k, m, rfl, rfl, hk, hm0, hm1, HS, hb⟩ := hrel
      have e3 := (hb.cell (p := ⟨B, 3, none⟩) hBq).trans f3'
      by_cases hlt : k < l.length
      · by_cases hml : m ≤ left
        · obtain ⟨b, off, rfl, hbl, hc⟩ := HC.out (by omega)
          obtain ⟨x', y', c0, c1, c2, c3, hx', hy', hsz⟩ := hc k hlt
          have hall : Below w.heap.size w wr := hbq.trans (hb.mono hbq.size)
          have d0 := (hall.cell (p := ⟨b, off + k * 4, none⟩) hbl).trans c0
          have d1 := (hall.cell (p := ⟨b, off + k * 4 + 1, none⟩) hbl).trans c1
          have d2 := (hall.cell (p := ⟨b, off + k * 4 + 2, none⟩) hbl).trans c2
          have d3 := (hall.cell (p := ⟨b, off + k * 4 + 3, none⟩) hbl).trans c3
          have hdr : l.drop k = l[k] :: l.drop (k + 1) := List.drop_eq_getElem_cons hlt
          have hv' : FmVal wr (.agg #[.int .u8 l[k].op, .string l[k].name, x', y']) l[k] := ⟨x', y', rfl, hx'.up hall, hy'.up hall, hsz⟩
          have hwk : l[k].wt ≤ wfs l := wfs_mem (List.getElem_mem hlt)
          have hsum : szFs (l.drop (k + 1)) left (m + szF l[k] (left - m)) = szF f left := by
            rw [← HS.out, hdr]; simp only [szFs]; rw [if_pos hml]
          have hto := szFs_le (l.drop (k + 1)) left (m + szF l[k] (left - m))
          have htl := szF_le f left
          have hT := szF_le l[k] (left - m)
          obtain ⟨c', hcc'⟩ : ∃ c, szF l[k] (left - m) = c := ⟨_, rfl⟩
          rw [hcc'] at hT
          have HSUM := Lib.hid (And.intro hsum (And.intro hto htl))
          have HCC2 := Lib.hid hcc'
          have s3 : IntKind.i64.wrap (left - m) = left - m := IntWalk.i64_in _ (by omega)
          have s4 : IntKind.i64.wrap (m + c') = m + c' := IntWalk.i64_in _ (by omega)
          clear hsum hto htl hcc' hdr c0 c1 c2 c3 hc
          go_wp2_with fail
          refine (IH.out l[k] (by omega) (by omega) (left - m) (by omega) (by omega) _ _ hv').mono ?_
          rintro e w2 ⟨rfl, hb2⟩
          rw [HCC2.out]
          go_wp2_with fail
          go_roundw
          case rel =>
            obtain ⟨z1, z2, z3⟩ := HSUM.out
            rw [HCC2.out] at z1 z2
            exact ⟨k + 1, m + c', by go_num, by go_num, by omega, by omega, by omega, z1, hb.trans (hb2.mono hb.size)⟩
          case measure => simp [intOf]; omega
        · have h0 := szFs_stop (l.drop k) left m hml
          have HF := Lib.hid (h0.symm.trans HS.out)
          clear h0
          go_wp2_with fail
          go_ret
          exact ⟨by rw [HF.out]; rfl, by first | exact hbq.trans (hb.mono hbq.size) | (rw [← hB]; exact hbq.trans (hb.mono hbq.size))⟩
      · have hkl : l.drop k = [] := List.drop_eq_nil_of_le (by omega)
        have h0 := HS.out
        rw [hkl] at h0
        simp only [szFs] at h0
        have HF := Lib.hid h0
        clear h0 hkl
        go_wp2_with fail
        go_ret
        exact ⟨by rw [HF.out]; rfl, by first | exact hbq.trans (hb.mono hbq.size) | (rw [← hB]; exact hbq.trans (hb.mono hbq.size))⟩

end Go.Proofs.Ytollifednpjkeaa
