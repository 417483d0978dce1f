import Derived.Test.YtollifednpjkeaaTreeA
import Derived.Lib.SlicesS
import Derived.Deep.DeepCutAuto
import Derived.Deep.CutBlock
import Derived.Deep.RegionHeld3
import Derived.Deep.LoopGhost
/-
  Equality of formulas, as lyceumlaw02 tells it.
-/
namespace Go.Proofs.Ytollifednpjkeaa
open Go.RowKit

theorem Tm.ext' {t u : Tm} (h1 : t.v = u.v) (h2 : t.name = u.name) (h3 : t.args = u.args) : t = u := by
  cases t; cases u; simp only [Tm.v, Tm.name, Tm.args] at *; simp [h1, h2, h3]
theorem Fm.ext' {t u : Fm} (h1 : t.op = u.op) (h2 : t.name = u.name) (h3 : t.args = u.args) (h4 : t.sub = u.sub) : t = u := by
  cases t; cases u; simp only [Fm.op, Fm.name, Fm.args, Fm.sub] at *; simp [h1, h2, h3, h4]
/-- Equality as a Bool. -/
noncomputable def eqB {α : Type} (a b : α) : Bool := @decide (a = b) (Classical.propDecidable _)
theorem eqB_true {α : Type} {a b : α} (h : a = b) : eqB a b = true := by unfold eqB; exact @decide_eq_true _ (Classical.propDecidable _) h
theorem eqB_false {α : Type} {a b : α} (h : ¬ a = b) : eqB a b = false := by unfold eqB; exact @decide_eq_false _ (Classical.propDecidable _) h
theorem eqB_iff {α : Type} {a b : α} : eqB a b = true ↔ a = b := ⟨fun h => by unfold eqB at h; exact @of_decide_eq_true _ (Classical.propDecidable _) h, eqB_true⟩
theorem ne_of_at {α : Type} {l m : List α} {k : Nat} (h1 : k < l.length) (h2 : k < m.length) (h : ¬ l[k] = m[k]) : ¬ l = m := fun e => h (by subst e; rfl)
theorem take_eq_succ {α : Type} {l m : List α} {k : Nat} (h1 : k < l.length) (h2 : k < m.length) (h : l[k] = m[k]) (ht : l.take k = m.take k) : l.take (k + 1) = m.take (k + 1) := by
  rw [List.take_succ_eq_append_getElem h1, List.take_succ_eq_append_getElem h2, h, ht]

set_option maxHeartbeats 2000000 in
theorem sameTs_any : ∀ (N : Nat) (l m : List Tm), wts l ≤ N → N ≤ 10000000 → ∀ (v u : Value) (w : World), TmsAt w v l → TmsAt w u m →
    Calls Try.prog 32 #[v, u] w fun e w' => e = .returned (.bool (eqB l m)) ∧ Below w.heap.size w w' := by
  intro N
  induction N with
  | zero =>
    intro l m hl _ v u w hv hu
    have : l = [] := by have := wts_length l; exact List.eq_nil_of_length_eq_zero (by omega)
    subst this
    obtain ⟨a, cap, rfl, hcap, hmax, _⟩ := hv.at
    obtain ⟨a', cap', rfl, hcap', hmax', _⟩ := hu.at
    by_cases hm : m.length = 0
    · have : m = [] := List.eq_nil_of_length_eq_zero hm
      subst this
      simp only [List.length_nil]
      go_enter Try.func32, Try.ntmps32
      go_wp2_with fail
      go_loop [5] (fun i => i = .int .i64 0) (fun _ => 0)
      case atStart => rfl
      case round =>
        obtain rfl := hrel
        go_wp2_with fail
        go_ret
        exact ⟨by rw [eqB_true rfl]; rfl, Below.refl _ _⟩
    · have hne : ((0 : Int) != (m.length : Int)) = true := by simp; omega
      have hne2 : ¬ ([] : List Tm) = m := fun e => hm (by rw [← e]; rfl)
      have HM := Lib.hid hne2
      simp only [List.length_nil]
      clear hm hne2
      go_enter Try.func32, Try.ntmps32
      go_wp2_with fail
      go_ret
      exact ⟨by rw [eqB_false HM.out]; rfl, Below.refl _ _⟩
  | succ N ih =>
    intro l m hl hN v u w hv hu
    obtain ⟨a, cap, rfl, hcap, hmax, hcells⟩ := hv.at
    obtain ⟨a', cap', rfl, hcap', hmax', hcells'⟩ := hu.at
    have HC := Lib.hid hcells
    have HC' := Lib.hid hcells'
    have IH := Lib.hid ih
    clear hcells hcells' ih hv hu
    have hlen := wts_length l
    by_cases hlm : l.length = m.length
    · have hne : ((l.length : Int) != (m.length : Int)) = false := by simp; omega
      have HLM := Lib.hid hlm
      clear hlm
      go_enter Try.func32, Try.ntmps32
      go_wp2_with fail
      go_loopw [5] (fun i wr => ∃ (k : Nat), i = .int .i64 (k : Int) ∧ k ≤ l.length ∧ Hid (l.take k = m.take k) ∧ Below w.heap.size w wr) (fun i _ => l.length - (intOf i).toNat)
      case atStart => exact ⟨0, rfl, Nat.zero_le _, by show _ = _; simp, Below.refl _ _⟩
      case round =>
        obtain ⟨k, rfl, hk, HT, hb⟩ := hrel
        by_cases hlt : k < l.length
        · have hlt' : k < m.length := by have := HLM.out; omega
          obtain ⟨b, off, rfl, hbl, hc⟩ := HC.out (by omega)
          obtain ⟨b', off', rfl, hbl', hc'⟩ := HC'.out (by omega)
          obtain ⟨x, c0, c1, c2, hx, _⟩ := hc k hlt
          obtain ⟨x', c0', c1', c2', hx', _⟩ := hc' k hlt'
          have hbr : b < wr.heap.size := Nat.lt_of_lt_of_le hbl hb.size
          have hbr' : b' < wr.heap.size := Nat.lt_of_lt_of_le hbl' hb.size
          have f0 : ∀ p : Later wr, p.w'.cell? ⟨b, off + k * 3, none⟩ = some (.bool l[k].v) := fun p => p.cell ((hb.cell (p := ⟨b, off + k * 3, none⟩) hbl).trans c0) hbr
          have f1 : ∀ p : Later wr, p.w'.cell? ⟨b, off + k * 3 + 1, none⟩ = some (.string l[k].name) := fun p => p.cell ((hb.cell (p := ⟨b, off + k * 3 + 1, none⟩) hbl).trans c1) hbr
          have f2 : ∀ p : Later wr, p.w'.cell? ⟨b, off + k * 3 + 2, none⟩ = some x := fun p => p.cell ((hb.cell (p := ⟨b, off + k * 3 + 2, none⟩) hbl).trans c2) hbr
          have g0 : ∀ p : Later wr, p.w'.cell? ⟨b', off' + k * 3, none⟩ = some (.bool m[k].v) := fun p => p.cell ((hb.cell (p := ⟨b', off' + k * 3, none⟩) hbl').trans c0') hbr'
          have g1 : ∀ p : Later wr, p.w'.cell? ⟨b', off' + k * 3 + 1, none⟩ = some (.string m[k].name) := fun p => p.cell ((hb.cell (p := ⟨b', off' + k * 3 + 1, none⟩) hbl').trans c1') hbr'
          have g2 : ∀ p : Later wr, p.w'.cell? ⟨b', off' + k * 3 + 2, none⟩ = some x' := fun p => p.cell ((hb.cell (p := ⟨b', off' + k * 3 + 2, none⟩) hbl').trans c2') hbr'
          have hxr : TmsAt wr x l[k].args := hx.up hb
          have hxr' : TmsAt wr x' m[k].args := hx'.up hb
          have hwk : l[k].wt ≤ wts l := wts_mem (List.getElem_mem hlt)
          have hargs : wts l[k].args ≤ N := by have := Tm.wt_eq l[k]; omega
          have hk2 : (k : Int) < (m.length : Int) := by omega
          clear c0 c1 c2 c0' c1' c2' hc hc' hwk
          by_cases hV : l[k].v = m[k].v
          · have b0 : (l[k].v == m[k].v) = true := by simp [hV]
            by_cases hS : l[k].name = m[k].name
            · have b1 : (l[k].name.toList == m[k].name.toList) = true := (Lib.bytes_beq_iff _ _).2 hS
              cases hE : eqB l[k].args m[k].args
              · have HE := Lib.hid hE
                have HF := Lib.hid (ne_of_at hlt hlt' (fun e => by rw [e, eqB_true rfl] at hE; cases hE))
                clear hE hV hS
                go_wp2_with fail
                refine wp_region_later (by kernel_rfl) (by kernel_rfl) ?_
                repeat (go_big_quiet_step ((go_at_call 32; exact Calls.later_of ((IH.out l[k].args m[k].args hargs (by omega) x x' _ (hxr.up (Later.h _)) (hxr'.up (Later.h _))).mono (fun _ _ h => ⟨by rw [h.1, HE.out], h.2⟩)))))
                (refine wpQuiet_nil ?_; rintro wq ⟨⟨_, hq⟩, rfl⟩; try dsimp only)
                go_wp2_with fail
                go_ret
                exact ⟨by rw [eqB_false HF.out]; rfl, hb.trans (hq.mono hb.size)⟩
              · have HE := Lib.hid hE
                have HT2 := Lib.hid (take_eq_succ hlt hlt' (Tm.ext' hV hS (eqB_iff.1 hE)) HT.out)
                clear hE hV hS
                go_wp2_with fail
                refine wp_region_later (by kernel_rfl) (by kernel_rfl) ?_
                repeat (go_big_quiet_step ((go_at_call 32; exact Calls.later_of ((IH.out l[k].args m[k].args hargs (by omega) x x' _ (hxr.up (Later.h _)) (hxr'.up (Later.h _))).mono (fun _ _ h => ⟨by rw [h.1, HE.out], h.2⟩)))))
                (refine wpQuiet_nil ?_; rintro wq ⟨⟨_, hq⟩, rfl⟩; try dsimp only)
                go_wp2_with fail
                go_roundw
                case rel => exact ⟨k + 1, by go_num, by omega, HT2.out, hb.trans (hq.mono hb.size)⟩
                case measure => simp [intOf]; omega
            · have b1 : (l[k].name.toList == m[k].name.toList) = false := (Lib.bytes_beq_false_iff _ _).2 hS
              have HF := Lib.hid (ne_of_at hlt hlt' (fun e => hS (by rw [e])))
              clear hV hS
              go_wp2_with fail
              refine wp_region_later (by kernel_rfl) (by kernel_rfl) ?_
              repeat (go_big_quiet_step (fail))
              (refine wpQuiet_nil ?_; rintro wq ⟨⟨_, hq⟩, rfl⟩; try dsimp only)
              go_wp2_with fail
              go_ret
              exact ⟨by rw [eqB_false HF.out]; rfl, hb.trans (hq.mono hb.size)⟩
          · have b0 : (l[k].v == m[k].v) = false := by simp [hV]
            have HF := Lib.hid (ne_of_at hlt hlt' (fun e => hV (by rw [e])))
            clear hV
            go_wp2_with fail
            refine wp_region_later (by kernel_rfl) (by kernel_rfl) ?_
            repeat (go_big_quiet_step (fail))
            (refine wpQuiet_nil ?_; rintro wq ⟨⟨_, hq⟩, rfl⟩; try dsimp only)
            go_wp2_with fail
            go_ret
            exact ⟨by rw [eqB_false HF.out]; rfl, hb.trans (hq.mono hb.size)⟩
        · have HF := Lib.hid (show l = m by
            have := HT.out
            rw [List.take_of_length_le (by omega), List.take_of_length_le (by have := HLM.out; omega)] at this; exact this)
          go_wp2_with fail
          go_ret
          exact ⟨by rw [eqB_true HF.out]; rfl, hb⟩
    · have hne : ((l.length : Int) != (m.length : Int)) = true := by simp; omega
      have HF := Lib.hid (fun e : l = m => hlm (by rw [e]))
      clear hlm
      go_enter Try.func32, Try.ntmps32
      go_wp2_with fail
      go_ret
      exact ⟨by rw [eqB_false HF.out]; rfl, Below.refl _ _⟩

def SameP (N : Nat) : Prop := ∀ (f g : Fm), f.wt ≤ N → N ≤ 10000000 → ∀ (v u : Value) (w : World), FmVal w v f → FmVal w u g →
    Calls Try.prog 12 #[v, u] w fun e w' => e = .returned (.bool (eqB f g)) ∧ Below w.heap.size w w'
def SameFsP (N : Nat) : Prop := ∀ (l m : List Fm), wfs l ≤ N → N ≤ 10000000 → ∀ (v u : Value) (w : World), FmsAt w v l → FmsAt w u m →
    Calls Try.prog 33 #[v, u] w fun e w' => e = .returned (.bool (eqB l m)) ∧ Below w.heap.size w w'

/-- Two boxes of four cells behind one another. -/
theorem two_boxes (w : World) (a b : Array Value) (t : TypeId) (j : Nat) : ((w.alloc (.cells a t)).alloc (.cells b t)).cell? ⟨w.heap.size, j, none⟩ = a[j]? ∧ ((w.alloc (.cells a t)).alloc (.cells b t)).cell? ⟨w.heap.size + 1, j, none⟩ = b[j]? := by
  constructor
  · rw [World.cell?_alloc_past _ _ _ (by simp), World.cell?_alloc_at _ _ _ _ rfl]
  · rw [World.cell?_alloc_at _ _ _ _ (by simp)]

set_option maxHeartbeats 2000000 in
theorem same_step (N : Nat) (hS : SameFsP N) : SameP (N + 1) := by
  intro f g hf hN v u w hv hu
  obtain ⟨x, y, rfl, hx, hy, hname, _, _⟩ := hv
  obtain ⟨x', y', rfl, hx', hy', hname', _, _⟩ := hu
  have hfe := f.wt_eq
  have hargs : wts f.args ≤ 10000000 := by omega
  have hsub : wfs f.sub ≤ N := by omega
  have HS := Lib.hid hS
  clear hS hfe
  go_enter Try.func12, Try.ntmps12
  go_upto_region 1 with fail
  obtain ⟨wb, hwb⟩ : ∃ wb, (w.alloc (.cells #[.int .u8 f.op, .string f.name, x, y] 25)).alloc (.cells #[.int .u8 g.op, .string g.name, x', y'] 25) = wb := ⟨_, rfl⟩
  have hbb : Below w.heap.size w wb := by rw [← hwb]; exact ((Below.refl _ _).alloc (Nat.le_refl _) _).alloc (by simp) _
  have f0 : wb.cell? ⟨w.heap.size, 0, none⟩ = some (.int .u8 f.op) := by rw [← hwb]; exact (two_boxes _ _ _ _ 0).1
  have f1 : wb.cell? ⟨w.heap.size, 1, none⟩ = some (.string f.name) := by rw [← hwb]; exact (two_boxes _ _ _ _ 1).1
  have f2 : wb.cell? ⟨w.heap.size, 2, none⟩ = some x := by rw [← hwb]; exact (two_boxes _ _ _ _ 2).1
  have f3 : wb.cell? ⟨w.heap.size, 3, none⟩ = some y := by rw [← hwb]; exact (two_boxes _ _ _ _ 3).1
  have g0 : wb.cell? ⟨w.heap.size + 1, 0, none⟩ = some (.int .u8 g.op) := by rw [← hwb]; exact (two_boxes _ _ _ _ 0).2
  have g1 : wb.cell? ⟨w.heap.size + 1, 1, none⟩ = some (.string g.name) := by rw [← hwb]; exact (two_boxes _ _ _ _ 1).2
  have g2 : wb.cell? ⟨w.heap.size + 1, 2, none⟩ = some x' := by rw [← hwb]; exact (two_boxes _ _ _ _ 2).2
  have g3 : wb.cell? ⟨w.heap.size + 1, 3, none⟩ = some y' := by rw [← hwb]; exact (two_boxes _ _ _ _ 3).2
  have hsz : wb.heap.size = w.heap.size + 2 := by rw [← hwb]; simp
  change Code.wp _ _ _ _ ((w.alloc (.cells #[.int .u8 f.op, .string f.name, x, y] 25)).alloc (.cells #[.int .u8 g.op, .string g.name, x', y'] 25))
  rw [hwb]
  have hB1 : w.heap.size < wb.heap.size := by omega
  have hB2 : w.heap.size + 1 < wb.heap.size := by omega
  clear hwb hsz
  have hxb := hx.up hbb
  have hxb' := hx'.up hbb
  by_cases h0 : f.op = g.op
  · have b0 : (f.op == g.op) = true := by simp [h0]
    by_cases h1 : f.name = g.name
    · have b1 : (f.name.toList == g.name.toList) = true := (Lib.bytes_beq_iff _ _).2 h1
      by_cases h2 : f.args = g.args
      · have HE := Lib.hid (eqB_true h2)
        have HF := Lib.hid (show eqB f g = eqB f.sub g.sub by
          by_cases h3 : f.sub = g.sub
          · rw [eqB_true h3, eqB_true (Fm.ext' h0 h1 h2 h3)]
          · rw [eqB_false h3, eqB_false (fun e => h3 (by rw [e]))])
        clear h0 h1 h2
        go_wp2_with fail
        refine (sameTs_any _ f.args g.args (Nat.le_refl _) hargs x x' _ hxb hxb').mono ?_
        rintro e w2 ⟨rfl, hb2⟩
        rw [HE.out]
        have f3' := (hb2.cell (p := ⟨w.heap.size, 3, none⟩) hB1).trans f3
        have g3' := (hb2.cell (p := ⟨w.heap.size + 1, 3, none⟩) hB2).trans g3
        go_wp2_with fail
        refine (HS.out f.sub g.sub hsub (by omega) y y' _ ((hy.up hbb).up hb2) ((hy'.up hbb).up hb2)).mono ?_
        rintro e w3 ⟨rfl, hb3⟩
        go_wp2_with fail
        go_ret
        exact ⟨by rw [HF.out]; rfl, hbb.trans ((hb2.trans (hb3.mono hb2.size)).mono hbb.size)⟩
      · have HE := Lib.hid (eqB_false h2)
        have HF := Lib.hid (eqB_false (fun e : f = g => h2 (by rw [e])))
        clear h0 h1 h2
        go_wp2_with fail
        refine (sameTs_any _ f.args g.args (Nat.le_refl _) hargs x x' _ hxb hxb').mono ?_
        rintro e w2 ⟨rfl, hb2⟩
        rw [HE.out]
        go_wp2_with fail
        go_ret
        exact ⟨by rw [HF.out]; rfl, hbb.trans (hb2.mono hbb.size)⟩
    · have b1 : (f.name.toList == g.name.toList) = false := (Lib.bytes_beq_false_iff _ _).2 h1
      have HF := Lib.hid (eqB_false (fun e : f = g => h1 (by rw [e])))
      clear h0 h1
      go_wp2_with fail
      go_ret
      exact ⟨by rw [HF.out]; rfl, hbb⟩
  · have b0 : (f.op == g.op) = false := by simp [h0]
    have HF := Lib.hid (eqB_false (fun e : f = g => h0 (by rw [e])))
    clear h0
    go_wp2_with fail
    go_ret
    exact ⟨by rw [HF.out]; rfl, hbb⟩

set_option maxHeartbeats 2000000 in
theorem sameFs_step (N : Nat) (hS : SameP N) : SameFsP N := by
  intro l m hl hN v u w hv hu
  obtain ⟨a, cap, rfl, hcap, hmax, hcells⟩ := hv.at
  obtain ⟨a', cap', rfl, hcap', hmax', hcells'⟩ := hu.at
  have HC := Lib.hid hcells
  have HC' := Lib.hid hcells'
  have IH := Lib.hid hS
  clear hcells hcells' hS hv hu
  have hlen := wfs_length l
  by_cases hlm : l.length = m.length
  · have hne : ((l.length : Int) != (m.length : Int)) = false := by simp; omega
    have HLM := Lib.hid hlm
    clear hlm
    go_enter Try.func33, Try.ntmps33
    go_wp2_with fail
    go_loopw [5] (fun i wr => ∃ (k : Nat), i = .int .i64 (k : Int) ∧ k ≤ l.length ∧ Hid (l.take k = m.take k) ∧ Below w.heap.size w wr) (fun i _ => l.length - (intOf i).toNat)
    case atStart => exact ⟨0, rfl, Nat.zero_le _, by show _ = _; simp, Below.refl _ _⟩
    case round =>
      obtain ⟨k, rfl, hk, HT, hb⟩ := hrel
      by_cases hlt : k < l.length
      · have hlt' : k < m.length := by have := HLM.out; omega
        obtain ⟨b, off, rfl, hbl, hc⟩ := HC.out (by omega)
        obtain ⟨b', off', rfl, hbl', hc'⟩ := HC'.out (by omega)
        obtain ⟨x, y, c0, c1, c2, c3, hx, hy, hz⟩ := hc k hlt
        obtain ⟨x', y', c0', c1', c2', c3', hx', hy', hz'⟩ := hc' k hlt'
        have hbr : b < wr.heap.size := Nat.lt_of_lt_of_le hbl hb.size
        have hbr' : b' < wr.heap.size := Nat.lt_of_lt_of_le hbl' hb.size
        have f0 : ∀ p : Later wr, p.w'.cell? ⟨b, off + k * 4, none⟩ = some (.int .u8 l[k].op) := fun p => p.cell ((hb.cell (p := ⟨b, off + k * 4, none⟩) hbl).trans c0) hbr
        have f1 : ∀ p : Later wr, p.w'.cell? ⟨b, off + k * 4 + 1, none⟩ = some (.string l[k].name) := fun p => p.cell ((hb.cell (p := ⟨b, off + k * 4 + 1, none⟩) hbl).trans c1) hbr
        have f2 : ∀ p : Later wr, p.w'.cell? ⟨b, off + k * 4 + 2, none⟩ = some x := fun p => p.cell ((hb.cell (p := ⟨b, off + k * 4 + 2, none⟩) hbl).trans c2) hbr
        have f3 : ∀ p : Later wr, p.w'.cell? ⟨b, off + k * 4 + 3, none⟩ = some y := fun p => p.cell ((hb.cell (p := ⟨b, off + k * 4 + 3, none⟩) hbl).trans c3) hbr
        have g0 : ∀ p : Later wr, p.w'.cell? ⟨b', off' + k * 4, none⟩ = some (.int .u8 m[k].op) := fun p => p.cell ((hb.cell (p := ⟨b', off' + k * 4, none⟩) hbl').trans c0') hbr'
        have g1 : ∀ p : Later wr, p.w'.cell? ⟨b', off' + k * 4 + 1, none⟩ = some (.string m[k].name) := fun p => p.cell ((hb.cell (p := ⟨b', off' + k * 4 + 1, none⟩) hbl').trans c1') hbr'
        have g2 : ∀ p : Later wr, p.w'.cell? ⟨b', off' + k * 4 + 2, none⟩ = some x' := fun p => p.cell ((hb.cell (p := ⟨b', off' + k * 4 + 2, none⟩) hbl').trans c2') hbr'
        have g3 : ∀ p : Later wr, p.w'.cell? ⟨b', off' + k * 4 + 3, none⟩ = some y' := fun p => p.cell ((hb.cell (p := ⟨b', off' + k * 4 + 3, none⟩) hbl').trans c3') hbr'
        have hvl : FmVal wr (.agg #[.int .u8 l[k].op, .string l[k].name, x, y]) l[k] := ⟨x, y, rfl, hx.up hb, hy.up hb, hz⟩
        have hvm : FmVal wr (.agg #[.int .u8 m[k].op, .string m[k].name, x', y']) m[k] := ⟨x', y', rfl, hx'.up hb, hy'.up hb, hz'⟩
        have hwk : l[k].wt ≤ N := Nat.le_trans (wfs_mem (List.getElem_mem hlt)) hl
        have hk2 : (k : Int) < (m.length : Int) := by omega
        clear c0 c1 c2 c3 c0' c1' c2' c3' hc hc' hx hy hx' hy' hz hz'
        cases hE : eqB l[k] m[k]
        · have HE := Lib.hid hE
          have HF := Lib.hid (ne_of_at hlt hlt' (fun e => by rw [e, eqB_true rfl] at hE; cases hE))
          clear hE
          go_wp2_with fail
          refine wp_region_later (by kernel_rfl) (by kernel_rfl) ?_
          repeat (go_big_quiet_step ((go_at_call 12; exact Calls.later_of ((IH.out l[k] m[k] hwk hN _ _ _ (hvl.up (Later.h _)) (hvm.up (Later.h _))).mono (fun _ _ h => ⟨by rw [h.1, HE.out], h.2⟩)))))
          (refine wpQuiet_nil ?_; rintro wq ⟨⟨_, hq⟩, rfl⟩; try dsimp only)
          go_wp2_with fail
          go_ret
          exact ⟨by rw [eqB_false HF.out]; rfl, hb.trans (hq.mono hb.size)⟩
        · have HE := Lib.hid hE
          have HT2 := Lib.hid (take_eq_succ hlt hlt' (eqB_iff.1 hE) HT.out)
          clear hE
          go_wp2_with fail
          refine wp_region_later (by kernel_rfl) (by kernel_rfl) ?_
          repeat (go_big_quiet_step ((go_at_call 12; exact Calls.later_of ((IH.out l[k] m[k] hwk hN _ _ _ (hvl.up (Later.h _)) (hvm.up (Later.h _))).mono (fun _ _ h => ⟨by rw [h.1, HE.out], h.2⟩)))))
          (refine wpQuiet_nil ?_; rintro wq ⟨⟨_, hq⟩, rfl⟩; try dsimp only)
          go_wp2_with fail
          go_roundw
          case rel => exact ⟨k + 1, by go_num, by omega, HT2.out, hb.trans (hq.mono hb.size)⟩
          case measure => simp [intOf]; omega
      · have HF := Lib.hid (show l = m by
          have := HT.out
          rw [List.take_of_length_le (by omega), List.take_of_length_le (by have := HLM.out; omega)] at this; exact this)
        go_wp2_with fail
        go_ret
        exact ⟨by rw [eqB_true HF.out]; rfl, hb⟩
  · have hne : ((l.length : Int) != (m.length : Int)) = true := by simp; omega
    have HF := Lib.hid (fun e : l = m => hlm (by rw [e]))
    clear hlm
    go_enter Try.func33, Try.ntmps33
    go_wp2_with fail
    go_ret
    exact ⟨by rw [eqB_false HF.out]; rfl, Below.refl _ _⟩

theorem same_all : ∀ N, SameP N ∧ SameFsP N := by
  intro N
  induction N with
  | zero =>
    have h : SameP 0 := fun f g hf => by have := f.wt_pos; omega
    exact ⟨h, sameFs_step 0 h⟩
  | succ N ih => exact ⟨same_step N ih.2, sameFs_step _ (same_step N ih.2)⟩

end Go.Proofs.Ytollifednpjkeaa
