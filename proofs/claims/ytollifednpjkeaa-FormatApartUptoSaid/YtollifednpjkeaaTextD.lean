import Derived.Test.YtollifednpjkeaaTextC
/-
  The texts of formulas.
-/
namespace Go.Proofs.Ytollifednpjkeaa
open Go.RowKit

def wFalse : ByteArray := ⟨#[102, 97, 108, 115, 101]⟩
def instTx (n : ByteArray) : List Tm → ByteArray
  | x :: y :: _ => n ++ ⟨#[91]⟩ ++ y.name ++ ⟨#[47]⟩ ++ x.name ++ ⟨#[93]⟩
  | _ => ⟨#[]⟩
/-- The text of a formula without parts. -/
def simpleTx (sep : ByteArray) (o : Int) (n : ByteArray) (a : List Tm) : ByteArray :=
  if o = 2 then wFalse else if o = 16 then instTx n a else termTx sep n a
theorem termTx_le (sep n : ByteArray) (a : List Tm) (hs : sep.size ≤ 2) : (termTx sep n a).size ≤ n.size + 2 + 4 * wts a := by
  have h1 := txs_le sep hs a
  rw [txs_map] at h1
  have h2 := joinS_le sep (a.map (Tm.tx sep))
  unfold termTx
  cases a.isEmpty
  · simp only [cond_false, bs_append_size]
    have : (⟨#[40]⟩ : ByteArray).size = 1 := rfl
    have : (⟨#[41]⟩ : ByteArray).size = 1 := rfl
    omega
  · simp only [cond_true]; omega
theorem Tm.name_le (t : Tm) : t.name.size ≤ t.wt := by have := t.wt_eq; omega
theorem simpleTx_le (sep : ByteArray) (o : Int) (n : ByteArray) (a : List Tm) (hs : sep.size ≤ 2) : (simpleTx sep o n a).size ≤ n.size + 5 + 4 * wts a := by
  unfold simpleTx
  split
  · have : wFalse.size = 5 := rfl
    omega
  · split
    · match a with
      | [] => exact Nat.zero_le _
      | [_] => exact Nat.zero_le _
      | x :: y :: r =>
        have h1 := x.name_le
        have h2 := y.name_le
        simp only [instTx, bs_append_size, wts]
        have : (⟨#[91]⟩ : ByteArray).size = 1 := rfl
        have : (⟨#[47]⟩ : ByteArray).size = 1 := rfl
        have : (⟨#[93]⟩ : ByteArray).size = 1 := rfl
        omega
    · have := termTx_le sep n a hs
      omega

set_option maxRecDepth 100000 in
set_option maxHeartbeats 2000000 in
theorem simple_any (f : Fm) (hf : f.wt ≤ 10000000) (h16 : f.op = 16 → 2 ≤ f.args.length) (sep : ByteArray) (hsep : sep.size ≤ 2) (v : Value) (w : World) (hv : FmVal w v f) :
    Calls Try.prog 55 #[v, .string sep] w fun e w' => e = .returned (.string (simpleTx sep f.op f.name f.args)) ∧ Below w.heap.size w w' := by
  obtain ⟨x, y, rfl, hx, hy, hz, ho0, ho1⟩ := hv
  obtain ⟨la, hla⟩ : ∃ la, f.args = la := ⟨_, rfl⟩
  have hwe := f.wt_eq
  rw [hla] at hx h16 hwe ⊢
  clear hla
  obtain ⟨ax, cx, rfl, hlx, hmx, hcx⟩ := hx.at
  obtain ⟨ay, cy, rfl, hly, hmy, _⟩ := hy.at
  obtain ⟨k, hk⟩ : ∃ k : Nat, f.op = k := ⟨f.op.toNat, by omega⟩
  rw [hk] at ho0 ho1 h16 ⊢
  have hn : f.name.size ≤ 10000000 := by omega
  have hta : wts la ≤ 10000000 := by omega
  have HCX := Lib.hid hcx
  clear hk hy hwe hcx
  obtain ⟨wb, hwb⟩ : ∃ wb, w.alloc (.cells #[.int .u8 (k : Int), .string f.name, .slice ax la.length cx, .slice ay f.sub.length cy] 25) = wb := ⟨_, rfl⟩
  have hbb : Below w.heap.size w wb := by rw [← hwb]; exact (Below.refl _ _).alloc (Nat.le_refl _) _
  have f0 : wb.cell? ⟨w.heap.size, 0, none⟩ = some (.int .u8 (k : Int)) := by rw [← hwb, World.cell?_alloc_at _ _ _ _ rfl]; rfl
  have f1 : wb.cell? ⟨w.heap.size, 1, none⟩ = some (.string f.name) := by rw [← hwb, World.cell?_alloc_at _ _ _ _ rfl]; rfl
  have f2 : wb.cell? ⟨w.heap.size, 2, none⟩ = some (.slice ax la.length cx) := by rw [← hwb, World.cell?_alloc_at _ _ _ _ rfl]; rfl
  by_cases h2 : k = 2
  · have hr : simpleTx sep (k : Int) f.name la = wFalse := by subst h2; rfl
    rw [hr]
    subst h2
    clear hr h16 hx
    go_enter Try.func55, Try.ntmps55
    go_wp2_with fail
    go_ret
    exact ⟨rfl, (Below.refl _ _).alloc (Nat.le_refl _) _⟩
  · have i2 : ((k : Int) == 2) = false := by rw [beq_eq_false_iff_ne]; omega
    by_cases h6 : k = 16
    · have hl := h16 (by omega)
      obtain ⟨p, q, r, rfl⟩ : ∃ p q r, la = p :: q :: r := by
        match la, hl with
        | p :: q :: r, _ => exact ⟨p, q, r, rfl⟩
      have hr : simpleTx sep (k : Int) f.name (p :: q :: r) = f.name ++ ⟨#[91]⟩ ++ q.name ++ ⟨#[47]⟩ ++ p.name ++ ⟨#[93]⟩ := by subst h6; rfl
      rw [hr]
      subst h6
      obtain ⟨b, off, rfl, hbl, hc⟩ := HCX.out (Nat.succ_pos _)
      obtain ⟨vx, x0, x1, x2, hvx, hzx⟩ := hc 0 (Nat.succ_pos _)
      obtain ⟨vy, y0, y1, y2, hvy, hzy⟩ := hc 1 (by simp)
      simp only [List.getElem_cons_zero, List.getElem_cons_succ, Nat.zero_mul, Nat.add_zero, Nat.one_mul] at x1 y1
      have x1 := (hbb.cell (p := ⟨b, off + 1, none⟩) hbl).trans x1
      have y1 := (hbb.cell (p := ⟨b, off + 3 + 1, none⟩) hbl).trans y1
      have hp := p.name_le
      have hq := q.name_le
      have hpn : p.name.size ≤ 10000000 := by simp only [wts] at hta; omega
      have hqn : q.name.size ≤ 10000000 := by simp only [wts] at hta; omega
      have hlen : (1 : Int) < ((p :: q :: r).length : Int) := by simp only [List.length_cons]; omega
      have hlen0 : (0 : Int) < ((p :: q :: r).length : Int) := by simp only [List.length_cons]; omega
      obtain ⟨m, hm⟩ : ∃ m, (p :: q :: r).length = m := ⟨_, rfl⟩
      rw [hm] at hlen hlen0 f2 hwb ⊢
      clear hr hm hc hvx hvy hx x0 x2 y0 y2 h16 hta HCX
      go_enter Try.func55, Try.ntmps55
      go_wp2_with fail
      go_quiet (fail)
      go_wp2_with fail
      go_ret
      exact ⟨rfl, below_drewN ((Below.refl _ _).alloc (Nat.le_refl _) _) _⟩
    · have i6 : ((k : Int) == 16) = false := by rw [beq_eq_false_iff_ne]; omega
      have hr : simpleTx sep (k : Int) f.name la = termTx sep f.name la := by unfold simpleTx; rw [if_neg (by omega), if_neg (by omega)]
      rw [hr]
      have H := Lib.hid (termTx_all 10000000 la hta (Nat.le_refl _) f.name sep hn hsep _ wb (hx.up hbb))
      clear hr hx
      go_enter Try.func55, Try.ntmps55
      go_wp2_with fail
      refine H.out.mono ?_
      rintro e w2 ⟨rfl, hb2⟩
      go_wp2_with fail
      go_ret
      exact ⟨rfl, hbb.trans (hb2.mono hbb.size)⟩

end Go.Proofs.Ytollifednpjkeaa
