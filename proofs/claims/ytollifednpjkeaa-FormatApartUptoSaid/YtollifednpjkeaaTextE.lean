import Derived.Test.YtollifednpjkeaaTextD
/-
  The texts of formulas: brackets; text.
-/
namespace Go.Proofs.Ytollifednpjkeaa
open Go.RowKit

def wrapTx (b : Bool) (s : ByteArray) : ByteArray := bif b then ⟨#[40]⟩ ++ s ++ ⟨#[41]⟩ else s
def brTx (full needed : Bool) (p : ByteArray × Int) : ByteArray := wrapTx (needed || (full && decide (p.2 < 6))) p.1
def aheadTx (k : Nat) (n : ByteArray) : ByteArray := bif isEmp n then sgT k else sgT k ++ (n ++ ⟨#[32]⟩)
def needL (k : Nat) (s : Int) : Bool := decide (s < sgS k) || (s == sgS k && sgR k)
def needR (k : Nat) (s : Int) : Bool := decide (s < sgS k) || (s == sgS k && !sgR k)
def nodeTx (full : Bool) (o : Int) (n : ByteArray) (a : List Tm) : List (ByteArray × Int) → ByteArray
  | [] => simpleTx ⟨#[44, 32]⟩ o n a
  | [p] => aheadTx o.toNat n ++ brTx full (decide (p.2 < 6)) p
  | p :: q :: _ => brTx full (needL o.toNat p.2) p ++ ⟨#[32]⟩ ++ sgT o.toNat ++ ⟨#[32]⟩ ++ brTx full (needR o.toNat q.2) q
mutual
def Fm.tx (full : Bool) : Fm → ByteArray
  | .mk o n a s => nodeTx full o n a (fTxs full s)
def fTxs (full : Bool) : List Fm → List (ByteArray × Int)
  | [] => []
  | f :: r => (f.tx full, f.str) :: fTxs full r
end
theorem Fm.tx_eq (full : Bool) (f : Fm) : f.tx full = nodeTx full f.op f.name f.args (fTxs full f.sub) := by cases f; simp only [Fm.tx, Fm.op, Fm.name, Fm.args, Fm.sub]
theorem wrapTx_le (b : Bool) (s : ByteArray) : (wrapTx b s).size ≤ s.size + 2 := by
  unfold wrapTx
  cases b
  · simp
  · simp only [cond_true, bs_append_size]
    have : (⟨#[40]⟩ : ByteArray).size = 1 := rfl
    have : (⟨#[41]⟩ : ByteArray).size = 1 := rfl
    omega
theorem brTx_le (full needed : Bool) (p : ByteArray × Int) : (brTx full needed p).size ≤ p.1.size + 2 := wrapTx_le _ _
theorem aheadTx_le (k : Nat) (n : ByteArray) : (aheadTx k n).size ≤ n.size + 8 := by
  have h := (sg_le k).1
  unfold aheadTx
  cases isEmp n
  · simp only [cond_false, bs_append_size]
    have : (⟨#[32]⟩ : ByteArray).size = 1 := rfl
    omega
  · simp only [cond_true]; omega
def sumTx : List (ByteArray × Int) → Nat
  | [] => 0
  | p :: r => p.1.size + 4 + sumTx r
theorem nodeTx_le (full : Bool) (o : Int) (n : ByteArray) (a : List Tm) (l : List (ByteArray × Int)) : (nodeTx full o n a l).size ≤ n.size + 16 + 4 * wts a + sumTx l := by
  have h32 : (⟨#[32]⟩ : ByteArray).size = 1 := rfl
  match l with
  | [] => have := simpleTx_le ⟨#[44, 32]⟩ o n a (Nat.le_refl _); simp only [nodeTx]; omega
  | [p] =>
    have h1 := aheadTx_le o.toNat n
    have h2 := brTx_le full (decide (p.2 < 6)) p
    simp only [nodeTx, bs_append_size, sumTx]; omega
  | p :: q :: r =>
    have h1 := (sg_le o.toNat).1
    have h2 := brTx_le full (needL o.toNat p.2) p
    have h3 := brTx_le full (needR o.toNat q.2) q
    simp only [nodeTx, bs_append_size, sumTx]; omega
mutual
theorem Fm.tx_le (full : Bool) (f : Fm) : (f.tx full).size + 4 ≤ 20 * f.wt := by
  cases f with
  | mk o n a s =>
    have h1 := fTxs_le full s
    have h2 := nodeTx_le full o n a (fTxs full s)
    simp only [Fm.tx, Fm.wt]; omega
theorem fTxs_le (full : Bool) (l : List Fm) : sumTx (fTxs full l) ≤ 20 * wfs l := by
  cases l with
  | nil => exact Nat.zero_le _
  | cons f r =>
    have h1 := f.tx_le full
    have h2 := fTxs_le full r
    simp only [fTxs, sumTx, wfs]; omega
end

theorem allSh_mem {sc : Bool} {l : List Fm} (h : allSh sc l = true) {g : Fm} (hg : g ∈ l) : g.sh sc = true := by
  induction l with
  | nil => cases hg
  | cons f r ih =>
    simp only [allSh, Bool.and_eq_true] at h
    rcases List.mem_cons.1 hg with rfl | hg
    · exact h.1
    · exact ih h.2 hg
theorem rowD_sub (k : Nat) (h : (rowD k).sb ≠ 0) (h1 : 1 ≤ k) (h2 : k ≤ 16) : 3 ≤ k ∧ k ≤ 14 := by
  obtain rfl | rfl | rfl | rfl | rfl | rfl | rfl | rfl | rfl | rfl | rfl | rfl | rfl | rfl | rfl | rfl : k = 1 ∨ k = 2 ∨ k = 3 ∨ k = 4 ∨ k = 5 ∨ k = 6 ∨ k = 7 ∨ k = 8 ∨ k = 9 ∨ k = 10 ∨ k = 11 ∨ k = 12 ∨ k = 13 ∨ k = 14 ∨ k = 15 ∨ k = 16 := by omega
  all_goals first | (exact absurd rfl h) | omega
/-- What a right formula has. -/
structure ShParts (sc : Bool) (f : Fm) : Prop where
  sub : ∀ g ∈ f.sub, g.sh sc = true
  op14 : f.sub = [] ∨ f.op ≤ 14
  op3 : f.sub = [] ∨ 3 ≤ f.op
  inst : f.op = 16 → 2 ≤ f.args.length
  two : f.sub.length ≤ 2
  op1 : 1 ≤ f.op ∧ f.op ≤ 16
theorem sh_parts {sc : Bool} {f : Fm} (h : f.sh sc = true) : ShParts sc f := by
  rw [f.sh_eq] at h
  simp only [Bool.and_eq_true] at h
  obtain ⟨hh, ha, hs⟩ := h
  unfold headOk at hh
  simp only [Bool.and_eq_true, decide_eq_true_eq] at hh
  obtain ⟨⟨h1, h2⟩, _, _, h3, h4⟩ := hh
  have hd := rowD_le f.op.toNat
  have key : f.sub = [] ∨ (3 ≤ f.op ∧ f.op ≤ 14) := by
    by_cases h0 : (rowD f.op.toNat).sb = 0
    · left; exact List.eq_nil_of_length_eq_zero (by omega)
    · right; have := rowD_sub f.op.toNat h0 (by omega) (by omega); omega
  refine ⟨fun g hg => allSh_mem hs hg, ?_, ?_, ?_, by omega, h1, h2⟩
  · rcases key with h | h
    · exact .inl h
    · exact .inr h.2
  · rcases key with h | h
    · exact .inl h
    · exact .inr h.1
  · intro h16
    unfold argsOk at ha
    rw [if_pos h16] at ha
    match hl : f.args, ha with
    | [x, y], _ => simp

def TextP (N : Nat) : Prop := ∀ (f : Fm), f.wt ≤ N → N ≤ 10000000 → f.sh true = true → ∀ (full : Bool) (v : Value) (w : World), FmVal w v f →
    Calls Try.prog 27 #[v, .bool full] w fun e w' => e = .returned (.string (f.tx full)) ∧ Below w.heap.size w w'
def BracketP (N : Nat) : Prop := ∀ (f : Fm), f.wt ≤ N → N ≤ 10000000 → f.sh true = true → ∀ (full needed : Bool) (v : Value) (b : Nat) (w : World), FmVal w v f → w.cell? ⟨b, 0, none⟩ = some (.bool full) →
    Calls Try.prog 53 #[v, .bool needed, .pointer (some ⟨b, 0, none⟩)] w fun e w' => e = .returned (.string (brTx full needed (f.tx full, f.str))) ∧ Below w.heap.size w w'

set_option maxHeartbeats 1000000 in
theorem bracket_of (N : Nat) (ih : TextP N) : BracketP N := by
  intro f hf hN hsh full needed v b w hv hb0
  have hv' := hv
  obtain ⟨x, y, rfl, hx, hy, hz, ho0, ho1⟩ := hv
  obtain ⟨ax, cx, rfl, _⟩ := hx.at
  obtain ⟨ay, cy, rfl, _⟩ := hy.at
  obtain ⟨wb, hwb⟩ : ∃ wb, w.alloc (.cells #[.int .u8 f.op, .string f.name, .slice ax f.args.length cx, .slice ay f.sub.length cy] 25) = wb := ⟨_, rfl⟩
  have hbb : Below w.heap.size w wb := by rw [← hwb]; exact (Below.refl _ _).alloc (Nat.le_refl _) _
  have f0 : wb.cell? ⟨w.heap.size, 0, none⟩ = some (.int .u8 f.op) := by rw [← hwb, World.cell?_alloc_at _ _ _ _ rfl]; rfl
  have f1 : wb.cell? ⟨w.heap.size, 1, none⟩ = some (.string f.name) := by rw [← hwb, World.cell?_alloc_at _ _ _ _ rfl]; rfl
  have f2 : wb.cell? ⟨w.heap.size, 2, none⟩ = some (.slice ax f.args.length cx) := by rw [← hwb, World.cell?_alloc_at _ _ _ _ rfl]; rfl
  have f3 : wb.cell? ⟨w.heap.size, 3, none⟩ = some (.slice ay f.sub.length cy) := by rw [← hwb, World.cell?_alloc_at _ _ _ _ rfl]; rfl
  have hBl : w.heap.size < wb.heap.size := by rw [← hwb]; simp
  have hblt := World.block_lt_of_cell? w _ hb0
  have g := (hbb.cell (p := ⟨b, 0, none⟩) hblt).trans hb0
  have hbl : b < wb.heap.size := Nat.lt_of_lt_of_le hblt hbb.size
  have hvb := hv'.up hbb
  have hop := (sh_parts hsh).op14
  have hle := f.tx_le full
  have HT := Lib.hid (ih f hf hN hsh full _ wb hvb)
  have HOP := Lib.hid hop
  obtain ⟨T, hT⟩ : ∃ T, f.tx full = T := ⟨_, rfl⟩
  obtain ⟨st, hst⟩ : ∃ st, f.str = st := ⟨_, rfl⟩
  rw [hT] at hle
  rw [hT, hst]
  have HE := Lib.hid (And.intro hT hst)
  clear hv' hx hy hT hst hop ih hsh
  go_enter Try.func53, Try.ntmps53
  go_wp2_with fail
  refine HT.out.mono ?_
  rintro e w1 ⟨rfl, hb1⟩
  rw [HE.out.1]
  have g := (hb1.cell (p := ⟨b, 0, none⟩) hbl).trans g
  have f0 := (hb1.cell (p := ⟨w.heap.size, 0, none⟩) hBl).trans f0
  have f1 := (hb1.cell (p := ⟨w.heap.size, 1, none⟩) hBl).trans f1
  have f2 := (hb1.cell (p := ⟨w.heap.size, 2, none⟩) hBl).trans f2
  have f3 := (hb1.cell (p := ⟨w.heap.size, 3, none⟩) hBl).trans f3
  have hv1 := hvb.up hb1
  have hbw1 := hbb.trans (hb1.mono hbb.size)
  cases needed
  · cases full
    · go_wp2_with fail
      go_ret
      exact ⟨rfl, hbw1⟩
    · go_wp2_with fail
      refine (strength_any f HOP.out _ _ hv1).mono ?_
      rintro e w2 ⟨rfl, hb2⟩
      rw [HE.out.2]
      by_cases h6 : st < 6
      · have hr : brTx true false (T, st) = ⟨#[40]⟩ ++ T ++ ⟨#[41]⟩ := by simp [brTx, wrapTx, h6]
        have HR := Lib.hid hr
        clear hr
        go_wp2_with fail
        go_ret
        exact ⟨ret_str HR.out.symm, hbw1.trans (hb2.mono hbw1.size)⟩
      · have hr : brTx true false (T, st) = T := by simp [brTx, wrapTx, h6]
        have HR := Lib.hid hr
        clear hr
        have d6 : decide (st < 6) = false := by simpa using h6
        go_wp2_with fail
        go_ret
        exact ⟨ret_str HR.out.symm, hbw1.trans (hb2.mono hbw1.size)⟩
  · have hr : brTx full true (T, st) = ⟨#[40]⟩ ++ T ++ ⟨#[41]⟩ := by simp [brTx, wrapTx]
    have HR := Lib.hid hr
    clear hr
    go_wp2_with fail
    go_ret
    exact ⟨ret_str HR.out.symm, hbw1⟩

end Go.Proofs.Ytollifednpjkeaa
