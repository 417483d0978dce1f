import Derived.Test.YtollifednpjkeaaTextA
/-
  The texts of terms.
-/
namespace Go.Proofs.Ytollifednpjkeaa
open Go.RowKit

theorem ret_str {a b : ByteArray} (h : a = b) : Ending.returned (.string a) = .returned (.string b) := by rw [h]
mutual
def Tm.tx (sep : ByteArray) : Tm → ByteArray
  | .mk _ n a => bif a.isEmpty then n else n ++ ⟨#[40]⟩ ++ joinS sep (txs sep a) ++ ⟨#[41]⟩
def txs (sep : ByteArray) : List Tm → List ByteArray
  | [] => []
  | t :: r => t.tx sep :: txs sep r
end
def termTx (sep n : ByteArray) (a : List Tm) : ByteArray := bif a.isEmpty then n else n ++ ⟨#[40]⟩ ++ joinS sep (a.map (Tm.tx sep)) ++ ⟨#[41]⟩
theorem txs_map (sep : ByteArray) (l : List Tm) : txs sep l = l.map (Tm.tx sep) := by
  induction l with
  | nil => rfl
  | cons t r ih => simp only [txs, ih, List.map_cons]
theorem Tm.tx_eq (sep : ByteArray) (t : Tm) : t.tx sep = termTx sep t.name t.args := by cases t; simp only [Tm.tx, termTx, Tm.name, Tm.args, txs_map]
def sumSz (k : Nat) : List ByteArray → Nat
  | [] => 0
  | x :: r => x.size + k + sumSz k r
theorem joinTail_le (sep : List UInt8) (r : List ByteArray) : (Lib.joinTail sep (r.map (·.data.toList))).length = sumSz sep.length r := by
  induction r with
  | nil => rfl
  | cons x r ih =>
    simp only [Lib.joinTail, List.map_cons, List.flatten_cons, List.length_append] at *
    rw [ih]; simp [sumSz]; omega
theorem joinS_le (sep : ByteArray) (xs : List ByteArray) : (joinS sep xs).size ≤ sumSz sep.size xs := by
  cases xs with
  | nil => exact Nat.zero_le _
  | cons x r =>
    have h : (joinS sep (x :: r)).size = (Lib.join ((x :: r).map (·.data.toList)) sep.data.toList).length := rfl
    rw [h, List.map_cons, Lib.join_cons, List.length_append, joinTail_le]
    simp [sumSz]
theorem bs_append_size (a b : ByteArray) : (a ++ b).size = a.size + b.size := ByteArray.size_append
mutual
theorem Tm.tx_le (sep : ByteArray) (hs : sep.size ≤ 2) (t : Tm) : (t.tx sep).size + 2 ≤ 4 * t.wt := by
  cases t with
  | mk v n a =>
    have h1 := txs_le sep hs a
    have h2 := joinS_le sep (txs sep a)
    simp only [Tm.tx, Tm.wt]
    cases a.isEmpty
    · simp only [cond_false, bs_append_size]
      have : (⟨#[40]⟩ : ByteArray).size = 1 := rfl
      have : (⟨#[41]⟩ : ByteArray).size = 1 := rfl
      omega
    · simp only [cond_true]; omega
theorem txs_le (sep : ByteArray) (hs : sep.size ≤ 2) (l : List Tm) : sumSz sep.size (txs sep l) ≤ 4 * wts l := by
  cases l with
  | nil => exact Nat.zero_le _
  | cons t r =>
    have h1 := t.tx_le sep hs
    have h2 := txs_le sep hs r
    simp only [txs, sumSz, wts]; omega
end

def TermTxP (N : Nat) : Prop := ∀ (a : List Tm), wts a ≤ N → N ≤ 10000000 → ∀ (n sep : ByteArray), n.size ≤ 10000000 → sep.size ≤ 2 → ∀ (v : Value) (w : World), TmsAt w v a →
    Calls Try.prog 40 #[.string n, v, .string sep] w fun e w' => e = .returned (.string (termTx sep n a)) ∧ Below w.heap.size w w'

theorem termTx1_tells (N : Nat) (hN : N ≤ 10000000) (ih : ∀ M, M < N → TermTxP M) (sep : ByteArray) (hsep : sep.size ≤ 2) (b : Nat) :
    TextsTm 68 #[.pointer (some ⟨b, 0, none⟩)] (fun W => W.cell? ⟨b, 0, none⟩ = some (.string sep)) (fun t => t.tx sep) N := by
  refine ⟨Try.call68, fun A B h hb => (hb.cell (p := ⟨b, 0, none⟩) (World.block_lt_of_cell? A _ h)).trans h, ?_⟩
  intro t v W hP ht hv
  obtain ⟨x, rfl, hx, hz⟩ := hv
  obtain ⟨ax, cx, rfl, _⟩ := hx.at
  obtain ⟨wb, hwb⟩ : ∃ wb, W.alloc (.cells #[.bool t.v, .string t.name, .slice ax t.args.length cx] 34) = wb := ⟨_, rfl⟩
  have hbb : Below W.heap.size W wb := by rw [← hwb]; exact (Below.refl _ _).alloc (Nat.le_refl _) _
  have f1 : wb.cell? ⟨W.heap.size, 1, none⟩ = some (.string t.name) := by rw [← hwb, World.cell?_alloc_at _ _ _ _ rfl]; rfl
  have f2 : wb.cell? ⟨W.heap.size, 2, none⟩ = some (.slice ax t.args.length cx) := by rw [← hwb, World.cell?_alloc_at _ _ _ _ rfl]; rfl
  have hPb := (hbb.cell (p := ⟨b, 0, none⟩) (World.block_lt_of_cell? W _ hP)).trans hP
  have hwe := t.wt_eq
  have H := Lib.hid (ih (wts t.args) (by omega) t.args (Nat.le_refl _) (by omega) t.name sep (by omega) hsep _ wb (hx.up hbb))
  have HE := Lib.hid (Tm.tx_eq sep t)
  clear ih
  show Calls Try.prog _ #[.agg #[.bool t.v, .string t.name, .slice ax t.args.length cx], .pointer (some ⟨b, 0, none⟩)] W _
  go_enter Try.func68, Try.ntmps68
  go_wp2_with fail
  refine H.out.mono ?_
  rintro e w' ⟨rfl, hb⟩
  go_wp2_with fail
  go_ret
  exact ⟨ret_str HE.out.symm, hbb.trans (hb.mono hbb.size)⟩

set_option maxHeartbeats 2000000 in
theorem termTx_step (N : Nat) (ih : ∀ M, M < N → TermTxP M) : TermTxP N := by
  intro a ha hN n sep hn hsep v w hv
  obtain ⟨ax, cx, rfl, hcap, hmax, _⟩ := hv.at
  have hlen := wts_length a
  by_cases h0 : a.length = 0
  · have hnil : a = [] := List.eq_nil_of_length_eq_zero h0
    subst hnil
    go_enter Try.func40, Try.ntmps40
    go_wp2_with fail
    go_ret
    exact ⟨rfl, (by repeat (first | exact Below.refl _ _ | assumption | refine Below.alloc ?_ (by simp; try omega) _ | refine Below.drew ?_ | refine Below.setCell ?_ (by simp; try omega) _))⟩
  · have i1 : ((a.length : Int) == 0) = false := by rw [beq_eq_false_iff_ne]; omega
    have T := Lib.hid (termTx1_tells N hN ih sep hsep w.heap.size)
    have hs := joinS_le sep (a.map (Tm.tx sep))
    have ht := txs_le sep hsep a
    rw [txs_map] at ht
    have he : termTx sep n a = n ++ ⟨#[40]⟩ ++ joinS sep (a.map (Tm.tx sep)) ++ ⟨#[41]⟩ := by
      unfold termTx; cases a with
      | nil => exact absurd rfl h0
      | cons => rfl
    have HLE := Lib.hid (Nat.le_trans hs (Nat.le_trans ht (by omega : 4 * wts a ≤ 10000000000)))
    have hJ : (joinS sep (a.map (Tm.tx sep))).size ≤ 40000000 := by omega
    obtain ⟨J, hJe⟩ : ∃ J, joinS sep (a.map (Tm.tx sep)) = J := ⟨_, rfl⟩
    rw [hJe] at hJ he
    have HE := Lib.hid he
    have HJ := Lib.hid hJe
    clear he hs ht hJe
    obtain ⟨wb, hwb⟩ : ∃ wb, w.alloc (.cells #[.string sep] 9) = wb := ⟨_, rfl⟩
    have hbb : Below w.heap.size w wb := by rw [← hwb]; exact (Below.refl _ _).alloc (Nat.le_refl _) _
    have f0 : wb.cell? ⟨w.heap.size, 0, none⟩ = some (.string sep) := by rw [← hwb, World.cell?_alloc_at _ _ _ _ rfl]; rfl
    have H := Lib.hid (joinedTm_any _ _ _ _ N T.out a ha hN sep HLE.out _ wb f0 (hv.up hbb))
    clear hv
    go_enter Try.func40, Try.ntmps40
    go_wp2_with fail
    refine H.out.mono ?_
    rintro e w2 ⟨rfl, hb2⟩
    rw [HJ.out]
    go_wp2_with fail
    go_ret
    exact ⟨ret_str HE.out.symm, hbb.trans (hb2.mono hbb.size)⟩
theorem termTx_all : ∀ N, TermTxP N := by
  intro N
  induction N using Nat.strongRecOn with
  | _ N ih => exact termTx_step N ih

end Go.Proofs.Ytollifednpjkeaa
