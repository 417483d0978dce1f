import Derived.Test.YtodaembemcljnaaSeedK
/-
  Weigh: the weights; the closure.
-/
namespace Go.Proofs.Ytodaembemcljnaa
open Go.RowKit
set_option linter.unusedVariables false

def wrongW (x : Int) : Bool := decide (x < 0) || decide (1099511627776 < x)
theorem wrong_any (x : Int) (w : World) : Calls Try.prog 41 #[.int .i64 x] w fun e w' => e = .returned (.bool (wrongW x)) ∧ w = w' := by
  by_cases h0 : x < 0
  · have hw : wrongW x = true := by unfold wrongW; simp [h0]
    rw [hw]
    go_enter Try.func41, Try.ntmps41
    go_wp2_with fail
    go_ret
    exact ⟨rfl, rfl⟩
  · by_cases h1 : 1099511627776 < x
    · have hw : wrongW x = true := by unfold wrongW; simp [h1]
      rw [hw]
      go_enter Try.func41, Try.ntmps41
      go_wp2_with fail
      go_ret
      exact ⟨ret_bool (by first | (simp; done) | (simp; omega)), rfl⟩
    · have hw : wrongW x = false := by unfold wrongW; simp; omega
      rw [hw]
      go_enter Try.func41, Try.ntmps41
      go_wp2_with fail
      go_ret
      exact ⟨ret_bool (by first | (simp; done) | (simp; omega)), rfl⟩

set_option maxHeartbeats 1000000 in
theorem indexW_any (l : List Int) (v : Value) (w : World) (hv : SliceI w v l) :
    Calls Try.prog 59 #[v, .func (.func 41) #[] #[]] w fun e w' => e = .returned (.int .i64 (idxI wrongW l)) ∧ w = w' := by
  obtain ⟨a, cap, rfl, hcap, hmax, hcells⟩ := hv.at'
  have hmx : l.length ≤ 9223372036854775807 := by unfold maxLen at hmax; omega
  have HC := Lib.hid hcells
  clear hcells hv
  go_enter Try.func59, Try.ntmps59
  go_wp2_with fail
  go_loop [8] (fun i => ∃ k : Nat, k ≤ l.length ∧ i = .int .i64 (k : Int) ∧ Hid (∀ (j : Nat) (h : j < l.length), j < k → wrongW l[j] = false)) (fun i => l.length - (intOf i).toNat)
  case atStart => exact ⟨0, Nat.zero_le _, rfl, fun _ _ h => absurd h (Nat.not_lt_zero _)⟩
  case round =>
    obtain ⟨i, hi, rfl, HQ⟩ := hrel
    by_cases hlt : i < l.length
    · obtain ⟨b, off, rfl, hbl, hc⟩ := HC.out (by omega)
      have d0 := hc i hlt
      clear hc
      go_wp2_with fail
      refine (wrong_any _ _).mono ?_
      rintro e w2 ⟨rfl, rfl⟩
      have HLT := Lib.hid hlt
      cases hp : wrongW l[i]
      · have HPI := Lib.hid hp
        clear hp
        go_wp2_with fail
        go_round
        case rel => exact ⟨i + 1, HLT.out, by go_num, fun j hj hji => by
          by_cases e : j = i
          · subst e; exact HPI.out
          · exact HQ.out j hj (by omega)⟩
        case measure => simp only [intOf]; have := HLT.out; omega
      · have HPI := Lib.hid hp
        clear hp
        go_wp2_with fail
        go_ret
        exact ⟨ret_int (idxI_here HLT.out HPI.out (fun j hj hji => HQ.out j hj hji)).symm, rfl⟩
    · go_wp2_with fail
      go_ret
      exact ⟨ret_int (idxI_none (fun j hj => HQ.out j hj (by omega))).symm, rfl⟩
theorem containsW_any (l : List Int) (v : Value) (w : World) (hv : SliceI w v l) :
    Calls Try.prog 42 #[v, .func (.func 41) #[] #[]] w fun e w' => e = .returned (.bool (l.any wrongW)) ∧ w = w' := by
  have H := Lib.hid (indexW_any l v w hv)
  obtain ⟨a, cap, rfl, _⟩ := hv.at'
  clear hv
  go_enter Try.func42, Try.ntmps42
  go_wp2_with fail
  refine H.out.mono ?_
  rintro e w' ⟨rfl, rfl⟩
  go_wp2_with fail
  go_ret
  exact ⟨ret_bool (by rw [← idxI_nonneg]), rfl⟩

/-- The weights as numbers. -/
def nats (l : List Int) : List Nat := l.map Int.toNat
theorem nats_length (l : List Int) : (nats l).length = l.length := by simp [nats]
theorem nats_get (l : List Int) (j : Nat) (hj : j < l.length) (h : l.any wrongW = false) : 0 ≤ l[j] ∧ l[j] ≤ 1099511627776 ∧ ((nats l)[j]'(by rw [nats_length]; exact hj) : Int) = l[j] := by
  have := List.any_eq_false.1 h l[j] (List.getElem_mem hj)
  simp only [wrongW, Bool.or_eq_true, decide_eq_true_eq, not_or] at this
  refine ⟨by omega, by omega, ?_⟩
  simp only [nats, List.getElem_map]; omega
theorem sum_take (l : List Nat) (k : Nat) (h : k < l.length) : (l.take (k + 1)).sum = (l.take k).sum + l[k] := by
  rw [List.take_succ_eq_append_getElem h, List.sum_append, List.sum_cons, List.sum_nil, Nat.add_zero]
theorem sum_le : ∀ (l : List Nat) (B : Nat), (∀ x ∈ l, x ≤ B) → l.sum ≤ l.length * B
  | [], _, _ => by simp
  | x :: l, B, h => by
    have := sum_le l B (fun y hy => h y (List.mem_cons_of_mem _ hy))
    have := h x (List.mem_cons_self)
    simp only [List.sum_cons, List.length_cons, Nat.add_mul]; omega
theorem sum_take_le (l : List Nat) (k : Nat) : (l.take k).sum ≤ l.sum := by
  have h : l.sum = (l.take k).sum + (l.drop k).sum := by rw [← List.sum_append, List.take_append_drop]
  omega
theorem nats_sum (l : List Int) (h : l.any wrongW = false) (hl : l.length ≤ 1000) : (nats l).sum ≤ 1099511627776000 := by
  have := sum_le (nats l) 1099511627776 (fun x hx => by
    obtain ⟨j, hj, rfl⟩ := List.getElem_of_mem hx
    have hj' : j < l.length := by rw [nats_length] at hj; exact hj
    have := nats_get l j hj' h; omega)
  have hm : (nats l).length * 1099511627776 ≤ 1000 * 1099511627776 := Nat.mul_le_mul_right _ (by rw [nats_length]; exact hl)
  omega
theorem weigh_drop (l : List Nat) (j t : Nat) (hj : j < l.length) : weighGo (l.drop j) t = if l[j] ≤ t then weighGo (l.drop (j + 1)) (t - l[j]) + 1 else 0 := by
  rw [List.drop_eq_getElem_cons hj, weighGo]
theorem drop_sum (l : List Nat) (j : Nat) (hj : j < l.length) : (l.drop j).sum = l[j] + (l.drop (j + 1)).sum := by
  rw [List.drop_eq_getElem_cons hj, List.sum_cons]

def boxOf (b : Nat) (w : World) : Nat := (intOf ((w.cell? ⟨b, 0, none⟩).getD undef)).toNat
theorem boxOf_at {b : Nat} {w : World} {n : Nat} (h : w.cell? ⟨b, 0, none⟩ = some (.int .i64 (n : Int))) : boxOf b w = n := by
  unfold boxOf; rw [h]; simp [intOf]

set_option maxRecDepth 100000 in
theorem weigh2_any (c : Nat) (key : Wd) (l : List Int) (hw : l.any wrongW = false) (hl : l.length ≤ 1000) (hsum : 0 < (nats l).sum) (i : Nat) (ha : i ≤ 1099511627776) (a1 a2 b : Nat) (v : Value) (w : World) (h : Boxes w c key (i, 0) b (.int .i64 0))
    (hsa : w.cell? ⟨a1, 0, none⟩ = some (.int .i64 ((nats l).sum : Int))) (hva : w.cell? ⟨a2, 0, none⟩ = some v) (hab : a2 ≠ b) (hac : a2 ≠ c) (hal : a2 < w.heap.size) (hbc : b ≠ c)
    (hv : ∀ w', Off (fun k => k = b ∨ k = c) w w' → SliceI w' v l) :
    Calls Try.prog 43 #[.func (.func 58) #[.pointer (some ⟨c, 0, none⟩)] #[], .pointer (some ⟨a1, 0, none⟩), .pointer (some ⟨a2, 0, none⟩), .pointer (some ⟨b, 0, none⟩)] w fun e w2 =>
      e = .returned (.tuple #[]) ∧ Boxes w2 c key (belS key (nats l).sum (i, 0)).2 b (.int .i64 (weighGo (nats l) (belS key (nats l).sum (i, 0)).1 : Int)) ∧ Off (fun k => k = b ∨ k = c) w w2 := by
  have hnz := nats_sum l hw hl
  have HH := Lib.hid h
  have HV := Lib.hid hv
  have HW := Lib.hid hw
  have hbw : b < w.heap.size := HH.out.lt
  have hcw : c < w.heap.size := HH.out.src.lt
  clear h hv hw
  obtain ⟨S, hS⟩ : ∃ S, (nats l).sum = S := ⟨_, rfl⟩
  rw [hS] at hnz hsum hsa ⊢
  have HS := Lib.hid hS
  clear hS
  go_enter Try.func43, Try.ntmps43
  go_wp2_with fail
  refine (below_any c key S (i, 0) _ hsum (by omega) (Or.inl rfl) ha HH.out.src).mono ?_
  rintro e w3 ⟨rfl, hs3, hoff3⟩
  have hq := belS_lt (key := key) (n := S) hsum (i, 0)
  obtain ⟨t, ht⟩ : ∃ t, (belS key S (i, 0)).1 = t := ⟨_, rfl⟩
  obtain ⟨st, hst⟩ : ∃ s, (belS key S (i, 0)).2 = s := ⟨_, rfl⟩
  rw [ht] at hq ⊢
  rw [hst] at hs3
  have hb3 : Boxes w3 c key st b (.int .i64 0) := ⟨hs3, Nat.lt_of_lt_of_le HH.out.lt hoff3.size, (hoff3.cell (p := ⟨b, 0, none⟩) HH.out.lt hbc).trans HH.out.cell, (hoff3.frozen (p := ⟨b, 0, none⟩) HH.out.lt hbc).trans HH.out.free⟩
  have hf3 : Off (fun k => k = b ∨ k = c) w w3 := hoff3.wider (fun k _ h => Or.inr h)
  have HB3 := Lib.hid hb3
  have HF3 := Lib.hid hf3
  have HT := Lib.hid ht
  have HST := Lib.hid hst
  clear hsa hb3 hf3 hs3 hoff3 ht hst
  go_wp2_with fail
  go_loopw [5] (fun x wr => ∃ (j u : Nat), x = .int .i64 (u : Int) ∧ j < l.length ∧ u ≤ t ∧ Boxes wr c key st b (.int .i64 (j : Int)) ∧ u < ((nats l).drop j).sum ∧ Hid (weighGo ((nats l).drop j) u + j = weighGo (nats l) t) ∧ Off (fun k => k = b ∨ k = c) w wr) (fun _ wr => l.length - boxOf b wr)
  case atStart =>
    refine ⟨0, t, rfl, ?_, Nat.le_refl _, HB3.out, ?_, Lib.hid rfl, HF3.out⟩
    · rcases Nat.eq_zero_or_pos l.length with h | h
      · have : l = [] := List.eq_nil_of_length_eq_zero h
        have e := HS.out
        rw [this] at e
        have : S = 0 := by rw [← e]; rfl
        omega
      · exact h
    · rw [List.drop_zero, HS.out]; exact hq
  case round =>
    obtain ⟨j, u, rfl, hj, hut, hB, hu, HP, hF⟩ := hrel
    have hbx := Lib.hid (boxOf_at hB.cell)
    have hjn : j < (nats l).length := by rw [nats_length]; exact hj
    obtain ⟨n0, n1, n2⟩ := nats_get l j hj HW.out
    have hwd := weigh_drop (nats l) j u hjn
    have hds := drop_sum (nats l) j hjn
    obtain ⟨x, hx⟩ : ∃ x, (nats l)[j] = x := ⟨_, rfl⟩
    rw [hx] at n2 hwd hds
    obtain ⟨a, cap, rfl, k2, k3, k4⟩ := (HV.out _ hF).at'
    obtain ⟨g, off, rfl, k5, k6⟩ := k4 (by omega)
    have cl := k6 j hj
    rw [← n2] at cl n0 n1
    have cb := hB.cell
    have fb := hB.free
    have ca := (hF.cell (p := ⟨a2, 0, none⟩) hal (by rintro (h | h); exact hab h; exact hac h)).trans hva
    have HBB := Lib.hid hB
    have HF := Lib.hid hF
    have HWD := Lib.hid hwd
    have HDS := Lib.hid hds
    have HMX := Lib.hid k3
    have hlm : l.length ≤ 1000 := hl
    clear k6 k4 hB hF hwd hx n2 hds k3
    by_cases hle : x ≤ u
    · go_wp2_with fail
      have e1 : ((j : Int) + 1) = ((j + 1 : Nat) : Int) := by omega
      have e2 : ((u : Int) - (x : Int)) = ((u - x : Nat) : Int) := by omega
      rw [e1, e2]
      have hds := HDS.out
      have hj1 : j + 1 < l.length := by
        rcases Nat.lt_or_ge (j + 1) l.length with h | h
        · exact h
        · have : (nats l).drop (j + 1) = [] := List.drop_eq_nil_of_le (by rw [nats_length]; exact h)
          rw [this] at hds; simp at hds; omega
      have hput := HBB.out.put hbc (.int .i64 ((j + 1 : Nat) : Int))
      go_roundw
      case rel =>
        refine ⟨j + 1, u - x, rfl, hj1, by omega, hput, by omega, ?_, Off.setCell (p := ⟨b, 0, none⟩) HF.out (Or.inl (Or.inl rfl)) _⟩
        have := HWD.out
        rw [if_pos hle] at this
        have hp := HP.out
        rw [this] at hp
        exact Lib.hid (by omega)
      case measure =>
        rw [boxOf_at hput.cell, hbx.out]; omega
    · go_wp2_with fail
      refine bodyPost_end (results_none rfl _ _ _) rfl ?_
      have := HWD.out
      rw [if_neg hle] at this
      have hp := HP.out
      rw [this, Nat.zero_add] at hp
      rw [HST.out, HT.out, ← hp]
      exact ⟨rfl, HBB.out, HF.out⟩
end Go.Proofs.Ytodaembemcljnaa
