import Derived.Test.YtollifednpjkeaaTreeF
/-
  Asking each element of a list; sizes that fit.
-/
namespace Go.Proofs.Ytollifednpjkeaa
open Go.RowKit

/-- A function value that asks terms. -/
structure TellsTm (k : Nat) (caps : Array Value) (Pre : World → Prop) (p : Tm → Bool) (N : Nat) : Prop where
  enter : ∀ (xs : Array Value) (w : World), Sem.run Try.prog (callFunc k xs) w = .ok (.enter k xs) w
  keep : ∀ A B, Pre A → Below A.heap.size A B → Pre B
  calls : ∀ (t : Tm) (v : Value) (W : World), Pre W → t.wt ≤ N → TmVal W v t → Calls Try.prog k (#[v] ++ caps) W fun e W' => e = .returned (.bool (p t)) ∧ Below W.heap.size W W'

set_option maxHeartbeats 1000000 in
theorem indexTm_any (k : Nat) (caps : Array Value) (Pre : World → Prop) (p : Tm → Bool) (N : Nat) (hk : TellsTm k caps Pre p N) (ts : List Tm) (hts : wts ts ≤ N) (v : Value) (w : World) (hP : Pre w) (hv : TmsAt w v ts) :
    Calls Try.prog 81 #[v, .func (.func k) #[] caps] w fun e w' => e = .returned (.int .i64 (idxI p ts)) ∧ Below w.heap.size w w' := by
  have he := hk.enter
  obtain ⟨a, cap, rfl, hcap, hmax, hcells⟩ := hv.at
  have hmx : ts.length ≤ 9223372036854775807 := by unfold maxLen at hmax; omega
  have HC := Lib.hid hcells
  have HK := Lib.hid hk
  have HP := Lib.hid hP
  clear hcells hk hv hP
  go_enter Try.func81, Try.ntmps81
  go_wp2_with fail
  go_loopw [8] (fun i wr => ∃ k : Nat, k ≤ ts.length ∧ i = .int .i64 (k : Int) ∧ Hid (∀ (j : Nat) (h : j < ts.length), j < k → p ts[j] = false) ∧ Below w.heap.size w wr) (fun i _ => ts.length - (intOf i).toNat)
  case atStart => exact ⟨0, Nat.zero_le _, rfl, fun _ _ h => absurd h (Nat.not_lt_zero _), Below.refl _ _⟩
  case round =>
    obtain ⟨i, hi, rfl, HQ, hb⟩ := hrel
    by_cases hlt : i < ts.length
    · obtain ⟨b, off, rfl, hbl, hc⟩ := HC.out (by omega)
      obtain ⟨x, c0, c1, c2, hx, hz⟩ := hc i hlt
      have d0 := (hb.cell (p := ⟨b, off + i * 3, none⟩) hbl).trans c0
      have d1 := (hb.cell (p := ⟨b, off + i * 3 + 1, none⟩) hbl).trans c1
      have d2 := (hb.cell (p := ⟨b, off + i * 3 + 2, none⟩) hbl).trans c2
      have hvi : TmVal wr (.agg #[.bool ts[i].v, .string ts[i].name, x]) ts[i] := ⟨x, rfl, hx.up hb, hz⟩
      have hwi : ts[i].wt ≤ N := Nat.le_trans (wts_mem (List.getElem_mem hlt)) hts
      clear c0 c1 c2 hc
      go_wp2_with fail
      refine (HK.out.calls ts[i] _ wr (HK.out.keep _ _ HP.out hb) hwi hvi).mono ?_
      rintro e w2 ⟨rfl, hb2⟩
      have HLT := Lib.hid hlt
      cases hp : p ts[i]
      · have HPI := Lib.hid hp
        clear hp
        go_wp2_with fail
        go_roundw
        case rel => exact ⟨i + 1, HLT.out, by go_num, fun j hj hji => by
          by_cases e : j = i
          · subst e; exact HPI.out
          · exact HQ.out j hj (by omega), hb.trans (hb2.mono hb.size)⟩
        case measure => simp only [intOf]; have := HLT.out; omega
      · have HPI := Lib.hid hp
        clear hp
        go_wp2_with fail
        go_ret
        exact ⟨ret_int (idxI_here HLT.out HPI.out (fun j hj hji => HQ.out j hj hji)).symm, hb.trans (hb2.mono hb.size)⟩
    · go_wp2_with fail
      go_ret
      exact ⟨ret_int (idxI_none (fun j hj => HQ.out j hj (by omega))).symm, hb⟩

theorem containsTm_any (k : Nat) (caps : Array Value) (Pre : World → Prop) (p : Tm → Bool) (N : Nat) (hk : TellsTm k caps Pre p N) (ts : List Tm) (hts : wts ts ≤ N) (v : Value) (w : World) (hP : Pre w) (hv : TmsAt w v ts) :
    Calls Try.prog 50 #[v, .func (.func k) #[] caps] w fun e w' => e = .returned (.bool (ts.any p)) ∧ Below w.heap.size w w' := by
  have H := Lib.hid (indexTm_any k caps Pre p N hk ts hts v w hP hv)
  obtain ⟨a, cap, rfl, _⟩ := hv.at
  clear hk hP hv
  go_enter Try.func50, Try.ntmps50
  go_wp2_with fail
  refine H.out.mono ?_
  rintro e w' ⟨rfl, hb⟩
  go_wp2_with fail
  go_ret
  exact ⟨ret_bool (by rw [← idxI_nonneg]), hb⟩

/-- A formula is not too large. -/
def fitsB (f : Fm) : Bool := decide (nodesF f ≤ 400) && decide (f.dp ≤ 40)
theorem fits_any (f : Fm) (hf : f.wt ≤ 10000000) (v : Value) (w : World) (hv : FmVal w v f) :
    Calls Try.prog 23 #[v] w fun e w' => e = .returned (.bool (fitsB f)) ∧ Below w.heap.size w w' := by
  have hv' := hv
  obtain ⟨x, y, rfl, hx, hy, hz⟩ := hv
  obtain ⟨ax, cx, rfl, _⟩ := hx.at
  obtain ⟨ay, cy, rfl, _⟩ := hy.at
  obtain ⟨wb, hwb⟩ : ∃ wb, w.alloc (.cells #[.int .u8 f.op, .string f.name, .slice ax f.args.length cx, .slice ay f.sub.length cy] 25) = wb := ⟨_, rfl⟩
  have hbb : Below w.heap.size w wb := by rw [← hwb]; exact (Below.refl _ _).alloc (Nat.le_refl _) _
  have f0 : wb.cell? ⟨w.heap.size, 0, none⟩ = some (.int .u8 f.op) := by rw [← hwb, World.cell?_alloc_at _ _ _ _ rfl]; rfl
  have f1 : wb.cell? ⟨w.heap.size, 1, none⟩ = some (.string f.name) := by rw [← hwb, World.cell?_alloc_at _ _ _ _ rfl]; rfl
  have f2 : wb.cell? ⟨w.heap.size, 2, none⟩ = some (.slice ax f.args.length cx) := by rw [← hwb, World.cell?_alloc_at _ _ _ _ rfl]; rfl
  have f3 : wb.cell? ⟨w.heap.size, 3, none⟩ = some (.slice ay f.sub.length cy) := by rw [← hwb, World.cell?_alloc_at _ _ _ _ rfl]; rfl
  have hBl : w.heap.size < wb.heap.size := by rw [← hwb]; simp
  have hvb := hv'.up hbb
  have HN := Lib.hid (nodes_any f hf _ wb hvb)
  obtain ⟨n, hn⟩ : ∃ n, nodesF f = n := ⟨_, rfl⟩
  have hFB : fitsB f = (decide (n ≤ 400) && decide (f.dp ≤ 40)) := by unfold fitsB; rw [hn]
  have HF := Lib.hid hFB
  have HNN := Lib.hid hn
  clear hFB hn hv'
  go_enter Try.func23, Try.ntmps23
  go_wp2_with fail
  refine HN.out.mono ?_
  rintro e w1 ⟨rfl, hb1⟩
  rw [HNN.out]
  have g0 := (hb1.cell (p := ⟨w.heap.size, 0, none⟩) hBl).trans f0
  have g1 := (hb1.cell (p := ⟨w.heap.size, 1, none⟩) hBl).trans f1
  have g2 := (hb1.cell (p := ⟨w.heap.size, 2, none⟩) hBl).trans f2
  have g3 := (hb1.cell (p := ⟨w.heap.size, 3, none⟩) hBl).trans f3
  have hv1 := hvb.up hb1
  have hbw1 : Below w.heap.size w w1 := hbb.trans (hb1.mono hbb.size)
  clear f0 f1 f2 f3 hwb
  by_cases h4 : n ≤ 400
  · have i1 : (n : Int) ≤ 400 := by omega
    go_wp2_with fail
    refine (depth_any f.wt f (Nat.le_refl _) hf _ _ hv1).mono ?_
    rintro e w2 ⟨rfl, hb2⟩
    go_wp2_with fail
    go_ret
    exact ⟨ret_bool (by rw [HF.out]; simp [h4]; omega), hbw1.trans (hb2.mono hbw1.size)⟩
  · have i1 : ¬ (n : Int) ≤ 400 := by omega
    have i2 : decide (n ≤ 400) = false := by simp; omega
    go_wp2_with fail
    go_ret
    exact ⟨ret_bool (by rw [HF.out]; simp; omega), hbw1⟩

end Go.Proofs.Ytollifednpjkeaa
