import Derived.Test.YtollifednpjkeaaTreeI
/-
  Asking each formula of a list.
-/
namespace Go.Proofs.Ytollifednpjkeaa
open Go.RowKit

/-- A function value that asks formulas. -/
structure TellsFm (k : Nat) (caps : Array Value) (Pre : World → Prop) (p : Fm → Bool) (N : Nat) : Prop where
  enter : ∀ (xs : Array Value) (w : World), Sem.run Try.prog (callFunc k xs) w = .ok (.enter k xs) w
  keep : ∀ A B, Pre A → Below A.heap.size A B → Pre B
  calls : ∀ (t : Fm) (v : Value) (W : World), Pre W → t.wt ≤ N → FmVal W v t → Calls Try.prog k (#[v] ++ caps) W fun e W' => e = .returned (.bool (p t)) ∧ Below W.heap.size W W'

set_option maxHeartbeats 1000000 in
theorem indexFm_any (k : Nat) (caps : Array Value) (Pre : World → Prop) (p : Fm → Bool) (N : Nat) (hk : TellsFm k caps Pre p N) (ts : List Fm) (hts : wfs ts ≤ N) (v : Value) (w : World) (hP : Pre w) (hv : FmsAt w v ts) :
    Calls Try.prog 62 #[v, .func (.func k) #[] caps] w fun e w' => e = .returned (.int .i64 (idxI p ts)) ∧ Below w.heap.size w w' := by
  have he := hk.enter
  obtain ⟨a, cap, rfl, hcap, hmax, hcells⟩ := hv.at
  have hmx : ts.length ≤ 9223372036854775807 := by unfold maxLen at hmax; omega
  have HC := Lib.hid hcells
  have HK := Lib.hid hk
  have HP := Lib.hid hP
  clear hcells hk hv hP
  go_enter Try.func62, Try.ntmps62
  go_wp2_with fail
  go_loopw [8] (fun i wr => ∃ k : Nat, k ≤ ts.length ∧ i = .int .i64 (k : Int) ∧ Hid (∀ (j : Nat) (h : j < ts.length), j < k → p ts[j] = false) ∧ Below w.heap.size w wr) (fun i _ => ts.length - (intOf i).toNat)
  case atStart => exact ⟨0, Nat.zero_le _, rfl, fun _ _ h => absurd h (Nat.not_lt_zero _), Below.refl _ _⟩
  case round =>
    obtain ⟨i, hi, rfl, HQ, hb⟩ := hrel
    by_cases hlt : i < ts.length
    · obtain ⟨b, off, rfl, hbl, hc⟩ := HC.out (by omega)
      obtain ⟨x, y, c0, c1, c2, c3, hx, hy, hz⟩ := hc i hlt
      have d0 := (hb.cell (p := ⟨b, off + i * 4, none⟩) hbl).trans c0
      have d1 := (hb.cell (p := ⟨b, off + i * 4 + 1, none⟩) hbl).trans c1
      have d2 := (hb.cell (p := ⟨b, off + i * 4 + 2, none⟩) hbl).trans c2
      have d3 := (hb.cell (p := ⟨b, off + i * 4 + 3, none⟩) hbl).trans c3
      have hvi : FmVal wr (.agg #[.int .u8 ts[i].op, .string ts[i].name, x, y]) ts[i] := ⟨x, y, rfl, hx.up hb, hy.up hb, hz⟩
      have hwi : ts[i].wt ≤ N := Nat.le_trans (wfs_mem (List.getElem_mem hlt)) hts
      clear c0 c1 c2 c3 hc
      go_wp2_with fail
      refine (HK.out.calls ts[i] _ wr (HK.out.keep _ _ HP.out hb) hwi hvi).mono ?_
      rintro e w2 ⟨rfl, hb2⟩
      have HLT := Lib.hid hlt
      cases hp : p ts[i]
      · have HPI := Lib.hid hp
        clear hp
        go_wp2_with fail
        go_roundw
        case rel => exact ⟨i + 1, HLT.out, by go_num, fun j hj hji => by
          by_cases e : j = i
          · subst e; exact HPI.out
          · exact HQ.out j hj (by omega), hb.trans (hb2.mono hb.size)⟩
        case measure => simp only [intOf]; have := HLT.out; omega
      · have HPI := Lib.hid hp
        clear hp
        go_wp2_with fail
        go_ret
        exact ⟨ret_int (idxI_here HLT.out HPI.out (fun j hj hji => HQ.out j hj hji)).symm, hb.trans (hb2.mono hb.size)⟩
    · go_wp2_with fail
      go_ret
      exact ⟨ret_int (idxI_none (fun j hj => HQ.out j hj (by omega))).symm, hb⟩

theorem containsFm_any (k : Nat) (caps : Array Value) (Pre : World → Prop) (p : Fm → Bool) (N : Nat) (hk : TellsFm k caps Pre p N) (ts : List Fm) (hts : wfs ts ≤ N) (v : Value) (w : World) (hP : Pre w) (hv : FmsAt w v ts) :
    Calls Try.prog 35 #[v, .func (.func k) #[] caps] w fun e w' => e = .returned (.bool (ts.any p)) ∧ Below w.heap.size w w' := by
  have H := Lib.hid (indexFm_any k caps Pre p N hk ts hts v w hP hv)
  obtain ⟨a, cap, rfl, _⟩ := hv.at
  clear hk hP hv
  go_enter Try.func35, Try.ntmps35
  go_wp2_with fail
  refine H.out.mono ?_
  rintro e w' ⟨rfl, hb⟩
  go_wp2_with fail
  go_ret
  exact ⟨ret_bool (by rw [← idxI_nonneg]), hb⟩

end Go.Proofs.Ytollifednpjkeaa
