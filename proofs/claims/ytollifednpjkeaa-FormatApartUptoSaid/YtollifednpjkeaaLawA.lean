import Derived.Test.YtollifednpjkeaaAwakeA
/-
  Small, of lyceumlaw02.
-/
namespace Go.Proofs.Ytollifednpjkeaa
open Go.RowKit

set_option maxHeartbeats 1000000 in
theorem Small_any (l : List Fm) (hl : wfs l ≤ 10000000) (v : Value) (w : World) (hv : FmsAt w v l) :
    Calls Try.prog 7 #[v] w fun e w' => e = .returned (.bool (decide (szFs l 500 0 ≤ 500))) ∧ Below w.heap.size w w' := by
  obtain ⟨a, cap, rfl, hcap, hmax, hcells⟩ := hv.at
  have HC := Lib.hid hcells
  have hlen := wfs_length l
  have htop := szFs_le l 500 0
  obtain ⟨r, hr⟩ : ∃ r, szFs l 500 0 = r := ⟨_, rfl⟩
  rw [hr] at htop ⊢
  have HR := Lib.hid hr
  clear hcells hv hr
  go_enter Try.func7, Try.ntmps7
  go_wp2_with fail
  go_loopw [3, 4] (fun n i wr => ∃ (k : Nat) (m : Int), n = .int .i64 m ∧ i = .int .i64 (k : Int) ∧ k ≤ l.length ∧ 0 ≤ m ∧ m ≤ wfs l ∧ Hid (szFs (l.drop k) 500 m = r) ∧ Below w.heap.size w wr) (fun _ i _ => l.length - (intOf i).toNat)
  case atStart => exact ⟨0, 0, rfl, rfl, Nat.zero_le _, Int.le_refl _, by omega, HR.out, Below.refl _ _⟩
  case round =>
    obtain ⟨k, m, rfl, rfl, hk, hm0, hm1, HS, hb⟩ := hrel
    by_cases hlt : k < l.length
    · by_cases hml : m ≤ 500
      · obtain ⟨b, off, rfl, hbl, hc⟩ := HC.out (by omega)
        obtain ⟨x, y, c0, c1, c2, c3, hx, hy, hz⟩ := hc k hlt
        have d0 := (hb.cell (p := ⟨b, off + k * 4, none⟩) hbl).trans c0
        have d1 := (hb.cell (p := ⟨b, off + k * 4 + 1, none⟩) hbl).trans c1
        have d2 := (hb.cell (p := ⟨b, off + k * 4 + 2, none⟩) hbl).trans c2
        have d3 := (hb.cell (p := ⟨b, off + k * 4 + 3, none⟩) hbl).trans c3
        have hdr : l.drop k = l[k] :: l.drop (k + 1) := List.drop_eq_getElem_cons hlt
        have hvk : FmVal wr (.agg #[.int .u8 l[k].op, .string l[k].name, x, y]) l[k] := ⟨x, y, rfl, hx.up hb, hy.up hb, hz⟩
        have hwk : l[k].wt ≤ wfs l := wfs_mem (List.getElem_mem hlt)
        have hsum : szFs (l.drop (k + 1)) 500 (m + szF l[k] (500 - m)) = r := by
          rw [← HS.out, hdr]; simp only [szFs]; rw [if_pos hml]
        have hto := szFs_le (l.drop (k + 1)) 500 (m + szF l[k] (500 - m))
        have hT := szF_le l[k] (500 - m)
        obtain ⟨c, hcc⟩ : ∃ c, szF l[k] (500 - m) = c := ⟨_, rfl⟩
        rw [hcc] at hsum hto hT
        rw [hsum] at hto
        have s2 : IntKind.i64.wrap (500 - m) = 500 - m := IntWalk.i64_in _ (by omega)
        have s4 : IntKind.i64.wrap (m + c) = m + c := IntWalk.i64_in _ (by omega)
        have HSUM := Lib.hid hsum
        have HCC := Lib.hid hcc
        have HLT := Lib.hid hlt
        clear hsum hcc hdr c0 c1 c2 c3 hc
        go_wp2_with fail
        refine (sizeF_any 10000000 l[k] (by omega) (Nat.le_refl _) (500 - m) (by omega) (by omega) _ _ hvk).mono ?_
        rintro e w2 ⟨rfl, hb2⟩
        erw [HCC.out]
        go_wp2_with fail
        go_roundw
        case rel => exact ⟨k + 1, m + c, by go_num, by go_num, HLT.out, by omega, by omega, HSUM.out, hb.trans (hb2.mono hb.size)⟩
        case measure => simp only [intOf]; have := HLT.out; omega
      · have h0 := szFs_stop (l.drop k) 500 m hml
        have HF := Lib.hid (h0.symm.trans HS.out)
        clear h0
        go_wp2_with fail
        go_ret
        exact ⟨ret_bool (by rw [← HF.out]; first | rfl | (rw [decide_eq_false (by omega)]) | (simp; omega)), hb⟩
    · have hkl : l.drop k = [] := List.drop_eq_nil_of_le (by omega)
      have h0 := HS.out
      rw [hkl] at h0
      simp only [szFs] at h0
      have HF := Lib.hid h0
      clear h0 hkl
      go_wp2_with fail
      go_ret
      exact ⟨ret_bool (by rw [← HF.out]), hb⟩

end Go.Proofs.Ytollifednpjkeaa
