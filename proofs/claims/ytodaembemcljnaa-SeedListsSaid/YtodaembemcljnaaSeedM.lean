import Derived.Test.YtodaembemcljnaaSeedL
/-
  Weigh: the call.
-/
namespace Go.Proofs.Ytodaembemcljnaa
open Go.RowKit
set_option linter.unusedVariables false

theorem Weigh_long (key : Wd) (i : Int) (l : List Int) (v : Value) (w : World) (hv : SliceI w v l) (hl : 1000 < l.length) :
    Calls Try.prog 21 #[.agg #[.int .u64 (key.toNat : Int)], .int .i64 i, v] w fun e w' => e = .returned (.tuple #[.int .i64 0, .int .i64 0, .int .i64 2]) ∧ Below w.heap.size w w' := by
  obtain ⟨a, cap, rfl, hcap, hmax, hcells⟩ := hv.at'
  have hmx : l.length ≤ 9223372036854775807 := by unfold maxLen at hmax; omega
  have hh : (1000 : Int) < l.length := by omega
  clear hcells hv
  go_enter Try.func21, Try.ntmps21
  go_wp2_with fail
  go_ret3
  exact ⟨rfl, ((Below.refl _ _).alloc (Nat.le_refl _) _).alloc (by simp) _⟩
theorem Weigh_wrong (key : Wd) (i : Int) (l : List Int) (v : Value) (w : World) (hv : SliceI w v l) (hl : l.length ≤ 1000) (hw : l.any wrongW = true) :
    Calls Try.prog 21 #[.agg #[.int .u64 (key.toNat : Int)], .int .i64 i, v] w fun e w' => e = .returned (.tuple #[.int .i64 0, .int .i64 0, .int .i64 2]) ∧ Below w.heap.size w w' := by
  have HV := Lib.hid hv
  have HW := Lib.hid hw
  obtain ⟨a, cap, rfl, hcap, hmax, hcells⟩ := hv.at'
  have hh : (l.length : Int) ≤ 1000 := by omega
  clear hcells hv hw
  go_enter Try.func21, Try.ntmps21
  go_wp2_with fail
  have hb : Below w.heap.size w ((w.alloc (.cells #[.int .u64 (key.toNat : Int)] 31)).alloc (.cells #[.slice a l.length cap] 25)) := ((Below.refl _ _).alloc (Nat.le_refl _) _).alloc (by simp) _
  refine (containsW_any l _ _ (HV.out.below hb)).mono ?_
  rintro e w' ⟨rfl, rfl⟩
  rw [HW.out]
  have HB := Lib.hid hb
  clear hb
  go_wp2_with fail
  go_ret3
  exact ⟨rfl, HB.out⟩
theorem wrong_no {l : List Int} (h : l.any wrongW = false) (j : Nat) (hj : j < l.length) : 0 ≤ l[j] ∧ l[j] ≤ 1099511627776 := ⟨(nats_get l j hj h).1, (nats_get l j hj h).2.1⟩

/-- What Weigh hands back. -/
def weighV (key : Wd) (l : List Int) (i : Nat) : Value := match bel key (nats l).sum (1099511627776 - i) i with | some (t, j) => .tuple #[.int .i64 (weighGo (nats l) t : Int), .int .i64 (j : Int), .int .i64 0] | none => .tuple #[.int .i64 0, .int .i64 0, .int .i64 4]
set_option maxRecDepth 100000 in
theorem Weigh_any (key : Wd) (i : Int) (l : List Int) (v : Value) (w : World) (hv : SliceI w v l) (hl : l.length ≤ 1000) (hw : l.any wrongW = false) :
    Calls Try.prog 21 #[.agg #[.int .u64 (key.toNat : Int)], .int .i64 i, v] w fun e w' => e = .returned (if 0 < (nats l).sum ∧ 0 ≤ i ∧ i ≤ 1099511627776 then weighV key l i.toNat else .tuple #[.int .i64 0, .int .i64 0, .int .i64 2]) ∧ Below w.heap.size w w' := by
  have hnz := nats_sum l hw hl
  have HV := Lib.hid hv
  have HW := Lib.hid hw
  obtain ⟨R, hR⟩ : ∃ R, (if 0 < (nats l).sum ∧ 0 ≤ i ∧ i ≤ 1099511627776 then weighV key l i.toNat else .tuple #[.int .i64 0, .int .i64 0, .int .i64 2]) = R := ⟨_, rfl⟩
  rw [hR]
  have HR := Lib.hid hR
  obtain ⟨a, cap, rfl, hcap, hmax, hcells⟩ := hv.at'
  have hh : (l.length : Int) ≤ 1000 := by omega
  have hd : decide ((1000 : Int) < l.length) = false := by simp; omega
  clear hcells hv hw hR
  go_enter Try.func21, Try.ntmps21
  go_wp2_with fail
  have hb : Below w.heap.size w ((w.alloc (.cells #[.int .u64 (key.toNat : Int)] 31)).alloc (.cells #[.slice a l.length cap] 25)) := ((Below.refl _ _).alloc (Nat.le_refl _) _).alloc (by simp) _
  refine (containsW_any l _ _ (HV.out.below hb)).mono ?_
  rintro e w' ⟨rfl, rfl⟩
  rw [HW.out]
  clear hb
  go_wp2_with fail
  clear hd
  obtain ⟨w0, hw0⟩ : ∃ w0, (((w.alloc (.cells #[.int .u64 (key.toNat : Int)] 31)).alloc (.cells #[.slice a l.length cap] 25)).alloc (.cells #[.int .i64 0] 3)).alloc (.cells #[.int .i64 0] 3) = w0 := ⟨_, rfl⟩
  have c0 : w0.cell? ⟨w.heap.size, 0, none⟩ = some (.int .u64 (key.toNat : Int)) := by rw [← hw0]; simp [go_sem]
  have c1 : w0.cell? ⟨w.heap.size + 1, 0, none⟩ = some (.slice a l.length cap) := by rw [← hw0]; simp [go_sem]
  have c2 : w0.cell? ⟨w.heap.size + 1 + 1, 0, none⟩ = some (.int .i64 0) := by rw [← hw0]; simp [go_sem]
  have c3 : w0.cell? ⟨w.heap.size + 1 + 1 + 1, 0, none⟩ = some (.int .i64 0) := by rw [← hw0]; simp [go_sem]
  have f2 : w0.frozen? ⟨w.heap.size + 1 + 1, 0, none⟩ = false := by rw [← hw0]; simp [go_sem]
  have f3 : w0.frozen? ⟨w.heap.size + 1 + 1 + 1, 0, none⟩ = false := by rw [← hw0]; simp [go_sem]
  have h4 : w0.heap.size = w.heap.size + 4 := by rw [← hw0]; simp
  have h5 : Below w.heap.size w w0 := by rw [← hw0]; exact ((((Below.refl _ _).alloc (Nat.le_refl _) _).alloc (by simp) _).alloc (by simp; omega) _).alloc (by simp; omega) _
  rw [hw0]
  clear hw0
  have h6 : w.heap.size + 4 ≤ w0.heap.size := by omega
  have H4 := Lib.hid h4
  have H5 := Lib.hid h5
  clear h4 h5
  have HN := Lib.hid hnz
  go_loopw [26] (fun x wr => ∃ k : Nat, k ≤ l.length ∧ x = .int .i64 (k : Int) ∧ wr.cell? ⟨w.heap.size + 1 + 1, 0, none⟩ = some (.int .i64 ((((nats l).take k).sum : Nat) : Int)) ∧ wr.frozen? ⟨w.heap.size + 1 + 1, 0, none⟩ = false ∧ Off (fun b => b = w.heap.size + 1 + 1) w0 wr) (fun x _ => l.length - (intOf x).toNat)
  case atStart => exact ⟨0, Nat.zero_le _, rfl, c2, f2, Off.refl _ _⟩
  case round =>
    obtain ⟨k, hk, rfl, d2, e2, hF⟩ := hrel
    by_cases hlt : k < l.length
    · obtain ⟨a', cap', hav, k2, k3, k4⟩ := (HV.out.below (H5.out.trans (hF.below (n := w.heap.size) (by omega) (by intro k hk; omega)))).at'
      cases hav
      obtain ⟨g, off, rfl, k5, k6⟩ := k4 (by omega)
      have cl := k6 k hlt
      have hkn : k < (nats l).length := by rw [nats_length]; exact hlt
      obtain ⟨n0, n1, n2⟩ := nats_get l k hlt HW.out
      have hst := sum_take (nats l) k hkn
      have hle := sum_take_le (nats l) (k + 1)
      obtain ⟨x, hx⟩ : ∃ x, (nats l)[k] = x := ⟨_, rfl⟩
      rw [hx] at n2 hst
      rw [← n2] at cl n0 n1
      obtain ⟨y, hy⟩ : ∃ y, ((nats l).take k).sum = y := ⟨_, rfl⟩
      rw [hy] at d2 hst
      rw [hst] at hle
      have HST := Lib.hid hst
      have HF := Lib.hid hF
      have hyx : y + x ≤ 1099511627776000 := by omega
      clear k6 k4 n2 hst hx hy hF hle hnz c0 c1 c2 c3 f2 f3
      go_wp2_with fail
      go_roundw
      case rel =>
        refine ⟨k + 1, hlt, by go_num, ?_, by simp [go_sem, e2], Off.setCell (S := fun b => b = w.heap.size + 1 + 1) (p := ⟨w.heap.size + 1 + 1, 0, none⟩) HF.out (Or.inl rfl) _⟩
        rw [HST.out]; simp [go_sem, d2]
      case measure => simp [intOf]; omega
    · obtain rfl : l.length = k := by omega
      have hall : (nats l).take l.length = nats l := List.take_of_length_le (by rw [nats_length]; exact Nat.le_refl _)
      rw [hall] at d2
      have q0 := (hF.cell (p := ⟨w.heap.size, 0, none⟩) (by simp; omega) (by simp; omega)).trans c0
      have q1 := (hF.cell (p := ⟨w.heap.size + 1, 0, none⟩) (by simp; omega) (by simp)).trans c1
      have q3 := (hF.cell (p := ⟨w.heap.size + 1 + 1 + 1, 0, none⟩) (by simp; omega) (by simp)).trans c3
      have qf := (hF.frozen (p := ⟨w.heap.size + 1 + 1 + 1, 0, none⟩) (by simp; omega) (by simp)).trans f3
      have hwr : w.heap.size + 4 ≤ wr.heap.size := Nat.le_trans h6 hF.size
      have hbr : Below w.heap.size w wr := H5.out.trans (hF.below (n := w.heap.size) (by omega) (by intro k hk; omega))
      have HBR := Lib.hid hbr
      obtain ⟨S, hS⟩ : ∃ S, (nats l).sum = S := ⟨_, rfl⟩
      rw [hS] at d2 HN HR hnz
      have HS := Lib.hid hS
      clear hall hlt c0 c1 c2 c3 f2 f3 hF hbr hS
      by_cases hpos : 0 < S
      · have hd1 : decide ((0 : Int) < (S : Int)) = true := by simp; omega
        by_cases hin : 0 ≤ i ∧ i ≤ 1099511627776
        · obtain ⟨i', rfl⟩ : ∃ i' : Nat, i = (i' : Int) := ⟨i.toNat, by omega⟩
          have hi' : i' ≤ 1099511627776 := by omega
          have hRR : weighV key l i' = R := by
            have := HR.out
            rw [if_pos ⟨hpos, hin⟩] at this; simpa using this
          have HRR := Lib.hid hRR
          clear hRR hin HR
          go_wp2_with fail
          refine (draw_any key i' hi' 43 #[.pointer (some ⟨w.heap.size + 1 + 1, 0, none⟩), .pointer (some ⟨w.heap.size + 1, 0, none⟩), .pointer (some ⟨w.heap.size + 1 + 1 + 1, 0, none⟩)] wr
            (fun s w' => s = (belS key S (i', 0)).2 ∧ w'.cell? ⟨w.heap.size + 1 + 1 + 1, 0, none⟩ = some (.int .i64 (weighGo (nats l) (belS key S (i', 0)).1 : Int)) ∧ Below w.heap.size w w')
            (fun s w' k ⟨a, b, c⟩ => ⟨a, by simpa using b, below_drewN c k⟩) (fun xs w => by rfl)
            (fun c w1 hb hc hsrc => (by
              have := weigh2_any c key l HW.out hl (by rw [HS.out]; exact hpos) i' hi' (w.heap.size + 1 + 1) (w.heap.size + 1) (w.heap.size + 1 + 1 + 1) (.slice a l.length cap) w1
                ⟨hsrc, by have := hb.size; omega, (hb.cell (p := ⟨w.heap.size + 1 + 1 + 1, 0, none⟩) (by simp; omega)).trans q3, (hb.frozen (p := ⟨w.heap.size + 1 + 1 + 1, 0, none⟩) (by simp; omega)).trans qf⟩
                ((hb.cell (p := ⟨w.heap.size + 1 + 1, 0, none⟩) (by simp; omega)).trans (by rw [HS.out]; exact d2)) ((hb.cell (p := ⟨w.heap.size + 1, 0, none⟩) (by simp; omega)).trans q1) (by omega) (by omega) (by have := hb.size; omega) (by omega)
                (fun w' hF' => HV.out.below ((HBR.out.trans (hb.mono HBR.out.size)).trans (hF'.below (n := w.heap.size) (by have := hb.size; omega) (by rintro k (rfl | rfl) <;> omega))))
              rw [HS.out] at this
              refine this.mono fun e w2 ⟨he, g1, g2⟩ => ⟨he, _, belS_two _ (Or.inl rfl), (belS_at _ hi').2, g1.src, rfl, g1.cell, (HBR.out.trans (hb.mono HBR.out.size)).trans (g2.below (by have := hb.size; omega) (by rintro k (rfl | rfl) <;> omega))⟩))).mono ?_
          rintro e w2 ⟨s, _, _, rfl, rfl, g1, g2⟩
          have HG := Lib.hid g2
          clear g2 q0 q1 q3 qf d2 hd1
          have hwv := HRR.out
          unfold weighV at hwv
          rw [HS.out] at hwv
          rcases hBB : bel key S (1099511627776 - i') i' with _ | ⟨t, j⟩
          · rw [hBB] at hwv
            rw [belS_none hBB] at g1 ⊢
            have HWV := Lib.hid hwv
            unfold drawV
            clear hBB hwv
            go_wp2_with fail
            go_ret3
            exact ⟨by rw [← HWV.out]; rfl, HG.out⟩
          · rw [hBB] at hwv
            rw [belS_some hBB] at g1 ⊢
            have HWV := Lib.hid hwv
            unfold drawV
            clear hBB hwv
            go_wp2_with fail
            go_ret3
            exact ⟨by rw [← HWV.out]; rfl, HG.out⟩
        · have hin' : i < 0 ∨ 1099511627776 < i := by omega
          have hRR : R = .tuple #[.int .i64 0, .int .i64 0, .int .i64 2] := by
            have := HR.out
            rw [if_neg (by omega)] at this; exact this.symm
          have HRR := Lib.hid hRR
          clear hRR hin HR
          go_wp2_with fail
          refine (draw_no key i _ _ wr (Or.inr hin')).mono ?_
          rintro e w2 ⟨rfl, hb⟩
          have hb2 := Lib.hid (HBR.out.trans (hb.mono HBR.out.size))
          clear hb q0 q1 q3 qf d2 hd1
          go_wp2_with fail
          go_ret3
          exact ⟨by rw [HRR.out]; rfl, hb2.out⟩
      · have hRR : R = .tuple #[.int .i64 0, .int .i64 0, .int .i64 2] := by
          have := HR.out
          rw [if_neg (by omega)] at this; exact this.symm
        have hd1 : decide ((0 : Int) < (S : Int)) = false := by simp; omega
        have HRR := Lib.hid hRR
        clear hRR HR
        go_wp2_with fail
        refine (draw_no key i _ _ wr (Or.inl rfl)).mono ?_
        rintro e w2 ⟨rfl, hb⟩
        have hb2 := Lib.hid (HBR.out.trans (hb.mono HBR.out.size))
        clear hb q0 q1 q3 qf d2 hd1
        go_wp2_with fail
        go_ret3
        exact ⟨by rw [HRR.out]; rfl, hb2.out⟩
end Go.Proofs.Ytodaembemcljnaa
