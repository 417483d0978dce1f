import Derived.Test.YtodaembemcljnaaSeedZf
import Derived.Test.YtodaembemcljnaaSeedW
/-
  SeedSteps' walk.
-/
namespace Go.Proofs.Ytodaembemcljnaa
open Go.RowKit
set_option linter.unusedVariables false

theorem weighGo_two (M t : Nat) : (((weighGo (nats [(M : Int), 1]) t : Nat) : Int) == 0) = decide ((t : Int) < (M : Int)) := by
  have e : nats [(M : Int), 1] = [M, 1] := by simp [nats]
  rw [e, weighGo]
  obtain ⟨z, hz⟩ : ∃ z, weighGo [1] (t - M) = z := ⟨_, rfl⟩
  rw [hz]
  by_cases h : M ≤ t
  · have h2 : ¬ (t : Int) < (M : Int) := by omega
    have h3 : ¬ (((z + 1 : Nat) : Int) = 0) := by omega
    rw [if_pos h, decide_eq_false h2]
    exact beq_eq_false_iff_ne.2 h3
  · have h2 : (t : Int) < (M : Int) := by omega
    rw [if_neg h, decide_eq_true h2]
    rfl

theorem two_lt (x : Wd) (M i t j : Nat) (hR : bel x (M + 1) (1099511627776 - i) i = some (t, j)) : t < M + 1 := bel_lt (by omega) hR
theorem two_weigh (x : Wd) (M i t j : Nat) (hsum : (nats [(M : Int), 1]).sum = M + 1) (hR : bel x (M + 1) (1099511627776 - i) i = some (t, j)) : ∃ o : Nat, weighV x [(M : Int), 1] i = .tuple #[.int .i64 (o : Int), .int .i64 (j : Int), .int .i64 0] ∧ ((o : Int) == 0) = decide ((t : Int) < (M : Int)) :=
  ⟨weighGo (nats [(M : Int), 1]) t, by unfold weighV; rw [hsum, hR], weighGo_two M t⟩

set_option maxRecDepth 100000 in
set_option maxHeartbeats 4000000 in
theorem seedSteps_walk (x : Wd) (a z m : Int) (ha : -9223372036854775808 ≤ a ∧ a ≤ 9223372036854775807) (hz : 0 ≤ z ∧ z ≤ 255) (hm : 0 ≤ m ∧ m ≤ 255) (w : World) :
    Calls Try.prog 6 #[.int .u64 (x.toNat : Int), .int .i64 a, .int .u8 z, .int .u8 m] w fun e w' => e = .returned (.bool true) ∧ Below w.heap.size w w' := by
  have P1 := Lib.hid (fun w => pick_any a 1099511627777 (by omega) (by omega) ha w)
  obtain ⟨i, hi⟩ : ∃ p : Nat, a % ((1099511627777 : Nat) : Int) = (p : Int) := ⟨(a % 1099511627777).toNat, by omega⟩
  have hi2 : i ≤ 1099511627776 := by omega
  rw [hi] at P1
  clear hi
  obtain ⟨n, hn⟩ : ∃ n : Nat, 1 + z % 100 = (n : Int) := ⟨(1 + z % 100).toNat, by omega⟩
  have hn2 : 1 ≤ n ∧ n ≤ 100 := by omega
  have HN := Lib.hid hn
  have HI2 := Lib.hid hi2
  clear hn hi2
  obtain ⟨M, rfl⟩ : ∃ M : Nat, m = (M : Int) := ⟨m.toNat, by omega⟩
  have HM := Lib.hid hm
  go_enter Try.func6, Try.ntmps6
  go_wp2_with fail
  refine (awake_yes _).mono ?_
  rintro e w1 ⟨rfl, hb1⟩
  obtain ⟨w2, hw2⟩ : ∃ w2, w1.alloc (.cells #[.int .u64 (x.toNat : Int)] 31) = w2 := ⟨_, rfl⟩
  obtain ⟨G, hG⟩ : ∃ G, w1.heap.size = G := ⟨_, rfl⟩
  have C2 : w2.cell? ⟨G, 0, none⟩ = some (.int .u64 (x.toNat : Int)) := by rw [← hw2, ← hG, World.cell?_alloc_at _ _ _ _ rfl]; rfl
  have l2 : G < w2.heap.size := World.block_lt_of_cell? w2 _ C2
  have D2 : Below w.heap.size w w2 := by rw [← hw2]; exact hb1.alloc hb1.size _
  clear hb1
  go_wp2_with fail
  refine (P1.out _).mono ?_
  rintro e w3 ⟨rfl, rfl⟩
  clear hw2 hG
  have PB := Lib.hid (fun w => Below_any x i n HI2.out hn2.1 (by omega) w)
  obtain ⟨BB, hBB⟩ : ∃ BB, bel x n (1099511627776 - i) i = BB := ⟨_, rfl⟩
  rw [hBB] at PB
  have HBB := Lib.hid hBB
  clear hBB
  go_wp2_with fail
  rw [HN.out]
  refine (PB.out _).mono ?_
  clear PB
  rintro e w3 ⟨rfl, hb3⟩
  have C3 := (hb3.cell (p := ⟨G, 0, none⟩) l2).trans C2
  have l3 : G < w3.heap.size := Nat.lt_of_lt_of_le l2 hb3.size
  have D3 := D2.trans (hb3.mono D2.size)
  clear hb3 C2 D2 l2 hm
  rcases BB with _ | ⟨v, j⟩
  · unfold belV
    have hf := bel_full hn2.1 (by have := HI2.out; omega) HBB.out
    have t1 : (1099511627776 : Int) < (i : Int) + (n : Int) := by have := HI2.out; omega
    have hi2 := HI2.out
    go_wp2_with fail
    go_ret
    exact ⟨rfl, D3⟩
  · unfold belV
    have hbs := bel_some HBB.out
    have hj : j ≤ 1099511627776 := by have := HI2.out; omega
    have HB := Lib.hid hbs
    have hij : i < j := hbs.1
    have F3 : Below w3.heap.size w3 w3 := Below.refl _ _
    clear hbs HBB
    go_wp2_with fail
    go_loopw [15] (fun k wr => ∃ k' : Nat, i ≤ k' ∧ k' ≤ j ∧ k = .int .i64 (k' : Int) ∧ Below w3.heap.size w3 wr) (fun k _ => j - (intOf k).toNat)
    case atStart => exact ⟨i, by omega, by omega, rfl, F3⟩
    case round =>
      obtain ⟨k, hik, hkj, rfl, hb⟩ := hrel
      have Ck := (hb.cell (p := ⟨G, 0, none⟩) l3).trans C3
      have lk : G < wr.heap.size := Nat.lt_of_lt_of_le l3 hb.size
      by_cases hlt : k < j
      · obtain ⟨wd, hwd⟩ : ∃ wd, word x k = wd := ⟨_, rfl⟩
        have PW := Lib.hid (fun w => Word_any x k (by omega) w)
        rw [hwd] at PW
        obtain ⟨r, bo, PR, hbo, hrv⟩ : ∃ (r : Nat) (bo : Bool), Hid (∀ w, Calls Try.prog 15 #[.int .u64 (wd.toNat : Int), .int .i64 (n : Int)] w fun e w' => e = .returned (.tuple #[.int .i64 (r : Int), .bool bo]) ∧ w = w') ∧ bo = ((k : Int) == (j : Int) - 1) ∧ (bo = true → ((r : Int) == (v : Int)) = true) := by
          by_cases hl : k + 1 = j
          · have e : word x (j - 1) = wd := by rw [← hwd]; congr 1; omega
            have hbs := HB.out
            rw [e] at hbs
            exact ⟨wd.toNat % n, true, Lib.hid (fun w => rest_yes wd n hn2.1 (by omega) hbs.2.2.1 w), by symm; simp; omega, fun _ => by rw [hbs.2.2.2.1]; simp⟩
          · have hacc := HB.out.2.2.2.2 k hik (by omega)
            rw [hwd] at hacc
            exact ⟨0, false, Lib.hid (fun w => rest_not wd n hn2.1 (by omega) hacc w), by symm; simp; omega, fun h => by cases h⟩
        have HBO := Lib.hid hbo
        have HRV := Lib.hid hrv
        clear hwd hbo hrv
        go_wp2_with fail
        refine (PW.out _).mono ?_
        rintro e w4 ⟨rfl, hb4⟩
        have D4 := Lib.hid (hb.trans (hb4.mono hb.size))
        clear hb4 hb PW
        go_wp2_with fail
        refine (PR.out _).mono ?_
        rintro e w5 ⟨rfl, rfl⟩
        have hbo := HBO.out.symm
        clear PR HBO
        rcases bo with _ | _
        · go_wp2_with fail
          go_roundw
          case rel => exact ⟨k + 1, by omega, hlt, by go_num, D4.out⟩
          case measure => simp [intOf]; omega
        · have hrv := HRV.out rfl
          go_wp2_with fail
          go_roundw
          case rel => exact ⟨k + 1, by omega, hlt, by go_num, D4.out⟩
          case measure => simp [intOf]; omega
      · obtain rfl : k = j := by omega
        have D5 := D3.trans (hb.mono D3.size)
        clear HB hb D3 C3 l3 F3 hlt hkj
        obtain ⟨r, hr⟩ : ∃ r, permS x n i = r := ⟨_, rfl⟩
        have PP := Lib.hid (fun w => Perm_any x i n HI2.out (by omega) w)
        rw [hr] at PP
        have HR := Lib.hid hr
        clear hr
        go_wp2_with fail
        refine (PP.out _).mono ?_
        rintro e w4 ⟨⟨v4, rfl, ho4⟩, h4, hb4⟩
        have C4 := (hb4.cell (p := ⟨G, 0, none⟩) lk).trans Ck
        have l4 : G < w4.heap.size := Nat.lt_of_lt_of_le lk hb4.size
        have D4 := D5.trans (hb4.mono D5.size)
        clear hb4 Ck lk D5
        rcases h4 with h0 | h0
        · have HH0 := Lib.hid h0
          have HO4 := Lib.hid (ho4 h0)
          obtain ⟨rat, hrat⟩ : ∃ q, r.2.1 = q := ⟨_, rfl⟩
          have HRAT := Lib.hid hrat
          have e1 : ∀ v, listV r.2 v = .tuple #[v, .int .i64 (rat : Int), .int .i64 0] := fun v => by unfold listV; rw [if_pos h0, hrat]
          have E1 := Lib.hid e1
          rw [e1]
          clear ho4 h0 hrat e1
          go_wp2_with fail
          refine (PP.out _).mono ?_
          rintro e w5 ⟨⟨v5, rfl, ho5⟩, -, hb5⟩
          have HO5 := Lib.hid (ho5 HH0.out)
          rw [E1.out]
          have C5 := (hb5.cell (p := ⟨G, 0, none⟩) l4).trans C4
          have l5 : G < w5.heap.size := Nat.lt_of_lt_of_le l4 hb5.size
          have D5 := D4.trans (hb5.mono D4.size)
          have HS4 := Lib.hid (HO4.out.slice.below hb5)
          have HS5 := Lib.hid HO5.out.slice
          clear ho5 hb5 C4 l4 D4 PP E1
          go_wp2_with fail
          refine (sameInts_any _ _ _ _ _ HS4.out HS5.out).mono ?_
          rintro e w6 ⟨rfl, hb6⟩
          rw [decide_eq_true rfl]
          have C6 := (hb6.cell (p := ⟨G, 0, none⟩) l5).trans C5
          have l6 : G < w6.heap.size := Nat.lt_of_lt_of_le l5 hb6.size
          have D6 := D5.trans (hb6.mono D5.size)
          have HS46 := Lib.hid (HS4.out.below hb6)
          clear hb6 C5 l5 D5 HO4 HO5 HS4 HS5
          go_wp2_with fail
          obtain ⟨B, hB⟩ : ∃ B, w6.heap.size = B := ⟨_, rfl⟩
          have F6 : Below B w6 w6 := by rw [← hB]; exact Below.refl _ _
          have hB6 : B ≤ w6.heap.size := Nat.le_of_eq hB.symm
          rw [hB] at l6
          have HBE := Lib.hid hB
          clear hB P1 hik hij
          go_loopw [25, 26] (fun l q wr2 => ∃ k2 : Nat, k2 ≤ n ∧ q = .int .i64 (k2 : Int) ∧ OwnI B wr2 l (List.range k2) ∧ Below B w6 wr2) (fun _ q _ => n - (intOf q).toNat)
          case atStart => exact ⟨0, by omega, rfl, World.ownsRow_nil _ _ _ _, F6⟩
          case round =>
            obtain ⟨k2, hk2, rfl, hO, hb⟩ := hrel
            by_cases hlt : k2 < n
            · have hws := hb.size
              have hO1 := Lib.hid (hO.below (Below.alloc (Below.refl _ _) (Nat.le_refl _) (.cells #[.int .i64 (k2 : Int)] 3)))
              have hB1 := Lib.hid (hb.alloc (Nat.le_trans hB6 hws) (.cells #[.int .i64 (k2 : Int)] 3))
              clear hO hb F6
              go_wp2_with (at_builtin; refine wpList_append_int _ rfl _ _ rfl B _ (List.range k2) rfl hO1 wr.heap.size 1 k2 rfl (cell_one_at _ _ rfl _ _) (by simp; omega) (by simp; omega) ?_; intro av cv w7 hown' hgrow)
              simp only [List.length_range] at hown' ⊢
              go_roundw
              case rel => exact ⟨k2 + 1, hlt, by go_num, by rw [List.range_succ]; have := hown'.out; unfold OwnI at this ⊢; simpa using this, hB1.out.trans (hgrow.out.below (by simp; omega) (fun k hk => hk))⟩
              case measure => simp [intOf]; omega
            · obtain rfl : n = k2 := by omega
              obtain ⟨g, cap, rfl, hg1, hg2, hg3, hg4, -⟩ := hO.form (by simp; omega)
              have hO' : OwnI B wr (.slice (some ⟨g, 0, none⟩) n cap) (List.range n) := by have := hO; rw [List.length_range] at this; exact this
              rw [List.length_range] at hg3 ⊢
              have HOO := Lib.hid hO'
              have HBB := Lib.hid hb
              have HRR := Lib.hid (show permGo x (n - 1) (List.range n) (i, 0) = r from HR.out)
              clear hO hO' hb hk2 hlt F6 HR hg2
              go_wp2_with fail
              go_loopw [27, 28] (fun a y wr2 => ∃ (y' : Nat) (L : List Nat) (at' : Nat), y = .int .i64 (y' : Int) ∧ a = .int .i64 (at' : Int) ∧ y' < n ∧ L.length = n ∧ at' ≤ 1099511627776 ∧ Hid (permGo x y' L (at', 0) = r) ∧ OwnI B wr2 (.slice (some ⟨g, 0, none⟩) L.length cap) L ∧ Below B w6 wr2) (fun _ y _ => (intOf y).toNat)
              case atStart => exact ⟨n - 1, List.range n, i, by congr 1; omega, rfl, by omega, by simp, HI2.out, HRR, by rw [List.length_range]; exact HOO.out, HBB.out⟩
              case round =>
                obtain ⟨y', L, at', rfl, rfl, hy, hL, hat, HP, hO2, hB2⟩ := hrel
                have Cr := (hB2.cell (p := ⟨G, 0, none⟩) l6).trans C6
                have lr : G < wr.heap.size := World.block_lt_of_cell? wr _ Cr
                by_cases hpos : 1 ≤ y'
                · obtain ⟨p, rfl⟩ : ∃ p : Nat, y' = p + 1 := ⟨y' - 1, by omega⟩
                  have hy1 : p + 1 < n := hy
                  have PQ := Lib.hid (fun w => Below_any x at' (p + 2) hat (by omega) (by omega) w)
                  have hstep : permGo x (p + 1) L (at', 0) = permGo x p (swp L (p + 1) (belS x (p + 2) (at', 0)).1) (belS x (p + 2) (at', 0)).2 := by rw [permGo]
                  have hstep2 := hstep.symm.trans HP.out
                  obtain ⟨BB, hBB⟩ : ∃ BB, bel x (p + 2) (1099511627776 - at') at' = BB := ⟨_, rfl⟩
                  rw [hBB] at PQ
                  rcases BB with _ | ⟨q, j⟩
                  · exfalso
                    rw [belS_none hBB] at hstep2
                    have hre : r.2 = (1099511627776, 4) := by rw [← hstep2]; exact permGo_err x p _ _ (by decide)
                    have := HH0.out
                    rw [hre] at this
                    cases this
                  · have hbs := bel_some hBB
                    have hq := bel_lt (by omega) hBB
                    rw [belS_some hBB] at hstep2
                    have hj2 : j ≤ 1099511627776 := by have := hbs.2.1; omega
                    have HJ := Lib.hid hj2
                    have HS2 := Lib.hid hstep2
                    have HL := Lib.hid hL
                    unfold belV at PQ
                    have HO2 := Lib.hid hO2
                    have HB2 := Lib.hid hB2
                    have HBR := Lib.hid (Nat.le_trans hB6 hB2.size)
                    clear hBB hbs hj2 hstep hstep2 hL hO2 hB2 hat hpos
                    go_wp2_with fail
                    have e : ((p : Int) + 1 + 1) = ((p + 2 : Nat) : Int) := by omega
                    rw [e]
                    clear e
                    refine (PQ.out _).mono ?_
                    rintro e w7 ⟨rfl, hb7⟩
                    have HO7 := Lib.hid (HO2.out.below hb7)
                    have HB7 := Lib.hid (HB2.out.trans (hb7.mono HBR.out))
                    clear hb7 PQ HO2 HB2 Cr lr
                    obtain ⟨g', cap', hv, -, hg2, -, -, hcells⟩ := HO7.out.form (by have := HL.out; omega)
                    have hgG : g' = g := by cases hv; rfl
                    subst hgG
                    have hp1 : p + 1 < L.length := by rw [HL.out]; omega
                    have hq1 : q < L.length := by rw [HL.out]; omega
                    obtain ⟨cp, fp⟩ := hcells.out (p + 1) hp1
                    obtain ⟨cq, fq⟩ := hcells.out q hq1
                    have hsw : swp L (p + 1) q = (L.set (p + 1) L[q]).set q L[p + 1] := by
                      unfold swp; simp only [List.getD_eq_getElem?_getD, List.getElem?_eq_getElem hp1, List.getElem?_eq_getElem hq1, Option.getD_some]
                    have HSW := Lib.hid hsw
                    obtain ⟨xx, hxx⟩ : ∃ x, L[p + 1] = x := ⟨_, rfl⟩
                    obtain ⟨yy, hyy⟩ : ∃ x, L[q] = x := ⟨_, rfl⟩
                    rw [hxx] at cp HSW
                    rw [hyy] at cq HSW
                    have hqn : (q : Int) < n := by omega
                    have HP1 := Lib.hid hp1
                    have HQ1 := Lib.hid hq1
                    have i1 : ((p : Int) + 1).toNat = p + 1 := by omega
                    have i2 : (0 : Int) ≤ (p : Int) + 1 := by omega
                    have i3 : (p : Int) + 1 < n := by omega
                    have i4 : decide ((p : Int) + 1 < (q : Int)) = false := by simp; omega
                    have i5 : decide ((q : Int) < 0) = false := by simp
                    clear hxx hyy hsw hv hcells hp1 hq1
                    by_cases hqp : q = p + 1
                    · subst hqp
                      have HXY : xx = yy := by rw [cp] at cq; simp at cq; omega
                      subst HXY
                      have i6 : decide ((p : Int) + 1 < 0) = false := by simp; omega
                      clear cq fq i4 i5
                      go_wp2_with fail
                      go_region
                      have FO := Lib.hid (HO7.out.swap (x := xx) (y := xx) HP1.out HQ1.out HSW.out)
                      have FB := Lib.hid ((HB7.out.setCell (p := ⟨g', p + 1, none⟩) hg1 (.int .i64 (xx : Int))).setCell (p := ⟨g', p + 1, none⟩) hg1 (.int .i64 (xx : Int))).drew
                      have hlen : (swp L (p + 1) (p + 1)).length = n := by rw [swp_length, HL.out]
                      have HLN := Lib.hid hlen
                      clear hlen cp fp
                      obtain ⟨wz, hwz⟩ : ∃ wz, ((w7.setCell ⟨g', p + 1, none⟩ (.int .i64 (xx : Int))).setCell ⟨g', p + 1, none⟩ (.int .i64 (xx : Int))).drew = wz := ⟨_, rfl⟩
                      rw [hwz] at FO FB ⊢
                      clear hwz
                      go_wp2_with fail
                      go_roundw
                      case rel => exact ⟨p, _, j, rfl, rfl, by omega, HLN.out, HJ.out, HS2, by rw [HLN.out]; have := FO.out; rw [HL.out] at this; exact this, FB.out⟩
                      case measure => simp [intOf]
                    · have hqp2 : p + 1 ≠ q := fun e => hqp e.symm
                      go_wp2_with fail
                      go_region
                      have FO := Lib.hid (HO7.out.swap (x := xx) (y := yy) HP1.out HQ1.out HSW.out)
                      have FB := Lib.hid ((HB7.out.setCell (p := ⟨g', p + 1, none⟩) hg1 (.int .i64 (yy : Int))).setCell (p := ⟨g', q, none⟩) hg1 (.int .i64 (xx : Int))).drew
                      have hlen : (swp L (p + 1) q).length = n := by rw [swp_length, HL.out]
                      have HLN := Lib.hid hlen
                      clear hlen cp fp
                      obtain ⟨wz, hwz⟩ : ∃ wz, ((w7.setCell ⟨g', p + 1, none⟩ (.int .i64 (yy : Int))).setCell ⟨g', q, none⟩ (.int .i64 (xx : Int))).drew = wz := ⟨_, rfl⟩
                      rw [hwz] at FO FB ⊢
                      clear hwz
                      go_wp2_with fail
                      go_roundw
                      case rel => exact ⟨p, _, j, rfl, rfl, by omega, HLN.out, HJ.out, HS2, by rw [HLN.out]; have := FO.out; rw [HL.out] at this; exact this, FB.out⟩
                      case measure => simp [intOf]
                · obtain rfl : y' = 0 := by omega
                  have hr0 := HP.out
                  rw [permGo] at hr0
                  have hw1 : SliceI wr (.slice (some ⟨g, 0, none⟩) n cap) (r.1.map Int.ofNat) := by
                    have := hO2.slice; rw [hL] at this; rw [← hr0]; exact this
                  have hra : rat = at' := by rw [← HRAT.out, ← hr0]
                  subst hra
                  have DR : Below w.heap.size w wr := D6.trans (hB2.mono (by rw [← HBE.out]; exact D6.size))
                  have HSA := Lib.hid (HS46.out.below (by rw [HBE.out]; exact hB2))
                  have HSB := Lib.hid hw1
                  obtain ⟨R, hR⟩ : ∃ R, bel x (M + 1) (1099511627776 - i) i = R := ⟨_, rfl⟩
                  have hsum : (nats [(M : Int), 1]).sum = M + 1 := by simp [nats]
                  have hwv : ∀ w v, SliceI w v [(M : Int), 1] → Calls Try.prog 21 #[.agg #[.int .u64 (x.toNat : Int)], .int .i64 (i : Int), v] w fun e w' => e = .returned (weighV x [(M : Int), 1] i) ∧ Below w.heap.size w w' := by
                    intro w v hv
                    have hm := HM.out
                    have := Weigh_any x i [(M : Int), 1] v w hv (by simp) (by simp [wrongW]; omega)
                    rw [if_pos (by rw [hsum]; have := HI2.out; omega)] at this
                    exact this
                  have HBL := Lib.hid (fun w => Below_any x i (M + 1) HI2.out (by omega) (by have := HM.out; omega) w)
                  rw [hR] at HBL
                  have HWV := Lib.hid hwv
                  have wM : wrap64 (M : Int) = M := IntWalk.wrap64_in _ (by have := HM.out; omega)
                  have hM2 := HM.out.2
                  clear hwv hw1 hr0 hO2 hL hat HP hpos HRR HOO HBB HS46 C6 D6
                  rcases R with _ | ⟨t, j⟩
                  · have hwe : weighV x [(M : Int), 1] i = .tuple #[.int .i64 0, .int .i64 0, .int .i64 4] := by unfold weighV; rw [hsum, hR]
                    have HWE := Lib.hid hwe
                    clear hwe hR hsum
                    unfold belV at HBL
                    go_wp2_with fail
                    have hs2 := slice_2 wr (M : Int) 1
                    obtain ⟨w8, hw8⟩ : ∃ w8, wr.alloc (.cells #[.int .i64 (M : Int), .int .i64 1] 3) = w8 := ⟨_, rfl⟩
                    rw [hw8] at hs2 ⊢
                    have hA := Below.alloc (Below.refl wr.heap.size wr) (Nat.le_refl _) (.cells #[.int .i64 (M : Int), .int .i64 1] 3)
                    rw [hw8] at hA
                    clear hw8
                    refine (HWV.out _ _ hs2).mono ?_
                    rintro e w9 ⟨rfl, hb9⟩
                    rw [HWE.out]
                    have FA := hA.trans (hb9.mono hA.size)
                    have C9 := (FA.cell (p := ⟨G, 0, none⟩) lr).trans Cr
                    have l9 : G < w9.heap.size := Nat.lt_of_lt_of_le lr FA.size
                    have D9 := DR.trans (FA.mono DR.size)
                    have HSA9 := Lib.hid (HSA.out.below FA)
                    have HSB9 := Lib.hid (HSB.out.below FA)
                    clear hs2 hA hb9 FA Cr lr DR HSA HSB
                    go_wp2_with fail
                    rw [show ((M : Int) + 1) = ((M + 1 : Nat) : Int) by omega]
                    refine (HBL.out _).mono ?_
                    rintro e w10 ⟨rfl, hb10⟩
                    have D10 := D9.trans (hb10.mono D9.size)
                    have HSAa := Lib.hid (HSA9.out.below hb10)
                    have HSBa := Lib.hid (HSB9.out.below hb10)
                    clear hb10 C9 l9 D9 HSA9 HSB9
                    go_wp2_with fail
                    refine (sameInts_any _ _ _ _ _ HSAa.out HSBa.out).mono ?_
                    rintro e w11 ⟨rfl, hb11⟩
                    rw [decide_eq_true rfl]
                    have D11 := D10.trans (hb11.mono D10.size)
                    clear hb11 D10
                    go_wp2_with fail
                    go_ret
                    exact ⟨rfl, D11⟩
                  · obtain ⟨o, hwe, hob⟩ := two_weigh x M i t j hsum hR
                    have HWE := Lib.hid hwe
                    clear hwe hR hsum
                    unfold belV at HBL
                    go_wp2_with fail
                    have hs2 := slice_2 wr (M : Int) 1
                    obtain ⟨w8, hw8⟩ : ∃ w8, wr.alloc (.cells #[.int .i64 (M : Int), .int .i64 1] 3) = w8 := ⟨_, rfl⟩
                    rw [hw8] at hs2 ⊢
                    have hA := Below.alloc (Below.refl wr.heap.size wr) (Nat.le_refl _) (.cells #[.int .i64 (M : Int), .int .i64 1] 3)
                    rw [hw8] at hA
                    clear hw8
                    refine (HWV.out _ _ hs2).mono ?_
                    rintro e w9 ⟨rfl, hb9⟩
                    rw [HWE.out]
                    have FA := hA.trans (hb9.mono hA.size)
                    have C9 := (FA.cell (p := ⟨G, 0, none⟩) lr).trans Cr
                    have l9 : G < w9.heap.size := Nat.lt_of_lt_of_le lr FA.size
                    have D9 := DR.trans (FA.mono DR.size)
                    have HSA9 := Lib.hid (HSA.out.below FA)
                    have HSB9 := Lib.hid (HSB.out.below FA)
                    clear hs2 hA hb9 FA Cr lr DR HSA HSB
                    have hdi : decide ((t : Int) < (M : Int)) = decide (t < M) := by simp
                    rw [hdi] at hob
                    rcases hdd : decide (t < M) with _ | _
                    all_goals rw [hdd] at hob hdi
                    all_goals
                      go_wp2_with fail
                      rw [show ((M : Int) + 1) = ((M + 1 : Nat) : Int) by omega]
                      refine (HBL.out _).mono ?_
                      rintro e w10 ⟨rfl, hb10⟩
                      have D10 := D9.trans (hb10.mono D9.size)
                      have HSAa := Lib.hid (HSA9.out.below hb10)
                      have HSBa := Lib.hid (HSB9.out.below hb10)
                      clear hb10 C9 l9 D9 HSA9 HSB9
                      go_wp2_with fail
                      refine (sameInts_any _ _ _ _ _ HSAa.out HSBa.out).mono ?_
                      rintro e w11 ⟨rfl, hb11⟩
                      rw [decide_eq_true rfl]
                      have D11 := D10.trans (hb11.mono D10.size)
                      clear hb11 D10
                      go_wp2_with fail
                      go_ret
                      exact ⟨rfl, D11⟩
        · have HH0 := Lib.hid h0
          have e1 : ∀ v, listV r.2 v = .tuple #[.slice none 0 0, .int .i64 0, .int .i64 4] := fun v => by unfold listV; rw [if_neg (by rw [h0]; decide), h0]; rfl
          have E1 := Lib.hid e1
          rw [e1]
          clear ho4 h0 e1
          go_wp2_with fail
          refine (PP.out _).mono ?_
          rintro e w5 ⟨⟨v5, rfl, -⟩, -, hb5⟩
          rw [E1.out]
          have D5 := D4.trans (hb5.mono D4.size)
          clear hb5 C4 l4 D4 PP E1
          go_wp2_with fail
          refine (sameInts_any [] [] _ _ _ (slice_nil _) (slice_nil _)).mono ?_
          rintro e w6 ⟨rfl, hb6⟩
          rw [decide_eq_true rfl]
          have D6 := D5.trans (hb6.mono D5.size)
          clear hb6 D5
          go_wp2_with fail
          go_ret
          exact ⟨rfl, D6⟩
end Go.Proofs.Ytodaembemcljnaa
