import Derived.Test.YtodaembemcljnaaSeedU
import Derived.Laws.MakeOwn
/-
  The reference's draws.
-/
namespace Go.Proofs.Ytodaembemcljnaa
open Go.RowKit
set_option linter.unusedVariables false

theorem rbelow_no (key : Wd) (i n : Int) (h : n < 1 ∨ i < 0 ∨ 1099511627776 < i) (w : World) :
    Calls Try.prog 31 #[.int .u64 (key.toNat : Int), .int .i64 i, .int .i64 n] w fun e w' => e = .returned (.tuple #[.int .i64 0, .int .i64 0, .int .i64 2]) ∧ w = w' := by
  by_cases h1 : i < 0
  · go_enter Try.func31, Try.ntmps31
    go_wp2_with fail
    go_ret3
    exact ⟨rfl, rfl⟩
  · by_cases h2 : 1099511627776 < i
    · go_enter Try.func31, Try.ntmps31
      go_wp2_with fail
      go_ret3
      exact ⟨rfl, rfl⟩
    · have h3 : n < 1 := by omega
      go_enter Try.func31, Try.ntmps31
      go_wp2_with fail
      go_ret3
      exact ⟨rfl, rfl⟩
set_option maxRecDepth 100000 in
theorem rbelow_any (key : Wd) (i n : Nat) (hi : i ≤ 1099511627776) (hn : 1 ≤ n) (hm : n ≤ 9223372036854775807) (w : World) :
    Calls Try.prog 31 #[.int .u64 (key.toNat : Int), .int .i64 (i : Int), .int .i64 (n : Int)] w fun e w' => e = .returned (belV (bel key n (1099511627776 - i) i)) ∧ w = w' := by
  obtain ⟨R, hR⟩ : ∃ R, bel key n (1099511627776 - i) i = R := ⟨_, rfl⟩
  have HR := Lib.hid hR
  rw [hR]
  clear hR
  have d1 : decide ((i : Int) < 0) = false := by simp
  have d2 : decide ((1099511627776 : Int) < (i : Int)) = false := by simp; omega
  have d3 : decide ((n : Int) < 1) = false := by simp; omega
  go_enter Try.func31, Try.ntmps31
  go_wp2_with fail
  go_loop [1] (fun x => ∃ j : Nat, j ≤ 1099511627776 ∧ x = .int .i64 (j : Int) ∧ Hid (bel key n (1099511627776 - j) j = R)) (fun x => 1099511627776 - (intOf x).toNat)
  case atStart => exact ⟨i, hi, rfl, HR⟩
  case round =>
    obtain ⟨j, hj, rfl, HB⟩ := hrel
    by_cases hlt : j < 1099511627776
    · have hbe : bel key n (1099511627776 - j) j = if acc n (word key j) then some ((word key j).toNat % n, j + 1) else bel key n (1099511627776 - (j + 1)) (j + 1) := by
        have e : 1099511627776 - j = (1099511627776 - (j + 1)) + 1 := by omega
        rw [e, bel]
      have HW := Lib.hid (fun w => rword_any key j hlt w)
      obtain ⟨x, hx⟩ : ∃ x, word key j = x := ⟨_, rfl⟩
      rw [hx] at hbe HW
      have HE := Lib.hid (hbe.symm.trans HB.out)
      clear hbe hx
      have i1 : decide ((j : Int) < 1099511627776) = true := by simp only [decide_eq_true_eq]; omega
      have HI := Lib.hid hi
      have HJ := Lib.hid hj
      have HLT := Lib.hid hlt
      have b1 : (j : Int) ≤ 1099511627775 := by omega
      clear hi hj hlt
      cases hacc : acc n x
      · have HA := Lib.hid hacc
        have HS := Lib.hid (by have := HE.out; rw [hacc, if_neg (by decide)] at this; exact this : bel key n (1099511627776 - (j + 1)) (j + 1) = R)
        have HX := Lib.hid (fun w => rrest_not x n hn hm hacc w)
        clear hacc HE HB
        go_wp2_with fail
        refine (HW.out _).mono ?_
        rintro e w1 ⟨rfl, rfl⟩
        go_wp2_with fail
        refine (HX.out _).mono ?_
        rintro e w1 ⟨rfl, rfl⟩
        go_wp2_with fail
        go_round
        case rel => exact ⟨j + 1, HLT.out, by go_num, HS⟩
        case measure => simp [intOf]; have := HLT.out; omega
      · have HA := Lib.hid hacc
        have HS := Lib.hid (by have := HE.out; rw [hacc, if_pos rfl] at this; exact this : some (x.toNat % n, j + 1) = R)
        clear HE HB
        have HX := Lib.hid (fun w => rrest_yes x n hn hm hacc w)
        clear hacc
        obtain ⟨v, hv⟩ : ∃ v, x.toNat % n = v := ⟨_, rfl⟩
        rw [hv] at HX HS
        clear hv
        go_wp2_with fail
        refine (HW.out _).mono ?_
        rintro e w1 ⟨rfl, rfl⟩
        go_wp2_with fail
        refine (HX.out _).mono ?_
        rintro e w1 ⟨rfl, rfl⟩
        go_wp2_with fail
        go_ret3
        exact ⟨by rw [← HS.out]; rfl, rfl⟩
    · obtain rfl : j = 1099511627776 := by omega
      go_wp2_with fail
      go_ret3
      exact ⟨by rw [← HB.out, Nat.sub_self, bel]; rfl, rfl⟩

theorem run_make_ints (n : Nat) (hn : n ≤ 1000000) (w : World) : ∃ w', Sem.run Try.prog (Instr.makeSlice 25 (.int .i64 (n : Int)) (.int .i64 (n : Int))) w = .ok (.slice (some ⟨w.heap.size, 0, none⟩) n n) w' ∧
    OwnI w.heap.size w' (.slice (some ⟨w.heap.size, 0, none⟩) n n) (List.replicate n 0) ∧ Below w.heap.size w w' := by
  obtain ⟨i0, hi0, hz0, hz1, hz2⟩ := info_parts info_int
  have h := run_make w 25 3 i0 (.int .i64 0) Try.underlying25 hi0 hz0 .i64 .i64 (n : Int) (n : Int) (by omega) (by omega) (by rw [hz2]; omega) (by omega)
  refine ⟨_, h.trans rfl, ?_, (Below.refl _ _).alloc (Nat.le_refl _) _⟩
  refine ⟨by simp [ints], Or.inr ⟨w.heap.size, n, madeCells (Value.int .i64 0).cells ((n : Int).toNat * i0.size), by simp, Nat.le_refl _, ?_, by simp, by unfold maxLen; omega, ?_, ?_⟩⟩
  · show (w.heap.push _)[w.heap.size]? = _
    simp
  · rw [hz1]; simp [size_madeCells]
  · rw [hz1]
    have e : (madeCells (Value.int .i64 0).cells (n * 1)).toList = List.replicate n (.int .i64 0) := by
      apply List.ext_getElem
      · simp [size_madeCells]
      · intro j h1 h2
        simp [madeCells, Value.cells, Nat.mod_one]
    have e2 : ((n : Int).toNat * 1) = n * 1 := by omega
    rw [e2, e]
    simp [ints]
theorem OwnI.swap2 {B : Nat} {w : World} {g cap p q x y : Nat} {l l' : List Nat} (h : OwnI B w (.slice (some ⟨g, 0, none⟩) l.length cap) l) (hp : p < l.length) (hq : q < l.length) (hl : l' = (l.set p y).set q x) :
    OwnI B ((w.setCell ⟨g, p, none⟩ (.int .i64 (y : Int))).setCell ⟨g, q, none⟩ (.int .i64 (x : Int))) (.slice (some ⟨g, 0, none⟩) l.length cap) l' := by
  subst hl
  have h1 := h.set p y hp
  have h2 : OwnI B (w.setCell ⟨g, p, none⟩ (.int .i64 (y : Int))) (.slice (some ⟨g, 0, none⟩) (l.set p y).length cap) (l.set p y) := by rw [List.length_set]; exact h1
  have h3 := h2.set q x (by simpa using hq)
  rw [List.length_set] at h3
  exact h3

set_option maxRecDepth 100000 in
theorem rperm_any (key : Wd) (i n : Nat) (hi : i ≤ 1099511627776) (hn : n ≤ 1000) (w : World) :
    Calls Try.prog 32 #[.int .u64 (key.toNat : Int), .int .i64 (i : Int), .int .i64 (n : Int)] w (ListMade w.heap.size (permS key n i) w) := by
  obtain ⟨r, hr⟩ : ∃ r, permS key n i = r := ⟨_, rfl⟩
  have HR := Lib.hid hr
  rw [hr]
  clear hr
  have d1 : decide ((i : Int) < 0) = false := by simp
  have d2 : decide ((1099511627776 : Int) < (i : Int)) = false := by simp; omega
  have d3 : decide ((n : Int) < 0) = false := by simp
  have d4 : decide ((1000 : Int) < (n : Int)) = false := by simp; omega
  obtain ⟨w0, hmk, ho, hb0⟩ := run_make_ints n (by omega) w
  have HO := Lib.hid ho
  have HB0 := Lib.hid hb0
  clear ho hb0
  obtain ⟨G, hG⟩ : ∃ G, w.heap.size = G := ⟨_, rfl⟩
  have HI := Lib.hid hi
  clear hi
  go_enter Try.func32, Try.ntmps32
  go_wp2_with fail
  clear hmk d1 d2 d3 d4
  rw [hG] at HO HB0 ⊢
  have HGG := Lib.hid hG
  clear hG
  go_loopw [10] (fun x wr => ∃ (k : Nat) (L : List Nat), k ≤ n ∧ x = .int .i64 (k : Int) ∧ L.length = n ∧ (∀ j, j < k → L[j]? = some j) ∧ OwnI G wr (.slice (some ⟨G, 0, none⟩) L.length n) L ∧ Below G w wr) (fun x _ => n - (intOf x).toNat)
  case atStart => exact ⟨0, List.replicate n 0, Nat.zero_le _, rfl, by simp, fun j h => by omega, by have := HO.out; simpa using this, HB0.out⟩
  case round =>
    obtain ⟨k, L, hk, rfl, hL, hLj, hO, hB⟩ := hrel
    by_cases hlt : k < n
    · obtain ⟨g, cap, hv, hg1, hg2, hg3, hg4, hcells⟩ := hO.form (by omega)
      obtain ⟨y, cp, fp⟩ : ∃ y : Nat, wr.cell? ⟨g, k, none⟩ = some (.int .i64 (y : Int)) ∧ wr.frozen? ⟨g, k, none⟩ = false := ⟨_, hcells.out k (by omega)⟩
      have hgG : g = G := by cases hv; rfl
      subst hgG
      have HOO := Lib.hid hO
      have HBB := Lib.hid hB
      have HLJ := Lib.hid hLj
      have HLL := Lib.hid hL
      clear hO hB hLj hL hv hcells
      go_wp2_with fail
      go_roundw
      case rel =>
        have h1 := HOO.out.set k k (by rw [HLL.out]; exact hlt)
        refine ⟨k + 1, L.set k k, hlt, by go_num, by rw [List.length_set]; exact HLL.out, fun j hj => ?_, by rw [List.length_set]; exact h1, HBB.out.setCell (by simp) _⟩
        rw [List.getElem?_set]
        split
        · rename_i e; subst e; rw [if_pos (by rw [HLL.out]; exact hlt)]
        · exact HLJ.out j (by omega)
      case measure => simp [intOf]; omega
    · obtain rfl : n = k := by omega
      have hLr : L = List.range n := by
        apply List.ext_getElem?
        intro j
        by_cases hj : j < n
        · rw [hLj j hj, List.getElem?_range hj]
        · rw [List.getElem?_eq_none (by omega), List.getElem?_eq_none (by simp; omega)]
      subst hLr
      have HOO := Lib.hid hO
      have HBB := Lib.hid hB
      clear hO hB hLj hL hlt
      go_wp2_with fail
      go_loopw [1, 11] (fun a x wr2 => ∃ (x' : Int) (L : List Nat) (at' : Nat), x = .int .i64 x' ∧ a = .int .i64 (at' : Int) ∧ -1 ≤ x' ∧ x' < n ∧ L.length = n ∧ at' ≤ 1099511627776 ∧ Hid (permGo key x'.toNat L (at', 0) = r) ∧ OwnI G wr2 (.slice (some ⟨G, 0, none⟩) L.length n) L ∧ Below G w wr2) (fun _ x _ => (intOf x).toNat)
      case atStart => exact ⟨(n : Int) - 1, List.range n, i, rfl, rfl, by omega, by omega, by simp, HI.out, by rw [show ((n : Int) - 1).toNat = n - 1 by omega]; exact HR, HOO.out, HBB.out⟩
      case round =>
        obtain ⟨x', L, at', rfl, rfl, hx1, hx2, hL, hat, HP, hO2, hB2⟩ := hrel
        by_cases hpos : 0 < x'
        · obtain ⟨p, rfl⟩ : ∃ p : Nat, x' = ((p + 1 : Nat) : Int) := ⟨x'.toNat - 1, by omega⟩
          have hx3 : p + 1 < n := by omega
          have HO2 := Lib.hid hO2
          have HB2 := Lib.hid hB2
          have HL := Lib.hid hL
          have HAT := Lib.hid hat
          have HRB := Lib.hid (fun w => rbelow_any key at' (p + 2) hat (by omega) (by omega) w)
          have hstep : permGo key (p + 1) L (at', 0) = permGo key p (swp L (p + 1) (belS key (p + 2) (at', 0)).1) (belS key (p + 2) (at', 0)).2 := by rw [permGo]
          have hstep2 := hstep.symm.trans HP.out
          obtain ⟨BB, hBB⟩ : ∃ BB, bel key (p + 2) (1099511627776 - at') at' = BB := ⟨_, rfl⟩
          rw [hBB] at HRB
          rcases BB with _ | ⟨q, j⟩
          · rw [belS_none hBB] at hstep2
            have hre : r.2 = (1099511627776, 4) := by rw [← hstep2]; exact permGo_err key p _ _ (by decide)
            have HRE := Lib.hid hre
            unfold belV at HRB
            clear hO2 hB2 hL hat hx1 hx2 hpos hstep hstep2 hBB hre
            go_wp2_with fail
            have e : ((p : Int) + 1 + 1) = ((p + 2 : Nat) : Int) := by omega
            rw [e]
            clear e
            refine (HRB.out _).mono ?_
            rintro e w3 ⟨rfl, rfl⟩
            go_wp2_with fail
            go_ret3
            refine ⟨⟨.slice none 0 0, ?_, fun h => by rw [HRE.out] at h; cases h⟩, Or.inr (by rw [HRE.out]), by rw [HGG.out]; exact HB2.out⟩
            rw [HRE.out]; rfl
          · have hbs := bel_some hBB
            have hq := bel_lt (by omega) hBB
            rw [belS_some hBB] at hstep2
            have hj : j ≤ 1099511627776 := by have := hbs.2.1; omega
            have HJ := Lib.hid hj
            have HS2 := Lib.hid hstep2
            unfold belV at HRB
            obtain ⟨g, cap, hv, hg1, hg2, hg3, hg4, hcells⟩ := hO2.form (by omega)
            have hgG : g = G := by cases hv; rfl
            subst hgG
            have hp1 : p + 1 < L.length := by rw [HL.out]; omega
            have hq1 : q < L.length := by rw [HL.out]; omega
            obtain ⟨cp, fp⟩ := hcells.out (p + 1) hp1
            obtain ⟨cq, fq⟩ := hcells.out q hq1
            have hsw : swp L (p + 1) q = (L.set (p + 1) L[q]).set q L[p + 1] := by
              unfold swp; simp only [List.getD_eq_getElem?_getD, List.getElem?_eq_getElem hp1, List.getElem?_eq_getElem hq1, Option.getD_some]
            have HSW := Lib.hid hsw
            obtain ⟨xx, hxx⟩ : ∃ x, L[p + 1] = x := ⟨_, rfl⟩
            obtain ⟨yy, hyy⟩ : ∃ x, L[q] = x := ⟨_, rfl⟩
            rw [hxx] at cp HSW
            rw [hyy] at cq HSW
            have hqn : (q : Int) < n := by omega
            have HP1 := Lib.hid hp1
            have HQ1 := Lib.hid hq1
            clear hxx hyy hsw hv hcells hbs hO2 hB2 hL hat hx1 hx2 hpos hstep hstep2 hBB hj hp1 hq1
            go_wp2_with fail
            have e : ((p : Int) + 1 + 1) = ((p + 2 : Nat) : Int) := by omega
            rw [e]
            clear e
            refine (HRB.out _).mono ?_
            rintro e w3 ⟨rfl, rfl⟩
            have i1 : ((p : Int) + 1).toNat = p + 1 := by omega
            have i2 : (0 : Int) ≤ (p : Int) + 1 := by omega
            have i3 : (p : Int) + 1 < n := by omega
            by_cases hqp : q = p + 1
            · subst hqp
              have HXY : xx = yy := by rw [cp] at cq; simp at cq; omega
              subst HXY
              clear cq fq
              go_wp2_with fail
              have FO := Lib.hid (HO2.out.swap2 (x := xx) (y := xx) HP1.out HQ1.out HSW.out)
              have FB := Lib.hid ((HB2.out.setCell (p := ⟨g, p + 1, none⟩) (Nat.le_refl _) (.int .i64 (xx : Int))).setCell (p := ⟨g, p + 1, none⟩) (Nat.le_refl _) (.int .i64 (xx : Int)))
              have hlen : (swp L (p + 1) (p + 1)).length = n := by rw [swp_length, HL.out]
              go_roundw
              case rel => exact ⟨(p : Int), _, j, rfl, rfl, by omega, by omega, hlen, HJ.out, by rw [show ((p : Nat) : Int).toNat = p by omega]; exact HS2, by rw [hlen]; have := FO.out; rw [HL.out] at this; exact this, FB.out⟩
              case measure => simp [intOf]
            · have hqp2 : p + 1 ≠ q := fun e => hqp e.symm
              go_wp2_with fail
              have FO := Lib.hid (HO2.out.swap2 (x := xx) (y := yy) HP1.out HQ1.out HSW.out)
              have FB := Lib.hid ((HB2.out.setCell (p := ⟨g, p + 1, none⟩) (Nat.le_refl _) (.int .i64 (yy : Int))).setCell (p := ⟨g, q, none⟩) (Nat.le_refl _) (.int .i64 (xx : Int)))
              have hlen : (swp L (p + 1) q).length = n := by rw [swp_length, HL.out]
              go_roundw
              case rel => exact ⟨(p : Int), _, j, rfl, rfl, by omega, by omega, hlen, HJ.out, by rw [show ((p : Nat) : Int).toNat = p by omega]; exact HS2, by rw [hlen]; have := FO.out; rw [HL.out] at this; exact this, FB.out⟩
              case measure => simp [intOf]
        · go_wp2_with fail
          go_ret3
          have e0 : x'.toNat = 0 := by omega
          rw [e0] at HP
          have := HP.out
          rw [permGo] at this
          refine ⟨⟨.slice (some ⟨G, 0, none⟩) n n, ?_, fun _ => ?_⟩, ?_, by rw [HGG.out]; exact hB2⟩
          · rw [← this]; rfl
          · rw [← this, HGG.out]; rw [hL] at hO2; exact hO2
          · rw [← this]; exact Or.inl rfl
end Go.Proofs.Ytodaembemcljnaa
