import Derived.Test.YtollifednpjkeaaTreeK
/-
  Formulas that are right: the walk of shape.
-/
namespace Go.Proofs.Ytollifednpjkeaa
open Go.RowKit

theorem setCells_size (b : Nat) : ∀ (vs : List Value) (o : Nat) (W : World), (W.setCells b o vs).heap.size = W.heap.size
  | [], _, _ => rfl
  | v :: r, o, W => by show ((W.setCell ⟨b, o, none⟩ v).setCells b (o + 1) r).heap.size = _; rw [setCells_size b r]; simp
theorem rows_there1 (w : World) : (w.alloc (.cells Try.zeroCells75 75)).there w.heap.size 0 rowsCells.size := by
  have hz : (Try.zeroCells75).size = 68 := by kernel_rfl
  have h1 := World.alloc_heap_new w (.cells Try.zeroCells75 75)
  obtain ⟨W, hW⟩ : ∃ W, w.alloc (.cells Try.zeroCells75 75) = W := ⟨_, rfl⟩
  rw [hW] at h1 ⊢
  intro j hj
  have hj' : j < 68 := hj
  constructor
  · simp [World.cell?, h1, hz, hj']
  · simp [World.frozen?, h1]
/-- The rows, laid. -/
theorem rows_laid (w : World) : ∃ W, (w.alloc (.cells Try.zeroCells75 75)).setCells w.heap.size 0 rowsCells.toList = W ∧ Below w.heap.size w W ∧ w.heap.size < W.heap.size ∧ ∀ j v, rowsCells[j]? = some v → W.cell? ⟨w.heap.size, j, none⟩ = some v := by
  refine ⟨_, rfl, Below.setCells' _ (Nat.le_refl _) _ _ _ ((Below.refl _ _).alloc (Nat.le_refl _) _), ?_, ?_⟩
  · rw [setCells_size]; simp
  · intro j v hv
    have := World.rangeAt_setCells_same _ w.heap.size 0 rowsCells.toList (rows_there1 w) j v (by simpa using hv)
    rwa [Nat.zero_add] at this

theorem run_eq_nil (w : World) : Sem.run Try.prog (binOp .eql 72 .nilFunc .nilFunc) w = .ok (.bool true) w := by
  first | kernel_rfl | (simp [binOp, go_sem]; done) | (simp [binOp, eqGuard, go_sem, valueEq]; done) | rfl
theorem run_eq_func (kf : FuncId) (w : World) : Sem.run Try.prog (binOp .eql 72 (.func (.func kf) #[] #[]) .nilFunc) w = .ok (.bool false) w := by
  first | kernel_rfl | (simp [binOp, go_sem]; done) | rfl

set_option maxRecDepth 100000 in
set_option maxHeartbeats 4000000 in
theorem shape_step (N : Nat) (ih : ShapeP N) : ShapeP (N + 1) := by
  intro f hf hN sc v w hv
  obtain ⟨x, y, rfl, hx, hy, hz, ho0, ho1⟩ := hv
  have hsh := f.sh_eq sc
  have hwe := f.wt_eq
  obtain ⟨la, has⟩ : ∃ la, f.args = la := ⟨_, rfl⟩
  rw [has] at hx hsh hwe
  clear has
  obtain ⟨ax, cx, rfl, hlx, hmx, hcx⟩ := hx.at
  obtain ⟨ay, cy, rfl, hly, hmy, hcy⟩ := hy.at
  obtain ⟨k, hk⟩ : ∃ k : Nat, f.op = k := ⟨f.op.toNat, by omega⟩
  rw [hk] at ho0 ho1
  have hsc : 0 ≤ scI sc ∧ scI sc ≤ 1 := by cases sc <;> decide
  rw [hk] at hsh
  have HCX := Lib.hid hcx
  have IH := Lib.hid ih
  clear hcx hcy ih
  rw [hk]
  clear hk
  obtain ⟨r, hr⟩ : ∃ r, f.sh sc = r := ⟨_, rfl⟩
  rw [hr] at hsh ⊢
  clear hr
  have hargs : wts la ≤ N := by omega
  have hsub : wfs f.sub ≤ N := by omega
  have hl1 := wts_length la
  have hl2 := wfs_length f.sub
  clear hwe
  have HSH := Lib.hid hsh
  clear hsh
  obtain ⟨wb, hwb⟩ : ∃ wb, (w.alloc (.cells #[.int .u8 (k : Int), .string f.name, .slice ax la.length cx, .slice ay f.sub.length cy] 25)).alloc (.cells #[.int .i64 (scI sc)] 3) = wb := ⟨_, rfl⟩
  have hbb : Below w.heap.size w wb := by rw [← hwb]; exact ((Below.refl _ _).alloc (Nat.le_refl _) _).alloc (by simp) _
  have hc0 : ∀ j, wb.cell? ⟨w.heap.size, j, none⟩ = (#[.int .u8 (k : Int), .string f.name, .slice ax la.length cx, .slice ay f.sub.length cy] : Array Value)[j]? := fun j => by
    rw [← hwb, World.cell?_alloc_past _ _ _ (by simp), World.cell?_alloc_at _ _ _ _ rfl]
  have f0 : wb.cell? ⟨w.heap.size, 0, none⟩ = some (.int .u8 (k : Int)) := hc0 0
  have f1 : wb.cell? ⟨w.heap.size, 1, none⟩ = some (.string f.name) := hc0 1
  have f2 : wb.cell? ⟨w.heap.size, 2, none⟩ = some (.slice ax la.length cx) := hc0 2
  have f3 : wb.cell? ⟨w.heap.size, 3, none⟩ = some (.slice ay f.sub.length cy) := hc0 3
  have f4 : wb.cell? ⟨w.heap.size + 1, 0, none⟩ = some (.int .i64 (scI sc)) := by rw [← hwb, World.cell?_alloc_at _ _ _ _ (by simp)]; rfl
  have hB0 : w.heap.size < wb.heap.size := by rw [← hwb]; simp; omega
  have hB1 : w.heap.size + 1 < wb.heap.size := by rw [← hwb]; simp
  clear hc0
  go_enter Try.func24, Try.ntmps24
  go_upto_region 2 with (first | (go_at_call 47; refine (rows_any _).mono ?_; rintro e w1 ⟨rfl, hb1⟩) | (refine wpList_store_mid rfl 75 _ _ rfl _ 0 rowsCells rfl rfl ?c1 ?c2 ?c3 ?_))
  case c1 => exact rows_there1 _
  case c2 => kernel_rfl
  case c3 => simp [rowsCells, Value.oneCell']
  clear hwb
  obtain ⟨w2, hw2, hb2, hB2, hrow⟩ := rows_laid w1
  rw [hw2]
  clear hw2
  obtain ⟨b1, hb1'⟩ : ∃ b1, w1.heap.size = b1 := ⟨_, rfl⟩
  have hbw : Below wb.heap.size wb w2 := hb1.trans (hb2.mono hb1.size)
  have hbw2 : Below w.heap.size w w2 := hbb.trans (hbw.mono hbb.size)
  rw [hb1'] at hB2 hrow ⊢
  have g0 := (hbw.cell (p := ⟨w.heap.size, 0, none⟩) hB0).trans f0
  have g1 := (hbw.cell (p := ⟨w.heap.size, 1, none⟩) hB0).trans f1
  have g2 := (hbw.cell (p := ⟨w.heap.size, 2, none⟩) hB0).trans f2
  have g3 := (hbw.cell (p := ⟨w.heap.size, 3, none⟩) hB0).trans f3
  have g4 := (hbw.cell (p := ⟨w.heap.size + 1, 0, none⟩) hB1).trans f4
  have hB0' : w.heap.size < w2.heap.size := Nat.lt_of_lt_of_le hB0 hbw.size
  have hB1' : w.heap.size + 1 < w2.heap.size := Nat.lt_of_lt_of_le hB1 hbw.size
  clear hb1 hb2 hb1' f0 f1 f2 f3 f4 hB0 hB1
  have HROW := Lib.hid hrow
  clear hrow
  by_cases h17 : 17 ≤ k
  · have i1 : (17 : Int) ≤ (k : Int) := by omega
    go_wp2_with fail
    go_ret
    exact ⟨ret_bool (by rw [HSH.out]; unfold headOk; rw [decide_eq_false (by omega)]; rfl), hbw2⟩
  · have i1 : ¬ (17 : Int) ≤ (k : Int) := by omega
    have j1 : decide ((17 : Int) ≤ (k : Int)) = false := by simpa using i1
    by_cases h0 : k = 0
    · subst h0
      have r0 := HROW.out 0 .nilFunc rfl
      have e0 := run_eq_nil
      go_wp2_with fail
      go_ret
      exact ⟨ret_bool (by rw [HSH.out]; rfl), hbw2⟩
    · obtain ⟨kf, q0, q1, q2, q3, T⟩ := rows_at k (by omega) (by omega)
      have r0 := HROW.out _ _ q0
      have r1 := HROW.out _ _ q1
      have r2 := HROW.out _ _ q2
      have r3 := HROW.out _ _ q3
      clear q0 q1 q2 q3
      have hrd := rowD_le k
      have e0 := run_eq_func kf
      obtain ⟨ar, har⟩ : ∃ ar, (rowD k).ar = ar := ⟨_, rfl⟩
      obtain ⟨sb, hsb⟩ : ∃ sb, (rowD k).sb = sb := ⟨_, rfl⟩
      obtain ⟨rs, hrs⟩ : ∃ rs, (rowD k).sc = rs := ⟨_, rfl⟩
      have hhead : headOk sc (k : Int) f.name la.length f.sub.length = (decide (rs ≤ scI sc) && ((rowD k).nm f.name && (decide (la.length ≤ ar) && decide (f.sub.length = sb)))) := by
        unfold headOk; rw [Int.toNat_natCast, har, hsb, hrs, decide_eq_true (by omega), Bool.true_and]
      have hsh1 := HSH.out
      rw [hhead] at hsh1
      have HS1 := Lib.hid hsh1
      rw [har] at r1 hrd
      rw [hsb] at r2 hrd
      rw [hrs] at r3 hrd
      have HRS := Lib.hid (And.intro har (And.intro hsb hrs))
      clear hhead hsh1 har hsb hrs HSH
      go_upto_region 5 with fail
      obtain ⟨w3, hw3⟩ : ∃ w3, w2.alloc (.cells #[.func (.func kf) #[] #[], .int .i64 (ar : Int), .int .i64 (sb : Int), .int .i64 rs] 74) = w3 := ⟨_, rfl⟩
      rw [hw3]
      have hb23 : Below w2.heap.size w2 w3 := by rw [← hw3]; exact (Below.refl _ _).alloc (Nat.le_refl _) _
      have s0 : w3.cell? ⟨w2.heap.size, 0, none⟩ = some (.func (.func kf) #[] #[]) := by rw [← hw3, World.cell?_alloc_at _ _ _ _ rfl]; rfl
      have s1 : w3.cell? ⟨w2.heap.size, 1, none⟩ = some (.int .i64 (ar : Int)) := by rw [← hw3, World.cell?_alloc_at _ _ _ _ rfl]; rfl
      have s2 : w3.cell? ⟨w2.heap.size, 2, none⟩ = some (.int .i64 (sb : Int)) := by rw [← hw3, World.cell?_alloc_at _ _ _ _ rfl]; rfl
      have s3 : w3.cell? ⟨w2.heap.size, 3, none⟩ = some (.int .i64 rs) := by rw [← hw3, World.cell?_alloc_at _ _ _ _ rfl]; rfl
      have hB3 : w2.heap.size < w3.heap.size := by rw [← hw3]; simp
      clear hw3 r0 r1 r2 r3 HROW
      have g0 := (hb23.cell (p := ⟨w.heap.size, 0, none⟩) hB0').trans g0
      have g1 := (hb23.cell (p := ⟨w.heap.size, 1, none⟩) hB0').trans g1
      have g2 := (hb23.cell (p := ⟨w.heap.size, 2, none⟩) hB0').trans g2
      have g3 := (hb23.cell (p := ⟨w.heap.size, 3, none⟩) hB0').trans g3
      have g4 := (hb23.cell (p := ⟨w.heap.size + 1, 0, none⟩) hB1').trans g4
      have hB0 : w.heap.size < w3.heap.size := Nat.lt_of_lt_of_le hB0' hb23.size
      have hB1 : w.heap.size + 1 < w3.heap.size := Nat.lt_of_lt_of_le hB1' hb23.size
      have hbw3 := hbw2.trans (hb23.mono hbw2.size)
      obtain ⟨b3, hb3⟩ : ∃ b3, w2.heap.size = b3 := ⟨_, rfl⟩
      rw [hb3] at s0 s1 s2 s3 hB3 ⊢
      clear hb3 hb23 hB0' hB1' hbw2
      have he := T.enter
      by_cases c1 : scI sc < rs
      · go_wp2_with fail
        go_ret
        exact ⟨ret_bool (by rw [HS1.out, decide_eq_false (by omega)]; rfl), hbw3⟩
      · have d1 : decide (scI sc < rs) = false := by simpa using c1
        go_wp2_with fail
        refine (T.calls f.name _).mono ?_
        rintro e w4 ⟨rfl, hb4⟩
        have hbw4 := hbw3.trans (hb4.mono hbw3.size)
        have g0 := (hb4.cell (p := ⟨w.heap.size, 0, none⟩) hB0).trans g0
        have g1 := (hb4.cell (p := ⟨w.heap.size, 1, none⟩) hB0).trans g1
        have g2 := (hb4.cell (p := ⟨w.heap.size, 2, none⟩) hB0).trans g2
        have g3 := (hb4.cell (p := ⟨w.heap.size, 3, none⟩) hB0).trans g3
        have g4 := (hb4.cell (p := ⟨w.heap.size + 1, 0, none⟩) hB1).trans g4
        have s1 := (hb4.cell (p := ⟨b3, 1, none⟩) hB3).trans s1
        have s2 := (hb4.cell (p := ⟨b3, 2, none⟩) hB3).trans s2
        have hB0 : w.heap.size < w4.heap.size := Nat.lt_of_lt_of_le hB0 hb4.size
        have hB1 : w.heap.size + 1 < w4.heap.size := Nat.lt_of_lt_of_le hB1 hb4.size
        have hs1 := HS1.out
        cases hn : (rowD k).nm f.name
        · rw [hn] at hs1
          have HS2 := Lib.hid hs1
          clear hs1 hn
          go_wp2_with fail
          go_ret
          exact ⟨ret_bool (by rw [HS2.out]; simp), hbw4⟩
        · rw [hn, decide_eq_true (by omega), Bool.true_and, Bool.true_and] at hs1
          clear hn
          by_cases c3 : la.length ≤ ar
          · by_cases c4 : f.sub.length = sb
            · rw [decide_eq_true c3, decide_eq_true c4, Bool.true_and, Bool.true_and] at hs1
              have d3 : decide (ar < la.length) = false := by simpa using c3
              have d4 : ((f.sub.length : Int) != (sb : Int)) = false := by simp; omega
              clear c4
              by_cases hk16 : k = 16
              · subst hk16
                obtain rfl : ar = 2 := by have := HRS.out.1; rw [← this]; rfl
                have hs0 : f.sub = [] := by
                  have h := HRS.out.2.1; apply List.eq_nil_of_length_eq_zero; rw [show (rowD 16).sb = 0 from rfl] at h; have hh : ((f.sub.length : Int) != (sb : Int)) = false := d4; simp at hh; omega
                have ha16 : argsOk sc ((16 : Nat) : Int) la = instOk la := rfl
                rw [hs0, ha16] at hs1
                simp only [allSh, Bool.and_true] at hs1
                clear hs0 ha16
                by_cases h2 : la.length = 2
                · obtain ⟨x, y, rfl⟩ : ∃ x y, la = [x, y] := by
                    match la, h2 with
                    | [x, y], _ => exact ⟨x, y, rfl⟩
                  obtain ⟨b, off, rfl, hbl, hc⟩ := HCX.out (Nat.succ_pos _)
                  obtain ⟨vx, x0, x1, x2, hvx, hzx⟩ := hc 0 (Nat.succ_pos _)
                  obtain ⟨vy, y0, y1, y2, hvy, hzy⟩ := hc 1 (Nat.lt_succ_self _)
                  simp only [List.getElem_cons_zero, List.getElem_cons_succ, Nat.zero_mul, Nat.add_zero, Nat.one_mul] at x0 x1 x2 hvx hzx y0 y1 y2 hvy hzy
                  obtain ⟨ap, cp, rfl, _⟩ := hvx.at
                  obtain ⟨aq, cq, rfl, _⟩ := hvy.at
                  have x0 := (hbw4.cell (p := ⟨b, off, none⟩) hbl).trans x0
                  have x1 := (hbw4.cell (p := ⟨b, off + 1, none⟩) hbl).trans x1
                  have x2 := (hbw4.cell (p := ⟨b, off + 2, none⟩) hbl).trans x2
                  have y0 := (hbw4.cell (p := ⟨b, off + 3, none⟩) hbl).trans y0
                  have y1 := (hbw4.cell (p := ⟨b, off + 3 + 1, none⟩) hbl).trans y1
                  have y2 := (hbw4.cell (p := ⟨b, off + 3 + 2, none⟩) hbl).trans y2
                  have hb4' : b < w4.heap.size := Nat.lt_of_lt_of_le hbl hbw4.size
                  simp only [instOk] at hs1
                  simp only [wts] at hargs
                  have hvv : TmVal w4 (.agg #[.bool x.v, .string x.name, .slice ap x.args.length cp]) x := ⟨_, rfl, hvx.up hbw4, hzx⟩
                  have HT := Lib.hid (term_all N x (by omega) (by omega) false _ _ hvv)
                  clear hc HCX hvv hvx hvy hx
                  have HS2 := Lib.hid hs1
                  clear hs1
                  go_wp2_with fail
                  refine HT.out.mono ?_
                  rintro e w5 ⟨rfl, hb5⟩
                  have hbw5 := hbw4.trans (hb5.mono hbw4.size)
                  have g2 := (hb5.cell (p := ⟨w.heap.size, 2, none⟩) hB0).trans g2
                  have x0 := (hb5.cell (p := ⟨b, off, none⟩) hb4').trans x0
                  have y0 := (hb5.cell (p := ⟨b, off + 3, none⟩) hb4').trans y0
                  have y1 := (hb5.cell (p := ⟨b, off + 3 + 1, none⟩) hb4').trans y1
                  have y2 := (hb5.cell (p := ⟨b, off + 3 + 2, none⟩) hb4').trans y2
                  have hb5' : b < w5.heap.size := Nat.lt_of_lt_of_le hb4' hb5.size
                  have hB0 : w.heap.size < w5.heap.size := Nat.lt_of_lt_of_le hB0 hb5.size
                  have hs2 := HS2.out
                  cases hq : x.ok false
                  · rw [hq] at hs2
                    have HS3 := Lib.hid hs2
                    clear hs2 hq
                    go_wp2_with fail
                    go_ret
                    exact ⟨ret_bool (by rw [HS3.out]; rfl), hbw5⟩
                  · rw [hq, Bool.true_and] at hs2
                    clear hq
                    cases hxv : x.v
                    · rw [hxv] at hs2 x0
                      have HS3 := Lib.hid hs2
                      clear hs2 hxv
                      go_wp2_with fail
                      go_ret
                      exact ⟨ret_bool (by rw [HS3.out]; rfl), hbw5⟩
                    · rw [hxv, Bool.true_and] at hs2
                      rw [hxv] at x0
                      clear hxv
                      cases hyv : y.v
                      · rw [hyv] at hs2 y0
                        have HS3 := Lib.hid hs2
                        clear hs2 hyv
                        go_wp2_with fail
                        go_ret
                        exact ⟨ret_bool (by rw [HS3.out]; rfl), hbw5⟩
                      · rw [hyv, Bool.true_and] at hs2
                        rw [hyv] at y0
                        clear hyv
                        have HS3 := Lib.hid hs2
                        clear hs2
                        go_wp2_with fail
                        refine (ofTerms_any _ _).mono ?_
                        rintro e w6 ⟨rfl, hb6⟩
                        have hbw6 := hbw5.trans (hb6.mono hbw5.size)
                        have g2 := (hb6.cell (p := ⟨w.heap.size, 2, none⟩) hB0).trans g2
                        have y2 := (hb6.cell (p := ⟨b, off + 3 + 2, none⟩) hb5').trans y2
                        have hs3 := HS3.out
                        cases hm : isMetaT y.name
                        · rw [hm] at hs3
                          have HS4 := Lib.hid hs3
                          clear hs3 hm
                          go_wp2_with fail
                          go_ret
                          exact ⟨ret_bool (by rw [HS4.out]; rfl), hbw6⟩
                        · rw [hm, Bool.true_and] at hs3
                          clear hm
                          have hs4 : r = decide (y.args.length = 0) := by rw [hs3]; cases y.args <;> simp
                          have HS4 := Lib.hid hs4
                          clear hs3 hs4
                          go_wp2_with fail
                          go_ret
                          exact ⟨ret_bool (by rw [HS4.out, Bool.eq_iff_iff]; simp), hbw6⟩
                · have hs2 : r = false := by
                    rw [hs1]; match la, h2 with
                    | [], _ => rfl
                    | [_], _ => rfl
                    | _ :: _ :: _ :: _, _ => rfl
                  have i2 : ((la.length : Int) == 2) = false := by simp; omega
                  have HS2 := Lib.hid hs2
                  clear hs1 hs2 h2
                  go_wp2_with fail
                  go_ret
                  exact ⟨ret_bool (by rw [HS2.out]), hbw4⟩
              · have i16 : ((k : Int) == 16) = false := by simp; omega
                have hak : argsOk sc (k : Int) la = !(la.any fun t => !t.ok sc) := by unfold argsOk; rw [if_neg (by omega), allOk_any]
                rw [hak, allSh_any] at hs1
                have HS2 := Lib.hid hs1
                clear hs1 hak
                have T1 := shape1_tells N (by omega) sc (w.heap.size + 1)
                have T2 := Lib.hid (shape2_tells N (by omega) IH.out sc (w.heap.size + 1))
                have H1 := Lib.hid (containsTm_any _ _ _ _ N T1 la hargs _ _ g4 (hx.up hbw4))
                clear T1
                go_wp2_with fail
                refine H1.out.mono ?_
                rintro e w5 ⟨rfl, hb5⟩
                have g3 := (hb5.cell (p := ⟨w.heap.size, 3, none⟩) hB0).trans g3
                have g4 := (hb5.cell (p := ⟨w.heap.size + 1, 0, none⟩) hB1).trans g4
                have hbw5 := hbw4.trans (hb5.mono hbw4.size)
                have hs2 := HS2.out
                cases hq : la.any fun t => !t.ok sc
                · rw [hq] at hs2
                  have HS3 := Lib.hid hs2
                  clear hs2 hq
                  have H2 := Lib.hid (containsFm_any _ _ _ _ N T2.out f.sub hsub _ _ g4 (hy.up hbw5))
                  go_wp2_with fail
                  refine H2.out.mono ?_
                  rintro e w6 ⟨rfl, hb6⟩
                  go_wp2_with fail
                  go_ret
                  exact ⟨ret_bool (by rw [HS3.out]; simp), hbw5.trans (hb6.mono hbw5.size)⟩
                · rw [hq] at hs2
                  have HS3 := Lib.hid hs2
                  clear hs2 hq
                  go_wp2_with fail
                  go_ret
                  exact ⟨ret_bool (by rw [HS3.out]; simp), hbw5⟩
            · rw [decide_eq_false c4, Bool.and_false, Bool.false_and] at hs1
              have d3 : decide (ar < la.length) = false := by simpa using c3
              have d4 : ((f.sub.length : Int) != (sb : Int)) = true := by simp; omega
              have HS2 := Lib.hid hs1
              clear hs1 c4
              go_wp2_with fail
              go_ret
              exact ⟨ret_bool (by rw [HS2.out]), hbw4⟩
          · rw [decide_eq_false c3, Bool.false_and, Bool.false_and] at hs1
            have d3 : decide (ar < la.length) = true := by simpa using c3
            have HS2 := Lib.hid hs1
            clear hs1 c3
            go_wp2_with fail
            go_ret
            exact ⟨ret_bool (by rw [HS2.out]), hbw4⟩
theorem shape_all : ∀ N, ShapeP N := by
  intro N
  induction N with
  | zero => intro t ht; have := t.wt_pos; omega
  | succ N ih => exact shape_step N ih

/-- A right schema. -/
def okB (f : Fm) : Bool := fitsB f && f.sh true
theorem schema_any (f : Fm) (hf : f.wt ≤ 10000000) (v : Value) (w : World) (hv : FmVal w v f) :
    Calls Try.prog 8 #[v] w fun e w' => e = .returned (.bool (okB f)) ∧ Below w.heap.size w w' := by
  have hv' := hv
  obtain ⟨x, y, rfl, hx, hy, hz⟩ := hv
  obtain ⟨ax, cx, rfl, _⟩ := hx.at
  obtain ⟨ay, cy, rfl, _⟩ := hy.at
  obtain ⟨wb, hwb⟩ : ∃ wb, w.alloc (.cells #[.int .u8 f.op, .string f.name, .slice ax f.args.length cx, .slice ay f.sub.length cy] 25) = wb := ⟨_, rfl⟩
  have hbb : Below w.heap.size w wb := by rw [← hwb]; exact (Below.refl _ _).alloc (Nat.le_refl _) _
  have f0 : wb.cell? ⟨w.heap.size, 0, none⟩ = some (.int .u8 f.op) := by rw [← hwb, World.cell?_alloc_at _ _ _ _ rfl]; rfl
  have f1 : wb.cell? ⟨w.heap.size, 1, none⟩ = some (.string f.name) := by rw [← hwb, World.cell?_alloc_at _ _ _ _ rfl]; rfl
  have f2 : wb.cell? ⟨w.heap.size, 2, none⟩ = some (.slice ax f.args.length cx) := by rw [← hwb, World.cell?_alloc_at _ _ _ _ rfl]; rfl
  have f3 : wb.cell? ⟨w.heap.size, 3, none⟩ = some (.slice ay f.sub.length cy) := by rw [← hwb, World.cell?_alloc_at _ _ _ _ rfl]; rfl
  have hBl : w.heap.size < wb.heap.size := by rw [← hwb]; simp
  have hvb := hv'.up hbb
  have HN := Lib.hid (fits_any f hf _ wb hvb)
  obtain ⟨r, hr⟩ : ∃ r, okB f = r := ⟨_, rfl⟩
  rw [hr]
  have HR := Lib.hid hr
  clear hr hv'
  go_enter Try.func8, Try.ntmps8
  go_wp2_with fail
  refine HN.out.mono ?_
  rintro e w1 ⟨rfl, hb1⟩
  have g0 := (hb1.cell (p := ⟨w.heap.size, 0, none⟩) hBl).trans f0
  have g1 := (hb1.cell (p := ⟨w.heap.size, 1, none⟩) hBl).trans f1
  have g2 := (hb1.cell (p := ⟨w.heap.size, 2, none⟩) hBl).trans f2
  have g3 := (hb1.cell (p := ⟨w.heap.size, 3, none⟩) hBl).trans f3
  have hv1 := hvb.up hb1
  have hbw1 : Below w.heap.size w w1 := hbb.trans (hb1.mono hbb.size)
  clear f0 f1 f2 f3 hwb
  have hr := HR.out
  unfold okB at hr
  cases hF : fitsB f
  · rw [hF] at hr
    have HR2 := Lib.hid hr
    clear hr hF
    go_wp2_with fail
    go_ret
    exact ⟨ret_bool (by rw [← HR2.out]; rfl), hbw1⟩
  · rw [hF, Bool.true_and] at hr
    have HR2 := Lib.hid hr
    have HS := Lib.hid (shape_all f.wt f (Nat.le_refl _) hf true _ w1 hv1)
    clear hr hF
    go_wp2_with fail
    refine HS.out.mono ?_
    rintro e w2 ⟨rfl, hb2⟩
    go_wp2_with fail
    go_ret
    exact ⟨ret_bool (by rw [← HR2.out]), hbw1.trans (hb2.mono hbw1.size)⟩

end Go.Proofs.Ytollifednpjkeaa
