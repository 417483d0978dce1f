import Derived.Test.YtollifednpjkeaaTextE
/-
  The texts of formulas: the walk of text.
-/
namespace Go.Proofs.Ytollifednpjkeaa
open Go.RowKit

/-- The sign of an operator, in a box. -/
def SignBox (k : Nat) (B : World) (v : Value) (W : World) : Prop := ∃ b, v = .pointer (some ⟨b, 0, none⟩) ∧ b < W.heap.size ∧ W.cell? ⟨b, 0, none⟩ = some (.string (sgT k)) ∧ W.cell? ⟨b, 1, none⟩ = some (.int .i64 (sgS k)) ∧ W.cell? ⟨b, 2, none⟩ = some (.bool (sgR k)) ∧ Below B.heap.size B W

theorem sg_drew {B : World} {p : Nat} {v : Value} (h : B.cell? ⟨p, 0, none⟩ = some v) : B.drew.cell? ⟨p, 0, none⟩ = some v ∧ Below B.heap.size B B.drew :=
  ⟨by simpa using h, (Below.refl _ _).drew⟩
theorem sg_call {B W W' : World} {p : Nat} {v : Value} (h : W.cell? ⟨p, 0, none⟩ = some v ∧ Below B.heap.size B W) (hb : Below W.heap.size W W') : W'.cell? ⟨p, 0, none⟩ = some v ∧ Below B.heap.size B W' :=
  ⟨(hb.cell (p := ⟨p, 0, none⟩) (World.block_lt_of_cell? W _ h.1)).trans h.1, h.2.trans (hb.mono h.2.size)⟩
theorem sg_alloc {B W : World} {p : Nat} {v : Value} (h : W.cell? ⟨p, 0, none⟩ = some v ∧ Below B.heap.size B W) (o : Obj) : (W.alloc o).cell? ⟨p, 0, none⟩ = some v ∧ Below B.heap.size B (W.alloc o) :=
  sg_call h ((Below.refl _ _).alloc (Nat.le_refl _) _)

theorem sg_set {B W : World} {p : Nat} {v : Value} (h : W.cell? ⟨p, 0, none⟩ = some v ∧ Below B.heap.size B W) (hp : p < B.heap.size) (n o : Nat) (x : Value) (hn : B.heap.size ≤ n) : (W.setCell ⟨n, o, none⟩ x).cell? ⟨p, 0, none⟩ = some v ∧ Below B.heap.size B (W.setCell ⟨n, o, none⟩ x) :=
  ⟨by rw [World.cell?_setCell_other _ _ _ _ (by intro e; cases e; omega)]; exact h.1, h.2.setCell hn x⟩
theorem bcell {W w1 : World} (hb : Below W.heap.size W w1) : (∀ b o, b < W.heap.size → w1.cell? ⟨b, o, none⟩ = W.cell? ⟨b, o, none⟩) ∧ (∀ b o, b < W.heap.size → w1.frozen? ⟨b, o, none⟩ = W.frozen? ⟨b, o, none⟩) :=
  ⟨fun b o h => hb.cell (p := ⟨b, o, none⟩) h, fun b o h => hb.frozen (p := ⟨b, o, none⟩) h⟩

theorem sgbox_alloc (k : Nat) {B W : World} (h : Below B.heap.size B W) : SignBox k B (.pointer (some ⟨W.heap.size, 0, none⟩)) (W.alloc (.cells #[.string (sgT k), .int .i64 (sgS k), .bool (sgR k)] 81)) :=
  ⟨_, rfl, by simp, by rw [World.cell?_alloc_at _ _ _ _ rfl]; rfl, by rw [World.cell?_alloc_at _ _ _ _ rfl]; rfl, by rw [World.cell?_alloc_at _ _ _ _ rfl]; rfl, h.alloc h.size _⟩
theorem sgbox_set (k : Nat) {B W w1 : World} (hz : B.heap.size ≤ W.heap.size) (n : Nat) (hn : n = W.heap.size) (h : Below B.heap.size B W) (hb : Below (W.heap.size + 1) (W.alloc (.cells #[.string ⟨#[]⟩, .int .i64 0, .bool false] 81)) w1) :
    SignBox k B (.pointer (some ⟨n, 0, none⟩)) (((w1.setCell ⟨n, 0, none⟩ (.string (sgT k))).setCell ⟨n, 1, none⟩ (.int .i64 (sgS k))).setCell ⟨n, 2, none⟩ (.bool (sgR k))) := by
  subst hn
  have c : ∀ j, w1.cell? ⟨W.heap.size, j, none⟩ = (#[.string ⟨#[]⟩, .int .i64 0, .bool false] : Array Value)[j]? := fun j =>
    (hb.cell (p := ⟨W.heap.size, j, none⟩) (by show W.heap.size < _; omega)).trans (World.cell?_alloc_at _ _ _ _ rfl)
  have c0 : w1.cell? ⟨W.heap.size, 0, none⟩ = some (.string ⟨#[]⟩) := c 0
  have c1 : w1.cell? ⟨W.heap.size, 1, none⟩ = some (.int .i64 0) := c 1
  have c2 : w1.cell? ⟨W.heap.size, 2, none⟩ = some (.bool false) := c 2
  have hsz := hb.size
  simp only [World.size_alloc] at hsz
  have hbw : Below B.heap.size B w1 := (h.alloc hz _).trans (hb.mono (by omega))
  have ne : ∀ (i j : Nat), i ≠ j → (⟨W.heap.size, i, none⟩ : Addr) ≠ ⟨W.heap.size, j, none⟩ := fun i j hij e => hij (by cases e; rfl)
  have d1 : (w1.setCell ⟨W.heap.size, 0, none⟩ (.string (sgT k))).cell? ⟨W.heap.size, 1, none⟩ = some (.int .i64 0) := by rw [World.cell?_setCell_other _ _ _ _ (ne 0 1 (by decide))]; exact c1
  have d2 : ((w1.setCell ⟨W.heap.size, 0, none⟩ (.string (sgT k))).setCell ⟨W.heap.size, 1, none⟩ (.int .i64 (sgS k))).cell? ⟨W.heap.size, 2, none⟩ = some (.bool false) := by
    rw [World.cell?_setCell_other _ _ _ _ (ne 1 2 (by decide)), World.cell?_setCell_other _ _ _ _ (ne 0 2 (by decide))]; exact c2
  refine ⟨_, rfl, by simp; omega, ?_, ?_, ?_, ((hbw.setCell hz _).setCell hz _).setCell hz _⟩
  · rw [World.cell?_setCell_other _ _ _ _ (ne 2 0 (by decide)), World.cell?_setCell_other _ _ _ _ (ne 1 0 (by decide))]; exact World.cell?_setCell_same _ _ _ c0
  · rw [World.cell?_setCell_other _ _ _ _ (ne 2 1 (by decide))]; exact World.cell?_setCell_same _ _ _ d1
  · exact World.cell?_setCell_same _ _ _ d2

set_option maxRecDepth 100000 in
theorem run_sign (k : Nat) (h : k ≤ 14) (W : World) : Sem.run Try.prog (Instr.index 82 (.agg signCells) (.int .u8 (k : Int))) W = .ok (.agg #[.string (sgT k), .int .i64 (sgS k), .bool (sgR k)]) W := by
  obtain rfl | rfl | rfl | rfl | rfl | rfl | rfl | rfl | rfl | rfl | rfl | rfl | rfl | rfl | rfl : k = 0 ∨ k = 1 ∨ k = 2 ∨ k = 3 ∨ k = 4 ∨ k = 5 ∨ k = 6 ∨ k = 7 ∨ k = 8 ∨ k = 9 ∨ k = 10 ∨ k = 11 ∨ k = 12 ∨ k = 13 ∨ k = 14 := by omega
  all_goals first | kernel_rfl | rfl

set_option maxRecDepth 100000 in
set_option maxHeartbeats 8000000 in
theorem text_step (N : Nat) (ih : TextP N) : TextP (N + 1) := by
  intro f hf hN hsh full v w hv
  obtain ⟨x, y, rfl, hx, hy, hz, ho0, ho1⟩ := hv
  have hwe := f.wt_eq
  have hte := f.tx_eq full
  have hp := sh_parts hsh
  have hle := f.tx_le full
  obtain ⟨psub, p14, p3, p16, p2, p1⟩ := hp
  have hvv : FmVal w (.agg #[.int .u8 f.op, .string f.name, x, y]) f := ⟨x, y, rfl, hx, hy, hz, ho0, ho1⟩
  obtain ⟨ls, hls⟩ : ∃ ls, f.sub = ls := ⟨_, rfl⟩
  rw [hls] at hy hwe hte psub p14 p3 p2
  obtain ⟨ax, cx, rfl, -⟩ := hx.at
  obtain ⟨ay, cy, rfl, hly, hmy, hcy⟩ := hy.at
  obtain ⟨k, hk⟩ : ∃ k : Nat, f.op = k := ⟨f.op.toNat, by omega⟩
  obtain ⟨T, hT⟩ : ∃ T, f.tx full = T := ⟨_, rfl⟩
  rw [hT] at hle hte ⊢
  rw [hk] at ho0 ho1 hte p14 p3 p1 hvv ⊢
  have B := Lib.hid (bracket_of N ih)
  have HCY := Lib.hid hcy
  have HTE := Lib.hid hte
  clear hcy hte hT ih hsh hx
  obtain ⟨wb, hwb⟩ : ∃ wb, (w.alloc (.cells #[.int .u8 (k : Int), .string f.name, .slice ax f.args.length cx, .slice ay ls.length cy] 25)).alloc (.cells #[.bool full] 4) = wb := ⟨_, rfl⟩
  have hbb : Below w.heap.size w wb := by rw [← hwb]; exact ((Below.refl _ _).alloc (Nat.le_refl _) _).alloc (by simp) _
  have hc0 : ∀ j, wb.cell? ⟨w.heap.size, j, none⟩ = (#[.int .u8 (k : Int), .string f.name, .slice ax f.args.length cx, .slice ay ls.length cy] : Array Value)[j]? := fun j => by
    rw [← hwb, World.cell?_alloc_past _ _ _ (by simp), World.cell?_alloc_at _ _ _ _ rfl]
  have f0 : wb.cell? ⟨w.heap.size, 0, none⟩ = some (.int .u8 (k : Int)) := hc0 0
  have f1 : wb.cell? ⟨w.heap.size, 1, none⟩ = some (.string f.name) := hc0 1
  have f2 : wb.cell? ⟨w.heap.size, 2, none⟩ = some (.slice ax f.args.length cx) := hc0 2
  have f3 : wb.cell? ⟨w.heap.size, 3, none⟩ = some (.slice ay ls.length cy) := hc0 3
  have f4 : wb.cell? ⟨w.heap.size + 1, 0, none⟩ = some (.bool full) := by rw [← hwb, World.cell?_alloc_at _ _ _ _ (by simp)]; rfl
  have hB0 : w.heap.size < wb.heap.size := by rw [← hwb]; simp; omega
  have hB1 : w.heap.size + 1 < wb.heap.size := by rw [← hwb]; simp
  have hvb := hvv.up hbb
  clear hc0 hvv
  by_cases h0 : ls.length = 0
  · have hnil : ls = [] := List.eq_nil_of_length_eq_zero h0
    have h16 : f.op = 16 → 2 ≤ f.args.length := p16
    have HS := Lib.hid (simple_any f (by omega) h16 ⟨#[44, 32]⟩ (Nat.le_refl _) _ _ hvb)
    have HTE2 := Lib.hid (show T = simpleTx ⟨#[44, 32]⟩ f.op f.name f.args by rw [HTE.out, hk, hnil]; rfl)
    rw [h0] at hwb f3 HS ⊢
    clear HTE hk h16 p16 h0 hnil hvb
    go_enter Try.func27, Try.ntmps27
    go_wp2_with fail
    refine HS.out.mono ?_
    rintro e w1 ⟨rfl, hb1⟩
    go_wp2_with fail
    go_ret
    exact ⟨ret_str HTE2.out.symm, hbb.trans (hb1.mono hbb.size)⟩
  · have hk14 : k ≤ 14 := by
      rcases p14 with h | h
      · exact absurd (by rw [h]; rfl) h0
      · omega
    have i0 : ((ls.length : Int) == 0) = false := by rw [beq_eq_false_iff_ne]; omega
    clear p14 p3 p16 hk
    have hsg := sg_le k
    have hidx := run_sign k hk14
    go_enter Try.func27, Try.ntmps27
    go_upto_region 4 with fail
    clear hwb
    go_cut [6] (fun v wx => SignBox k wb v wx)
    case first =>
      go_region_held3 (fun w' => w'.cell? ⟨w.heap.size, 0, none⟩ = some (.int .u8 (k : Int)) ∧ Below wb.heap.size wb w') (first | exact sg_drew f0 | exact sg_call (by assumption) (by assumption) | exact sg_alloc (by assumption) _ | exact sg_alloc (sg_call (sg_drew f0) (by assumption)) _ | exact sg_set (sg_set (sg_set (by assumption) hB0 _ _ _ (Nat.le_refl _)) hB0 _ _ _ (Nat.le_refl _)) hB0 _ _ _ (Nat.le_refl _) | go_keep) ((go_at_call 56; refine (signs_any _).mono ?_; rintro e w1 ⟨rfl, hb1⟩; obtain ⟨hc1, hf1⟩ := bcell hb1))
      · go_wp2_with fail
        go_meet
        case rel => exact sgbox_alloc k (((Below.refl _ _).drew).trans (hb1.mono (by simp)))
      · go_wp2_with fail
        go_meet
        case rel => exact sgbox_alloc k (((Below.refl _ _).drew).trans (hb1.mono (by simp)))
      · go_wp2_with fail
        go_meet
        case rel => exact sgbox_set k (Nat.le_refl _) _ rfl (Below.refl _ _) (((Below.refl _ _).drew).trans (show Below (wb.heap.size + 1) (wb.alloc (.cells #[.string ⟨#[]⟩, .int .i64 0, .bool false] 81)).drew w1 by simpa using hb1))
    case rest =>
      obtain ⟨b6, rfl, hl6, q0, q1, q2, hbc⟩ := hcut
      replace f0 := (hbc.cell (p := ⟨w.heap.size, 0, none⟩) hB0).trans f0
      replace f1 := (hbc.cell (p := ⟨w.heap.size, 1, none⟩) hB0).trans f1
      replace f3 := (hbc.cell (p := ⟨w.heap.size, 3, none⟩) hB0).trans f3
      replace f4 := (hbc.cell (p := ⟨w.heap.size + 1, 0, none⟩) hB1).trans f4
      replace hB0 : w.heap.size < wc.heap.size := Nat.lt_of_lt_of_le hB0 hbc.size
      replace hB1 : w.heap.size + 1 < wc.heap.size := Nat.lt_of_lt_of_le hB1 hbc.size
      have hbw := hbb.trans (hbc.mono hbb.size)
      clear hbc hvb hls
      obtain ⟨b, off, rfl, hbl, hc⟩ := HCY.out (by omega)
      obtain ⟨g, r, rfl⟩ : ∃ g r, ls = g :: r := by
        match ls, h0 with
        | g :: r, _ => exact ⟨g, r, rfl⟩
      obtain ⟨vx, vy, x0, x1, x2, x3, hvx, hvy, hzx⟩ := hc 0 (Nat.succ_pos _)
      simp only [List.getElem_cons_zero, Nat.zero_mul, Nat.add_zero] at x0 x1 x2 x3 hvx hvy hzx
      obtain ⟨ap, cp, rfl, -⟩ := hvx.at
      obtain ⟨aq, cq, rfl, -⟩ := hvy.at
      have hbl' : b < wc.heap.size := Nat.lt_of_lt_of_le hbl hbw.size
      replace x0 : ∀ p : Later wc, p.w'.cell? ⟨b, off, none⟩ = _ := fun p => p.cell ((hbw.cell (p := ⟨b, off, none⟩) hbl).trans x0) hbl'
      replace x1 : ∀ p : Later wc, p.w'.cell? ⟨b, off + 1, none⟩ = _ := fun p => p.cell ((hbw.cell (p := ⟨b, off + 1, none⟩) hbl).trans x1) hbl'
      replace x2 : ∀ p : Later wc, p.w'.cell? ⟨b, off + 2, none⟩ = _ := fun p => p.cell ((hbw.cell (p := ⟨b, off + 2, none⟩) hbl).trans x2) hbl'
      replace x3 : ∀ p : Later wc, p.w'.cell? ⟨b, off + 3, none⟩ = _ := fun p => p.cell ((hbw.cell (p := ⟨b, off + 3, none⟩) hbl).trans x3) hbl'
      have e3 : ∀ p : Later wc, p.w'.cell? ⟨w.heap.size, 3, none⟩ = _ := fun p => p.cell f3 hB0
      have hvg : FmVal wc (.agg #[.int .u8 g.op, .string g.name, .slice ap g.args.length cp, .slice aq g.sub.length cq]) g := ⟨_, _, rfl, hvx.up hbw, hvy.up hbw, hzx⟩
      have hgs := psub g (List.mem_cons_self ..)
      have hgp := Lib.hid (sh_parts hgs).op14
      have hgw : g.wt ≤ N := by simp only [wfs] at hwe; omega
      have hgl := g.tx_le full
      have hnl : f.name.size ≤ 10000000 := by omega
      obtain ⟨tg, htg⟩ : ∃ tg, g.tx full = tg := ⟨_, rfl⟩
      obtain ⟨sg, hst⟩ : ∃ sg, g.str = sg := ⟨_, rfl⟩
      rw [htg] at hgl
      have HG := Lib.hid (And.intro htg hst)
      have HGS := Lib.hid hgs
      clear htg hst hgs HCY hvx hvy hy
      by_cases h1 : r.length = 0
      · obtain rfl : r = [] := List.eq_nil_of_length_eq_zero h1
        have HTE2 := Lib.hid (show T = aheadTx k f.name ++ brTx full (decide (sg < 6)) (tg, sg) by rw [HTE.out]; simp only [fTxs, nodeTx, HG.out.1, HG.out.2, Int.toNat_natCast])
        obtain ⟨R, hR⟩ : ∃ R, brTx full (decide (sg < 6)) (tg, sg) = R := ⟨_, rfl⟩
        have hRl := brTx_le full (decide (sg < 6)) (tg, sg)
        rw [hR] at hRl
        have hRl : R.size ≤ 200000002 := by simp only at hRl; omega
        have HR := Lib.hid hR
        clear hR h1 hc psub HTE
        simp only [List.length_singleton] at f3 e3 hly h0 p2
        cases hem : isEmp f.name
        · have hem1 : f.name.toList.isEmpty = false := hem
          have HA := Lib.hid (show aheadTx k f.name = sgT k ++ (f.name ++ ⟨#[32]⟩) by unfold aheadTx; rw [hem]; rfl)
          clear hem
          have hAl := aheadTx_le k f.name
          rw [HA.out] at hAl
          obtain ⟨A, hA⟩ : ∃ A, sgT k ++ (f.name ++ ⟨#[32]⟩) = A := ⟨_, rfl⟩
          have HA2 := Lib.hid (HA.out.trans hA)
          rw [hA] at hAl
          go_upto_region 9 with fail
          clear hA
          refine wp_region_later (by kernel_rfl) (by kernel_rfl) ?_
          repeat (go_big_quiet_step ((first | (go_at_call 54; exact Calls.later_of ((strength_any g hgp.out _ _ (hvg.up (Later.h _))).mono (fun _ _ h => ⟨by rw [h.1, HG.out.2], h.2⟩))) | (go_at_call 53; exact Calls.later_of ((B.out g hgw (by omega) HGS.out full (decide (sg < 6)) _ _ _ (hvg.up (Later.h _)) (Later.cell _ f4 hB1)).mono (fun _ _ h => ⟨by rw [h.1, HG.out.1, HG.out.2, HR.out], h.2⟩))))))
          (refine wpQuiet_nil ?_; rintro wq ⟨⟨_, hq⟩, rfl⟩; try dsimp only)
          go_wp2_with fail
          go_ret
          exact ⟨ret_str (by rw [HTE2.out, HA2.out, HR.out]), hbw.trans (hq.mono hbw.size)⟩
        · have hem1 : f.name.toList.isEmpty = true := hem
          have HA2 := Lib.hid (show aheadTx k f.name = sgT k by unfold aheadTx; rw [hem]; rfl)
          clear hem
          go_upto_region 9 with fail
          refine wp_region_later (by kernel_rfl) (by kernel_rfl) ?_
          repeat (go_big_quiet_step (((first | (go_at_call 54; exact Calls.later_of ((strength_any g hgp.out _ _ (hvg.up (Later.h _))).mono (fun _ _ h => ⟨by rw [h.1, HG.out.2], h.2⟩))) | (go_at_call 53; exact Calls.later_of ((B.out g hgw (by omega) HGS.out full (decide (sg < 6)) _ _ _ (hvg.up (Later.h _)) (Later.cell _ f4 hB1)).mono (fun _ _ h => ⟨by rw [h.1, HG.out.1, HG.out.2, HR.out], h.2⟩)))))))
          (refine wpQuiet_nil ?_; rintro wq ⟨⟨_, hq⟩, rfl⟩; try dsimp only)
          go_wp2_with fail
          go_ret
          exact ⟨ret_str (by rw [HTE2.out, HA2.out, HR.out]), hbw.trans (hq.mono hbw.size)⟩
      · obtain ⟨h, r', rfl⟩ : ∃ h r', r = h :: r' := by
          match r, h1 with
          | h :: r', _ => exact ⟨h, r', rfl⟩
        obtain rfl : r' = [] := List.eq_nil_of_length_eq_zero (by simp only [List.length_cons] at p2; omega)
        obtain ⟨ux, uy, y0, y1, y2, y3, hux, huy, hzy⟩ := hc 1 (by simp)
        simp only [List.getElem_cons_zero, List.getElem_cons_succ, Nat.one_mul] at y0 y1 y2 y3 hux huy hzy
        obtain ⟨ag, cs, rfl, -⟩ := hux.at
        obtain ⟨ah, ct, rfl, -⟩ := huy.at
        replace y0 : ∀ p : Later wc, p.w'.cell? ⟨b, off + 4, none⟩ = _ := fun p => p.cell ((hbw.cell (p := ⟨b, off + 4, none⟩) hbl).trans y0) hbl'
        replace y1 : ∀ p : Later wc, p.w'.cell? ⟨b, off + 4 + 1, none⟩ = _ := fun p => p.cell ((hbw.cell (p := ⟨b, off + 4 + 1, none⟩) hbl).trans y1) hbl'
        replace y2 : ∀ p : Later wc, p.w'.cell? ⟨b, off + 4 + 2, none⟩ = _ := fun p => p.cell ((hbw.cell (p := ⟨b, off + 4 + 2, none⟩) hbl).trans y2) hbl'
        replace y3 : ∀ p : Later wc, p.w'.cell? ⟨b, off + 4 + 3, none⟩ = _ := fun p => p.cell ((hbw.cell (p := ⟨b, off + 4 + 3, none⟩) hbl).trans y3) hbl'
        have hvh : FmVal wc (.agg #[.int .u8 h.op, .string h.name, .slice ag h.args.length cs, .slice ah h.sub.length ct]) h := ⟨_, _, rfl, hux.up hbw, huy.up hbw, hzy⟩
        have hhs := psub h (by simp)
        have hhp := Lib.hid (sh_parts hhs).op14
        have hhw : h.wt ≤ N := by simp only [wfs] at hwe; omega
        have hhl := h.tx_le full
        obtain ⟨th, hth⟩ : ∃ th, h.tx full = th := ⟨_, rfl⟩
        obtain ⟨sh, hst⟩ : ∃ sh, h.str = sh := ⟨_, rfl⟩
        rw [hth] at hhl
        have HH := Lib.hid (And.intro hth hst)
        have HHS := Lib.hid hhs
        have HTE2 := Lib.hid (show T = brTx full (needL k sg) (tg, sg) ++ ⟨#[32]⟩ ++ sgT k ++ ⟨#[32]⟩ ++ brTx full (needR k sh) (th, sh) by
          rw [HTE.out]; simp only [fTxs, nodeTx, HG.out.1, HG.out.2, HH.out.1, HH.out.2, Int.toNat_natCast])
        clear hth hst hhs hux huy hc psub HTE
        simp only [List.length_cons, List.length_nil] at f3 e3 hly h0 h1 p2
        have CG := Lib.hid (fun p : Later wc => (strength_any g hgp.out _ _ (hvg.up p.h)).mono (fun e W' h => show e = .returned (.int .i64 sg) ∧ Below p.w'.heap.size p.w' W' from ⟨by rw [h.1, HG.out.2], h.2⟩))
        have CH := Lib.hid (fun p : Later wc => (strength_any h hhp.out _ _ (hvh.up p.h)).mono (fun e W' h => show e = .returned (.int .i64 sh) ∧ Below p.w'.heap.size p.w' W' from ⟨by rw [h.1, HH.out.2], h.2⟩))
        go_upto_region 10 with fail
        refine wp_region_later (by kernel_rfl) (by kernel_rfl) ?_
        repeat (go_big_quiet_step ((first | (with_reducible exact Calls.later_of (CG.out _)) | (with_reducible exact Calls.later_of (CH.out _)))))
        (refine wpQuiet_nil ?_; rintro wq ⟨⟨_, hq⟩, rfl⟩; try dsimp only)
        have L : ∀ p : Later wq, Below wc.heap.size wc p.w' := fun p => hq.trans (p.h.mono hq.size)
        replace x0 := fun p : Later wq => x0 ⟨p.w', L p⟩
        replace x1 := fun p : Later wq => x1 ⟨p.w', L p⟩
        replace x2 := fun p : Later wq => x2 ⟨p.w', L p⟩
        replace x3 := fun p : Later wq => x3 ⟨p.w', L p⟩
        replace y0 := fun p : Later wq => y0 ⟨p.w', L p⟩
        replace y1 := fun p : Later wq => y1 ⟨p.w', L p⟩
        replace y2 := fun p : Later wq => y2 ⟨p.w', L p⟩
        replace y3 := fun p : Later wq => y3 ⟨p.w', L p⟩
        replace e3 := fun p : Later wq => e3 ⟨p.w', L p⟩
        replace q0 : ∀ p : Later wq, p.w'.cell? ⟨b6, 0, none⟩ = some (.string (sgT k)) := fun p => ((L p).cell (p := ⟨b6, 0, none⟩) hl6).trans q0
        replace q1 : ∀ p : Later wq, p.w'.cell? ⟨b6, 1, none⟩ = some (.int .i64 (sgS k)) := fun p => ((L p).cell (p := ⟨b6, 1, none⟩) hl6).trans q1
        replace q2 : ∀ p : Later wq, p.w'.cell? ⟨b6, 2, none⟩ = some (.bool (sgR k)) := fun p => ((L p).cell (p := ⟨b6, 2, none⟩) hl6).trans q2
        dsimp only at x0 x1 x2 x3 y0 y1 y2 y3 e3
        replace f4 := (hq.cell (p := ⟨w.heap.size + 1, 0, none⟩) hB1).trans f4
        replace hB1 : w.heap.size + 1 < wq.heap.size := Nat.lt_of_lt_of_le hB1 hq.size
        replace hvg := hvg.up hq
        replace hvh := hvh.up hq
        have hbwq := hbw.trans (hq.mono hbw.size)
        have hNL : needL k sg = (decide (sg < sgS k) || (sg == sgS k && sgR k)) := rfl
        have hNR : needR k sh = (decide (sh < sgS k) || (sh == sgS k && !sgR k)) := rfl
        obtain ⟨tk, htk⟩ : ∃ tk, sgT k = tk := ⟨_, rfl⟩
        obtain ⟨sk, hsk⟩ : ∃ sk, sgS k = sk := ⟨_, rfl⟩
        obtain ⟨rk, hrk⟩ : ∃ rk, sgR k = rk := ⟨_, rfl⟩
        have hsg7 : tk.size ≤ 7 := by rw [← htk]; exact hsg.1
        simp only [hsk, hrk] at hNL hNR q1 q2
        simp only [htk] at q0
        have HNL := Lib.hid hNL
        have HNR := Lib.hid hNR
        have HTK := Lib.hid htk
        clear L hq hNL hNR htk hsk hrk hsg
        obtain ⟨nl, hnl⟩ : ∃ nl, needL k sg = nl := ⟨_, rfl⟩
        obtain ⟨nr, hnr⟩ : ∃ nr, needR k sh = nr := ⟨_, rfl⟩
        obtain ⟨R1, hR1⟩ : ∃ R1, brTx full nl (tg, sg) = R1 := ⟨_, rfl⟩
        obtain ⟨R2, hR2⟩ : ∃ R2, brTx full nr (th, sh) = R2 := ⟨_, rfl⟩
        have hRl1 : R1.size ≤ 200000002 := by have := brTx_le full nl (tg, sg); rw [hR1] at this; simp only at this; omega
        have hRl2 : R2.size ≤ 200000002 := by have := brTx_le full nr (th, sh); rw [hR2] at this; simp only at this; omega
        have HTE3 := Lib.hid (show T = R1 ++ ⟨#[32]⟩ ++ tk ++ ⟨#[32]⟩ ++ R2 by rw [HTE2.out, hnl, hnr, hR1, hR2, HTK.out])
        have HNL2 := Lib.hid (hnl.symm.trans HNL.out)
        have HNR2 := Lib.hid (hnr.symm.trans HNR.out)
        have HR1 := Lib.hid hR1
        have HR2 := Lib.hid hR2
        clear HTE2 HNL HNR hnl hnr hR1 hR2 CG CH
        have CG := Lib.hid (fun p : Later wq => (B.out g hgw (by omega) HGS.out full nl _ _ _ (hvg.up p.h) (Later.cell p f4 hB1)).mono (fun e W' h => show e = .returned (.string R1) ∧ Below p.w'.heap.size p.w' W' from ⟨by rw [h.1, HG.out.1, HG.out.2, HR1.out], h.2⟩))
        have CH := Lib.hid (fun p : Later wq => (B.out h hhw (by omega) HHS.out full nr _ _ _ (hvh.up p.h) (Later.cell p f4 hB1)).mono (fun e W' h => show e = .returned (.string R2) ∧ Below p.w'.heap.size p.w' W' from ⟨by rw [h.1, HH.out.1, HH.out.2, HR2.out], h.2⟩))
        have l1 : decide (sg < sk) = true ∨ (decide (sg < sk) = false ∧ (sg == sk) = false) ∨ (decide (sg < sk) = false ∧ (sg == sk) = true ∧ rk = true) ∨ (decide (sg < sk) = false ∧ (sg == sk) = true ∧ rk = false) := by
          cases decide (sg < sk) <;> cases sg == sk <;> cases rk <;> simp
        have l2 : decide (sh < sk) = true ∨ (decide (sh < sk) = false ∧ (sh == sk) = false) ∨ (decide (sh < sk) = false ∧ (sh == sk) = true ∧ rk = true) ∨ (decide (sh < sk) = false ∧ (sh == sk) = true ∧ rk = false) := by
          cases decide (sh < sk) <;> cases sh == sk <;> cases rk <;> simp
        have HL := Lib.hid l1
        have HL2 := Lib.hid l2
        clear l1 l2 hidx f0 f1 f3 f4 hvg hvh hzx hzy hB1 hly h0 h1 i0 hwe p2 hgl hhl
        go_upto_region 11 with fail
        refine wp_region_later (by kernel_rfl) (by kernel_rfl) ?_
        iterate 10 (go_big_quiet_step (((first | (with_reducible exact Calls.later_of (CG.out _)) | (with_reducible exact Calls.later_of (CH.out _))))))
        rcases HL.out with d1 | ⟨d1, d2⟩ | ⟨d1, d2, d5⟩ | ⟨d1, d2, d5⟩
        all_goals
          rw [d1]
          try cases d5
          have hn1 := HNL2.out
          simp only [d1, Bool.true_or, Bool.false_or] at hn1
          try simp only [d2, Bool.false_and, Bool.true_and] at hn1
          subst hn1
          iterate 25 (go_big_quiet_step (((first | (with_reducible exact Calls.later_of (CG.out _)) | (with_reducible exact Calls.later_of (CH.out _))))))
          rcases HL2.out with d3 | ⟨d3, d4⟩ | ⟨d3, d4, d6⟩ | ⟨d3, d4, d6⟩
        all_goals
          try cases d6
        all_goals
          rw [d3]
          have hn2 := HNR2.out
          simp only [d3, Bool.true_or, Bool.false_or] at hn2
          try simp only [d4, Bool.false_and, Bool.true_and, Bool.not_true, Bool.not_false] at hn2
          subst hn2
          repeat (go_big_quiet_step (((first | (with_reducible exact Calls.later_of (CG.out _)) | (with_reducible exact Calls.later_of (CH.out _))))))
          (refine wpQuiet_nil ?_; rintro wq ⟨⟨_, hq⟩, rfl⟩; try dsimp only)
          go_wp2_with fail
          go_ret
          exact ⟨ret_str HTE3.out.symm, hbwq.trans (hq.mono hbwq.size)⟩

theorem text_all : ∀ N, TextP N := by
  intro N
  induction N with
  | zero => intro f hf; have := f.wt_pos; omega
  | succ N ih => exact text_step N ih

end Go.Proofs.Ytollifednpjkeaa
