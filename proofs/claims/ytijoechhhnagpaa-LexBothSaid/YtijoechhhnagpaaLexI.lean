import Derived.Test.YtijoechhhnagpaaLexW
import Derived.Test.YtijoechhhnagpaaLexP
import Derived.Deep.DeepCutAuto
import Derived.Deep.CutBlock
import Derived.Deep.RegionHeld3
namespace Go.Proofs.Ytijoechhhnagpaa
open Go.RowKit

/-- How the iterator leaves. -/
def IterPost (full : List Tok) (J Jx : List Tok → World → Prop) (S : World → Prop) (e : Ending) (W' : World) : Prop :=
  (∃ v, e = .returned v) ∧ ((J full W' ∧ S W') ∨ (∃ pre, pre <+: full ∧ Jx pre W'))
/-- Between two rounds: so many have come, the rest is still to come. -/
def Mid (B : Blocks) (s : ByteArray) (J : List Tok → World → Prop) (full : List Tok) (fin : Nat × Int) (k : Nat) (W : World) : Prop :=
  ∃ (pre : List Tok) (i f : Nat), k = f ∧ pre ++ (lexL s f i).1 = full ∧ (lexL s f i).2 = fin ∧ s.size < i + f ∧ i ≤ s.size ∧ J pre W ∧ At B s i 0 W

set_option maxRecDepth 100000 in
set_option maxHeartbeats 8000000 in
theorem tokens1_seq (B : Blocks) (hB : B.apart) (s : ByteArray) (hz : s.size ≤ 16384) (n : Nat) :
    SeqOwn Fence.wide n Try.prog 16 #[.pointer (some ⟨B.bc, 0, none⟩), .pointer (some ⟨B.be, 0, none⟩)] (fun t => #[tokVal t]) B.own (fun W => At B s 0 0 W)
      (lexL s (s.size + 1) 0).1 (fun W => At B s (lexL s (s.size + 1) 0).2.1 (lexL s (s.size + 1) 0).2.2 W) := by
  intro l J Jx W hP hJ hJx hY h0
  refine callsIn_wide.2 ?_
  show Calls Try.prog _ #[.func (.yield l) #[] #[], .pointer (some ⟨B.bc, 0, none⟩), .pointer (some ⟨B.be, 0, none⟩)] W (IterPost _ J Jx _)
  obtain ⟨full, hfull⟩ : ∃ x, (lexL s (s.size + 1) 0).1 = x := ⟨_, rfl⟩
  obtain ⟨fin, hfin⟩ : ∃ x, (lexL s (s.size + 1) 0).2 = x := ⟨_, rfl⟩
  simp only [hfull, hfin] at hY ⊢
  have HF := Lib.hid (And.intro hfull hfin)
  clear hfull hfin
  go_enter Try.func16, Try.ntmps16
  go_wp2_with fail
  go_loopg [] (s.size + 1) (fun k wr => Mid B s J full fin k wr)
  case atStart => exact ⟨[], 0, s.size + 1, rfl, by rw [← HF.out.1]; rfl, HF.out.2, by omega, by omega, h0, hP⟩
  case round =>
    clear h0 hP W
    obtain ⟨pre, i, f, rfl, hpre, hfi, hf, hi, hJ0, hA0⟩ := hrel
    have HP := Lib.hid (And.intro hpre hfi)
    clear hpre hfi
    obtain ⟨j, hj⟩ : ∃ j, i + blanks s i = j := ⟨_, rfl⟩
    have hjs : j ≤ s.size := by have := blanks_le s i hi; omega
    have hij : i ≤ j := by omega
    have HJ := Lib.hid hj
    clear hj
    have HS := Lib.hid (And.intro hJ0 hA0)
    clear hJ0 hA0
    go_upto_block 2 with fail
    go_cut [] (fun wx => J pre wx ∧ At B s j 0 wx)
    case first =>
      go_wp2_with fail
      go_loopg [] (s.size - i) (fun k wx => ∃ q : Nat, q ≤ s.size ∧ k = s.size - q ∧ q + blanks s q = j ∧ J pre wx ∧ At B s q 0 wx)
      case atStart => exact ⟨i, hi, rfl, HJ.out, HS.out.1, HS.out.2⟩
      case round =>
        obtain ⟨q, hq, rfl, hqj, hJ1, hA1⟩ := hrel
        have HQ := Lib.hid hqj
        have HS1 := Lib.hid (And.intro hJ1 hA1)
        obtain ⟨c0, c1, c2, c3, c4, c5, c6⟩ := hA1.cells
        clear hqj hJ1 hA1
        by_cases hlt : q < s.size
        · have hlt' : (q : Int) < (s.size : Int) := by omega
          cases hb : isBlank s[q]
          · have hqj : q = j := by have := HQ.out; rw [blanks_no hlt hb] at this; omega
            have HQJ := Lib.hid hqj
            clear hqj
            have hge : decide (0 ≤ firstIdx ⟨#[32, 9, 10, 13]⟩ s[q]) = false := by rw [firstIdx_blank]; exact hb
            go_wp2_with fail
            go_quiet ((go_at_call 17; exact Calls.quiet_of_same (blankIdx_any _ _)))
            go_wp2_with fail
            go_meet
            case rel => exact ⟨hJ _ _ _ HS1.out.1 (Only.drewN _ _ _), HQJ.out ▸ HS1.out.2.below (below_drewN (Below.refl _ _) _)⟩
          · have hge : decide (0 ≤ firstIdx ⟨#[32, 9, 10, 13]⟩ s[q]) = true := by rw [firstIdx_blank]; exact hb
            go_wp2_with fail
            go_quiet ((go_at_call 17; exact Calls.quiet_of_same (blankIdx_any _ _)))
            go_wp2_with fail
            go_roundg (s.size - (q + 1))
            case measure => omega
            case rel => exact ⟨q + 1, by omega, rfl, by have := HQ.out; rw [blanks_yes hlt hb] at this; omega, hJ _ _ _ HS1.out.1 ((Only.drewN _ _ _).trans (Only.setCell (.inl rfl) _)), (HS1.out.2.below (below_drewN (Below.refl _ _) _)).move hB (q + 1)⟩
        · have hqs : q = s.size := by omega
          have hqj : q = j := by have := HQ.out; rw [blanks_end (by omega)] at this; omega
          have HQJ := Lib.hid hqj
          clear hqj hqs
          have hlt' : ¬ (q : Int) < (s.size : Int) := by omega
          have hdd : decide ((q : Int) < (s.size : Int)) = false := by simpa using hlt'
          go_wp2_with fail
          go_quiet (fail)
          go_wp2_with fail
          go_meet
          case rel => exact ⟨hJ _ _ _ HS1.out.1 (Only.drewN _ _ _), HQJ.out ▸ HS1.out.2.below (below_drewN (Below.refl _ _) _)⟩
    case rest =>
      clear HS wr
      obtain ⟨hJc, hAc⟩ := hcut
      obtain ⟨g, rfl⟩ : ∃ g, gk = g + 1 := ⟨gk - 1, by omega⟩
      by_cases hje : j = s.size
      · -- THE END
        subst hje
        have hfull : pre ++ [⟨5, ⟨#[]⟩, s.size⟩] = full := by
          have := HP.out.1; simp only [lexL, HJ.out, if_true] at this; exact this
        have hfin : fin = (s.size, 0) := by
          have := HP.out.2; simp only [lexL, HJ.out, if_true] at this; exact this.symm
        have hend := hY pre ⟨5, ⟨#[]⟩, s.size⟩
        have HE := Lib.hid (And.intro hfull hfin)
        have HYE := Lib.hid hend
        have HS := Lib.hid (And.intro hJc hAc)
        obtain ⟨c0, c1, c2, c3, c4, c5, c6⟩ := hAc.cells
        clear hfull hfin hend hJc hAc hY
        go_wp2_with fail
        go_quiet (fail)
        go_upto_region 3 with fail
        obtain ⟨fn, tmps, assign, body, hy, hR⟩ := HYE.out (wc.drewN nq) (hJ _ _ _ HS.out.1 (Only.drewN _ _ _)) (by rw [HE.out.1]; exact List.prefix_refl _)
        simp only [tokVal, tokCells] at hy
        refine (wpIn_wide (n := n)).1 ?_
        gi_wp2
        refine ⟨fun h => absurd h (by simp [Fence.wide]), hR.mono ?_⟩
        rintro e W3 (⟨rfl, hJ3, hk3⟩ | ⟨rfl, hJx3⟩)
        · gi_wp2
          go_wp2_with fail
          refine bodyPost_ret (v := .tuple #[]) (by simp [results, Try.results16, go_sem]) rfl ?_
          have hA3 := (HS.out.2.below (below_drewN (Below.refl _ _) nq)).keep hk3
          exact ⟨⟨_, rfl⟩, .inl ⟨HE.out.1 ▸ hJ3, by rw [HE.out.2]; exact hA3⟩⟩
        · gi_wp2
          go_wp2_with fail
          refine bodyPost_ret (v := .tuple #[]) (by simp [results, Try.results16, go_sem]) rfl ?_
          exact ⟨⟨_, rfl⟩, .inr ⟨_, by rw [HE.out.1]; exact List.prefix_refl _, hJx3⟩⟩
      · -- A TOKEN, OR AN ERROR
        have hjlt : j < s.size := by omega
        obtain ⟨x, hx⟩ : ∃ x, tokAt s j = x := ⟨_, rfl⟩
        have hlen := tokAt_len hjlt
        rw [hx] at hlen
        obtain ⟨kd, m, er⟩ := x
        dsimp only at hlen
        have hgo : er = 0 → pre ++ ⟨kd, s.extract j (j + m), j⟩ :: (lexL s g (j + m)).1 = full ∧ (lexL s g (j + m)).2 = fin := fun h => by
          have := HP.out; simp only [lexL, HJ.out, hje, if_false, hx, h, if_true] at this; exact this
        have hbad : ¬ er = 0 → pre = full ∧ fin = (j, er) := fun h => by
          have := HP.out; simp only [lexL, HJ.out, hje, if_false, hx, h] at this
          exact ⟨by simpa using this.1, this.2.symm⟩
        have HX := Lib.hid hx
        have HL := Lib.hid hlen
        have HG := Lib.hid hgo
        have HB := Lib.hid hbad
        have HY := Lib.hid hY
        have HS := Lib.hid (And.intro hJc hAc)
        obtain ⟨c0, c1, c2, c3, c4, c5, c6⟩ := hAc.cells
        clear hx hlen hgo hbad hJc hAc hY
        have hjj : ((j : Int) == (s.size : Int)) = false := by rw [beq_eq_false_iff_ne]; omega
        clear hje
        go_wp2_with fail
        go_quiet (fail)
        go_wp2_with fail
        refine (kinds_any _).mono ?_
        rintro e W4 ⟨v, rfl, hkb, ak, rfl, hak⟩
        rw [show (#[fn 25, .func (.func 27) #[] #[.pointer (some ak)], fn 32, .func (.func 33) #[] #[.pointer (some ak)], fn 35, fn 36] : Array Value) = kindsVal ak from rfl]
        have hS4 : J pre W4 ∧ At B s j 0 W4 := ⟨hJ _ _ _ HS.out.1 ((Only.drewN _ _ nq).trans (Only.of_below hkb)), (HS.out.2.below (below_drewN (Below.refl _ _) nq)).below hkb⟩
        have HS4 := Lib.hid hS4
        clear hS4 HS c0 c1 c2 c3 c4 c5 c6 hkb
        have hways := way_at B.pc s j hjlt (by omega) ak
        have HW := Lib.hid hways
        have HAK := Lib.hid hak
        clear hways hak
        go_wp2_with fail
        go_loopg [64] 3 (fun k t wx => ∃ i : Nat, t = .int .i64 (i : Int) ∧ i ≤ firstWay s[j] ∧ k = 3 - i ∧ J pre wx ∧ At B s j 0 wx ∧ wx.cell? ak = some (fn 24))
        case atStart => exact ⟨0, rfl, Nat.zero_le _, rfl, HS4.out.1, HS4.out.2, HAK.out⟩
        case round =>
          obtain ⟨i, rfl, hi, rfl, hJ5, hA5, hak5⟩ := hrel
          obtain ⟨bk, tk, cap, hway⟩ := HW.out i hi
          have hi2 : (i : Int) < 3 := by
            have := firstWay_le s[j]
            omega
          obtain ⟨hidx, heb, het, hcb, hct⟩ := hway
          have HCT := Lib.hid hct
          have HCB := Lib.hid hcb
          have HS5 := Lib.hid (And.intro hJ5 (And.intro hA5 hak5))
          have hlt5 : B.pc < wr.heap.size := lt_of_block hA5.c
          have hltb : B.bc < wr.heap.size := lt_of_block hA5.bc
          have hltb' : B.be < wr.heap.size := lt_of_block hA5.be
          have hlte : B.pe < wr.heap.size := lt_of_block hA5.e
          obtain ⟨c0, c1, c2, c3, c4, c5, c6⟩ := hA5.cells
          clear hct hcb hJ5 hA5 hak5
          by_cases hif : i = firstWay s[j]
          · have hcb := HCB.out true (by simpa using hif)
            have hct := HCT.out hif
            clear HCB HCT
            have HIF := Lib.hid hif
            clear hif
            go_wp2_with fail
            go_quiet ((exact Calls.quiet_of_same (hcb _)))
            go_wp2_with fail
            have hb6 : Below wr.heap.size wr ((wr.alloc (.cells #[fn bk, .func (.func tk) #[] cap] 51)).drewN nq) := below_drewN ((Below.refl _ _).alloc (Nat.le_refl _) _) _
            have hA6 := HS5.out.2.1.below hb6
            refine (hct _ hA6.scan (lt_of_block hA6.c) ((hb6.cell (World.block_lt_of_cell? _ _ HS5.out.2.2)).trans HS5.out.2.2)).mono ?_
            rintro e W7 ⟨he7, hb7⟩
            rw [HX.out] at he7
            obtain rfl : e = .returned (.tuple #[.int .u8 kd, .int .i64 (m : Int), .int .i64 er]) := he7
            have hb67 : Below wr.heap.size wr W7 := hb6.trans (hb7.mono hb6.size)
            have hS7 : J pre W7 ∧ At B s j 0 W7 := ⟨hJ _ _ _ HS5.out.1 (Only.of_below hb67), HS5.out.2.1.below hb67⟩
            clear hct hcb hidx heb het HS5 hlt5 hltb hltb' hlte c0 c1 c2 c3 c4 c5 c6 hb6 hA6 hb7 hb67
            have hltc : B.pc < W7.heap.size := lt_of_block hS7.2.c
            have hltb : B.bc < W7.heap.size := lt_of_block hS7.2.bc
            have hltb' : B.be < W7.heap.size := lt_of_block hS7.2.be
            have hlte : B.pe < W7.heap.size := lt_of_block hS7.2.e
            obtain ⟨c0, c1, c2, c3, c4, c5, c6⟩ := hS7.2.cells
            have HS7 := Lib.hid hS7
            clear hS7
            by_cases her : er = 0
            · subst her
              obtain ⟨hm1, hm2⟩ := HL.out rfl
              have hgo := HG.out rfl
              have HGO := Lib.hid hgo
              clear hgo HB HG HL
              have hw : IntKind.i64.wrap ((j : Int) + (m : Int)) = (j : Int) + (m : Int) := IntWalk.i64_in _ (by omega)
              have hn0 : 0 ≤ (j : Int) + (m : Int) := by omega
              have hn1 : ((j : Int) + (m : Int)).toNat = j + m := by omega
              go_wp2_with fail
              have hn2 : (j : Int) ≤ (j : Int) + (m : Int) := by omega
              have hn3 : (j : Int) + (m : Int) ≤ (s.size : Int) := by omega
              have hn4 : j ≤ j + m := by omega
              have hn5 : (0 : Int) ≤ (j : Int) := by omega
              have hn6 : (j : Int) ≤ (s.size : Int) := by omega
              have e0 := World.new_ne W7 _ c0
              have e1 := World.new_ne W7 _ c1
              have e5 := World.new_ne W7 _ c5
              go_region_held3 (fun w' => w'.cell? ⟨B.pc, 0, none⟩ = some (.int .i64 (j : Int)) ∧ w'.cell? ⟨B.pc, 1, none⟩ = some (.string s) ∧ w'.cell? ⟨B.bc, 0, none⟩ = some (.pointer (some ⟨B.pc, 0, none⟩))) (go_keep) (fail)
              go_upto_region 13 with fail
              have ho8 : Only B.own W7 ((W7.setCell ⟨B.pc, 0, none⟩ (.int .i64 ((j : Int) + (m : Int)))).alloc (.cells #[.int .u8 kd, .string (s.extract j (j + m)), .int .i64 (j : Int)] 31)).drew :=
                ((Only.setCell (.inl rfl) _).trans (Only.alloc _ _ _)).trans (Only.of_below (Below.refl _ _).drew)
              have hA8 := HS7.out.2.move hB (j + m)
              rw [show ((j + m : Nat) : Int) = (j : Int) + (m : Int) from by omega] at hA8
              replace hA8 := (hA8.below ((Below.refl _ _).alloc (Nat.le_refl _) (.cells #[.int .u8 kd, .string (s.extract j (j + m)), .int .i64 (j : Int)] 31))).below (Below.refl _ _).drew
              have HA8 := Lib.hid hA8
              obtain ⟨fn, tmps, assign, body, hy, hR⟩ := HY.out pre ⟨kd, s.extract j (j + m), j⟩ _ (hJ _ _ _ HS7.out.1 ho8) (by rw [← HGO.out.1]; exact ⟨(lexL s g (j + m)).1, List.append_assoc _ _ _⟩)
              clear hA8 ho8
              simp only [tokVal, tokCells] at hy
              refine (wpIn_wide (n := n)).1 ?_
              gi_wp2
              refine ⟨fun h => absurd h (by simp [Fence.wide]), hR.mono ?_⟩
              rintro e W9 (⟨rfl, hJ9, hk9⟩ | ⟨rfl, hJx9⟩)
              · gi_wp2
                go_wp2_with fail
                go_roundg g
                case measure => omega
                case rel => exact ⟨pre ++ [⟨kd, s.extract j (j + m), j⟩], j + m, g, rfl, by rw [List.append_assoc]; exact HGO.out.1, HGO.out.2, by omega, by omega, hJ9, HA8.out.keep hk9⟩
              · gi_wp2
                go_wp2_with fail
                refine bodyPost_ret (v := .tuple #[]) (by simp [results, Try.results16, go_sem]) rfl ?_
                exact ⟨⟨_, rfl⟩, .inr ⟨_, by rw [← HGO.out.1]; exact ⟨(lexL s g (j + m)).1, List.append_assoc _ _ _⟩, hJx9⟩⟩
            · have hne : (er == 0) = false := by simpa using her
              have hne' : (er != 0) = true := by simpa using her
              have HER := Lib.hid (HB.out her)
              clear her
              go_wp2_with fail
              refine bodyPost_ret (v := .tuple #[]) (by simp [results, Try.results16, go_sem]) rfl ?_
              exact ⟨⟨_, rfl⟩, .inl ⟨HER.out.1 ▸ hJ _ _ _ HS7.out.1 (Only.setCell (.inr (.inl rfl)) _), by rw [HER.out.2]; exact HS7.out.2.fail hB er⟩⟩
          · have hcb := HCB.out false (by simpa using hif)
            clear HCB
            go_wp2_with fail
            go_quiet ((exact Calls.quiet_of_same (hcb _)))
            go_wp2_with fail
            have hb6 : Below wr.heap.size wr ((wr.alloc (.cells #[fn bk, .func (.func tk) #[] cap] 51)).drewN nq) := below_drewN ((Below.refl _ _).alloc (Nat.le_refl _) _) _
            go_roundg (3 - (i + 1))
            case measure => omega
            case rel => exact ⟨i + 1, by go_num, by omega, rfl, hJ _ _ _ HS5.out.1 (Only.of_below hb6), HS5.out.2.1.below hb6, (hb6.cell (World.block_lt_of_cell? _ _ HS5.out.2.2)).trans HS5.out.2.2⟩

end Go.Proofs.Ytijoechhhnagpaa
