import Derived.Test.YtodaembemcljnaaSeedZi
/-
  SeedLists' walk.
-/
namespace Go.Proofs.Ytodaembemcljnaa
open Go.RowKit
set_option linter.unusedVariables false

theorem OwnI.read {B : Nat} {w : World} {a : Option Addr} {n c : Nat} {l : List Nat} (h : OwnI B w (.slice a n c) l) (j : Nat) (hj : j < l.length) :
    ∃ g, a = some ⟨g, 0, none⟩ ∧ n = l.length ∧ n ≤ c ∧ w.cell? ⟨g, j, none⟩ = some (.int .i64 (l[j] : Int)) ∧ w.frozen? ⟨g, j, none⟩ = false := by
  obtain ⟨g, cap, hv, -, -, hc, -, hcells⟩ := h.form (by omega)
  injection hv with e1 e2 e3
  subst e1 e2 e3
  exact ⟨g, rfl, rfl, hc, hcells.out j hj⟩
theorem OwnI.here {B : Nat} {w : World} {g n c : Nat} {l : List Nat} (h : OwnI B w (.slice (some ⟨g, 0, none⟩) n c) l) (j : Nat) (hj : j < l.length) :
    w.cell? ⟨g, j, none⟩ = some (.int .i64 (l[j] : Int)) ∧ w.frozen? ⟨g, j, none⟩ = false := by
  obtain ⟨g', e, -, -, h1, h2⟩ := h.read j hj
  cases e
  exact ⟨h1, h2⟩
theorem OwnI.last {B : Nat} {w : World} {a : Option Addr} {n c v p : Nat} {l : List Nat} (h : OwnI B w (.slice a n c) (l ++ [v])) (hl : l.length = p) :
    ∃ g, a = some ⟨g, 0, none⟩ ∧ n = p + 1 ∧ n ≤ c ∧ w.cell? ⟨g, p, none⟩ = some (.int .i64 (v : Int)) := by
  subst hl
  obtain ⟨g, h1, h2, h3, h4, -⟩ := h.read l.length (by simp)
  refine ⟨g, h1, by rw [h2]; simp, h3, ?_⟩
  rw [h4, List.getElem_append_right (Nat.le_refl _)]
  simp
theorem OwnI.shape {B : Nat} {w : World} {v : Value} {l : List Nat} (h : OwnI B w v l) : ∃ a c, v = .slice a l.length c := by
  obtain ⟨a, c, h1, -⟩ := h.slice.at'
  exact ⟨a, c, by rw [List.length_map] at h1; exact h1⟩
theorem sum_take_succ (l : List Nat) (p : Nat) (h : p < l.length) : (l.take (p + 1)).sum = (l.take p).sum + l[p] := by
  rw [List.take_succ_eq_append_getElem h, List.sum_append]
  simp
theorem OwnI.put {B : Nat} {w : World} {g n c : Nat} {l : List Nat} (h : OwnI B w (.slice (some ⟨g, 0, none⟩) n c) l) (hn : n = l.length) (j m : Nat) (hj : j < l.length) :
    OwnI B (w.setCell ⟨g, j, none⟩ (.int .i64 (m : Int))) (.slice (some ⟨g, 0, none⟩) n c) (l.set j m) := by
  subst hn
  exact h.set j m hj

set_option maxRecDepth 100000 in
set_option maxHeartbeats 4000000 in
theorem seedLists_walk (x : Wd) (a z m : Int) (ws : List Nat) (wv : Value) (ha : -9223372036854775808 ≤ a ∧ a ≤ 9223372036854775807) (hz : 0 ≤ z ∧ z ≤ 255) (hm : 0 ≤ m ∧ m ≤ 255) (w : World) (hws : SliceU w wv ws) :
    Calls Try.prog 7 #[.int .u64 (x.toNat : Int), .int .i64 a, .int .u8 z, .int .u8 m, wv] w fun e w' => e = .returned (.bool true) ∧ Below w.heap.size w w' := by
  have P1 := Lib.hid (fun w => pick_any a 549755813888 (by omega) (by omega) ha w)
  obtain ⟨i, hi⟩ : ∃ p : Nat, a % ((549755813888 : Nat) : Int) = (p : Int) := ⟨(a % 549755813888).toNat, by omega⟩
  have hi2 : i < 549755813888 := by omega
  rw [hi] at P1
  clear hi ha
  obtain ⟨n, hn⟩ : ∃ n : Nat, z % 101 = (n : Int) := ⟨(z % 101).toNat, by omega⟩
  have hn2 : n ≤ 100 := by omega
  obtain ⟨k, hk⟩ : ∃ k : Nat, m % ((n : Int) + 1) = (k : Int) := ⟨(m % ((n : Int) + 1)).toNat, by have := Int.emod_nonneg m (b := (n : Int) + 1) (by omega); omega⟩
  have hk2 : k ≤ n := by have := Int.emod_lt_of_pos m (b := (n : Int) + 1) (by omega); omega
  obtain ⟨L, ea, hLp, hLa, hLb, PP⟩ := lists_perm x i n hi2 hn2
  obtain ⟨C, eb, hCl, hCs, hCn, -, hCa, hCb, PC⟩ := lists_choose x i n k hi2 hn2 hk2
  obtain ⟨A, ec, hAl, -, -, hAr, -, -, PA⟩ := lists_choose x i n n hi2 hn2 (Nat.le_refl _)
  obtain rfl := hAr rfl
  have hLl : L.length = n := by rw [hLp.length_eq]; simp
  have HP := Lib.hid PP
  have HC := Lib.hid PC
  have HA := Lib.hid PA
  have HLP := Lib.hid hLp
  have HCS := Lib.hid hCs
  have HCN := Lib.hid hCn
  obtain ⟨wa, wc, rfl, -⟩ := hws.at'
  have HWS := Lib.hid hws
  have HN := Lib.hid hn
  have HK := Lib.hid hk
  have HI2 := Lib.hid hi2
  have HLL := Lib.hid hLl
  have HCL := Lib.hid hCl
  have em : ∃ q : Nat, max ((n : Int) - 1) 0 = (q : Int) ∧ i + q ≤ ea := ⟨n - 1, by omega, hLa⟩
  obtain ⟨q, hq, hqa⟩ := em
  have HQ := Lib.hid hq
  clear PP PC PA hLp hCs hCn hAr hws hn hk hi2 hLl hCl hAl hLa hq
  go_enter Try.func7, Try.ntmps7
  go_wp2_with fail
  refine (awake_yes _).mono ?_
  rintro e w1 ⟨rfl, hb1⟩
  obtain ⟨w2, hw2⟩ : ∃ w2, w1.alloc (.cells #[.int .u64 (x.toNat : Int)] 31) = w2 := ⟨_, rfl⟩
  obtain ⟨G, hG⟩ : ∃ G, w1.heap.size = G := ⟨_, rfl⟩
  have C2 : w2.cell? ⟨G, 0, none⟩ = some (.int .u64 (x.toNat : Int)) := by rw [← hw2, ← hG, World.cell?_alloc_at _ _ _ _ rfl]; rfl
  have l2 : G < w2.heap.size := World.block_lt_of_cell? w2 _ C2
  have D2 : Below w.heap.size w w2 := by rw [← hw2]; exact hb1.alloc hb1.size _
  clear hb1
  go_wp2_with fail
  refine (P1.out _).mono ?_
  rintro e w3 ⟨rfl, rfl⟩
  clear hw2 hG P1
  have hn := HN.out
  go_wp2_with fail
  refine (HP.out _).mono ?_
  rintro e w3 ⟨v3, rfl, ho3, hb3⟩
  have C3 := (hb3.cell (p := ⟨G, 0, none⟩) l2).trans C2
  have l3 : G < w3.heap.size := Nat.lt_of_lt_of_le l2 hb3.size
  have D3 := D2.trans (hb3.mono D2.size)
  have HO3 := Lib.hid ho3
  clear ho3 hb3 C2 D2 HP
  have hk := HK.out
  go_wp2_with fail
  try rw [hk]
  clear hk hn
  refine (HC.out _).mono ?_
  rintro e w4 ⟨v4, rfl, ho4, hb4⟩
  have C4 := (hb4.cell (p := ⟨G, 0, none⟩) l3).trans C3
  have l4 : G < w4.heap.size := Nat.lt_of_lt_of_le l3 hb4.size
  have D4 := D3.trans (hb4.mono D3.size)
  have HO4 := Lib.hid ho4
  have HO34 := Lib.hid (HO3.out.below hb4)
  clear ho4 hb4 C3 D3 HC l2 l3 HO3
  go_wp2_with fail
  refine (HA.out _).mono ?_
  rintro e w5 ⟨v5, rfl, ho5, hb5⟩
  have C5 := (hb5.cell (p := ⟨G, 0, none⟩) l4).trans C4
  have l5 : G < w5.heap.size := Nat.lt_of_lt_of_le l4 hb5.size
  have D5 := D4.trans (hb5.mono D4.size)
  have HO5 := Lib.hid ho5
  have HO45 := Lib.hid (HO4.out.below hb5)
  have HO35 := Lib.hid (HO34.out.below hb5)
  clear ho5 hb5 C4 D4 HA l4 HO4 HO34
  obtain ⟨v3a, v3c, rfl, -⟩ := HO35.out.slice.at'
  obtain ⟨v4a, v4c, rfl, -⟩ := HO45.out.slice.at'
  obtain ⟨v5a, v5c, rfl, -⟩ := HO5.out.slice.at'
  have e3 : (L.map Int.ofNat).length = n := by rw [List.length_map]; exact HLL.out
  have e4 : (C.map Int.ofNat).length = k := by rw [List.length_map]; exact HCL.out
  have e5 : ((List.range n).map Int.ofNat).length = n := by simp
  rw [e3] at HO35 ⊢
  rw [e4] at HO45 ⊢
  rw [e5] at HO5 ⊢
  clear e3 e4 e5
  have hq := HQ.out
  have dA : decide (ea < i + q) = false := by simp; omega
  have dB : decide (eb < i + k) = false := by simp; omega
  obtain ⟨w6, hmk, ho6, hb6⟩ := run_make_ints n (by omega) w5
  obtain ⟨g6, hg6⟩ : ∃ g, w5.heap.size = g := ⟨_, rfl⟩
  rw [hg6] at hmk
  have HG6 := Lib.hid hg6
  have HO6 := Lib.hid ho6
  have HB6 := Lib.hid hb6
  clear ho6 hb6 hg6
  go_wp2_with fail
  clear dA dB hmk hq HQ hqa hCa hCb hLb
  have HO36 := Lib.hid (HO35.out.below HB6.out)
  have HO46 := Lib.hid (HO45.out.below HB6.out)
  have HO56 := Lib.hid (HO5.out.below HB6.out)
  have HD6 := Lib.hid (D5.trans (HB6.out.mono D5.size))
  have C6 := (HB6.out.cell (p := ⟨G, 0, none⟩) l5).trans C5
  have l6 : G < w6.heap.size := Nat.lt_of_lt_of_le l5 HB6.out.size
  have lg6 : g6 ≤ w6.heap.size := by rw [← HG6.out]; exact HB6.out.size
  have HO66 := Lib.hid (show OwnI g6 w6 (.slice (some ⟨g6, 0, none⟩) n n) (cnt n []) by have := HO6.out; rw [HG6.out] at this; rw [cnt_nil]; exact this)
  have F6 : Below g6 w6 w6 := Below.refl _ _
  have lG6 : G < g6 := by rw [← HG6.out]; exact l5
  go_loopw [25] (fun kx wr => ∃ k' : Nat, k' ≤ n ∧ kx = .int .i64 (k' : Int) ∧ OwnI g6 wr (.slice (some ⟨g6, 0, none⟩) n n) (cnt n (L.take k')) ∧ Below g6 w6 wr) (fun kx _ => n - (intOf kx).toNat)
  case atStart => exact ⟨0, by omega, rfl, by rw [List.take_zero]; exact HO66.out, F6⟩
  case round =>
    obtain ⟨p, hp, rfl, hO, hb⟩ := hrel
    by_cases hlt : p < n
    · have hpL : p < L.length := by rw [HLL.out]; exact hlt
      obtain ⟨y, hy⟩ : ∃ y, L[p] = y := ⟨_, rfl⟩
      have hyn : y < n := List.mem_range.1 (HLP.out.mem_iff.1 (by rw [← hy]; exact List.getElem_mem hpL))
      have hBw := Below.trans HB6.out (by rw [HG6.out]; exact hb)
      obtain ⟨g3, rfl, -, n3, c3, -⟩ := (HO35.out.below hBw).read p hpL
      rw [hy] at c3
      obtain ⟨g5, rfl, -, n5, c5, -⟩ := (HO5.out.below hBw).read p (by simpa using hlt)
      rw [List.getElem_range] at c5
      have hyc : y < (cnt n (L.take p)).length := by rw [cnt_length]; exact hyn
      obtain ⟨cy, fy⟩ := hO.here y hyc
      rw [cnt_get] at cy
      have hcl := count_le (L.take p) y
      rw [List.length_take] at hcl
      obtain ⟨t, ht⟩ : ∃ t, (L.take p).count y = t := ⟨_, rfl⟩
      rw [ht] at cy hcl
      have ht2 : t ≤ 100 := by omega
      have HS := Lib.hid (show OwnI g6 (wr.setCell ⟨g6, y, none⟩ (.int .i64 ((t + 1 : Nat) : Int))) (.slice (some ⟨g6, 0, none⟩) n n) (cnt n (L.take (p + 1))) by
        have := hO.put (cnt_length _ _).symm y (t + 1) hyc
        rw [← ht, ← cnt_app n (L.take p) y hyn, ← hy, ← List.take_succ_eq_append_getElem hpL] at this
        rw [← ht, ← hy]; exact this)
      have HBS := Lib.hid (hb.setCell (p := ⟨g6, y, none⟩) (Nat.le_refl _) (.int .i64 ((t + 1 : Nat) : Int)))
      have hyi : (y : Int) < n := by omega
      have dy : decide (n ≤ y) = false := by simp; omega
      have dy2 : decide ((y : Int) < 0) = false := by simp
      clear hO hb hBw hcl ht hyc hy hpL
      go_wp2_with fail
      go_roundw
      case rel => exact ⟨p + 1, hlt, by go_num, HS.out, HBS.out⟩
      case measure => simp [intOf]; omega
    · obtain rfl : n = p := by omega
      have HOc := Lib.hid (show OwnI g6 wr (.slice (some ⟨g6, 0, none⟩) n n) (List.replicate n 1) by
        have := hO; rw [List.take_of_length_le (by rw [HLL.out]; omega), cnt_perm HLP.out] at this; exact this)
      have BW := Lib.hid (Below.trans HB6.out (by rw [HG6.out]; exact hb))
      have C7 := (hb.cell (p := ⟨G, 0, none⟩) lG6).trans C6
      have l7 : G < wr.heap.size := World.block_lt_of_cell? wr _ C7
      have D7 := Lib.hid (D5.trans (BW.out.mono D5.size))
      clear hp hO hlt hb F6 lG6 lg6 l6 C6 HD6 HO36 HO56 HO66 HO6 HB6 HG6 HO35 HO5 HLP
      have F7 : Below wr.heap.size wr wr := Below.refl _ _
      go_wp2_with fail
      go_loop [26] (fun kx => ∃ k' : Nat, k' ≤ n ∧ kx = .int .i64 (k' : Int)) (fun kx => n - (intOf kx).toNat)
      case atStart => exact ⟨0, by omega, rfl⟩
      case round =>
        obtain ⟨p, hp, rfl⟩ := hrel
        by_cases hlt : p < n
        · obtain ⟨cy, -⟩ := HOc.out.here p (by simpa using hlt)
          rw [List.getElem_replicate] at cy
          go_wp2_with fail
          go_round
          case rel => exact ⟨p + 1, hlt, by go_num⟩
          case measure => simp [intOf]; omega
        · obtain rfl : n = p := by omega
          clear hp hlt HOc
          have HO47 := Lib.hid (HO45.out.below BW.out)
          clear HO45 HO46 BW
          obtain ⟨w7, hw7⟩ : ∃ u, wr = u := ⟨_, rfl⟩
          rw [hw7] at HO47 F7 C7 l7 D7 ⊢
          clear hw7
          go_wp2_with fail
          go_loopw [27] (fun kx wr => ∃ k' : Nat, k' ≤ k ∧ kx = .int .i64 (k' : Int) ∧ Below w7.heap.size w7 wr) (fun kx _ => k - (intOf kx).toNat)
          case atStart => exact ⟨0, by omega, rfl, F7⟩
          case round =>
            obtain ⟨p, hp, rfl, hb⟩ := hrel
            by_cases hlt : p < k
            · have hpC : p < C.length := by rw [HCL.out]; exact hlt
              obtain ⟨g4, rfl, -, n4, c4, -⟩ := (HO47.out.below hb).read p hpC
              obtain ⟨y, hy⟩ : ∃ y, C[p] = y := ⟨_, rfl⟩
              have hyn : y < n := HCN.out y (by rw [← hy]; exact List.getElem_mem hpC)
              rw [hy] at c4
              have d1 : decide ((y : Int) < 0) = false := by simp
              have d2 : decide (n ≤ y) = false := by simp; omega
              have HB8 := Lib.hid hb
              rcases p with _ | p
              · clear hy hb
                go_wp2_with fail
                go_quiet (fail)
                go_wp2_with fail
                go_roundw
                case rel => exact ⟨1, hlt, by go_num, below_drewN HB8.out _⟩
                case measure => simp [intOf]; omega
              · obtain ⟨c4', -⟩ := (HO47.out.below hb).here p (by omega)
                obtain ⟨y', hy'⟩ : ∃ y, C[p] = y := ⟨_, rfl⟩
                have hlt2 : y' < y := by rw [← hy, ← hy']; exact List.pairwise_iff_getElem.1 HCS.out p (p + 1) (by omega) hpC (by omega)
                rw [hy'] at c4'
                have d3 : decide ((0 : Int) < (p : Int) + 1) = true := by simp
                have d4 : decide (y ≤ y') = false := by simp; omega
                clear hy hy' hb
                go_wp2_with fail
                go_quiet (fail)
                go_wp2_with fail
                go_roundw
                case rel => exact ⟨p + 1 + 1, hlt, by go_num, below_drewN HB8.out _⟩
                case measure => simp [intOf]; omega
            · obtain rfl : k = p := by omega
              have C8 := (hb.cell (p := ⟨G, 0, none⟩) l7).trans C7
              have l8 : G < wr.heap.size := Nat.lt_of_lt_of_le l7 hb.size
              have D8 := Lib.hid (D7.out.trans (hb.mono D7.out.size))
              clear hp hlt hb F7 D7 l7 C7 HO47 HCS HCN HCL
              go_wp2_with fail
              obtain ⟨w8, hw8⟩ : ∃ u, wr = u := ⟨_, rfl⟩
              rw [hw8] at C8 l8 D8 ⊢
              clear hw8
              obtain ⟨g8, hg8⟩ : ∃ g, w8.heap.size = g := ⟨_, rfl⟩
              have F8 : Below g8 w8 w8 := Below.refl _ _
              have lg8 : g8 ≤ w8.heap.size := Nat.le_of_eq hg8.symm
              rw [hg8] at l8
              have HG8 := Lib.hid hg8
              clear hg8
              obtain ⟨N, hN⟩ : ∃ N, ws.length = N := ⟨_, rfl⟩
              have HNN := Lib.hid hN
              rw [hN]
              clear hN
              go_loopw [28, 29, 30] (fun l s kx wr => ∃ k' : Nat, k' ≤ N ∧ k' ≤ 100 ∧ kx = .int .i64 (k' : Int) ∧ s = .int .i64 (((ws.take k').sum : Nat) : Int) ∧ OwnI g8 wr l (ws.take k') ∧ Below g8 w8 wr) (fun _ _ kx _ => 100 - (intOf kx).toNat)
              case atStart => exact ⟨0, by omega, by omega, rfl, rfl, World.ownsRow_nil _ _ _ _, F8⟩
              case round =>
                obtain ⟨p, hpN, hp1, rfl, rfl, hO, hb⟩ := hrel
                have hle := (show ∀ y ∈ ws.take p, y ≤ 255 from fun y hy => HWS.out.le y (List.mem_of_mem_take hy))
                have hsl := sum_le255 _ hle
                have hln : (ws.take p).length = p := by rw [List.length_take, HNN.out]; omega
                rw [hln] at hsl
                have HLE := Lib.hid hle
                clear hle
                by_cases hlt : p < N ∧ p < 100
                · obtain ⟨q1, q2⟩ := hlt
                  have hpW : p < ws.length := by rw [HNN.out]; exact q1
                  have hBw : Below w.heap.size w wr := D8.out.trans ((show Below w8.heap.size w8 wr by rw [HG8.out]; exact hb).mono D8.out.size)
                  obtain ⟨wa', wc', e, nc, mc, hcell⟩ := (HWS.out.below hBw).at'
                  obtain ⟨b, off, rfl, -, hcell⟩ := hcell (by omega)
                  injection e with e1 e2 e3
                  subst e1 e3
                  have cv := hcell p hpW
                  obtain ⟨v, hv⟩ : ∃ v, ws[p] = v := ⟨_, rfl⟩
                  have hv2 : v ≤ 255 := by rw [← hv]; exact HWS.out.le _ (List.getElem_mem hpW)
                  have hv3 : (v : Int) ≤ 255 := by omega
                  rw [hv] at cv
                  have hss := sum_take_succ ws p hpW
                  have htk := List.take_succ_eq_append_getElem hpW
                  rw [hv] at hss htk
                  obtain ⟨S, hS⟩ : ∃ S, (ws.take p).sum = S := ⟨_, rfl⟩
                  obtain ⟨T, hT⟩ : ∃ T, ws.take p = T := ⟨_, rfl⟩
                  rw [hS] at hsl hss ⊢
                  rw [hT] at hO hln htk
                  have HSS := Lib.hid hss
                  have HTK := Lib.hid htk
                  have hS2 : S ≤ 25500 := by omega
                  have hws := hb.size
                  obtain ⟨ta, tc, rfl⟩ := hO.shape
                  rw [hln] at hO ⊢
                  have hO1 := Lib.hid (hO.below (Below.alloc (Below.refl _ _) (Nat.le_refl _) (.cells #[.int .i64 (v : Int)] 3)))
                  have hB1 := Lib.hid (hb.alloc (Nat.le_trans lg8 hws) (.cells #[.int .i64 (v : Int)] 3))
                  have cp : p < wc := by rw [HNN.out] at nc; omega
                  have HLN := Lib.hid hln
                  have i1 : decide (p < N) = true := by simp; exact q1
                  have i2 : decide ((p : Int) < 100) = true := by simp; omega
                  have i3 : (p : Int) < N := by omega
                  have i4 : (p : Int) < 100 := by omega
                  clear hO hb hcell e2 hv hss htk hS hT hBw hsl hpN nc mc HLE hln
                  go_wp2_with (at_builtin; refine wpList_append_int _ rfl _ _ rfl g8 _ T rfl hO1 wr.heap.size 1 v rfl (cell_one_at _ _ rfl _ _) (by rw [HLN.out]; omega) (by simp; omega) ?_; intro av cv' w9 hown' hgrow; rw [HLN.out] at hown' ⊢; obtain ⟨ga, rfl, -, na, ca⟩ := hown'.out.last HLN.out)
                  go_roundw
                  case rel => exact ⟨p + 1, by omega, by omega, by go_num, by rw [HSS.out]; go_num, by rw [HTK.out]; exact hown'.out, hB1.out.trans (hgrow.out.below (by simp; omega) (fun k hk => hk))⟩
                  case measure => simp [intOf]; omega
                · have hp : N ≤ 100 ∧ p = N ∨ 100 < N ∧ p = 100 := by omega
                  have hlW : (ws.take p).length ≤ 100 := by rw [hln]; exact hp1
                  obtain ⟨ta, tc, rfl⟩ := hO.shape
                  obtain ⟨W, hW⟩ : ∃ W, ws.take p = W := ⟨_, rfl⟩
                  rw [hW] at hO HLE hlW hsl hln ⊢
                  clear hW
                  obtain ⟨S, hS⟩ : ∃ S, W.sum = S := ⟨_, rfl⟩
                  rw [hS] at hsl ⊢
                  have Cr := (hb.cell (p := ⟨G, 0, none⟩) l8).trans C8
                  have lr : G < wr.heap.size := World.block_lt_of_cell? wr _ Cr
                  have Dr := D8.out.trans ((show Below w8.heap.size w8 wr by rw [HG8.out]; exact hb).mono D8.out.size)
                  rw [hln] at hO ⊢
                  have HS := Lib.hid hO.slice
                  have HO := Lib.hid hO
                  have HLN := Lib.hid hln
                  have HLW := Lib.hid hlW
                  clear hO hb hlW F8 lg8 l8 C8 D8 HNN HWS hln
                  by_cases hz : S = 0
                  · have WZ := Lib.hid (fun w v hv => lists_zero x i W HLW.out HLE.out (by rw [hS]; exact hz) w v hv)
                    subst hz
                    clear hS hsl hpN hlt
                    rcases hp with ⟨hN1, rfl⟩ | ⟨hN1, rfl⟩
                    · go_wp2_with fail
                      refine (WZ.out _ _ HS.out).mono ?_
                      rintro e w9 ⟨rfl, hb9⟩
                      have D9 := Lib.hid (Dr.trans (hb9.mono Dr.size))
                      clear hb9 Dr
                      go_wp2_with fail
                      go_ret
                      exact ⟨rfl, D9.out⟩
                    · go_wp2_with fail
                      refine (WZ.out _ _ HS.out).mono ?_
                      rintro e w9 ⟨rfl, hb9⟩
                      have D9 := Lib.hid (Dr.trans (hb9.mono Dr.size))
                      clear hb9 Dr
                      go_wp2_with fail
                      go_ret
                      exact ⟨rfl, D9.out⟩
                  · obtain ⟨o, j, ho, hij, hpos, hcall⟩ := lists_some x i HI2.out W HLW.out HLE.out (by omega)
                    have WZ := Lib.hid hcall
                    obtain ⟨g, rfl, -, nn, co, -⟩ := HO.out.read o ho
                    obtain ⟨y, hy⟩ : ∃ y, W[o] = y := ⟨_, rfl⟩
                    rw [hy] at co hpos
                    have hop : o < p := by rw [← HLN.out]; exact ho
                    have z1 : ((S : Int) == 0) = false := by simp; exact hz
                    have z2 : decide (i < j) = true := by simp; exact hij
                    have z3 : decide (o < p) = true := by simp; exact hop
                    have z4 : decide ((0 : Int) < (y : Int)) = true := by simp; omega
                    have z5 : decide (0 < y) = true := by simp; omega
                    have z6 : (o : Int) < p := by omega
                    clear hS hsl hpN hlt hcall hy hz
                    rcases hp with ⟨hN1, rfl⟩ | ⟨hN1, rfl⟩
                    · go_wp2_with fail
                      refine (WZ.out _ _ HS.out).mono ?_
                      rintro e w9 ⟨rfl, hb9⟩
                      have D9 := Lib.hid (Dr.trans (hb9.mono Dr.size))
                      have c9 := (hb9.cell (p := ⟨g, o, none⟩) (World.block_lt_of_cell? wr _ co)).trans co
                      clear hb9 Dr co
                      go_wp2_with fail
                      go_ret
                      exact ⟨rfl, D9.out⟩
                    · go_wp2_with fail
                      refine (WZ.out _ _ HS.out).mono ?_
                      rintro e w9 ⟨rfl, hb9⟩
                      have D9 := Lib.hid (Dr.trans (hb9.mono Dr.size))
                      have c9 := (hb9.cell (p := ⟨g, o, none⟩) (World.block_lt_of_cell? wr _ co)).trans co
                      clear hb9 Dr co
                      go_wp2_with fail
                      go_ret
                      exact ⟨rfl, D9.out⟩
end Go.Proofs.Ytodaembemcljnaa
