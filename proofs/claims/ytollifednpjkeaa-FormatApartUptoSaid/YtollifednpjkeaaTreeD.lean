import Derived.Test.YtollifednpjkeaaTreeC
/-
  The iterator over the terms of a list; how many nodes a formula has.
-/
namespace Go.Proofs.Ytollifednpjkeaa
open Go.RowKit
attribute [local go_sem] Oper.semAt_some

theorem terms_mk (v : Value) (w : World) (hv : ∃ a n c, v = .slice a n c) : Calls Try.prog 74 #[v] w fun e w' => e = .returned (.func (.func 96) #[] #[.pointer (some ⟨w.heap.size, 0, none⟩)]) ∧ w' = w.alloc (.cells #[v] 22) := by
  obtain ⟨a, n, c, rfl⟩ := hv
  go_enter Try.func74, Try.ntmps74
  go_wp2_with fail
  go_ret
  exact ⟨rfl, rfl⟩
theorem all_mk (a b c d : Value) (w : World) : Calls Try.prog 73 #[.agg #[a, b, c, d]] w fun e w' => e = .returned (.func (.func 94) #[] #[.pointer (some ⟨w.heap.size, 0, none⟩)]) ∧ w' = w.alloc (.cells #[a, b, c, d] 25) := by
  go_enter Try.func73, Try.ntmps73
  go_wp2_with fail
  go_ret
  exact ⟨rfl, rfl⟩
theorem KeepC.below {S : Nat → Prop} {A B C : World} {n : Nat} (h : KeepC S A B) (hb : Below n B C) (hn : A.heap.size ≤ n) : KeepC S A C :=
  ⟨Nat.le_trans h.size hb.size, fun p v hs hp => (hb.cell (p := p) (Nat.lt_of_lt_of_le (World.block_lt_of_cell? A p hp) hn)).trans (h.cell p v hs hp)⟩

/-- The state of the loop of terms$1 between two rounds. -/
structure TermsMid (W0 W1 : World) (n₂ : Nat) (J : List (TE W0) → World → Prop) (ts : List Tm) (k : Nat) (es : List (TE W0)) (Ds : List Nat) (w : World) : Prop where
  le : k ≤ ts.length
  map : Hid (es.map (·.1.2) = preTs (ts.take k))
  j : Hid (J es w)
  keep : KeepC (fun k => W0.heap.size ≤ k ∧ k < n₂) W1 w
  nodup : Hid Ds.Nodup
  marks : Hid (∀ D ∈ Ds, n₂ ≤ D ∧ D < w.heap.size ∧ w.heap[D]? = some (.deferred (some [])))

set_option maxRecDepth 100000 in
set_option maxHeartbeats 4000000 in
theorem termsIt_seq (W0 : World) : ∀ (N : Nat) (ts : List Tm), wts ts ≤ N → ∀ (v : Value), TmsAt W0 v ts → ∀ (Bt n : Nat),
    SeqNew Fence.wide n Try.prog 96 #[.pointer (some ⟨Bt, 0, none⟩)] (fun x : TE W0 => #[x.1.1]) W0.heap.size (preTs ts).length
      (fun W => Holds W0 W ∧ W.cell? ⟨Bt, 0, none⟩ = some v) (fun xs => xs.map (·.1.2) = preTs ts) (fun _ => True) := by
  intro N
  induction N with
  | zero =>
    intro ts hts v hv Bt n
    have hnil : ts = [] := by have := wts_length ts; exact List.eq_nil_of_length_eq_zero (by omega)
    subst hnil
    rintro l J Jx W ⟨hH, hbt⟩ hJ hJx hY h0
    obtain ⟨a, cap, rfl, hcap, hmax, _⟩ := hv.at
    simp only [List.length_nil] at hbt
    refine callsIn_wide.2 ((callsIn_wide (n := 3)).1 (callsIn_of_wp_marks Try.func96 rfl trivial (wpIn_wide.2 ?_)))
    simp only [Try.ntmps96, List.size_toArray, List.length_cons, List.length_nil, Nat.reduceAdd, Nat.reduceSub, Array.replicate_succ, Array.replicate_zero, List.push_toArray, List.append_toArray, List.nil_append, List.cons_append]
    have hbt1 : (W.alloc (.cells #[.func (.yield l) #[] #[]] 64)).cell? ⟨Bt, 0, none⟩ = some (.slice a 0 cap) :=
      (((Below.refl W.heap.size W).alloc (Nat.le_refl _) _).cell (p := ⟨Bt, 0, none⟩) (World.block_lt_of_cell? W _ hbt)).trans hbt
    have hJ1 := hJ _ _ _ h0 ((Below.refl _ W).alloc (Nat.le_refl _) (.cells #[.func (.yield l) #[] #[]] 64))
    go_wp2_with fail
    refine wp_loop (I := fun act w => act = { tmps := #[.func (.yield l) #[] #[], .pointer (some ⟨Bt, 0, none⟩), .pointer (some ⟨W.heap.size, 0, none⟩), undef, undef, undef, .slice a 0 cap, .int .i64 0, .int .i64 0, undef, undef, undef, undef, undef, undef, undef, undef, undef, undef, undef, undef, undef, undef, undef, undef], defers := [] } ∧ w = W.alloc (.cells #[.func (.yield l) #[] #[]] 64))
      (μ := fun _ _ => 0) ⟨rfl, rfl⟩ ?_
    rintro act w ⟨rfl, rfl⟩
    go_wp2_with fail
    exact leaves_of_marks (B := W.heap.size) [] _ List.nodup_nil (fun D h => (List.not_mem_nil h).elim) (fun W' hb => ⟨_, results_none rfl _ _ _, ⟨_, rfl⟩, .inl ⟨[], rfl, hJ _ _ _ hJ1 hb⟩⟩)
  | succ N ih =>
    intro ts hts v hv Bt n
    rintro l J Jx W ⟨hH, hbt⟩ hJ hJx hY h0
    obtain ⟨a, cap, rfl, hcap, hmax, hcells⟩ := hv.at
    have HC := Lib.hid hcells
    have IH := Lib.hid ih
    have HY := Lib.hid hY
    have hlen := wts_length ts
    have hmx : ts.length ≤ 9223372036854775807 := by unfold maxLen at hmax; omega
    clear hcells ih hY
    refine callsIn_wide.2 ((callsIn_wide (n := 3)).1 (callsIn_of_wp_marks Try.func96 rfl trivial (wpIn_wide.2 ?_)))
    simp only [Try.ntmps96, List.size_toArray, List.length_cons, List.length_nil, Nat.reduceAdd, Nat.reduceSub, Array.replicate_succ, Array.replicate_zero, List.push_toArray, List.append_toArray, List.nil_append, List.cons_append]
    have hbt1 : (W.alloc (.cells #[.func (.yield l) #[] #[]] 64)).cell? ⟨Bt, 0, none⟩ = some (.slice a ts.length cap) :=
      (((Below.refl W.heap.size W).alloc (Nat.le_refl _) _).cell (p := ⟨Bt, 0, none⟩) (World.block_lt_of_cell? W _ hbt)).trans hbt
    go_wp2_with fail
    obtain ⟨W1, hW1⟩ : ∃ W1, W.alloc (.cells #[.func (.yield l) #[] #[]] 64) = W1 := ⟨_, rfl⟩
    have hy1 : W1.cell? ⟨W.heap.size, 0, none⟩ = some (.func (.yield l) #[] #[]) := by rw [← hW1, World.cell?_alloc_at _ _ _ _ rfl]; rfl
    have hJ1 : J [] W1 := by rw [← hW1]; exact hJ _ _ _ h0 ((Below.refl _ _).alloc (Nat.le_refl _) _)
    have hH1 : Holds W0 W1 := by rw [← hW1]; exact hH.alloc _
    have hs1 : W1.heap.size = W.heap.size + 1 := by rw [← hW1]; simp
    change Code.wp _ _ _ _ (W.alloc (.cells #[.func (.yield l) #[] #[]] 64))
    rw [hW1]
    clear hW1 hbt1 h0
    refine wp_loop (I := fun act w => ∃ (k : Nat) (es : List (TE W0)) (Ds : List Nat) (u3 u4 u5 u9 u10 u11 u12 u13 u14 u15 u16 u17 u18 u19 u20 u21 u22 u23 u24 : Value), TermsMid W0 W1 W.heap.size J ts k es Ds w ∧ act = { tmps := #[.func (.yield l) #[] #[], .pointer (some ⟨Bt, 0, none⟩), .pointer (some ⟨W.heap.size, 0, none⟩), u3, u4, u5, .slice a ts.length cap, .int .i64 (ts.length : Int), .int .i64 (k : Int), u9, u10, u11, u12, u13, u14, u15, u16, u17, u18, u19, u20, u21, u22, u23, u24], defers := Ds.map mark })
      (μ := fun act _ => ts.length - (intOf (act.tmps.getD 8 undef)).toNat) ?h0 ?round
    case h0 => exact ⟨0, [], [], _, _, _, _, _, _, _, _, _, _, _, _, _, _, _, _, _, _, _, ⟨Nat.zero_le _, by show _ = _; simp [preTs], hJ1, KeepC.refl _ _, List.nodup_nil, fun D h => (List.not_mem_nil h).elim⟩, rfl⟩
    case round =>
      rintro act w ⟨k, es, Ds, u3, u4, u5, u9, u10, u11, u12, u13, u14, u15, u16, u17, u18, u19, u20, u21, u22, u23, u24, hmid, rfl⟩
      obtain ⟨hk, HM, HJ, hkeep, HN, HD⟩ := hmid
      by_cases hlt : k < ts.length
      · have hH2 : Holds W0 w := hH1.of_keepC hkeep
        have hwsz := hkeep.size
        obtain ⟨b, off, rfl, hbl, hc⟩ := HC.out (by omega)
        obtain ⟨x, c0, c1, c2, hx, hz⟩ := hc k hlt
        obtain ⟨ax, cx, rfl, _⟩ := hx.at
        have d0 := hH2.at c0
        have d1 := hH2.at c1
        have d2 := hH2.at c2
        have hyb := hkeep.cell ⟨W.heap.size, 0, none⟩ _ (fun h => by have : W.heap.size < W.heap.size := h.2; omega) hy1
        clear c0 c1 c2 hc
        -- the round's own box
        obtain ⟨w2, hw2⟩ : ∃ w2, w.alloc (.cells #[.bool ts[k].v, .string ts[k].name, .slice ax ts[k].args.length cx] 34) = w2 := ⟨_, rfl⟩
        have hb2 : Below W.heap.size w w2 := by rw [← hw2]; exact (Below.refl _ _).alloc (by omega) _
        have hB2 : Below w.heap.size w w2 := by rw [← hw2]; exact (Below.refl _ _).alloc (Nat.le_refl _) _
        have e0 : w2.cell? ⟨w.heap.size, 0, none⟩ = some (.bool ts[k].v) := by rw [← hw2, World.cell?_alloc_at _ _ _ _ rfl]; rfl
        have e1 : w2.cell? ⟨w.heap.size, 1, none⟩ = some (.string ts[k].name) := by rw [← hw2, World.cell?_alloc_at _ _ _ _ rfl]; rfl
        have e2 : w2.cell? ⟨w.heap.size, 2, none⟩ = some (.slice ax ts[k].args.length cx) := by rw [← hw2, World.cell?_alloc_at _ _ _ _ rfl]; rfl
        have hyb2 := (hB2.cell (p := ⟨W.heap.size, 0, none⟩) (by show W.heap.size < w.heap.size; omega)).trans hyb
        have hsz2 : w2.heap.size = w.heap.size + 1 := by rw [← hw2]; simp
        obtain ⟨E0, hE0⟩ : ∃ E0 : TE W0, E0 = ⟨(.agg #[.bool ts[k].v, .string ts[k].name, .slice ax ts[k].args.length cx], ts[k]), ⟨_, rfl, hx, hz⟩⟩ := ⟨_, rfl⟩
        have hE1 : E0.1.1 = .agg #[.bool ts[k].v, .string ts[k].name, .slice ax ts[k].args.length cx] := by rw [hE0]
        have hE2 : E0.1.2 = ts[k] := by rw [hE0]
        have hlen1 : es.length + ts[k].pre.length ≤ (preTs ts).length := by
          have h1 := congrArg List.length HM.out
          have h2 := (preTs_take ts (k + 1)).length_le
          rw [preTs_snoc ts k hlt, List.length_append] at h2
          simp only [List.length_map] at h1; omega
        have hpl : ts[k].pre.length = 1 + (preTs ts[k].args).length := by rw [Tm.pre_eq]; simp; omega
        obtain ⟨fn, tmps, assign, body, hyy, hR⟩ := HY.out es E0 w2 (hJ _ _ _ HJ.out hb2) (by omega)
        rw [hE1] at hyy
        have HE2 := Lib.hid hE2
        clear hE0 hE1 hE2
        go_upto_region 4 with fail
        clear hw2
        refine (wpIn_wide (n := 3)).1 ?_
        gi_wp2
        refine (RoundIn.mono ⟨hR.1, fun c cs _ => hR.2 c cs (fun d h => by cases h)⟩ ?_)
        rintro e W3 (⟨rfl, hJ3, hk3⟩ | ⟨rfl, hx3, hk3⟩)
        · have hc3 := KeepC.of_own hk3
          have hkeep3 : KeepC (fun k => W0.heap.size ≤ k ∧ k < W.heap.size) W1 W3 := (hkeep.trans (KeepC.of_below hB2)).trans hc3
          have hns : ¬ (W0.heap.size ≤ w.heap.size ∧ w.heap.size < W.heap.size) := by omega
          have e2' := hc3.cell ⟨w.heap.size, 2, none⟩ _ hns e2
          have hyb3 := hc3.cell ⟨W.heap.size, 0, none⟩ _ (fun h => by have : W.heap.size < W.heap.size := h.2; omega) hyb2
          have hM3 : ∀ D ∈ Ds, W.heap.size ≤ D ∧ D < W3.heap.size ∧ W3.heap[D]? = some (.deferred (some [])) := fun D hD => by
            obtain ⟨q1, q2, q3⟩ := HD.out D hD
            exact ⟨q1, by have := hk3.size; omega, ((hk3.same D (.inr q1) (by omega)).trans (hB2.block D q2)).trans q3⟩
          have hsz3 := hk3.size
          have HM3 := Lib.hid hM3
          clear hM3 hc3 e0 e1 e2 hyb2 hyb d0 d1 d2 hR
          gi_wp2
          go_wp2_with fail
          refine (terms_mk _ _ ⟨_, _, _, rfl⟩).mono ?_
          rintro e W4 ⟨rfl, rfl⟩
          obtain ⟨W4, hW4⟩ : ∃ W4, W3.alloc (.cells #[.slice ax ts[k].args.length cx] 22) = W4 := ⟨_, rfl⟩
          have hb4 : Below W3.heap.size W3 W4 := by rw [← hW4]; exact (Below.refl _ _).alloc (Nat.le_refl _) _
          have hs4 : W4.heap.size = W3.heap.size + 1 := by rw [← hW4]; simp
          have hbx : W4.cell? ⟨W3.heap.size, 0, none⟩ = some (.slice ax ts[k].args.length cx) := by rw [← hW4, World.cell?_alloc_at _ _ _ _ rfl]; rfl
          rw [hW4]
          clear hW4
          go_wp2_with fail
          have hH4 : Holds W0 W4 := (hH1.of_keepC hkeep3).below hb4 (by have := hH1.size; omega)
          have hw0 := hH1.size
          have hargs : wts ts[k].args ≤ N := by have := wts_mem (List.getElem_mem hlt); have := Tm.wt_eq ts[k]; omega
          have hseq := IH.out ts[k].args hargs _ hx W3.heap.size (3 - 1)
          refine wpIn_wide.1 (wpIn_rangeFunc_new (F := Fence.wide) (n := 3) rfl (by omega) rfl trivial Try.call96 hseq (fun _ => rfl) (by omega)
            (fun es' W' => J (es ++ [E0] ++ es') W' ∧ KeepC (fun k => W0.heap.size ≤ k ∧ k < W.heap.size) W1 W' ∧ (∀ D ∈ Ds, W'.heap[D]? = some (.deferred (some []))) ∧ W4.heap.size ≤ W'.heap.size)
            (fun c es' W' => c = .ret ∧ Jx (es ++ [E0] ++ es') W' ∧ (∀ D ∈ Ds, W'.heap[D]? = some (.deferred (some []))) ∧ W4.heap.size ≤ W'.heap.size) ?hI ?hIx ?hPre ?h0 ?hround ?hdone ?hstop)
          case hI =>
            rintro s A B ⟨q1, q2, q3, q4⟩ hb
            exact ⟨hJ _ _ _ q1 (hb.mono (by omega)), q2.below hb (by omega), fun D hD => (hb.block D (by have := HM3.out D hD; omega)).trans (q3 D hD), Nat.le_trans q4 hb.size⟩
          case hIx =>
            rintro c s A B ⟨q0, q1, q3, q4⟩ hb
            exact ⟨q0, hJx _ _ _ q1 (hb.mono (by omega)), fun D hD => (hb.block D (by have := HM3.out D hD; omega)).trans (q3 D hD), Nat.le_trans q4 hb.size⟩
          case hPre => exact fun W' hb => ⟨hH4.below hb (by omega), (hb.cell (p := ⟨W3.heap.size, 0, none⟩) (by show W3.heap.size < W4.heap.size; omega)).trans hbx⟩
          case h0 => exact ⟨by rw [List.append_nil]; exact hJ _ _ _ hJ3 (hb4.mono (by omega)), hkeep3.below hb4 (by omega), fun D hD => (hb4.block D (HM3.out D hD).2.1).trans (HM3.out D hD).2.2, Nat.le_refl _⟩
          case hround =>
            rintro l2 pre x W5 hl2 hl2' ⟨q1, q2, q3, q4⟩ hpre
            obtain ⟨⟨xv, xt⟩, hx5⟩ := x
            have hx6 := hx5
            obtain ⟨xa, hxv, hxa, hxz⟩ := hx6
            obtain ⟨ax5, cx5, rfl, _⟩ := hxa.at
            dsimp only at hxv
            subst hxv
            simp only [List.zip_toArray, List.zip_cons_cons, List.zip_nil_left]
            obtain ⟨W5a, hW5a⟩ : ∃ W5a, W5.alloc (.cells #[.bool xt.v, .string xt.name, .slice ax5 xt.args.length cx5] 34) = W5a := ⟨_, rfl⟩
            have hb5 : Below W5.heap.size W5 W5a := by rw [← hW5a]; exact (Below.refl _ _).alloc (Nat.le_refl _) _
            have y0 : W5a.cell? ⟨W5.heap.size, 0, none⟩ = some (.bool xt.v) := by rw [← hW5a, World.cell?_alloc_at _ _ _ _ rfl]; rfl
            have y1 : W5a.cell? ⟨W5.heap.size, 1, none⟩ = some (.string xt.name) := by rw [← hW5a, World.cell?_alloc_at _ _ _ _ rfl]; rfl
            have y2 : W5a.cell? ⟨W5.heap.size, 2, none⟩ = some (.slice ax5 xt.args.length cx5) := by rw [← hW5a, World.cell?_alloc_at _ _ _ _ rfl]; rfl
            have hko5 : KeepOwn (Mine W0.heap.size (W3.heap.size + 1)) W5 W5a := by rw [← hW5a]; exact KeepOwn.alloc _ _ _
            have hs5 : W5a.heap.size = W5.heap.size + 1 := by rw [← hW5a]; simp
            have hyb5 := q2.cell ⟨W.heap.size, 0, none⟩ _ (fun h => by have : W.heap.size < W.heap.size := h.2; omega) hy1
            have hyb5a := (hb5.cell (p := ⟨W.heap.size, 0, none⟩) (by show W.heap.size < W5.heap.size; omega)).trans hyb5
            have HQ3 := Lib.hid q3
            clear q3
            gi_wp2
            intro W6 ho6 hk6 r6 hr6
            have hcell6 : ∀ (p : Addr) (v : Value), p.block ≠ l2 → W5a.cell? p = some v → W6.cell? p = some v := fun p v hp hv => by
              have := ho6.block p.block (World.block_lt_of_cell? W5a p hv) hp
              unfold World.cell? at *
              rw [this]; exact hv
            have z0 := hcell6 _ _ (by show W5.heap.size ≠ l2; omega) y0
            have z1 := hcell6 _ _ (by show W5.heap.size ≠ l2; omega) y1
            have z2 := hcell6 _ _ (by show W5.heap.size ≠ l2; omega) y2
            have zy := hcell6 _ _ (by show W.heap.size ≠ l2; omega) hyb5a
            have hb6 : Below W4.heap.size W5a W6 := ho6.below (fun k hk => by omega) (by omega)
            have hb56 : Below W4.heap.size W5 W6 := (hb5.mono (by omega)).trans hb6
            have hkc6 : KeepC (fun k => W0.heap.size ≤ k ∧ k < W.heap.size) W1 W6 := q2.below hb56 (by omega)
            obtain ⟨fn', tmps', assign', body', hyy', hR'⟩ := HY.out (es ++ [E0] ++ pre) ⟨(.agg #[.bool xt.v, .string xt.name, .slice ax5 xt.args.length cx5], xt), hx5⟩ W6 (hJ _ _ _ q1 (hb56.mono (by omega))) (by simp; omega)
            have hs6 := hb56.size
            clear hcell6 y0 y1 y2 hyb5 hyb5a
            gi_wp2
            refine (RoundIn.mono ⟨hR'.1, fun c cs _ => hR'.2 c cs (fun d h => by cases h)⟩ ?_)
            rintro e W7 (⟨rfl, hJ7, hk7⟩ | ⟨rfl, hx7, hk7⟩)
            · gi_wp2
              refine ⟨hk7.mono (fun k hk => by rcases hk with h | h; exact .inl h; exact .inr (by omega)), by simpa using hJ7, hkc6.trans (KeepC.of_own hk7), fun D hD => ?_, by have := hk7.size; omega⟩
              have q := HM3.out D hD
              exact ((hk7.same D (.inr q.1) (by omega)).trans (hb56.block D (by omega))).trans (HQ3.out D hD)
            · gi_wp2
              refine ⟨hk7.mono (fun k hk => by rcases hk with h | h; exact .inl h; exact .inr (by omega)), rfl, by simpa using hx7, fun D hD => ?_, by have := hk7.size; omega⟩
              have q := HM3.out D hD
              exact ((hk7.same D (.inr q.1) (by omega)).trans (hb56.block D (by omega))).trans (HQ3.out D hD)
          case hdone =>
            rintro xs W5 hxs ⟨q1, q2, q3, q4⟩ hK
            have HX := Lib.hid hxs
            have HQ := Lib.hid q3
            have HK := Lib.hid hK
            clear hxs q3 hK
            have HLT := Lib.hid hlt
            go_wp2_with fail
            refine ⟨⟨k + 1, es ++ [E0] ++ xs, W4.heap.size :: Ds, _, _, _, _, _, _, _, _, _, _, _, _, _, _, _, _, _, _, _, ⟨HLT.out, ?_, q1, q2, ?_, ?_⟩, rfl⟩, ?_⟩
            · show _ = _
              rw [List.map_append, List.map_append, HM.out, HX.out, preTs_snoc ts k HLT.out, Tm.pre_eq ts[k]]
              simp [HE2.out]
              exact ⟨rfl, rfl⟩
            · exact List.nodup_cons.2 ⟨fun h => by have := HM3.out _ h; omega, HN.out⟩
            · intro D hD
              rcases List.mem_cons.1 hD with rfl | hD
              · exact ⟨by omega, lt_of_block HK.out, HK.out⟩
              · have q := HM3.out D hD
                exact ⟨q.1, by omega, HQ.out D hD⟩
            · show ts.length - (intOf (.int .i64 ((k : Int) + 1))).toNat < ts.length - (intOf (.int .i64 (k : Int))).toNat
              have := HLT.out
              simp only [intOf]; omega
          case hstop =>
            rintro c pre W5 _ ⟨rfl, q1, q3, q4⟩ hK
            have HQ := Lib.hid q3
            have HK := Lib.hid hK
            clear q3 hK
            refine wpIn_wide.2 ?_
            go_wp2_with fail
            refine leaves_of_marks (B := W.heap.size) (W4.heap.size :: Ds) _ (List.nodup_cons.2 ⟨fun h => by have := HM3.out _ h; omega, HN.out⟩) (fun D hD => ?_) (fun W' hb => ⟨_, results_none rfl _ _ _, ⟨_, rfl⟩, .inr ⟨es ++ [E0] ++ pre, trivial, hJx _ _ _ q1 hb⟩⟩)
            rcases List.mem_cons.1 hD with rfl | hD
            · exact ⟨by omega, HK.out⟩
            · exact ⟨(HM3.out D hD).1, HQ.out D hD⟩
        · have hM3 : ∀ D ∈ Ds, W.heap.size ≤ D ∧ W3.heap[D]? = some (.deferred (some [])) := fun D hD => by
            obtain ⟨q1, q2, q3⟩ := HD.out D hD
            exact ⟨q1, ((hk3.same D (.inr q1) (by omega)).trans (hB2.block D q2)).trans q3⟩
          have HM3 := Lib.hid hM3
          clear hM3
          gi_wp2
          go_wp2_with fail
          exact leaves_of_marks (B := W.heap.size) Ds _ HN.out HM3.out (fun W' hb => ⟨_, results_none rfl _ _ _, ⟨_, rfl⟩, .inr ⟨es ++ [E0], trivial, hJx _ _ _ hx3 hb⟩⟩)
      · have hall : ts.take k = ts := List.take_of_length_le (by omega)
        have hmap := HM.out
        rw [hall] at hmap
        have HMP := Lib.hid hmap
        clear hmap hall
        go_wp2_with fail
        exact leaves_of_marks (B := W.heap.size) Ds _ HN.out (fun D h => ⟨(HD.out D h).1, (HD.out D h).2.2⟩) (fun W' hb => ⟨_, results_none rfl _ _ _, ⟨_, rfl⟩, .inl ⟨es, HMP.out, hJ _ _ _ HJ.out hb⟩⟩)

end Go.Proofs.Ytollifednpjkeaa
