import Derived.Test.YtollifednpjkeaaLawM
/-
  FormatWrong: the walk.
-/
namespace Go.Proofs.Ytollifednpjkeaa
open Go.RowKit

/-- A frame written out: what a region leaves as it was, and what it has written. -/
def fillL (g : Nat → Value) (ds : List Nat) : Nat → List Value → List Value
  | _, [] => []
  | k, x :: xs => (if ds.contains k then g k else x) :: fillL g ds (k + 1) xs
theorem fillL_get (g : Nat → Value) (ds : List Nat) : ∀ (l : List Value) (k i : Nat), (fillL g ds k l)[i]? = (l[i]?).map fun x => if ds.contains (k + i) then g (k + i) else x
  | [], k, i => by simp [fillL]
  | x :: xs, k, 0 => by simp [fillL]
  | x :: xs, k, i + 1 => by
    have := fillL_get g ds xs (k + 1) i
    simp only [fillL, List.getElem?_cons_succ, this]
    rw [show k + 1 + i = k + (i + 1) by omega]
theorem act_around {a a0 : Act} (ds : List Nat) (hd : a.defers = a0.defers) (hs : a.tmps.size = a0.tmps.size) (hout : ∀ t, ds.contains t = false → a.tmps[t]? = a0.tmps[t]?) :
    a = { tmps := (fillL (fun i => a.tmps.getD i undef) ds 0 a0.tmps.toList).toArray, defers := a0.defers } := by
  obtain ⟨A, D⟩ := a
  obtain ⟨B, E⟩ := a0
  simp only at hd hs hout ⊢
  subst hd
  congr 1
  refine Array.ext_getElem? fun i => ?_
  rw [show (fillL (fun i => A.getD i undef) ds 0 B.toList).toArray[i]? = (fillL (fun i => A.getD i undef) ds 0 B.toList)[i]? by simp, fillL_get]
  by_cases hi : i < B.size
  · rw [show B.toList[i]? = some B[i] by simp [hi]]
    cases hc : ds.contains i
    · rw [hout i hc]; simp only [Option.map_some, Nat.zero_add, hc]; simp [hi]
    · simp only [Option.map_some, Nat.zero_add, hc, if_true]; simp [hs, hi]
  · simp [hs, hi]

theorem outs_of {l : List Oper} {t : Tmp} (ds : List Nat) (h : (l.all fun o => match o.dst with | none => true | some d => ds.contains d) = true) (ht : ds.contains t = false) : ∀ (i : Nat) (o : Oper), l.toArray[i]? = some o → o.dst ≠ some t := by
  intro i o ho hd
  have ho' : l[i]? = some o := by simpa using ho
  have := List.all_eq_true.1 h o (List.mem_of_getElem? ho')
  rw [hd] at this
  rw [show ds.contains t = true from this] at ht
  cases ht

def wrFacts (f : Fm) (t : Tm) (n0 : Int) (k base : Nat) : List Fact := [.form f,
  .forms [f],
  .form (.mk 3 ⟨#[120]⟩ [] [f]),
  .form f,
  .forms [f],
  .form (.mk 4 ⟨#[]⟩ [] [f]),
  .form f,
  .forms [f],
  .form (.mk 8 ⟨#[97]⟩ [] [f]),
  .term t,
  .terms [t],
  .form (.mk 1 ⟨#[112]⟩ [t] []),
  .form f,
  .forms [f],
  .form (.mk 0 ⟨#[]⟩ [] [f]),
  .term t,
  .term t,
  .term t,
  .term t,
  .term t,
  .terms [t, t, t, t, t],
  .form (.mk 1 ⟨#[80]⟩ [t, t, t, t, t] []),
  .forms [(.mk 3 ⟨#[120]⟩ [] [f]), (.mk 4 ⟨#[]⟩ [] [f]), (.mk 8 ⟨#[97]⟩ [] [f]), (.mk 1 ⟨#[112]⟩ [t] []), (.mk 0 ⟨#[]⟩ [] [f]), (.mk 1 ⟨#[80]⟩ [t, t, t, t, t] [])],
  .is (.int .u8 n0),
  .is (.int .u8 (k : Int)),
  .such (FmAtP (badF f t k)) FmAtP.up,
  .form (badF f t k),
  .such (NewBox base) NewBox.up]
def wrPs (f : Fm) (t : Tm) (n0 : Int) (k base : Nat) (i : Nat) (v : Value) (W : World) : Prop := (((wrFacts f t n0 k base)[i]?).getD (.is undef)).holds v W
theorem badF_at (f : Fm) (t : Tm) (k : Nat) (h : k < 6) : [(.mk 3 ⟨#[120]⟩ [] [f] : Fm), (.mk 4 ⟨#[]⟩ [] [f]), (.mk 8 ⟨#[97]⟩ [] [f]), (.mk 1 ⟨#[112]⟩ [t] []), (.mk 0 ⟨#[]⟩ [] [f]), (.mk 1 ⟨#[80]⟩ [t, t, t, t, t] [])][k]'h = badF f t k := by
  match k, h with
  | 0, _ => rfl
  | 1, _ => rfl
  | 2, _ => rfl
  | 3, _ => rfl
  | 4, _ => rfl
  | 5, _ => rfl
theorem st_indexB {Q : Exit → Act → World → Prop} {o : Oper} {a : Act} {w : World} {s c : Tmp} {v : Value} {f : Fm} {t : Tm} {k : Nat} (ho : o.op = .indexAddr 23 (.tmp s) (.tmp c)) (hs : a.tmps[s]? = some v) (hv : FmsAt w v [(.mk 3 ⟨#[120]⟩ [] [f] : Fm), (.mk 4 ⟨#[]⟩ [] [f]), (.mk 8 ⟨#[97]⟩ [] [f]), (.mk 1 ⟨#[112]⟩ [t] []), (.mk 0 ⟨#[]⟩ [] [f]), (.mk 1 ⟨#[80]⟩ [t, t, t, t, t] [])]) (hc : a.tmps[c]? = some (.int .u8 (k : Int))) (hk : k < 6) : o.wp Try.prog a w (Yield1 a o w (Fact.such (FmAtP (badF f t k)) FmAtP.up).holds) Q := by
  have h := st_index (Q := Q) ho hs hv hc hk
  rw [badF_at f t k hk] at h
  exact h
theorem st_remB {Q : Exit → Act → World → Prop} {o : Oper} {a : Act} {w : World} {s : Tmp} {n : Int} {k : Nat} {T : TypeId} (ho : o.op = .binOp .rem T (.tmp s) (.const (.int .u8 6)) T) (hs : a.tmps[s]? = some (.int .u8 n)) (h0 : 0 ≤ n) (h1 : n ≤ 255) (hk : n % 6 = (k : Int)) : o.wp Try.prog a w (Yield1 a o w (Fact.is (.int .u8 (k : Int))).holds) Q := by
  have h := st_rem (Q := Q) (w := w) (m := 6) ho hs h0 h1 (by decide)
  rw [hk] at h
  exact h
theorem badT_no (t : Tm) : (Tm.mk false ⟨#[80]⟩ [t]).ok true = false := by
  rw [Tm.ok_eq, show (Tm.mk false ⟨#[80]⟩ [t]).v = false from rfl, show (Tm.mk false ⟨#[80]⟩ [t]).name = ⟨#[80]⟩ from rfl, show isFun ⟨#[80]⟩ = false by decide +kernel]
  rfl
theorem badF_sub (f : Fm) (t : Tm) (k : Nat) (h : f.sh true = true) : ∀ g ∈ (badF f t k).sub, g.sh true = true := by
  intro g hg
  unfold badF at hg
  split at hg <;> simp only [Fm.sub, List.mem_singleton, List.not_mem_nil] at hg
  all_goals first | exact hg.elim | (rw [hg]; exact h)

set_option maxRecDepth 100000 in
set_option maxHeartbeats 4000000 in
theorem formatWrong_yes (f : Fm) (t : Tm) (n0 : Int) (hf : f.wt ≤ 1048576) (ht : t.wt ≤ 1048576) (hn0 : 0 ≤ n0) (hn1 : n0 ≤ 255) (v u : Value) (w : World) (hv : FmVal w v f) (hu : TmVal w u t) :
    Calls Try.prog 4 #[v, u, .int .u8 n0] w fun e w' => e = .returned (.bool true) ∧ Below w.heap.size w w' := by
  have hv' := hv
  have hu' := hu
  obtain ⟨x, y, rfl, hx, hy, hz⟩ := hv
  obtain ⟨ax, cx, rfl, -⟩ := hx.at
  obtain ⟨ay, cy, rfl, -⟩ := hy.at
  obtain ⟨x', rfl, hx', hz'⟩ := hu
  obtain ⟨az, cz, rfl, -⟩ := hx'.at
  have k3 := fmBox_alloc hv'
  obtain ⟨wa, hwa⟩ : ∃ wa, w.alloc (.cells #[.int .u8 f.op, .string f.name, .slice ax f.args.length cx, .slice ay f.sub.length cy] 25) = wa := ⟨_, rfl⟩
  have ba : Below w.heap.size w wa := by rw [← hwa]; exact (Below.refl _ _).alloc (Nat.le_refl _) _
  rw [hwa] at k3
  have k4 := tmBox_alloc (hu'.up ba)
  obtain ⟨wb, hwb⟩ : ∃ wb, wa.alloc (.cells #[.bool t.v, .string t.name, .slice az t.args.length cz] 34) = wb := ⟨_, rfl⟩
  have bb : Below wa.heap.size wa wb := by rw [← hwb]; exact (Below.refl _ _).alloc (Nat.le_refl _) _
  rw [hwb] at k4
  have k3 := k3.up bb
  have hbb : Below w.heap.size w wb := ba.trans (bb.mono ba.size)
  have KB := Lib.hid (And.intro k3 (And.intro k4 hbb))
  clear k3 k4 ba bb hbb hv' hu' hx hy hx'
  go_enter Try.func4, Try.ntmps4
  go_wp2_with fail
  refine (awake06 _).mono ?_
  rintro e w1 ⟨rfl, hb1⟩
  obtain ⟨k3, k4, hbb⟩ := KB.out
  have k3 := k3.up hb1
  have k4 := k4.up hb1
  have hbw1 := hbb.trans (hb1.mono hbb.size)
  clear hbb KB hb1 hwa hwb
  have KB := Lib.hid (And.intro k3 (And.intro k4 hbw1))
  obtain ⟨-, p1, q1, p2, q2, c0, c1, c2, c3, hvf⟩ := k3
  obtain ⟨-, p3, q3, d0, d1, d2, hvt⟩ := k4
  go_wp2_with fail
  obtain ⟨p5, q5, p6, q6, e5, hba, hfs⟩ := fms1_new hvf
  cases e5
  refine (Small_any _ (by simp only [wfs]; omega) _ _ hfs).mono ?_
  rintro e w2 ⟨rfl, hb2⟩
  have hb12 := hba.trans (hb2.mono hba.size)
  clear hba hb2 hfs
  obtain ⟨b1, hB1⟩ : ∃ b1, decide (szFs [f] 500 0 ≤ 500) = b1 := ⟨_, rfl⟩
  rw [hB1]
  clear hB1
  cases b1
  · go_wp2_with fail
    go_ret
    exact ⟨rfl, KB.out.2.2.trans (hb12.mono KB.out.2.2.size)⟩
  obtain ⟨k3, k4, hbw1⟩ := KB.out
  have k3 := k3.up hb12
  have k4 := k4.up hb12
  have hbw2 := hbw1.trans (hb12.mono hbw1.size)
  clear KB hbw1 hb12 c0 c1 c2 c3 d0 d1 d2 hvf hvt
  have KB := Lib.hid (And.intro k3 (And.intro k4 hbw2))
  obtain ⟨-, p1, q1, p2, q2, c0, c1, c2, c3, hvf⟩ := k3
  obtain ⟨-, p3, q3, d0, d1, d2, hvt⟩ := k4
  clear hbw2
  go_wp2_with fail
  obtain ⟨p5, q5, e5, hba, hts⟩ := tms1_new hvt
  cases e5
  refine (pR_any _ _ _ ⟨_, _, _, rfl⟩).mono ?_
  rintro e w3 ⟨rfl, hb3⟩
  have hb23 := hba.trans (hb3.mono hba.size)
  have hp : FmVal w3 _ (.mk 1 ⟨#[]⟩ [t] []) := fmVal_mk (hts.up hb3) (forms_nil w3) (by decide) (by decide) (by show (0 : Nat) ≤ maxLen; unfold maxLen; omega)
  have hpw : (Fm.mk 1 ⟨#[]⟩ [t] []).wt ≤ 10000000 := by
    have h5 : (⟨#[]⟩ : ByteArray).size = 0 := rfl
    simp only [Fm.wt, wts, wfs]; omega
  clear hba hts
  go_wp2_with fail
  refine (sizeF_any 10000000 _ hpw (Nat.le_refl _) 100 (by decide) (by decide) _ _ hp).mono ?_
  rintro e w4 ⟨rfl, hb4⟩
  have hb24 := hb23.trans (hb4.mono hb23.size)
  have hTle := szF_le (Fm.mk 1 ⟨#[]⟩ [t] []) 100
  obtain ⟨z, hz4⟩ : ∃ z, szF (Fm.mk 1 ⟨#[]⟩ [t] []) 100 = z := ⟨_, rfl⟩
  rw [hz4] at hTle ⊢
  clear hz4 hb23 hb3 hb4 hp hpw
  by_cases hzz : 100 < z
  · go_wp2_with fail
    go_ret
    exact ⟨rfl, KB.out.2.2.trans (hb24.mono KB.out.2.2.size)⟩
  obtain ⟨k3, k4, hbw2⟩ := KB.out
  have k3 := k3.up hb24
  have k4 := k4.up hb24
  have hbw4 := hbw2.trans (hb24.mono hbw2.size)
  clear KB hbw2 hb24 c0 c1 c2 c3 d0 d1 d2 hvf hvt hTle
  have KB := Lib.hid (And.intro k3 (And.intro k4 hbw4))
  obtain ⟨-, p1, q1, p2, q2, c0, c1, c2, c3, hvf⟩ := k3
  clear hbw4 k4
  go_wp2_with fail
  refine (schema_any f (by omega) _ _ hvf).mono ?_
  rintro e w5 ⟨rfl, hb5⟩
  obtain ⟨ok, hok⟩ : ∃ ok, okB f = ok := ⟨_, rfl⟩
  rw [hok]
  cases ok
  · clear hok
    go_wp2_with fail
    go_ret
    exact ⟨rfl, KB.out.2.2.trans (hb5.mono KB.out.2.2.size)⟩
  obtain ⟨k3, k4, hbw4⟩ := KB.out
  have k3 := k3.up hb5
  have k4 := k4.up hb5
  have hbw5 := hbw4.trans (hb5.mono hbw4.size)
  have HSH := Lib.hid (show f.sh true = true by unfold okB at hok; revert hok; cases fitsB f <;> simp)
  clear KB hbw4 hb5 c0 c1 c2 c3 hvf hok
  have KB := Lib.hid (And.intro k3 (And.intro k4 hbw5))
  clear k3 k4 hbw5
  go_upto_region 5 with fail
  clear hzz
  have hmod : n0 % 6 = ((n0 % 6).toNat : Int) := by omega
  have hk6 : (n0 % 6).toNat < 6 := by omega
  obtain ⟨k, hkk⟩ : ∃ k, (n0 % 6).toNat = k := ⟨_, rfl⟩
  rw [hkk] at hmod hk6
  have HMOD := Lib.hid hmod
  clear hmod hkk
  go_cut [7] from 36 to 62 (fun v wx => ∃ b, v = .pointer (some ⟨b, 0, none⟩) ∧ FmBox b (badF f t k) wx ∧ Below w5.heap.size w5 wx)
  case first =>
    rename_i J K' hJ hK'
    refine wp_region_factsT 28 (wrPs f t n0 k w5.drew.heap.size) (by kernel_rfl) (by kernel_rfl) rfl (by kernel_rfl) (fun i v A B h hb => Fact.up _ h hb) ?steps ?tail
    case steps =>
      have hmod := HMOD.out
      have hX3 : ∀ W, Below w5.drew.heap.size w5.drew W → FmBox w.heap.size f W := fun W h => (KB.out.1.up ((Below.refl _ _).drew)).up h
      have hX4 : ∀ W, Below w5.drew.heap.size w5.drew W → TmBox wa.heap.size t W := fun W h => (KB.out.2.1.up ((Below.refl _ _).drew)).up h
      refine ⟨fun a w hA hD => ?_, ?_⟩
      · rw [if_pos (by rfl)]
        exact st_load rfl ((hA.out 3 (out_of (by kernel_rfl))).trans (by rfl)) (hX3 w hA.below)
      refine ⟨fun a w hA hD => ?_, ?_⟩
      · rw [if_pos (by rfl)]
        obtain ⟨u36, h36, p36⟩ := hD 0 (by kernel_rfl) 36 (by rfl)
        exact st_forms1 rfl h36 p36
      refine ⟨fun a w hA hD => ?_, ?_⟩
      · rw [if_pos (by rfl)]
        obtain ⟨u37, h37, p37⟩ := hD 1 (by kernel_rfl) 37 (by rfl)
        exact st_of rfl h37 p37 (by decide) (by decide) (by decide)
      refine ⟨fun a w hA hD => ?_, ?_⟩
      · rw [if_pos (by rfl)]
        exact st_load rfl ((hA.out 3 (out_of (by kernel_rfl))).trans (by rfl)) (hX3 w hA.below)
      refine ⟨fun a w hA hD => ?_, ?_⟩
      · rw [if_pos (by rfl)]
        obtain ⟨u39, h39, p39⟩ := hD 3 (by kernel_rfl) 39 (by rfl)
        exact st_forms1 rfl h39 p39
      refine ⟨fun a w hA hD => ?_, ?_⟩
      · rw [if_pos (by rfl)]
        obtain ⟨u40, h40, p40⟩ := hD 4 (by kernel_rfl) 40 (by rfl)
        exact st_of rfl h40 p40 (by decide) (by decide) (by decide)
      refine ⟨fun a w hA hD => ?_, ?_⟩
      · rw [if_pos (by rfl)]
        exact st_load rfl ((hA.out 3 (out_of (by kernel_rfl))).trans (by rfl)) (hX3 w hA.below)
      refine ⟨fun a w hA hD => ?_, ?_⟩
      · rw [if_pos (by rfl)]
        obtain ⟨u42, h42, p42⟩ := hD 6 (by kernel_rfl) 42 (by rfl)
        exact st_forms1 rfl h42 p42
      refine ⟨fun a w hA hD => ?_, ?_⟩
      · rw [if_pos (by rfl)]
        obtain ⟨u43, h43, p43⟩ := hD 7 (by kernel_rfl) 43 (by rfl)
        exact st_of rfl h43 p43 (by decide) (by decide) (by decide)
      refine ⟨fun a w hA hD => ?_, ?_⟩
      · rw [if_pos (by rfl)]
        exact st_loadT rfl ((hA.out 4 (out_of (by kernel_rfl))).trans (by rfl)) (hX4 w hA.below)
      refine ⟨fun a w hA hD => ?_, ?_⟩
      · rw [if_pos (by rfl)]
        obtain ⟨u45, h45, p45⟩ := hD 9 (by kernel_rfl) 45 (by rfl)
        exact st_terms1 rfl h45 p45
      refine ⟨fun a w hA hD => ?_, ?_⟩
      · rw [if_pos (by rfl)]
        obtain ⟨u46, h46, p46⟩ := hD 10 (by kernel_rfl) 46 (by rfl)
        exact st_p rfl h46 p46 (by decide)
      refine ⟨fun a w hA hD => ?_, ?_⟩
      · rw [if_pos (by rfl)]
        exact st_load rfl ((hA.out 3 (out_of (by kernel_rfl))).trans (by rfl)) (hX3 w hA.below)
      refine ⟨fun a w hA hD => ?_, ?_⟩
      · rw [if_pos (by rfl)]
        obtain ⟨u48, h48, p48⟩ := hD 12 (by kernel_rfl) 48 (by rfl)
        exact st_forms1 rfl h48 p48
      refine ⟨fun a w hA hD => ?_, ?_⟩
      · rw [if_pos (by rfl)]
        obtain ⟨u49, h49, p49⟩ := hD 13 (by kernel_rfl) 49 (by rfl)
        exact st_of rfl h49 p49 (by decide) (by decide) (by decide)
      refine ⟨fun a w hA hD => ?_, ?_⟩
      · rw [if_pos (by rfl)]
        exact st_loadT rfl ((hA.out 4 (out_of (by kernel_rfl))).trans (by rfl)) (hX4 w hA.below)
      refine ⟨fun a w hA hD => ?_, ?_⟩
      · rw [if_pos (by rfl)]
        exact st_loadT rfl ((hA.out 4 (out_of (by kernel_rfl))).trans (by rfl)) (hX4 w hA.below)
      refine ⟨fun a w hA hD => ?_, ?_⟩
      · rw [if_pos (by rfl)]
        exact st_loadT rfl ((hA.out 4 (out_of (by kernel_rfl))).trans (by rfl)) (hX4 w hA.below)
      refine ⟨fun a w hA hD => ?_, ?_⟩
      · rw [if_pos (by rfl)]
        exact st_loadT rfl ((hA.out 4 (out_of (by kernel_rfl))).trans (by rfl)) (hX4 w hA.below)
      refine ⟨fun a w hA hD => ?_, ?_⟩
      · rw [if_pos (by rfl)]
        exact st_loadT rfl ((hA.out 4 (out_of (by kernel_rfl))).trans (by rfl)) (hX4 w hA.below)
      refine ⟨fun a w hA hD => ?_, ?_⟩
      · rw [if_pos (by rfl)]
        obtain ⟨u51, h51, p51⟩ := hD 15 (by kernel_rfl) 51 (by rfl)
        obtain ⟨u52, h52, p52⟩ := hD 16 (by kernel_rfl) 52 (by rfl)
        obtain ⟨u53, h53, p53⟩ := hD 17 (by kernel_rfl) 53 (by rfl)
        obtain ⟨u54, h54, p54⟩ := hD 18 (by kernel_rfl) 54 (by rfl)
        obtain ⟨u55, h55, p55⟩ := hD 19 (by kernel_rfl) 55 (by rfl)
        exact st_terms5 rfl h51 p51 h52 p52 h53 p53 h54 p54 h55 p55
      refine ⟨fun a w hA hD => ?_, ?_⟩
      · rw [if_pos (by rfl)]
        obtain ⟨u56, h56, p56⟩ := hD 20 (by kernel_rfl) 56 (by rfl)
        exact st_p rfl h56 p56 (by decide)
      refine ⟨fun a w hA hD => ?_, ?_⟩
      · rw [if_pos (by rfl)]
        obtain ⟨u38, h38, p38⟩ := hD 2 (by kernel_rfl) 38 (by rfl)
        obtain ⟨u41, h41, p41⟩ := hD 5 (by kernel_rfl) 41 (by rfl)
        obtain ⟨u44, h44, p44⟩ := hD 8 (by kernel_rfl) 44 (by rfl)
        obtain ⟨u47, h47, p47⟩ := hD 11 (by kernel_rfl) 47 (by rfl)
        obtain ⟨u50, h50, p50⟩ := hD 14 (by kernel_rfl) 50 (by rfl)
        obtain ⟨u57, h57, p57⟩ := hD 21 (by kernel_rfl) 57 (by rfl)
        exact st_forms6 rfl h38 p38 h41 p41 h44 p44 h47 p47 h50 p50 h57 p57
      refine ⟨fun a w hA hD => ?_, ?_⟩
      · rw [if_pos (by rfl)]
        exact st_move (F := .is (.int .u8 n0)) rfl ((hA.out 2 (out_of (by kernel_rfl))).trans (by rfl)) rfl
      refine ⟨fun a w hA hD => ?_, ?_⟩
      · rw [if_pos (by rfl)]
        obtain ⟨u59, h59, p59⟩ := hD 23 (by kernel_rfl) 59 (by rfl)
        obtain rfl : u59 = _ := p59
        exact st_remB rfl h59 hn0 hn1 hmod
      refine ⟨fun a w hA hD => ?_, ?_⟩
      · rw [if_pos (by rfl)]
        obtain ⟨u58, h58, p58⟩ := hD 22 (by kernel_rfl) 58 (by rfl)
        obtain ⟨u60, h60, p60⟩ := hD 24 (by kernel_rfl) 60 (by rfl)
        obtain rfl : u60 = _ := p60
        exact st_indexB rfl h58 p58 h60 hk6
      refine ⟨fun a w hA hD => ?_, ?_⟩
      · rw [if_pos (by rfl)]
        obtain ⟨u61, h61, p61⟩ := hD 25 (by kernel_rfl) 61 (by rfl)
        exact st_loadP rfl h61 p61
      refine ⟨fun a w hA hD => ?_, ?_⟩
      · rw [if_pos (by rfl)]
        exact st_allocF rfl hA.below.size
      trivial
    case tail =>
      intro a w6 o ho hA hG
      obtain ⟨v7, h7, b, hbl, rfl, hblk⟩ := hG 27 (by decide) 7 (by rfl)
      obtain ⟨v62, h62, p62⟩ := hG 26 (by decide) 62 (by rfl)
      cases (show some _ = some o from ho)
      rw [if_pos (by rfl)]
      refine st_storeF rfl h7 hblk h62 p62 (badF_sub f t k HSH.out) fun w7 hb7 hbox _ => ?_
      refine hK' _ _ (Met.intro (hJ _ _ ⟨a.tmps.getD 7 undef, a.tmps.getD 36 undef, a.tmps.getD 37 undef, a.tmps.getD 38 undef, a.tmps.getD 39 undef, a.tmps.getD 40 undef, a.tmps.getD 41 undef, a.tmps.getD 42 undef, a.tmps.getD 43 undef, a.tmps.getD 44 undef, a.tmps.getD 45 undef, a.tmps.getD 46 undef, a.tmps.getD 47 undef, a.tmps.getD 48 undef, a.tmps.getD 49 undef, a.tmps.getD 50 undef, a.tmps.getD 51 undef, a.tmps.getD 52 undef, a.tmps.getD 53 undef, a.tmps.getD 54 undef, a.tmps.getD 55 undef, a.tmps.getD 56 undef, a.tmps.getD 57 undef, a.tmps.getD 58 undef, a.tmps.getD 59 undef, a.tmps.getD 60 undef, a.tmps.getD 61 undef, a.tmps.getD 62 undef, ⟨b, ?_, hbox, ?_⟩, ?_⟩))
      · simp [h7]
      · exact (((Below.refl _ _).drew).trans hA.below).trans (hb7.mono hbl)
      · refine (act_around [7, 36, 37, 38, 39, 40, 41, 42, 43, 44, 45, 46, 47, 48, 49, 50, 51, 52, 53, 54, 55, 56, 57, 58, 59, 60, 61, 62] hA.defers hA.size fun t ht => hA.out t (outs_of _ (by kernel_rfl) ht)).trans (by kernel_rfl)
  case rest =>
    obtain ⟨b, rfl, hbox, hb5c⟩ := hcut
    obtain ⟨k3, k4, hbw5⟩ := KB.out
    have k3 := k3.up hb5c
    have k4 := k4.up hb5c
    have hbwc := hbw5.trans (hb5c.mono hbw5.size)
    have hno := Lib.hid (badF_no f t k)
    have hnw := Lib.hid (badF_wt f t k hf ht)
    obtain ⟨bad, hbad⟩ : ∃ bad, badF f t k = bad := ⟨_, rfl⟩
    rw [hbad] at hbox hno hnw
    clear KB hbw5 hb5c hbad HMOD hk6
    have KB := Lib.hid (And.intro k3 (And.intro k4 (And.intro hbox hbwc)))
    obtain ⟨-, p1, q1, p2, q2, c0, c1, c2, c3, hvb⟩ := hbox
    clear k3 k4 hbwc
    go_wp2_with fail
    refine (form_any bad (by have := hnw.out; omega) _ _ hvb).mono ?_
    rintro e w6 ⟨rfl, hb6⟩
    rw [hno.out, show ∀ x, ansR false x = .tuple #[.string ⟨#[]⟩, .int .i64 2] from fun _ => rfl]
    obtain ⟨k3, k4, hbox, hbwc⟩ := KB.out
    have k3 := k3.up hb6
    have k4 := k4.up hb6
    replace hbox := hbox.up hb6
    replace hbwc := hbwc.trans (hb6.mono hbwc.size)
    clear KB c0 c1 c2 c3 hvb hb6
    have KB := Lib.hid (And.intro k3 (And.intro k4 (And.intro hbox hbwc)))
    obtain ⟨-, p1, q1, p2, q2, c0, c1, c2, c3, hvb⟩ := hbox
    clear k3 k4 hbwc
    go_wp2_with fail
    refine (full_any bad (by have := hnw.out; omega) _ _ hvb).mono ?_
    rintro e w7 ⟨rfl, hb7⟩
    rw [hno.out, show ∀ x, ansR false x = .tuple #[.string ⟨#[]⟩, .int .i64 2] from fun _ => rfl]
    obtain ⟨k3, k4, hbox, hbwc⟩ := KB.out
    have k3 := k3.up hb7
    have k4 := k4.up hb7
    replace hbox := hbox.up hb7
    replace hbwc := hbwc.trans (hb7.mono hbwc.size)
    clear KB c0 c1 c2 c3 hvb hb7
    have KB := Lib.hid (And.intro k3 (And.intro k4 (And.intro hbox hbwc)))
    obtain ⟨-, p1, q1, p2, q2, c0, c1, c2, c3, hvb⟩ := hbox
    clear k3 k4 hbwc
    go_wp2_with fail
    refine (prefix_any bad (by have := hnw.out; omega) _ _ hvb).mono ?_
    rintro e w8 ⟨rfl, hb8⟩
    rw [hno.out, show ∀ x, ansR false x = .tuple #[.string ⟨#[]⟩, .int .i64 2] from fun _ => rfl]
    obtain ⟨k3, k4, hbox, hbwc⟩ := KB.out
    have k3 := k3.up hb8
    have k4 := k4.up hb8
    replace hbox := hbox.up hb8
    replace hbwc := hbwc.trans (hb8.mono hbwc.size)
    clear KB c0 c1 c2 c3 hvb hb8
    have KB := Lib.hid (And.intro k4 hbwc)
    obtain ⟨-, p1, q1, p2, q2, c0, c1, c2, c3, hvb⟩ := hbox
    obtain ⟨-, r1, s1, r2, s2, d0, d1, d2, d3, hvf⟩ := k3
    clear k4 hbwc
    go_wp2_with fail
    obtain ⟨a0, e0, b0, g0, a1, e1, b1, g1, ⟨x0, x1⟩, hba, hfs⟩ := fms2_new hvf hvb
    cases x0
    cases x1
    refine (forms_any [f, bad] (by have := hnw.out; simp only [wfs]; omega) _ _ hfs).mono ?_
    rintro e w9 ⟨rfl, hb9⟩
    rw [show (!([f, bad].any fun f => !okB f)) = false by simp [hno.out], show ∀ x, ansR false x = .tuple #[.string ⟨#[]⟩, .int .i64 2] from fun _ => rfl]
    replace hb9 := hba.trans (hb9.mono hba.size)
    obtain ⟨k4, hbwc⟩ := KB.out
    have k4 := k4.up hb9
    replace hbwc := hbwc.trans (hb9.mono hbwc.size)
    clear KB c0 c1 c2 c3 d0 d1 d2 d3 hvb hvf hb9 hba hfs
    obtain ⟨-, p3, q3, d0, d1, d2, hvt⟩ := k4
    have KB := Lib.hid hbwc
    clear hbwc
    go_wp2_with fail
    obtain ⟨p5, q5, e5, hba, hts⟩ := tms1_new hvt
    cases e5
    refine (cR_any _ _ _ ⟨_, _, _, rfl⟩).mono ?_
    rintro e w10 ⟨rfl, hb10⟩
    have hp : TmVal w10 _ (.mk false ⟨#[80]⟩ [t]) := tmVal_mk (hts.up hb10) (by show (1 : Nat) ≤ maxLen; unfold maxLen; omega)
    have hpw : (Tm.mk false ⟨#[80]⟩ [t]).wt ≤ 10000000 := by
      have h5 : (⟨#[80]⟩ : ByteArray).size = 1 := rfl
      simp only [Tm.wt, wts]; omega
    replace hb10 := hba.trans (hb10.mono hba.size)
    clear hba hts d0 d1 d2 hvt
    go_wp2_with fail
    refine (Term_any _ hpw _ _ hp).mono ?_
    rintro e w11 ⟨rfl, hb11⟩
    rw [show (Tm.mk false ⟨#[80]⟩ [t]).ok true = false from badT_no t, show ∀ x, ansR false x = .tuple #[.string ⟨#[]⟩, .int .i64 2] from fun _ => rfl]
    have hbe := KB.out.trans ((hb10.trans (hb11.mono hb10.size)).mono KB.out.size)
    clear KB hb10 hb11 hp hpw
    go_wp2_with fail
    go_ret
    exact ⟨ret_bool (by decide +kernel), hbe⟩

end Go.Proofs.Ytollifednpjkeaa
