import Derived.Test.YtollifednpjkeaaLawA
import Derived.Test.YtollifednpjkeaaApartD
/-
  FormatApart: the walk.
-/
namespace Go.Proofs.Ytollifednpjkeaa
open Go.RowKit

theorem sh_of_ok {f : Fm} (h : okB f = true) : f.sh true = true := by unfold okB at h; revert h; cases fitsB f <;> simp
theorem bs_list {a b : ByteArray} (h : a.toList = b.toList) : a = b := bs_ext (by rw [← Lib.toList_data, ← Lib.toList_data]; exact h)
/-- The texts of two right formulas, and whether they are one. -/
theorem apart_texts {f g : Fm} (hf : okB f = true) (hg : okB g = true) :
    ((f.tx false).toList == (g.tx false).toList) = eqB f g ∧ ((f.tx true).toList == (g.tx true).toList) = eqB f g ∧ ((joinS ⟨#[32]⟩ f.pw).toList == (joinS ⟨#[32]⟩ g.pw).toList) = eqB f g ∧
      (f.tx false).toList.isEmpty = false ∧ (f.tx true).toList.isEmpty = false ∧ (joinS ⟨#[32]⟩ f.pw).toList.isEmpty = false := by
  have sf := sh_of_ok hf
  have sg := sh_of_ok hg
  have key : ∀ {a b : ByteArray}, (a = b → f = g) → (f = g → a = b) → (a.toList == b.toList) = eqB f g := fun {a b} h1 h2 => by
    rw [Bool.eq_iff_iff, eqB_iff, beq_iff_eq]
    exact ⟨fun h => h1 (bs_list h), fun h => by rw [h2 h]⟩
  have ne : ∀ {a : ByteArray}, a ≠ ⟨#[]⟩ → a.toList.isEmpty = false := fun {a} h => by
    rw [Lib.toList_data]
    cases e : a.data.toList with
    | nil => exact absurd (bs_ext e) h
    | cons _ _ => rfl
  exact ⟨key (tx_inj false sf sg) (fun h => by rw [h]), key (tx_inj true sf sg) (fun h => by rw [h]), key (prefix_inj sf sg) (fun h => by rw [h]), ne (tx_ne false sf), ne (tx_ne true sf), ne (prefix_ne sf)⟩

set_option maxRecDepth 100000 in
set_option maxHeartbeats 4000000 in
theorem formatApart_yes (f g : Fm) (hfg : f.wt + g.wt ≤ 1048576) (v u : Value) (w : World) (hv : FmVal w v f) (hu : FmVal w u g) :
    Calls Try.prog 3 #[v, u] w fun e w' => e = .returned (.bool true) ∧ Below w.heap.size w w' := by
  have hv' := hv
  have hu' := hu
  obtain ⟨x, y, rfl, hx, hy, hz⟩ := hv
  obtain ⟨ax, cx, rfl, -⟩ := hx.at
  obtain ⟨ay, cy, rfl, -⟩ := hy.at
  obtain ⟨x', y', rfl, hx', hy', hz'⟩ := hu
  obtain ⟨bx, dx, rfl, -⟩ := hx'.at
  obtain ⟨by', dy, rfl, -⟩ := hy'.at
  have k3 := fmBox_alloc hv'
  obtain ⟨wa, hwa⟩ : ∃ wa, w.alloc (.cells #[.int .u8 f.op, .string f.name, .slice ax f.args.length cx, .slice ay f.sub.length cy] 25) = wa := ⟨_, rfl⟩
  have ba : Below w.heap.size w wa := by rw [← hwa]; exact (Below.refl _ _).alloc (Nat.le_refl _) _
  rw [hwa] at k3
  have k4 := fmBox_alloc (hu'.up ba)
  obtain ⟨wb, hwb⟩ : ∃ wb, wa.alloc (.cells #[.int .u8 g.op, .string g.name, .slice bx g.args.length dx, .slice by' g.sub.length dy] 25) = wb := ⟨_, rfl⟩
  have bb : Below wa.heap.size wa wb := by rw [← hwb]; exact (Below.refl _ _).alloc (Nat.le_refl _) _
  rw [hwb] at k4
  have k3 := k3.up bb
  have hbb : Below w.heap.size w wb := ba.trans (bb.mono ba.size)
  have KB := Lib.hid (And.intro k3 (And.intro k4 hbb))
  have hfw : f.wt ≤ 1048576 := by omega
  have hgw : g.wt ≤ 1048576 := by omega
  clear k3 k4 ba bb hbb hv' hu' hx hy hx' hy'
  go_enter Try.func3, Try.ntmps3
  go_wp2_with fail
  refine (awake06 _).mono ?_
  rintro e w1 ⟨rfl, hb1⟩
  obtain ⟨k3, k4, hbb⟩ := KB.out
  have k3 := k3.up hb1
  have k4 := k4.up hb1
  have hbw := hbb.trans (hb1.mono hbb.size)
  clear hbb KB hb1 hwa hwb
  have KB := Lib.hid (And.intro k3 (And.intro k4 hbw))
  clear hbw
  obtain ⟨-, p1, q1, p2, q2, c0, c1, c2, c3, hvf⟩ := k3
  obtain ⟨-, p3, q3, p4, q4, d0, d1, d2, d3, hvg⟩ := k4
  go_wp2_with fail
  obtain ⟨a0, e0, b0, g0, a1, e1, b1, g1, ⟨x0, x1⟩, hba, hfs⟩ := fms2_new hvf hvg
  cases x0
  cases x1
  refine (Small_any _ (by simp only [wfs]; omega) _ _ hfs).mono ?_
  rintro e w2 ⟨rfl, hb2⟩
  replace hb2 := hba.trans (hb2.mono hba.size)
  clear hba hfs
  obtain ⟨b1, hB1⟩ : ∃ b1, decide (szFs [f, g] 500 0 ≤ 500) = b1 := ⟨_, rfl⟩
  rw [hB1]
  clear hB1
  cases b1
  · go_wp2_with fail
    go_ret
    exact ⟨rfl, KB.out.2.2.trans (hb2.mono KB.out.2.2.size)⟩
  obtain ⟨k3, k4, hbw⟩ := KB.out
  have k3 := k3.up hb2
  have k4 := k4.up hb2
  replace hbw := hbw.trans (hb2.mono hbw.size)
  clear KB hb2 c0 c1 c2 c3 d0 d1 d2 d3 hvf hvg
  have KB := Lib.hid (And.intro k3 (And.intro k4 hbw))
  clear k4 hbw
  obtain ⟨-, p1, q1, p2, q2, c0, c1, c2, c3, hvf⟩ := k3
  go_wp2_with fail
  refine (schema_any f (by omega) _ _ hvf).mono ?_
  rintro e w3 ⟨rfl, hb3⟩
  obtain ⟨ok, hokf⟩ : ∃ ok, okB f = ok := ⟨_, rfl⟩
  rw [hokf]
  cases ok
  · clear hokf
    go_wp2_with fail
    go_ret
    exact ⟨rfl, KB.out.2.2.trans (hb3.mono KB.out.2.2.size)⟩
  obtain ⟨k3, k4, hbw⟩ := KB.out
  have k3 := k3.up hb3
  have k4 := k4.up hb3
  replace hbw := hbw.trans (hb3.mono hbw.size)
  clear KB hb3 c0 c1 c2 c3 hvf
  have HOKF := Lib.hid hokf
  clear hokf
  have KB := Lib.hid (And.intro k3 (And.intro k4 hbw))
  clear hbw k3
  obtain ⟨-, p1, q1, p2, q2, c0, c1, c2, c3, hvg⟩ := k4
  go_wp2_with fail
  refine (schema_any g (by omega) _ _ hvg).mono ?_
  rintro e w4 ⟨rfl, hb4⟩
  obtain ⟨ok, hokg⟩ : ∃ ok, okB g = ok := ⟨_, rfl⟩
  rw [hokg]
  cases ok
  · clear hokg
    go_wp2_with fail
    go_ret
    exact ⟨rfl, KB.out.2.2.trans (hb4.mono KB.out.2.2.size)⟩
  obtain ⟨k3, k4, hbw⟩ := KB.out
  have k3 := k3.up hb4
  have k4 := k4.up hb4
  replace hbw := hbw.trans (hb4.mono hbw.size)
  clear KB hb4 c0 c1 c2 c3 hvg
  have HOKG := Lib.hid hokg
  have HT := Lib.hid (apart_texts HOKF.out hokg)
  clear hokg
  have KB := Lib.hid (And.intro k3 (And.intro k4 hbw))
  clear hbw k4
  obtain ⟨s1, h1⟩ : ∃ s, f.tx false = s := ⟨_, rfl⟩
  obtain ⟨s2, h2⟩ : ∃ s, g.tx false = s := ⟨_, rfl⟩
  obtain ⟨s3, h3⟩ : ∃ s, f.tx true = s := ⟨_, rfl⟩
  obtain ⟨s4, h4⟩ : ∃ s, g.tx true = s := ⟨_, rfl⟩
  obtain ⟨s5, h5⟩ : ∃ s, joinS ⟨#[32]⟩ f.pw = s := ⟨_, rfl⟩
  obtain ⟨s6, h6⟩ : ∃ s, joinS ⟨#[32]⟩ g.pw = s := ⟨_, rfl⟩
  rw [h1, h2, h3, h4, h5, h6] at HT
  have H1 := Lib.hid h1
  have H2 := Lib.hid h2
  have H3 := Lib.hid h3
  have H4 := Lib.hid h4
  have H5 := Lib.hid h5
  have H6 := Lib.hid h6
  clear h1 h2 h3 h4 h5 h6
  -- Form f
  obtain ⟨-, p1, q1, p2, q2, c0, c1, c2, c3, hvf⟩ := k3
  go_wp2_with fail
  refine (form_any f (by omega) _ _ hvf).mono ?_
  rintro e w5 ⟨rfl, hb5⟩
  rw [HOKF.out, H1.out, show ∀ x, ansR true x = .tuple #[.string x, .int .i64 0] from fun _ => rfl]
  obtain ⟨k3, k4, hbw⟩ := KB.out
  replace k3 := k3.up hb5
  replace k4 := k4.up hb5
  replace hbw := hbw.trans (hb5.mono hbw.size)
  clear KB hb5 c0 c1 c2 c3 hvf
  have KB := Lib.hid (And.intro k3 (And.intro k4 hbw))
  clear hbw k3
  obtain ⟨-, p1, q1, p2, q2, c0, c1, c2, c3, hvg⟩ := k4
  go_wp2_with fail
  refine (form_any g (by omega) _ _ hvg).mono ?_
  rintro e w6 ⟨rfl, hb6⟩
  rw [HOKG.out, H2.out, show ∀ x, ansR true x = .tuple #[.string x, .int .i64 0] from fun _ => rfl]
  obtain ⟨k3, k4, hbw⟩ := KB.out
  replace k3 := k3.up hb6
  replace k4 := k4.up hb6
  replace hbw := hbw.trans (hb6.mono hbw.size)
  clear KB hb6 c0 c1 c2 c3 hvg
  have KB := Lib.hid (And.intro k3 (And.intro k4 hbw))
  clear hbw k4
  obtain ⟨-, p1, q1, p2, q2, c0, c1, c2, c3, hvf⟩ := k3
  go_wp2_with fail
  refine (full_any f (by omega) _ _ hvf).mono ?_
  rintro e w7 ⟨rfl, hb7⟩
  rw [HOKF.out, H3.out, show ∀ x, ansR true x = .tuple #[.string x, .int .i64 0] from fun _ => rfl]
  obtain ⟨k3, k4, hbw⟩ := KB.out
  replace k3 := k3.up hb7
  replace k4 := k4.up hb7
  replace hbw := hbw.trans (hb7.mono hbw.size)
  clear KB hb7 c0 c1 c2 c3 hvf
  have KB := Lib.hid (And.intro k3 (And.intro k4 hbw))
  clear hbw k3
  obtain ⟨-, p1, q1, p2, q2, c0, c1, c2, c3, hvg⟩ := k4
  go_wp2_with fail
  refine (full_any g (by omega) _ _ hvg).mono ?_
  rintro e w8 ⟨rfl, hb8⟩
  rw [HOKG.out, H4.out, show ∀ x, ansR true x = .tuple #[.string x, .int .i64 0] from fun _ => rfl]
  obtain ⟨k3, k4, hbw⟩ := KB.out
  replace k3 := k3.up hb8
  replace k4 := k4.up hb8
  replace hbw := hbw.trans (hb8.mono hbw.size)
  clear KB hb8 c0 c1 c2 c3 hvg
  have KB := Lib.hid (And.intro k3 (And.intro k4 hbw))
  clear hbw k4
  obtain ⟨-, p1, q1, p2, q2, c0, c1, c2, c3, hvf⟩ := k3
  go_wp2_with fail
  refine (prefix_any f (by omega) _ _ hvf).mono ?_
  rintro e w9 ⟨rfl, hb9⟩
  rw [HOKF.out, H5.out, show ∀ x, ansR true x = .tuple #[.string x, .int .i64 0] from fun _ => rfl]
  obtain ⟨k3, k4, hbw⟩ := KB.out
  replace k3 := k3.up hb9
  replace k4 := k4.up hb9
  replace hbw := hbw.trans (hb9.mono hbw.size)
  clear KB hb9 c0 c1 c2 c3 hvf
  have KB := Lib.hid (And.intro k3 (And.intro k4 hbw))
  clear hbw k3
  obtain ⟨-, p1, q1, p2, q2, c0, c1, c2, c3, hvg⟩ := k4
  go_wp2_with fail
  refine (prefix_any g (by omega) _ _ hvg).mono ?_
  rintro e w10 ⟨rfl, hb10⟩
  rw [HOKG.out, H6.out, show ∀ x, ansR true x = .tuple #[.string x, .int .i64 0] from fun _ => rfl]
  obtain ⟨k3, k4, hbw⟩ := KB.out
  replace k3 := k3.up hb10
  replace k4 := k4.up hb10
  replace hbw := hbw.trans (hb10.mono hbw.size)
  clear KB hb10 c0 c1 c2 c3 hvg
  have KB := Lib.hid hbw
  clear hbw
  obtain ⟨-, p1, q1, p2, q2, c0, c1, c2, c3, hvf⟩ := k3
  obtain ⟨-, p3, q3, p4, q4, d0, d1, d2, d3, hvg⟩ := k4
  go_wp2_with fail
  refine ((same_all _).1 f g (Nat.le_refl _) (by omega) _ _ _ hvf hvg).mono ?_
  rintro e w11 ⟨rfl, hb11⟩
  have hbe := KB.out.trans (hb11.mono KB.out.size)
  clear KB hb11 c0 c1 c2 c3 d0 d1 d2 d3 hvf hvg HOKF HOKG H1 H2 H3 H4 H5 H6
  obtain ⟨t1, t2, t3, t4, t5, t6⟩ := HT.out
  clear HT
  obtain ⟨same, hsame⟩ : ∃ b, eqB f g = b := ⟨_, rfl⟩
  rw [hsame] at t1 t2 t3 ⊢
  clear hsame
  cases same
  · go_wp2_with fail
    go_ret
    exact ⟨rfl, hbe⟩
  · go_wp2_with fail
    go_ret
    exact ⟨rfl, hbe⟩

end Go.Proofs.Ytollifednpjkeaa
