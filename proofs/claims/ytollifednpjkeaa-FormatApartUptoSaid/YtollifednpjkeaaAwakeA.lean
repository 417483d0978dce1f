import Derived.Test.YtollifednpjkeaaFactsC
/-
  The examples of chapter 06.
-/
namespace Go.Proofs.Ytollifednpjkeaa
open Go.RowKit

abbrev fP : Fm := .mk 1 ⟨#[80]⟩ [] []
abbrev fQ : Fm := .mk 1 ⟨#[81]⟩ [] []
abbrev fR : Fm := .mk 1 ⟨#[82]⟩ [] []
abbrev fS : Fm := .mk 1 ⟨#[83]⟩ [] []
abbrev fI : Fm := .mk 16 ⟨#[63, 65]⟩ [.mk true ⟨#[120]⟩ [], .mk true ⟨#[63, 116]⟩ []] []

def awFacts3 : List Fact := [.form fP,
  .form fQ,
  .forms [fP, fQ],
  .form (.mk 5 ⟨#[]⟩ [] [fP, fQ]),
  .form fR,
  .forms [(.mk 5 ⟨#[]⟩ [] [fP, fQ]), fR],
  .is (.tuple #[.string ⟨#[80, 32, 124, 32, 81, 44, 32, 82]⟩, .int .i64 0]),
  .is (.tuple #[.string ⟨#[80, 32, 124, 32, 81, 44, 32, 82]⟩, .int .i64 0]),
  .is (.string ⟨#[80, 32, 124, 32, 81, 44, 32, 82]⟩),
  .is (.int .i64 0),
  .is (.string ⟨#[80, 32, 124, 32, 81, 44, 32, 82]⟩),
  .is (.int .i64 0)]
def awPs3 (i : Nat) (v : Value) (W : World) : Prop := ((awFacts3[i]?).getD (.is undef)).holds v W
def awFacts4 : List Fact := [.form fP,
  .form fQ,
  .forms [fP, fQ],
  .form (.mk 4 ⟨#[]⟩ [] [fP, fQ]),
  .form fR,
  .forms [(.mk 4 ⟨#[]⟩ [] [fP, fQ]), fR],
  .form (.mk 4 ⟨#[]⟩ [] [(.mk 4 ⟨#[]⟩ [] [fP, fQ]), fR]),
  .is (.bool true),
  .is (.bool true),
  .form fP,
  .form fQ,
  .form fR,
  .forms [fQ, fR],
  .form (.mk 4 ⟨#[]⟩ [] [fQ, fR]),
  .forms [fP, (.mk 4 ⟨#[]⟩ [] [fQ, fR])],
  .form (.mk 4 ⟨#[]⟩ [] [fP, (.mk 4 ⟨#[]⟩ [] [fQ, fR])]),
  .is (.bool true),
  .is (.bool true),
  .is (.bool true),
  .form fP,
  .form fQ,
  .form fR,
  .form fS,
  .forms [fR, fS],
  .form (.mk 5 ⟨#[]⟩ [] [fR, fS]),
  .forms [(.mk 5 ⟨#[]⟩ [] [fR, fS])],
  .form (.mk 3 ⟨#[]⟩ [] [(.mk 5 ⟨#[]⟩ [] [fR, fS])]),
  .forms [fQ, (.mk 3 ⟨#[]⟩ [] [(.mk 5 ⟨#[]⟩ [] [fR, fS])])],
  .form (.mk 6 ⟨#[]⟩ [] [fQ, (.mk 3 ⟨#[]⟩ [] [(.mk 5 ⟨#[]⟩ [] [fR, fS])])]),
  .forms [fP, (.mk 6 ⟨#[]⟩ [] [fQ, (.mk 3 ⟨#[]⟩ [] [(.mk 5 ⟨#[]⟩ [] [fR, fS])])])],
  .form (.mk 6 ⟨#[]⟩ [] [fP, (.mk 6 ⟨#[]⟩ [] [fQ, (.mk 3 ⟨#[]⟩ [] [(.mk 5 ⟨#[]⟩ [] [fR, fS])])])]),
  .is (.bool true),
  .is (.bool true),
  .is (.bool true),
  .term (.mk true ⟨#[120]⟩ []),
  .term (.mk false ⟨#[97]⟩ []),
  .terms [(.mk false ⟨#[97]⟩ [])],
  .term (.mk false ⟨#[102]⟩ [(.mk false ⟨#[97]⟩ [])]),
  .terms [(.mk true ⟨#[120]⟩ []), (.mk false ⟨#[102]⟩ [(.mk false ⟨#[97]⟩ [])])],
  .form (.mk 1 ⟨#[80]⟩ [(.mk true ⟨#[120]⟩ []), (.mk false ⟨#[102]⟩ [(.mk false ⟨#[97]⟩ [])])] []),
  .form fQ,
  .forms [(.mk 1 ⟨#[80]⟩ [(.mk true ⟨#[120]⟩ []), (.mk false ⟨#[102]⟩ [(.mk false ⟨#[97]⟩ [])])] []), fQ],
  .form (.mk 6 ⟨#[]⟩ [] [(.mk 1 ⟨#[80]⟩ [(.mk true ⟨#[120]⟩ []), (.mk false ⟨#[102]⟩ [(.mk false ⟨#[97]⟩ [])])] []), fQ]),
  .forms [(.mk 6 ⟨#[]⟩ [] [(.mk 1 ⟨#[80]⟩ [(.mk true ⟨#[120]⟩ []), (.mk false ⟨#[102]⟩ [(.mk false ⟨#[97]⟩ [])])] []), fQ])],
  .form (.mk 8 ⟨#[120]⟩ [] [(.mk 6 ⟨#[]⟩ [] [(.mk 1 ⟨#[80]⟩ [(.mk true ⟨#[120]⟩ []), (.mk false ⟨#[102]⟩ [(.mk false ⟨#[97]⟩ [])])] []), fQ])]),
  .is (.bool true),
  .is (.bool true),
  .is (.bool true),
  .form fP,
  .form fQ,
  .forms [fP, fQ],
  .form (.mk 14 ⟨#[]⟩ [] [fP, fQ]),
  .form fR,
  .forms [(.mk 14 ⟨#[]⟩ [] [fP, fQ]), fR],
  .form (.mk 14 ⟨#[]⟩ [] [(.mk 14 ⟨#[]⟩ [] [fP, fQ]), fR]),
  .is (.bool true),
  .is (.bool true),
  .is (.bool true),
  .form fI,
  .forms [fI],
  .form (.mk 10 ⟨#[]⟩ [] [fI]),
  .forms [(.mk 10 ⟨#[]⟩ [] [fI])],
  .form (.mk 12 ⟨#[]⟩ [] [(.mk 10 ⟨#[]⟩ [] [fI])]),
  .form (.mk 2 ⟨#[]⟩ [] []),
  .forms [(.mk 12 ⟨#[]⟩ [] [(.mk 10 ⟨#[]⟩ [] [fI])]), (.mk 2 ⟨#[]⟩ [] [])],
  .form (.mk 7 ⟨#[]⟩ [] [(.mk 12 ⟨#[]⟩ [] [(.mk 10 ⟨#[]⟩ [] [fI])]), (.mk 2 ⟨#[]⟩ [] [])]),
  .is (.bool true),
  .is (.bool true),
  .is (.bool true),
  .is (.int .i64 0),
  .is (.bool true),
  .is (.bool true),
  .is (.bool true),
  .is (.string ⟨#[80, 32, 124, 32, 81, 44, 32, 82]⟩),
  .is (.bool true),
  .is (.bool true),
  .is (.bool true)]
def awPs4 (i : Nat) (v : Value) (W : World) : Prop := ((awFacts4[i]?).getD (.is undef)).holds v W

set_option maxRecDepth 100000 in
set_option maxHeartbeats 2000000 in
theorem awake06 (w : World) : Calls Try.prog 6 #[] w fun e w' => e = .returned (.bool true) ∧ Below w.heap.size w w' := by
  go_enter Try.func6, Try.ntmps6
  go_upto_region 2 with (first | (go_at_call 14; refine (pR_any _ _ _ ⟨_, _, _, rfl⟩).mono ?_; rintro e w1 ⟨rfl, hb1⟩))
  rename_i wA hA wB hB wC hC _ _
  have hbA : Below w.heap.size w w1 := ((hA.trans (hB.mono hA.size)).trans (hC.mono (Nat.le_trans hA.size hB.size))).trans (hb1.mono (Nat.le_trans hA.size (Nat.le_trans hB.size hC.size)))
  obtain ⟨n, hn⟩ : ∃ n, w1.heap.size = n := ⟨_, rfl⟩
  have k1 := fmBox_alloc (W := w1) (f := fP) (ax := none) (ay := none) (cx := 0) (cy := 0) (fmVal_mk (terms_nil _) (forms_nil _) (by decide) (by decide) (by decide))
  obtain ⟨w2, hw2⟩ : ∃ w2, w1.alloc (.cells #[.int .u8 1, .string ⟨#[80]⟩, .slice none 0 0, .slice none 0 0] 25) = w2 := ⟨_, rfl⟩
  have k2 := fmBox_alloc (W := w2) (f := fQ) (ax := none) (ay := none) (cx := 0) (cy := 0) (fmVal_mk (terms_nil _) (forms_nil _) (by decide) (by decide) (by decide))
  obtain ⟨w3, hw3⟩ : ∃ w3, w2.alloc (.cells #[.int .u8 1, .string ⟨#[81]⟩, .slice none 0 0, .slice none 0 0] 25) = w3 := ⟨_, rfl⟩
  have k3 := fmBox_alloc (W := w3) (f := fR) (ax := none) (ay := none) (cx := 0) (cy := 0) (fmVal_mk (terms_nil _) (forms_nil _) (by decide) (by decide) (by decide))
  obtain ⟨w4, hw4⟩ : ∃ w4, w3.alloc (.cells #[.int .u8 1, .string ⟨#[82]⟩, .slice none 0 0, .slice none 0 0] 25) = w4 := ⟨_, rfl⟩
  have k4 := fmBox_alloc (W := w4) (f := fS) (ax := none) (ay := none) (cx := 0) (cy := 0) (fmVal_mk (terms_nil _) (forms_nil _) (by decide) (by decide) (by decide))
  obtain ⟨w5, hw5⟩ : ∃ w5, w4.alloc (.cells #[.int .u8 1, .string ⟨#[83]⟩, .slice none 0 0, .slice none 0 0] 25) = w5 := ⟨_, rfl⟩
  have s2 : w2.heap.size = n + 1 := by rw [← hw2, ← hn]; simp
  have s3 : w3.heap.size = n + 2 := by rw [← hw3]; simp [s2]
  have s4 : w4.heap.size = n + 3 := by rw [← hw4]; simp [s3]
  have s5 : w5.heap.size = n + 4 := by rw [← hw5]; simp [s4]
  have b2 : Below w1.heap.size w1 w2 := by rw [← hw2]; exact (Below.refl _ _).alloc (Nat.le_refl _) _
  have b3 : Below w2.heap.size w2 w3 := by rw [← hw3]; exact (Below.refl _ _).alloc (Nat.le_refl _) _
  have b4 : Below w3.heap.size w3 w4 := by rw [← hw4]; exact (Below.refl _ _).alloc (Nat.le_refl _) _
  have b5 : Below w4.heap.size w4 w5 := by rw [← hw5]; exact (Below.refl _ _).alloc (Nat.le_refl _) _
  have k1 : FmBox n fP w5 := by
    have h : FmBox w1.heap.size fP w2 := by rw [← hw2]; exact k1
    rw [hn] at h; exact ((h.up b3).up b4).up b5
  have k2 : FmBox (n + 1) fQ w5 := by
    have h : FmBox w2.heap.size fQ w3 := by rw [← hw3]; exact k2
    rw [s2] at h; exact (h.up b4).up b5
  have k3 : FmBox (n + 1 + 1) fR w5 := by
    have h : FmBox w3.heap.size fR w4 := by rw [← hw4]; exact k3
    rw [s3] at h; exact h.up b5
  have k4 : FmBox (n + 1 + 1 + 1) fS w5 := by
    have h : FmBox w4.heap.size fS w5 := by rw [← hw5]; exact k4
    rw [s4] at h; exact h
  have hb5 : Below w.heap.size w w5 := (((hbA.trans (b2.mono hbA.size)).trans (b3.mono (by have := hbA.size; omega))).trans (b4.mono (by have := hbA.size; omega))).trans (b5.mono (by have := hbA.size; omega))
  rw [hw2, hw3, hw4, hw5]
  simp only [hn]
  have K := Lib.hid (And.intro k1 (And.intro k2 (And.intro k3 (And.intro k4 (And.intro hb5 s5)))))
  clear hA hB hC hb1 hbA k1 k2 k3 k4 hb5 hw2 hw3 hw4 hw5 s2 s3 s4 s5 b2 b3 b4 b5 hn
  go_upto_region 3 with (first | (go_at_call 21; refine (vR_any _ _).mono ?_; rintro e w6 ⟨rfl, hb6⟩))
  rename_i wF hF _ _
  obtain ⟨k1, k2, k3, k4, hb5, s5⟩ := K.out
  have hb56 : Below w5.heap.size w5 w6 := hF.trans (hb6.mono hF.size)
  obtain ⟨m, hm⟩ : ∃ m, w6.heap.size = m := ⟨_, rfl⟩
  obtain ⟨w7, hw7⟩ : ∃ w7, w6.alloc (.cells #[.bool true, .string ⟨#[120]⟩, .slice none 0 0, .bool true, .string ⟨#[63, 116]⟩, .slice none 0 0] 34) = w7 := ⟨_, rfl⟩
  have b7 : Below w6.heap.size w6 w7 := by rw [← hw7]; exact (Below.refl _ _).alloc (Nat.le_refl _) _
  have s7 : w7.heap.size = m + 1 := by rw [← hw7, ← hm]; simp
  have hc7 : ∀ j, w7.cell? ⟨m, j, none⟩ = (#[.bool true, .string ⟨#[120]⟩, .slice none 0 0, .bool true, .string ⟨#[63, 116]⟩, .slice none 0 0] : Array Value)[j]? := fun j => by rw [← hw7, World.cell?_alloc_at _ _ _ _ hm.symm]
  have hts : TmsAt w7 (.slice (some ⟨m, 0, none⟩) 2 2) [.mk true ⟨#[120]⟩ [], .mk true ⟨#[63, 116]⟩ []] := by
    refine TmsAt.row (W := w7) m 0 2 [.mk true ⟨#[120]⟩ [], .mk true ⟨#[63, 116]⟩ []] (fun _ => .slice none 0 0) (Nat.succ_pos _) (Nat.le_refl _) (by unfold maxLen; decide) (by omega) (fun i h => ?_) (fun i h => ?_)
    · match i, h with
      | 0, _ => exact ⟨hc7 0, hc7 1, hc7 2, by show 1 ≤ maxLen; decide⟩
      | 1, _ => exact ⟨hc7 3, hc7 4, hc7 5, by show 2 ≤ maxLen; decide⟩
    · match i, h with
      | 0, _ => exact terms_nil _
      | 1, _ => exact terms_nil _
  have k5 := fmBox_alloc (W := w7) (f := fI) (ax := some ⟨m, 0, none⟩) (ay := none) (cx := 2) (cy := 0) (fmVal_mk hts (forms_nil _) (by decide) (by decide) (by decide))
  obtain ⟨w8, hw8⟩ : ∃ w8, w7.alloc (.cells #[.int .u8 16, .string ⟨#[63, 65]⟩, .slice (some ⟨m, 0, none⟩) 2 2, .slice none 0 0] 25) = w8 := ⟨_, rfl⟩
  have b8 : Below w7.heap.size w7 w8 := by rw [← hw8]; exact (Below.refl _ _).alloc (Nat.le_refl _) _
  have k5 : FmBox (m + 1) fI w8 := by
    have h : FmBox w7.heap.size fI w8 := by rw [← hw8]; exact k5
    rw [s7] at h; exact h
  have hb58 : Below w5.heap.size w5 w8 := (hb56.trans (b7.mono hb56.size)).trans (b8.mono (by have := hb56.size; omega))
  have hb8 : Below w.heap.size w w8 := hb5.trans (hb58.mono hb5.size)
  have k1 := k1.up hb58
  have k2 := k2.up hb58
  have k3 := k3.up hb58
  have k4 := k4.up hb58
  simp only [hm]
  rw [hw7, hw8]
  clear hF hb6 hb56 hb58 b7 b8 s5 s7 hc7 hts hw7 hw8 hm hb5 K
  refine wp_region_facts awPs3 (by kernel_rfl) (by kernel_rfl) (fun i v A B h hb => Fact.up _ h hb) ?steps ?fin
  case steps =>
    have hX1 : ∀ W, Below w8.drew.heap.size w8.drew W → FmBox (n) fP W := fun W h => (k1.up ((Below.refl _ _).drew)).up h
    have hX2 : ∀ W, Below w8.drew.heap.size w8.drew W → FmBox (n + 1) fQ W := fun W h => (k2.up ((Below.refl _ _).drew)).up h
    have hX3 : ∀ W, Below w8.drew.heap.size w8.drew W → FmBox (n + 1 + 1) fR W := fun W h => (k3.up ((Below.refl _ _).drew)).up h
    refine ⟨fun a w hA hD => ?_, ?_⟩
    · rw [if_pos (by rfl)]
      exact st_load rfl ((hA.out 1 (out_of (by kernel_rfl))).trans (by rfl)) (hX1 w hA.below)
    refine ⟨fun a w hA hD => ?_, ?_⟩
    · rw [if_pos (by rfl)]
      exact st_load rfl ((hA.out 2 (out_of (by kernel_rfl))).trans (by rfl)) (hX2 w hA.below)
    refine ⟨fun a w hA hD => ?_, ?_⟩
    · rw [if_pos (by rfl)]
      obtain ⟨u17, h17, p17⟩ := hD 0 (by kernel_rfl) 17 (by rfl)
      obtain ⟨u18, h18, p18⟩ := hD 1 (by kernel_rfl) 18 (by rfl)
      exact st_forms2 rfl h17 p17 h18 p18
    refine ⟨fun a w hA hD => ?_, ?_⟩
    · rw [if_pos (by rfl)]
      obtain ⟨u19, h19, p19⟩ := hD 2 (by kernel_rfl) 19 (by rfl)
      exact st_of rfl h19 p19 (by decide) (by decide) (by decide)
    refine ⟨fun a w hA hD => ?_, ?_⟩
    · rw [if_pos (by rfl)]
      exact st_load rfl ((hA.out 3 (out_of (by kernel_rfl))).trans (by rfl)) (hX3 w hA.below)
    refine ⟨fun a w hA hD => ?_, ?_⟩
    · rw [if_pos (by rfl)]
      obtain ⟨u20, h20, p20⟩ := hD 3 (by kernel_rfl) 20 (by rfl)
      obtain ⟨u21, h21, p21⟩ := hD 4 (by kernel_rfl) 21 (by rfl)
      exact st_forms2 rfl h20 p20 h21 p21
    refine ⟨fun a w hA hD => ?_, ?_⟩
    · rw [if_pos (by rfl)]
      obtain ⟨u22, h22, p22⟩ := hD 5 (by kernel_rfl) 22 (by rfl)
      exact st_Forms rfl h22 p22 (by decide +kernel) (by decide +kernel) (by decide +kernel)
    refine ⟨fun a w hA hD => ?_, ?_⟩
    · rw [if_pos (by rfl)]
      obtain ⟨u23, h23, p23⟩ := hD 6 (by kernel_rfl) 23 (by rfl)
      exact st_move (F := .is (.tuple #[.string ⟨#[80, 32, 124, 32, 81, 44, 32, 82]⟩, .int .i64 0])) rfl h23 p23
    refine ⟨fun a w hA hD => ?_, ?_⟩
    · rw [if_pos (by rfl)]
      obtain ⟨u16, h16, p16⟩ := hD 7 (by kernel_rfl) 16 (by rfl)
      obtain rfl : u16 = _ := p16
      exact st_extract rfl h16 rfl
    refine ⟨fun a w hA hD => ?_, ?_⟩
    · rw [if_pos (by rfl)]
      obtain ⟨u16, h16, p16⟩ := hD 7 (by kernel_rfl) 16 (by rfl)
      obtain rfl : u16 = _ := p16
      exact st_extract rfl h16 rfl
    refine ⟨fun a w hA hD => ?_, ?_⟩
    · rw [if_pos (by rfl)]
      obtain ⟨u24, h24, p24⟩ := hD 8 (by kernel_rfl) 24 (by rfl)
      exact st_assign (F := .is (.string ⟨#[80, 32, 124, 32, 81, 44, 32, 82]⟩)) rfl h24 p24
    refine ⟨fun a w hA hD => ?_, ?_⟩
    · rw [if_pos (by rfl)]
      obtain ⟨u25, h25, p25⟩ := hD 9 (by kernel_rfl) 25 (by rfl)
      exact st_assign (F := .is (.int .i64 0)) rfl h25 p25
    trivial
  case fin =>
    intro a3 W3 hA3 hG3
    obtain ⟨u6, h6, p6⟩ := hG3 10 6 (by rfl)
    obtain rfl : u6 = .string ⟨#[80, 32, 124, 32, 81, 44, 32, 82]⟩ := p6
    obtain ⟨u7, h7, p7⟩ := hG3 11 7 (by rfl)
    obtain rfl : u7 = .int .i64 0 := p7
    have HT1 : a3.tmps[1]? = some (.pointer (some ⟨n, 0, none⟩)) := (hA3.out 1 (out_of (by kernel_rfl))).trans (by rfl)
    have HT2 : a3.tmps[2]? = some (.pointer (some ⟨n + 1, 0, none⟩)) := (hA3.out 2 (out_of (by kernel_rfl))).trans (by rfl)
    have HT3 : a3.tmps[3]? = some (.pointer (some ⟨n + 1 + 1, 0, none⟩)) := (hA3.out 3 (out_of (by kernel_rfl))).trans (by rfl)
    have HT4 : a3.tmps[4]? = some (.pointer (some ⟨n + 1 + 1 + 1, 0, none⟩)) := (hA3.out 4 (out_of (by kernel_rfl))).trans (by rfl)
    have HT5 : a3.tmps[5]? = some (.pointer (some ⟨m + 1, 0, none⟩)) := (hA3.out 5 (out_of (by kernel_rfl))).trans (by rfl)
    have HT6 := h6
    have HT7 := h7
    have hsz : a3.tmps.size = 102 := hA3.size.trans (by rfl)
    have hdf : a3.defers = [] := hA3.defers
    have hb3 : Below w8.heap.size w8 W3 := ((Below.refl _ _).drew).trans hA3.below
    clear hA3 hG3 h6 h7
    go_upto_region 4 with fail
    refine wp_region_facts awPs4 (by kernel_rfl) (by rw [hsz]; kernel_rfl) (fun i v A B h hb => Fact.up _ h hb) ?steps4 ?fin4
    case steps4 =>
      have hX1 : ∀ W, Below W3.drew.heap.size W3.drew W → FmBox (n) fP W := fun W h => ((k1.up hb3).up ((Below.refl _ _).drew)).up h
      have hX2 : ∀ W, Below W3.drew.heap.size W3.drew W → FmBox (n + 1) fQ W := fun W h => ((k2.up hb3).up ((Below.refl _ _).drew)).up h
      have hX3 : ∀ W, Below W3.drew.heap.size W3.drew W → FmBox (n + 1 + 1) fR W := fun W h => ((k3.up hb3).up ((Below.refl _ _).drew)).up h
      have hX4 : ∀ W, Below W3.drew.heap.size W3.drew W → FmBox (n + 1 + 1 + 1) fS W := fun W h => ((k4.up hb3).up ((Below.refl _ _).drew)).up h
      have hX5 : ∀ W, Below W3.drew.heap.size W3.drew W → FmBox (m + 1) fI W := fun W h => ((k5.up hb3).up ((Below.refl _ _).drew)).up h
      refine ⟨fun a w hA hD => ?_, ?_⟩
      · rw [if_pos (by rfl)]
        exact st_load rfl ((hA.out 1 (out_of (by kernel_rfl))).trans HT1) (hX1 w hA.below)
      refine ⟨fun a w hA hD => ?_, ?_⟩
      · rw [if_pos (by rfl)]
        exact st_load rfl ((hA.out 2 (out_of (by kernel_rfl))).trans HT2) (hX2 w hA.below)
      refine ⟨fun a w hA hD => ?_, ?_⟩
      · rw [if_pos (by rfl)]
        obtain ⟨u26, h26, p26⟩ := hD 0 (by kernel_rfl) 26 (by rfl)
        obtain ⟨u27, h27, p27⟩ := hD 1 (by kernel_rfl) 27 (by rfl)
        exact st_forms2 rfl h26 p26 h27 p27
      refine ⟨fun a w hA hD => ?_, ?_⟩
      · rw [if_pos (by rfl)]
        obtain ⟨u28, h28, p28⟩ := hD 2 (by kernel_rfl) 28 (by rfl)
        exact st_of rfl h28 p28 (by decide) (by decide) (by decide)
      refine ⟨fun a w hA hD => ?_, ?_⟩
      · rw [if_pos (by rfl)]
        exact st_load rfl ((hA.out 3 (out_of (by kernel_rfl))).trans HT3) (hX3 w hA.below)
      refine ⟨fun a w hA hD => ?_, ?_⟩
      · rw [if_pos (by rfl)]
        obtain ⟨u29, h29, p29⟩ := hD 3 (by kernel_rfl) 29 (by rfl)
        obtain ⟨u30, h30, p30⟩ := hD 4 (by kernel_rfl) 30 (by rfl)
        exact st_forms2 rfl h29 p29 h30 p30
      refine ⟨fun a w hA hD => ?_, ?_⟩
      · rw [if_pos (by rfl)]
        obtain ⟨u31, h31, p31⟩ := hD 5 (by kernel_rfl) 31 (by rfl)
        exact st_of rfl h31 p31 (by decide) (by decide) (by decide)
      refine ⟨fun a w hA hD => ?_, ?_⟩
      · rw [if_pos (by rfl)]
        obtain ⟨u32, h32, p32⟩ := hD 6 (by kernel_rfl) 32 (by rfl)
        exact st_writes rfl h32 p32 (by decide +kernel) (by decide +kernel) (by decide +kernel) (by decide +kernel) (by decide +kernel)
      refine ⟨fun a w hA hD => ?_, ?_⟩
      · rw [if_pos (by rfl)]
        obtain ⟨u33, h33, p33⟩ := hD 7 (by kernel_rfl) 33 (by rfl)
        exact st_move (F := .is (.bool true)) rfl h33 p33
      refine ⟨fun a w hA hD => ?_, ?_⟩
      · obtain ⟨g0, hg, pg⟩ := hD 8 (by kernel_rfl) 34 (by rfl)
        obtain rfl : g0 = .bool true := pg
        rw [if_pos (wanted_of rfl (by rfl) hg)]
        exact st_load rfl ((hA.out 1 (out_of (by kernel_rfl))).trans HT1) (hX1 w hA.below)
      refine ⟨fun a w hA hD => ?_, ?_⟩
      · obtain ⟨g0, hg, pg⟩ := hD 8 (by kernel_rfl) 34 (by rfl)
        obtain rfl : g0 = .bool true := pg
        rw [if_pos (wanted_of rfl (by rfl) hg)]
        exact st_load rfl ((hA.out 2 (out_of (by kernel_rfl))).trans HT2) (hX2 w hA.below)
      refine ⟨fun a w hA hD => ?_, ?_⟩
      · obtain ⟨g0, hg, pg⟩ := hD 8 (by kernel_rfl) 34 (by rfl)
        obtain rfl : g0 = .bool true := pg
        rw [if_pos (wanted_of rfl (by rfl) hg)]
        exact st_load rfl ((hA.out 3 (out_of (by kernel_rfl))).trans HT3) (hX3 w hA.below)
      refine ⟨fun a w hA hD => ?_, ?_⟩
      · obtain ⟨g0, hg, pg⟩ := hD 8 (by kernel_rfl) 34 (by rfl)
        obtain rfl : g0 = .bool true := pg
        rw [if_pos (wanted_of rfl (by rfl) hg)]
        obtain ⟨u36, h36, p36⟩ := hD 10 (by kernel_rfl) 36 (by rfl)
        obtain ⟨u37, h37, p37⟩ := hD 11 (by kernel_rfl) 37 (by rfl)
        exact st_forms2 rfl h36 p36 h37 p37
      refine ⟨fun a w hA hD => ?_, ?_⟩
      · obtain ⟨g0, hg, pg⟩ := hD 8 (by kernel_rfl) 34 (by rfl)
        obtain rfl : g0 = .bool true := pg
        rw [if_pos (wanted_of rfl (by rfl) hg)]
        obtain ⟨u38, h38, p38⟩ := hD 12 (by kernel_rfl) 38 (by rfl)
        exact st_of rfl h38 p38 (by decide) (by decide) (by decide)
      refine ⟨fun a w hA hD => ?_, ?_⟩
      · obtain ⟨g0, hg, pg⟩ := hD 8 (by kernel_rfl) 34 (by rfl)
        obtain rfl : g0 = .bool true := pg
        rw [if_pos (wanted_of rfl (by rfl) hg)]
        obtain ⟨u35, h35, p35⟩ := hD 9 (by kernel_rfl) 35 (by rfl)
        obtain ⟨u39, h39, p39⟩ := hD 13 (by kernel_rfl) 39 (by rfl)
        exact st_forms2 rfl h35 p35 h39 p39
      refine ⟨fun a w hA hD => ?_, ?_⟩
      · obtain ⟨g0, hg, pg⟩ := hD 8 (by kernel_rfl) 34 (by rfl)
        obtain rfl : g0 = .bool true := pg
        rw [if_pos (wanted_of rfl (by rfl) hg)]
        obtain ⟨u40, h40, p40⟩ := hD 14 (by kernel_rfl) 40 (by rfl)
        exact st_of rfl h40 p40 (by decide) (by decide) (by decide)
      refine ⟨fun a w hA hD => ?_, ?_⟩
      · obtain ⟨g0, hg, pg⟩ := hD 8 (by kernel_rfl) 34 (by rfl)
        obtain rfl : g0 = .bool true := pg
        rw [if_pos (wanted_of rfl (by rfl) hg)]
        obtain ⟨u41, h41, p41⟩ := hD 15 (by kernel_rfl) 41 (by rfl)
        exact st_writes rfl h41 p41 (by decide +kernel) (by decide +kernel) (by decide +kernel) (by decide +kernel) (by decide +kernel)
      refine ⟨fun a w hA hD => ?_, ?_⟩
      · rw [if_pos (by rfl)]
        obtain ⟨u34, h34, p34⟩ := hD 8 (by kernel_rfl) 34 (by rfl)
        obtain ⟨u42, h42, p42⟩ := hD 16 (by kernel_rfl) 42 (by rfl)
        obtain rfl : u34 = .bool true := p34
        exact st_pick (F := .is (.bool true)) rfl h34 h42 p42
      refine ⟨fun a w hA hD => ?_, ?_⟩
      · rw [if_pos (by rfl)]
        obtain ⟨u43, h43, p43⟩ := hD 17 (by kernel_rfl) 43 (by rfl)
        exact st_move (F := .is (.bool true)) rfl h43 p43
      refine ⟨fun a w hA hD => ?_, ?_⟩
      · obtain ⟨g0, hg, pg⟩ := hD 18 (by kernel_rfl) 44 (by rfl)
        obtain rfl : g0 = .bool true := pg
        rw [if_pos (wanted_of rfl (by rfl) hg)]
        exact st_load rfl ((hA.out 1 (out_of (by kernel_rfl))).trans HT1) (hX1 w hA.below)
      refine ⟨fun a w hA hD => ?_, ?_⟩
      · obtain ⟨g0, hg, pg⟩ := hD 18 (by kernel_rfl) 44 (by rfl)
        obtain rfl : g0 = .bool true := pg
        rw [if_pos (wanted_of rfl (by rfl) hg)]
        exact st_load rfl ((hA.out 2 (out_of (by kernel_rfl))).trans HT2) (hX2 w hA.below)
      refine ⟨fun a w hA hD => ?_, ?_⟩
      · obtain ⟨g0, hg, pg⟩ := hD 18 (by kernel_rfl) 44 (by rfl)
        obtain rfl : g0 = .bool true := pg
        rw [if_pos (wanted_of rfl (by rfl) hg)]
        exact st_load rfl ((hA.out 3 (out_of (by kernel_rfl))).trans HT3) (hX3 w hA.below)
      refine ⟨fun a w hA hD => ?_, ?_⟩
      · obtain ⟨g0, hg, pg⟩ := hD 18 (by kernel_rfl) 44 (by rfl)
        obtain rfl : g0 = .bool true := pg
        rw [if_pos (wanted_of rfl (by rfl) hg)]
        exact st_load rfl ((hA.out 4 (out_of (by kernel_rfl))).trans HT4) (hX4 w hA.below)
      refine ⟨fun a w hA hD => ?_, ?_⟩
      · obtain ⟨g0, hg, pg⟩ := hD 18 (by kernel_rfl) 44 (by rfl)
        obtain rfl : g0 = .bool true := pg
        rw [if_pos (wanted_of rfl (by rfl) hg)]
        obtain ⟨u47, h47, p47⟩ := hD 21 (by kernel_rfl) 47 (by rfl)
        obtain ⟨u48, h48, p48⟩ := hD 22 (by kernel_rfl) 48 (by rfl)
        exact st_forms2 rfl h47 p47 h48 p48
      refine ⟨fun a w hA hD => ?_, ?_⟩
      · obtain ⟨g0, hg, pg⟩ := hD 18 (by kernel_rfl) 44 (by rfl)
        obtain rfl : g0 = .bool true := pg
        rw [if_pos (wanted_of rfl (by rfl) hg)]
        obtain ⟨u49, h49, p49⟩ := hD 23 (by kernel_rfl) 49 (by rfl)
        exact st_of rfl h49 p49 (by decide) (by decide) (by decide)
      refine ⟨fun a w hA hD => ?_, ?_⟩
      · obtain ⟨g0, hg, pg⟩ := hD 18 (by kernel_rfl) 44 (by rfl)
        obtain rfl : g0 = .bool true := pg
        rw [if_pos (wanted_of rfl (by rfl) hg)]
        obtain ⟨u50, h50, p50⟩ := hD 24 (by kernel_rfl) 50 (by rfl)
        exact st_forms1 rfl h50 p50
      refine ⟨fun a w hA hD => ?_, ?_⟩
      · obtain ⟨g0, hg, pg⟩ := hD 18 (by kernel_rfl) 44 (by rfl)
        obtain rfl : g0 = .bool true := pg
        rw [if_pos (wanted_of rfl (by rfl) hg)]
        obtain ⟨u51, h51, p51⟩ := hD 25 (by kernel_rfl) 51 (by rfl)
        exact st_of rfl h51 p51 (by decide) (by decide) (by decide)
      refine ⟨fun a w hA hD => ?_, ?_⟩
      · obtain ⟨g0, hg, pg⟩ := hD 18 (by kernel_rfl) 44 (by rfl)
        obtain rfl : g0 = .bool true := pg
        rw [if_pos (wanted_of rfl (by rfl) hg)]
        obtain ⟨u46, h46, p46⟩ := hD 20 (by kernel_rfl) 46 (by rfl)
        obtain ⟨u52, h52, p52⟩ := hD 26 (by kernel_rfl) 52 (by rfl)
        exact st_forms2 rfl h46 p46 h52 p52
      refine ⟨fun a w hA hD => ?_, ?_⟩
      · obtain ⟨g0, hg, pg⟩ := hD 18 (by kernel_rfl) 44 (by rfl)
        obtain rfl : g0 = .bool true := pg
        rw [if_pos (wanted_of rfl (by rfl) hg)]
        obtain ⟨u53, h53, p53⟩ := hD 27 (by kernel_rfl) 53 (by rfl)
        exact st_of rfl h53 p53 (by decide) (by decide) (by decide)
      refine ⟨fun a w hA hD => ?_, ?_⟩
      · obtain ⟨g0, hg, pg⟩ := hD 18 (by kernel_rfl) 44 (by rfl)
        obtain rfl : g0 = .bool true := pg
        rw [if_pos (wanted_of rfl (by rfl) hg)]
        obtain ⟨u45, h45, p45⟩ := hD 19 (by kernel_rfl) 45 (by rfl)
        obtain ⟨u54, h54, p54⟩ := hD 28 (by kernel_rfl) 54 (by rfl)
        exact st_forms2 rfl h45 p45 h54 p54
      refine ⟨fun a w hA hD => ?_, ?_⟩
      · obtain ⟨g0, hg, pg⟩ := hD 18 (by kernel_rfl) 44 (by rfl)
        obtain rfl : g0 = .bool true := pg
        rw [if_pos (wanted_of rfl (by rfl) hg)]
        obtain ⟨u55, h55, p55⟩ := hD 29 (by kernel_rfl) 55 (by rfl)
        exact st_of rfl h55 p55 (by decide) (by decide) (by decide)
      refine ⟨fun a w hA hD => ?_, ?_⟩
      · obtain ⟨g0, hg, pg⟩ := hD 18 (by kernel_rfl) 44 (by rfl)
        obtain rfl : g0 = .bool true := pg
        rw [if_pos (wanted_of rfl (by rfl) hg)]
        obtain ⟨u56, h56, p56⟩ := hD 30 (by kernel_rfl) 56 (by rfl)
        exact st_writes rfl h56 p56 (by decide +kernel) (by decide +kernel) (by decide +kernel) (by decide +kernel) (by decide +kernel)
      refine ⟨fun a w hA hD => ?_, ?_⟩
      · rw [if_pos (by rfl)]
        obtain ⟨u44, h44, p44⟩ := hD 18 (by kernel_rfl) 44 (by rfl)
        obtain ⟨u57, h57, p57⟩ := hD 31 (by kernel_rfl) 57 (by rfl)
        obtain rfl : u44 = .bool true := p44
        exact st_pick (F := .is (.bool true)) rfl h44 h57 p57
      refine ⟨fun a w hA hD => ?_, ?_⟩
      · rw [if_pos (by rfl)]
        obtain ⟨u58, h58, p58⟩ := hD 32 (by kernel_rfl) 58 (by rfl)
        exact st_move (F := .is (.bool true)) rfl h58 p58
      refine ⟨fun a w hA hD => ?_, ?_⟩
      · obtain ⟨g0, hg, pg⟩ := hD 33 (by kernel_rfl) 59 (by rfl)
        obtain rfl : g0 = .bool true := pg
        rw [if_pos (wanted_of rfl (by rfl) hg)]
        exact st_v rfl (by decide)
      refine ⟨fun a w hA hD => ?_, ?_⟩
      · obtain ⟨g0, hg, pg⟩ := hD 33 (by kernel_rfl) 59 (by rfl)
        obtain rfl : g0 = .bool true := pg
        rw [if_pos (wanted_of rfl (by rfl) hg)]
        exact st_cNil rfl (by decide)
      refine ⟨fun a w hA hD => ?_, ?_⟩
      · obtain ⟨g0, hg, pg⟩ := hD 33 (by kernel_rfl) 59 (by rfl)
        obtain rfl : g0 = .bool true := pg
        rw [if_pos (wanted_of rfl (by rfl) hg)]
        obtain ⟨u61, h61, p61⟩ := hD 35 (by kernel_rfl) 61 (by rfl)
        exact st_terms1 rfl h61 p61
      refine ⟨fun a w hA hD => ?_, ?_⟩
      · obtain ⟨g0, hg, pg⟩ := hD 33 (by kernel_rfl) 59 (by rfl)
        obtain rfl : g0 = .bool true := pg
        rw [if_pos (wanted_of rfl (by rfl) hg)]
        obtain ⟨u62, h62, p62⟩ := hD 36 (by kernel_rfl) 62 (by rfl)
        exact st_c rfl h62 p62 (by decide)
      refine ⟨fun a w hA hD => ?_, ?_⟩
      · obtain ⟨g0, hg, pg⟩ := hD 33 (by kernel_rfl) 59 (by rfl)
        obtain rfl : g0 = .bool true := pg
        rw [if_pos (wanted_of rfl (by rfl) hg)]
        obtain ⟨u60, h60, p60⟩ := hD 34 (by kernel_rfl) 60 (by rfl)
        obtain ⟨u63, h63, p63⟩ := hD 37 (by kernel_rfl) 63 (by rfl)
        exact st_terms2 rfl h60 p60 h63 p63
      refine ⟨fun a w hA hD => ?_, ?_⟩
      · obtain ⟨g0, hg, pg⟩ := hD 33 (by kernel_rfl) 59 (by rfl)
        obtain rfl : g0 = .bool true := pg
        rw [if_pos (wanted_of rfl (by rfl) hg)]
        obtain ⟨u64, h64, p64⟩ := hD 38 (by kernel_rfl) 64 (by rfl)
        exact st_p rfl h64 p64 (by decide)
      refine ⟨fun a w hA hD => ?_, ?_⟩
      · obtain ⟨g0, hg, pg⟩ := hD 33 (by kernel_rfl) 59 (by rfl)
        obtain rfl : g0 = .bool true := pg
        rw [if_pos (wanted_of rfl (by rfl) hg)]
        exact st_load rfl ((hA.out 2 (out_of (by kernel_rfl))).trans HT2) (hX2 w hA.below)
      refine ⟨fun a w hA hD => ?_, ?_⟩
      · obtain ⟨g0, hg, pg⟩ := hD 33 (by kernel_rfl) 59 (by rfl)
        obtain rfl : g0 = .bool true := pg
        rw [if_pos (wanted_of rfl (by rfl) hg)]
        obtain ⟨u65, h65, p65⟩ := hD 39 (by kernel_rfl) 65 (by rfl)
        obtain ⟨u66, h66, p66⟩ := hD 40 (by kernel_rfl) 66 (by rfl)
        exact st_forms2 rfl h65 p65 h66 p66
      refine ⟨fun a w hA hD => ?_, ?_⟩
      · obtain ⟨g0, hg, pg⟩ := hD 33 (by kernel_rfl) 59 (by rfl)
        obtain rfl : g0 = .bool true := pg
        rw [if_pos (wanted_of rfl (by rfl) hg)]
        obtain ⟨u67, h67, p67⟩ := hD 41 (by kernel_rfl) 67 (by rfl)
        exact st_of rfl h67 p67 (by decide) (by decide) (by decide)
      refine ⟨fun a w hA hD => ?_, ?_⟩
      · obtain ⟨g0, hg, pg⟩ := hD 33 (by kernel_rfl) 59 (by rfl)
        obtain rfl : g0 = .bool true := pg
        rw [if_pos (wanted_of rfl (by rfl) hg)]
        obtain ⟨u68, h68, p68⟩ := hD 42 (by kernel_rfl) 68 (by rfl)
        exact st_forms1 rfl h68 p68
      refine ⟨fun a w hA hD => ?_, ?_⟩
      · obtain ⟨g0, hg, pg⟩ := hD 33 (by kernel_rfl) 59 (by rfl)
        obtain rfl : g0 = .bool true := pg
        rw [if_pos (wanted_of rfl (by rfl) hg)]
        obtain ⟨u69, h69, p69⟩ := hD 43 (by kernel_rfl) 69 (by rfl)
        exact st_of rfl h69 p69 (by decide) (by decide) (by decide)
      refine ⟨fun a w hA hD => ?_, ?_⟩
      · obtain ⟨g0, hg, pg⟩ := hD 33 (by kernel_rfl) 59 (by rfl)
        obtain rfl : g0 = .bool true := pg
        rw [if_pos (wanted_of rfl (by rfl) hg)]
        obtain ⟨u70, h70, p70⟩ := hD 44 (by kernel_rfl) 70 (by rfl)
        exact st_writes rfl h70 p70 (by decide +kernel) (by decide +kernel) (by decide +kernel) (by decide +kernel) (by decide +kernel)
      refine ⟨fun a w hA hD => ?_, ?_⟩
      · rw [if_pos (by rfl)]
        obtain ⟨u59, h59, p59⟩ := hD 33 (by kernel_rfl) 59 (by rfl)
        obtain ⟨u71, h71, p71⟩ := hD 45 (by kernel_rfl) 71 (by rfl)
        obtain rfl : u59 = .bool true := p59
        exact st_pick (F := .is (.bool true)) rfl h59 h71 p71
      refine ⟨fun a w hA hD => ?_, ?_⟩
      · rw [if_pos (by rfl)]
        obtain ⟨u72, h72, p72⟩ := hD 46 (by kernel_rfl) 72 (by rfl)
        exact st_move (F := .is (.bool true)) rfl h72 p72
      refine ⟨fun a w hA hD => ?_, ?_⟩
      · obtain ⟨g0, hg, pg⟩ := hD 47 (by kernel_rfl) 73 (by rfl)
        obtain rfl : g0 = .bool true := pg
        rw [if_pos (wanted_of rfl (by rfl) hg)]
        exact st_load rfl ((hA.out 1 (out_of (by kernel_rfl))).trans HT1) (hX1 w hA.below)
      refine ⟨fun a w hA hD => ?_, ?_⟩
      · obtain ⟨g0, hg, pg⟩ := hD 47 (by kernel_rfl) 73 (by rfl)
        obtain rfl : g0 = .bool true := pg
        rw [if_pos (wanted_of rfl (by rfl) hg)]
        exact st_load rfl ((hA.out 2 (out_of (by kernel_rfl))).trans HT2) (hX2 w hA.below)
      refine ⟨fun a w hA hD => ?_, ?_⟩
      · obtain ⟨g0, hg, pg⟩ := hD 47 (by kernel_rfl) 73 (by rfl)
        obtain rfl : g0 = .bool true := pg
        rw [if_pos (wanted_of rfl (by rfl) hg)]
        obtain ⟨u74, h74, p74⟩ := hD 48 (by kernel_rfl) 74 (by rfl)
        obtain ⟨u75, h75, p75⟩ := hD 49 (by kernel_rfl) 75 (by rfl)
        exact st_forms2 rfl h74 p74 h75 p75
      refine ⟨fun a w hA hD => ?_, ?_⟩
      · obtain ⟨g0, hg, pg⟩ := hD 47 (by kernel_rfl) 73 (by rfl)
        obtain rfl : g0 = .bool true := pg
        rw [if_pos (wanted_of rfl (by rfl) hg)]
        obtain ⟨u76, h76, p76⟩ := hD 50 (by kernel_rfl) 76 (by rfl)
        exact st_of rfl h76 p76 (by decide) (by decide) (by decide)
      refine ⟨fun a w hA hD => ?_, ?_⟩
      · obtain ⟨g0, hg, pg⟩ := hD 47 (by kernel_rfl) 73 (by rfl)
        obtain rfl : g0 = .bool true := pg
        rw [if_pos (wanted_of rfl (by rfl) hg)]
        exact st_load rfl ((hA.out 3 (out_of (by kernel_rfl))).trans HT3) (hX3 w hA.below)
      refine ⟨fun a w hA hD => ?_, ?_⟩
      · obtain ⟨g0, hg, pg⟩ := hD 47 (by kernel_rfl) 73 (by rfl)
        obtain rfl : g0 = .bool true := pg
        rw [if_pos (wanted_of rfl (by rfl) hg)]
        obtain ⟨u77, h77, p77⟩ := hD 51 (by kernel_rfl) 77 (by rfl)
        obtain ⟨u78, h78, p78⟩ := hD 52 (by kernel_rfl) 78 (by rfl)
        exact st_forms2 rfl h77 p77 h78 p78
      refine ⟨fun a w hA hD => ?_, ?_⟩
      · obtain ⟨g0, hg, pg⟩ := hD 47 (by kernel_rfl) 73 (by rfl)
        obtain rfl : g0 = .bool true := pg
        rw [if_pos (wanted_of rfl (by rfl) hg)]
        obtain ⟨u79, h79, p79⟩ := hD 53 (by kernel_rfl) 79 (by rfl)
        exact st_of rfl h79 p79 (by decide) (by decide) (by decide)
      refine ⟨fun a w hA hD => ?_, ?_⟩
      · obtain ⟨g0, hg, pg⟩ := hD 47 (by kernel_rfl) 73 (by rfl)
        obtain rfl : g0 = .bool true := pg
        rw [if_pos (wanted_of rfl (by rfl) hg)]
        obtain ⟨u80, h80, p80⟩ := hD 54 (by kernel_rfl) 80 (by rfl)
        exact st_writes rfl h80 p80 (by decide +kernel) (by decide +kernel) (by decide +kernel) (by decide +kernel) (by decide +kernel)
      refine ⟨fun a w hA hD => ?_, ?_⟩
      · rw [if_pos (by rfl)]
        obtain ⟨u73, h73, p73⟩ := hD 47 (by kernel_rfl) 73 (by rfl)
        obtain ⟨u81, h81, p81⟩ := hD 55 (by kernel_rfl) 81 (by rfl)
        obtain rfl : u73 = .bool true := p73
        exact st_pick (F := .is (.bool true)) rfl h73 h81 p81
      refine ⟨fun a w hA hD => ?_, ?_⟩
      · rw [if_pos (by rfl)]
        obtain ⟨u82, h82, p82⟩ := hD 56 (by kernel_rfl) 82 (by rfl)
        exact st_move (F := .is (.bool true)) rfl h82 p82
      refine ⟨fun a w hA hD => ?_, ?_⟩
      · obtain ⟨g0, hg, pg⟩ := hD 57 (by kernel_rfl) 83 (by rfl)
        obtain rfl : g0 = .bool true := pg
        rw [if_pos (wanted_of rfl (by rfl) hg)]
        exact st_load rfl ((hA.out 5 (out_of (by kernel_rfl))).trans HT5) (hX5 w hA.below)
      refine ⟨fun a w hA hD => ?_, ?_⟩
      · obtain ⟨g0, hg, pg⟩ := hD 57 (by kernel_rfl) 83 (by rfl)
        obtain rfl : g0 = .bool true := pg
        rw [if_pos (wanted_of rfl (by rfl) hg)]
        obtain ⟨u84, h84, p84⟩ := hD 58 (by kernel_rfl) 84 (by rfl)
        exact st_forms1 rfl h84 p84
      refine ⟨fun a w hA hD => ?_, ?_⟩
      · obtain ⟨g0, hg, pg⟩ := hD 57 (by kernel_rfl) 83 (by rfl)
        obtain rfl : g0 = .bool true := pg
        rw [if_pos (wanted_of rfl (by rfl) hg)]
        obtain ⟨u85, h85, p85⟩ := hD 59 (by kernel_rfl) 85 (by rfl)
        exact st_of rfl h85 p85 (by decide) (by decide) (by decide)
      refine ⟨fun a w hA hD => ?_, ?_⟩
      · obtain ⟨g0, hg, pg⟩ := hD 57 (by kernel_rfl) 83 (by rfl)
        obtain rfl : g0 = .bool true := pg
        rw [if_pos (wanted_of rfl (by rfl) hg)]
        obtain ⟨u86, h86, p86⟩ := hD 60 (by kernel_rfl) 86 (by rfl)
        exact st_forms1 rfl h86 p86
      refine ⟨fun a w hA hD => ?_, ?_⟩
      · obtain ⟨g0, hg, pg⟩ := hD 57 (by kernel_rfl) 83 (by rfl)
        obtain rfl : g0 = .bool true := pg
        rw [if_pos (wanted_of rfl (by rfl) hg)]
        obtain ⟨u87, h87, p87⟩ := hD 61 (by kernel_rfl) 87 (by rfl)
        exact st_of rfl h87 p87 (by decide) (by decide) (by decide)
      refine ⟨fun a w hA hD => ?_, ?_⟩
      · obtain ⟨g0, hg, pg⟩ := hD 57 (by kernel_rfl) 83 (by rfl)
        obtain rfl : g0 = .bool true := pg
        rw [if_pos (wanted_of rfl (by rfl) hg)]
        exact st_ofNil rfl (by decide) (by decide) (by decide)
      refine ⟨fun a w hA hD => ?_, ?_⟩
      · obtain ⟨g0, hg, pg⟩ := hD 57 (by kernel_rfl) 83 (by rfl)
        obtain rfl : g0 = .bool true := pg
        rw [if_pos (wanted_of rfl (by rfl) hg)]
        obtain ⟨u88, h88, p88⟩ := hD 62 (by kernel_rfl) 88 (by rfl)
        obtain ⟨u89, h89, p89⟩ := hD 63 (by kernel_rfl) 89 (by rfl)
        exact st_forms2 rfl h88 p88 h89 p89
      refine ⟨fun a w hA hD => ?_, ?_⟩
      · obtain ⟨g0, hg, pg⟩ := hD 57 (by kernel_rfl) 83 (by rfl)
        obtain rfl : g0 = .bool true := pg
        rw [if_pos (wanted_of rfl (by rfl) hg)]
        obtain ⟨u90, h90, p90⟩ := hD 64 (by kernel_rfl) 90 (by rfl)
        exact st_of rfl h90 p90 (by decide) (by decide) (by decide)
      refine ⟨fun a w hA hD => ?_, ?_⟩
      · obtain ⟨g0, hg, pg⟩ := hD 57 (by kernel_rfl) 83 (by rfl)
        obtain rfl : g0 = .bool true := pg
        rw [if_pos (wanted_of rfl (by rfl) hg)]
        obtain ⟨u91, h91, p91⟩ := hD 65 (by kernel_rfl) 91 (by rfl)
        exact st_writes rfl h91 p91 (by decide +kernel) (by decide +kernel) (by decide +kernel) (by decide +kernel) (by decide +kernel)
      refine ⟨fun a w hA hD => ?_, ?_⟩
      · rw [if_pos (by rfl)]
        obtain ⟨u83, h83, p83⟩ := hD 57 (by kernel_rfl) 83 (by rfl)
        obtain ⟨u92, h92, p92⟩ := hD 66 (by kernel_rfl) 92 (by rfl)
        obtain rfl : u83 = .bool true := p83
        exact st_pick (F := .is (.bool true)) rfl h83 h92 p92
      refine ⟨fun a w hA hD => ?_, ?_⟩
      · rw [if_pos (by rfl)]
        obtain ⟨u93, h93, p93⟩ := hD 67 (by kernel_rfl) 93 (by rfl)
        exact st_move (F := .is (.bool true)) rfl h93 p93
      refine ⟨fun a w hA hD => ?_, ?_⟩
      · obtain ⟨g0, hg, pg⟩ := hD 68 (by kernel_rfl) 94 (by rfl)
        obtain rfl : g0 = .bool true := pg
        rw [if_pos (wanted_of rfl (by rfl) hg)]
        exact st_move (F := .is (.int .i64 0)) rfl ((hA.out 7 (out_of (by kernel_rfl))).trans HT7) rfl
      refine ⟨fun a w hA hD => ?_, ?_⟩
      · obtain ⟨g0, hg, pg⟩ := hD 68 (by kernel_rfl) 94 (by rfl)
        obtain rfl : g0 = .bool true := pg
        rw [if_pos (wanted_of rfl (by rfl) hg)]
        obtain ⟨u95, h95, p95⟩ := hD 69 (by kernel_rfl) 95 (by rfl)
        obtain rfl : u95 = _ := p95
        exact st_eqInt rfl h95
      refine ⟨fun a w hA hD => ?_, ?_⟩
      · rw [if_pos (by rfl)]
        obtain ⟨u94, h94, p94⟩ := hD 68 (by kernel_rfl) 94 (by rfl)
        obtain ⟨u96, h96, p96⟩ := hD 70 (by kernel_rfl) 96 (by rfl)
        obtain rfl : u94 = .bool true := p94
        exact st_pick (F := .is (.bool true)) rfl h94 h96 p96
      refine ⟨fun a w hA hD => ?_, ?_⟩
      · rw [if_pos (by rfl)]
        obtain ⟨u97, h97, p97⟩ := hD 71 (by kernel_rfl) 97 (by rfl)
        exact st_move (F := .is (.bool true)) rfl h97 p97
      refine ⟨fun a w hA hD => ?_, ?_⟩
      · obtain ⟨g0, hg, pg⟩ := hD 72 (by kernel_rfl) 98 (by rfl)
        obtain rfl : g0 = .bool true := pg
        rw [if_pos (wanted_of rfl (by rfl) hg)]
        exact st_move (F := .is (.string ⟨#[80, 32, 124, 32, 81, 44, 32, 82]⟩)) rfl ((hA.out 6 (out_of (by kernel_rfl))).trans HT6) rfl
      refine ⟨fun a w hA hD => ?_, ?_⟩
      · obtain ⟨g0, hg, pg⟩ := hD 72 (by kernel_rfl) 98 (by rfl)
        obtain rfl : g0 = .bool true := pg
        rw [if_pos (wanted_of rfl (by rfl) hg)]
        obtain ⟨u99, h99, p99⟩ := hD 73 (by kernel_rfl) 99 (by rfl)
        obtain rfl : u99 = _ := p99
        exact st_eqStr rfl h99
      refine ⟨fun a w hA hD => ?_, ?_⟩
      · rw [if_pos (by rfl)]
        obtain ⟨u98, h98, p98⟩ := hD 72 (by kernel_rfl) 98 (by rfl)
        obtain ⟨u100, h100, p100⟩ := hD 74 (by kernel_rfl) 100 (by rfl)
        obtain rfl : u98 = .bool true := p98
        exact st_pick (F := .is (.bool true)) rfl h98 h100 p100
      refine ⟨fun a w hA hD => ?_, ?_⟩
      · rw [if_pos (by rfl)]
        obtain ⟨u101, h101, p101⟩ := hD 75 (by kernel_rfl) 101 (by rfl)
        exact st_assign (F := .is (.bool true)) rfl h101 p101
      trivial
    case fin4 =>
      intro a4 W4 hA4 hG4
      obtain ⟨u0, h0, p0⟩ := hG4 76 0 (by rfl)
      obtain rfl : u0 = .bool true := p0
      have hd4 : a4.defers = [] := hA4.defers.trans hdf
      have hb4 : Below w8.heap.size w8 W4 := hb3.trans ((((Below.refl _ _).drew).trans hA4.below).mono hb3.size)
      clear hA4 hG4
      go_wp2_with fail
      refine bodyPost_ret (v := .bool true) ?_ hd4 ⟨rfl, hb8.trans (hb4.mono hb8.size)⟩
      have h0' : a4.tmps.getD 0 undef = .bool true := by simp [h0]
      have := results_tmp (fn := Try.f6) (t := 0) rfl a4.tmps Try.prog W4
      rw [h0'] at this
      exact this

end Go.Proofs.Ytollifednpjkeaa
