import Derived.Test.YtijoechhhnagpaaLexN
import Derived.Test.YtijoechhhnagpaaLexQ
import Derived.OpenShut
namespace Go.Proofs.Ytijoechhhnagpaa
open Go.RowKit

/-- A beginning of a slice of tokens. -/
theorem ReadsToks.take {W : World} {a : Option Addr} {n cap : Nat} {l : List Tok} (h : ReadsToks W (.slice a n cap) l) (k : Nat) (hk : k ≤ l.length) : ReadsToks W (.slice a k cap) (l.take k) := by
  obtain ⟨a', cap', hv, hcap, hc⟩ := h.at
  cases hv
  have hcl : toksCells (l.take k) = (toksCells l).take (k * 3) := by
    have : ∀ (l : List Tok) (k : Nat), toksCells (l.take k) = (toksCells l).take (k * 3) := by
      intro l
      induction l with
      | nil => intro k; simp [toksCells]
      | cons t r ih =>
        intro k
        cases k with
        | zero => simp [toksCells]
        | succ k =>
          have e1 : toksCells ((t :: r).take (k + 1)) = (tokCells t).toList ++ toksCells (r.take k) := rfl
          have e2 : toksCells (t :: r) = (tokCells t).toList ++ toksCells r := rfl
          have e3 : (tokCells t).toList.length = 3 := rfl
          rw [e1, e2, ih, List.take_append, List.take_of_length_le (l := (tokCells t).toList) (by rw [e3]; omega), e3]
          congr 2; omega
    exact this l k
  obtain ⟨hl, a2, cap2, hv2, hc2, h2⟩ := h
  cases hv2
  refine ⟨toksCells_length _, a, cap, by rw [List.length_take, Nat.min_eq_left hk], by rw [List.length_take]; exact Nat.le_trans (Nat.min_le_right _ _) hcap, fun h0 => ?_⟩
  obtain ⟨b, off, ha, hlt, hcell⟩ := h2 (by rw [List.length_take] at h0; omega)
  refine ⟨b, off, ha, hlt, fun j u hj => hcell j u ?_⟩
  rw [hcl, List.getElem?_take] at hj
  split at hj
  · exact hj
  · cases hj

/-- The blank between the texts. -/
theorem blank_sep (m : Nat) (hm : m < 4) : ∃ c, (⟨#[32, 9, 10, 13]⟩ : ByteArray).extract m (m + 1) = ⟨#[c]⟩ ∧ isBlank c = true := by
  rcases (by omega : m = 0 ∨ m = 1 ∨ m = 2 ∨ m = 3) with rfl | rfl | rfl | rfl
  · exact ⟨32, by decide +kernel, rfl⟩
  · exact ⟨9, by decide +kernel, rfl⟩
  · exact ⟨10, by decide +kernel, rfl⟩
  · exact ⟨13, by decide +kernel, rfl⟩

set_option maxRecDepth 100000 in
set_option maxHeartbeats 4000000 in
theorem lexBoth_at (s t : ByteArray) (n : Int) (hs : s.size ≤ 1500) (ht : t.size ≤ 1500) (m : Nat) (hm : n.tmod 4 = (m : Int)) (h4 : m < 4) (sep : ByteArray) (hsep : (⟨#[32, 9, 10, 13]⟩ : ByteArray).extract m (m + 1) = sep) (hz : sep.size = 1)
    (l m1 u : List Tok) (a b c : Nat) (e f g : Int) (hl : lexS s = (l, a, e)) (hm1 : lexS t = (m1, b, f)) (hu : lexS (s ++ sep ++ t) = (u, c, g)) (w : World)
    (hlaw : (e ≠ 0 ∧ g = e ∧ c = a ∧ u.length = 0) ∨ (e = 0 ∧ f ≠ 0 ∧ g = f ∧ c = b + s.size + 1 ∧ u.length = 0) ∨
      (e = 0 ∧ f = 0 ∧ g = 0 ∧ c = 0 ∧ 1 ≤ l.length ∧ l.length ≤ 2000 ∧ m1.length ≤ 2000 ∧ u.length = l.length - 1 + m1.length ∧ u.take (l.length - 1) = l.take (l.length - 1) ∧ ∀ (i : Nat) (h : i < m1.length) (h2 : l.length - 1 + i < u.length), u[l.length - 1 + i].kind = m1[i].kind ∧ u[l.length - 1 + i].text = m1[i].text ∧ u[l.length - 1 + i].at_ = m1[i].at_ + s.size + 1 ∧ m1[i].at_ ≤ 1500)) (hlb : b ≤ 2000) :
    Calls Try.prog 5 #[.string s, .string t, .int .u8 n] w fun e w' => e = .returned (.bool true) ∧ Below w.heap.size w w' := by
  have HL := Lib.hid hl
  have HM := Lib.hid hm1
  have HU := Lib.hid hu
  have HW := Lib.hid hlaw
  clear hl hm1 hu hlaw
  have hsz : (s ++ sep ++ t).size ≤ 9223372036854775807 := by simp only [ByteArray.size_append]; omega
  have i1 : IntKind.u8.wrap ((m : Int) + 1) = (m : Int) + 1 := by unfold IntKind.wrap; simp [IntKind.signed, IntKind.bits]; omega
  have i2 : (0 : Int) ≤ (m : Int) + 1 := by omega
  have i3 : ((m : Int) + 1).toNat = m + 1 := by omega
  have i4 : (m : Int) + 1 ≤ 4 := by omega
  have i5 : (m : Int) ≤ (m : Int) + 1 := by omega
  have i6 : decide (1500 < s.size) = false := by simp; omega
  have i7 : decide (1500 < t.size) = false := by simp; omega
  go_enter Try.func5, Try.ntmps5
  go_wp2_with fail
  refine (awake_yes _).mono ?_
  rintro e' w1 ⟨rfl, hb1⟩
  go_wp2_with fail
  refine (lex_is s _ _ _ HL.out _ (by omega)).mono ?_
  rintro e' w2 ⟨v2, rfl, hr2, hb2⟩
  obtain ⟨a2, cap2, rfl, hcap2, hc2⟩ := hr2.at
  go_wp2_with fail
  refine (lex_is t _ _ _ HM.out _ (by omega)).mono ?_
  rintro e' w3 ⟨v3, rfl, hr3, hb3⟩
  obtain ⟨a3, cap3, rfl, hcap3, hc3⟩ := hr3.at
  go_wp2_with fail
  refine (lex_is _ _ _ _ HU.out _ hsz).mono ?_
  rintro e' w4 ⟨v4, rfl, hr4, hb4⟩
  obtain ⟨a4, cap4, rfl, hcap4, hc4⟩ := hr4.at
  clear i1 i2 i3 i4 i5 i6 i7
  have hb14 : Below w.heap.size w w4 := hb1.trans ((hb2.trans ((hb3.trans (hb4.mono hb3.size)).mono hb2.size)).mono hb1.size)
  have hb24 : Below w2.heap.size w2 w4 := hb3.trans (hb4.mono hb3.size)
  have hr2' : ReadsToks w4 (.slice a2 l.length cap2) l := hr2.below hb24
  have hr3' : ReadsToks w4 (.slice a3 m1.length cap3) m1 := hr3.below hb4
  clear hc2 hc3 hc4 hr2 hr3
  rcases HW.out with ⟨he, rfl, rfl, hu0⟩ | ⟨rfl, hf, rfl, rfl, hu0⟩ | ⟨rfl, rfl, rfl, rfl, hl1, hl2, hm2, hul, htk, hall⟩
  · have hne : (g != 0) = true := by simpa using he
    rw [hu0]
    go_wp2_with fail
    go_ret
    exact ⟨by simp, hb14⟩
  · have hne : (g != 0) = true := by simpa using hf
    have j1 : IntKind.i64.wrap ((b : Int) + (s.size : Int)) = (b : Int) + (s.size : Int) := IntWalk.i64_in _ (by omega)
    have j2 : IntKind.i64.wrap ((b : Int) + (s.size : Int) + 1) = (b : Int) + (s.size : Int) + 1 := IntWalk.i64_in _ (by omega)
    rw [hu0, show ((b + s.size + 1 : Nat) : Int) = (b : Int) + (s.size : Int) + 1 from by omega]
    go_wp2_with fail
    go_ret
    exact ⟨by simp, hb14⟩
  · have HA := Lib.hid hall
    have HT := Lib.hid htk
    have HR2 := Lib.hid hr2'
    have HR3 := Lib.hid hr3'
    have HR4 := Lib.hid hr4
    clear hall htk hr2' hr3' hr4
    obtain ⟨L, hL⟩ : ∃ L, l.length = L + 1 := ⟨l.length - 1, by omega⟩
    obtain ⟨M, hM⟩ : ∃ M, m1.length = M := ⟨_, rfl⟩
    have hU : u.length = L + M := by omega
    rw [hL, hU, hM]
    rw [hL] at hcap2 hl2
    rw [hU] at hcap4
    rw [hM] at hcap3 hm2
    have HLU := Lib.hid (And.intro hL (And.intro hU hM))
    clear hL hU hM hul hl1
    have j1 : IntKind.i64.wrap ((L : Int) + 1) = (L : Int) + 1 := IntWalk.i64_in _ (by omega)
    have j2 : IntKind.i64.wrap ((L : Int) + 1 + (M : Int)) = (L : Int) + 1 + (M : Int) := IntWalk.i64_in _ (by omega)
    have j3 : IntKind.i64.wrap ((L : Int) + 1 + (M : Int) - 1) = (L : Int) + 1 + (M : Int) - 1 := IntWalk.i64_in _ (by omega)
    have j4 : ((L : Int) + (M : Int) == (L : Int) + 1 + (M : Int) - 1) = true := by simp; omega
    have j5 : ((L : Int) + (M : Int) != (L : Int) + 1 + (M : Int) - 1) = false := by simp; omega
    go_wp2_with fail
    clear j1 j2 j3 j4 j5
    go_loopw [16] (fun i wr => ∃ k : Nat, i = .int .i64 (k : Int) ∧ k ≤ M ∧ Below w4.heap.size w4 wr) (fun i _ => M - (intOf i).toNat)
    case atStart => exact ⟨0, rfl, Nat.zero_le _, Below.refl _ _⟩
    case round =>
      obtain ⟨k, rfl, hk, hb⟩ := hrel
      by_cases hlt : k < M
      · obtain ⟨hL, hU, hM⟩ := HLU.out
        have hk3 : k < m1.length := by omega
        have hk4 : L + k < u.length := by omega
        obtain ⟨_, _, hv3, _, hc3⟩ := HR3.out.at
        cases hv3
        obtain ⟨_, _, hv4, _, hc4⟩ := HR4.out.at
        cases hv4
        obtain ⟨b3, off3, rfl, hbl3, hc3⟩ := hc3 (by omega)
        obtain ⟨b4, off4, rfl, hbl4, hc4⟩ := hc4 (by omega)
        obtain ⟨p0, p1, p2⟩ := hc3 k hk3
        obtain ⟨q0, q1, q2⟩ := hc4 (L + k) hk4
        have hA := HA.out k hk3 (by omega)
        have hL1 : l.length - 1 = L := by omega
        simp only [hL1] at hA
        obtain ⟨x0, x1, x2, x3⟩ := hA
        rw [x0] at q0
        rw [x1] at q1
        rw [x2] at q2
        clear x0 x1 x2 hc3 hc4 hL1
        obtain ⟨kd, hkd⟩ : ∃ x, m1[k].kind = x := ⟨_, rfl⟩
        obtain ⟨tx, htx⟩ : ∃ x, m1[k].text = x := ⟨_, rfl⟩
        obtain ⟨A, hA⟩ : ∃ x, m1[k].at_ = x := ⟨_, rfl⟩
        rw [hkd] at p0 q0
        rw [htx] at p1 q1
        rw [hA] at p2 q2 x3
        rw [show ((A + s.size + 1 : Nat) : Int) = (A : Int) + (s.size : Int) + 1 from by omega] at q2
        have p0' := (hb.cell (p := ⟨b3, off3 + k * 3, none⟩) hbl3).trans p0
        have p1' := (hb.cell (p := ⟨b3, off3 + k * 3 + 1, none⟩) hbl3).trans p1
        have p2' := (hb.cell (p := ⟨b3, off3 + k * 3 + 2, none⟩) hbl3).trans p2
        have q0' := (hb.cell (p := ⟨b4, off4 + (L + k) * 3, none⟩) hbl4).trans q0
        have q1' := (hb.cell (p := ⟨b4, off4 + (L + k) * 3 + 1, none⟩) hbl4).trans q1
        have q2' := (hb.cell (p := ⟨b4, off4 + (L + k) * 3 + 2, none⟩) hbl4).trans q2
        clear p0 p1 p2 q0 q1 q2 hkd htx hA hL hU hM
        have r1 : IntKind.i64.wrap ((L : Int) + (k : Int)) = (L : Int) + (k : Int) := IntWalk.i64_in _ (by omega)
        have r2 : (0 : Int) ≤ (L : Int) + (k : Int) := by omega
        have r3 : ((L : Int) + (k : Int)).toNat = L + k := by omega
        have r4 : (L : Int) + (k : Int) < (L : Int) + (M : Int) := by omega
        have r5 : IntKind.i64.wrap (L : Int) = (L : Int) := IntWalk.i64_in _ (by omega)
        have r6 : (L : Int) + 1 - 1 = (L : Int) := by omega
        go_wp2_with fail
        obtain ⟨wb, hwb⟩ : ∃ wb, wr.alloc (.cells #[.int .u8 kd, .string tx, .int .i64 ((A : Int) + (s.size : Int) + 1)] 31) = wb := ⟨_, rfl⟩
        have hbb : Below w4.heap.size w4 wb := by rw [← hwb]; exact hb.alloc hb.size _
        have hbw : Below wr.heap.size wr wb := by rw [← hwb]; exact (Below.refl _ _).alloc (Nat.le_refl _) _
        have f0 : wb.cell? ⟨wr.heap.size, 0, none⟩ = some (.int .u8 kd) := by rw [← hwb, World.cell?_alloc_at _ _ _ _ rfl]; rfl
        have f1 : wb.cell? ⟨wr.heap.size, 1, none⟩ = some (.string tx) := by rw [← hwb, World.cell?_alloc_at _ _ _ _ rfl]; rfl
        have f2 : wb.cell? ⟨wr.heap.size, 2, none⟩ = some (.int .i64 ((A : Int) + (s.size : Int) + 1)) := by rw [← hwb, World.cell?_alloc_at _ _ _ _ rfl]; rfl
        have hlb3 : b3 < wr.heap.size := by have := hb.size; omega
        have g0 := (hbw.cell (p := ⟨b3, off3 + k * 3, none⟩) hlb3).trans p0'
        have g1 := (hbw.cell (p := ⟨b3, off3 + k * 3 + 1, none⟩) hlb3).trans p1'
        have g2 := (hbw.cell (p := ⟨b3, off3 + k * 3 + 2, none⟩) hlb3).trans p2'
        change Code.wp _ _ _ _ (wr.alloc (.cells #[.int .u8 kd, .string tx, .int .i64 ((A : Int) + (s.size : Int) + 1)] 31))
        rw [hwb]
        clear hwb p0' p1' p2' q0' q1' q2' r1 r2 r3 r4 r5 r6
        have s1 : IntKind.i64.wrap ((A : Int) + (s.size : Int)) = (A : Int) + (s.size : Int) := IntWalk.i64_in _ (by omega)
        have s2 : IntKind.i64.wrap ((A : Int) + (s.size : Int) + 1) = (A : Int) + (s.size : Int) + 1 := IntWalk.i64_in _ (by omega)
        have s3 : (k : Int) < (M : Int) := by omega
        go_quiet (fail)
        go_wp2_with fail
        go_roundw
        case rel => exact ⟨k + 1, by go_num, by omega, below_drewN hbb _⟩
        case measure => simp [intOf]; omega
      · have hr1 : ReadsToks wr (.slice a4 L cap4) (l.take L) := by
          have h1 := (HR4.out.take (l.length - 1) (by obtain ⟨hL, hU, hM⟩ := HLU.out; omega)).below hb
          rw [HT.out] at h1
          have e : l.length - 1 = L := by have := HLU.out.1; omega
          rw [e] at h1; exact h1
        have hr2 : ReadsToks wr (.slice a2 L cap2) (l.take L) := (HR2.out.take L (by have := HLU.out.1; omega)).below hb
        have hlt1 : (l.take L).length ≤ 1000000 := by rw [List.length_take]; omega
        have r5 : IntKind.i64.wrap (L : Int) = (L : Int) := IntWalk.i64_in _ (by omega)
        have r6 : (L : Int) + 1 - 1 = (L : Int) := by omega
        have r7 : (L : Int) ≤ (cap4 : Int) := by omega
        have r8 : (L : Int) ≤ (cap2 : Int) := by omega
        have r9 : (0 : Int) ≤ (L : Int) := by omega
        have HR1 := Lib.hid hr1
        have HR5 := Lib.hid hr2
        clear hr1 hr2
        go_wp2_with fail
        refine wp_region_later (by kernel_rfl) (by kernel_rfl) ?_
        repeat (go_big_quiet_step ((go_at_call 11; exact Calls.later_of (alike_yes _ _ _ _ _ (HR1.out.below (Later.h _)) (HR5.out.below (Later.h _)) hlt1 ⟨rfl, fun _ _ _ => ⟨rfl, rfl⟩⟩))))
        (refine wpQuiet_nil ?_; rintro _ ⟨⟨wq, hq⟩, rfl⟩; try dsimp only)
        go_wp2_with fail
        go_ret
        exact ⟨rfl, hb14.trans ((hb.trans (hq.mono hb.size)).mono hb14.size)⟩

theorem lexBad_le {l : List UInt8} {i p : Nat} {e : Int} (h : LexBad l i p e) : p ≤ i + l.length := by
  induction h with
  | here b r i hb hr hn e he ht => simp
  | more b x r i p k e hb hx ht _ ih => simp only [List.length_append]; omega
theorem lexS_place {s : ByteArray} {l : List Tok} {p : Nat} {e : Int} (hs : s.size ≤ 16384) (h : lexS s = (l, p, e)) : p ≤ s.size := by
  by_cases he : e = 0
  · subst he; have := (lexS_ok h).2.2; omega
  · have := lexBad_le (lexS_bad hs h he).1
    have hl : s.data.toList.length = s.size := by simp
    omega

set_option maxRecDepth 100000 in
theorem lexBoth_yes (s t : ByteArray) (n : Int) (hs : s.size ≤ maxLen) (ht : t.size ≤ maxLen) (hwf : (Lit.int .u8 n).wf = true) (w : World) :
    Calls Try.prog 5 #[.string s, .string t, .int .u8 n] w fun e w' => e = .returned (.bool true) ∧ Below w.heap.size w w' := by
  have hn := bounds_u8 hwf
  unfold maxLen at hs ht
  by_cases h1 : s.size ≤ 1500
  · by_cases h2 : t.size ≤ 1500
    · have hmod : n.tmod 4 = n % 4 := Int.tmod_eq_emod_of_nonneg hn.1
      obtain ⟨m, hm⟩ : ∃ m : Nat, n.tmod 4 = (m : Int) := ⟨(n % 4).toNat, by omega⟩
      have h4 : m < 4 := by omega
      obtain ⟨c, hc1, hc2⟩ := blank_sep m h4
      rcases hl : lexS s with ⟨l, a, e⟩
      rcases hm1 : lexS t with ⟨m1, b, f⟩
      rcases hu : lexS (s ++ ⟨#[c]⟩ ++ t) with ⟨u, c', g⟩
      have hb : b ≤ 2000 := by have := lexS_place (by omega) hm1; omega
      refine lexBoth_at s t n h1 h2 m hm h4 _ hc1 rfl l m1 u a b c' e f g hl hm1 hu w ?_ hb
      by_cases he : e = 0
      · subst he
        by_cases hf : f = 0
        · subst hf
          right; right
          have := both_ok hc2 (by omega) (by omega) hl hm1
          rw [sBlank, hu] at this
          simp only [Prod.mk.injEq] at this
          obtain ⟨rfl, rfl, rfl⟩ := this
          have hl1 := lexOk_ne (lexS_ok hl).2.1
          have hl2 := lexL_length s (s.size + 1) 0
          rw [lexS_toks (by omega) hl] at hl2
          have hm2 := lexL_length t (t.size + 1) 0
          rw [lexS_toks (by omega) hm1] at hm2
          refine ⟨rfl, rfl, rfl, rfl, hl1, by omega, by omega, by simp, ?_, fun i h h2 => ?_⟩
          · rw [List.take_append_of_le_length (by simp), List.dropLast_eq_take, List.take_take, Nat.min_self]
          · have e1 : (l.dropLast ++ m1.map (shift (s.size + 1)))[l.length - 1 + i] = shift (s.size + 1) m1[i] := by
              rw [List.getElem_append_right (by simp)]
              simp
            rw [e1]
            refine ⟨rfl, rfl, (Nat.add_assoc _ _ _).symm, ?_⟩
            have := ((stands_yes hm1).1 i h).inn
            omega
        · right; left
          have := both_second hc2 (by omega) (by omega) hl hm1 hf
          rw [sBlank, hu] at this
          simp only [Prod.mk.injEq] at this
          obtain ⟨rfl, rfl, rfl⟩ := this
          exact ⟨rfl, hf, rfl, rfl, rfl⟩
      · left
        have := both_bad (t := t) hc2 (by omega) (by omega) hl he
        rw [sBlank, hu] at this
        simp only [Prod.mk.injEq] at this
        obtain ⟨rfl, rfl, rfl⟩ := this
        exact ⟨he, rfl, rfl, rfl⟩
    · have i6 : decide (1500 < s.size) = false := by simp; omega
      have i7 : decide (1500 < t.size) = true := by simp; omega
      go_enter Try.func5, Try.ntmps5
      go_wp2_with fail
      refine (awake_yes _).mono ?_
      rintro e w1 ⟨rfl, hb1⟩
      go_wp2_with fail
      go_ret
      exact ⟨rfl, hb1⟩
  · have i6 : decide (1500 < s.size) = true := by simp; omega
    go_enter Try.func5, Try.ntmps5
    go_wp2_with fail
    refine (awake_yes _).mono ?_
    rintro e w1 ⟨rfl, hb1⟩
    go_wp2_with fail
    go_ret
    exact ⟨rfl, hb1⟩

end Go.Proofs.Ytijoechhhnagpaa
