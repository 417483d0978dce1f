import Derived.Test.YtijoechhhnagpaaLexE
namespace Go.Proofs.Ytijoechhhnagpaa
open Go.RowKit

theorem beq_prefix {s p : ByteArray} (_h : p.size ≤ s.size) : ((s.extract 0 p.size).toList == p.toList) = startsWith s.data.toList p := by
  unfold startsWith
  rw [ByteArray.toList_eq, ByteArray.toList_eq, Bool.eq_iff_iff, beq_iff_eq, List.isPrefixOf_iff_prefix, List.prefix_iff_eq_take]
  have e1 : (s.extract 0 p.size).data.toList = s.data.toList.take p.data.toList.length := by simp
  rw [e1]
  exact eq_comm
theorem not_prefix {s p : ByteArray} (h : ¬ p.size ≤ s.size) : startsWith s.data.toList p = false := by
  rw [Bool.eq_false_iff]
  unfold startsWith
  intro hp
  have := (List.isPrefixOf_iff_prefix.1 hp).length_le
  simp at this; exact h this

theorem sHasPrefix_any (s p : ByteArray) (w : World) :
    Calls Try.prog 51 #[.string s, .string p] w fun e w' => e = .returned (.bool (startsWith s.data.toList p)) ∧ w = w' := by
  by_cases h : p.size ≤ s.size
  · go_enter Try.func51, Try.ntmps51
    go_wp2_with fail
    go_ret
    exact ⟨ret_bool (beq_prefix h), rfl⟩
  · go_enter Try.func51, Try.ntmps51
    go_wp2_with fail
    go_ret
    exact ⟨ret_bool (not_prefix h).symm, rfl⟩

theorem hasPrefix_any (s p : ByteArray) (w : World) :
    Calls Try.prog 38 #[.string s, .string p] w fun e w' => e = .returned (.bool (startsWith s.data.toList p)) ∧ w = w' := by
  go_enter Try.func38, Try.ntmps38
  go_wp2_with fail
  refine (sHasPrefix_any s p _).mono ?_
  rintro e w' ⟨rfl, rfl⟩
  go_wp2_with fail
  go_ret
  exact ⟨rfl, rfl⟩
theorem hasPrefix_at (s p : ByteArray) (w : World) (r : Bool) (hr : startsWith s.data.toList p = r) :
    Calls Try.prog 38 #[.string s, .string p] w fun e w' => e = .returned (.bool r) ∧ w' = w :=
  (hasPrefix_any s p w).mono fun _ _ h => ⟨by rw [h.1, hr], h.2.symm⟩

theorem signs_any (w : World) :
    Calls Try.prog 37 #[] w fun e w' => e = .returned (.agg (signsL.map Value.string).toArray) ∧ Below w.heap.size w w' := by
  go_enter Try.func37, Try.ntmps37
  go_wp2_with fail
  exact bodyPost_ret (v := .agg (signsL.map Value.string).toArray) (by simp [results, Try.results37, go_sem, signsL]) rfl ⟨rfl, (by repeat (first | exact Below.refl _ _ | assumption | refine Below.alloc ?_ (by simp; try omega) _ | refine Below.drew ?_ | refine Below.setCell ?_ (by simp; try omega) _))⟩

/-- A token's kind, length and error as a value. -/
def tok3 (x : Int × Nat × Int) : Value := .tuple #[.int .u8 x.1, .int .i64 (x.2.1 : Int), .int .i64 x.2.2]
/-- kinds$7's answer. -/
def signRes (l : List UInt8) : Value := tok3 (signAt l)
theorem signRes_here {l : List UInt8} {i : Nat} (hi : i < signsL.length) (h : startsWith l signsL[i] = true) (hlt : ∀ (j : Nat) (hj : j < signsL.length), j < i → startsWith l signsL[j] = false) :
    signRes l = .tuple #[.int .u8 4, .int .i64 (signsL[i]).size, .int .i64 0] := by
  unfold signRes signAt signLen
  have : signsL.find? (fun g => startsWith l g) = some signsL[i] := by
    rw [List.find?_eq_some_iff_getElem]
    exact ⟨h, i, hi, rfl, fun j hj => by simpa using hlt j (by omega) hj⟩
  rw [this]; rfl
theorem signRes_none {l : List UInt8} (h : ∀ (j : Nat) (hj : j < signsL.length), startsWith l signsL[j] = false) : signRes l = .tuple #[.int .u8 0, .int .i64 0, .int .i64 40] := by
  unfold signRes signAt signLen
  have : signsL.find? (fun g => startsWith l g) = none := by
    rw [List.find?_eq_none]
    intro x hx
    obtain ⟨j, hj, rfl⟩ := List.getElem_of_mem hx
    simpa using h j hj
  rw [this]; rfl

theorem extract_drop (s : ByteArray) (i : Nat) : (s.extract i s.size).data.toList = s.data.toList.drop i := by
  simp only [ByteArray.data_extract, Array.toList_extract, List.extract_eq_take_drop]
  rw [List.take_of_length_le (by simp)]
theorem Drew.below {w w' : World} (h : Drew w w') (B : Nat) : Below B w w' := by
  obtain ⟨m, rfl⟩ := h; exact below_drewN (Below.refl _ _) m
theorem Scan.below {b at' B : Nat} {s : ByteArray} {w w' : World} (h : Scan b at' s w) (hb : Below B w w') (hl : b < B) : Scan b at' s w' :=
  ⟨(hb.cell (p := ⟨b, 0, none⟩) hl).trans h.at_, (hb.cell (p := ⟨b, 1, none⟩) hl).trans h.s_⟩

theorem kinds7_any (b at' : Nat) (s : ByteArray) (w : World) (hc : Scan b at' s w) (hb : b < w.heap.size) (hs : at' ≤ s.size) (_hz : s.size ≤ 100000) :
    Calls Try.prog 36 #[.pointer (some ⟨b, 0, none⟩)] w fun e w' => e = .returned (signRes (s.data.toList.drop at')) ∧ Below w.heap.size w w' := by
  have hidx : ∀ (W : World) (i : Nat) (hi : i < signsL.length), (Instr.index 69 (.agg (signsL.map Value.string).toArray) (.int .i64 (i : Int))).run Try.prog W = .ok (.string signsL[i]) W := by
    intro W i hi
    have h13 : i < 13 := hi
    match i, h13 with
    | 0, _ | 1, _ | 2, _ | 3, _ | 4, _ | 5, _ | 6, _ | 7, _ | 8, _ | 9, _ | 10, _ | 11, _ | 12, _ => rfl
  go_enter Try.func36, Try.ntmps36
  go_wp2_with fail
  refine (signs_any _).mono ?_
  rintro e w1 ⟨rfl, hb1⟩
  go_wp2_with fail
  have hlt1 : b < w1.heap.size := Nat.lt_of_lt_of_le hb hb1.size
  have hc1 : Scan b at' s w1 := hc.below hb1 hb
  clear hc
  go_loopw [8] (fun i wr => ∃ k : Nat, i = .int .i64 (k : Int) ∧ k ≤ 13 ∧ Hid (∀ (j : Nat) (hj : j < signsL.length), j < k → startsWith (s.data.toList.drop at') signsL[j] = false) ∧ Hid (Drew w1 wr) ∧ Scan b at' s wr) (fun i _ => 13 - (intOf i).toNat)
  case atStart => exact ⟨0, rfl, by omega, fun j _ h => absurd h (Nat.not_lt_zero _), Drew.refl _, hc1⟩
  case round =>
    obtain ⟨i, rfl, hi, HN, HD, hc0⟩ := hrel
    clear hc1
    have hc1 := hc0
    obtain ⟨h0, h1⟩ := hc1
    have HC := Lib.hid hc0
    clear hc0
    by_cases hlt : i < 13
    · have hl' : i < signsL.length := hlt
      have hx := fun W => hidx W i hl'
      have HX := Lib.hid hidx
      clear hidx
      obtain ⟨g, hg⟩ : ∃ g, g = signsL[i] := ⟨_, rfl⟩
      rw [← hg] at hx
      have HG := Lib.hid hg
      clear hg
      have e1 := extract_drop s at'
      have E1 := Lib.hid e1
      clear e1
      cases hp : startsWith (s.extract at' s.size).data.toList g
      · go_wp2_with fail
        go_quiet ((go_at_call 38; exact Calls.quiet_of_same (hasPrefix_at _ _ _ _ hp)))
        go_wp2_with fail
        go_roundw
        case rel => exact ⟨i + 1, by go_num, by omega, fun j hj hji => by
          by_cases e : j = i
          · subst e; rw [← E1.out, ← HG.out]; exact hp
          · exact HN.out j hj (by omega), HD.out.step _, HC.out.drewN _⟩
        case measure => simp [intOf]; omega
      · go_wp2_with fail
        go_quiet ((go_at_call 38; exact Calls.quiet_of_same (hasPrefix_at _ _ _ _ hp)))
        go_wp2_with fail
        go_ret3
        have hh := signRes_here (l := s.data.toList.drop at') hl' (by rw [← E1.out, ← HG.out]; exact hp) HN.out
        exact ⟨by rw [hh, ← HG.out]; rfl, hb1.trans ((HD.out.step _).below _)⟩
    · go_wp2_with fail
      go_ret3
      have hh := signRes_none (l := s.data.toList.drop at') (fun j hj => HN.out j hj (by have : signsL.length = 13 := rfl; omega))
      exact ⟨by rw [hh]; rfl, hb1.trans (HD.out.below _)⟩

end Go.Proofs.Ytijoechhhnagpaa
