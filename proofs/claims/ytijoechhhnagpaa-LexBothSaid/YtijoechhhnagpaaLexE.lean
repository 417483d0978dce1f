import Derived.Test.YtijoechhhnagpaaLexD
namespace Go.Proofs.Ytijoechhhnagpaa
open Go.RowKit

/-- A scanner's cells: where it is, and its text. -/
structure Scan (b : Nat) (at' : Nat) (s : ByteArray) (w : World) : Prop where
  at_ : w.cell? ⟨b, 0, none⟩ = some (.int .i64 (at' : Int))
  s_ : w.cell? ⟨b, 1, none⟩ = some (.string s)

theorem Scan.drewN {b at' : Nat} {s : ByteArray} {w : World} (h : Scan b at' s w) (n : Nat) : Scan b at' s (w.drewN n) := ⟨by have := h.at_; simpa using this, by have := h.s_; simpa using this⟩

theorem letter_at (n : Int) (r : Bool) (h : alphaI n = r) (w : World) : Calls Try.prog 26 #[.int .u8 n] w fun e w' => e = .returned (.bool r) ∧ w' = w :=
  (letter_any n w).mono fun _ _ h' => ⟨by rw [h'.1, h], h'.2.symm⟩
theorem digit_at (n : Int) (r : Bool) (h : digitI n = r) (w : World) : Calls Try.prog 42 #[.int .u8 n] w fun e w' => e = .returned (.bool r) ∧ w' = w :=
  (digit_any n w).mono fun _ _ h' => ⟨by rw [h'.1, h], h'.2.symm⟩

/-- w' is w after some draws. -/
def Drew (w w' : World) : Prop := ∃ m, w' = w.drewN m
theorem Drew.refl (w : World) : Drew w w := ⟨0, rfl⟩
theorem Drew.step {w w' : World} (h : Drew w w') (n : Nat) : Drew w (w'.drewN n) := by
  obtain ⟨m, rfl⟩ := h; exact ⟨m + n, World.drewN_drewN _ _ _⟩
theorem Drew.trans {a b c : World} (h : Drew a b) (k : Drew b c) : Drew a c := by
  obtain ⟨m, rfl⟩ := k; exact h.step m

theorem run_any (b at' n : Nat) (s : ByteArray) (w : World) (hc : Scan b at' s w) (hs : at' + n ≤ s.size) (hz : s.size ≤ 100000) :
    Calls Try.prog 28 #[.pointer (some ⟨b, 0, none⟩), .int .i64 n] w fun e w' => e = .returned (.int .i64 ((n + runFrom s (at' + n) : Nat) : Int)) ∧ Drew w w' := by
  go_enter Try.func28, Try.ntmps28
  go_wp2_with fail
  go_loopw [1] (fun i wr => ∃ k : Nat, i = .int .i64 (k : Int) ∧ at' + k ≤ s.size ∧ Hid (k + runFrom s (at' + k) = n + runFrom s (at' + n)) ∧ Hid (Drew w wr) ∧ Scan b at' s wr) (fun i _ => s.size - (intOf i).toNat)
  case atStart => exact ⟨n, rfl, hs, rfl, Drew.refl _, hc⟩
  case round =>
    clear hc
    obtain ⟨k, rfl, hk, HK, HD, hc0⟩ := hrel
    have hc1 := hc0
    obtain ⟨h0, h1⟩ := hc1
    have HC := Lib.hid hc0
    clear hc0
    have hw : IntKind.i64.wrap ((at' : Int) + (k : Int)) = (at' : Int) + (k : Int) := IntWalk.i64_in _ (by omega)
    have hn0 : 0 ≤ (at' : Int) + (k : Int) := by omega
    have hn1 : ((at' : Int) + (k : Int)).toNat = at' + k := by omega
    by_cases hlt : at' + k < s.size
    · have hlt' : (at' : Int) + (k : Int) < (s.size : Int) := by omega
      have fin : isAlnum s[at' + k] = false → (k : Int) = ((n + runFrom s (at' + n) : Nat) : Int) := fun h => by
        have := HK.out; rw [runFrom_no hlt h] at this; omega
      have on : isAlnum s[at' + k] = true → (k + 1) + runFrom s (at' + (k + 1)) = n + runFrom s (at' + n) := fun h => by
        have := HK.out; rw [runFrom_yes hlt h] at this; rw [← this, Nat.add_assoc at' k 1]; omega
      have FIN := Lib.hid fin
      have ON := Lib.hid on
      clear fin on
      cases ha : alphaI (s[at' + k].toNat : Int)
      · cases hd : digitI (s[at' + k].toNat : Int)
        · go_wp2_with fail
          go_quiet (first | (go_at_call 26; exact Calls.quiet_of_same (letter_at _ _ ha _)) | (go_at_call 42; exact Calls.quiet_of_same (digit_at _ _ hd _)))
          go_wp2_with fail
          go_ret
          exact ⟨ret_int (FIN.out (by simp [isAlnum, ha, hd])), HD.out.step _⟩
        · go_wp2_with fail
          go_quiet (first | (go_at_call 26; exact Calls.quiet_of_same (letter_at _ _ ha _)) | (go_at_call 42; exact Calls.quiet_of_same (digit_at _ _ hd _)))
          go_wp2_with fail
          go_roundw
          case rel => exact ⟨k + 1, by go_num, by omega, ON.out (by simp [isAlnum, hd]), HD.out.step _, HC.out.drewN _⟩
          case measure => simp [intOf]; omega
      · have hd := hw
        go_wp2_with fail
        go_quiet (first | (go_at_call 26; exact Calls.quiet_of_same (letter_at _ _ ha _)) | (go_at_call 42; exact Calls.quiet_of_same (digit_at _ _ hd _)))
        go_wp2_with fail
        go_roundw
        case rel => exact ⟨k + 1, by go_num, by omega, ON.out (by simp [isAlnum, ha]), HD.out.step _, HC.out.drewN _⟩
        case measure => simp [intOf]; omega
    · have hlt' : ¬ (at' : Int) + (k : Int) < (s.size : Int) := by omega
      have hdd : decide ((at' : Int) + (k : Int) < (s.size : Int)) = false := by simpa using hlt'
      have fin : (k : Int) = ((n + runFrom s (at' + n) : Nat) : Int) := by
        have := HK.out; rw [runFrom_end (by omega : s.size ≤ at' + k)] at this; omega
      have FIN := Lib.hid fin
      clear fin
      go_wp2_with fail
      go_quiet (fail)
      go_wp2_with fail
      go_ret
      exact ⟨ret_int FIN.out, HD.out.step _⟩

end Go.Proofs.Ytijoechhhnagpaa
