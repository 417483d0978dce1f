import Derived.Test.YtodaembemcljnaaSeedZa
/-
  A list that was lent was kept; the reference's Weigh.
-/
namespace Go.Proofs.Ytodaembemcljnaa
open Go.RowKit
set_option linter.unusedVariables false

set_option maxRecDepth 100000 in
set_option maxHeartbeats 1000000 in
theorem kept_any (G : Nat) (l : List Int) (u v : Value) (w : World) (hu : LentAt G l w u) (hv : SliceI w v l) (hl : l.length ≤ 1048576) :
    Calls Try.prog 36 #[u, v] w fun e w' => e = .returned (.bool true) ∧ Below w.heap.size w w' := by
  obtain ⟨cp, rfl, q1, q2⟩ := hu.val
  obtain ⟨a, cap, rfl, hcap, hmax, hcells⟩ := hv.at'
  have HCE := Lib.hid hcells
  have HU := Lib.hid hu
  have q3 : cp ≤ 9223372036854775807 := by unfold maxLen at q2; omega
  have q4 : (l.length : Int) + 12 ≤ cp := by omega
  have q5 : ((l.length : Int) + 12).toNat = l.length + 12 := by omega
  clear hu hv hcells hmax q2
  go_enter Try.func36, Try.ntmps36
  go_wp2_with fail
  clear q4 q5
  go_loopw [6] (fun i wr => ∃ k : Nat, k ≤ l.length + 12 ∧ i = .int .i64 (k : Int) ∧ Below w.heap.size w wr) (fun i _ => l.length + 12 - (intOf i).toNat)
  case atStart => exact ⟨0, by omega, rfl, Below.refl _ _⟩
  case round =>
    obtain ⟨k, hk, rfl, hb⟩ := hrel
    by_cases hlt : k < l.length
    · obtain ⟨b, off, rfl, hbl, hc⟩ := HCE.out (by omega)
      have c1 := (hb.cell (p := ⟨G, k, none⟩) HU.out.lt).trans (HU.out.here k hlt)
      have c2 := (hb.cell (p := ⟨b, off + k, none⟩) hbl).trans (hc k hlt)
      obtain ⟨y, hy⟩ : ∃ y, l[k] = y := ⟨_, rfl⟩
      rw [hy] at c1 c2
      have HB := Lib.hid hb
      have i1 : decide ((k : Int) < (l.length : Int)) = true := by simp; omega
      have i2 : decide ((l.length : Int) ≤ (k : Int)) = false := by simp; omega
      have i1' : decide (k < l.length) = true := by simp; omega
      have i2' : decide (l.length ≤ k) = false := by simp; omega
      have i3 : (k : Int) < (l.length : Int) + 12 := by omega
      clear hb hc hy
      go_wp2_with fail
      go_quiet (fail)
      go_wp2_with fail
      go_roundw
      case rel => exact ⟨k + 1, by omega, by go_num, below_drewN HB.out _⟩
      case measure => simp [intOf]; omega
    · by_cases hlt2 : k < l.length + 12
      · obtain ⟨j, hj⟩ : ∃ j, k = l.length + j := ⟨k - l.length, by omega⟩
        have c1 : wr.cell? ⟨G, k, none⟩ = some (.int .i64 (8000024 + (j : Int))) := by
          rw [hj]; exact (hb.cell (p := ⟨G, l.length + j, none⟩) HU.out.lt).trans (HU.out.behind j (by omega))
        have HB := Lib.hid hb
        have i1 : decide ((k : Int) < (l.length : Int)) = false := by simp; omega
        have i2 : decide ((l.length : Int) ≤ (k : Int)) = true := by simp; omega
        have i1' : decide (k < l.length) = false := by simp; omega
        have i2' : decide (l.length ≤ k) = true := by simp; omega
        have i3 : (k : Int) < (l.length : Int) + 12 := by omega
        have hsub2 : IntKind.i64.wrap ((k : Int) - (l.length : Int)) = (j : Int) := by
          rw [show (k : Int) - (l.length : Int) = (j : Int) by omega]; exact IntWalk.i64_in _ (by omega)
        have hj2 : j ≤ 1000 := by omega
        have HJ := Lib.hid hj
        have HM := Lib.hid (fun w => (mark_any j hj2 w).mono (fun _ _ h => And.intro h.1 h.2.symm))
        have HK := Lib.hid hk
        have HLT2 := Lib.hid hlt2
        clear hb hj hlt hk hlt2 hj2
        go_wp2_with fail
        go_quiet ((go_at_call 57; exact Calls.quiet_of_same (HM.out _)))
        clear hsub2 i1 i2 i1' i2'
        go_wp2_with fail
        go_roundw
        case rel => exact ⟨k + 1, HLT2.out, by go_num, below_drewN HB.out _⟩
        case measure => simp [intOf]; have := HLT2.out; omega
      · obtain rfl : k = l.length + 12 := by omega
        go_wp2_with fail
        go_ret
        exact ⟨rfl, hb⟩
end Go.Proofs.Ytodaembemcljnaa
