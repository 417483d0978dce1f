import Derived.Test.YtijoechhhnagpaaLexK
namespace Go.Proofs.Ytijoechhhnagpaa
open Go.RowKit

theorem beq_bytes (a b : ByteArray) (h : a = b) : (a.toList == b.toList) = true := by rw [h]; simp

set_option maxHeartbeats 1000000 in
theorem alike_yes (v1 v2 : Value) (l m : List Tok) (w : World) (hv1 : ReadsToks w v1 l) (hv2 : ReadsToks w v2 m) (hl : l.length ≤ 1000000) (h : Alike l m) :
    Calls Try.prog 11 #[v1, v2] w fun e w' => e = .returned (.bool true) ∧ Below w.heap.size w w' := by
  obtain ⟨a1, cap1, rfl, hcap1, hc1⟩ := hv1.at
  obtain ⟨a2, cap2, rfl, hcap2, hc2⟩ := hv2.at
  obtain ⟨hlen, hall⟩ := h
  have HC1 := Lib.hid hc1
  have HC2 := Lib.hid hc2
  have HA := Lib.hid hall
  have hb1 : ((l.length : Int) != (m.length : Int)) = false := by rw [hlen]; simp
  clear hc1 hc2 hall hv1 hv2
  have hlm : l.length ≤ m.length := by omega
  have HL := Lib.hid hlen
  clear hlen
  go_enter Try.func11, Try.ntmps11
  go_wp2_with fail
  go_loopw [5] (fun i wr => ∃ k : Nat, i = .int .i64 (k : Int) ∧ k ≤ l.length ∧ Below w.heap.size w wr) (fun i _ => l.length - (intOf i).toNat)
  case atStart => exact ⟨0, rfl, Nat.zero_le _, Below.refl _ _⟩
  case round =>
    obtain ⟨k, rfl, hk, hb⟩ := hrel
    by_cases hlt : k < l.length
    · obtain ⟨b, off, rfl, hbl, hc⟩ := HC1.out (by omega)
      obtain ⟨b', off', rfl, hbl', hc'⟩ := HC2.out (by omega)
      obtain ⟨hc0, hc1, _⟩ := hc k hlt
      obtain ⟨hc0', hc1', _⟩ := hc' k (by omega)
      have d0 := (hb.cell (p := ⟨b, off + k * 3, none⟩) hbl).trans hc0
      have d1 := (hb.cell (p := ⟨b, off + k * 3 + 1, none⟩) hbl).trans hc1
      have d0' := (hb.cell (p := ⟨b', off' + k * 3, none⟩) hbl').trans hc0'
      have d1' := (hb.cell (p := ⟨b', off' + k * 3 + 1, none⟩) hbl').trans hc1'
      obtain ⟨e1, e2⟩ := HA.out k hlt (by omega)
      rw [← e1] at d0'
      rw [← e2] at d1'
      have hlt' : (k : Int) < (m.length : Int) := by omega
      clear hc hc0 hc1 hc' hc0' hc1' e1 e2
      go_wp2_with fail
      go_quiet (fail)
      go_wp2_with fail
      go_roundw
      case rel => exact ⟨k + 1, by go_num, by omega, below_drewN hb _⟩
      case measure => simp [intOf]; omega
    · go_wp2_with fail
      go_ret
      exact ⟨rfl, hb⟩

end Go.Proofs.Ytijoechhhnagpaa
