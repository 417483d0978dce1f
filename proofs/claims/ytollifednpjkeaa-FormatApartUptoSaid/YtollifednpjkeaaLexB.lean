import Derived.Test.YtollifednpjkeaaLexA
namespace Go.Proofs.Ytollifednpjkeaa
open Go.RowKit

/-- A function of the program that tells a byte. -/
structure Tells (k : Nat) (p : Int → Bool) : Prop where
  enter : ∀ (xs : Array Value) (w : World), Sem.run Try.prog (callFunc k xs) w = .ok (.enter k xs) w
  calls : ∀ (n : Int) (w : World), Calls Try.prog k #[.int .u8 n] w fun e w' => e = .returned (.bool (p n)) ∧ w = w'

theorem name1_any (k : Nat) (p : Int → Bool) (hk : Tells k p) (n : Int) (a : Addr) (w : World) (ha : w.cell? a = some (.func (.func k) #[] #[])) :
    Calls Try.prog 103 #[.int .u8 n, .pointer (some a)] w fun e w' => e = .returned (.bool (!p n)) ∧ w = w' := by
  have he := hk.enter
  go_enter Try.func103, Try.ntmps103
  go_wp2_with fail
  refine (hk.calls _ _).mono ?_
  rintro e w' ⟨rfl, rfl⟩
  go_wp2_with fail
  go_ret
  exact ⟨rfl, rfl⟩

/-- slices.IndexFunc over bytes, with the closure that name makes. -/
theorem indexFunc_any (k : Nat) (p : Int → Bool) (hk : Tells k p) (a : Addr) (b len cap : Nat) (xs : List UInt8) (w : World) (ha : w.cell? a = some (.func (.func k) #[] #[]))
    (hl : xs.length = len) (hm : len ≤ 1000) (hx : ∀ (j : Nat) (h : j < xs.length), w.cell? ⟨b, j, none⟩ = some (.int .u8 (xs[j].toNat : Int))) :
    Calls Try.prog 108 #[.slice (some ⟨b, 0, none⟩) len cap, .func (.func 103) #[] #[.pointer (some a)]] w fun e w' =>
      e = .returned (.int .i64 (idxI (fun c => !p (c.toNat : Int)) xs)) ∧ w = w' := by
  go_enter Try.func108, Try.ntmps108
  go_wp2_with fail
  go_loop [8] (fun i => ∃ k : Nat, k ≤ len ∧ i = .int .i64 k ∧ Hid (∀ (j : Nat) (h : j < xs.length), j < k → p (xs[j].toNat : Int) = true)) (fun i => len - (intOf i).toNat)
  case atStart => exact ⟨0, Nat.zero_le _, rfl, fun _ _ h => absurd h (Nat.not_lt_zero _)⟩
  case round =>
    obtain ⟨i, hi, rfl, HP⟩ := hrel
    by_cases hlt : i < len
    · have hc := hx i (by omega)
      go_wp2_with fail
      refine (name1_any k p hk _ a _ ha).mono ?_
      rintro e w' ⟨rfl, rfl⟩
      cases hb : p (xs[i].toNat : Int)
      · go_wp2_with fail
        go_ret
        exact ⟨ret_int (idxI_here (by omega) (by simp [hb]) (fun j hj hji => by simp [HP.out j hj hji])).symm, rfl⟩
      · go_wp2_with fail
        go_round
        case rel => exact ⟨i + 1, by omega, by go_num, fun j hj hji => by
          by_cases e : j = i
          · subst e; exact hb
          · exact HP.out j hj (by omega)⟩
        case measure => simp [intOf]; omega
    · go_wp2_with fail
      go_ret
      exact ⟨ret_int (idxI_none (fun j hj => by simp [HP.out j hj (by omega)])).symm, rfl⟩

theorem containsFunc_any (k : Nat) (p : Int → Bool) (hk : Tells k p) (a : Addr) (b len cap : Nat) (xs : List UInt8) (w : World) (ha : w.cell? a = some (.func (.func k) #[] #[]))
    (hl : xs.length = len) (hm : len ≤ 1000) (hx : ∀ (j : Nat) (h : j < xs.length), w.cell? ⟨b, j, none⟩ = some (.int .u8 (xs[j].toNat : Int))) :
    Calls Try.prog 102 #[.slice (some ⟨b, 0, none⟩) len cap, .func (.func 103) #[] #[.pointer (some a)]] w fun e w' =>
      e = .returned (.bool (xs.any (fun c => !p (c.toNat : Int)))) ∧ w = w' := by
  go_enter Try.func102, Try.ntmps102
  go_wp2_with fail
  refine (indexFunc_any k p hk a b len cap xs _ ha hl hm hx).mono ?_
  rintro e w' ⟨rfl, rfl⟩
  go_wp2_with fail
  go_ret
  exact ⟨ret_bool (by rw [← idxI_nonneg]), rfl⟩

end Go.Proofs.Ytollifednpjkeaa
