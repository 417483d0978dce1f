import Derived.Test.YtodaembemcljnaaSeedC
/-
  The stream of a name.
-/
namespace Go.Proofs.Ytodaembemcljnaa
open Go.RowKit
set_option linter.unusedVariables false

/-- The key of a name's stream. -/
def subG (k : Wd) (c : UInt8) : Wd := mix (k ^^^ BitVec.ofNat 64 c.toNat)
def subF (l : List UInt8) (k : Wd) : Wd := l.foldl subG k
def subK (x : Wd) (s : ByteArray) : Wd := subF s.data.toList (mix (x ^^^ BitVec.ofNat 64 s.size))
theorem w_byte (c : UInt8) : ((c.toNat : Nat) : Int) = ((BitVec.ofNat 64 c.toNat).toNat : Int) := by
  have := c.toNat_lt
  rw [BitVec.toNat_ofNat, Nat.mod_eq_of_lt (by omega)]
theorem w_nat (n : Nat) (h : n < 18446744073709551616) : (n : Int) = ((BitVec.ofNat 64 n).toNat : Int) := by
  rw [BitVec.toNat_ofNat, Nat.mod_eq_of_lt (by omega)]
theorem Sub_empty (x : Wd) (s : ByteArray) (hs : s.size = 0) (w : World) : Calls Try.prog 23 #[.agg #[.int .u64 (x.toNat : Int)], .string s] w fun e w' => e = .returned (.tuple #[.agg #[.int .u64 0], .int .i64 2]) ∧ Below w.heap.size w w' := by
  have h0 : s.toList.isEmpty = true := by
    rw [ByteArray.toList_eq]; obtain ⟨⟨l⟩⟩ := s; cases l with
    | nil => rfl
    | cons _ _ => simp [ByteArray.size] at hs
  clear hs
  go_enter Try.func23, Try.ntmps23
  go_wp2_with fail
  exact bodyPost_ret (v := .tuple #[.agg #[.int .u64 0], .int .i64 2]) (by simp [results, Try.results23, go_sem]) rfl ⟨rfl, ((Below.refl _ _).alloc (Nat.le_refl _) _).alloc (by simp) _⟩
theorem toList_ne {s : ByteArray} (hs : 1 ≤ s.size) : s.toList.isEmpty = false := by
  rw [ByteArray.toList_eq]; obtain ⟨⟨l⟩⟩ := s; cases l with
  | nil => simp [ByteArray.size] at hs
  | cons _ _ => rfl
theorem Sub_long (x : Wd) (s : ByteArray) (hs : 32 < s.size) (hm : s.size ≤ maxLen) (w : World) : Calls Try.prog 23 #[.agg #[.int .u64 (x.toNat : Int)], .string s] w fun e w' => e = .returned (.tuple #[.agg #[.int .u64 0], .int .i64 3]) ∧ Below w.heap.size w w' := by
  unfold maxLen at hm
  have h0 := toList_ne (s := s) (by omega)
  go_enter Try.func23, Try.ntmps23
  go_wp2_with fail
  exact bodyPost_ret (v := .tuple #[.agg #[.int .u64 0], .int .i64 3]) (by simp [results, Try.results23, go_sem]) rfl ⟨rfl, ((Below.refl _ _).alloc (Nat.le_refl _) _).alloc (by simp) _⟩
theorem subF_snoc (l : List UInt8) (k : Wd) (c : UInt8) : subF (l ++ [c]) k = subG (subF l k) c := by
  unfold subF; rw [List.foldl_append, List.foldl_cons, List.foldl_nil]
theorem subF_nil (k : Wd) : subF [] k = k := by unfold subF; rw [List.foldl_nil]
theorem sub_step (s : ByteArray) (k0 : Wd) (k : Nat) (h : k < s.size) : subF (s.data.toList.take (k + 1)) k0 = subG (subF (s.data.toList.take k) k0) s[k] := by
  have e : s.data.toList.take (k + 1) = s.data.toList.take k ++ [s[k]] := by rw [List.take_succ_eq_append_getElem (by simpa using h)]; rfl
  rw [e, subF_snoc]
set_option maxRecDepth 100000 in
theorem Sub_any (x : Wd) (s : ByteArray) (hs : 1 ≤ s.size) (hs2 : s.size ≤ 32) (w : World) : Calls Try.prog 23 #[.agg #[.int .u64 (x.toNat : Int)], .string s] w fun e w' => e = .returned (.tuple #[.agg #[.int .u64 ((subK x s).toNat : Int)], .int .i64 0]) ∧ Below w.heap.size w w' := by
  have h0 := toList_ne (s := s) (by omega)
  have HS := Lib.hid (w_nat s.size (by omega))
  go_enter Try.func23, Try.ntmps23
  go_wp2_with fail
  rw [HS.out, w_xor]
  obtain ⟨k1, hk1⟩ : ∃ k1, x ^^^ BitVec.ofNat 64 s.size = k1 := ⟨_, rfl⟩
  rw [hk1]
  refine (mix_any k1 _).mono ?_
  rintro e w1 ⟨rfl, hb1⟩
  have hz : w.heap.size + 1 < w1.heap.size := by have := hb1.size; simp at this; omega
  have hb2 : Below w.heap.size w w1 := (((Below.refl _ _).alloc (Nat.le_refl _) _).alloc (by simp) _).trans (hb1.mono (by simp; omega))
  have hc : w1.cell? ⟨w.heap.size + 1, 0, none⟩ = some (.int .u64 0) := ((kept hb1).1 _ _ (by simp)).trans (by simp [go_sem])
  have hf : w1.frozen? ⟨w.heap.size + 1, 0, none⟩ = false := ((kept hb1).2 _ _ (by simp)).trans (by simp [go_sem])
  clear hb1
  obtain ⟨k0, hk0⟩ : ∃ k0, mix k1 = k0 := ⟨_, rfl⟩
  have hK : subK x s = subF s.data.toList k0 := by unfold subK; rw [hk1, hk0]
  rw [hk0]
  have HK := Lib.hid hK
  clear hk0 hK hk1
  go_wp2_with fail
  go_loopw [6, 26] (fun a i wr => ∃ k : Nat, k ≤ s.size ∧ i = .int .i64 (k : Int) ∧ a = .int .u64 ((subF (s.data.toList.take k) k0).toNat : Int) ∧ Below w1.heap.size w1 wr) (fun _ i _ => s.size - (intOf i).toNat)
  case atStart => exact ⟨0, by omega, rfl, by rw [List.take_zero, subF_nil], Below.refl _ _⟩
  case round =>
    obtain ⟨k, hk, rfl, rfl, hb⟩ := hrel
    by_cases hlt : k < s.size
    · have hst := Lib.hid (sub_step s k0 k hlt)
      obtain ⟨y, hy⟩ : ∃ y, subF (s.data.toList.take k) k0 = y := ⟨_, rfl⟩
      rw [hy] at hst ⊢
      clear hy
      have hw : bits .xor .u64 (y.toNat : Int) (IntKind.u64.wrap ((s[k].toNat : Nat) : Int)) = ((y ^^^ BitVec.ofNat 64 s[k].toNat).toNat : Int) := by
        rw [w_byte, w_id, w_xor]
      obtain ⟨z, hz2⟩ : ∃ z, y ^^^ BitVec.ofNat 64 s[k].toNat = z := ⟨_, rfl⟩
      have hg : subG y s[k] = mix z := by unfold subG; rw [hz2]
      rw [hz2] at hw
      have HW := Lib.hid hw
      have HG := Lib.hid hg
      clear hw hz2 hg
      go_wp2_with fail
      rw [HW.out]
      refine (mix_any z _).mono ?_
      rintro e w3 ⟨rfl, hb3⟩
      have hs3 := hb.size
      go_wp2_with fail
      go_roundw
      case rel => exact ⟨k + 1, by omega, by go_num, by rw [hst.out, HG.out], hb.trans (hb3.mono hs3)⟩
      case measure => simp [intOf]; omega
    · have hc2 := (hb.cell (p := ⟨w.heap.size + 1, 0, none⟩) hz).trans hc
      have hf2 := (hb.frozen (p := ⟨w.heap.size + 1, 0, none⟩) hz).trans hf
      have he : s.data.toList.take k = s.data.toList := List.take_of_length_le (by simp; omega)
      rw [he, ← HK.out]
      have hb3 := hb2.trans (hb.mono hb2.size)
      clear hc hf he
      obtain ⟨y, hy⟩ : ∃ y, subK x s = y := ⟨_, rfl⟩
      rw [hy]
      have HY := Lib.hid hy
      clear hy
      go_wp2_with fail
      exact bodyPost_ret (v := .tuple #[.agg #[.int .u64 (y.toNat : Int)], .int .i64 0]) (by simp [results, Try.results23, go_sem, hc2]) rfl ⟨by rw [HY.out], hb3.setCell (by simp) _⟩
end Go.Proofs.Ytodaembemcljnaa
