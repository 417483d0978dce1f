import Derived.Test.YtodaembemcljnaaSeedZd
import Derived.Test.YtodaembemcljnaaSeedZ
import Derived.Test.YtodaembemcljnaaSeedV
/-
  SeedSmall's walk.
-/
namespace Go.Proofs.Ytodaembemcljnaa
open Go.RowKit
set_option linter.unusedVariables false

theorem rests_any (a n : Int) (ha : 0 ≤ a) (ha2 : a ≤ 18446744073709551615) (hn : n ≤ 9223372036854775807) (w : World) :
    Calls Try.prog 25 #[.int .u64 a, .int .i64 n] w fun e w' => e = .returned (.bool true) ∧ w = w' := by
  obtain ⟨x, rfl⟩ : ∃ x : Wd, a = (x.toNat : Int) := ⟨BitVec.ofNat 64 a.toNat, by rw [BitVec.toNat_ofNat, Nat.mod_eq_of_lt (by omega)]; omega⟩
  clear ha ha2
  have hb : ∃ (v : Int) (b : Bool), (∀ w, Calls Try.prog 15 #[.int .u64 (x.toNat : Int), .int .i64 n] w fun e w' => e = .returned (.tuple #[.int .i64 v, .bool b]) ∧ w = w') ∧
      (∀ w, Calls Try.prog 53 #[.int .u64 (x.toNat : Int), .int .i64 n] w fun e w' => e = .returned (.tuple #[.int .i64 v, .bool b]) ∧ w = w') := by
    by_cases h : n < 1
    · exact ⟨0, false, fun w => rest_no x n h w, fun w => rrest_no x n h w⟩
    · obtain ⟨m, rfl⟩ : ∃ m : Nat, n = (m : Int) := ⟨n.toNat, by omega⟩
      cases hc : acc m x
      · exact ⟨0, false, fun w => rest_not x m (by omega) (by omega) hc w, fun w => rrest_not x m (by omega) (by omega) hc w⟩
      · exact ⟨_, true, fun w => rest_yes x m (by omega) (by omega) hc w, fun w => rrest_yes x m (by omega) (by omega) hc w⟩
  obtain ⟨v, b, h1, h2⟩ := hb
  have H1 := Lib.hid h1
  have H2 := Lib.hid h2
  clear h1 h2
  go_enter Try.func25, Try.ntmps25
  go_wp2_with fail
  refine (H1.out _).mono ?_
  rintro e w1 ⟨rfl, rfl⟩
  go_wp2_with fail
  refine (H2.out _).mono ?_
  rintro e w1 ⟨rfl, rfl⟩
  go_wp2_with fail
  go_ret
  exact ⟨rfl, rfl⟩

theorem names_int (a : Int) (ha : 0 ≤ a) (ha2 : a ≤ 18446744073709551615) (s : ByteArray) (hs : s.size ≤ maxLen) (n i : Int) (w : World) : Calls Try.prog 24 #[.int .u64 a, .string s, .int .i64 n, .int .i64 i] w fun e w' => e = .returned (.bool true) ∧ Below w.heap.size w w' := by
  obtain ⟨x, rfl⟩ : ∃ x : Wd, a = (x.toNat : Int) := ⟨BitVec.ofNat 64 a.toNat, by rw [BitVec.toNat_ofNat, Nat.mod_eq_of_lt (by omega)]; omega⟩
  exact names_any x s hs n i w
theorem draws_int (a : Int) (ha : 0 ≤ a) (ha2 : a ≤ 18446744073709551615) (i n k : Int) (hn : n ≤ 9223372036854775807) (w : World) : Calls Try.prog 12 #[.int .u64 a, .int .i64 i, .int .i64 n, .int .i64 k] w fun e w' => e = .returned (.bool true) ∧ Below w.heap.size w w' := by
  obtain ⟨x, rfl⟩ : ∃ x : Wd, a = (x.toNat : Int) := ⟨BitVec.ofNat 64 a.toNat, by rw [BitVec.toNat_ofNat, Nat.mod_eq_of_lt (by omega)]; omega⟩
  exact draws_any x i n k hn w
theorem w64_bd (a : Int) : -9223372036854775808 ≤ wrap64 a ∧ wrap64 a ≤ 9223372036854775807 := by unfold wrap64; omega
theorem xor_bd (a b : Int) : 0 ≤ bits .xor .u64 a b ∧ bits .xor .u64 a b ≤ 18446744073709551615 := by
  have : ∃ z : Int, bits .xor .u64 a b = IntKind.u64.wrap z := ⟨_, rfl⟩
  obtain ⟨z, hz⟩ := this
  rw [hz, IntKind.wrap_u64]; omega
theorem u64_bd (a : Int) : 0 ≤ IntKind.u64.wrap a ∧ IntKind.u64.wrap a ≤ 18446744073709551615 := by rw [IntKind.wrap_u64]; omega
theorem i64_bd (a : Int) : -9223372036854775808 ≤ IntKind.i64.wrap a ∧ IntKind.i64.wrap a ≤ 9223372036854775807 := by rw [IntKind.wrap_i64]; omega
theorem weighs_int (a : Int) (ha : 0 ≤ a) (ha2 : a ≤ 18446744073709551615) (i : Int) (l : List Int) (v : Value) (w : World) (hv : SliceI w v l) (hnil : ∀ n c, v = .slice none n c → c = 0) (hl : l.length ≤ 1048576) :
    Calls Try.prog 14 #[.int .u64 a, .int .i64 i, v] w fun e w' => e = .returned (.bool true) ∧ Below w.heap.size w w' := by
  obtain ⟨x, rfl⟩ : ∃ x : Wd, a = (x.toNat : Int) := ⟨BitVec.ofNat 64 a.toNat, by rw [BitVec.toNat_ofNat, Nat.mod_eq_of_lt (by omega)]; omega⟩
  exact weighs_any x i l v w hv hnil hl
/-- A header of integers that may be weighed. -/
def Wgh (w : World) (v : Value) : Prop := ∃ l : List Int, SliceI w v l ∧ (∀ n c, v = .slice none n c → c = 0) ∧ l.length ≤ 1048576
theorem Wgh.below {w w' : World} {v : Value} (h : Wgh w v) (hb : Below w.heap.size w w') : Wgh w' v := by
  obtain ⟨l, h1, h2, h3⟩ := h
  exact ⟨l, h1.below hb, h2, h3⟩
theorem Wgh.call {w : World} {v : Value} (h : Wgh w v) (a : Int) (ha : 0 ≤ a) (ha2 : a ≤ 18446744073709551615) (i : Int) :
    Calls Try.prog 14 #[.int .u64 a, .int .i64 i, v] w fun e w' => e = .returned (.bool true) ∧ Below w.heap.size w w' := by
  obtain ⟨l, h1, h2, h3⟩ := h
  exact weighs_int a ha ha2 i l v w h1 h2 h3
theorem Wgh.of {w : World} {b n c : Nat} {l : List Int} (hl : l.length = n) (hn : n ≤ c) (hc : c ≤ 1048576) (hb : b < w.heap.size) (h : ∀ j (hj : j < l.length), w.cell? ⟨b, j, none⟩ = some (.int .i64 l[j])) : Wgh w (.slice (some ⟨b, 0, none⟩) n c) := by
  refine ⟨l, ⟨some ⟨b, 0, none⟩, c, by rw [hl], by rw [hl]; exact hn, by unfold maxLen; omega, fun _ => ⟨b, 0, rfl, hb, fun j hj => by rw [Nat.zero_add]; exact h j hj⟩⟩, (fun n c h => by cases h), by omega⟩
theorem Wgh.pre {B : Nat} {w : World} {g cap m : Nat} {l : List Nat} (h : OwnI B w (.slice (some ⟨g, 0, none⟩) l.length cap) l) (hm : m ≤ l.length) (h0 : 0 < l.length) (hc : cap ≤ 1048576) : Wgh w (.slice (some ⟨g, 0, none⟩) m cap) := by
  obtain ⟨g', cap', hv, h1, h2, h3, h4, h5⟩ := h.form h0
  cases hv
  exact Wgh.of (l := (l.take m).map Int.ofNat) (by simp; omega) (by omega) hc h2 (fun j hj => by
    have hj' : j < l.length := by simp at hj; omega
    have := (h5.out j hj').1
    simpa using this)
theorem Wgh.nil (w : World) : Wgh w (.slice none 0 0) := ⟨[], ⟨none, 0, rfl, Nat.le_refl _, Nat.zero_le _, fun h => by simp at h⟩, fun n c h => by cases h; rfl, by simp⟩
theorem Wgh.new (w : World) (l : List Int) (hl : l.length ≤ 1000) (h0 : 0 < l.length) : Wgh (w.alloc (.cells (l.map (Value.int .i64)).toArray 3)) (.slice (some ⟨w.heap.size, 0, none⟩) l.length l.length) :=
  Wgh.of rfl (Nat.le_refl _) (by omega) (by simp) (fun j hj => by
    rw [World.cell?_alloc_at _ _ _ _ rfl]; simp [hj])
theorem below_cons {A B C : World} {o : Obj} (h : A.alloc o = B) (k : Below B.heap.size B C) : Below A.heap.size A C := by
  subst h
  exact (Below.alloc (Below.refl _ _) (Nat.le_refl _) o).trans (k.mono (by simp))
theorem size_cons {A B : World} {o : Obj} (h : A.alloc o = B) : B.heap.size = A.heap.size + 1 := by subst h; simp
set_option maxRecDepth 100000 in
set_option maxHeartbeats 2000000 in
theorem lists_yes (w : World) : Calls Try.prog 26 #[] w fun e w' => e = .returned (.bool true) ∧ Below w.heap.size w w' := by
  obtain ⟨w0, hmk, ho, hb0⟩ := run_make_ints 1001 (by omega) w
  have hmk' : Sem.run Try.prog (Instr.makeSlice 25 (.int .i64 1001) (.int .i64 1001)) w = .ok (.slice (some ⟨w.heap.size, 0, none⟩) 1001 1001) w0 := hmk
  obtain ⟨L, hL, hLl⟩ : ∃ L : List Nat, List.replicate 1001 0 = L ∧ L.length = 1001 := ⟨_, rfl, by simp⟩
  have ho' : OwnI w.heap.size w0 (.slice (some ⟨w.heap.size, 0, none⟩) L.length 1001) L := by rw [hLl, ← hL]; exact ho
  have HO := Lib.hid ho'
  have HB0 := Lib.hid hb0
  have HL := Lib.hid hLl
  obtain ⟨G, hG⟩ : ∃ G, w.heap.size = G := ⟨_, rfl⟩
  rw [hG] at hmk' HO
  have HG := Lib.hid hG
  clear ho ho' hb0 hmk hL hLl hG
  have V1 := Lib.hid (by have := Wgh.pre (m := 1001) HO.out (by rw [HL.out]; omega) (by rw [HL.out]; omega) (by omega); exact this : Wgh w0 (.slice (some ⟨G, 0, none⟩) 1001 1001))
  have V2 := Lib.hid (by have := Wgh.pre (m := 1000) HO.out (by rw [HL.out]; omega) (by rw [HL.out]; omega) (by omega); exact this : Wgh w0 (.slice (some ⟨G, 0, none⟩) 1000 1001))
  go_enter Try.func26, Try.ntmps26
  go_wp2_with fail
  refine (V1.out.call _ (by omega) (by omega) _).mono ?_
  rintro e w1 ⟨rfl, hb1⟩
  go_wp2_with fail
  refine ((V2.out.below hb1).call _ (by omega) (by omega) _).mono ?_
  rintro e w2 ⟨rfl, hb2⟩
  have HB2 := Lib.hid (hb1.trans (hb2.mono hb1.size))
  have HO2 := Lib.hid (HO.out.below HB2.out)
  clear hb1 hb2 V1 V2 hmk'
  obtain ⟨g, cap, hv, q1, q2, q3, q4, q5⟩ := HO2.out.form (by rw [HL.out]; omega)
  obtain ⟨y, cy, fy⟩ : ∃ y : Nat, w2.cell? ⟨G, 999, none⟩ = some (.int .i64 (y : Int)) ∧ w2.frozen? ⟨G, 999, none⟩ = false := by
    cases hv; exact ⟨_, q5.out 999 (by rw [HL.out]; omega)⟩
  clear hv q1 q2 q3 q4 q5
  go_wp2_with fail
  obtain ⟨S, hS⟩ : ∃ S, w2.heap.size = S := ⟨_, rfl⟩
  obtain ⟨u0, hu0⟩ : ∃ u, w2.setCell ⟨G, 999, none⟩ (.int .i64 1) = u := ⟨_, rfl⟩
  obtain ⟨u1, hu1⟩ : ∃ u, u0.alloc (.cells #[.int .i64 0] 3) = u := ⟨_, rfl⟩
  obtain ⟨u2, hu2⟩ : ∃ u, u1.alloc (.cells #[.int .i64 1] 3) = u := ⟨_, rfl⟩
  obtain ⟨u3, hu3⟩ : ∃ u, u2.alloc (.cells #[.int .i64 (-1), .int .i64 5] 3) = u := ⟨_, rfl⟩
  obtain ⟨u4, hu4⟩ : ∃ u, u3.alloc (.cells #[.int .i64 5, .int .i64 (-1)] 3) = u := ⟨_, rfl⟩
  obtain ⟨u5, hu5⟩ : ∃ u, u4.alloc (.cells #[.int .i64 1099511627776] 3) = u := ⟨_, rfl⟩
  obtain ⟨u6, hu6⟩ : ∃ u, u5.alloc (.cells #[.int .i64 1099511627777] 3) = u := ⟨_, rfl⟩
  obtain ⟨u7, hu7⟩ : ∃ u, u6.alloc (.cells #[.int .i64 0, .int .i64 0, .int .i64 3] 3) = u := ⟨_, rfl⟩
  obtain ⟨u8, hu8⟩ : ∃ u, u7.alloc (.cells #[.int .i64 1, .int .i64 1, .int .i64 1] 3) = u := ⟨_, rfl⟩
  obtain ⟨wl, hwl⟩ : ∃ u, u8.alloc (.cells #[.slice none 0 0, .slice (some ⟨S, 0, none⟩) 1 1, .slice (some ⟨S + 1, 0, none⟩) 1 1, .slice (some ⟨S + 1 + 1, 0, none⟩) 2 2, .slice (some ⟨S + 1 + 1 + 1, 0, none⟩) 2 2, .slice (some ⟨S + 1 + 1 + 1 + 1, 0, none⟩) 1 1, .slice (some ⟨S + 1 + 1 + 1 + 1 + 1, 0, none⟩) 1 1, .slice (some ⟨S + 1 + 1 + 1 + 1 + 1 + 1, 0, none⟩) 3 3, .slice (some ⟨S + 1 + 1 + 1 + 1 + 1 + 1 + 1, 0, none⟩) 3 3, .slice (some ⟨G, 0, none⟩) 1000 1001, .slice (some ⟨G, 0, none⟩) 1001 1001] 25) = u := ⟨_, rfl⟩
  rw [hS, hu0, hu1, hu2, hu3, hu4, hu5, hu6, hu7, hu8, hwl]
  have s0 : u0.heap.size = S := by rw [← hu0, ← hS]; simp [World.setCell]
  have s1 := size_cons hu1
  have s2 := size_cons hu2
  have s3 := size_cons hu3
  have s4 := size_cons hu4
  have s5 := size_cons hu5
  have s6 := size_cons hu6
  have s7 := size_cons hu7
  have s8 := size_cons hu8
  have s9 := size_cons hwl
  rw [s0] at s1
  rw [s1] at s2
  rw [s2] at s3
  rw [s3] at s4
  rw [s4] at s5
  rw [s5] at s6
  rw [s6] at s7
  rw [s7] at s8
  rw [s8] at s9
  have b8 := below_cons hwl (Below.refl _ _)
  have b7 := below_cons hu8 b8
  have b6 := below_cons hu7 b7
  have b5 := below_cons hu6 b6
  have b4 := below_cons hu5 b5
  have b3 := below_cons hu4 b4
  have b2 := below_cons hu3 b3
  have b1 := below_cons hu2 b2
  have b0 := below_cons hu1 b1
  have W1 : Wgh wl (.slice (some ⟨S, 0, none⟩) 1 1) := by have h := Wgh.new u0 [0] (by simp) (by simp); rw [s0] at h; rw [← hu1] at b1; exact h.below b1
  have W2 : Wgh wl (.slice (some ⟨S + 1, 0, none⟩) 1 1) := by have h := Wgh.new u1 [1] (by simp) (by simp); rw [s1] at h; rw [← hu2] at b2; exact h.below b2
  have W3 : Wgh wl (.slice (some ⟨S + 1 + 1, 0, none⟩) 2 2) := by have h := Wgh.new u2 [-1, 5] (by simp) (by simp); rw [s2] at h; rw [← hu3] at b3; exact h.below b3
  have W4 : Wgh wl (.slice (some ⟨S + 1 + 1 + 1, 0, none⟩) 2 2) := by have h := Wgh.new u3 [5, -1] (by simp) (by simp); rw [s3] at h; rw [← hu4] at b4; exact h.below b4
  have W5 : Wgh wl (.slice (some ⟨S + 1 + 1 + 1 + 1, 0, none⟩) 1 1) := by have h := Wgh.new u4 [1099511627776] (by simp) (by simp); rw [s4] at h; rw [← hu5] at b5; exact h.below b5
  have W6 : Wgh wl (.slice (some ⟨S + 1 + 1 + 1 + 1 + 1, 0, none⟩) 1 1) := by have h := Wgh.new u5 [1099511627777] (by simp) (by simp); rw [s5] at h; rw [← hu6] at b6; exact h.below b6
  have W7 : Wgh wl (.slice (some ⟨S + 1 + 1 + 1 + 1 + 1 + 1, 0, none⟩) 3 3) := by have h := Wgh.new u6 [0, 0, 3] (by simp) (by simp); rw [s6] at h; rw [← hu7] at b7; exact h.below b7
  have W8 : Wgh wl (.slice (some ⟨S + 1 + 1 + 1 + 1 + 1 + 1 + 1, 0, none⟩) 3 3) := by have h := Wgh.new u7 [1, 1, 1] (by simp) (by simp); rw [s7] at h; rw [← hu8] at b8; exact h.below b8
  have HO3 : OwnI G u0 (.slice (some ⟨G, 0, none⟩) (L.set 999 1).length 1001) (L.set 999 1) := by
    rw [← hu0, List.length_set]; exact HO2.out.set 999 1 (by rw [HL.out]; omega)
  have hl3 : (L.set 999 1).length = 1001 := by rw [List.length_set]; exact HL.out
  have W9 : Wgh wl (.slice (some ⟨G, 0, none⟩) 1000 1001) := (Wgh.pre (m := 1000) HO3 (by rw [hl3]; omega) (by rw [hl3]; omega) (by omega)).below b0
  have W10 : Wgh wl (.slice (some ⟨G, 0, none⟩) 1001 1001) := (Wgh.pre (m := 1001) HO3 (by rw [hl3]; omega) (by rw [hl3]; omega) (by omega)).below b0
  obtain ⟨Q, hQ⟩ : ∃ Q, S + 1 + 1 + 1 + 1 + 1 + 1 + 1 + 1 = Q := ⟨_, rfl⟩
  rw [hQ]
  have hall : ∀ j, j < 11 → ∃ a n c, wl.cell? ⟨Q, j, none⟩ = some (.slice a n c) ∧ Wgh wl (.slice a n c) := by
    intro j hj
    rw [← hwl, World.cell?_alloc_at _ _ _ _ (by omega), hwl]
    have hj' : j = 0 ∨ j = 1 ∨ j = 2 ∨ j = 3 ∨ j = 4 ∨ j = 5 ∨ j = 6 ∨ j = 7 ∨ j = 8 ∨ j = 9 ∨ j = 10 := by omega
    rcases hj' with rfl | rfl | rfl | rfl | rfl | rfl | rfl | rfl | rfl | rfl | rfl
    · exact ⟨_, _, _, rfl, Wgh.nil wl⟩
    · exact ⟨_, _, _, rfl, W1⟩
    · exact ⟨_, _, _, rfl, W2⟩
    · exact ⟨_, _, _, rfl, W3⟩
    · exact ⟨_, _, _, rfl, W4⟩
    · exact ⟨_, _, _, rfl, W5⟩
    · exact ⟨_, _, _, rfl, W6⟩
    · exact ⟨_, _, _, rfl, W7⟩
    · exact ⟨_, _, _, rfl, W8⟩
    · exact ⟨_, _, _, rfl, W9⟩
    · exact ⟨_, _, _, rfl, W10⟩
  have HALL := Lib.hid hall
  have hQl : Q < wl.heap.size := by omega
  have hwG : w.heap.size ≤ G := by rw [HG.out]; exact Nat.le_refl _
  have hbl : Below w.heap.size w wl := by
    have h1 := HB0.out.trans (HB2.out.mono HB0.out.size)
    have h2 : Below w.heap.size w u0 := by rw [← hu0]; exact h1.setCell hwG _
    exact h2.trans (b0.mono h2.size)
  have HBL := Lib.hid hbl
  clear hall W1 W2 W3 W4 W5 W6 W7 W8 W9 W10 b0 b1 b2 b3 b4 b5 b6 b7 b8 s0 s1 s2 s3 s4 s5 s6 s7 s8 s9 hu0 hu1 hu2 hu3 hu4 hu5 hu6 hu7 hu8 hwl hQ hS HO3 hl3 cy fy hbl
  go_loopw [30] (fun a wr => ∃ q : Nat, q ≤ 11 ∧ a = .int .i64 (q : Int) ∧ Below wl.heap.size wl wr) (fun a _ => 11 - (intOf a).toNat)
  case atStart => exact ⟨0, by omega, rfl, Below.refl _ _⟩
  case round =>
    obtain ⟨q, hq, rfl, hb⟩ := hrel
    by_cases hlq : q < 11
    · obtain ⟨a, n, c, hv, hw⟩ := HALL.out q hlq
      have cv := (hb.cell (p := ⟨Q, q, none⟩) hQl).trans hv
      have HW := Lib.hid hw
      have HB := Lib.hid hb
      have dq : decide ((q : Int) < 11) = true := by simp; omega
      clear hv hw hb
      go_wp2_with fail
      clear cv dq
      go_loopw [4] (fun x wr2 => ∃ (p : Nat) (d : Int), p ≤ 4 ∧ (p : Int) - 1 = d ∧ x = .int .i64 d ∧ Below wl.heap.size wl wr2) (fun x _ => 4 - (intOf x + 1).toNat)
      case atStart => exact ⟨0, -1, by omega, rfl, rfl, HB.out⟩
      case round =>
        obtain ⟨p, d, hp, hpd, rfl, hb2⟩ := hrel
        have HPD := Lib.hid hpd
        have hd1 : -1 ≤ d := by omega
        have hd2 : d ≤ 3 := by omega
        clear hpd
        by_cases hlp : p < 4
        · have hd3 : d < 3 := by have := HPD.out; omega
          go_wp2_with fail
          refine ((HW.out.below hb2).call _ (by omega) (by omega) _).mono ?_
          rintro e w3 ⟨rfl, hb3⟩
          replace hb3 := hb2.trans (hb3.mono hb2.size)
          clear hb2
          go_wp2_with fail
          refine ((HW.out.below hb3).call _ (by omega) (by omega) _).mono ?_
          rintro e w4 ⟨rfl, hb4⟩
          replace hb4 := hb3.trans (hb4.mono hb3.size)
          clear hb3
          go_wp2_with fail
          go_roundw
          case rel => exact ⟨p + 1, d + 1, by omega, by have := HPD.out; omega, rfl, hb4⟩
          case measure => simp [intOf]; have := HPD.out; omega
        · have hd3 : ¬ d < 3 := by have := HPD.out; omega
          go_wp2_with fail
          go_roundw
          case rel => exact ⟨q + 1, by omega, by go_num, hb2⟩
          case measure => simp [intOf]; omega
    · have hb9 := HBL.out.trans (hb.mono HBL.out.size)
      clear hb
      go_wp2_with fail
      refine (draws_int _ (by omega) (by omega) _ _ _ (by omega) _).mono ?_
      rintro e w3 ⟨rfl, hb3⟩
      replace hb3 := hb9.trans (hb3.mono hb9.size)
      clear hb9
      go_wp2_with fail
      refine (awake_yes _).mono ?_
      rintro e w4 ⟨rfl, hb4⟩
      replace hb4 := hb3.trans (hb4.mono hb3.size)
      go_wp2_with fail
      go_ret
      exact ⟨rfl, hb4⟩
end Go.Proofs.Ytodaembemcljnaa
