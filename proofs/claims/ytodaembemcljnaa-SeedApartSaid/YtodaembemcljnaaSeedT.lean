import Derived.Test.YtodaembemcljnaaSeedS
import Derived.Laws.IdiomStrings
import Derived.Laws.BitsAllLaws
/-
  SeedApart's walk.
-/
namespace Go.Proofs.Ytodaembemcljnaa
open Go.RowKit
set_option linter.unusedVariables false

theorem beq_of_iff {a b c d : Int} (h : a = b ↔ c = d) : (a == b) = (c == d) := by
  rw [Bool.eq_iff_iff]; simpa using h
theorem toNat_iff {x y : Wd} : ((x.toNat : Int) = (y.toNat : Int)) ↔ x = y := by
  constructor
  · intro h; exact BitVec.eq_of_toNat_eq (by omega)
  · rintro rfl; rfl
theorem mix_beq (x y : Wd) : (((mix x).toNat : Int) == ((mix y).toNat : Int)) = ((x.toNat : Int) == (y.toNat : Int)) := beq_of_iff (by rw [toNat_iff, toNat_iff, mix_inj])
theorem xor_inj (k a b : Wd) : k ^^^ a = k ^^^ b ↔ a = b := by
  constructor
  · intro h
    have := congrArg (fun z => k ^^^ z) h
    simpa [← BitVec.xor_assoc] using this
  · rintro rfl; rfl
theorem xor_inj' (k a b : Wd) : a ^^^ k = b ^^^ k ↔ a = b := by
  rw [BitVec.xor_comm a, BitVec.xor_comm b]; exact xor_inj k a b
/-- The stream of a number. -/
def atW (x : Wd) (n : Int) : Wd := mix (mix (x + 1#64) ^^^ BitVec.ofInt 64 n)
theorem ofInt_inj {i j : Int} (hi : -9223372036854775808 ≤ i ∧ i ≤ 9223372036854775807) (hj : -9223372036854775808 ≤ j ∧ j ≤ 9223372036854775807) : BitVec.ofInt 64 i = BitVec.ofInt 64 j ↔ i = j := by
  constructor
  · intro h
    have := congrArg BitVec.toNat h
    rw [BitVec.toNat_ofInt, BitVec.toNat_ofInt] at this
    omega
  · rintro rfl; rfl
theorem at_i {x : Wd} {i j : Int} (hi : -9223372036854775808 ≤ i ∧ i ≤ 9223372036854775807) (hj : -9223372036854775808 ≤ j ∧ j ≤ 9223372036854775807) : (((atW x i).toNat : Int) == ((atW x j).toNat : Int)) = (i == j) :=
  beq_of_iff (by unfold atW; rw [toNat_iff, mix_inj, xor_inj, ofInt_inj hi hj])
theorem add_one_inj {x y : Wd} : x + 1#64 = y + 1#64 ↔ x = y := by
  constructor
  · intro h
    have := congrArg (fun z => z - 1#64) h
    simpa [BitVec.add_sub_cancel] using this
  · rintro rfl; rfl
theorem at_x {x y : Wd} (i : Int) : (((atW x i).toNat : Int) == ((atW y i).toNat : Int)) = ((x.toNat : Int) == (y.toNat : Int)) :=
  beq_of_iff (by unfold atW; rw [toNat_iff, toNat_iff, mix_inj, xor_inj', mix_inj, add_one_inj])
theorem word_i {x : Wd} {p q : Nat} (hp : p < 1099511627776) (hq : q < 1099511627776) : (((word x p).toNat : Int) == ((word x q).toNat : Int)) = ((p : Int) == (q : Int)) :=
  beq_of_iff (by
    rw [toNat_iff]
    constructor
    · intro h; have := word_inj (by omega) (by omega) h; omega
    · intro h; have : p = q := by omega
      rw [this])
theorem subG_inj {k k' : Wd} {c c' : UInt8} : subG k c = subG k' c' ↔ k ^^^ BitVec.ofNat 64 c.toNat = k' ^^^ BitVec.ofNat 64 c'.toNat := by
  unfold subG; exact mix_inj
theorem subF_cons (c : UInt8) (l : List UInt8) (k : Wd) : subF (c :: l) k = subF l (subG k c) := by unfold subF; rw [List.foldl_cons]
theorem subF_inj : ∀ (l : List UInt8) (k k' : Wd), subF l k = subF l k' ↔ k = k'
  | [], k, k' => by rw [subF_nil, subF_nil]
  | c :: l, k, k' => by rw [subF_cons, subF_cons, subF_inj l, subG_inj, xor_inj']
theorem subF_app (l m : List UInt8) (k : Wd) : subF (l ++ m) k = subF m (subF l k) := by unfold subF; rw [List.foldl_append]
theorem byte_inj {c d : UInt8} : BitVec.ofNat 64 c.toNat = BitVec.ofNat 64 d.toNat ↔ c = d := by
  constructor
  · intro h
    have := congrArg BitVec.toNat h
    have h1 := c.toNat_lt
    have h2 := d.toNat_lt
    rw [BitVec.toNat_ofNat, BitVec.toNat_ofNat, Nat.mod_eq_of_lt (by omega), Nat.mod_eq_of_lt (by omega)] at this
    exact UInt8.toNat_inj.1 this
  · rintro rfl; rfl
theorem subF_set (l : List UInt8) (p : Nat) (hp : p < l.length) (c : UInt8) (k : Wd) : subF l k = subF (l.set p c) k ↔ l[p] = c := by
  have e1 : l = l.take p ++ l[p] :: l.drop (p + 1) := by rw [List.getElem_cons_drop, List.take_append_drop]
  have e2 : l.set p c = l.take p ++ c :: l.drop (p + 1) := by rw [List.set_eq_take_append_cons_drop, if_pos hp]
  rw [e2]
  conv => lhs; lhs; rw [e1]
  rw [subF_app, subF_app, subF_cons, subF_cons, subF_inj, subG_inj, xor_inj, byte_inj]
theorem subK_x (x y : Wd) (s : ByteArray) : subK x s = subK y s ↔ x = y := by
  unfold subK; rw [subF_inj, mix_inj, xor_inj']

/-- A string's bytes in a new block. -/
theorem run_bytes_new (w : World) (s : ByteArray) : ∃ (cap : Nat) (w' : World), Sem.run Try.prog (convert 9 43 (.string s)) w = .ok (.slice (some ⟨w.heap.size, 0, none⟩) s.size cap) w' ∧ s.size ≤ cap ∧ w.heap.size < w'.heap.size ∧ Below w.heap.size w w' ∧
    Hid (∀ j (hj : j < s.size), w'.cell? ⟨w.heap.size, j, none⟩ = some (.int .u8 (s[j].toNat : Int)) ∧ w'.frozen? ⟨w.heap.size, j, none⟩ = false) := by
  refine ⟨_, _, run_bytes_of_string w 9 43 5 s Try.underlying9 Try.underlying43 Try.underlying5, grownCap_ge _ _ _ _, by simp, ((Below.refl _ _).drew).alloc (Nat.le_refl _) _, fun j hj => ?_⟩
  constructor
  · have : (w.drew.alloc (.cells (bytesRow s (grownCap w s.size 0 5)) 5 ((bytesRow s (grownCap w s.size 0 5)).size, (bytesRow s (grownCap w s.size 0 5)).size + 1))).cell? ⟨w.heap.size, j, none⟩ = (bytesRow s (grownCap w s.size 0 5))[j]? := World.cell?_alloc_mark w.drew _ _ _ _
    rw [this]
    unfold bytesRow
    rw [Array.getElem?_append_left (by simpa using hj)]
    simp [hj]
    rfl
  · have hsz : j < (bytesRow s (grownCap w s.size 0 5)).size := by unfold bytesRow; simp; omega
    have : (w.drew.alloc (.cells (bytesRow s (grownCap w s.size 0 5)) 5 ((bytesRow s (grownCap w s.size 0 5)).size, (bytesRow s (grownCap w s.size 0 5)).size + 1))).frozen? ⟨w.heap.size, j, none⟩ = (decide ((bytesRow s (grownCap w s.size 0 5)).size ≤ j) && decide (j < (bytesRow s (grownCap w s.size 0 5)).size + 1)) := World.frozen?_alloc_mark w.drew _ _ _ _ _
    rw [this]
    simp; omega
/-- The string of the bytes, one of which has been written. -/
theorem run_bytes_back1 (w : World) (s : ByteArray) (M cap ix : Nat) (d : UInt8) (hix : ix < s.size) (h : Hid (∀ j (hj : j < s.size), w.cell? ⟨M, j, none⟩ = some (.int .u8 (s[j].toNat : Int)) ∧ w.frozen? ⟨M, j, none⟩ = false)) :
    Sem.run Try.prog (convert 43 9 (.slice (some ⟨M, 0, none⟩) s.size cap)) (w.setCell ⟨M, ix, none⟩ (.int .u8 (d.toNat : Int))) = .ok (.string ⟨(s.data.toList.set ix d).toArray⟩) (w.setCell ⟨M, ix, none⟩ (.int .u8 (d.toNat : Int))) := by
  have hl : (s.data.toList.set ix d).length = s.size := by rw [List.length_set, Array.length_toList]; rfl
  have := run_convert_bytes_back (P := Try.prog) (w.setCell ⟨M, ix, none⟩ (.int .u8 (d.toNat : Int))) 43 9 5 ⟨M, 0, none⟩ cap (s.data.toList.set ix d) Try.underlying43 Try.underlying5 Try.underlying9 (fun j hj => by
    have hj' : j < s.size := by rw [hl] at hj; exact hj
    rw [Addr.add_lit, Nat.zero_add]
    by_cases e : j = ix
    · subst e
      have := (h.out j hj').1
      simp [go_sem, this]
    · have h2 := (h.out j hj').1
      have hne : ¬ ix = j := fun x => e x.symm
      simp [go_sem, h2, hne]
      rfl)
  rw [hl] at this
  exact this
theorem byte_xor (c : UInt8) (b : Nat) (hb : b ≤ 255) : bits .xor .u8 (c.toNat : Int) (b : Int) = (((c ^^^ UInt8.ofNat b).toNat : Nat) : Int) := by
  rw [u8_xor_nat _ _ c.toNat_lt (by omega), UInt8.toNat_xor, UInt8.toNat_ofNat', Nat.mod_eq_of_lt (by omega)]
theorem byte_xor_eq (c : UInt8) (b : Nat) (hb : b ≤ 255) : c = c ^^^ UInt8.ofNat b ↔ b = 0 := by
  constructor
  · intro h
    have h1 := congrArg UInt8.toNat h
    rw [UInt8.toNat_xor, UInt8.toNat_ofNat', Nat.mod_eq_of_lt (by omega)] at h1
    have h2 : c.toNat ^^^ c.toNat = c.toNat ^^^ (c.toNat ^^^ b) := congrArg (fun z => c.toNat ^^^ z) h1
    rw [← Nat.xor_assoc, Nat.xor_self, Nat.zero_xor] at h2
    omega
  · rintro rfl
    apply UInt8.toNat_inj.1
    rw [UInt8.toNat_xor]; simp
theorem subK_set (x : Wd) (s : ByteArray) (p : Nat) (hp : p < s.size) (c : UInt8) : subK x s = subK x ⟨(s.data.toList.set p c).toArray⟩ ↔ s[p] = c := by
  unfold subK
  have e : (ByteArray.mk (s.data.toList.set p c).toArray).size = s.size := by
    show ((s.data.toList.set p c).toArray).size = s.data.size
    rw [List.size_toArray, List.length_set, Array.length_toList]
  rw [e]
  exact subF_set s.data.toList p (by simpa using hp) c _

set_option maxRecDepth 100000 in
set_option maxHeartbeats 4000000 in
theorem apart_walk (x y : Wd) (i j : Int) (s : ByteArray) (a b : Nat) (hi : -9223372036854775808 ≤ i ∧ i ≤ 9223372036854775807) (hj : -9223372036854775808 ≤ j ∧ j ≤ 9223372036854775807) (hs : s.size ≤ maxLen) (ha : a ≤ 255) (hb : b ≤ 255) (w : World) :
    Calls Try.prog 11 #[.int .u64 (x.toNat : Int), .int .u64 (y.toNat : Int), .int .i64 i, .int .i64 j, .string s, .int .u8 (a : Int), .int .u8 (b : Int)] w fun e w' => e = .returned (.bool true) ∧ Below w.heap.size w w' := by
  unfold maxLen at hs
  obtain ⟨B, hB⟩ : ∃ B, ((x.toNat : Int) == (y.toNat : Int)) = B := ⟨_, rfl⟩
  have hm := (mix_beq x y).trans hB
  have HM := Lib.hid hm
  have HB := Lib.hid hB
  obtain ⟨mx, hmx⟩ : ∃ z, mix x = z := ⟨_, rfl⟩
  obtain ⟨my, hmy⟩ : ∃ z, mix y = z := ⟨_, rfl⟩
  have hum := unmix_mix x
  rw [hmx] at hum HM
  rw [hmy] at HM
  have U1 := Lib.hid (fun w => unmix_any mx w)
  have M1 := Lib.hid (fun w => mix_any x w)
  have M2 := Lib.hid (fun w => mix_any y w)
  have N1 := Lib.hid (fun w => new_any x w)
  have N2 := Lib.hid (fun w => new_any y w)
  rw [hum] at U1
  rw [hmx] at M1 N1
  rw [hmy] at M2 N2
  obtain ⟨ux', hux⟩ : ∃ z, unmix x = z := ⟨_, rfl⟩
  have hmu := mix_unmix x
  rw [hux] at hmu
  have U2 := Lib.hid (fun w => unmix_any x w)
  have M3 := Lib.hid (fun w => mix_any ux' w)
  rw [hux] at U2
  rw [hmu] at M3
  have i1 := HM.out
  obtain ⟨I, hI⟩ : ∃ I, (i == j) = I := ⟨_, rfl⟩
  have ha1 := (at_i (x := x) hi hj).trans hI
  have ha2 := (at_x (x := x) (y := y) i).trans hB
  have T1 := Lib.hid (fun w => at_any x i w)
  have T2 := Lib.hid (fun w => at_any x j w)
  have T3 := Lib.hid (fun w => at_any y i w)
  obtain ⟨a1, ea1⟩ : ∃ z, atW x i = z := ⟨_, rfl⟩
  obtain ⟨a2, ea2⟩ : ∃ z, atW x j = z := ⟨_, rfl⟩
  obtain ⟨a3, ea3⟩ : ∃ z, atW y i = z := ⟨_, rfl⟩
  have ea1' : mix (mix (x + 1#64) ^^^ BitVec.ofInt 64 i) = a1 := ea1
  have ea2' : mix (mix (x + 1#64) ^^^ BitVec.ofInt 64 j) = a2 := ea2
  have ea3' : mix (mix (y + 1#64) ^^^ BitVec.ofInt 64 i) = a3 := ea3
  rw [ea1, ea2] at ha1
  rw [ea1, ea3] at ha2
  rw [ea1'] at T1
  rw [ea2'] at T2
  rw [ea3'] at T3
  have HA1 := Lib.hid ha1
  have HA2 := Lib.hid ha2
  have HI := Lib.hid hI
  clear ea1 ea2 ea3 ea1' ea2' ea3' ha1 ha2 hI
  have P1 := Lib.hid (fun w => pick_any i 1099511627776 (by omega) (by omega) hi w)
  have P2 := Lib.hid (fun w => pick_any j 1099511627776 (by omega) (by omega) hj w)
  obtain ⟨p, hp⟩ : ∃ p : Nat, i % ((1099511627776 : Nat) : Int) = (p : Int) := ⟨(i % 1099511627776).toNat, by omega⟩
  obtain ⟨q, hq⟩ : ∃ p : Nat, j % ((1099511627776 : Nat) : Int) = (p : Int) := ⟨(j % 1099511627776).toNat, by omega⟩
  have hp2 : p < 1099511627776 := by omega
  have hq2 : q < 1099511627776 := by omega
  rw [hp] at P1
  rw [hq] at P2
  obtain ⟨PB, hPB⟩ : ∃ P, ((p : Int) == (q : Int)) = P := ⟨_, rfl⟩
  have hwi := (word_i (x := x) hp2 hq2).trans hPB
  have W1 := Lib.hid (fun w => Word_any x p hp2 w)
  have W2 := Lib.hid (fun w => Word_any x q hq2 w)
  obtain ⟨v1, ev1⟩ : ∃ z, word x p = z := ⟨_, rfl⟩
  obtain ⟨v2, ev2⟩ : ∃ z, word x q = z := ⟨_, rfl⟩
  rw [ev1] at W1 hwi
  rw [ev2] at W2 hwi
  have HPB := Lib.hid hPB
  have HWI := Lib.hid hwi
  clear ev1 ev2 hp hq hPB hwi
  clear hm hmx hmy hum hux hmu
  go_enter Try.func11, Try.ntmps11
  go_wp2_with fail
  refine (awake_yes _).mono ?_
  rintro e w1 ⟨rfl, hb1⟩
  go_wp2_with fail
  refine (M1.out _).mono ?_
  rintro e w2 ⟨rfl, hb2⟩
  replace hb2 := hb1.trans (hb2.mono hb1.size)
  go_wp2_with fail
  refine (U1.out _).mono ?_
  rintro e w3 ⟨rfl, hb3⟩
  replace hb3 := hb2.trans (hb3.mono hb2.size)
  clear hb1 hb2
  go_wp2_with fail
  refine (U2.out _).mono ?_
  rintro e w4 ⟨rfl, hb4⟩
  replace hb4 := hb3.trans (hb4.mono hb3.size)
  go_wp2_with fail
  refine (M3.out _).mono ?_
  rintro e w5 ⟨rfl, hb5⟩
  replace hb5 := hb4.trans (hb5.mono hb4.size)
  clear hb3 hb4
  go_wp2_with fail
  refine (M1.out _).mono ?_
  rintro e w6 ⟨rfl, hb6⟩
  replace hb6 := hb5.trans (hb6.mono hb5.size)
  go_wp2_with fail
  refine (M2.out _).mono ?_
  rintro e w7 ⟨rfl, hb7⟩
  replace hb7 := hb6.trans (hb7.mono hb6.size)
  clear hb5 hb6
  go_wp2_with fail
  refine (N1.out _).mono ?_
  rintro e w8 ⟨rfl, hb8⟩
  replace hb8 := hb7.trans (hb8.mono hb7.size)
  go_wp2_with fail
  refine (N2.out _).mono ?_
  rintro e w9 ⟨rfl, hb9⟩
  replace hb9 := hb8.trans (hb9.mono hb8.size)
  clear hb7 hb8
  go_wp2_with fail
  all_goals
    obtain ⟨w0, hw0⟩ : ∃ w0, (w9.alloc (.cells #[.int .u64 (x.toNat : Int)] 31)).alloc (.cells #[.int .u64 (y.toNat : Int)] 31) = w0 := ⟨_, rfl⟩
    have hb0 : Below w.heap.size w w0 := by rw [← hw0]; exact (hb9.alloc hb9.size _).alloc (by have := hb9.size; simp; omega) _
    have cx : w0.cell? ⟨w9.heap.size, 0, none⟩ = some (.int .u64 (x.toNat : Int)) := by rw [← hw0]; simp [go_sem]
    have cy : w0.cell? ⟨w9.heap.size + 1, 0, none⟩ = some (.int .u64 (y.toNat : Int)) := by rw [← hw0]; simp [go_sem]
    have lx : w9.heap.size + 1 < w0.heap.size := by rw [← hw0]; simp
    have lx' : w9.heap.size < w0.heap.size := by omega
    rw [hw0]
    clear hw0
    have k0 : ∀ p : Later w0, p.w'.cell? ⟨w9.heap.size, 0, none⟩ = some (.int .u64 (x.toNat : Int)) := fun p => p.cell cx lx'
    have k1 : ∀ p : Later w0, p.w'.cell? ⟨w9.heap.size + 1, 0, none⟩ = some (.int .u64 (y.toNat : Int)) := fun p => p.cell cy lx
    have q1 := HA1.out
    have q2 := HA2.out
    have q3 := HI.out
    rename_i hBB
    cases I
    all_goals
      refine wp_region_later (by kernel_rfl) (by kernel_rfl) ?_
      repeat (go_big_quiet_step ((go_at_call 30; first | (with_reducible exact Calls.later_of (T1.out _)) | (with_reducible exact Calls.later_of (T2.out _)) | (with_reducible exact Calls.later_of (T3.out _)))))
      (refine wpQuiet_nil ?_; rintro wq ⟨⟨_, hq⟩, rfl⟩; try dsimp only)
      clear k0 k1
      have cx2 := (hq.cell (p := ⟨w9.heap.size, 0, none⟩) lx').trans cx
      have cy2 := (hq.cell (p := ⟨w9.heap.size + 1, 0, none⟩) lx).trans cy
      have ly : w9.heap.size + 1 < wq.heap.size := Nat.lt_of_lt_of_le lx hq.size
      replace hq := hb0.trans (hq.mono hb0.size)
      clear cx cy lx lx' hb0 hb9 q1 q2 q3
      go_wp2_with fail
      refine (P1.out _).mono ?_
      rintro e wz ⟨rfl, rfl⟩
      go_wp2_with fail
      refine (P2.out _).mono ?_
      rintro e wz ⟨rfl, rfl⟩
      go_wp2_with fail
      refine (W1.out _).mono ?_
      rintro e wa ⟨rfl, hba⟩
      have cx3 := (hba.cell (p := ⟨w9.heap.size, 0, none⟩) (by show w9.heap.size < _; omega)).trans cx2
      have cy3 := (hba.cell (p := ⟨w9.heap.size + 1, 0, none⟩) ly).trans cy2
      have lz : w9.heap.size + 1 < wa.heap.size := Nat.lt_of_lt_of_le ly hba.size
      replace hba := hq.trans (hba.mono hq.size)
      clear cx2 cy2 ly hq
      go_wp2_with fail
      refine (W2.out _).mono ?_
      rintro e wb ⟨rfl, hbb⟩
      have cx4 := (hbb.cell (p := ⟨w9.heap.size, 0, none⟩) (by show w9.heap.size < _; omega)).trans cx3
      have cy4 := (hbb.cell (p := ⟨w9.heap.size + 1, 0, none⟩) lz).trans cy3
      have lw : w9.heap.size + 1 < wb.heap.size := Nat.lt_of_lt_of_le lz hbb.size
      replace hbb := hba.trans (hbb.mono hba.size)
      clear cx3 cy3 lz hba
      have q4 := HPB.out
      have q5 := HWI.out
      have q6 := HM.out
      have q7 := HB.out
      by_cases hs1 : s.size < 1
      · have hs2 : (s.size : Int) < 1 := by omega
        cases PB
        all_goals
          go_wp2_with fail
          go_ret
          exact ⟨rfl, hbb⟩
      · by_cases hs2 : 32 < s.size
        · have hs3 : ¬ (s.size : Int) < 1 := by omega
          have hs4 : (32 : Int) < s.size := by omega
          cases PB
          all_goals
            go_wp2_with fail
            go_ret
            exact ⟨rfl, hbb⟩
        · have hs3 : ¬ (s.size : Int) < 1 := by omega
          have hs4 : ¬ (32 : Int) < s.size := by omega
          cases PB
          all_goals
            have hs5 : 1 ≤ s.size := by omega
            have hs6 : s.size ≤ 32 := by omega
            have K1 := Lib.hid (fun w => Sub_any x s hs5 hs6 w)
            have K2 := Lib.hid (fun w => Sub_any y s hs5 hs6 w)
            have hkk : (((subK x s).toNat : Int) == ((subK y s).toNat : Int)) = ((x.toNat : Int) == (y.toNat : Int)) := beq_of_iff (by rw [toNat_iff, toNat_iff, subK_x])
            have HKK := Lib.hid (hkk.trans HB.out)
            obtain ⟨k1, ek1⟩ : ∃ z, subK x s = z := ⟨_, rfl⟩
            obtain ⟨k2, ek2⟩ : ∃ z, subK y s = z := ⟨_, rfl⟩
            rw [ek1] at K1 HKK
            rw [ek2] at K2 HKK
            have EK1 := Lib.hid ek1
            clear ek1 ek2 hkk
            go_wp2_with fail
            clear q4 q5
            refine (K1.out _).mono ?_
            rintro e wc ⟨rfl, hbc⟩
            have cx5 := (hbc.cell (p := ⟨w9.heap.size, 0, none⟩) (by show w9.heap.size < _; omega)).trans cx4
            have cy5 := (hbc.cell (p := ⟨w9.heap.size + 1, 0, none⟩) lw).trans cy4
            have lc : w9.heap.size + 1 < wc.heap.size := Nat.lt_of_lt_of_le lw hbc.size
            replace hbc := hbb.trans (hbc.mono hbb.size)
            clear cx4 cy4 lw hbb
            obtain ⟨wc1, hwc1⟩ : ∃ wc1, wc.alloc (.cells #[.int .u64 (k1.toNat : Int)] 31) = wc1 := ⟨_, rfl⟩
            have cx6 : wc1.cell? ⟨w9.heap.size, 0, none⟩ = some (.int .u64 (x.toNat : Int)) := by rw [← hwc1, World.cell?_alloc_past _ _ _ (by omega)]; exact cx5
            have cy6 : wc1.cell? ⟨w9.heap.size + 1, 0, none⟩ = some (.int .u64 (y.toNat : Int)) := by rw [← hwc1, World.cell?_alloc_past _ _ _ (by omega)]; exact cy5
            have ck1 : wc1.cell? ⟨wc.heap.size, 0, none⟩ = some (.int .u64 (k1.toNat : Int)) := by rw [← hwc1]; simp [go_sem]
            have lc1 : wc.heap.size < wc1.heap.size := by rw [← hwc1]; simp
            have hbc1 : Below w.heap.size w wc1 := by rw [← hwc1]; exact hbc.alloc hbc.size _
            go_wp2_with fail
            clear hwc1 cx5 cy5 hbc
            refine (K2.out _).mono ?_
            rintro e wd ⟨rfl, hbd⟩
            have cx7 := (hbd.cell (p := ⟨w9.heap.size, 0, none⟩) (by show w9.heap.size < _; omega)).trans cx6
            have ck7 := (hbd.cell (p := ⟨wc.heap.size, 0, none⟩) lc1).trans ck1
            have ld : w9.heap.size < wd.heap.size := by have := hbd.size; omega
            have ld2 : wc.heap.size < wd.heap.size := by have := hbd.size; omega
            replace hbd := hbc1.trans (hbd.mono hbc1.size)
            clear cx6 cy6 ck1 hbc1 lc1 lc
            obtain ⟨wd1, hwd1⟩ : ∃ wd1, wd.alloc (.cells #[.int .u64 (k2.toNat : Int)] 31) = wd1 := ⟨_, rfl⟩
            have cx8 : wd1.cell? ⟨w9.heap.size, 0, none⟩ = some (.int .u64 (x.toNat : Int)) := by rw [← hwd1, World.cell?_alloc_past _ _ _ (by omega)]; exact cx7
            have ck8 : wd1.cell? ⟨wc.heap.size, 0, none⟩ = some (.int .u64 (k1.toNat : Int)) := by rw [← hwd1, World.cell?_alloc_past _ _ _ (by omega)]; exact ck7
            have cl8 : wd1.cell? ⟨wd.heap.size, 0, none⟩ = some (.int .u64 (k2.toNat : Int)) := by rw [← hwd1]; simp [go_sem]
            have le1 : wd.heap.size < wd1.heap.size := by rw [← hwd1]; simp
            have hbd1 : Below w.heap.size w wd1 := by rw [← hwd1]; exact hbd.alloc hbd.size _
            clear cx7 ck7 ld ld2 hbd
            obtain ⟨cap, we, hcv, hcap, lwe, hbe, HCE⟩ := run_bytes_new wd1 s
            have cxe := (hbe.cell (p := ⟨w9.heap.size, 0, none⟩) (by show w9.heap.size < _; exact World.block_lt_of_cell? wd1 _ cx8)).trans cx8
            have cke := (hbe.cell (p := ⟨wc.heap.size, 0, none⟩) (by show wc.heap.size < _; exact World.block_lt_of_cell? wd1 _ ck8)).trans ck8
            have cle := (hbe.cell (p := ⟨wd.heap.size, 0, none⟩) le1).trans cl8
            have n1 : w9.heap.size < wd1.heap.size := World.block_lt_of_cell? wd1 _ cx8
            have n2 : wc.heap.size < wd1.heap.size := World.block_lt_of_cell? wd1 _ ck8
            have hbe1 := hbd1.trans (hbe.mono hbd1.size)
            have hbw : w.heap.size ≤ wd1.heap.size := hbd1.size
            clear cx8 ck8 cl8 hbd1 hbe
            obtain ⟨M, hM⟩ : ∃ M, wd1.heap.size = M := ⟨_, rfl⟩
            rw [hM] at hcv lwe HCE le1 n1 n2 hbw
            obtain ⟨ix, hix⟩ : ∃ ix : Nat, a % s.size = ix := ⟨_, rfl⟩
            have hixl : ix < s.size := by rw [← hix]; exact Nat.mod_lt _ (by omega)
            have hmod : (a : Int) % (s.size : Int) = (ix : Int) := by omega
            obtain ⟨ce, cf⟩ := HCE.out ix hixl
            obtain ⟨c, hc⟩ : ∃ c, s[ix] = c := ⟨_, rfl⟩
            obtain ⟨d, hd⟩ : ∃ d, c ^^^ UInt8.ofNat b = d := ⟨_, rfl⟩
            rw [hc] at ce
            have hxo : bits .xor .u8 (c.toNat : Int) (b : Int) = ((d.toNat : Nat) : Int) := by rw [byte_xor c b hb, hd]
            have HBX := Lib.hid (by rw [← hd]; exact byte_xor_eq c b hb : c = d ↔ b = 0)
            have HSX := Lib.hid (by rw [← hc]; exact subK_set x s ix hixl d : subK x s = subK x ⟨(s.data.toList.set ix d).toArray⟩ ↔ c = d)
            have hcl : c.toNat < 256 := c.toNat_lt
            have i7 : (ix : Int) < s.size := by omega
            have hcb := run_bytes_back1 we s M cap ix d hixl HCE
            obtain ⟨s2, hs2e⟩ : ∃ s2, ByteArray.mk (s.data.toList.set ix d).toArray = s2 := ⟨_, rfl⟩
            have hsz2 : s2.size = s.size := by
              rw [← hs2e]
              show ((s.data.toList.set ix d).toArray).size = s.data.size
              rw [List.size_toArray, List.length_set, Array.length_toList]
            rw [hs2e] at hcb HSX
            have hs7 : 1 ≤ s2.size := by omega
            have hs8 : s2.size ≤ 32 := by omega
            have K3 := Lib.hid (fun w => Sub_any x s2 hs7 hs8 w)
            obtain ⟨BY, hBY⟩ : ∃ BY, ((b : Int) == 0) = BY := ⟨_, rfl⟩
            have hk13 : ((k1.toNat : Int) == ((subK x s2).toNat : Int)) = BY := by
              rw [← hBY, ← EK1.out]
              exact beq_of_iff (by rw [toNat_iff, HSX.out, HBX.out]; omega)
            obtain ⟨k3, ek3⟩ : ∃ z, subK x s2 = z := ⟨_, rfl⟩
            rw [ek3] at K3 hk13
            have HK13 := Lib.hid hk13
            have HBY := Lib.hid hBY
            clear hM hix hc hd hs2e hsz2 hs7 hs8 ek3 hk13 hBY
            obtain ⟨wz, hwz⟩ : ∃ wz, we.setCell ⟨M, ix, none⟩ (.int .u8 (d.toNat : Int)) = wz := ⟨_, rfl⟩
            have cxf : wz.cell? ⟨w9.heap.size, 0, none⟩ = some (.int .u64 (x.toNat : Int)) := by
              rw [← hwz]; simp [go_sem, cxe]
            have ckf : wz.cell? ⟨wc.heap.size, 0, none⟩ = some (.int .u64 (k1.toNat : Int)) := by
              rw [← hwz]; simp [go_sem, cke]
            have clf : wz.cell? ⟨wd.heap.size, 0, none⟩ = some (.int .u64 (k2.toNat : Int)) := by
              rw [← hwz]; simp [go_sem, cle]
            have hbz : Below w.heap.size w wz := by rw [← hwz]; exact hbe1.setCell hbw _
            have szz : wz.heap.size = we.heap.size := by rw [← hwz]; simp [World.setCell]
            have m2 : wc.heap.size < wz.heap.size := World.block_lt_of_cell? wz _ ckf
            have m3 : wd.heap.size < wz.heap.size := World.block_lt_of_cell? wz _ clf
            rw [hwz] at hcb
            clear szz cke cle hbe1
            go_wp2_with fail
            refine (K3.out _).mono ?_
            rintro e wf ⟨rfl, hbf⟩
            have ckg := (hbf.cell (p := ⟨wc.heap.size, 0, none⟩) m2).trans ckf
            have clg := (hbf.cell (p := ⟨wd.heap.size, 0, none⟩) m3).trans clf
            have o2 : wc.heap.size < wf.heap.size := Nat.lt_of_lt_of_le m2 hbf.size
            have o3 : wd.heap.size < wf.heap.size := Nat.lt_of_lt_of_le m3 hbf.size
            replace hbf := hbz.trans (hbf.mono hbz.size)
            clear ckf clf m2 m3 hbz hwz hcb hcv hxo cxe ce cf hwd1
            obtain ⟨wg, hwg⟩ : ∃ wg, wf.alloc (.cells #[.int .u64 (k3.toNat : Int)] 31) = wg := ⟨_, rfl⟩
            have ckh : wg.cell? ⟨wc.heap.size, 0, none⟩ = some (.int .u64 (k1.toNat : Int)) := by rw [← hwg, World.cell?_alloc_past _ _ _ o2]; exact ckg
            have clh : wg.cell? ⟨wd.heap.size, 0, none⟩ = some (.int .u64 (k2.toNat : Int)) := by rw [← hwg, World.cell?_alloc_past _ _ _ o3]; exact clg
            have cmh : wg.cell? ⟨wf.heap.size, 0, none⟩ = some (.int .u64 (k3.toNat : Int)) := by rw [← hwg]; simp [go_sem]
            have hbg : Below w.heap.size w wg := by rw [← hwg]; exact hbf.alloc hbf.size _
            clear ckg clg hbf
            have q8 := HKK.out
            have q9 := HK13.out
            have q10 := HBY.out
            go_wp2_with fail
            all_goals
              go_ret
              exact ⟨rfl, hbg⟩
theorem seedApart_yes (x y i j : Int) (s : ByteArray) (a b : Int) (hx : (Lit.int .u64 x).wf = true) (hy : (Lit.int .u64 y).wf = true) (hi : (Lit.int .i64 i).wf = true) (hj : (Lit.int .i64 j).wf = true) (hs : s.size ≤ maxLen) (ha : (Lit.int .u8 a).wf = true) (hb : (Lit.int .u8 b).wf = true) (w : World) :
    Calls Try.prog 11 #[.int .u64 x, .int .u64 y, .int .i64 i, .int .i64 j, .string s, .int .u8 a, .int .u8 b] w fun e w' => e = .returned (.bool true) ∧ Below w.heap.size w w' := by
  obtain ⟨x', rfl⟩ := wd_of x hx
  obtain ⟨y', rfl⟩ := wd_of y hy
  have ha2 : 0 ≤ a ∧ a ≤ 255 := by simpa [Lit.wf, IntKind.min, IntKind.max, IntKind.signed, IntKind.bits] using ha
  have hb2 : 0 ≤ b ∧ b ≤ 255 := by simpa [Lit.wf, IntKind.min, IntKind.max, IntKind.signed, IntKind.bits] using hb
  obtain ⟨a', rfl⟩ : ∃ n : Nat, a = (n : Int) := ⟨a.toNat, by omega⟩
  obtain ⟨b', rfl⟩ : ∃ n : Nat, b = (n : Int) := ⟨b.toNat, by omega⟩
  exact apart_walk x' y' i j s a' b' (i64_of i hi) (i64_of j hj) hs (by omega) (by omega) w
end Go.Proofs.Ytodaembemcljnaa
