import Derived.Test.YtodaembemcljnaaSeedI
import Derived.Test.YtodaembemcljnaaShelf
/-
  Choose: the closure.
-/
namespace Go.Proofs.Ytodaembemcljnaa
open Go.RowKit
set_option linter.unusedVariables false

theorem contains_int (v : Value) (l : List Int) (x : Int) (w : World) (h : SliceI w v l) :
    Calls Try.prog 45 #[v, .int .i64 x] w fun e w' => e = .returned (.bool (l.contains x)) ∧ w = w' := by
  obtain ⟨a, cap, rfl, h2, h3, h4⟩ := h.at'
  by_cases hl : 0 < l.length
  · obtain ⟨b, off, rfl, h5, h6⟩ := h4 hl
    refine (Try.slices_Contains_int b off l.length cap l x w (Nat.le_refl _) (by unfold maxLen at h3; omega) (fun j hj => by rw [h6 j hj, List.getD_eq_getElem?_getD, List.getElem?_eq_getElem hj]; rfl)).mono ?_
    rintro e w' ⟨rfl, rfl⟩
    exact ⟨by rw [List.take_length], rfl⟩
  · have : l = [] := List.eq_nil_of_length_eq_zero (by omega)
    subst this
    refine (Try.slices_Contains_int_empty a cap x w).mono ?_
    rintro e w' ⟨rfl, rfl⟩
    exact ⟨rfl, rfl⟩
theorem contains_nat (l : List Nat) (x : Nat) : (l.map Int.ofNat).contains (x : Int) = l.contains x := by
  rw [Bool.eq_iff_iff]; simp
  exact ⟨fun ⟨a, h, e⟩ => by
    have : a = x := by omega
    exact this ▸ h, fun h => ⟨x, h, rfl⟩⟩

def ChooseMade (c : Nat) (key : Wd) (n k i b B : Nat) (w w2 : World) : Prop := ∃ v, Boxes w2 c key (chooseS key n k i).2 b v ∧ OwnI B w2 v (chooseS key n k i).1 ∧ Off (fun k => k = b ∨ k = c) w w2

set_option maxRecDepth 100000 in
theorem choose1_any (c : Nat) (key : Wd) (n k : Nat) (hm : n ≤ 1000) (hk : k ≤ n) (i : Nat) (ha : i ≤ 1099511627776) (a1 a2 b : Nat) (w : World) (h : Boxes w c key (i, 0) b (.slice none 0 0))
    (hna : w.cell? ⟨a1, 0, none⟩ = some (.int .i64 (n : Int))) (hka : w.cell? ⟨a2, 0, none⟩ = some (.int .i64 (k : Int))) (hab : a1 ≠ b) (hac : a1 ≠ c) (hal : a1 < w.heap.size) (hbc : b ≠ c) :
    Calls Try.prog 44 #[.func (.func 58) #[.pointer (some ⟨c, 0, none⟩)] #[], .pointer (some ⟨a1, 0, none⟩), .pointer (some ⟨a2, 0, none⟩), .pointer (some ⟨b, 0, none⟩)] w fun e w2 =>
      e = .returned (.tuple #[]) ∧ ChooseMade c key n k i b w.heap.size w w2 := by
  have HH := Lib.hid h
  have hbw : b < w.heap.size := HH.out.lt
  have hcw : c < w.heap.size := HH.out.src.lt
  clear h
  go_enter Try.func44, Try.ntmps44
  go_wp2_with fail
  clear hka
  go_loopw [5] (fun x wr => ∃ (m : Nat) (L : List Nat) (st : Src) (v : Value), x = .int .i64 (m : Int) ∧ m ≤ n ∧ L.length ≤ m ∧ (st.2 = 0 ∨ st.2 = 4) ∧ st.1 ≤ 1099511627776 ∧ Hid (chooseGo key (n - m) m L st = chooseS key n k i) ∧ Boxes wr c key st b v ∧ OwnI w.heap.size wr v L ∧ Off (fun k => k = b ∨ k = c) w wr) (fun x _ => n - (intOf x).toNat)
  case atStart => exact ⟨n - k, [], (i, 0), _, by go_num, by omega, by simp, Or.inl rfl, ha, by rw [show n - (n - k) = k by omega]; exact Lib.hid rfl, HH.out, World.ownsRow_nil _ _ _ _, Off.refl _ _⟩
  case round =>
    obtain ⟨m, L, st, v, rfl, hmn, hL, hst, hsa, HP, hB, hO, hF⟩ := hrel
    have hna2 := (hF.cell (p := ⟨a1, 0, none⟩) hal (by rintro (h | h); exact hab h; exact hac h)).trans hna
    by_cases hlt : m < n
    · have HB2 := Lib.hid hB
      have HO2 := Lib.hid hO
      have HF2 := Lib.hid hF
      clear hB hO hF
      go_wp2_with fail
      clear hna2
      have e : ((m : Int) + 1) = ((m + 1 : Nat) : Int) := by omega
      rw [e]
      clear e
      refine (below_any c key (m + 1) st _ (by omega) (by omega) hst hsa HB2.out.src).mono ?_
      rintro e w3 ⟨rfl, hs3, hoff3⟩
      have hq := belS_lt (key := key) (n := m + 1) (by omega) st
      have hst' := belS_two (key := key) (n := m + 1) st hst
      have hsa' := (belS_at (key := key) (n := m + 1) st hsa).2
      have hstep : chooseGo key (n - m) m L st = chooseGo key (n - (m + 1)) (m + 1) (L ++ [if L.contains (belS key (m + 1) st).1 then m else (belS key (m + 1) st).1]) (belS key (m + 1) st).2 := by
        rw [show n - m = (n - (m + 1)) + 1 by omega, chooseGo]
      obtain ⟨q, hqq⟩ : ∃ q, (belS key (m + 1) st).1 = q := ⟨_, rfl⟩
      obtain ⟨st', hstt⟩ : ∃ s, (belS key (m + 1) st).2 = s := ⟨_, rfl⟩
      rw [hqq] at hq hstep ⊢
      rw [hstt] at hs3 hst' hsa' hstep
      have HP' := Lib.hid (hstep.symm.trans HP.out)
      have hb3 : Boxes w3 c key st' b v := ⟨hs3, Nat.lt_of_lt_of_le HB2.out.lt hoff3.size, (hoff3.cell (p := ⟨b, 0, none⟩) HB2.out.lt hbc).trans HB2.out.cell, (hoff3.frozen (p := ⟨b, 0, none⟩) HB2.out.lt hbc).trans HB2.out.free⟩
      have ho3 : OwnI w.heap.size w3 v L := HO2.out.off hoff3 (fun k h e => by omega)
      have hf3 : Off (fun k => k = b ∨ k = c) w w3 := HF2.out.trans (hoff3.wider (fun k _ h => Or.inr h))
      have cb := hb3.cell
      have fb := hb3.free
      have HSL := Lib.hid ho3.slice
      have HB3 := Lib.hid hb3
      have HO3 := Lib.hid ho3
      have HF3 := Lib.hid hf3
      clear hqq hstt hstep hb3 ho3 hf3 hs3 hoff3 HP
      go_wp2_with fail
      refine (contains_int v (L.map Int.ofNat) (q : Int) _ HSL.out).mono ?_
      rintro e w4 ⟨rfl, rfl⟩
      rw [contains_nat]
      cases hcon : L.contains q
      · have HC := Lib.hid hcon
        have hpk : (if L.contains q = true then m else q) = q := by rw [HC.out]; rfl
        rw [hpk] at HP'
        have hO1 := Lib.hid (HO3.out.below (Below.alloc (Below.refl _ _) (Nat.le_refl _) (.cells #[.int .i64 (q : Int)] 3)))
        have hof1 := Lib.hid (HF3.out.alloc (.cells #[.int .i64 (q : Int)] 3))
        have HB1 := Lib.hid (HB3.out.off (Off.of_below (S := fun _ => False) (Below.alloc (Below.refl _ _) (Nat.le_refl _) (.cells #[.int .i64 (q : Int)] 3))) (fun h => h) (fun h => h))
        have hsz : w.heap.size ≤ w3.heap.size := HF3.out.size
        clear hpk hcon
        go_wp2_with (at_builtin; refine wpList_append_int _ rfl _ _ rfl w.heap.size _ L rfl hO1 w3.heap.size 1 q rfl (cell_one_at _ _ rfl _ _) (by omega) (by simp; omega) ?_; intro av cv w1 hown' hgrow; have HB4 := Lib.hid (HB1.out.off hgrow.out (Nat.not_le.2 hcw) (Nat.not_le.2 hbw)); have fb1 := HB4.out.free; have cb1 := HB4.out.cell)
        go_roundw
        case rel => exact ⟨m + 1, L ++ [q], st', _, by go_num, hlt, by simp; omega, hst', hsa', HP', HB4.out.put hbc _, by have := OwnI.other (a := ⟨b, 0, none⟩) hown'.out hbw (.slice av (L.length + 1) cv); unfold OwnI at this ⊢; simpa using this, Off.setCell (p := ⟨b, 0, none⟩) (hof1.out.grow hgrow.out (Nat.le_refl _)) (Or.inl (Or.inl rfl)) _⟩
        case measure => simp [intOf]; omega
      · have HC := Lib.hid hcon
        have hpk : (if L.contains q = true then m else q) = m := by rw [HC.out]; rfl
        rw [hpk] at HP'
        have hO1 := Lib.hid (HO3.out.below (Below.alloc (Below.refl _ _) (Nat.le_refl _) (.cells #[.int .i64 (m : Int)] 3)))
        have hof1 := Lib.hid (HF3.out.alloc (.cells #[.int .i64 (m : Int)] 3))
        have HB1 := Lib.hid (HB3.out.off (Off.of_below (S := fun _ => False) (Below.alloc (Below.refl _ _) (Nat.le_refl _) (.cells #[.int .i64 (m : Int)] 3))) (fun h => h) (fun h => h))
        have hsz : w.heap.size ≤ w3.heap.size := HF3.out.size
        clear hpk hcon
        go_wp2_with (at_builtin; refine wpList_append_int _ rfl _ _ rfl w.heap.size _ L rfl hO1 w3.heap.size 1 m rfl (cell_one_at _ _ rfl _ _) (by omega) (by simp; omega) ?_; intro av cv w1 hown' hgrow; have HB4 := Lib.hid (HB1.out.off hgrow.out (Nat.not_le.2 hcw) (Nat.not_le.2 hbw)); have fb1 := HB4.out.free; have cb1 := HB4.out.cell)
        go_roundw
        case rel => exact ⟨m + 1, L ++ [m], st', _, by go_num, hlt, by simp; omega, hst', hsa', HP', HB4.out.put hbc _, by have := OwnI.other (a := ⟨b, 0, none⟩) hown'.out hbw (.slice av (L.length + 1) cv); unfold OwnI at this ⊢; simpa using this, Off.setCell (p := ⟨b, 0, none⟩) (hof1.out.grow hgrow.out (Nat.le_refl _)) (Or.inl (Or.inl rfl)) _⟩
        case measure => simp [intOf]; omega
    · obtain rfl : n = m := by omega
      go_wp2_with fail
      refine bodyPost_end (results_none rfl _ _ _) rfl ?_
      have := HP.out
      rw [Nat.sub_self, chooseGo] at this
      refine ⟨rfl, v, ?_, ?_, hF⟩
      · rw [← this]; exact hB
      · rw [← this]; exact hO
end Go.Proofs.Ytodaembemcljnaa
