import Derived.Test.YtollifednpjkeaaLexB
namespace Go.Proofs.Ytollifednpjkeaa
open Go.RowKit

/-- The cells of a new block. -/
theorem cell_new_at (w : World) (cs : Array Value) (t : TypeId) (j : Nat) (v : Value) (h : cs[j]? = some v) : (w.alloc (.cells cs t)).cell? ⟨w.heap.size, j, none⟩ = some v := by
  rw [World.cell?_alloc_at _ _ _ _ rfl, h]
theorem cell_new_str (w : World) (n : Nat) (hn : n = w.heap.size) (xs : List ByteArray) (t : TypeId) (j : Nat) (h : j < xs.length) : (w.alloc (.cells (xs.map Value.string).toArray t)).cell? ⟨n, 0 + j, none⟩ = some (.string xs[j]) := by
  subst hn; rw [Nat.zero_add]; exact cell_new_at _ _ _ _ _ (by simp [h])

theorem cell_new_bytes (w : World) (n : Nat) (hn : n = w.heap.size) (s : ByteArray) (cap : Nat) (t : TypeId) (fr : Nat × Nat) (j : Nat) (h : j < s.data.toList.length) :
    ((w.alloc (.cells (bytesRow s cap) t fr)).drew).cell? ⟨n, j, none⟩ = some (.int .u8 (s.data.toList[j].toNat : Int)) := by
  subst hn; rw [World.cell?_drew, World.cell?_alloc_mark, bytesRow_at s cap j (by simpa using h)]; simp

/-- slices.Index over strings. -/
theorem indexStr_any (x : ByteArray) (b off len cap : Nat) (xs : List ByteArray) (w : World)
    (hl : xs.length = len) (hm : len ≤ 1000000000) (hx : ∀ (j : Nat) (h : j < xs.length), w.cell? ⟨b, off + j, none⟩ = some (.string xs[j])) :
    Calls Try.prog 107 #[.slice (some ⟨b, off, none⟩) len cap, .string x] w fun e w' =>
      e = .returned (.int .i64 (idxI (fun c => x.toList == c.toList) xs)) ∧ w = w' := by
  go_enter Try.func107, Try.ntmps107
  go_wp2_with fail
  go_loop [8] (fun i => ∃ k : Nat, k ≤ len ∧ i = .int .i64 k ∧ Hid (∀ (j : Nat) (h : j < xs.length), j < k → (x.toList == xs[j].toList) = false)) (fun i => len - (intOf i).toNat)
  case atStart => exact ⟨0, Nat.zero_le _, rfl, fun _ _ h => absurd h (Nat.not_lt_zero _)⟩
  case round =>
    obtain ⟨i, hi, rfl, HP⟩ := hrel
    by_cases hlt : i < len
    · have hc := hx i (by omega)
      go_wp2_with fail
      · go_ret
        exact ⟨ret_int (idxI_here (by omega) (by simpa using ‹(x.toList == xs[i].toList) = true›) (fun j hj hji => by simpa using HP.out j hj hji)).symm, rfl⟩
      · go_round
        case rel => exact ⟨i + 1, by omega, by go_num, fun j hj hji => by
          by_cases e : j = i
          · subst e; assumption
          · exact HP.out j hj (by omega)⟩
        case measure => simp [intOf]; omega
    · go_wp2_with fail
      go_ret
      exact ⟨ret_int (idxI_none (fun j hj => by simpa using HP.out j hj (by omega))).symm, rfl⟩

theorem containsStr_any (x : ByteArray) (b off len cap : Nat) (xs : List ByteArray) (w : World)
    (hl : xs.length = len) (hm : len ≤ 1000000000) (hx : ∀ (j : Nat) (h : j < xs.length), w.cell? ⟨b, off + j, none⟩ = some (.string xs[j])) :
    Calls Try.prog 101 #[.slice (some ⟨b, off, none⟩) len cap, .string x] w fun e w' =>
      e = .returned (.bool (xs.any (fun c => x.toList == c.toList))) ∧ w = w' := by
  go_enter Try.func101, Try.ntmps101
  go_wp2_with fail
  refine (indexStr_any x b off len cap xs _ hl hm hx).mono ?_
  rintro e w' ⟨rfl, rfl⟩
  go_wp2_with fail
  go_ret
  exact ⟨ret_bool (by rw [← idxI_nonneg]), rfl⟩

/-- A function value of the program's own that captures nothing. -/
abbrev fn (k : Nat) : Value := .func (.func k) #[] #[]

theorem name_any (k1 k2 : Nat) (f p : Int → Bool) (h1 : Tells k1 f) (h2 : Tells k2 p) (s : ByteArray) (w : World) :
    Calls Try.prog 85 #[.string s, fn k1, fn k2] w fun e w' => e = .returned (.bool (nameB f p s)) ∧ Below w.heap.size w w' := by
  have he1 := h1.enter
  have he2 := h2.enter
  have hcv := fun (W : World) (x : ByteArray) => run_bytes_of_string (P := Try.prog) W 9 86 5 x Try.underlying9 Try.underlying86 Try.underlying5
  by_cases hs : 1 ≤ s.size ∧ s.size ≤ 16
  · obtain ⟨hs1, hs2⟩ := hs
    go_enter Try.func85, Try.ntmps85
    go_wp2_with fail
    refine (h1.calls _ _).mono ?_
    rintro e w' ⟨rfl, rfl⟩
    cases hf : f ((s[0]).toNat : Int)
    · go_wp2_with fail
      go_ret
      exact ⟨ret_bool (by rw [nameB_first hs1 hf]), (by repeat (first | exact Below.refl _ _ | assumption | refine Below.alloc ?_ (by simp; try omega) _ | refine Below.drew ?_ | refine Below.setCell ?_ (by simp; try omega) _))⟩
    · go_wp2_with fail
      refine (containsStr_any s _ 0 6 6 words _ rfl (by omega) ?_).mono ?_
      · exact fun j h => cell_new_str _ _ (by simp) words 9 j h
      rintro e w' ⟨rfl, rfl⟩
      cases hw : isWord s
      · have hw' : (words.any fun c => s.toList == c.toList) = false := hw
        rw [hw']
        go_wp2_with fail
        have hn := nameB_rest hs1 hs2 hf (f := f) (p := p) hw
        obtain ⟨r, hr⟩ : ∃ r, ((s.extract 1 s.size).data.toList.any fun c => !p (c.toNat : Int)) = r := ⟨_, rfl⟩
        rw [hr] at hn
        have HN := Lib.hid hn
        have HR := Lib.hid hr
        clear hn hr
        refine (containsFunc_any k2 p h2 ⟨w.heap.size, 0, none⟩ (w.heap.size + 1 + 1) (s.size - 1) _ (s.extract 1 s.size).data.toList _ (by go_simp) (by simp) (by omega) ?_).mono ?_
        · exact fun j h => cell_new_bytes _ _ (by simp) _ _ _ _ j h
        rintro e w' ⟨rfl, rfl⟩
        rw [HR.out]
        go_wp2_with fail
        go_ret
        exact ⟨ret_bool HN.out.symm, (by repeat (first | exact Below.refl _ _ | assumption | refine Below.alloc ?_ (by simp; try omega) _ | refine Below.drew ?_ | refine Below.setCell ?_ (by simp; try omega) _))⟩
      · have hw' : (words.any fun c => s.toList == c.toList) = true := hw
        rw [hw']
        go_wp2_with fail
        go_ret
        exact ⟨ret_bool (by rw [nameB_word hw]), (by repeat (first | exact Below.refl _ _ | assumption | refine Below.alloc ?_ (by simp; try omega) _ | refine Below.drew ?_ | refine Below.setCell ?_ (by simp; try omega) _))⟩
  · have hb := nameB_size (f := f) (p := p) hs
    have HB := Lib.hid hb
    clear hb
    by_cases h0 : 1 ≤ s.size
    · have h16 : ¬ s.size ≤ 16 := by omega
      clear hs
      go_enter Try.func85, Try.ntmps85
      go_wp2_with fail
      go_ret
      exact ⟨ret_bool HB.out.symm, (by repeat (first | exact Below.refl _ _ | assumption | refine Below.alloc ?_ (by simp; try omega) _ | refine Below.drew ?_ | refine Below.setCell ?_ (by simp; try omega) _))⟩
    · clear hs
      go_enter Try.func85, Try.ntmps85
      go_wp2_with fail
      go_ret
      exact ⟨ret_bool HB.out.symm, (by repeat (first | exact Below.refl _ _ | assumption | refine Below.alloc ?_ (by simp; try omega) _ | refine Below.drew ?_ | refine Below.setCell ?_ (by simp; try omega) _))⟩

end Go.Proofs.Ytollifednpjkeaa
