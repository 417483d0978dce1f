import Derived.Test.YtollifednpjkeaaLexC
namespace Go.Proofs.Ytollifednpjkeaa
open Go.RowKit

theorem variable_any (s : ByteArray) (w : World) :
    Calls Try.prog 63 #[.string s] w fun e w' => e = .returned (.bool (isVar s)) ∧ Below w.heap.size w w' := by
  go_enter Try.func63, Try.ntmps63
  go_wp2_with fail
  refine (name_any 86 87 varI digitI ⟨Try.call86, var1_any⟩ ⟨Try.call87, sdigit_any⟩ s _).mono ?_
  rintro e w' ⟨rfl, hb⟩
  go_wp2_with fail
  go_ret
  exact ⟨rfl, hb⟩
theorem function_any (s : ByteArray) (w : World) :
    Calls Try.prog 65 #[.string s] w fun e w' => e = .returned (.bool (isFun s)) ∧ Below w.heap.size w w' := by
  go_enter Try.func65, Try.ntmps65
  go_wp2_with fail
  refine (name_any 88 89 funI alnumI ⟨Try.call88, fun1_any⟩ ⟨Try.call89, alnum_any⟩ s _).mono ?_
  rintro e w' ⟨rfl, hb⟩
  go_wp2_with fail
  go_ret
  exact ⟨rfl, hb⟩
theorem predicate_any (s : ByteArray) (w : World) :
    Calls Try.prog 77 #[.string s] w fun e w' => e = .returned (.bool (isPred s)) ∧ Below w.heap.size w w' := by
  go_enter Try.func77, Try.ntmps77
  go_wp2_with fail
  refine (name_any 97 89 capitalI alnumI ⟨Try.call97, capital_any⟩ ⟨Try.call89, alnum_any⟩ s _).mono ?_
  rintro e w' ⟨rfl, hb⟩
  go_wp2_with fail
  go_ret
  exact ⟨rfl, hb⟩

/-- A function of the program that tells a string. -/
structure TellsStr (k : Nat) (p : ByteArray → Bool) : Prop where
  enter : ∀ (xs : Array Value) (w : World), Sem.run Try.prog (callFunc k xs) w = .ok (.enter k xs) w
  calls : ∀ (s : ByteArray) (w : World), Calls Try.prog k #[.string s] w fun e w' => e = .returned (.bool (p s)) ∧ Below w.heap.size w w'

theorem meta_any (k : Nat) (p : ByteArray → Bool) (hk : TellsStr k p) (s : ByteArray) (w : World) :
    Calls Try.prog 80 #[.string s, fn k] w fun e w' => e = .returned (.bool (metaB p s)) ∧ Below w.heap.size w w' := by
  have he := hk.enter
  obtain ⟨r, hr⟩ : ∃ r, metaB p s = r := ⟨_, rfl⟩
  rw [hr]
  have HR := Lib.hid hr
  clear hr
  by_cases h1 : s.size ≤ 16
  · by_cases h2 : 1 < s.size
    · cases h3 : ((s[0].toNat : Int) == 63)
      · go_enter Try.func80, Try.ntmps80
        go_wp2_with fail
        go_ret
        exact ⟨ret_bool (by rw [← HR.out, metaB_first (by omega) (by simpa using h3)]), (by repeat (first | exact Below.refl _ _ | assumption | refine Below.alloc ?_ (by simp; try omega) _ | refine Below.drew ?_ | refine Below.setCell ?_ (by simp; try omega) _))⟩
      · go_enter Try.func80, Try.ntmps80
        go_wp2_with fail
        refine (hk.calls _ _).mono ?_
        rintro e w' ⟨rfl, hb⟩
        go_wp2_with fail
        go_ret
        exact ⟨ret_bool (by rw [← HR.out, metaB_rest h1 h2 (by simpa using h3)]), hb⟩
    · go_enter Try.func80, Try.ntmps80
      go_wp2_with fail
      go_ret
      exact ⟨ret_bool (by rw [← HR.out, metaB_size (by omega)]), (by repeat (first | exact Below.refl _ _ | assumption | refine Below.alloc ?_ (by simp; try omega) _ | refine Below.drew ?_ | refine Below.setCell ?_ (by simp; try omega) _))⟩
  · go_enter Try.func80, Try.ntmps80
    go_wp2_with fail
    go_ret
    exact ⟨ret_bool (by rw [← HR.out, metaB_size (by omega)]), (by repeat (first | exact Below.refl _ _ | assumption | refine Below.alloc ?_ (by simp; try omega) _ | refine Below.drew ?_ | refine Below.setCell ?_ (by simp; try omega) _))⟩

theorem ofTerms_any (s : ByteArray) (w : World) :
    Calls Try.prog 49 #[.string s] w fun e w' => e = .returned (.bool (isMetaT s)) ∧ Below w.heap.size w w' := by
  go_enter Try.func49, Try.ntmps49
  go_wp2_with fail
  refine (meta_any 65 isFun ⟨Try.call65, function_any⟩ s _).mono ?_
  rintro e w' ⟨rfl, hb⟩
  go_wp2_with fail
  go_ret
  exact ⟨rfl, hb⟩
theorem ofForms_any (s : ByteArray) (w : World) :
    Calls Try.prog 78 #[.string s] w fun e w' => e = .returned (.bool (isMetaF s)) ∧ Below w.heap.size w w' := by
  go_enter Try.func78, Try.ntmps78
  go_wp2_with fail
  refine (meta_any 77 isPred ⟨Try.call77, predicate_any⟩ s _).mono ?_
  rintro e w' ⟨rfl, hb⟩
  go_wp2_with fail
  go_ret
  exact ⟨rfl, hb⟩
theorem Meta_any (s : ByteArray) (w : World) :
    Calls Try.prog 64 #[.string s] w fun e w' => e = .returned (.bool (isMeta s)) ∧ Below w.heap.size w w' := by
  cases h : isMetaT s
  · go_enter Try.func64, Try.ntmps64
    go_wp2_with fail
    refine (ofTerms_any s _).mono ?_
    rintro e w' ⟨rfl, hb⟩
    rw [h]
    go_wp2_with fail
    refine (ofForms_any s _).mono ?_
    rintro e w'' ⟨rfl, hb'⟩
    go_wp2_with fail
    go_ret
    exact ⟨ret_bool (by simp [isMeta, h]), hb.trans (hb'.mono hb.size)⟩
  · go_enter Try.func64, Try.ntmps64
    go_wp2_with fail
    refine (ofTerms_any s _).mono ?_
    rintro e w' ⟨rfl, hb⟩
    rw [h]
    go_wp2_with fail
    go_ret
    exact ⟨ret_bool (by simp [isMeta, h]), hb⟩

end Go.Proofs.Ytollifednpjkeaa
