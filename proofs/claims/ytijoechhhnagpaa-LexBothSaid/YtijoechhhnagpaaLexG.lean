import Derived.Test.YtijoechhhnagpaaLexF
import Derived.Laws.EntriesVeiled
namespace Go.Proofs.Ytijoechhhnagpaa
open Go.RowKit

/-! A region that draws its order, whose callees make memory of their own and hand back plain values: one walk. -/
structure Later (w : World) where
  w' : World
  h : Below w.heap.size w w'

instance (w : World) : Nonempty (Later w) := ⟨⟨w, Below.refl _ _⟩⟩

theorem wp_region_later {P : Program} {id : Nat} {Q : Exit → Act → World → Prop} {a : Act} {w : World} {l : List Oper} (hm : P.follows .mixedOrders = true) (hB : Region.lexB .any l.toArray = true)
    (h : wpQuiet P l.toArray (fun x => ∃ p : Later w, x = p.w') (fun a' => ∀ x, (∃ p : Later w, x = p.w') → Q .normal a' x) l a) : (Code.region id l.toArray true).wp P Q a w :=
  wp_region_quiet (C := fun x => ∃ p : Later w, x = p.w') hm hB ⟨⟨w.drew, (Below.refl _ _).drew⟩, rfl⟩ (by simpa using h)
theorem Calls.later_of {P : Program} {f : FuncId} {args : Array Value} {w : World} {p : Later w} {v : Value}
    (h : Calls P f args p.w' fun e x => e = .returned v ∧ Below p.w'.heap.size p.w' x) : Calls P f args p.w' fun e x => e = .returned v ∧ ∃ q : Later w, x = q.w' :=
  h.mono fun _ x ⟨he, hb⟩ => ⟨he, ⟨x, p.h.trans (hb.mono p.h.size)⟩, rfl⟩
theorem Later.cell {w : World} (p : Later w) {b o : Nat} {v : Value} (h : w.cell? ⟨b, o, none⟩ = some v) (hb : b < w.heap.size) : p.w'.cell? ⟨b, o, none⟩ = some v :=
  (p.h.cell (p := ⟨b, o, none⟩) hb).trans h

theorem kinds1_any (r : Bool) (k n : Int) (w : World) :
    Calls Try.prog 24 #[.bool r, .int .u8 k, .int .i64 n] w fun e w' => e = .returned (bif r then .tuple #[.int .u8 k, .int .i64 n, .int .i64 0] else .tuple #[.int .u8 0, .int .i64 0, .int .i64 41]) ∧ w = w' := by
  cases r
  all_goals
    go_enter Try.func24, Try.ntmps24
    go_wp2_with fail
    go_ret3
    exact ⟨rfl, rfl⟩
theorem kinds2_any (s : ByteArray) (w : World) (hs : 0 < s.size) :
    Calls Try.prog 25 #[.string s] w fun e w' => e = .returned (.bool (alphaI (s[0].toNat : Int))) ∧ w = w' := by
  go_enter Try.func25, Try.ntmps25
  go_wp2_with fail
  refine (letter_any _ _).mono ?_
  rintro e w' ⟨rfl, rfl⟩
  go_wp2_with fail
  go_ret
  exact ⟨rfl, rfl⟩
theorem kinds4_any (s : ByteArray) (w : World) (hs : 0 < s.size) :
    Calls Try.prog 32 #[.string s] w fun e w' => e = .returned (.bool ((s[0].toNat : Int) == 63)) ∧ w = w' := by
  go_enter Try.func32, Try.ntmps32
  go_wp2_with fail
  go_ret
  exact ⟨rfl, rfl⟩
theorem kinds6_any (s : ByteArray) (w : World) :
    Calls Try.prog 35 #[.string s] w fun e w' => e = .returned (.bool true) ∧ w = w' := by
  go_enter Try.func35, Try.ntmps35
  go_wp2_with fail
  go_ret
  exact ⟨rfl, rfl⟩

/-- kinds$3's answer at a place. -/
def nameRes (s : ByteArray) (i : Nat) : Value := tok3 (nameAt s i)

theorem kinds3_any (b at' : Nat) (s : ByteArray) (a : Addr) (w : World) (hc : Scan b at' s w) (hb : b < w.heap.size) (hs : at' < s.size) (hz : s.size ≤ 100000)
    (ha : w.cell? a = some (fn 24)) :
    Calls Try.prog 27 #[.pointer (some ⟨b, 0, none⟩), .pointer (some a)] w fun e w' => e = .returned (nameRes s at') ∧ Below w.heap.size w w' := by
  go_enter Try.func27, Try.ntmps27
  go_wp2_with fail
  refine (run_any b at' 1 s _ hc (by omega) hz).mono ?_
  rintro e w1 ⟨rfl, hd1⟩
  obtain ⟨n, hn⟩ : ∃ n, 1 + runFrom s (at' + 1) = n := ⟨_, rfl⟩
  rw [hn]
  have hle : at' + n ≤ s.size := by have := runFrom_le s (at' + 1) (by omega); omega
  have HN := Lib.hid hn
  clear hn
  have hb1 := hd1.below w.heap.size
  have HD1 := Lib.hid hd1
  clear hd1
  have hc1 := hc.below hb1 hb
  have ha1 : w1.cell? a = some (fn 24) := (hb1.cell (World.block_lt_of_cell? w a ha)).trans ha
  obtain ⟨h0, h1⟩ := hc1
  have hw : IntKind.i64.wrap ((at' : Int) + (n : Int)) = (at' : Int) + (n : Int) := IntWalk.i64_in _ (by omega)
  have hn0 : 0 ≤ (at' : Int) + (n : Int) := by omega
  have hn1 : ((at' : Int) + (n : Int)).toNat = at' + n := by omega
  go_wp2_with fail
  go_quiet (fail)
  go_wp2_with fail
  obtain ⟨x, hx⟩ : ∃ x, s.extract at' (at' + n) = x := ⟨_, rfl⟩
  rw [hx]
  have HX := Lib.hid hx
  clear hx h0 h1 hw hn0 hn1 hc
  refine (word_any x _).mono ?_
  rintro e w2 ⟨rfl, hb2⟩
  have hb3 : Below w.heap.size w w2 := (hb1.trans (below_drewN (Below.refl _ _) nq)).trans (hb2.mono (by simpa using hb1.size))
  have ha2 : w2.cell? a = some (fn 24) := (hb3.cell (World.block_lt_of_cell? w a ha)).trans ha
  clear hb2 ha1 hb1 ha
  have hres : nameRes s at' = if isWord x then .tuple #[.int .u8 3, .int .i64 (n : Int), .int .i64 0]
      else if isName x then .tuple #[.int .u8 1, .int .i64 (n : Int), .int .i64 0] else .tuple #[.int .u8 0, .int .i64 0, .int .i64 41] := by
    unfold nameRes nameAt tok3; simp only [HN.out, HX.out]; repeat' (first | rfl | split)
  have HR := Lib.hid hres
  clear hres
  cases hwd : isWord x
  · have fin : ∀ r, isName x = r → nameRes s at' = (bif r then .tuple #[.int .u8 1, .int .i64 (n : Int), .int .i64 0] else .tuple #[.int .u8 0, .int .i64 0, .int .i64 41]) := by
      intro r hr; rw [HR.out, hwd, hr]; cases r <;> rfl
    have FIN := Lib.hid fin
    clear fin
    have hla : ∀ p : Later w2, p.w'.cell? a = some (fn 24) := fun p => (p.h.cell (World.block_lt_of_cell? w2 a ha2)).trans ha2
    cases hv : isVar x
    · cases hf : isFun x
      · cases hp : isPred x
        · go_wp2_with fail
          refine wp_region_later (by kernel_rfl) (by kernel_rfl) ?_
          repeat (go_big_quiet_step (first | (go_at_call 29; exact Calls.later_of ((variable_any _ _).mono (fun _ _ h => ⟨by rw [h.1, hv], h.2⟩))) | (go_at_call 30; exact Calls.later_of ((function_any _ _).mono (fun _ _ h => ⟨by rw [h.1, hf], h.2⟩))) | (go_at_call 31; exact Calls.later_of ((predicate_any _ _).mono (fun _ _ h => ⟨by rw [h.1, hp], h.2⟩))) | (go_at_call 24; exact Calls.later_of ((kinds1_any false _ _ _).mono (fun _ _ h => ⟨h.1, h.2 ▸ Below.refl _ _⟩)))))
          (refine wpQuiet_nil ?_; rintro _ ⟨⟨wq, hq⟩, rfl⟩; try dsimp only)
          go_wp2_with fail
          go_ret3
          exact ⟨by rw [FIN.out false (by simp [isName, hv, hf, hp])]; rfl, hb3.trans (hq.mono hb3.size)⟩
        · go_wp2_with fail
          refine wp_region_later (by kernel_rfl) (by kernel_rfl) ?_
          repeat (go_big_quiet_step (first | (go_at_call 29; exact Calls.later_of ((variable_any _ _).mono (fun _ _ h => ⟨by rw [h.1, hv], h.2⟩))) | (go_at_call 30; exact Calls.later_of ((function_any _ _).mono (fun _ _ h => ⟨by rw [h.1, hf], h.2⟩))) | (go_at_call 31; exact Calls.later_of ((predicate_any _ _).mono (fun _ _ h => ⟨by rw [h.1, hp], h.2⟩))) | (go_at_call 24; exact Calls.later_of ((kinds1_any true _ _ _).mono (fun _ _ h => ⟨h.1, h.2 ▸ Below.refl _ _⟩)))))
          (refine wpQuiet_nil ?_; rintro _ ⟨⟨wq, hq⟩, rfl⟩; try dsimp only)
          go_wp2_with fail
          go_ret3
          exact ⟨by rw [FIN.out true (by simp [isName, hv, hf, hp])]; rfl, hb3.trans (hq.mono hb3.size)⟩
      · have hp := hf
        go_wp2_with fail
        refine wp_region_later (by kernel_rfl) (by kernel_rfl) ?_
        repeat (go_big_quiet_step (first | (go_at_call 29; exact Calls.later_of ((variable_any _ _).mono (fun _ _ h => ⟨by rw [h.1, hv], h.2⟩))) | (go_at_call 30; exact Calls.later_of ((function_any _ _).mono (fun _ _ h => ⟨by rw [h.1, hf], h.2⟩))) | (go_at_call 31; exact Calls.later_of ((predicate_any _ _).mono (fun _ _ h => ⟨by rw [h.1, hp], h.2⟩))) | (go_at_call 24; exact Calls.later_of ((kinds1_any true _ _ _).mono (fun _ _ h => ⟨h.1, h.2 ▸ Below.refl _ _⟩)))))
        (refine wpQuiet_nil ?_; rintro _ ⟨⟨wq, hq⟩, rfl⟩; try dsimp only)
        go_wp2_with fail
        go_ret3
        exact ⟨by rw [FIN.out true (by simp [isName, hv, hf])]; rfl, hb3.trans (hq.mono hb3.size)⟩
    · have hp := hv
      have hf := hv
      go_wp2_with fail
      refine wp_region_later (by kernel_rfl) (by kernel_rfl) ?_
      repeat (go_big_quiet_step (first | (go_at_call 29; exact Calls.later_of ((variable_any _ _).mono (fun _ _ h => ⟨by rw [h.1, hv], h.2⟩))) | (go_at_call 30; exact Calls.later_of ((function_any _ _).mono (fun _ _ h => ⟨by rw [h.1, hf], h.2⟩))) | (go_at_call 31; exact Calls.later_of ((predicate_any _ _).mono (fun _ _ h => ⟨by rw [h.1, hp], h.2⟩))) | (go_at_call 24; exact Calls.later_of ((kinds1_any true _ _ _).mono (fun _ _ h => ⟨h.1, h.2 ▸ Below.refl _ _⟩)))))
      (refine wpQuiet_nil ?_; rintro _ ⟨⟨wq, hq⟩, rfl⟩; try dsimp only)
      go_wp2_with fail
      go_ret3
      exact ⟨by rw [FIN.out true (by simp [isName, hv])]; rfl, hb3.trans (hq.mono hb3.size)⟩
  · go_wp2_with fail
    go_ret3
    exact ⟨by rw [HR.out, hwd]; rfl, hb3⟩

/-- kinds$5's answer at a place. -/
def metaRes (s : ByteArray) (i : Nat) : Value := tok3 (metaAt s i)

theorem kinds5_any (b at' : Nat) (s : ByteArray) (a : Addr) (w : World) (hc : Scan b at' s w) (hb : b < w.heap.size) (hs : at' < s.size) (hz : s.size ≤ 100000)
    (ha : w.cell? a = some (fn 24)) :
    Calls Try.prog 33 #[.pointer (some ⟨b, 0, none⟩), .pointer (some a)] w fun e w' => e = .returned (metaRes s at') ∧ Below w.heap.size w w' := by
  go_enter Try.func33, Try.ntmps33
  go_wp2_with fail
  refine (run_any b at' 1 s _ hc (by omega) hz).mono ?_
  rintro e w1 ⟨rfl, hd1⟩
  obtain ⟨n, hn⟩ : ∃ n, 1 + runFrom s (at' + 1) = n := ⟨_, rfl⟩
  rw [hn]
  have hle : at' + n ≤ s.size := by have := runFrom_le s (at' + 1) (by omega); omega
  have HN := Lib.hid hn
  clear hn
  have hb1 := hd1.below w.heap.size
  clear hd1
  have hc1 := hc.below hb1 hb
  have ha1 : w1.cell? a = some (fn 24) := (hb1.cell (World.block_lt_of_cell? w a ha)).trans ha
  have hla : ∀ p : Later w1, p.w'.cell? a = some (fn 24) := fun p => (p.h.cell (World.block_lt_of_cell? w1 a ha1)).trans ha1
  have hlt : b < w1.heap.size := Nat.lt_of_lt_of_le hb hb1.size
  have hl0 : ∀ p : Later w1, p.w'.cell? ⟨b, 0, none⟩ = some (.int .i64 (at' : Int)) := fun p => p.cell hc1.at_ hlt
  have hl1 : ∀ p : Later w1, p.w'.cell? ⟨b, 1, none⟩ = some (.string s) := fun p => p.cell hc1.s_ hlt
  clear ha hc hc1 ha1
  have hw : IntKind.i64.wrap ((at' : Int) + (n : Int)) = (at' : Int) + (n : Int) := IntWalk.i64_in _ (by omega)
  have hn0 : 0 ≤ (at' : Int) + (n : Int) := by omega
  have hn1 : ((at' : Int) + (n : Int)).toNat = at' + n := by omega
  have hres : metaRes s at' = if isMeta (s.extract at' (at' + n)) then .tuple #[.int .u8 2, .int .i64 (n : Int), .int .i64 0] else .tuple #[.int .u8 0, .int .i64 0, .int .i64 41] := by
    unfold metaRes metaAt tok3; simp only [HN.out]; split <;> rfl
  have HR := Lib.hid hres
  clear hres
  cases hm : isMeta (s.extract at' (at' + n))
  · go_wp2_with fail
    refine wp_region_later (by kernel_rfl) (by kernel_rfl) ?_
    repeat (go_big_quiet_step (first | (go_at_call 34; exact Calls.later_of ((Meta_any _ _).mono (fun _ _ h => ⟨by rw [h.1, hm], h.2⟩))) | (go_at_call 24; exact Calls.later_of ((kinds1_any false _ _ _).mono (fun _ _ h => ⟨h.1, h.2 ▸ Below.refl _ _⟩)))))
    (refine wpQuiet_nil ?_; rintro _ ⟨⟨wq, hq⟩, rfl⟩; try dsimp only)
    go_wp2_with fail
    go_ret3
    exact ⟨by rw [HR.out, hm]; rfl, hb1.trans (hq.mono hb1.size)⟩
  · go_wp2_with fail
    refine wp_region_later (by kernel_rfl) (by kernel_rfl) ?_
    repeat (go_big_quiet_step (first | (go_at_call 34; exact Calls.later_of ((Meta_any _ _).mono (fun _ _ h => ⟨by rw [h.1, hm], h.2⟩))) | (go_at_call 24; exact Calls.later_of ((kinds1_any true _ _ _).mono (fun _ _ h => ⟨h.1, h.2 ▸ Below.refl _ _⟩)))))
    (refine wpQuiet_nil ?_; rintro _ ⟨⟨wq, hq⟩, rfl⟩; try dsimp only)
    go_wp2_with fail
    go_ret3
    exact ⟨by rw [HR.out, hm]; rfl, hb1.trans (hq.mono hb1.size)⟩

/-- kinds: three ways, the first two of which have captured one cell. -/
structure KindsMade (w w' : World) (v : Value) : Prop where
  below : Below w.heap.size w w'
  val : ∃ a : Addr, v = .agg #[fn 25, .func (.func 27) #[] #[.pointer (some a)], fn 32, .func (.func 33) #[] #[.pointer (some a)], fn 35, fn 36] ∧
    w'.cell? a = some (fn 24)

theorem kinds_any (w : World) :
    Calls Try.prog 18 #[] w fun e w' => ∃ v, e = .returned v ∧ KindsMade w w' v := by
  go_enter Try.func18, Try.ntmps18
  go_wp2_with fail
  refine bodyPost_ret (v := .agg #[fn 25, .func (.func 27) #[] #[.pointer (some ⟨w.heap.size + 1, 0, none⟩)], fn 32, .func (.func 33) #[] #[.pointer (some ⟨w.heap.size + 1, 0, none⟩)], fn 35, fn 36])
    (by simp [results, Try.results18, go_sem]) rfl ⟨_, rfl, (by repeat (first | exact Below.refl _ _ | assumption | refine Below.alloc ?_ (by simp; try omega) _ | refine Below.drew ?_ | refine Below.setCell ?_ (by simp; try omega) _)), _, rfl, by simp [go_sem]⟩

end Go.Proofs.Ytijoechhhnagpaa
