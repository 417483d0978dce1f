import Derived.Test.YtollifednpjkeaaTextB
/-
  The signs, their strength; the texts of formulas without parts.
-/
namespace Go.Proofs.Ytollifednpjkeaa
open Go.RowKit

def signCells : Array Value := #[.string ⟨#[]⟩, .int .i64 0, .bool false, .string ⟨#[]⟩, .int .i64 0, .bool false, .string ⟨#[]⟩, .int .i64 0, .bool false, .string ⟨#[126]⟩, .int .i64 6, .bool false, .string ⟨#[38]⟩, .int .i64 5, .bool false, .string ⟨#[124]⟩, .int .i64 4, .bool false, .string ⟨#[45, 62]⟩, .int .i64 2, .bool true, .string ⟨#[60, 45, 62]⟩, .int .i64 1, .bool false, .string ⟨#[97, 108, 108, 32]⟩, .int .i64 6, .bool false, .string ⟨#[115, 111, 109, 101, 32]⟩, .int .i64 6, .bool false, .string ⟨#[91, 93]⟩, .int .i64 6, .bool false, .string ⟨#[60, 62]⟩, .int .i64 6, .bool false, .string ⟨#[110, 101, 120, 116, 32]⟩, .int .i64 6, .bool false, .string ⟨#[97, 108, 119, 97, 121, 115, 32]⟩, .int .i64 6, .bool false, .string ⟨#[117, 110, 116, 105, 108]⟩, .int .i64 3, .bool true]
def sgT : Nat → ByteArray
  | 3 => ⟨#[126]⟩
  | 4 => ⟨#[38]⟩
  | 5 => ⟨#[124]⟩
  | 6 => ⟨#[45, 62]⟩
  | 7 => ⟨#[60, 45, 62]⟩
  | 8 => ⟨#[97, 108, 108, 32]⟩
  | 9 => ⟨#[115, 111, 109, 101, 32]⟩
  | 10 => ⟨#[91, 93]⟩
  | 11 => ⟨#[60, 62]⟩
  | 12 => ⟨#[110, 101, 120, 116, 32]⟩
  | 13 => ⟨#[97, 108, 119, 97, 121, 115, 32]⟩
  | 14 => ⟨#[117, 110, 116, 105, 108]⟩
  | _ => ⟨#[]⟩
def sgS : Nat → Int
  | 3 => 6
  | 4 => 5
  | 5 => 4
  | 6 => 2
  | 7 => 1
  | 8 => 6
  | 9 => 6
  | 10 => 6
  | 11 => 6
  | 12 => 6
  | 13 => 6
  | 14 => 3
  | _ => 0
def sgR : Nat → Bool
  | 6 => true
  | 14 => true
  | _ => false
theorem sign_at (k : Nat) (h : k ≤ 14) : signCells[k * 3]? = some (.string (sgT k)) ∧ signCells[k * 3 + 1]? = some (.int .i64 (sgS k)) ∧ signCells[k * 3 + 2]? = some (.bool (sgR k)) := by
  obtain rfl | rfl | rfl | rfl | rfl | rfl | rfl | rfl | rfl | rfl | rfl | rfl | rfl | rfl | rfl : k = 0 ∨ k = 1 ∨ k = 2 ∨ k = 3 ∨ k = 4 ∨ k = 5 ∨ k = 6 ∨ k = 7 ∨ k = 8 ∨ k = 9 ∨ k = 10 ∨ k = 11 ∨ k = 12 ∨ k = 13 ∨ k = 14 := by omega
  all_goals exact ⟨rfl, rfl, rfl⟩
theorem sg_le (k : Nat) : (sgT k).size ≤ 7 ∧ 0 ≤ sgS k ∧ sgS k ≤ 6 := by
  by_cases h : k ≤ 14
  · obtain rfl | rfl | rfl | rfl | rfl | rfl | rfl | rfl | rfl | rfl | rfl | rfl | rfl | rfl | rfl : k = 0 ∨ k = 1 ∨ k = 2 ∨ k = 3 ∨ k = 4 ∨ k = 5 ∨ k = 6 ∨ k = 7 ∨ k = 8 ∨ k = 9 ∨ k = 10 ∨ k = 11 ∨ k = 12 ∨ k = 13 ∨ k = 14 := by omega
    all_goals decide
  · have h1 : sgT k = ⟨#[]⟩ := by unfold sgT; split <;> first | rfl | (exact absurd (by decide) h)
    have h2 : sgS k = 0 := by unfold sgS; split <;> first | rfl | (exact absurd (by decide) h)
    rw [h1, h2]; decide

theorem signs_there (w : World) : (w.alloc (.cells #[.string ⟨#[]⟩, .int .i64 0, .bool false, .string ⟨#[]⟩, .int .i64 0, .bool false, .string ⟨#[]⟩, .int .i64 0, .bool false, .string ⟨#[]⟩, .int .i64 0, .bool false, .string ⟨#[]⟩, .int .i64 0, .bool false, .string ⟨#[]⟩, .int .i64 0, .bool false, .string ⟨#[]⟩, .int .i64 0, .bool false, .string ⟨#[]⟩, .int .i64 0, .bool false, .string ⟨#[]⟩, .int .i64 0, .bool false, .string ⟨#[]⟩, .int .i64 0, .bool false, .string ⟨#[]⟩, .int .i64 0, .bool false, .string ⟨#[]⟩, .int .i64 0, .bool false, .string ⟨#[]⟩, .int .i64 0, .bool false, .string ⟨#[]⟩, .int .i64 0, .bool false, .string ⟨#[]⟩, .int .i64 0, .bool false] 82)).there w.heap.size 0 signCells.size := by
  have hz : (#[.string ⟨#[]⟩, .int .i64 0, .bool false, .string ⟨#[]⟩, .int .i64 0, .bool false, .string ⟨#[]⟩, .int .i64 0, .bool false, .string ⟨#[]⟩, .int .i64 0, .bool false, .string ⟨#[]⟩, .int .i64 0, .bool false, .string ⟨#[]⟩, .int .i64 0, .bool false, .string ⟨#[]⟩, .int .i64 0, .bool false, .string ⟨#[]⟩, .int .i64 0, .bool false, .string ⟨#[]⟩, .int .i64 0, .bool false, .string ⟨#[]⟩, .int .i64 0, .bool false, .string ⟨#[]⟩, .int .i64 0, .bool false, .string ⟨#[]⟩, .int .i64 0, .bool false, .string ⟨#[]⟩, .int .i64 0, .bool false, .string ⟨#[]⟩, .int .i64 0, .bool false, .string ⟨#[]⟩, .int .i64 0, .bool false] : Array Value).size = 45 := by kernel_rfl
  have h1 := World.alloc_heap_new w (.cells #[.string ⟨#[]⟩, .int .i64 0, .bool false, .string ⟨#[]⟩, .int .i64 0, .bool false, .string ⟨#[]⟩, .int .i64 0, .bool false, .string ⟨#[]⟩, .int .i64 0, .bool false, .string ⟨#[]⟩, .int .i64 0, .bool false, .string ⟨#[]⟩, .int .i64 0, .bool false, .string ⟨#[]⟩, .int .i64 0, .bool false, .string ⟨#[]⟩, .int .i64 0, .bool false, .string ⟨#[]⟩, .int .i64 0, .bool false, .string ⟨#[]⟩, .int .i64 0, .bool false, .string ⟨#[]⟩, .int .i64 0, .bool false, .string ⟨#[]⟩, .int .i64 0, .bool false, .string ⟨#[]⟩, .int .i64 0, .bool false, .string ⟨#[]⟩, .int .i64 0, .bool false, .string ⟨#[]⟩, .int .i64 0, .bool false] 82)
  obtain ⟨W, hW⟩ : ∃ W, w.alloc (.cells #[.string ⟨#[]⟩, .int .i64 0, .bool false, .string ⟨#[]⟩, .int .i64 0, .bool false, .string ⟨#[]⟩, .int .i64 0, .bool false, .string ⟨#[]⟩, .int .i64 0, .bool false, .string ⟨#[]⟩, .int .i64 0, .bool false, .string ⟨#[]⟩, .int .i64 0, .bool false, .string ⟨#[]⟩, .int .i64 0, .bool false, .string ⟨#[]⟩, .int .i64 0, .bool false, .string ⟨#[]⟩, .int .i64 0, .bool false, .string ⟨#[]⟩, .int .i64 0, .bool false, .string ⟨#[]⟩, .int .i64 0, .bool false, .string ⟨#[]⟩, .int .i64 0, .bool false, .string ⟨#[]⟩, .int .i64 0, .bool false, .string ⟨#[]⟩, .int .i64 0, .bool false, .string ⟨#[]⟩, .int .i64 0, .bool false] 82) = W := ⟨_, rfl⟩
  rw [hW] at h1 ⊢
  intro j hj
  have hj' : j < 45 := hj
  constructor
  · simp [World.cell?, h1, hz, hj']
  · simp [World.frozen?, h1]
theorem signs_laid (w : World) : ∃ W, (w.alloc (.cells #[.string ⟨#[]⟩, .int .i64 0, .bool false, .string ⟨#[]⟩, .int .i64 0, .bool false, .string ⟨#[]⟩, .int .i64 0, .bool false, .string ⟨#[]⟩, .int .i64 0, .bool false, .string ⟨#[]⟩, .int .i64 0, .bool false, .string ⟨#[]⟩, .int .i64 0, .bool false, .string ⟨#[]⟩, .int .i64 0, .bool false, .string ⟨#[]⟩, .int .i64 0, .bool false, .string ⟨#[]⟩, .int .i64 0, .bool false, .string ⟨#[]⟩, .int .i64 0, .bool false, .string ⟨#[]⟩, .int .i64 0, .bool false, .string ⟨#[]⟩, .int .i64 0, .bool false, .string ⟨#[]⟩, .int .i64 0, .bool false, .string ⟨#[]⟩, .int .i64 0, .bool false, .string ⟨#[]⟩, .int .i64 0, .bool false] 82)).setCells w.heap.size 0 signCells.toList = W ∧ Below w.heap.size w W ∧ w.heap.size < W.heap.size ∧ ∀ j v, signCells[j]? = some v → W.cell? ⟨w.heap.size, j, none⟩ = some v := by
  refine ⟨_, rfl, Below.setCells' _ (Nat.le_refl _) _ _ _ ((Below.refl _ _).alloc (Nat.le_refl _) _), ?_, ?_⟩
  · rw [setCells_size]; simp
  · intro j v hv
    have := World.rangeAt_setCells_same _ w.heap.size 0 signCells.toList (signs_there w) j v (by simpa using hv)
    rwa [Nat.zero_add] at this

set_option maxRecDepth 100000 in
set_option maxHeartbeats 4000000 in
theorem signs_any (w : World) : Calls Try.prog 56 #[] w fun e w' => e = .returned (.agg signCells) ∧ Below w.heap.size w w' := by
  go_enter Try.func56, Try.ntmps56
  go_wp2_with (refine wpList_store_mid rfl 82 _ _ rfl w.heap.size 0 signCells rfl rfl ?c1 ?c2 ?c3 ?_)
  case c1 => exact signs_there w
  case c2 => kernel_rfl
  case c3 => simp [signCells, Value.oneCell']
  refine bodyPost_ret (v := .agg signCells) ?_ rfl ⟨rfl, ?_⟩
  · have hl := run_loadVar_mid (P := Try.prog) ((w.alloc (.cells #[.string ⟨#[]⟩, .int .i64 0, .bool false, .string ⟨#[]⟩, .int .i64 0, .bool false, .string ⟨#[]⟩, .int .i64 0, .bool false, .string ⟨#[]⟩, .int .i64 0, .bool false, .string ⟨#[]⟩, .int .i64 0, .bool false, .string ⟨#[]⟩, .int .i64 0, .bool false, .string ⟨#[]⟩, .int .i64 0, .bool false, .string ⟨#[]⟩, .int .i64 0, .bool false, .string ⟨#[]⟩, .int .i64 0, .bool false, .string ⟨#[]⟩, .int .i64 0, .bool false, .string ⟨#[]⟩, .int .i64 0, .bool false, .string ⟨#[]⟩, .int .i64 0, .bool false, .string ⟨#[]⟩, .int .i64 0, .bool false, .string ⟨#[]⟩, .int .i64 0, .bool false, .string ⟨#[]⟩, .int .i64 0, .bool false] 82)).setCells w.heap.size 0 signCells.toList) w.heap.size 0 82 signCells.toList _ (World.rangeAt_setCells_same _ w.heap.size 0 signCells.toList (signs_there w)) Try.underlying82 rfl (by kernel_rfl)
    exact results_cell rfl rfl hl
  · exact Below.setCells' _ (Nat.le_refl _) _ _ _ ((Below.refl _ _).alloc (Nat.le_refl _) _)

/-- How strongly a formula binds. -/
def Fm.str (f : Fm) : Int := bif f.sub.isEmpty then 6 else sgS f.op.toNat
set_option maxRecDepth 100000 in
set_option maxHeartbeats 4000000 in
theorem strength_any (f : Fm) (hop : f.sub = [] ∨ f.op ≤ 14) (v : Value) (w : World) (hv : FmVal w v f) :
    Calls Try.prog 54 #[v] w fun e w' => e = .returned (.int .i64 f.str) ∧ Below w.heap.size w w' := by
  obtain ⟨x, y, rfl, hx, hy, hz, ho0, ho1⟩ := hv
  obtain ⟨ax, cx, rfl, _⟩ := hx.at
  obtain ⟨ay, cy, rfl, hly, hmy, _⟩ := hy.at
  obtain ⟨k, hk⟩ : ∃ k : Nat, f.op = k := ⟨f.op.toNat, by omega⟩
  rw [hk] at ho0 ho1 hop ⊢
  have hstr : f.str = bif f.sub.isEmpty then 6 else sgS k := by unfold Fm.str; rw [hk, Int.toNat_natCast]
  have HSTR := Lib.hid hstr
  have HOP := Lib.hid hop
  clear hk hstr hop hx hy
  obtain ⟨wb, hwb⟩ : ∃ wb, w.alloc (.cells #[.int .u8 (k : Int), .string f.name, .slice ax f.args.length cx, .slice ay f.sub.length cy] 25) = wb := ⟨_, rfl⟩
  have hbb : Below w.heap.size w wb := by rw [← hwb]; exact (Below.refl _ _).alloc (Nat.le_refl _) _
  have f0 : wb.cell? ⟨w.heap.size, 0, none⟩ = some (.int .u8 (k : Int)) := by rw [← hwb, World.cell?_alloc_at _ _ _ _ rfl]; rfl
  have f3 : wb.cell? ⟨w.heap.size, 3, none⟩ = some (.slice ay f.sub.length cy) := by rw [← hwb, World.cell?_alloc_at _ _ _ _ rfl]; rfl
  have hB0 : w.heap.size < wb.heap.size := by rw [← hwb]; simp
  go_enter Try.func54, Try.ntmps54
  go_upto_region 2 with (first | (go_at_call 56; refine (signs_any _).mono ?_; rintro e w1 ⟨rfl, hb1⟩) | (refine wpList_store_mid rfl 82 _ _ rfl _ 0 signCells rfl rfl ?c1 ?c2 ?c3 ?_))
  case c1 => exact signs_there _
  case c2 => kernel_rfl
  case c3 => simp [signCells, Value.oneCell']
  clear hwb
  obtain ⟨w2, hw2, hb2, hB2, hrow⟩ := signs_laid w1
  rw [hw2]
  clear hw2
  obtain ⟨b1, hb1'⟩ : ∃ b1, w1.heap.size = b1 := ⟨_, rfl⟩
  have hbw : Below wb.heap.size wb w2 := hb1.trans (hb2.mono hb1.size)
  have hbw2 : Below w.heap.size w w2 := hbb.trans (hbw.mono hbb.size)
  rw [hb1'] at hB2 hrow ⊢
  have g0 := (hbw.cell (p := ⟨w.heap.size, 0, none⟩) hB0).trans f0
  have g3 := (hbw.cell (p := ⟨w.heap.size, 3, none⟩) hB0).trans f3
  have HROW := Lib.hid hrow
  clear hb1 hb2 hb1' f0 f3 hrow
  by_cases h0 : f.sub.length = 0
  · have hnil : f.sub = [] := List.eq_nil_of_length_eq_zero h0
    rw [h0] at g3
    have HN := Lib.hid hnil
    clear hnil h0
    go_wp2_with fail
    go_ret
    exact ⟨ret_int (by rw [HSTR.out, HN.out]; rfl), hbw2⟩
  · have hk14 : k ≤ 14 := by
      rcases HOP.out with h | h
      · exact absurd (by rw [h]; rfl) h0
      · omega
    have i1 : ((f.sub.length : Int) == 0) = false := by rw [beq_eq_false_iff_ne]; omega
    have hstr := HSTR.out
    rw [show f.sub.isEmpty = false by cases hh : f.sub with
      | nil => rw [hh] at h0; exact absurd rfl h0
      | cons => rfl, cond_false] at hstr
    have HS := Lib.hid hstr
    have r1 := HROW.out _ _ (sign_at k hk14).2.1
    clear hstr HSTR
    go_wp2_with fail
    go_ret
    exact ⟨ret_int HS.out.symm, hbw2⟩

end Go.Proofs.Ytollifednpjkeaa
