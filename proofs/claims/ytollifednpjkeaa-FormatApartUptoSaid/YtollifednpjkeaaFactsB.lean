import Derived.Test.YtollifednpjkeaaFactsA
/-
  The makers of lyceumlaw06, and its writes.
-/
namespace Go.Proofs.Ytollifednpjkeaa
open Go.RowKit

theorem ofR_any (op : Int) (n : ByteArray) (s : Value) (w : World) (hs : ∃ a m c, s = .slice a m c) :
    Calls Try.prog 15 #[.int .u8 op, .string n, s] w fun e w' => e = .returned (.agg #[.int .u8 op, .string n, .slice none 0 0, s]) ∧ Below w.heap.size w w' := by
  obtain ⟨a, m, c, rfl⟩ := hs
  go_enter Try.func15, Try.ntmps15
  go_wp2_with fail
  exact bodyPost_ret (v := .agg #[.int .u8 op, .string n, .slice none 0 0, .slice a m c]) (by simp [results, Try.results15, go_sem]) rfl ⟨rfl, (Below.refl _ _).alloc (Nat.le_refl _) _⟩
theorem pR_any (n : ByteArray) (s : Value) (w : World) (hs : ∃ a m c, s = .slice a m c) :
    Calls Try.prog 14 #[.string n, s] w fun e w' => e = .returned (.agg #[.int .u8 1, .string n, s, .slice none 0 0]) ∧ Below w.heap.size w w' := by
  obtain ⟨a, m, c, rfl⟩ := hs
  go_enter Try.func14, Try.ntmps14
  go_wp2_with fail
  exact bodyPost_ret (v := .agg #[.int .u8 1, .string n, .slice a m c, .slice none 0 0]) (by simp [results, Try.results14, go_sem]) rfl ⟨rfl, (Below.refl _ _).alloc (Nat.le_refl _) _⟩
theorem cR_any (n : ByteArray) (s : Value) (w : World) (hs : ∃ a m c, s = .slice a m c) :
    Calls Try.prog 18 #[.string n, s] w fun e w' => e = .returned (.agg #[.bool false, .string n, s]) ∧ Below w.heap.size w w' := by
  obtain ⟨a, m, c, rfl⟩ := hs
  go_enter Try.func18, Try.ntmps18
  go_wp2_with fail
  exact bodyPost_ret (v := .agg #[.bool false, .string n, .slice a m c]) (by simp [results, Try.results18, go_sem]) rfl ⟨rfl, (Below.refl _ _).alloc (Nat.le_refl _) _⟩
theorem vR_any (n : ByteArray) (w : World) :
    Calls Try.prog 21 #[.string n] w fun e w' => e = .returned (.agg #[.bool true, .string n, .slice none 0 0]) ∧ Below w.heap.size w w' := by
  go_enter Try.func21, Try.ntmps21
  go_wp2_with fail
  exact bodyPost_ret (v := .agg #[.bool true, .string n, .slice none 0 0]) (by simp [results, Try.results21, go_sem]) rfl ⟨rfl, (Below.refl _ _).alloc (Nat.le_refl _) _⟩

set_option maxRecDepth 100000 in
set_option maxHeartbeats 1000000 in
/-- A right schema has these texts. -/
theorem writes_any (f : Fm) (hf : f.wt ≤ 10000000) (hok : okB f = true) (x y z : ByteArray) (h1 : f.tx false = x) (h2 : f.tx true = y) (h3 : joinS ⟨#[32]⟩ f.pw = z) (v : Value) (w : World) (hv : FmVal w v f) :
    Calls Try.prog 22 #[v, .string x, .string y, .string z] w fun e w' => e = .returned (.bool true) ∧ Below w.heap.size w w' := by
  have hv' := hv
  obtain ⟨p, q, rfl, hx, hy, hz⟩ := hv
  obtain ⟨ax, cx, rfl, -⟩ := hx.at
  obtain ⟨ay, cy, rfl, -⟩ := hy.at
  obtain ⟨wb, hwb⟩ : ∃ wb, w.alloc (.cells #[.int .u8 f.op, .string f.name, .slice ax f.args.length cx, .slice ay f.sub.length cy] 25) = wb := ⟨_, rfl⟩
  have hbb : Below w.heap.size w wb := by rw [← hwb]; exact (Below.refl _ _).alloc (Nat.le_refl _) _
  have f0 : wb.cell? ⟨w.heap.size, 0, none⟩ = some (.int .u8 f.op) := by rw [← hwb, World.cell?_alloc_at _ _ _ _ rfl]; rfl
  have f1 : wb.cell? ⟨w.heap.size, 1, none⟩ = some (.string f.name) := by rw [← hwb, World.cell?_alloc_at _ _ _ _ rfl]; rfl
  have f2 : wb.cell? ⟨w.heap.size, 2, none⟩ = some (.slice ax f.args.length cx) := by rw [← hwb, World.cell?_alloc_at _ _ _ _ rfl]; rfl
  have f3 : wb.cell? ⟨w.heap.size, 3, none⟩ = some (.slice ay f.sub.length cy) := by rw [← hwb, World.cell?_alloc_at _ _ _ _ rfl]; rfl
  have hBl : w.heap.size < wb.heap.size := by rw [← hwb]; simp
  have hvb := hv'.up hbb
  have e1 : (x.toList == x.toList) = true := by simp
  have e2 : (y.toList == y.toList) = true := by simp
  have e3 : (z.toList == z.toList) = true := by simp
  have a1 : ansR (okB f) (f.tx false) = .tuple #[.string x, .int .i64 0] := by rw [hok, h1]; rfl
  have a2 : ansR (okB f) (f.tx true) = .tuple #[.string y, .int .i64 0] := by rw [hok, h2]; rfl
  have a3 : ansR (okB f) (joinS ⟨#[32]⟩ f.pw) = .tuple #[.string z, .int .i64 0] := by rw [hok, h3]; rfl
  have HA := Lib.hid (And.intro a1 (And.intro a2 a3))
  clear hv' h1 h2 h3 a1 a2 a3 hok
  go_enter Try.func22, Try.ntmps22
  go_wp2_with fail
  refine (form_any f hf _ _ hvb).mono ?_
  rintro e w1 ⟨rfl, hb1⟩
  rw [HA.out.1]
  have g0 := (hb1.cell (p := ⟨w.heap.size, 0, none⟩) hBl).trans f0
  have g1 := (hb1.cell (p := ⟨w.heap.size, 1, none⟩) hBl).trans f1
  have g2 := (hb1.cell (p := ⟨w.heap.size, 2, none⟩) hBl).trans f2
  have g3 := (hb1.cell (p := ⟨w.heap.size, 3, none⟩) hBl).trans f3
  have hv1 := hvb.up hb1
  have hB1 : w.heap.size < w1.heap.size := Nat.lt_of_lt_of_le hBl hb1.size
  have hbw1 := hbb.trans (hb1.mono hbb.size)
  clear f0 f1 f2 f3 hwb
  go_wp2_with fail
  refine (full_any f hf _ _ hv1).mono ?_
  rintro e w2 ⟨rfl, hb2⟩
  rw [HA.out.2.1]
  have k0 := (hb2.cell (p := ⟨w.heap.size, 0, none⟩) hB1).trans g0
  have k1 := (hb2.cell (p := ⟨w.heap.size, 1, none⟩) hB1).trans g1
  have k2 := (hb2.cell (p := ⟨w.heap.size, 2, none⟩) hB1).trans g2
  have k3 := (hb2.cell (p := ⟨w.heap.size, 3, none⟩) hB1).trans g3
  have hv2 := hv1.up hb2
  have hbw2 := hbw1.trans (hb2.mono hbw1.size)
  clear g0 g1 g2 g3
  go_wp2_with fail
  refine (prefix_any f hf _ _ hv2).mono ?_
  rintro e w3 ⟨rfl, hb3⟩
  rw [HA.out.2.2]
  go_wp2_with fail
  go_ret
  exact ⟨rfl, hbw2.trans (hb3.mono hbw2.size)⟩

end Go.Proofs.Ytollifednpjkeaa
