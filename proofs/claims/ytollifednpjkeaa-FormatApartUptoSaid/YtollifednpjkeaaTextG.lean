import Derived.Test.YtollifednpjkeaaTextF
/-
  The texts of formulas: checked, Form, Full, Forms, Term.
-/
namespace Go.Proofs.Ytollifednpjkeaa
open Go.RowKit

def ansR (b : Bool) (s : ByteArray) : Value := .tuple #[.string (bif b then s else ⟨#[]⟩), .int .i64 (bif b then 0 else 2)]
theorem ret_ansT {b : Bool} {s : ByteArray} (h : b = true) : Ending.returned (.tuple #[.string s, .int .i64 0]) = .returned (ansR b s) := by rw [h]; rfl
theorem ret_ansF {b : Bool} {s : ByteArray} (h : b = false) : Ending.returned (.tuple #[.string ⟨#[]⟩, .int .i64 2]) = .returned (ansR b s) := by rw [h]; rfl

theorem checked_any (k : Nat) (caps : Array Value) (s : ByteArray) (f : Fm) (hf : f.wt ≤ 10000000) (v : Value) (w : World) (hv : FmVal w v f)
    (he : ∀ (xs : Array Value) (w : World), Sem.run Try.prog (callFunc k xs) w = .ok (.enter k xs) w)
    (hk : okB f = true → ∀ W, Below w.heap.size w W → Calls Try.prog k caps W fun e W' => e = .returned (.string s) ∧ Below W.heap.size W W') :
    Calls Try.prog 25 #[v, .func (.func k) #[] caps] w fun e w' => e = .returned (ansR (okB f) s) ∧ Below w.heap.size w w' := by
  have hv' := hv
  obtain ⟨x, y, rfl, hx, hy, hz⟩ := hv
  obtain ⟨ax, cx, rfl, -⟩ := hx.at
  obtain ⟨ay, cy, rfl, -⟩ := hy.at
  obtain ⟨wb, hwb⟩ : ∃ wb, w.alloc (.cells #[.int .u8 f.op, .string f.name, .slice ax f.args.length cx, .slice ay f.sub.length cy] 25) = wb := ⟨_, rfl⟩
  have hbb : Below w.heap.size w wb := by rw [← hwb]; exact (Below.refl _ _).alloc (Nat.le_refl _) _
  have f0 : wb.cell? ⟨w.heap.size, 0, none⟩ = some (.int .u8 f.op) := by rw [← hwb, World.cell?_alloc_at _ _ _ _ rfl]; rfl
  have f1 : wb.cell? ⟨w.heap.size, 1, none⟩ = some (.string f.name) := by rw [← hwb, World.cell?_alloc_at _ _ _ _ rfl]; rfl
  have f2 : wb.cell? ⟨w.heap.size, 2, none⟩ = some (.slice ax f.args.length cx) := by rw [← hwb, World.cell?_alloc_at _ _ _ _ rfl]; rfl
  have f3 : wb.cell? ⟨w.heap.size, 3, none⟩ = some (.slice ay f.sub.length cy) := by rw [← hwb, World.cell?_alloc_at _ _ _ _ rfl]; rfl
  have hBl : w.heap.size < wb.heap.size := by rw [← hwb]; simp
  have HS := Lib.hid (schema_any f hf _ wb (hv'.up hbb))
  have HK := Lib.hid hk
  obtain ⟨r, hr⟩ : ∃ r, okB f = r := ⟨_, rfl⟩
  rw [hr]
  have HR := Lib.hid hr
  clear hv' hk hr
  go_enter Try.func25, Try.ntmps25
  go_wp2_with fail
  refine HS.out.mono ?_
  rintro e w1 ⟨rfl, hb1⟩
  have hbw := hbb.trans (hb1.mono hbb.size)
  rw [HR.out]
  cases r
  · go_wp2_with fail
    go_ret2
    exact ⟨ret_ansF rfl, hbw⟩
  · have H := Lib.hid (HK.out HR.out w1 hbw)
    go_wp2_with fail
    refine H.out.mono ?_
    rintro e w2 ⟨rfl, hb2⟩
    go_wp2_with fail
    go_ret2
    exact ⟨ret_ansT rfl, hbw.trans (hb2.mono hbw.size)⟩

/-- A formula in a box. -/
structure FmBox (b : Nat) (f : Fm) (W : World) : Prop where
  lt : b < W.heap.size
  at' : ∃ ax cx ay cy, W.cell? ⟨b, 0, none⟩ = some (.int .u8 f.op) ∧ W.cell? ⟨b, 1, none⟩ = some (.string f.name) ∧ W.cell? ⟨b, 2, none⟩ = some (.slice ax f.args.length cx) ∧ W.cell? ⟨b, 3, none⟩ = some (.slice ay f.sub.length cy) ∧
    FmVal W (.agg #[.int .u8 f.op, .string f.name, .slice ax f.args.length cx, .slice ay f.sub.length cy]) f
theorem FmBox.up {b : Nat} {f : Fm} {W W' : World} (h : FmBox b f W) (hb : Below W.heap.size W W') : FmBox b f W' := by
  obtain ⟨hl, ax, cx, ay, cy, c0, c1, c2, c3, hv⟩ := h
  exact ⟨Nat.lt_of_lt_of_le hl hb.size, ax, cx, ay, cy, (hb.cell (p := ⟨b, 0, none⟩) hl).trans c0, (hb.cell (p := ⟨b, 1, none⟩) hl).trans c1, (hb.cell (p := ⟨b, 2, none⟩) hl).trans c2, (hb.cell (p := ⟨b, 3, none⟩) hl).trans c3, hv.up hb⟩

theorem formC_any (f : Fm) (hf : f.wt ≤ 10000000) (b : Nat) (w : World) (hb : FmBox b f w) (hok : okB f = true) :
    Calls Try.prog 26 #[.pointer (some ⟨b, 0, none⟩)] w fun e w' => e = .returned (.string (f.tx false)) ∧ Below w.heap.size w w' := by
  obtain ⟨hl, ax, cx, ay, cy, c0, c1, c2, c3, hv⟩ := hb
  have H := Lib.hid (text_all f.wt f (Nat.le_refl _) hf (by unfold okB at hok; simp only [Bool.and_eq_true] at hok; exact hok.2) false _ w hv)
  clear hv hok
  go_enter Try.func26, Try.ntmps26
  go_wp2_with fail
  refine H.out.mono ?_
  rintro e w2 ⟨rfl, hb2⟩
  go_wp2_with fail
  go_ret
  exact ⟨rfl, hb2⟩
theorem fullC_any (f : Fm) (hf : f.wt ≤ 10000000) (b : Nat) (w : World) (hb : FmBox b f w) (hok : okB f = true) :
    Calls Try.prog 28 #[.pointer (some ⟨b, 0, none⟩)] w fun e w' => e = .returned (.string (f.tx true)) ∧ Below w.heap.size w w' := by
  obtain ⟨hl, ax, cx, ay, cy, c0, c1, c2, c3, hv⟩ := hb
  have H := Lib.hid (text_all f.wt f (Nat.le_refl _) hf (by unfold okB at hok; simp only [Bool.and_eq_true] at hok; exact hok.2) true _ w hv)
  clear hv hok
  go_enter Try.func28, Try.ntmps28
  go_wp2_with fail
  refine H.out.mono ?_
  rintro e w2 ⟨rfl, hb2⟩
  go_wp2_with fail
  go_ret
  exact ⟨rfl, hb2⟩

theorem form_any (f : Fm) (hf : f.wt ≤ 10000000) (v : Value) (w : World) (hv : FmVal w v f) :
    Calls Try.prog 9 #[v] w fun e w' => e = .returned (ansR (okB f) (f.tx false)) ∧ Below w.heap.size w w' := by
  have hv' := hv
  obtain ⟨x, y, rfl, hx, hy, hz⟩ := hv
  obtain ⟨ax, cx, rfl, -⟩ := hx.at
  obtain ⟨ay, cy, rfl, -⟩ := hy.at
  obtain ⟨wb, hwb⟩ : ∃ wb, w.alloc (.cells #[.int .u8 f.op, .string f.name, .slice ax f.args.length cx, .slice ay f.sub.length cy] 25) = wb := ⟨_, rfl⟩
  have hbb : Below w.heap.size w wb := by rw [← hwb]; exact (Below.refl _ _).alloc (Nat.le_refl _) _
  have f0 : wb.cell? ⟨w.heap.size, 0, none⟩ = some (.int .u8 f.op) := by rw [← hwb, World.cell?_alloc_at _ _ _ _ rfl]; rfl
  have f1 : wb.cell? ⟨w.heap.size, 1, none⟩ = some (.string f.name) := by rw [← hwb, World.cell?_alloc_at _ _ _ _ rfl]; rfl
  have f2 : wb.cell? ⟨w.heap.size, 2, none⟩ = some (.slice ax f.args.length cx) := by rw [← hwb, World.cell?_alloc_at _ _ _ _ rfl]; rfl
  have f3 : wb.cell? ⟨w.heap.size, 3, none⟩ = some (.slice ay f.sub.length cy) := by rw [← hwb, World.cell?_alloc_at _ _ _ _ rfl]; rfl
  have hBl : w.heap.size < wb.heap.size := by rw [← hwb]; simp
  have hvb := hv'.up hbb
  have hbx : FmBox w.heap.size f wb := ⟨hBl, _, _, _, _, f0, f1, f2, f3, hvb⟩
  have H := Lib.hid (checked_any 26 _ _ f hf _ wb hvb Try.call26 (fun hok W hb => formC_any f hf w.heap.size W (hbx.up hb) hok))
  clear hv' hvb hbx
  go_enter Try.func9, Try.ntmps9
  go_wp2_with fail
  refine H.out.mono ?_
  rintro e w2 ⟨rfl, hb2⟩
  unfold ansR
  go_wp2_with fail
  go_ret2
  exact ⟨rfl, hbb.trans (hb2.mono hbb.size)⟩
theorem full_any (f : Fm) (hf : f.wt ≤ 10000000) (v : Value) (w : World) (hv : FmVal w v f) :
    Calls Try.prog 10 #[v] w fun e w' => e = .returned (ansR (okB f) (f.tx true)) ∧ Below w.heap.size w w' := by
  have hv' := hv
  obtain ⟨x, y, rfl, hx, hy, hz⟩ := hv
  obtain ⟨ax, cx, rfl, -⟩ := hx.at
  obtain ⟨ay, cy, rfl, -⟩ := hy.at
  obtain ⟨wb, hwb⟩ : ∃ wb, w.alloc (.cells #[.int .u8 f.op, .string f.name, .slice ax f.args.length cx, .slice ay f.sub.length cy] 25) = wb := ⟨_, rfl⟩
  have hbb : Below w.heap.size w wb := by rw [← hwb]; exact (Below.refl _ _).alloc (Nat.le_refl _) _
  have f0 : wb.cell? ⟨w.heap.size, 0, none⟩ = some (.int .u8 f.op) := by rw [← hwb, World.cell?_alloc_at _ _ _ _ rfl]; rfl
  have f1 : wb.cell? ⟨w.heap.size, 1, none⟩ = some (.string f.name) := by rw [← hwb, World.cell?_alloc_at _ _ _ _ rfl]; rfl
  have f2 : wb.cell? ⟨w.heap.size, 2, none⟩ = some (.slice ax f.args.length cx) := by rw [← hwb, World.cell?_alloc_at _ _ _ _ rfl]; rfl
  have f3 : wb.cell? ⟨w.heap.size, 3, none⟩ = some (.slice ay f.sub.length cy) := by rw [← hwb, World.cell?_alloc_at _ _ _ _ rfl]; rfl
  have hBl : w.heap.size < wb.heap.size := by rw [← hwb]; simp
  have hvb := hv'.up hbb
  have hbx : FmBox w.heap.size f wb := ⟨hBl, _, _, _, _, f0, f1, f2, f3, hvb⟩
  have H := Lib.hid (checked_any 28 _ _ f hf _ wb hvb Try.call28 (fun hok W hb => fullC_any f hf w.heap.size W (hbx.up hb) hok))
  clear hv' hvb hbx
  go_enter Try.func10, Try.ntmps10
  go_wp2_with fail
  refine H.out.mono ?_
  rintro e w2 ⟨rfl, hb2⟩
  unfold ansR
  go_wp2_with fail
  go_ret2
  exact ⟨rfl, hbb.trans (hb2.mono hbb.size)⟩

/-- A function value that writes formulas. -/
structure TextsFm (k : Nat) (caps : Array Value) (Pre : World → Prop) (p : Fm → ByteArray) (N : Nat) (Q : Fm → Prop) : Prop where
  enter : ∀ (xs : Array Value) (w : World), Sem.run Try.prog (callFunc k xs) w = .ok (.enter k xs) w
  keep : ∀ A B, Pre A → Below A.heap.size A B → Pre B
  calls : ∀ (t : Fm) (v : Value) (W : World), Q t → Pre W → t.wt ≤ N → FmVal W v t → Calls Try.prog k (#[v] ++ caps) W fun e W' => e = .returned (.string (p t)) ∧ Below W.heap.size W W'

set_option maxHeartbeats 1000000 in
theorem joinedFm_any (k : Nat) (caps : Array Value) (Pre : World → Prop) (p : Fm → ByteArray) (N : Nat) (Q : Fm → Prop) (hk : TextsFm k caps Pre p N Q) (ts : List Fm) (hQ : ∀ t ∈ ts, Q t) (hts : wfs ts ≤ N) (hN : N ≤ 10000000) (sep : ByteArray) (hlen : (joinS sep (ts.map p)).size ≤ 10000000000) (v : Value) (w : World) (hP : Pre w) (hv : FmsAt w v ts) :
    Calls Try.prog 37 #[v, .string sep, .func (.func k) #[] caps] w fun e w' => e = .returned (.string (joinS sep (ts.map p))) ∧ Below w.heap.size w w' := by
  have he := hk.enter
  obtain ⟨a, cap, rfl, hcap, hmax, hcells⟩ := hv.at
  have hmx : ts.length ≤ 9223372036854775807 := by unfold maxLen at hmax; omega
  have hln := wfs_length ts
  have HYS : ∀ (i : Nat) (h : i < ts.length), Hid ((ts.map p).take (i + 1) = (ts.map p).take i ++ [p ts[i]]) := fun i h => by
    show _ = _; rw [List.take_succ_eq_append_getElem (by simpa using h), List.getElem_map]
  have hyl : (ts.map p).length ≤ ts.length ∧ ts.length ≤ (ts.map p).length := by simp
  obtain ⟨ys, hys⟩ : ∃ ys, ts.map p = ys := ⟨_, rfl⟩
  rw [hys] at hlen hyl ⊢
  simp only [hys] at HYS
  clear hys
  have HC := Lib.hid hcells
  have HK := Lib.hid hk
  have HP := Lib.hid hP
  have HL := Lib.hid hlen
  clear hcells hk hv hP hlen
  go_enter Try.func37, Try.ntmps37
  go_wp2_with fail
  go_loopw [7, 12] (fun o i wr => ∃ k : Nat, k ≤ ts.length ∧ i = .int .i64 (k : Int) ∧ wr.ownsRow w.heap.size 9 1 o (ys.take k).length ((ys.take k).map Value.string) ∧ Below w.heap.size w wr) (fun _ i _ => ts.length - (intOf i).toNat)
  case atStart => exact ⟨0, Nat.zero_le _, rfl, World.ownsRow_nil _ _ _ _, Below.refl _ _⟩
  case round =>
    obtain ⟨i, hi, rfl, hown, hb⟩ := hrel
    by_cases hlt : i < ts.length
    · obtain ⟨b, off, rfl, hbl, hc⟩ := HC.out (by omega)
      obtain ⟨x, y, c0, c1, c2, c3, hx, hy, hz⟩ := hc i hlt
      obtain ⟨ax, cx, rfl, -⟩ := hx.at
      obtain ⟨ay, cy, rfl, -⟩ := hy.at
      have d0 := (hb.cell (p := ⟨b, off + i * 4, none⟩) hbl).trans c0
      have d1 := (hb.cell (p := ⟨b, off + i * 4 + 1, none⟩) hbl).trans c1
      have d2 := (hb.cell (p := ⟨b, off + i * 4 + 2, none⟩) hbl).trans c2
      have d3 := (hb.cell (p := ⟨b, off + i * 4 + 3, none⟩) hbl).trans c3
      obtain ⟨wb, hwb⟩ : ∃ wb, wr.alloc (.cells #[.int .u8 ts[i].op, .string ts[i].name, .slice ax ts[i].args.length cx, .slice ay ts[i].sub.length cy] 25) = wb := ⟨_, rfl⟩
      have hbb : Below wr.heap.size wr wb := by rw [← hwb]; exact (Below.refl _ _).alloc (Nat.le_refl _) _
      have hbw := hb.trans (hbb.mono hb.size)
      have hvi : FmVal wb (.agg #[.int .u8 ts[i].op, .string ts[i].name, .slice ax ts[i].args.length cx, .slice ay ts[i].sub.length cy]) ts[i] := ⟨_, _, rfl, hx.up hbw, hy.up hbw, hz⟩
      have hwi : ts[i].wt ≤ N := Nat.le_trans (wfs_mem (List.getElem_mem hlt)) hts
      have HS := HYS i hlt
      have hln2 : (ys.take i).length ≤ ts.length := by rw [List.length_take]; omega
      clear c0 c1 c2 c3 hc
      have f0 : wb.cell? ⟨wr.heap.size, 0, none⟩ = some (.int .u8 ts[i].op) := by rw [← hwb, World.cell?_alloc_at _ _ _ _ rfl]; rfl
      have f1 : wb.cell? ⟨wr.heap.size, 1, none⟩ = some (.string ts[i].name) := by rw [← hwb, World.cell?_alloc_at _ _ _ _ rfl]; rfl
      have f3 : wb.cell? ⟨wr.heap.size, 3, none⟩ = some (.slice ay ts[i].sub.length cy) := by rw [← hwb, World.cell?_alloc_at _ _ _ _ rfl]; rfl
      have f2 : wb.cell? ⟨wr.heap.size, 2, none⟩ = some (.slice ax ts[i].args.length cx) := by rw [← hwb, World.cell?_alloc_at _ _ _ _ rfl]; rfl
      have HI0 := Lib.hid hlt
      go_wp2_with fail
      refine (HK.out.calls ts[i] _ wb (hQ _ (List.getElem_mem HI0.out)) (HK.out.keep _ _ HP.out hbw) hwi hvi).mono ?_
      rintro e w2 ⟨rfl, hb2⟩
      have hown2 := ownsRow_below hown (hbb.trans (hb2.mono hbb.size))
      have hbw2 := hbw.trans (hb2.mono hbw.size)
      obtain ⟨i0, hi0, hz0, hz1, hz2⟩ := info_parts Try.info9
      have HI := Lib.hid hlt
      clear f0 f1 f2 f3 d0 d1 d2 d3 hvi hwb
      go_wp2_with (at_builtin; refine wpList_append_own _ rfl _ _ 53 rfl w.heap.size 9 i0 (.string ⟨#[]⟩) 1 16 Try.underlying53 hi0 hz0 hz1 hz2 rfl (by decide) _ _ _ rfl (hown2.alloc _) ⟨w2.heap.size, 0, none⟩ 1 1 [.string (p ts[i])] rfl rfl (cell_one_at _ _ (by simp) _ _) (by simp [Value.oneCell']) (by unfold maxLen; omega) (by omega) (by have := hbw2.size; simp; omega) ?_; intro v' w3 hown' hgrow _)
      go_roundw
      case rel => exact ⟨i + 1, HI.out, by go_num, by rw [HS.out, List.length_append, List.map_append]; exact hown', (hbw2.alloc hbw2.size _).grown hgrow (by have := hbw2.size; simp; omega) (fun j e => (hown.lt j e).1)⟩
      case measure => simp only [intOf]; have := HI.out; omega
    · have hall : ys.take i = ys := List.take_of_length_le (by omega)
      rw [hall] at hown
      have HS := Lib.hid (StrsAt.of_owns hown)
      have hml : ys.length ≤ 100000000 := by omega
      obtain ⟨a2, cap2, rfl, _⟩ := StrsAt.of_owns hown
      clear hall hown
      go_wp2_with fail
      refine (sJoin_any _ _ _ _ HS.out hml HL.out).mono ?_
      rintro e w2 ⟨rfl, hb2⟩
      go_wp2_with fail
      go_ret
      exact ⟨rfl, hb.trans (hb2.mono hb.size)⟩


end Go.Proofs.Ytollifednpjkeaa
