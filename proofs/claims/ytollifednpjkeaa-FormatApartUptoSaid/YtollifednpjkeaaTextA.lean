import Derived.Test.YtollifednpjkeaaTreeL
import Derived.Test.YtollifednpjkeaaShelf
/-
  Texts of lists: joined.
-/
namespace Go.Proofs.Ytollifednpjkeaa
open Go.RowKit

def joinS (sep : ByteArray) (xs : List ByteArray) : ByteArray := ⟨(Lib.join (xs.map (·.data.toList)) sep.data.toList).toArray⟩

/-- A function value that writes terms. -/
structure TextsTm (k : Nat) (caps : Array Value) (Pre : World → Prop) (p : Tm → ByteArray) (N : Nat) : Prop where
  enter : ∀ (xs : Array Value) (w : World), Sem.run Try.prog (callFunc k xs) w = .ok (.enter k xs) w
  keep : ∀ A B, Pre A → Below A.heap.size A B → Pre B
  calls : ∀ (t : Tm) (v : Value) (W : World), Pre W → t.wt ≤ N → TmVal W v t → Calls Try.prog k (#[v] ++ caps) W fun e W' => e = .returned (.string (p t)) ∧ Below W.heap.size W W'

theorem Try.info9 : (Try.prog.info? 9).map (fun i => (i.zero, i.size, i.bytes)) = some (some (.string ⟨#[]⟩), 1, 16) := by kernel_rfl
theorem cell_one_at (w : World) (n : Nat) (hn : n = w.heap.size) (a : Value) (t : TypeId) : ∀ j u, [a][j]? = some u → (w.alloc (.cells #[a] t)).cell? ((⟨n, 0, none⟩ : Addr).add j) = some u := by
  intro j u hu
  rw [Addr.add_lit, Nat.zero_add, World.cell?_alloc_at _ _ _ _ hn]
  simpa using hu
/-- A slice that reads as a list of strings. -/
def StrsAt (W : World) (v : Value) (xs : List ByteArray) : Prop := ∃ a cap, v = .slice a xs.length cap ∧ xs.length ≤ cap ∧ (0 < xs.length → ∃ b off, a = some ⟨b, off, none⟩ ∧ b < W.heap.size ∧ ∀ (j : Nat) (x : ByteArray), xs[j]? = some x → W.cell? ⟨b, off + j, none⟩ = some (.string x))
theorem StrsAt.of_owns {W : World} {base : Nat} {e : TypeId} {v : Value} {xs : List ByteArray} (h : W.ownsRow base e 1 v xs.length (xs.map Value.string)) : StrsAt W v xs := by
  rcases h.2 with ⟨rfl, hx⟩ | ⟨g, cap, cur, rfl, hg, hh, hn, hm, hs, ht⟩
  · have : xs = [] := by simpa using hx
    subst this
    exact ⟨none, 0, rfl, Nat.le_refl _, fun h => absurd h (Nat.lt_irrefl _)⟩
  · refine ⟨some ⟨g, 0, none⟩, cap, rfl, hn, fun _ => ⟨g, 0, rfl, lt_of_block hh, fun j x hj => ?_⟩⟩
    have hj' : (xs.map Value.string)[j]? = some (.string x) := by simp [hj]
    rw [Nat.zero_add, cell_of_row _ _ _ _ _ _ hh, ← Array.getElem?_toList]
    rw [← ht, List.getElem?_take] at hj'
    split at hj'
    · exact hj'
    · cases hj'
theorem ownsRow_below {W W' : World} {base : Nat} {e : TypeId} {k : Nat} {v : Value} {n : Nat} {xs : List Value} (h : W.ownsRow base e k v n xs) (hb : Below W.heap.size W W') : W'.ownsRow base e k v n xs := by
  refine ⟨h.1, ?_⟩
  rcases h.2 with ⟨rfl, hx⟩ | ⟨g, cap, cur, rfl, hg, hh, hn, hm, hs, ht⟩
  · exact .inl ⟨rfl, hx⟩
  · exact .inr ⟨g, cap, cur, rfl, hg, (hb.block g (lt_of_block hh)).trans hh, hn, hm, hs, ht⟩
theorem joinS_nil (sep : ByteArray) : joinS sep [] = ⟨#[]⟩ := rfl
/-- The texts, joined. -/
theorem sJoin_any (v : Value) (sep : ByteArray) (xs : List ByteArray) (w : World) (hv : StrsAt w v xs) (hn : xs.length ≤ 100000000) (hl : (joinS sep xs).size ≤ 10000000000) :
    Calls Try.prog 31 #[v, .string sep] w fun e w' => e = .returned (.string (joinS sep xs)) ∧ Below w.heap.size w w' := by
  obtain ⟨a, cap, rfl, hcap, hc⟩ := hv
  by_cases h0 : xs.length = 0
  · have : xs = [] := List.eq_nil_of_length_eq_zero h0
    subst this
    refine (Try.strings_Join_none _ _ _ _).mono ?_
    rintro e w' ⟨rfl, rfl⟩
    exact ⟨rfl, Below.refl _ _⟩
  · obtain ⟨b, off, rfl, hb, hcell⟩ := hc (by omega)
    have hlen : (Lib.join (xs.map (·.data.toList)) sep.data.toList).length = (joinS sep xs).size := rfl
    exact Try.strings_Join b off cap xs sep w hcell hb (by omega) hcap (by omega)

set_option maxHeartbeats 1000000 in
theorem joinedTm_any (k : Nat) (caps : Array Value) (Pre : World → Prop) (p : Tm → ByteArray) (N : Nat) (hk : TextsTm k caps Pre p N) (ts : List Tm) (hts : wts ts ≤ N) (hN : N ≤ 10000000) (sep : ByteArray) (hlen : (joinS sep (ts.map p)).size ≤ 10000000000) (v : Value) (w : World) (hP : Pre w) (hv : TmsAt w v ts) :
    Calls Try.prog 67 #[v, .string sep, .func (.func k) #[] caps] w fun e w' => e = .returned (.string (joinS sep (ts.map p))) ∧ Below w.heap.size w w' := by
  have he := hk.enter
  obtain ⟨a, cap, rfl, hcap, hmax, hcells⟩ := hv.at
  have hmx : ts.length ≤ 9223372036854775807 := by unfold maxLen at hmax; omega
  have hln := wts_length ts
  have HYS : ∀ (i : Nat) (h : i < ts.length), Hid ((ts.map p).take (i + 1) = (ts.map p).take i ++ [p ts[i]]) := fun i h => by
    show _ = _; rw [List.take_succ_eq_append_getElem (by simpa using h), List.getElem_map]
  have hyl : (ts.map p).length ≤ ts.length ∧ ts.length ≤ (ts.map p).length := by simp
  obtain ⟨ys, hys⟩ : ∃ ys, ts.map p = ys := ⟨_, rfl⟩
  rw [hys] at hlen hyl ⊢
  simp only [hys] at HYS
  clear hys
  have HC := Lib.hid hcells
  have HK := Lib.hid hk
  have HP := Lib.hid hP
  have HL := Lib.hid hlen
  clear hcells hk hv hP hlen
  go_enter Try.func67, Try.ntmps67
  go_wp2_with fail
  go_loopw [7, 12] (fun o i wr => ∃ k : Nat, k ≤ ts.length ∧ i = .int .i64 (k : Int) ∧ wr.ownsRow w.heap.size 9 1 o (ys.take k).length ((ys.take k).map Value.string) ∧ Below w.heap.size w wr) (fun _ i _ => ts.length - (intOf i).toNat)
  case atStart => exact ⟨0, Nat.zero_le _, rfl, World.ownsRow_nil _ _ _ _, Below.refl _ _⟩
  case round =>
    obtain ⟨i, hi, rfl, hown, hb⟩ := hrel
    by_cases hlt : i < ts.length
    · obtain ⟨b, off, rfl, hbl, hc⟩ := HC.out (by omega)
      obtain ⟨x, c0, c1, c2, hx, hz⟩ := hc i hlt
      obtain ⟨ax, cx, rfl, _⟩ := hx.at
      have d0 := (hb.cell (p := ⟨b, off + i * 3, none⟩) hbl).trans c0
      have d1 := (hb.cell (p := ⟨b, off + i * 3 + 1, none⟩) hbl).trans c1
      have d2 := (hb.cell (p := ⟨b, off + i * 3 + 2, none⟩) hbl).trans c2
      obtain ⟨wb, hwb⟩ : ∃ wb, wr.alloc (.cells #[.bool ts[i].v, .string ts[i].name, .slice ax ts[i].args.length cx] 34) = wb := ⟨_, rfl⟩
      have hbb : Below wr.heap.size wr wb := by rw [← hwb]; exact (Below.refl _ _).alloc (Nat.le_refl _) _
      have hbw := hb.trans (hbb.mono hb.size)
      have hvi : TmVal wb (.agg #[.bool ts[i].v, .string ts[i].name, .slice ax ts[i].args.length cx]) ts[i] := ⟨_, rfl, hx.up hbw, hz⟩
      have hwi : ts[i].wt ≤ N := Nat.le_trans (wts_mem (List.getElem_mem hlt)) hts
      have HS := HYS i hlt
      have hln2 : (ys.take i).length ≤ ts.length := by rw [List.length_take]; omega
      clear c0 c1 c2 hc
      have f0 : wb.cell? ⟨wr.heap.size, 0, none⟩ = some (.bool ts[i].v) := by rw [← hwb, World.cell?_alloc_at _ _ _ _ rfl]; rfl
      have f1 : wb.cell? ⟨wr.heap.size, 1, none⟩ = some (.string ts[i].name) := by rw [← hwb, World.cell?_alloc_at _ _ _ _ rfl]; rfl
      have f2 : wb.cell? ⟨wr.heap.size, 2, none⟩ = some (.slice ax ts[i].args.length cx) := by rw [← hwb, World.cell?_alloc_at _ _ _ _ rfl]; rfl
      go_wp2_with fail
      refine (HK.out.calls ts[i] _ wb (HK.out.keep _ _ HP.out hbw) hwi hvi).mono ?_
      rintro e w2 ⟨rfl, hb2⟩
      have hown2 := ownsRow_below hown (hbb.trans (hb2.mono hbb.size))
      have hbw2 := hbw.trans (hb2.mono hbw.size)
      obtain ⟨i0, hi0, hz0, hz1, hz2⟩ := info_parts Try.info9
      have HI := Lib.hid hlt
      clear f0 f1 f2 d0 d1 d2 hvi hwb
      go_wp2_with (at_builtin; refine wpList_append_own _ rfl _ _ 53 rfl w.heap.size 9 i0 (.string ⟨#[]⟩) 1 16 Try.underlying53 hi0 hz0 hz1 hz2 rfl (by decide) _ _ _ rfl (hown2.alloc _) ⟨w2.heap.size, 0, none⟩ 1 1 [.string (p ts[i])] rfl rfl (cell_one_at _ _ (by simp) _ _) (by simp [Value.oneCell']) (by unfold maxLen; omega) (by omega) (by have := hbw2.size; simp; omega) ?_; intro v' w3 hown' hgrow _)
      go_roundw
      case rel => exact ⟨i + 1, HI.out, by go_num, by rw [HS.out, List.length_append, List.map_append]; exact hown', (hbw2.alloc hbw2.size _).grown hgrow (by have := hbw2.size; simp; omega) (fun j e => (hown.lt j e).1)⟩
      case measure => simp only [intOf]; have := HI.out; omega
    · have hall : ys.take i = ys := List.take_of_length_le (by omega)
      rw [hall] at hown
      have HS := Lib.hid (StrsAt.of_owns hown)
      have hml : ys.length ≤ 100000000 := by omega
      obtain ⟨a2, cap2, rfl, _⟩ := StrsAt.of_owns hown
      clear hall hown
      go_wp2_with fail
      refine (sJoin_any _ _ _ _ HS.out hml HL.out).mono ?_
      rintro e w2 ⟨rfl, hb2⟩
      go_wp2_with fail
      go_ret
      exact ⟨rfl, hb.trans (hb2.mono hb.size)⟩

end Go.Proofs.Ytollifednpjkeaa
