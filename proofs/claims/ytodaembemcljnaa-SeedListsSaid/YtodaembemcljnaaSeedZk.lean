import Derived.Test.YtodaembemcljnaaSeedZj
import Derived.Test.YtodaembemcljnaaSeedZh
/-
  SeedLists.
-/
namespace Go.Proofs.Ytodaembemcljnaa
open Go.RowKit
set_option linter.unusedVariables false

theorem sliceU_of (a4 : Option Addr) (len cap : Nat) (zs : List Int) (w : World)
    (h : (a4 = none ∧ len = 0 ∧ cap = 0 ∧ zs = []) ∨ ∃ x, a4 = some x ∧ len ≤ cap ∧ cap ≤ maxLen ∧ zs.length = cap ∧ (∀ i, i < zs.length → w.cell? (x.add i) = some (.int .u8 (zs.getD i 0))) ∧ ∀ n ∈ zs, (Lit.int .u8 n).wf = true) :
    ∃ ws, SliceU w (.slice a4 len cap) ws := by
  rcases h with ⟨rfl, rfl, rfl, rfl⟩ | ⟨x, rfl, hl, hm, hz, hcell, hwz⟩
  · exact ⟨[], ⟨none, 0, rfl, Nat.le_refl _, Nat.zero_le _, fun h => by simp at h⟩, fun x hx => by cases hx⟩
  · have hle : ∀ n ∈ zs, 0 ≤ n ∧ n ≤ 255 := fun n hn => u8_of n (hwz n hn)
    refine ⟨(zs.take len).map Int.toNat, ⟨some x, cap, ?_, ?_, hm, ?_⟩, ?_⟩
    · simp; omega
    · simp; omega
    · intro h0
      have hlen : ((zs.take len).map Int.toNat).length = len := by simp; omega
      rw [hlen] at h0
      have hx0 := hcell 0 (by omega)
      have hsp : x.spot = none := World.cell?_spot (w := w) (a := x) hx0
      have hxe : x = ⟨x.block, x.off, none⟩ := by cases x; cases hsp; rfl
      refine ⟨x.block, x.off, by rw [← hxe], World.block_lt_of_cell? w x hx0, fun j hj => ?_⟩
      have hj2 : j < zs.length := by rw [hlen] at hj; omega
      have h1 := hcell j hj2
      have e : x.add j = ⟨x.block, x.off + j, none⟩ := by
        rw [hxe]
        cases j with
        | zero => rfl
        | succ j => simp [Addr.add]
      rw [e] at h1
      have h2 := hle zs[j] (List.getElem_mem hj2)
      rw [h1, List.getD_eq_getElem?_getD, List.getElem?_eq_getElem hj2]
      simp only [Option.getD_some, List.getElem_map, List.getElem_take]
      congr 2
      omega
    · intro y hy
      obtain ⟨n, hn, rfl⟩ := List.mem_map.1 hy
      have := hle n (List.mem_of_mem_take hn)
      omega
theorem seedLists_yes (k a z m : Int) (hk : (Lit.int .u64 k).wf = true) (ha : (Lit.int .i64 a).wf = true) (hz : (Lit.int .u8 z).wf = true) (hm : (Lit.int .u8 m).wf = true)
    (a4 : Option Addr) (len cap : Nat) (zs : List Int) (w : World)
    (h : (a4 = none ∧ len = 0 ∧ cap = 0 ∧ zs = []) ∨ ∃ x, a4 = some x ∧ len ≤ cap ∧ cap ≤ maxLen ∧ zs.length = cap ∧ (∀ i, i < zs.length → w.cell? (x.add i) = some (.int .u8 (zs.getD i 0))) ∧ ∀ n ∈ zs, (Lit.int .u8 n).wf = true) :
    Calls Try.prog 7 #[.int .u64 k, .int .i64 a, .int .u8 z, .int .u8 m, .slice a4 len cap] w fun e w' => e = .returned (.bool true) ∧ Below w.heap.size w w' := by
  obtain ⟨x, rfl⟩ := wd_of k hk
  obtain ⟨ws, hws⟩ := sliceU_of a4 len cap zs w h
  exact seedLists_walk x a z m ws _ (i64_of a ha) (u8_of z hz) (u8_of m hm) w hws
end Go.Proofs.Ytodaembemcljnaa
