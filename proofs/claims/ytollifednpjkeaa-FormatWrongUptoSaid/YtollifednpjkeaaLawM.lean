import Derived.Test.YtollifednpjkeaaLawB
/-
  A store into a new box: what lies elsewhere stays.
-/
namespace Go.Proofs.Ytollifednpjkeaa
open Go.RowKit

/-- The row of no slice of right formulas, or of terms, lies in a block that holds the zero formula alone. -/
theorem tms_off {W : World} {v : Value} {ts : List Tm} (h : TmsAt W v ts) {b : Nat} (hb : W.heap[b]? = some (.cells #[.int .u8 0, .string ⟨#[]⟩, .slice none 0 0, .slice none 0 0] 25 (0, 0))) {W' : World} (hk : ∀ p u, p.block ≠ b → W.cell? p = some u → W'.cell? p = some u) (hs : W.heap.size ≤ W'.heap.size) : TmsAt W' v ts := by
  induction h with
  | nil a cap hcap => exact .nil a cap hcap
  | row c off cap ts vs h0 h1 hcap hlt hc _ ih =>
    have hne : c ≠ b := by
      rintro rfl
      have c0 := (hc 0 h0).1
      rw [cell_of_row _ _ _ _ _ _ hb] at c0
      have : ∀ (j : Nat) (x : Bool), (#[.int .u8 0, .string ⟨#[]⟩, .slice none 0 0, .slice none 0 0] : Array Value)[j]? ≠ some (.bool x) := by
        intro j x
        match j with
        | 0 => simp
        | 1 => simp
        | 2 => simp
        | 3 => simp
        | k + 4 => simp
      exact this _ _ c0
    exact .row c off cap ts vs h0 h1 hcap (Nat.lt_of_lt_of_le hlt hs) (fun i h => ⟨hk _ _ hne (hc i h).1, hk _ _ hne (hc i h).2.1, hk _ _ hne (hc i h).2.2.1, (hc i h).2.2.2⟩) ih
theorem fms_off {W : World} {v : Value} {fs : List Fm} (h : FmsAt W v fs) {b : Nat} (hb : W.heap[b]? = some (.cells #[.int .u8 0, .string ⟨#[]⟩, .slice none 0 0, .slice none 0 0] 25 (0, 0))) {W' : World} (hk : ∀ p u, p.block ≠ b → W.cell? p = some u → W'.cell? p = some u) (hs : W.heap.size ≤ W'.heap.size) :
    (∀ f ∈ fs, f.sh true = true) → FmsAt W' v fs := by
  induction h with
  | nil a cap hcap => exact fun _ => .nil a cap hcap
  | row c off cap fs vs us h0 h1 hcap hlt hc ha _ ih =>
    intro hsh
    have hne : c ≠ b := by
      rintro rfl
      obtain ⟨c0, c1, c2, c3, _⟩ := hc 0 h0
      rw [cell_of_row _ _ _ _ _ _ hb] at c0 c1
      have ho := (sh_parts (hsh fs[0] (List.getElem_mem h0))).op1
      have : ∀ (j : Nat), (#[.int .u8 0, .string ⟨#[]⟩, .slice none 0 0, .slice none 0 0] : Array Value)[j]? = some (.int .u8 fs[0].op) → fs[0].op = 0 := by
        intro j hj
        match j, hj with
        | 0, hj => simp at hj; exact hj.symm
        | 1, hj => simp at hj
        | 2, hj => simp at hj
        | 3, hj => simp at hj
        | k + 4, hj => simp at hj
      have := this _ c0
      omega
    exact .row c off cap fs vs us h0 h1 hcap (Nat.lt_of_lt_of_le hlt hs) (fun i h => ⟨hk _ _ hne (hc i h).1, hk _ _ hne (hc i h).2.1, hk _ _ hne (hc i h).2.2.1, hk _ _ hne (hc i h).2.2.2.1, (hc i h).2.2.2.2⟩) (fun i h => tms_off (ha i h) hb hk hs)
      (fun i h => ih i h (fun g hg => (sh_parts (hsh _ (List.getElem_mem h))).sub g hg))

section
variable {Q : Exit → Act → World → Prop} {o : Oper} {a : Act} {w : World}
theorem st_storeF {s c : Tmp} {b : Nat} {v : Value} {f : Fm} (ho : o.op = .store 25 (.tmp s) (.tmp c)) (hs : a.tmps[s]? = some (.pointer (some ⟨b, 0, none⟩)))
    (hb : w.heap[b]? = some (.cells #[.int .u8 0, .string ⟨#[]⟩, .slice none 0 0, .slice none 0 0] 25 (0, 0))) (hc : a.tmps[c]? = some v) (hv : FmVal w v f) (hsub : ∀ g ∈ f.sub, g.sh true = true)
    {K : Act → World → Prop} (hK : ∀ w', Below b w w' → FmBox b f w' → (∀ x h, FmVal w x h → (∀ g ∈ h.sub, g.sh true = true) → FmVal w' x h) → K (a.put o.dst undef) w') : o.wp Try.prog a w K Q := by
  have hlt := lt_of_block hb
  have he := eval_tmp hs
  have hce := eval_tmp hc
  obtain ⟨x, y, rfl, hx, hy, hz⟩ := hv
  obtain ⟨ax, cx, rfl, -⟩ := hx.at
  obtain ⟨ay, cy, rfl, -⟩ := hy.at
  obtain ⟨cells, hcells⟩ : ∃ cells : Array Value, #[.int .u8 f.op, .string f.name, .slice ax f.args.length cx, .slice ay f.sub.length cy] = cells := ⟨_, rfl⟩
  have hsz : cells.size = 4 := by rw [← hcells]; rfl
  have hthere : w.there b 0 cells.size := by
    rw [hsz]; intro j hj
    constructor
    · rw [cell_of_row _ _ _ _ _ _ hb]
      match j, hj with
      | 0, _ => rfl
      | 1, _ => rfl
      | 2, _ => rfl
      | 3, _ => rfl
    · simp [World.frozen?, hb]
  refine wp_store_mid 25 (.tmp s) (.tmp c) ho b 0 cells he (by rw [hce, hcells]) hthere (by rw [hsz]; kernel_rfl) (by rw [← hcells]; simp [Value.oneCell']) ?_
  obtain ⟨W, hW⟩ : ∃ W, w.setCells b 0 cells.toList = W := ⟨_, rfl⟩
  have hbw : Below b w W := by rw [← hW]; exact Below.setCells' b (Nat.le_refl _) _ _ _ (Below.refl _ _)
  have hws : w.heap.size ≤ W.heap.size := hbw.size
  have hk : ∀ p u, p.block ≠ b → w.cell? p = some u → W.cell? p = some u := fun p u hp hu => by
    rw [← hW, World.cell?_setCells_out b _ _ _ _ (fun h => absurd h hp)]; exact hu
  have hr := World.rangeAt_setCells_same w b 0 cells.toList (by rw [show cells.toList.length = cells.size from rfl]; exact hthere)
  rw [hW] at hr ⊢
  have val : ∀ x h, FmVal w x h → (∀ g ∈ h.sub, g.sh true = true) → FmVal W x h := fun x h hv hs => by
    obtain ⟨p, q, rfl, hp, hq, hz⟩ := hv
    exact ⟨p, q, rfl, tms_off hp hb hk hws, fms_off hq hb hk hws hs, hz⟩
  refine hK W hbw ⟨Nat.lt_of_lt_of_le hlt hws, ax, cx, ay, cy, ?_, ?_, ?_, ?_, val _ _ ⟨_, _, rfl, hx, hy, hz⟩ hsub⟩ val
  · have := hr 0 (.int .u8 f.op) (by rw [← hcells]; rfl); simpa using this
  · have := hr 1 (.string f.name) (by rw [← hcells]; rfl); simpa using this
  · have := hr 2 (.slice ax f.args.length cx) (by rw [← hcells]; rfl); simpa using this
  · have := hr 3 (.slice ay f.sub.length cy) (by rw [← hcells]; rfl); simpa using this
end

end Go.Proofs.Ytollifednpjkeaa
