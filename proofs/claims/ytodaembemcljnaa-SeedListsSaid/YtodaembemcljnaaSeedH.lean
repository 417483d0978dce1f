import Derived.Test.YtodaembemcljnaaSeedG
/-
  Perm.
-/
namespace Go.Proofs.Ytodaembemcljnaa
open Go.RowKit
set_option linter.unusedVariables false

theorem info_int : (Try.prog.info? 3).map (fun i => (i.zero, i.size, i.bytes)) = some (some (.int .i64 0), 1, 8) := by kernel_rfl
theorem cell_one_at (w : World) (n : Nat) (hn : n = w.heap.size) (a : Value) (t : TypeId) : ∀ j u, [a][j]? = some u → (w.alloc (.cells #[a] t)).cell? ((⟨n, 0, none⟩ : Addr).add j) = some u := by
  intro j u hu
  rw [Addr.add_lit, Nat.zero_add, World.cell?_alloc_at _ _ _ _ hn]
  simpa using hu

theorem OwnI.lt {B : Nat} {w : World} {v : Value} {l : List Nat} (h : OwnI B w v l) {g : Nat} (hg : v.ownBlock = some g) : B ≤ g := by
  rcases h.2 with ⟨rfl, _⟩ | ⟨g', cap, cur, rfl, hb, _⟩
  · cases hg
  · simp [Value.ownBlock] at hg; omega
theorem wpList_append_int (w : World) {ops : Array Oper} {rest : List Oper} {o : Oper} {a : Act} {Q : Exit → Act → World → Prop} (hgd : o.guard = none) (s x : Operand)
    (ho : o.op = .call { callee := .builtin .append, args := #[s, x], argTypes := #[25, 25] })
    (B : Nat) (v : Value) (l : List Nat) (hs : a.eval s = v) (hown : Hid (OwnI B w v l)) (p c n : Nat) (hx : a.eval x = .slice (some ⟨p, 0, none⟩) 1 c)
    (hp : ∀ j u, [Value.int .i64 (n : Int)][j]? = some u → w.cell? ((⟨p, 0, none⟩ : Addr).add j) = some u) (hl : l.length ≤ 1000000) (hB : B ≤ w.heap.size)
    (h : ∀ av cv w', Hid (OwnI B w' (.slice av (l.length + 1) cv) (l ++ [n])) → Hid (Off (fun k => B ≤ k) w w') → wpList Try.prog ops Q rest (a.put o.dst (.slice av (l.length + 1) cv)) w') : wpList Try.prog ops Q (o :: rest) a w := by
  obtain ⟨i0, hi0, hz0, hz1, hz2⟩ := info_parts info_int
  refine wpList_append_own w hgd s x 25 ho B 3 i0 (.int .i64 0) 1 8 Try.underlying25 hi0 hz0 hz1 hz2 rfl (by decide) v l.length (ints l) hs hown.out ⟨p, 0, none⟩ 1 c [.int .i64 (n : Int)] hx rfl hp (by simp [Value.oneCell']) (by unfold maxLen; omega) (by omega) hB ?_
  intro v' w' ho' hg _
  have hv : ∃ av cv, v' = .slice av (l.length + 1) cv := by
    rcases ho'.2 with ⟨rfl, h0⟩ | ⟨g, cap, cur, rfl, _⟩
    · omega
    · exact ⟨_, _, rfl⟩
  obtain ⟨av, cv, rfl⟩ := hv
  refine h av cv w' ?_ ⟨hg.os, hg.tape, hg.output, hg.size, fun k hk hs => hg.block k hk fun e => hs (hown.out.lt e.symm)⟩
  show OwnI B w' _ (l ++ [n])
  unfold OwnI
  rw [ints_append]
  have e : ints [n] = [Value.int .i64 (n : Int)] := rfl
  rw [e]
  simpa using ho'

/-- The two boxes and the source of a closure that makes a list. -/
structure Boxes (w : World) (c : Nat) (key : Wd) (s : Src) (b : Nat) (v : Value) : Prop where
  src : SrcAt c key s w
  lt : b < w.heap.size
  cell : w.cell? ⟨b, 0, none⟩ = some v
  free : w.frozen? ⟨b, 0, none⟩ = false
theorem Boxes.off {S : Nat → Prop} {w w' : World} {c : Nat} {key : Wd} {s : Src} {b : Nat} {v : Value} (h : Boxes w c key s b v) (k : Off S w w') (hc : ¬ S c) (hb : ¬ S b) : Boxes w' c key s b v :=
  ⟨h.src.off k hc, Nat.lt_of_lt_of_le h.lt k.size, (k.cell h.lt hb).trans h.cell, (k.frozen h.lt hb).trans h.free⟩
theorem Boxes.put {w : World} {c : Nat} {key : Wd} {s : Src} {b : Nat} {v : Value} (h : Boxes w c key s b v) (hbc : b ≠ c) (u : Value) : Boxes (w.setCell ⟨b, 0, none⟩ u) c key s b u :=
  ⟨h.src.off (Off.setCell (S := fun k => k = b) (p := ⟨b, 0, none⟩) (Off.refl _ _) (Or.inl rfl) u) (fun e => hbc e.symm), by simpa [World.setCell] using h.lt, by simp [go_sem, h.cell], by simp [go_sem, h.free]⟩

theorem Off.grow {S : Nat → Prop} {a b c : World} {n : Nat} (h : Off S a b) (k : Off (fun i => n ≤ i) b c) (hn : a.heap.size ≤ n) : Off S a c :=
  ⟨k.os.trans h.os, k.tape.trans h.tape, k.output.trans h.output, Nat.le_trans h.size k.size, fun i hi hs => (k.block i (Nat.lt_of_lt_of_le hi h.size) (by omega)).trans (h.block i hi hs)⟩
theorem OwnI.drew {B : Nat} {w : World} {v : Value} {l : List Nat} (h : OwnI B w v l) : OwnI B w.drew v l := h.below (Below.refl _ _).drew
theorem OwnI.swap {B : Nat} {w : World} {g cap p q x y : Nat} {l l' : List Nat} (h : OwnI B w (.slice (some ⟨g, 0, none⟩) l.length cap) l) (hp : p < l.length) (hq : q < l.length) (hl : l' = (l.set p y).set q x) :
    OwnI B ((w.setCell ⟨g, p, none⟩ (.int .i64 (y : Int))).setCell ⟨g, q, none⟩ (.int .i64 (x : Int))).drew (.slice (some ⟨g, 0, none⟩) l.length cap) l' := by
  subst hl
  have h1 := h.set p y hp
  have h2 : OwnI B (w.setCell ⟨g, p, none⟩ (.int .i64 (y : Int))) (.slice (some ⟨g, 0, none⟩) (l.set p y).length cap) (l.set p y) := by rw [List.length_set]; exact h1
  have h3 := (h2.set q x (by simpa using hq)).drew
  rw [List.length_set] at h3
  exact h3
def PermMade (c : Nat) (key : Wd) (n i b B : Nat) (w w2 : World) : Prop := ∃ v, Boxes w2 c key (permS key n i).2 b v ∧ OwnI B w2 v (permS key n i).1 ∧ Off (fun k => k = b ∨ k = c) w w2

set_option maxRecDepth 100000 in
theorem perm1_any (c : Nat) (key : Wd) (n : Nat) (hm : n ≤ 1000) (i : Nat) (ha : i ≤ 1099511627776) (a b : Nat) (w : World) (h : Boxes w c key (i, 0) b (.slice none 0 0))
    (hna : w.cell? ⟨a, 0, none⟩ = some (.int .i64 (n : Int))) (hab : a ≠ b) (hac : a ≠ c) (hal : a < w.heap.size) (hbc : b ≠ c) :
    Calls Try.prog 40 #[.func (.func 58) #[.pointer (some ⟨c, 0, none⟩)] #[], .pointer (some ⟨a, 0, none⟩), .pointer (some ⟨b, 0, none⟩)] w fun e w2 =>
      e = .returned (.tuple #[]) ∧ PermMade c key n i b w.heap.size w w2 := by
  have HH := Lib.hid h
  clear h
  go_enter Try.func40, Try.ntmps40
  go_wp2_with fail
  go_loopw [8] (fun x wr => ∃ k v, k ≤ n ∧ x = .int .i64 ((k : Nat) : Int) ∧ Boxes wr c key (i, 0) b v ∧ OwnI w.heap.size wr v (List.range k) ∧ Off (fun k => k = b) w wr) (fun x _ => n - (intOf x).toNat)
  case atStart => exact ⟨0, _, Nat.zero_le _, rfl, HH.out, World.ownsRow_nil _ _ _ _, Off.refl _ _⟩
  case round =>
    obtain ⟨k, v, hk, rfl, hB, hO, hoff⟩ := hrel
    by_cases hlt : k < n
    · have hBc := hB.cell
      have hBf := hB.free
      have hwn : w.heap.size ≤ wr.heap.size := hoff.size
      have hbw : b < w.heap.size := Nat.lt_of_lt_of_le HH.out.lt (Nat.le_refl _)
      have HB := Lib.hid hB
      have HO := Lib.hid hO
      clear hB hO
      have hcw : c < w.heap.size := HH.out.src.lt
      have hO1 := Lib.hid (HO.out.below (Below.alloc (Below.refl _ _) (Nat.le_refl _) (.cells #[.int .i64 (k : Int)] 3)))
      have hof1 := Lib.hid (hoff.alloc (.cells #[.int .i64 (k : Int)] 3))
      have HB1 := Lib.hid (HB.out.off (Off.of_below (S := fun _ => False) (Below.alloc (Below.refl _ _) (Nat.le_refl _) (.cells #[.int .i64 (k : Int)] 3))) (fun h => h) (fun h => h))
      go_wp2_with (at_builtin; refine wpList_append_int _ rfl _ _ rfl w.heap.size _ (List.range k) rfl hO1 wr.heap.size 1 k rfl (cell_one_at _ _ rfl _ _) (by simp; omega) (by simp; omega) ?_; intro av cv w1 hown' hgrow; have HB2 := Lib.hid (HB1.out.off hgrow.out (Nat.not_le.2 hcw) (Nat.not_le.2 hbw)); have hBf1 := HB2.out.free; have hBc1 := HB2.out.cell)
      simp only [List.length_range] at hown' ⊢
      go_roundw
      case rel => exact ⟨k + 1, _, hlt, by go_num, HB2.out.put hbc _, by have := OwnI.other (a := ⟨b, 0, none⟩) hown'.out hbw (.slice av (k + 1) cv); rw [List.range_succ]; exact this, Off.setCell (S := fun k => k = b) (p := ⟨b, 0, none⟩) (hof1.out.grow hgrow.out (Nat.le_refl _)) (Or.inl rfl) _⟩
      case measure => simp [intOf]; omega
    · obtain rfl : n = k := by omega
      have hna2 := (hoff.cell (p := ⟨a, 0, none⟩) hal hab).trans hna
      have HB := Lib.hid hB
      have HO := Lib.hid hO
      have HF := Lib.hid hoff
      have hbw : b < w.heap.size := HH.out.lt
      have hcw : c < w.heap.size := HH.out.src.lt
      clear hB hO hoff hlt hna
      go_wp2_with fail
      go_loopw [5] (fun x wr2 => ∃ (x' : Int) (L : List Nat) (st : Src) (v2 : Value), x = .int .i64 x' ∧ -1 ≤ x' ∧ x' < n ∧ L.length = n ∧ (st.2 = 0 ∨ st.2 = 4) ∧ st.1 ≤ 1099511627776 ∧ Hid (permGo key x'.toNat L st = permS key n i) ∧ Boxes wr2 c key st b v2 ∧ OwnI w.heap.size wr2 v2 L ∧ Off (fun k => k = b ∨ k = c) w wr2) (fun x _ => (intOf x).toNat)
      case atStart => exact ⟨(n : Int) - 1, List.range n, (i, 0), _, rfl, by omega, by omega, by simp, Or.inl rfl, ha, by rw [show ((n : Int) - 1).toNat = n - 1 by omega]; exact Lib.hid rfl, HB.out, HO.out, HF.out.wider (fun k _ h => Or.inl h)⟩
      case round =>
        obtain ⟨x', L, st, v2, rfl, hx1, hx2, hL, hst, hsa, HP, hB2, hO2, hF2⟩ := hrel
        by_cases hpos : 0 < x'
        · obtain ⟨p, rfl⟩ : ∃ p : Nat, x' = ((p + 1 : Nat) : Int) := ⟨x'.toNat - 1, by omega⟩
          have hx3 : p + 1 < n := by omega
          have HB2 := Lib.hid hB2
          have HO2 := Lib.hid hO2
          have HF2 := Lib.hid hF2
          have HL := Lib.hid hL
          clear hB2 hO2 hF2 hL hx2 hx1 hpos hna2
          go_wp2_with fail
          have e : ((p : Int) + 1 + 1) = ((p + 2 : Nat) : Int) := by omega
          rw [e]
          clear e
          refine (below_any c key (p + 2) st _ (by omega) (by omega) hst hsa HB2.out.src).mono ?_
          rintro e w3 ⟨rfl, hs3, hoff3⟩
          have hq := belS_lt (key := key) (n := p + 2) (by omega) st
          have hst' := belS_two (key := key) (n := p + 2) st hst
          have hsa' := (belS_at (key := key) (n := p + 2) st hsa).2
          have hstep : permGo key (p + 1) L st = permGo key p (swp L (p + 1) (belS key (p + 2) st).1) (belS key (p + 2) st).2 := by rw [permGo]
          obtain ⟨q, hqq⟩ : ∃ q, (belS key (p + 2) st).1 = q := ⟨_, rfl⟩
          obtain ⟨st', hstt⟩ : ∃ s, (belS key (p + 2) st).2 = s := ⟨_, rfl⟩
          rw [hqq] at hq hstep ⊢
          rw [hstt] at hs3 hst' hsa' hstep
          have HP' := Lib.hid (hstep.symm.trans HP.out)
          have hb3 : Boxes w3 c key st' b v2 := ⟨hs3, Nat.lt_of_lt_of_le HB2.out.lt hoff3.size, (hoff3.cell (p := ⟨b, 0, none⟩) HB2.out.lt hbc).trans HB2.out.cell, (hoff3.frozen (p := ⟨b, 0, none⟩) HB2.out.lt hbc).trans HB2.out.free⟩
          have ho3 : OwnI w.heap.size w3 v2 L := HO2.out.off hoff3 (fun k h e => by omega)
          have hf3 : Off (fun k => k = b ∨ k = c) w w3 := HF2.out.trans (hoff3.wider (fun k _ h => Or.inr h))
          obtain ⟨g, cap, rfl, hg1, hg2, hg3, hg4, hcells⟩ := ho3.form (by rw [HL.out]; omega)
          have hp1 : p + 1 < L.length := by rw [HL.out]; omega
          have hq1 : q < L.length := by rw [HL.out]; omega
          obtain ⟨cp, fp⟩ := hcells.out (p + 1) hp1
          obtain ⟨cq, fq⟩ := hcells.out q hq1
          have cb := hb3.cell
          rw [HL.out] at cb
          have hqn : (q : Int) < n := by omega
          have hsw : swp L (p + 1) q = (L.set (p + 1) L[q]).set q L[p + 1] := by
            unfold swp; simp only [List.getD_eq_getElem?_getD, List.getElem?_eq_getElem hp1, List.getElem?_eq_getElem hq1, Option.getD_some]
          have HS := Lib.hid hsw
          have HB3 := Lib.hid hb3
          have HO3 := Lib.hid ho3
          have HF3 := Lib.hid hf3
          obtain ⟨x, hx⟩ : ∃ x, L[p + 1] = x := ⟨_, rfl⟩
          obtain ⟨y, hy⟩ : ∃ x, L[q] = x := ⟨_, rfl⟩
          rw [hx] at cp HS
          rw [hy] at cq HS
          clear hqq hstt hstep hb3 ho3 hf3 hs3 hoff3 hsw hx hy HP
          go_wp2_with fail
          have i1 : ((p : Int) + 1).toNat = p + 1 := by omega
          have i2 : (0 : Int) ≤ (p : Int) + 1 := by omega
          have i3 : (p : Int) + 1 < n := by omega
          have i4 : n ≤ cap := by rw [← HL.out]; exact hg3
          by_cases hqp : q = p + 1
          · subst hqp
            have HXY : x = y := by rw [cp] at cq; simp at cq; omega
            subst HXY
            clear cq fq
            go_region
            have FO := HO3.out.swap (x := x) (y := x) hp1 hq1 HS.out
            have FF : Off (fun k => k = g) w3 ((w3.setCell ⟨g, p + 1, none⟩ (.int .i64 (x : Int))).setCell ⟨g, p + 1, none⟩ (.int .i64 (x : Int))).drew := (Off.setCell (S := fun k => k = g) (p := ⟨g, p + 1, none⟩) (Off.setCell (S := fun k => k = g) (p := ⟨g, p + 1, none⟩) (Off.refl _ _) (Or.inl rfl) _) (Or.inl rfl) _).drew
            have FB := HB3.out.off FF (by intro e; omega) (by intro e; omega)
            have FF2 : Off (fun k => k = b ∨ k = c) w ((w3.setCell ⟨g, p + 1, none⟩ (.int .i64 (x : Int))).setCell ⟨g, p + 1, none⟩ (.int .i64 (x : Int))).drew := (Off.setCell (p := ⟨g, p + 1, none⟩) (Off.setCell (p := ⟨g, p + 1, none⟩) HF3.out (Or.inr hg1) _) (Or.inr hg1) _).drew
            have hlen : (swp L (p + 1) (p + 1)).length = n := by rw [swp_length, HL.out]
            have HFO := Lib.hid FO
            have HFB := Lib.hid FB
            have HFF := Lib.hid FF2
            have HLN := Lib.hid hlen
            clear FO FF FB FF2 hlen cp fp cb i1
            obtain ⟨wz, hwz⟩ : ∃ wz, ((w3.setCell ⟨g, p + 1, none⟩ (.int .i64 (x : Int))).setCell ⟨g, p + 1, none⟩ (.int .i64 (x : Int))).drew = wz := ⟨_, rfl⟩
            rw [hwz] at HFO HFB HFF ⊢
            clear hwz
            go_wp2_with fail
            go_roundw
            case rel => exact ⟨(p : Int), _, st', _, rfl, by omega, by omega, HLN.out, hst', hsa', by rw [show ((p : Nat) : Int).toNat = p by omega]; exact HP', HFB.out, HFO.out, HFF.out⟩
            case measure => simp [intOf]
          · have hqp2 : p + 1 ≠ q := fun e => hqp e.symm
            go_region
            clear cq fq
            have FO := HO3.out.swap (x := x) (y := y) hp1 hq1 HS.out
            have FF : Off (fun k => k = g) w3 ((w3.setCell ⟨g, p + 1, none⟩ (.int .i64 (y : Int))).setCell ⟨g, q, none⟩ (.int .i64 (x : Int))).drew := (Off.setCell (S := fun k => k = g) (p := ⟨g, q, none⟩) (Off.setCell (S := fun k => k = g) (p := ⟨g, p + 1, none⟩) (Off.refl _ _) (Or.inl rfl) _) (Or.inl rfl) _).drew
            have FB := HB3.out.off FF (by intro e; omega) (by intro e; omega)
            have FF2 : Off (fun k => k = b ∨ k = c) w ((w3.setCell ⟨g, p + 1, none⟩ (.int .i64 (y : Int))).setCell ⟨g, q, none⟩ (.int .i64 (x : Int))).drew := (Off.setCell (p := ⟨g, q, none⟩) (Off.setCell (p := ⟨g, p + 1, none⟩) HF3.out (Or.inr hg1) _) (Or.inr hg1) _).drew
            have hlen : (swp L (p + 1) q).length = n := by rw [swp_length, HL.out]
            have HFO := Lib.hid FO
            have HFB := Lib.hid FB
            have HFF := Lib.hid FF2
            have HLN := Lib.hid hlen
            clear FO FF FB FF2 hlen cp fp cb i1
            obtain ⟨wz, hwz⟩ : ∃ wz, ((w3.setCell ⟨g, p + 1, none⟩ (.int .i64 (y : Int))).setCell ⟨g, q, none⟩ (.int .i64 (x : Int))).drew = wz := ⟨_, rfl⟩
            rw [hwz] at HFO HFB HFF ⊢
            clear hwz
            go_wp2_with fail
            go_roundw
            case rel => exact ⟨(p : Int), _, st', _, rfl, by omega, by omega, HLN.out, hst', hsa', by rw [show ((p : Nat) : Int).toNat = p by omega]; exact HP', HFB.out, HFO.out, HFF.out⟩
            case measure => simp [intOf]
        · go_wp2_with fail
          refine bodyPost_end (results_none rfl _ _ _) rfl ?_
          have e0 : x'.toNat = 0 := by omega
          rw [e0] at HP
          have := HP.out
          rw [permGo] at this
          refine ⟨rfl, v2, ?_, ?_, hF2⟩
          · rw [← this]; exact hB2
          · rw [← this]; exact hO2

end Go.Proofs.Ytodaembemcljnaa
