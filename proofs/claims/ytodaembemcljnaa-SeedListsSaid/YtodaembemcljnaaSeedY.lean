import Derived.Test.YtodaembemcljnaaSeedX
/-
  The reference's Choose.
-/
namespace Go.Proofs.Ytodaembemcljnaa
open Go.RowKit
set_option linter.unusedVariables false

def tab (l : List Nat) (j : Nat) : Nat := if l.contains j then 1 else 0
theorem tab_add (l : List Nat) (c j : Nat) : tab (l ++ [c]) j = if c = j then 1 else tab l j := by
  unfold tab
  by_cases h : c = j
  · subst h; simp
  · have h2 : ¬ j = c := fun e => h e.symm
    rw [if_neg h]
    have : (l ++ [c]).contains j = l.contains j := by
      rw [Bool.eq_iff_iff]; simp [h2]
    rw [this]
theorem tab_set {l T : List Nat} {n c : Nat} (hT : ∀ j, j < n → T[j]? = some (tab l j)) (hl : T.length = n) (hc : c < n) : ∀ j, j < n → (T.set c 1)[j]? = some (tab (l ++ [c]) j) := by
  intro j hj
  rw [tab_add, List.getElem?_set]
  split
  · rw [if_pos (by omega)]
  · exact hT j hj
theorem filt_snoc (l : List Nat) (x : Nat) : (List.range (x + 1)).filter (fun j => l.contains j) = (List.range x).filter (fun j => l.contains j) ++ (if l.contains x then [x] else []) := by
  rw [List.range_succ, List.filter_append]
  by_cases h : l.contains x
  · simp only [List.filter_cons, h, if_true, List.filter_nil]
  · simp only [List.filter_cons, h, List.filter_nil, if_false, Bool.false_eq_true]
theorem filt_len (l : List Nat) (x : Nat) : ((List.range x).filter (fun j => l.contains j)).length ≤ x := by
  have := List.length_filter_le (fun j => l.contains j) (List.range x)
  simpa using this

set_option maxRecDepth 100000 in
theorem rchoose_any (key : Wd) (i n k : Nat) (hi : i ≤ 1099511627776) (hn : n ≤ 1000) (hk : k ≤ n) (w : World) :
    Calls Try.prog 33 #[.int .u64 (key.toNat : Int), .int .i64 (i : Int), .int .i64 (n : Int), .int .i64 (k : Int)] w (ListMade w.heap.size (sortL (chooseS key n k i).1, (chooseS key n k i).2) w) := by
  obtain ⟨r, hr⟩ : ∃ r, chooseS key n k i = r := ⟨_, rfl⟩
  have HR := Lib.hid hr
  rw [hr]
  clear hr
  have d1 : decide ((i : Int) < 0) = false := by simp
  have d2 : decide ((1099511627776 : Int) < (i : Int)) = false := by simp; omega
  have d3 : decide ((n : Int) < 0) = false := by simp
  have d4 : decide ((1000 : Int) < (n : Int)) = false := by simp; omega
  have d5 : decide ((k : Int) < 0) = false := by simp
  have d6 : decide (n < k) = false := by simp; omega
  obtain ⟨w0, hmk, ho, hb0⟩ := run_make_ints n (by omega) w
  have HO := Lib.hid ho
  have HB0 := Lib.hid hb0
  clear ho hb0
  obtain ⟨G, hG⟩ : ∃ G, w.heap.size = G := ⟨_, rfl⟩
  have HI := Lib.hid hi
  clear hi
  go_enter Try.func33, Try.ntmps33
  go_wp2_with fail
  clear hmk d1 d2 d3 d4 d5 d6
  rw [hG] at HO HB0 ⊢
  have HGG := Lib.hid hG
  clear hG
  go_loopw [1, 12] (fun a x wr => ∃ (m : Nat) (l T : List Nat) (at' : Nat), x = .int .i64 (m : Int) ∧ a = .int .i64 (at' : Int) ∧ m ≤ n ∧ at' ≤ 1099511627776 ∧ Hid (l.Nodup ∧ ∀ y ∈ l, y < m) ∧ T.length = n ∧ Hid (∀ j, j < n → T[j]? = some (tab l j)) ∧ Hid (chooseGo key (n - m) m l (at', 0) = r) ∧ OwnI G wr (.slice (some ⟨G, 0, none⟩) T.length n) T ∧ Below G w wr) (fun _ x _ => n - (intOf x).toNat)
  case atStart => exact ⟨n - k, [], List.replicate n 0, i, by go_num, rfl, by omega, HI.out, ⟨List.nodup_nil, by simp⟩, by simp, fun j hj => by rw [List.getElem?_replicate, if_pos hj]; rfl, by rw [show n - (n - k) = k by omega]; exact HR, by have := HO.out; simpa using this, HB0.out⟩
  case round =>
    obtain ⟨m, l, T, at', rfl, rfl, hm, hat, HND, hT, HTT, HP, hO, hB⟩ := hrel
    have HO2 := Lib.hid hO
    have HB2 := Lib.hid hB
    have HTL := Lib.hid hT
    by_cases hlt : m < n
    · have HRB := Lib.hid (fun w => rbelow_any key at' (m + 1) hat (by omega) (by omega) w)
      have hstep : chooseGo key (n - m) m l (at', 0) = chooseGo key (n - (m + 1)) (m + 1) (l ++ [if l.contains (belS key (m + 1) (at', 0)).1 then m else (belS key (m + 1) (at', 0)).1]) (belS key (m + 1) (at', 0)).2 := by
        rw [show n - m = (n - (m + 1)) + 1 by omega, chooseGo]
      have hstep2 := hstep.symm.trans HP.out
      obtain ⟨BB, hBB⟩ : ∃ BB, bel key (m + 1) (1099511627776 - at') at' = BB := ⟨_, rfl⟩
      rw [hBB] at HRB
      rcases BB with _ | ⟨q, j⟩
      · rw [belS_none hBB] at hstep2
        have hre : r.2 = (1099511627776, 4) := by rw [← hstep2]; exact chooseGo_err key _ _ _ _ (by decide)
        have HRE := Lib.hid hre
        unfold belV at HRB
        clear hO hB hT hat hstep hstep2 hBB hre
        go_wp2_with fail
        have e : ((m : Int) + 1) = ((m + 1 : Nat) : Int) := by omega
        rw [e]
        clear e
        refine (HRB.out _).mono ?_
        rintro e w3 ⟨rfl, rfl⟩
        go_wp2_with fail
        go_ret3
        refine ⟨⟨.slice none 0 0, ?_, fun h => by rw [show (sortL r.1, r.2).2 = r.2 from rfl, HRE.out] at h; cases h⟩, Or.inr (by rw [show (sortL r.1, r.2).2 = r.2 from rfl, HRE.out]), by rw [HGG.out]; exact HB2.out⟩
        rw [show (sortL r.1, r.2).2 = r.2 from rfl, HRE.out]; rfl
      · have hbs := bel_some hBB
        have hq := bel_lt (by omega) hBB
        rw [belS_some hBB] at hstep2
        have hj : j ≤ 1099511627776 := by have := hbs.2.1; omega
        have HJ := Lib.hid hj
        have HS2 := Lib.hid hstep2
        unfold belV at HRB
        obtain ⟨g, cap, hv, hg1, hg2, hg3, hg4, hcells⟩ := hO.form (by omega)
        have hgG : g = G := by cases hv; rfl
        subst hgG
        have hqn : q < n := by omega
        have hT2 : ∀ j (hj : j < n), wr.cell? ⟨g, j, none⟩ = some (.int .i64 (tab l j : Int)) ∧ wr.frozen? ⟨g, j, none⟩ = false := fun j hj => by
          have h1 := hcells.out j (by omega)
          have h2 := HTT.out j hj
          rw [List.getElem?_eq_getElem (by omega)] at h2
          have h3 : T[j] = tab l j := by simpa using h2
          rw [← h3]; exact h1
        obtain ⟨cq, fq⟩ := hT2 q hqn
        obtain ⟨cm, fm⟩ := hT2 m hlt
        have hqi : (q : Int) < n := by omega
        obtain ⟨tm, htm⟩ : ∃ t, tab l m = t := ⟨_, rfl⟩
        rw [htm] at cm
        have e : ((m : Int) + 1) = ((m + 1 : Nat) : Int) := by omega
        have HEE := Lib.hid e
        have HLT := Lib.hid hlt
        have HHAT := Lib.hid hat
        cases hcon : l.contains q
        · have htq : tab l q = 0 := by unfold tab; rw [hcon]; rfl
          rw [htq] at cq
          rw [hcon, if_neg (by decide)] at HS2
          have hnd : (l ++ [q]).Nodup ∧ ∀ y ∈ l ++ [q], y < m + 1 := by
            refine ⟨?_, ?_⟩
            · rw [List.nodup_append]
              refine ⟨HND.out.1, by simp, ?_⟩
              intro a ha b hb ee; simp at hb
              have : l.contains q = true := by rw [← hb, ← ee]; simpa using ha
              rw [hcon] at this; cases this
            · intro y hy
              rw [List.mem_append] at hy
              rcases hy with hy | hy
              · have := HND.out.2 y hy; omega
              · simp at hy; omega
          have HN2 := Lib.hid hnd
          clear hv hcells hbs hO hB hT hat hstep hstep2 hBB hj htm htq hcon hnd hT2 e
          go_wp2_with fail
          rw [HEE.out]
          refine (HRB.out _).mono ?_
          rintro e w3 ⟨rfl, rfl⟩
          go_wp2_with fail
          go_roundw
          case rel =>
            have h1 := HO2.out.set q 1 (by rw [HTL.out]; omega)
            exact ⟨m + 1, l ++ [q], T.set q 1, j, by go_num, rfl, HLT.out, HJ.out, HN2, by rw [List.length_set]; exact HTL.out, tab_set HTT.out HTL.out (by omega), HS2, by rw [List.length_set]; exact h1, HB2.out.setCell (by simp) _⟩
          case measure => simp [intOf]; have := HLT.out; omega
        · have htq : tab l q = 1 := by unfold tab; rw [hcon]; rfl
          rw [htq] at cq
          rw [hcon, if_pos rfl] at HS2
          have hnd : (l ++ [m]).Nodup ∧ ∀ y ∈ l ++ [m], y < m + 1 := by
            refine ⟨?_, ?_⟩
            · rw [List.nodup_append]
              refine ⟨HND.out.1, by simp, ?_⟩
              intro a ha b hb ee; simp at hb
              have := HND.out.2 m (by rw [← hb, ← ee]; exact ha); omega
            · intro y hy
              rw [List.mem_append] at hy
              rcases hy with hy | hy
              · have := HND.out.2 y hy; omega
              · simp at hy; omega
          have HN2 := Lib.hid hnd
          clear hv hcells hbs hO hB hT hat hstep hstep2 hBB hj htm htq hcon hnd hT2 e
          go_wp2_with fail
          rw [HEE.out]
          refine (HRB.out _).mono ?_
          rintro e w3 ⟨rfl, rfl⟩
          go_wp2_with fail
          go_roundw
          case rel =>
            have h1 := HO2.out.set m 1 (by rw [HTL.out]; omega)
            exact ⟨m + 1, l ++ [m], T.set m 1, j, by go_num, rfl, HLT.out, HJ.out, HN2, by rw [List.length_set]; exact HTL.out, tab_set HTT.out HTL.out (by omega), HS2, by rw [List.length_set]; exact h1, HB2.out.setCell (by simp) _⟩
          case measure => simp [intOf]; have := HLT.out; omega
    · obtain rfl : n = m := by omega
      have hcg := HP.out
      rw [Nat.sub_self, chooseGo] at hcg
      subst hcg
      have HNN := Lib.hid (fun j => (HTT.out j))
      clear HP hO hB hT hm hlt HNN
      obtain ⟨w2, rfl⟩ : ∃ w2, w2 = wr := ⟨wr, rfl⟩
      go_wp2_with fail
      go_loopw [16, 17] (fun v x wr => ∃ y : Nat, y ≤ n ∧ x = .int .i64 (y : Int) ∧ OwnI w2.heap.size wr v ((List.range y).filter (fun j => l.contains j)) ∧ Below w2.heap.size w2 wr) (fun _ x _ => n - (intOf x).toNat)
      case atStart => exact ⟨0, Nat.zero_le _, rfl, World.ownsRow_nil _ _ _ _, Below.refl _ _⟩
      case round =>
        obtain ⟨y, hy, rfl, hO3, hB3⟩ := hrel
        by_cases hyn : y < n
        · obtain ⟨g, cap, hv, hg1, hg2, hg3, hg4, hcells⟩ := HO2.out.form (by rw [HTL.out]; omega)
          have hgG : g = G := by cases hv; rfl
          subst hgG
          have cy : wr.cell? ⟨g, y, none⟩ = some (.int .i64 (tab l y : Int)) := by
            have h1 := (hcells.out y (by rw [HTL.out]; exact hyn)).1
            have h2 := HTT.out y hyn
            rw [List.getElem?_eq_getElem (by rw [HTL.out]; exact hyn)] at h2
            have h3 : T[y]'(by rw [HTL.out]; exact hyn) = tab l y := by simpa using h2
            rw [← h3]
            exact (hB3.cell (p := ⟨g, y, none⟩) hg2).trans h1
          have HF := Lib.hid (filt_snoc l y)
          have hfl := filt_len l y
          obtain ⟨F, hF⟩ : ∃ F, (List.range y).filter (fun j => l.contains j) = F := ⟨_, rfl⟩
          rw [hF] at HF hfl hO3
          have HO3 := Lib.hid hO3
          have HB3 := Lib.hid hB3
          have HYN := Lib.hid hyn
          have hws := hB3.size
          cases hcon : l.contains y
          · have ht : tab l y = 0 := by unfold tab; rw [hcon]; rfl
            rw [ht] at cy
            rw [hcon, if_neg (by decide), List.append_nil] at HF
            clear hv hcells hO3 hB3 hF ht hcon
            go_wp2_with fail
            go_roundw
            case rel => exact ⟨y + 1, HYN.out, by go_num, by rw [HF.out]; exact HO3.out, HB3.out⟩
            case measure => simp [intOf]; have := HYN.out; omega
          · have ht : tab l y = 1 := by unfold tab; rw [hcon]; rfl
            rw [ht] at cy
            rw [hcon, if_pos rfl] at HF
            have hO1 := Lib.hid (hO3.below (Below.alloc (Below.refl _ _) (Nat.le_refl _) (.cells #[.int .i64 (y : Int)] 3)))
            have hB1 := Lib.hid (hB3.alloc hws (.cells #[.int .i64 (y : Int)] 3))
            clear hv hcells hO3 hB3 hF ht hcon
            go_wp2_with (at_builtin; refine wpList_append_int _ rfl _ _ rfl w2.heap.size _ F rfl hO1 wr.heap.size 1 y rfl (cell_one_at _ _ rfl _ _) (by omega) (by simp; omega) ?_; intro av cv w1 hown' hgrow)
            go_roundw
            case rel => exact ⟨y + 1, HYN.out, by go_num, by rw [HF.out]; have := hown'.out; unfold OwnI at this ⊢; simpa using this, hB1.out.trans (hgrow.out.below (by simp; omega) (fun k hk => hk))⟩
            case measure => simp [intOf]; have := HYN.out; omega
        · obtain rfl : n = y := by omega
          have hsl := sortL_filter HND.out.1 HND.out.2
          go_wp2_with fail
          go_ret3
          refine ⟨⟨_, rfl, fun _ => ?_⟩, Or.inl rfl, by rw [HGG.out]; exact HB2.out.trans (hB3.mono (by have := HB2.out.size; rw [HGG.out] at this; exact this))⟩
          show OwnI w.heap.size wr _ (sortL l)
          rw [hsl]
          exact hO3.mono HB2.out.size
end Go.Proofs.Ytodaembemcljnaa
