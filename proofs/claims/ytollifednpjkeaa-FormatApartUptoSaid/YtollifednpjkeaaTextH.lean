import Derived.Test.YtollifednpjkeaaTextG
import Derived.Test.YtollifednpjkeaaIter3
import Derived.Stop.RegionWithIn
import Derived.Sort.CutIn
/-
  The words of prefix texts: the iterator.
-/
namespace Go.Proofs.Ytollifednpjkeaa
open Go.RowKit
attribute [local go_sem] Oper.semAt_some

def trimW (s : ByteArray) : ByteArray := ⟨(Lib.trimSuffix s.data.toList [32]).toArray⟩
def headW (o : Int) (n : ByteArray) (a : List Tm) (none : Bool) : ByteArray := trimW (bif none then simpleTx ⟨#[44]⟩ o n a else sgT o.toNat ++ n)
mutual
/-- The words of a prefix text. -/
def Fm.pw : Fm → List ByteArray
  | .mk o n a s => headW o n a s.isEmpty :: pws s
def pws : List Fm → List ByteArray
  | [] => []
  | f :: r => f.pw ++ pws r
end
theorem Fm.pw_eq (f : Fm) : f.pw = headW f.op f.name f.args f.sub.isEmpty :: pws f.sub := by cases f; simp only [Fm.pw, Fm.op, Fm.name, Fm.args, Fm.sub]
theorem pws_append (l m : List Fm) : pws (l ++ m) = pws l ++ pws m := by
  induction l with
  | nil => rfl
  | cons f r ih => simp only [List.cons_append, pws, ih, List.append_assoc]
theorem pws_snoc (l : List Fm) (k : Nat) (h : k < l.length) : pws (l.take (k + 1)) = pws (l.take k) ++ l[k].pw := by
  rw [List.take_succ_eq_append_getElem h, pws_append]; simp [pws]
theorem pws_take (l : List Fm) (k : Nat) : pws (l.take k) <+: pws l := ⟨pws (l.drop k), by rw [← pws_append, List.take_append_drop]⟩
theorem trim_any (s : ByteArray) (w : World) (hs : s.size ≤ 9223372036854775807) :
    Calls Try.prog 58 #[.string s, .string ⟨#[32]⟩] w fun e w' => e = .returned (.string (trimW s)) ∧ w' = w := Try.strings_TrimSuffix s ⟨#[32]⟩ w hs

theorem words_mk (a b c d : Value) (w : World) : Calls Try.prog 30 #[.agg #[a, b, c, d]] w fun e w' => e = .returned (.func (.func 57) #[] #[.pointer (some ⟨w.heap.size, 0, none⟩)]) ∧ w' = w.alloc (.cells #[a, b, c, d] 25) := by
  go_enter Try.func30, Try.ntmps30
  go_wp2_with fail
  go_ret
  exact ⟨rfl, rfl⟩

/-- The word of a formula itself, before it is cut: what the first lines of the iterator reckon. -/
def WordAt (B : World) (s : ByteArray) (v : Value) (W : World) : Prop := v = .string s ∧ Below B.heap.size B W

/-- The state of the loop of words$1 between two rounds. -/
structure WordsMid (Lo : Nat → Prop) (W1 : World) (n₂ : Nat) (J : List ByteArray → (Nat → Prop) → World → Prop) (hd : ByteArray) (fs : List Fm) (k : Nat) (es : List ByteArray) (K : Nat → Prop) (Ds : List Nat) (w : World) : Prop where
  le : k ≤ fs.length
  map : Hid (es = hd :: pws (fs.take k))
  j : Hid (J es K w)
  lo : Hid (∀ k, (Lo k ∨ k = n₂) → K k)
  lt : Hid (∀ k, K k → k < w.heap.size)
  keep : KeepC (fun k => ¬ (Lo k ∨ k = n₂)) W1 w
  nodup : Hid Ds.Nodup
  marks : Hid (∀ D ∈ Ds, K D ∧ n₂ ≤ D ∧ D < w.heap.size ∧ w.heap[D]? = some (.deferred (some [])))

theorem KeepC.of_ownS {K : Nat → Prop} {A B : World} (h : KeepOwn K A B) : KeepC (fun k => ¬ K k) A B :=
  ⟨h.size, fun p v hn hp => by
    have hs : K p.block := Classical.not_not.1 hn
    have hb := h.same p.block hs (World.block_lt_of_cell? A p hp)
    unfold World.cell? at *
    rw [hb]; exact hp⟩
/-- Behind the first yield. -/
def HeadDone (K : Nat → Prop) (W1 : World) (J Jx : List ByteArray → (Nat → Prop) → World → Prop) (h : ByteArray) (v : Value) (W : World) : Prop :=
  ∃ r : Bool, v = .bool (!r) ∧ Hid ((r = true ∧ J [h] K W) ∨ (r = false ∧ Jx [h] K W)) ∧ KeepC (fun k => ¬ K k) W1 W
theorem sgT_name_le (k : Nat) (n : ByteArray) : (sgT k ++ n).size ≤ n.size + 7 := by have := (sg_le k).1; rw [bs_append_size]; omega

set_option maxRecDepth 100000 in
theorem run_signField (a b c : Value) (W : World) : Sem.run Try.prog (Instr.field 81 (.agg #[a, b, c]) 0) W = .ok a W := by
  first | rfl | kernel_rfl | simp [Instr.field]

theorem yield_post {e : Ending} {A B K : Prop} (h : (e = .returned (.bool true) ∧ A ∧ K) ∨ (e = .returned (.bool false) ∧ B ∧ K)) : ∃ r : Bool, e = .returned (.bool r) ∧ Hid ((r = true ∧ A) ∨ (r = false ∧ B)) ∧ K := by
  rcases h with ⟨h1, h2, h3⟩ | ⟨h1, h2, h3⟩
  · exact ⟨true, h1, .inl ⟨rfl, h2⟩, h3⟩
  · exact ⟨false, h1, .inr ⟨rfl, h2⟩, h3⟩

/-- The box of a formula whose words are told. -/
def BoxPre (W0 : World) (Bt : Nat) (f : Fm) (ax : Option Addr) (cx : Nat) (ay : Option Addr) (cy : Nat) (W : World) : Prop :=
  Holds W0 W ∧ W.cell? ⟨Bt, 0, none⟩ = some (.int .u8 f.op) ∧ W.cell? ⟨Bt, 1, none⟩ = some (.string f.name) ∧ W.cell? ⟨Bt, 2, none⟩ = some (.slice ax f.args.length cx) ∧ W.cell? ⟨Bt, 3, none⟩ = some (.slice ay f.sub.length cy)

set_option maxRecDepth 100000 in
set_option maxHeartbeats 4000000 in
theorem words_seq (W0 : World) : ∀ (N : Nat) (f : Fm), f.wt ≤ N → N ≤ 10000000 → f.sh true = true → ∀ (ax : Option Addr) (cx : Nat) (ay : Option Addr) (cy : Nat), FmVal W0 (.agg #[.int .u8 f.op, .string f.name, .slice ax f.args.length cx, .slice ay f.sub.length cy]) f → ∀ (Bt n : Nat) (Lo : Nat → Prop), (∀ k, k < W0.heap.size → Lo k) → Lo Bt →
    SeqNewS Fence.wide n Try.prog 57 #[.pointer (some ⟨Bt, 0, none⟩)] (fun x : ByteArray => #[.string x]) Lo f.pw.length
      (BoxPre W0 Bt f ax cx ay cy) (fun xs => xs = f.pw) (fun _ => True) := by
  intro N
  induction N with
  | zero => intro f hf; have := f.wt_pos; omega
  | succ N ih =>
    intro f hf hN hsh ax cx ay cy hv Bt n Lo hLo hLb
    rintro l J Jx W ⟨hH, b0, b1, b2, b3⟩ hLw hJ hJx hY h0
    obtain ⟨x, y, hxy, hx, hy, hz, ho0, ho1⟩ := hv
    cases hxy
    have hwe := f.wt_eq
    have hpw := f.pw_eq
    obtain ⟨psub, p14, p3, p16, p2, p1⟩ := sh_parts hsh
    obtain ⟨fs, hfs⟩ : ∃ fs, f.sub = fs := ⟨_, rfl⟩
    have hvv : FmVal W0 (.agg #[.int .u8 f.op, .string f.name, .slice ax f.args.length cx, .slice ay f.sub.length cy]) f := ⟨_, _, rfl, hx, hy, hz, ho0, ho1⟩
    rw [hfs] at hy hwe hpw psub p14 p3 p2 b3 hvv
    obtain ⟨a', cap', hs', hcap, hmax, hcells⟩ := hy.at
    cases hs'
    obtain ⟨k, hk⟩ : ∃ k : Nat, f.op = k := ⟨f.op.toNat, by omega⟩
    rw [hk] at ho0 ho1 hpw p14 p3 b0 hvv
    obtain ⟨FW, hFW⟩ : ∃ FW, f.pw = FW := ⟨_, rfl⟩
    rw [hFW] at hpw hY ⊢
    have HC := Lib.hid hcells
    have IH := Lib.hid ih
    have HY := Lib.hid hY
    have HPW := Lib.hid hpw
    have hlen := wfs_length fs
    have hmx : fs.length ≤ 9223372036854775807 := by unfold maxLen at hmax; omega
    clear hcells ih hY hpw hFW hsh
    refine callsIn_wide.2 ((callsIn_wide (n := 3)).1 (callsIn_of_wp_marks Try.func57 rfl trivial (wpIn_wide.2 ?_)))
    simp only [Try.ntmps57, List.size_toArray, List.length_cons, List.length_nil, Nat.reduceAdd, Nat.reduceSub, Array.replicate_succ, Array.replicate_zero, List.push_toArray, List.append_toArray, List.nil_append, List.cons_append]
    obtain ⟨W1, hW1⟩ : ∃ W1, W.alloc (.cells #[.func (.yield l) #[] #[]] 72) = W1 := ⟨_, rfl⟩
    have hbW : Below W.heap.size W W1 := by rw [← hW1]; exact (Below.refl _ _).alloc (Nat.le_refl _) _
    have hy1 : W1.cell? ⟨W.heap.size, 0, none⟩ = some (.func (.yield l) #[] #[]) := by rw [← hW1, World.cell?_alloc_at _ _ _ _ rfl]; rfl
    have hH1 : Holds W0 W1 := by rw [← hW1]; exact hH.alloc _
    have hs1 : W1.heap.size = W.heap.size + 1 := by rw [← hW1]; simp
    have hJ1 : J [] (fun k => Lo k ∨ k = W.heap.size) W1 := hJ _ _ _ _ _ h0 (BelowC.of_below hbW (Nat.le_refl _)) ⟨fun k h => .inl h, fun k h => h.imp id (fun h => by omega)⟩
    have HLw := Lib.hid hLw
    clear hLw
    have c0 := (hbW.cell (p := ⟨Bt, 0, none⟩) (World.block_lt_of_cell? W _ b0)).trans b0
    have c1 := (hbW.cell (p := ⟨Bt, 1, none⟩) (World.block_lt_of_cell? W _ b1)).trans b1
    have c2 := (hbW.cell (p := ⟨Bt, 2, none⟩) (World.block_lt_of_cell? W _ b2)).trans b2
    have c3 := (hbW.cell (p := ⟨Bt, 3, none⟩) (World.block_lt_of_cell? W _ b3)).trans b3
    have hv1 : FmVal W1 _ f := hvv.keep hH1
    have hBt : Bt < W1.heap.size := World.block_lt_of_cell? W1 _ c0
    have hS1 : Hid (W1.heap.size = W.heap.size + 1) := hs1
    have hsle : W.heap.size < W1.heap.size := by omega
    have hH1' := Lib.hid hH1
    have HJ1 := Lib.hid hJ1
    clear b0 b1 b2 b3 h0 hH hs1 hJ1 hvv hbW
    obtain ⟨S, hS⟩ : ∃ S, (bif fs.isEmpty then simpleTx ⟨#[44]⟩ f.op f.name f.args else sgT k ++ f.name) = S := ⟨_, rfl⟩
    have hSl : S.size ≤ 1000000000 := by
      have h1 := simpleTx_le ⟨#[44]⟩ f.op f.name f.args (by decide)
      have h2 := sgT_name_le k f.name
      rw [← hS]; cases fs.isEmpty
      · simp only [cond_false]; omega
      · simp only [cond_true]; omega
    have HPW2 := Lib.hid (show FW = trimW S :: pws fs by rw [HPW.out, ← hS, hk]; unfold headW; rw [Int.toNat_natCast])
    have HSE := Lib.hid hS
    clear hS
    go_upto_if 10 with fail
    clear hW1
    go_cut [3] from 10 to 21 (fun v wx => WordAt W1 S v wx)
    case first =>
      by_cases h0 : fs.length = 0
      · have i0 : ((fs.length : Int) == 0) = true := by rw [h0]; rfl
        have hnil : fs = [] := List.eq_nil_of_length_eq_zero h0
        have hv2 : FmVal W1 (.agg #[.int .u8 (k : Int), .string f.name, .slice ax f.args.length cx, .slice ay fs.length cy]) f := hv1
        have HS := Lib.hid (simple_any f (by omega) p16 ⟨#[44]⟩ (by decide) _ _ hv2)
        have HE := Lib.hid (show S = simpleTx ⟨#[44]⟩ f.op f.name f.args by rw [← HSE.out, hnil]; rfl)
        clear hnil h0 p16
        go_wp2_with fail
        refine HS.out.mono ?_
        rintro e w2 ⟨rfl, hb2⟩
        go_wp2_with fail
        go_meet
        case rel => exact ⟨by rw [HE.out, hk], hb2⟩
      · have i0 : ((fs.length : Int) == 0) = false := by rw [beq_eq_false_iff_ne]; omega
        have hk14 : k ≤ 14 := by
          rcases p14 with h | h
          · exact absurd (by rw [h]; rfl) h0
          · omega
        have HE := Lib.hid (show S = sgT k ++ f.name by
          rw [← HSE.out]; cases fs with
          | nil => exact absurd rfl h0
          | cons => rfl)
        have hidx := run_sign k hk14
        have hfld := run_signField (.string (sgT k)) (.int .i64 (sgS k)) (.bool (sgR k))
        have hsg := sg_le k
        have hnl : f.name.size ≤ 10000000 := by omega
        have c0' : ∀ p : Later W1, p.w'.cell? ⟨Bt, 0, none⟩ = _ := fun p => p.cell c0 hBt
        have c1' : ∀ p : Later W1, p.w'.cell? ⟨Bt, 1, none⟩ = _ := fun p => p.cell c1 hBt
        have CS := Lib.hid (fun p : Later W1 => signs_any p.w')
        go_upto_region 4 with fail
        refine wp_region_later (by kernel_rfl) (by kernel_rfl) ?_
        repeat (go_big_quiet_step ((with_reducible exact Calls.later_of (CS.out _))))
        (refine wpQuiet_nil ?_; rintro wq ⟨⟨_, hq⟩, rfl⟩; try dsimp only)
        go_wp2_with fail
        go_meet
        case rel => exact ⟨by rw [HE.out], hq⟩
    case rest =>
      obtain ⟨rfl, hbc⟩ := hcut
      have hHc : Holds W0 wc := hH1'.out.of_keepC (KeepC.of_below (S := fun k => W0.heap.size ≤ k ∧ k < W.heap.size) hbc)
      have hyc := (hbc.cell (p := ⟨W.heap.size, 0, none⟩) hsle).trans hy1
      have hJc : J [] (fun k => Lo k ∨ k = W.heap.size) wc := hJ _ _ _ _ _ HJ1.out (BelowC.of_below hbc (by omega)) (Grows.refl _ _ _)
      have hbt3 := (hbc.cell (p := ⟨Bt, 3, none⟩) hBt).trans c3
      have hszc : W1.heap.size ≤ wc.heap.size := hbc.size
      clear c0 c1 c2 hv1
      go_upto_region 5 with fail
      go_cut [25] from 21 to 26 (fun v wx => HeadDone (fun k => Lo k ∨ k = W.heap.size) W1 J Jx (trimW S) v wx)
      case first =>
        refine (wpIn_wide (n := 3)).1 ?_
        refine Code.wpIn_mono NoPanic.imp ?_
        have hJd : J [] (fun k => Lo k ∨ k = W.heap.size) wc.drew := hJ _ _ _ _ _ hJc (BelowC.of_below ((Below.refl _ _).drew) (by omega)) (Grows.refl _ _ _)
        obtain ⟨fn, tmps, assign, body, hyy, hR⟩ := HY.out [] (trimW S) (fun k => Lo k ∨ k = W.heap.size) wc.drew hJd (fun k h => .inl h) (fun k h => by rcases h with h | h; (have := HLw.out k h; simp; omega); (simp; omega)) (by rw [HPW2.out]; simp)
        have hyd : wc.drew.cell? ⟨W.heap.size, 0, none⟩ = some (.func (.yield l) #[] #[]) := by simpa using hyc
        gi_region_with (first | (refine ⟨trivial, (callsIn_wide.2 (trim_any _ _ (by omega))).mono ?_⟩; rintro e w2 ⟨rfl, rfl⟩; simp only []) | ((refine (RoundIn.mono ⟨hR.1, fun c cs _ => hR.2 c cs (fun d h => by cases h)⟩ ?_)); rintro e W3 hpost; obtain ⟨r, rfl, hj3, hk3⟩ := yield_post hpost; simp only []))
        all_goals
          refine NoPanic.normal ?_
          go_wp2_with fail
          go_meet
          case rel => exact ⟨r, rfl, hj3, (KeepC.of_below (((hbc.trans ((Below.refl _ _).drew)).mono (Nat.le_refl _)))).trans (KeepC.of_ownS hk3)⟩
      case rest =>
        clear hHc hyc hJc hbt3 hszc hbc
        obtain ⟨r, rfl, HR, hkeep⟩ := hcut
        cases r
        · have hx : Jx [trimW S] (fun k => Lo k ∨ k = W.heap.size) wc := by
            rcases HR.out with ⟨h, _⟩ | ⟨_, h⟩
            · cases h
            · exact h
          go_wp2_with fail
          exact leaves_of_marksC (B := W.heap.size) [] _ List.nodup_nil (fun D h => (List.not_mem_nil h).elim) (fun W' hb => ⟨_, results_none rfl _ _ _, ⟨_, rfl⟩, .inr (by first | exact ⟨[trimW S], _, trivial, hJx _ _ _ _ _ hx hb (Grows.refl _ _ _)⟩ | exact ⟨[trimW S], _, hJx _ _ _ _ _ hx hb (Grows.refl _ _ _)⟩)⟩)
        · have hj : J [trimW S] (fun k => Lo k ∨ k = W.heap.size) wc := by
            rcases HR.out with ⟨_, h⟩ | ⟨h, _⟩
            · exact h
            · cases h
          have HJ := Lib.hid hj
          clear hj HR
          have hbc3 := hkeep.cell ⟨Bt, 3, none⟩ _ (fun h => h (.inl hLb)) c3
          have hS : ∀ k, ¬ (Lo k ∨ k = W.heap.size) → W0.heap.size ≤ k := fun k hk => by
            rcases Nat.lt_or_ge k W0.heap.size with h | h
            · exact absurd (.inl (hLo k h)) hk
            · exact h
          have HLo := Lib.hid hLo
          have HS := Lib.hid hS
          clear hS hLo
          go_wp2_with fail
          refine wp_loop (I := fun act w => ∃ (q : Nat) (es : List ByteArray) (K : Nat → Prop) (Ds : List Nat) (v4 v5 v6 v30 v31 v32 v33 v34 v35 v36 v37 v38 v39 v40 : Value), WordsMid Lo W1 W.heap.size J (trimW S) fs q es K Ds w ∧ act = { tmps := #[.func (.yield l) #[] #[], .pointer (some ⟨Bt, 0, none⟩), .pointer (some ⟨W.heap.size, 0, none⟩), .string S, v4, v5, v6, .pointer (some ⟨Bt, 3, none⟩), .slice ay fs.length cy, .int .i64 (fs.length : Int), u10, u11, u12, u13, u14, u15, u16, u17, u18, u19, u20, u21, u22, u23, u24, .bool false, .pointer (some ⟨Bt, 3, none⟩), .slice ay fs.length cy, .int .i64 (fs.length : Int), .int .i64 (q : Int), v30, v31, v32, v33, v34, v35, v36, v37, v38, v39, v40], defers := Ds.map mark })
            (μ := fun act _ => fs.length - (intOf (act.tmps.getD 29 undef)).toNat) ?h0 ?round
          case h0 => exact ⟨0, [trimW S], _, [], _, _, _, _, _, _, _, _, _, _, _, _, _, _, ⟨Nat.zero_le _, by show _ = _; simp [pws], HJ.out, fun k h => h, fun k h => by rcases h with h | h; (have := HLw.out k h; have := hkeep.size; omega); (have := hkeep.size; omega), hkeep, List.nodup_nil, fun D h => (List.not_mem_nil h).elim⟩, rfl⟩
          case round =>
            clear hkeep HJ hbc3 c3
            rintro act w ⟨q, es, K, Ds, v4, v5, v6, v30, v31, v32, v33, v34, v35, v36, v37, v38, v39, v40, hmid, rfl⟩
            obtain ⟨hk', HM, HJ, HLK, HKL, hkeep, HN, HD⟩ := hmid
            by_cases hlt : q < fs.length
            · have hH2 : Holds W0 w := Holds.trans hH1'.out HS.out hkeep
              have hwsz := hkeep.size
              have hw1 : W1.heap.size ≤ W.heap.size + 1 ∧ W.heap.size + 1 ≤ W1.heap.size := by have := hS1.out; omega
              have hw0 := hH1'.out.size
              obtain ⟨b, off, rfl, hbl, hc⟩ := HC.out (by omega)
              obtain ⟨gx, gy, c0, c1, c2, c3, hgx, hgy, hgz⟩ := hc q hlt
              obtain ⟨ga, gc, rfl, -⟩ := hgx.at
              obtain ⟨gb, gd, rfl, -⟩ := hgy.at
              have d0 := hH2.at c0
              have d1 := hH2.at c1
              have d2 := hH2.at c2
              have d3 := hH2.at c3
              have hyb := hkeep.cell ⟨W.heap.size, 0, none⟩ _ (fun h => h (.inr rfl)) hy1
              have hvg0 : FmVal W0 (.agg #[.int .u8 fs[q].op, .string fs[q].name, .slice ga fs[q].args.length gc, .slice gb fs[q].sub.length gd]) fs[q] := ⟨_, _, rfl, hgx, hgy, hgz⟩
              clear c0 c1 c2 c3 hc
              obtain ⟨w2, hw2⟩ : ∃ w2, w.alloc (.cells #[.int .u8 fs[q].op, .string fs[q].name, .slice ga fs[q].args.length gc, .slice gb fs[q].sub.length gd] 25) = w2 := ⟨_, rfl⟩
              have hB2 : Below w.heap.size w w2 := by rw [← hw2]; exact (Below.refl _ _).alloc (Nat.le_refl _) _
              have e0 : w2.cell? ⟨w.heap.size, 0, none⟩ = some (.int .u8 fs[q].op) := by rw [← hw2, World.cell?_alloc_at _ _ _ _ rfl]; rfl
              have e1 : w2.cell? ⟨w.heap.size, 1, none⟩ = some (.string fs[q].name) := by rw [← hw2, World.cell?_alloc_at _ _ _ _ rfl]; rfl
              have e2 : w2.cell? ⟨w.heap.size, 2, none⟩ = some (.slice ga fs[q].args.length gc) := by rw [← hw2, World.cell?_alloc_at _ _ _ _ rfl]; rfl
              have e3 : w2.cell? ⟨w.heap.size, 3, none⟩ = some (.slice gb fs[q].sub.length gd) := by rw [← hw2, World.cell?_alloc_at _ _ _ _ rfl]; rfl
              have hsz2 : w2.heap.size ≤ w.heap.size + 1 ∧ w.heap.size + 1 ≤ w2.heap.size := by rw [← hw2]; simp
              have hlen1 : es.length + fs[q].pw.length ≤ FW.length := by
                have h1 := congrArg List.length HM.out
                have h2 := (pws_take fs (q + 1)).length_le
                rw [pws_snoc fs q hlt, List.length_append] at h2
                have h3 := congrArg List.length HPW2.out
                simp only [List.length_cons] at h1 h3; omega
              obtain ⟨W4, hW4⟩ : ∃ W4, w2.alloc (.cells #[.int .u8 fs[q].op, .string fs[q].name, .slice ga fs[q].args.length gc, .slice gb fs[q].sub.length gd] 25) = W4 := ⟨_, rfl⟩
              have hb4 : Below w2.heap.size w2 W4 := by rw [← hW4]; exact (Below.refl _ _).alloc (Nat.le_refl _) _
              have hs4 : W4.heap.size ≤ w2.heap.size + 1 ∧ w2.heap.size + 1 ≤ W4.heap.size := by rw [← hW4]; simp
              have z0 : W4.cell? ⟨w2.heap.size, 0, none⟩ = some (.int .u8 fs[q].op) := by rw [← hW4, World.cell?_alloc_at _ _ _ _ rfl]; rfl
              have z1 : W4.cell? ⟨w2.heap.size, 1, none⟩ = some (.string fs[q].name) := by rw [← hW4, World.cell?_alloc_at _ _ _ _ rfl]; rfl
              have z2 : W4.cell? ⟨w2.heap.size, 2, none⟩ = some (.slice ga fs[q].args.length gc) := by rw [← hW4, World.cell?_alloc_at _ _ _ _ rfl]; rfl
              have z3 : W4.cell? ⟨w2.heap.size, 3, none⟩ = some (.slice gb fs[q].sub.length gd) := by rw [← hW4, World.cell?_alloc_at _ _ _ _ rfl]; rfl
              have hb24 : Below w.heap.size w W4 := hB2.trans (hb4.mono (by omega))
              have hH4 : Holds W0 W4 := hH2.below hb24 (by omega)
              have hkeep4 : KeepC (fun k => ¬ (Lo k ∨ k = W.heap.size)) W1 W4 := hkeep.below hb24 (by omega)
              have hJ4 : J es (fun k => K k ∨ k = w2.heap.size) W4 := hJ _ _ _ _ _ HJ.out (BelowC.of_below hb24 (by omega)) ⟨fun k h => .inl h, fun k h => h.imp id (fun h => by omega)⟩
              have HJ4 := Lib.hid hJ4
              have HD4 := Lib.hid (show ∀ D ∈ Ds, K D ∧ W.heap.size ≤ D ∧ D < W4.heap.size ∧ W4.heap[D]? = some (.deferred (some [])) from fun D hD => by
                obtain ⟨q0, q1, q2, q3⟩ := HD.out D hD
                exact ⟨q0, q1, by omega, (hb24.block D q2).trans q3⟩)
              have hwg : fs[q].wt ≤ N := by have := wfs_mem (List.getElem_mem hlt); omega
              have hgs := psub fs[q] (List.getElem_mem hlt)
              have HLT := Lib.hid hlt
              clear hJ4 hgy hgx
              go_wp2_with fail
              refine (words_mk _ _ _ _ _).mono ?_
              rintro e W4' ⟨rfl, rfl⟩
              try rw [hw2]
              rw [hW4]
              clear hw2 hW4 e0 e1 e2 e3 d0 d1 d2 d3 hyb
              go_wp2_with fail
              have hLo2 : ∀ k, k < W0.heap.size → K k ∨ k = w2.heap.size := fun k hk => .inl (HLK.out k (.inl (HLo.out k hk)))
              have hseq := IH.out fs[q] hwg (by omega) hgs ga gc gb gd hvg0 w2.heap.size (3 - 1) (fun k => K k ∨ k = w2.heap.size) hLo2 (.inr rfl)
              have hLo3 : ∀ k, (K k ∨ k = w2.heap.size) → k < W4.heap.size := fun k h => by
                rcases h with h | h
                · have := HKL.out k h; omega
                · omega
              clear hLo2
              refine wpIn_wide.1 (wpIn_rangeFunc_newS (F := Fence.wide) (n := 3) rfl (by omega) rfl trivial Try.call57 hseq (fun _ => rfl) hLo3
                (fun es' K' W' => J (es ++ es') K' W' ∧ (∀ k, (K k ∨ k = w2.heap.size) → K' k) ∧ (∀ k, K' k → k < W'.heap.size) ∧ KeepC (fun k => ¬ (Lo k ∨ k = W.heap.size)) W1 W' ∧ (∀ D ∈ Ds, W'.heap[D]? = some (.deferred (some []))) ∧ W4.heap.size ≤ W'.heap.size)
                (fun c es' K' W' => c = .ret ∧ Jx (es ++ es') K' W' ∧ (∀ D ∈ Ds, W'.heap[D]? = some (.deferred (some []))) ∧ W4.heap.size ≤ W'.heap.size) ?hI ?hIx ?hPre ?h0 ?hround ?hdone ?hstop)
              case hI =>
                rintro s K1 K2 A B ⟨q1, qa, qb, q2, q3, q4⟩ hb hg
                exact ⟨hJ _ _ _ _ _ q1 (hb.mono (by omega)) hg, fun k h => hg.up k (qa k h), fun k h => by
                  rcases hg.new k h with h | h
                  · have := qb k h; have := hb.size; omega
                  · exact h.2, q2.below hb.below (by omega), fun D hD => (hb.below.block D (by have := HD4.out D hD; omega)).trans (q3 D hD), Nat.le_trans q4 hb.size⟩
              case hIx =>
                rintro c s K1 K2 A B ⟨q0, q1, q3, q4⟩ hb hg
                exact ⟨q0, hJx _ _ _ _ _ q1 (hb.mono (by omega)) hg, fun D hD => (hb.below.block D (by have := HD4.out D hD; omega)).trans (q3 D hD), Nat.le_trans q4 hb.size⟩
              case hPre =>
                exact fun W' hb => ⟨hH4.below hb (by omega), (hb.cell (p := ⟨w2.heap.size, 0, none⟩) (by show w2.heap.size < W4.heap.size; omega)).trans z0, (hb.cell (p := ⟨w2.heap.size, 1, none⟩) (by show w2.heap.size < W4.heap.size; omega)).trans z1, (hb.cell (p := ⟨w2.heap.size, 2, none⟩) (by show w2.heap.size < W4.heap.size; omega)).trans z2, (hb.cell (p := ⟨w2.heap.size, 3, none⟩) (by show w2.heap.size < W4.heap.size; omega)).trans z3⟩
              case h0 => exact ⟨by rw [List.append_nil]; exact HJ4.out, fun k h => h, hLo3, hkeep4, fun D hD => (HD4.out D hD).2.2.2, Nat.le_refl _⟩
              case hround =>
                rintro l2 pre x K5 W5 hl2 hKl2 hLK5 hKL5 ⟨q1, qa, qb, q2, q3, q4⟩ hpre
                simp only [List.zip_toArray, List.zip_cons_cons, List.zip_nil_left]
                have hyb5 := q2.cell ⟨W.heap.size, 0, none⟩ _ (fun h => h (.inr rfl)) hy1
                have HQ3 := Lib.hid q3
                have HQA := Lib.hid qa
                have HQB := Lib.hid qb
                have HLo3 := Lib.hid hLo3
                clear q3 qa qb hLK5 hKL5 hLo3
                gi_wp2
                refine ⟨KeepOwn.refl _ _, fun W6 ho6 hk6 hr6 hc6 => ?_⟩
                have hcell6 : ∀ (p : Addr) (v : Value), p.block ≠ l2 → W5.cell? p = some v → W6.cell? p = some v := fun p v hp hv => by
                  have := ho6.block p.block (World.block_lt_of_cell? W5 p hv) hp
                  unfold World.cell? at *
                  rw [this]; exact hv
                have zy := hcell6 _ _ (by show W.heap.size ≠ l2; omega) hyb5
                have hb6 : Below W4.heap.size W5 W6 := ho6.below (fun k hk => by omega) (by omega)
                have hkc6 : KeepC (fun k => ¬ (Lo k ∨ k = W.heap.size)) W1 W6 := q2.below hb6 (by omega)
                have hs6 := hb6.size
                obtain ⟨fn', tmps', assign', body', hyy', hR'⟩ := HY.out (es ++ pre) x K5 W6 (hJ _ _ _ _ _ q1 (BelowC.of_only ho6 (by omega) (by omega) hc6) (Grows.refl _ _ _)) (fun k h => HQA.out k (.inl (HLK.out k (.inl h)))) (fun k h => by have := HQB.out k h; omega) (by simp; omega)
                clear hcell6 hyb5
                gi_wp2
                refine (RoundIn.mono ⟨hR'.1, fun c cs _ => hR'.2 c cs (fun d h => by cases h)⟩ ?_)
                rintro e W7 (⟨rfl, hJ7, hk7⟩ | ⟨rfl, hx7, hk7⟩)
                · gi_wp2
                  refine ⟨hk7, by simpa using hJ7, HQA.out, fun k h => by have := HQB.out k h; have := hk7.size; omega, hkc6.trans ((KeepC.of_ownS hk7).mono (fun k h h2 => h (HQA.out k (.inl (HLK.out k h2))))), fun D hD => ?_, by have := hk7.size; omega⟩
                  have q := HD4.out D hD
                  exact ((hk7.same D (HQA.out D (.inl q.1)) (by omega)).trans (hb6.block D (by omega))).trans (HQ3.out D hD)
                · gi_wp2
                  refine ⟨hk7, rfl, by simpa using hx7, fun D hD => ?_, by have := hk7.size; omega⟩
                  have q := HD4.out D hD
                  exact ((hk7.same D (HQA.out D (.inl q.1)) (by omega)).trans (hb6.block D (by omega))).trans (HQ3.out D hD)
              case hdone =>
                rintro xs K5 W5 hxs ⟨q1, qa, qb, q2, q3, q4⟩ hK5 hK
                have HX := Lib.hid hxs
                have HQ := Lib.hid q3
                have HK := Lib.hid hK
                have HQA := Lib.hid qa
                have HQB := Lib.hid qb
                clear hxs q3 hK qa qb hLo3
                go_wp2_with fail
                refine ⟨⟨q + 1, es ++ xs, K5, W4.heap.size :: Ds, _, _, _, _, _, _, _, _, _, _, _, _, _, _, ⟨HLT.out, ?_, q1, fun k h => HQA.out k (.inl (HLK.out k h)), HQB.out, q2, ?_, ?_⟩, rfl⟩, ?_⟩
                · show _ = _
                  rw [HM.out, HX.out, pws_snoc fs q HLT.out, List.cons_append]; rfl
                · exact List.nodup_cons.2 ⟨fun h => by have := HD4.out _ h; omega, HN.out⟩
                · intro D hD
                  rcases List.mem_cons.1 hD with rfl | hD
                  · exact ⟨hK5, by omega, lt_of_block HK.out, HK.out⟩
                  · have q := HD4.out D hD
                    exact ⟨HQA.out D (.inl q.1), q.2.1, by omega, HQ.out D hD⟩
                · show fs.length - (intOf (.int .i64 ((q : Int) + 1))).toNat < fs.length - (intOf (.int .i64 (q : Int))).toNat
                  have := HLT.out
                  simp only [intOf]; omega
              case hstop =>
                rintro c pre K5 W5 _ ⟨rfl, q1, q3, q4⟩ hK5 hK
                have HQ := Lib.hid q3
                have HK := Lib.hid hK
                clear q3 hK hLo3
                refine wpIn_wide.2 ?_
                go_wp2_with fail
                refine leaves_of_marksC (B := W.heap.size) (W4.heap.size :: Ds) _ (List.nodup_cons.2 ⟨fun h => by have := HD4.out _ h; omega, HN.out⟩) (fun D hD => ?_) (fun W' hb => ⟨_, results_none rfl _ _ _, ⟨_, rfl⟩, .inr (by first | exact ⟨es ++ pre, _, trivial, hJx _ _ _ _ _ q1 hb (Grows.refl _ _ _)⟩ | exact ⟨es ++ pre, _, hJx _ _ _ _ _ q1 hb (Grows.refl _ _ _)⟩)⟩)
                rcases List.mem_cons.1 hD with rfl | hD
                · exact ⟨by omega, HK.out⟩
                · exact ⟨(HD4.out D hD).2.1, HQ.out D hD⟩
            · have hall : fs.take q = fs := List.take_of_length_le (by omega)
              have hmap := HM.out
              rw [hall, ← HPW2.out] at hmap
              have HMP := Lib.hid hmap
              clear hmap hall
              go_wp2_with fail
              exact leaves_of_marksC (B := W.heap.size) Ds _ HN.out (fun D h => ⟨(HD.out D h).2.1, (HD.out D h).2.2.2⟩) (fun W' hb => ⟨_, results_none rfl _ _ _, ⟨_, rfl⟩, .inl ⟨es, _, HMP.out, hJ _ _ _ _ _ HJ.out hb (Grows.refl _ _ _)⟩⟩)

end Go.Proofs.Ytollifednpjkeaa
