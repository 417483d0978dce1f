import Derived.Test.YtijoechhhnagpaaLexG
import Derived.Test.YtijoechhhnagpaaIter
import Derived.Deep.LoopGhost
import Derived.BigRegion
namespace Go.Proofs.Ytijoechhhnagpaa
open Go.RowKit

theorem indexByte_run (s : ByteArray) (c : Int) (w : World) : Sem.run Try.prog (callFunc 41 #[.string s, .int .u8 c]) w = .ok (.value (.int .i64 (firstIdx s c.toNat.toUInt8))) w := by
  rw [run_callFunc_extern Try.func41 (e := Extern.BytealgIndexByte.indexByte) (by kernel_rfl) (by kernel_rfl) (by kernel_rfl) (by kernel_rfl), run_indexByte_string]; rfl
theorem indexByte_any (s : ByteArray) (c : Int) (w : World) :
    Calls Try.prog 17 #[.string s, .int .u8 c] w fun e w' => e = .returned (.int .i64 (firstIdx s c.toNat.toUInt8)) ∧ w = w' := by
  have hx := fun w => indexByte_run s c w
  go_enter Try.func17, Try.ntmps17
  go_wp2
  go_ret
  exact ⟨rfl, rfl⟩

theorem firstIdx_blank (c : UInt8) : decide (0 ≤ firstIdx ⟨#[32, 9, 10, 13]⟩ c) = isBlank c := by
  have h : ∀ n : Fin 256, decide (0 ≤ firstIdx ⟨#[32, 9, 10, 13]⟩ (UInt8.ofNat n.val)) = isBlank (UInt8.ofNat n.val) := by decide +kernel
  have := h ⟨c.toNat, c.toNat_lt⟩
  simpa using this
/-- strings.IndexByte in the four blanks, held against 0. -/
theorem blankIdx_any (c : UInt8) (w : World) :
    Calls Try.prog 17 #[.string ⟨#[32, 9, 10, 13]⟩, .int .u8 (c.toNat : Int)] w fun e w' => e = .returned (.int .i64 (firstIdx ⟨#[32, 9, 10, 13]⟩ c)) ∧ w' = w :=
  (indexByte_any _ _ w).mono fun _ _ h => ⟨by rw [h.1]; simp, h.2.symm⟩

/-! ### The iterator of the tokens -/
/-- The blocks of a scan: the scanner, the error, and the two boxes that the iterator has captured. -/
structure Blocks where
  pc : Nat
  pe : Nat
  bc : Nat
  be : Nat
def Blocks.own (B : Blocks) (k : Nat) : Prop := k = B.pc ∨ k = B.pe ∨ k = B.bc ∨ k = B.be
structure Blocks.apart (B : Blocks) : Prop where
  ce : B.pc ≠ B.pe
  cb : B.pc ≠ B.bc
  cb' : B.pc ≠ B.be
  eb : B.pe ≠ B.bc
  eb' : B.pe ≠ B.be
/-- The scanner is at i, the error is e. -/
structure At (B : Blocks) (s : ByteArray) (i : Nat) (e : Int) (W : World) : Prop where
  c : W.heap[B.pc]? = some (.cells #[.int .i64 (i : Int), .string s] 40 (0, 0))
  e : W.heap[B.pe]? = some (.cells #[.int .i64 e] 24 (0, 0))
  bc : W.heap[B.bc]? = some (.cells #[.pointer (some ⟨B.pc, 0, none⟩)] 36 (0, 0))
  be : W.heap[B.be]? = some (.cells #[.pointer (some ⟨B.pe, 0, none⟩)] 44 (0, 0))
theorem At.keep {B : Blocks} {s : ByteArray} {i : Nat} {e : Int} {W W' : World} (h : At B s i e W) (k : KeepOwn B.own W W') : At B s i e W' :=
  ⟨(k.same _ (.inl rfl) (lt_of_block h.c)).trans h.c, (k.same _ (.inr (.inl rfl)) (lt_of_block h.e)).trans h.e,
   (k.same _ (.inr (.inr (.inl rfl))) (lt_of_block h.bc)).trans h.bc, (k.same _ (.inr (.inr (.inr rfl))) (lt_of_block h.be)).trans h.be⟩
theorem At.below {B : Blocks} {s : ByteArray} {i : Nat} {e : Int} {W W' : World} (h : At B s i e W) (k : Below W.heap.size W W') : At B s i e W' := h.keep (KeepOwn.of_below k)
theorem At.move {B : Blocks} {s : ByteArray} {i : Nat} {e : Int} {W : World} (h : At B s i e W) (hB : B.apart) (i' : Nat) : At B s i' e (W.setCell ⟨B.pc, 0, none⟩ (.int .i64 (i' : Int))) :=
  ⟨by rw [heap_setCell_same W B.pc 0 _ _ _ h.c]; rfl, (Below.heap_setCell _ _ _ _ hB.ce.symm).trans h.e, (Below.heap_setCell _ _ _ _ hB.cb.symm).trans h.bc, (Below.heap_setCell _ _ _ _ hB.cb'.symm).trans h.be⟩
theorem At.fail {B : Blocks} {s : ByteArray} {i : Nat} {e : Int} {W : World} (h : At B s i e W) (hB : B.apart) (e' : Int) : At B s i e' (W.setCell ⟨B.pe, 0, none⟩ (.int .i64 e')) :=
  ⟨(Below.heap_setCell _ _ _ _ hB.ce).trans h.c, by rw [heap_setCell_same W B.pe 0 _ _ _ h.e]; rfl, (Below.heap_setCell _ _ _ _ hB.eb.symm).trans h.bc, (Below.heap_setCell _ _ _ _ hB.eb'.symm).trans h.be⟩
theorem At.scan {B : Blocks} {s : ByteArray} {i : Nat} {e : Int} {W : World} (h : At B s i e W) : Scan B.pc i s W :=
  ⟨by rw [cell_of_row _ _ _ _ _ _ h.c]; rfl, by rw [cell_of_row _ _ _ _ _ _ h.c]; rfl⟩
/-- What a walk wants of it. -/
theorem At.cells {B : Blocks} {s : ByteArray} {i : Nat} {e : Int} {W : World} (h : At B s i e W) :
    W.cell? ⟨B.pc, 0, none⟩ = some (.int .i64 (i : Int)) ∧ W.cell? ⟨B.pc, 1, none⟩ = some (.string s) ∧ W.frozen? ⟨B.pc, 0, none⟩ = false ∧ W.cell? ⟨B.pe, 0, none⟩ = some (.int .i64 e) ∧ W.frozen? ⟨B.pe, 0, none⟩ = false ∧
    W.cell? ⟨B.bc, 0, none⟩ = some (.pointer (some ⟨B.pc, 0, none⟩)) ∧ W.cell? ⟨B.be, 0, none⟩ = some (.pointer (some ⟨B.pe, 0, none⟩)) :=
  ⟨by rw [cell_of_row _ _ _ _ _ _ h.c]; rfl, by rw [cell_of_row _ _ _ _ _ _ h.c]; rfl, frozen_of_row _ _ _ _ _ h.c, by rw [cell_of_row _ _ _ _ _ _ h.e]; rfl, frozen_of_row _ _ _ _ _ h.e,
   by rw [cell_of_row _ _ _ _ _ _ h.bc]; rfl, by rw [cell_of_row _ _ _ _ _ _ h.be]; rfl⟩

def tokCells (t : Tok) : Array Value := #[.int .u8 t.kind, .string t.text, .int .i64 (t.at_ : Int)]
def tokVal (t : Tok) : Value := .agg (tokCells t)

end Go.Proofs.Ytijoechhhnagpaa
