/- The plain data of the program's types, as cells; no condition. -/
import Derived.Test.YtpkigjlnbfgjcaaTypes
namespace Go.TM
open _root_.Go.TM.Cell (enc)
/-- api.Op -/
structure OpD where
  kind : Int
  at_ : Int
  a : Int
  b : Int
deriving Inhabited, DecidableEq
instance : Cell OpD where
  enc o := [.int .i64 o.kind, .int .i64 o.at_, .int .i64 o.a, .int .i64 o.b]
  sz := 4
  len _ := rfl
  one x v hv := by simp at hv; rcases hv with rfl | rfl | rfl | rfl <;> rfl
/-- api.Fault -/
structure FaultD where
  code : Int
  at_ : Int
deriving Inhabited, DecidableEq
instance : Cell FaultD where
  enc o := [.int .i64 o.code, .int .i64 o.at_]
  sz := 2
  len _ := rfl
  one x v hv := by simp at hv; rcases hv with rfl | rfl <;> rfl
/-- api.Block -/
structure BlockD where
  start : Int
  size : Int
deriving Inhabited, DecidableEq
instance : Cell BlockD where
  enc o := [.int .i64 o.start, .int .i64 o.size]
  sz := 2
  len _ := rfl
  one x v hv := by simp at hv; rcases hv with rfl | rfl <;> rfl
@[reducible] def BlockD.val (f : BlockD) : Value := .agg #[.int .i64 f.start, .int .i64 f.size]
theorem SlE.opI0 {H : Heap} {v : Value} {xs : List OpD} (h : SlE H v xs) (i : Int) (hi : 0 ≤ i ∧ i < xs.length) : cellH H ((eAt v 4 i).add 0) = some (.int .i64 (xs.getD i.toNat default).kind) := h.cellsI i hi 0 (by rw [Cell.len]; decide)
theorem SlE.opN0 {H : Heap} {v : Value} {xs : List OpD} (h : SlE H v xs) (i : Nat) (hi : i < xs.length) : cellH H ((eAt v 4 i).add 0) = some (.int .i64 (xs.getD i default).kind) := h.cellsN i hi 0 (by rw [Cell.len]; decide)
theorem SlE.opI1 {H : Heap} {v : Value} {xs : List OpD} (h : SlE H v xs) (i : Int) (hi : 0 ≤ i ∧ i < xs.length) : cellH H ((eAt v 4 i).add 1) = some (.int .i64 (xs.getD i.toNat default).at_) := h.cellsI i hi 1 (by rw [Cell.len]; decide)
theorem SlE.opN1 {H : Heap} {v : Value} {xs : List OpD} (h : SlE H v xs) (i : Nat) (hi : i < xs.length) : cellH H ((eAt v 4 i).add 1) = some (.int .i64 (xs.getD i default).at_) := h.cellsN i hi 1 (by rw [Cell.len]; decide)
theorem SlE.opI2 {H : Heap} {v : Value} {xs : List OpD} (h : SlE H v xs) (i : Int) (hi : 0 ≤ i ∧ i < xs.length) : cellH H ((eAt v 4 i).add 2) = some (.int .i64 (xs.getD i.toNat default).a) := h.cellsI i hi 2 (by rw [Cell.len]; decide)
theorem SlE.opN2 {H : Heap} {v : Value} {xs : List OpD} (h : SlE H v xs) (i : Nat) (hi : i < xs.length) : cellH H ((eAt v 4 i).add 2) = some (.int .i64 (xs.getD i default).a) := h.cellsN i hi 2 (by rw [Cell.len]; decide)
theorem SlE.opI3 {H : Heap} {v : Value} {xs : List OpD} (h : SlE H v xs) (i : Int) (hi : 0 ≤ i ∧ i < xs.length) : cellH H ((eAt v 4 i).add 3) = some (.int .i64 (xs.getD i.toNat default).b) := h.cellsI i hi 3 (by rw [Cell.len]; decide)
theorem SlE.opN3 {H : Heap} {v : Value} {xs : List OpD} (h : SlE H v xs) (i : Nat) (hi : i < xs.length) : cellH H ((eAt v 4 i).add 3) = some (.int .i64 (xs.getD i default).b) := h.cellsN i hi 3 (by rw [Cell.len]; decide)
theorem SlE.blkI0 {H : Heap} {v : Value} {xs : List BlockD} (h : SlE H v xs) (i : Int) (hi : 0 ≤ i ∧ i < xs.length) : cellH H ((eAt v 2 i).add 0) = some (.int .i64 (xs.getD i.toNat default).start) := h.cellsI i hi 0 (by rw [Cell.len]; decide)
theorem SlE.blkN0 {H : Heap} {v : Value} {xs : List BlockD} (h : SlE H v xs) (i : Nat) (hi : i < xs.length) : cellH H ((eAt v 2 i).add 0) = some (.int .i64 (xs.getD i default).start) := h.cellsN i hi 0 (by rw [Cell.len]; decide)
theorem SlE.blkI1 {H : Heap} {v : Value} {xs : List BlockD} (h : SlE H v xs) (i : Int) (hi : 0 ≤ i ∧ i < xs.length) : cellH H ((eAt v 2 i).add 1) = some (.int .i64 (xs.getD i.toNat default).size) := h.cellsI i hi 1 (by rw [Cell.len]; decide)
theorem SlE.blkN1 {H : Heap} {v : Value} {xs : List BlockD} (h : SlE H v xs) (i : Nat) (hi : i < xs.length) : cellH H ((eAt v 2 i).add 1) = some (.int .i64 (xs.getD i default).size) := h.cellsN i hi 1 (by rw [Cell.len]; decide)
@[reducible] def FaultD.val (f : FaultD) : Value := .agg #[.int .i64 f.code, .int .i64 f.at_]
@[reducible] def OpD.val (o : OpD) : Value := .agg #[.int .i64 o.kind, .int .i64 o.at_, .int .i64 o.a, .int .i64 o.b]
/-- The first element with a fault: its code, and its number. -/
def ffrom {α : Type} (f : α → Int) : Nat → List α → FaultD
  | _, [] => ⟨0, 0⟩
  | i, x :: xs => if f x ≠ 0 then ⟨f x, i⟩ else ffrom f (i + 1) xs
theorem ffrom_drop {α : Type} [Inhabited α] (f : α → Int) (xs : List α) (k : Nat) (hk : k < xs.length) : ffrom f k (xs.drop k) = if f (xs.getD k default) ≠ 0 then ⟨f (xs.getD k default), k⟩ else ffrom f (k + 1) (xs.drop (k + 1)) := by
  rw [List.drop_eq_getElem_cons hk]
  simp only [ffrom]
  simp [List.getD, hk]
end Go.TM
