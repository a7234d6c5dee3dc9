/- Memory as the logic W sees it: cells, rows of typed elements, blocks of one's own; the operations' laws; no condition. -/
import Derived.Test.YtpkigjlnbfgjcaaBase1
import Derived.Laws.AppendOwn
import Derived.Laws.MakeOwn
namespace Go.TM
variable {P : Program} {N : Nat} {Q : Exit → Env → Heap → Prop} {ρ : Env} {H H' H'' : Heap}

/-! ### Cells -/
def cellH (H : Heap) (a : Addr) : Option Value := match H[a.block]? with
  | some (.cells c _ _) => if a.spot.isSome then none else c[a.off]?
  | _ => none
theorem cell?_eq (w : World) (a : Addr) : w.cell? a = cellH w.heap a := rfl
theorem cellH_congr {a : Addr} (h : H'[a.block]? = H[a.block]?) : cellH H' a = cellH H a := by unfold cellH; rw [h]
theorem cellH_lt {a : Addr} {v : Value} (h : cellH H a = some v) : a.block < H.size := by
  unfold cellH at h
  rcases Nat.lt_or_ge a.block H.size with hl | hg
  · exact hl
  · rw [Array.getElem?_eq_none hg] at h; cases h
theorem cellH_ext {a : Addr} {v : Value} (h : cellH H a = some v) (he : Ext H H') : cellH H' a = some v := by
  rw [cellH_congr (he.block _ (cellH_lt h))]; exact h

/-- The heap has grown, and of what was there only blocks of S have turned. -/
structure Mut (S : Nat → Prop) (H H' : Heap) : Prop where
  size : H.size ≤ H'.size
  block : ∀ k, k < H.size → ¬ S k → H'[k]? = H[k]?
theorem Mut.of_ext {S : Nat → Prop} (h : Ext H H') : Mut S H H' := ⟨h.size, fun k hk _ => h.block k hk⟩
theorem Mut.refl (S : Nat → Prop) (H : Heap) : Mut S H H := ⟨Nat.le_refl _, fun _ _ _ => rfl⟩
theorem Mut.trans {S : Nat → Prop} (h : Mut S H H') (k : Mut S H' H'') : Mut S H H'' :=
  ⟨Nat.le_trans h.size k.size, fun i hi hs => (k.block i (Nat.lt_of_lt_of_le hi h.size) hs).trans (h.block i hi hs)⟩
theorem Mut.mono {S S' : Nat → Prop} (h : Mut S H H') (hs : ∀ k, k < H.size → S k → S' k) : Mut S' H H' := ⟨h.size, fun k hk hn => h.block k hk fun h' => hn (hs k hk h')⟩
theorem Mut.ext {S : Nat → Prop} (h : Mut S H H') (hs : ∀ k, k < H.size → ¬ S k) : Ext H H' := ⟨h.size, fun k hk => h.block k hk (hs k hk)⟩
theorem Ext.mut {S : Nat → Prop} {H₀ : Heap} (h : Ext H₀ H) (k : Mut S H H') (hs : ∀ k, S k → H₀.size ≤ k) : Ext H₀ H' :=
  ⟨Nat.le_trans h.size k.size, fun i hi => (k.block i (Nat.lt_of_lt_of_le hi h.size) fun hS => Nat.not_le_of_lt hi (hs i hS)).trans (h.block i hi)⟩
theorem Ext.push (H : Heap) (o : Obj) : Ext H (H.push o) := ⟨by simp, fun b hb => by rw [Array.getElem?_push, if_neg (by omega)]⟩

/-! ### A block of one's own, known whole -/
def Blk (H : Heap) (b : Nat) (t : TypeId) (cs : List Value) : Prop := H[b]? = some (.cells cs.toArray t (0, 0))
theorem Blk.lt {b : Nat} {t : TypeId} {cs : List Value} (h : Blk H b t cs) : b < H.size := (Array.getElem?_eq_some_iff.1 h).1
theorem Blk.ext {b : Nat} {t : TypeId} {cs : List Value} (h : Blk H b t cs) (he : Ext H H') : Blk H' b t cs := he.some h
theorem Blk.mut {S : Nat → Prop} {b : Nat} {t : TypeId} {cs : List Value} (h : Blk H b t cs) (he : Mut S H H') (hs : ¬ S b) : Blk H' b t cs := (he.block b h.lt hs).trans h
theorem Blk.push (H : Heap) (t : TypeId) (cs : List Value) : Blk (H.push (.cells cs.toArray t (0, 0))) H.size t cs := by simp [Blk]
theorem add_zero (a : Addr) : a.add 0 = a := rfl
theorem add_lit (b o j : Nat) : (⟨b, o, none⟩ : Addr).add j = ⟨b, o + j, none⟩ := by unfold Addr.add; split <;> simp_all
theorem add_add (a : Addr) (i j : Nat) : (a.add i).add j = a.add (i + j) := by
  unfold Addr.add
  by_cases hi : i = 0 <;> by_cases hj : j = 0 <;> simp [hi, hj, Nat.add_assoc]
theorem add_block (a : Addr) (j : Nat) : (a.add j).block = a.block := by unfold Addr.add; split <;> rfl
theorem Blk.cell {b : Nat} {t : TypeId} {cs : List Value} (h : Blk H b t cs) (j : Nat) (hj : j < cs.length) : cellH H ((⟨b, 0, none⟩ : Addr).add j) = some (cs.getD j undef) := by
  rw [add_lit]
  unfold Blk at h
  simp [cellH, h, List.getD, hj]
theorem Blk.cell0 {b : Nat} {t : TypeId} {v : Value} {cs : List Value} (h : Blk H b t (v :: cs)) : cellH H ⟨b, 0, none⟩ = some v := by
  have := h.cell 0 (by simp)
  simpa [add_zero] using this

theorem Blk.c0 {b : Nat} {t : TypeId} {v0 : Value} {r : List Value} (h : Blk H b t (v0 :: r)) : cellH H ((⟨b, 0, none⟩ : Addr).add 0) = some v0 := by
  have := h.cell 0 (by simp); simpa using this
theorem Blk.c1 {b : Nat} {t : TypeId} {v0 v1 : Value} {r : List Value} (h : Blk H b t (v0 :: v1 :: r)) : cellH H ((⟨b, 0, none⟩ : Addr).add 1) = some v1 := by
  have := h.cell 1 (by simp); simpa using this
theorem Blk.c2 {b : Nat} {t : TypeId} {v0 v1 v2 : Value} {r : List Value} (h : Blk H b t (v0 :: v1 :: v2 :: r)) : cellH H ((⟨b, 0, none⟩ : Addr).add 2) = some v2 := by
  have := h.cell 2 (by simp); simpa using this
theorem Blk.c3 {b : Nat} {t : TypeId} {v0 v1 v2 v3 : Value} {r : List Value} (h : Blk H b t (v0 :: v1 :: v2 :: v3 :: r)) : cellH H ((⟨b, 0, none⟩ : Addr).add 3) = some v3 := by
  have := h.cell 3 (by simp); simpa using this
theorem Blk.c4 {b : Nat} {t : TypeId} {v0 v1 v2 v3 v4 : Value} {r : List Value} (h : Blk H b t (v0 :: v1 :: v2 :: v3 :: v4 :: r)) : cellH H ((⟨b, 0, none⟩ : Addr).add 4) = some v4 := by
  have := h.cell 4 (by simp); simpa using this
theorem Blk.c5 {b : Nat} {t : TypeId} {v0 v1 v2 v3 v4 v5 : Value} {r : List Value} (h : Blk H b t (v0 :: v1 :: v2 :: v3 :: v4 :: v5 :: r)) : cellH H ((⟨b, 0, none⟩ : Addr).add 5) = some v5 := by
  have := h.cell 5 (by simp); simpa using this
theorem Blk.c6 {b : Nat} {t : TypeId} {v0 v1 v2 v3 v4 v5 v6 : Value} {r : List Value} (h : Blk H b t (v0 :: v1 :: v2 :: v3 :: v4 :: v5 :: v6 :: r)) : cellH H ((⟨b, 0, none⟩ : Addr).add 6) = some v6 := by
  have := h.cell 6 (by simp); simpa using this
theorem Blk.c7 {b : Nat} {t : TypeId} {v0 v1 v2 v3 v4 v5 v6 v7 : Value} {r : List Value} (h : Blk H b t (v0 :: v1 :: v2 :: v3 :: v4 :: v5 :: v6 :: v7 :: r)) : cellH H ((⟨b, 0, none⟩ : Addr).add 7) = some v7 := by
  have := h.cell 7 (by simp); simpa using this
theorem Blk.c8 {b : Nat} {t : TypeId} {v0 v1 v2 v3 v4 v5 v6 v7 v8 : Value} {r : List Value} (h : Blk H b t (v0 :: v1 :: v2 :: v3 :: v4 :: v5 :: v6 :: v7 :: v8 :: r)) : cellH H ((⟨b, 0, none⟩ : Addr).add 8) = some v8 := by
  have := h.cell 8 (by simp); simpa using this
theorem Blk.c9 {b : Nat} {t : TypeId} {v0 v1 v2 v3 v4 v5 v6 v7 v8 v9 : Value} {r : List Value} (h : Blk H b t (v0 :: v1 :: v2 :: v3 :: v4 :: v5 :: v6 :: v7 :: v8 :: v9 :: r)) : cellH H ((⟨b, 0, none⟩ : Addr).add 9) = some v9 := by
  have := h.cell 9 (by simp); simpa using this
theorem Blk.c10 {b : Nat} {t : TypeId} {v0 v1 v2 v3 v4 v5 v6 v7 v8 v9 v10 : Value} {r : List Value} (h : Blk H b t (v0 :: v1 :: v2 :: v3 :: v4 :: v5 :: v6 :: v7 :: v8 :: v9 :: v10 :: r)) : cellH H ((⟨b, 0, none⟩ : Addr).add 10) = some v10 := by
  have := h.cell 10 (by simp); simpa using this
theorem Blk.c11 {b : Nat} {t : TypeId} {v0 v1 v2 v3 v4 v5 v6 v7 v8 v9 v10 v11 : Value} {r : List Value} (h : Blk H b t (v0 :: v1 :: v2 :: v3 :: v4 :: v5 :: v6 :: v7 :: v8 :: v9 :: v10 :: v11 :: r)) : cellH H ((⟨b, 0, none⟩ : Addr).add 11) = some v11 := by
  have := h.cell 11 (by simp); simpa using this
theorem Blk.c12 {b : Nat} {t : TypeId} {v0 v1 v2 v3 v4 v5 v6 v7 v8 v9 v10 v11 v12 : Value} {r : List Value} (h : Blk H b t (v0 :: v1 :: v2 :: v3 :: v4 :: v5 :: v6 :: v7 :: v8 :: v9 :: v10 :: v11 :: v12 :: r)) : cellH H ((⟨b, 0, none⟩ : Addr).add 12) = some v12 := by
  have := h.cell 12 (by simp); simpa using this
theorem Blk.c13 {b : Nat} {t : TypeId} {v0 v1 v2 v3 v4 v5 v6 v7 v8 v9 v10 v11 v12 v13 : Value} {r : List Value} (h : Blk H b t (v0 :: v1 :: v2 :: v3 :: v4 :: v5 :: v6 :: v7 :: v8 :: v9 :: v10 :: v11 :: v12 :: v13 :: r)) : cellH H ((⟨b, 0, none⟩ : Addr).add 13) = some v13 := by
  have := h.cell 13 (by simp); simpa using this
theorem Blk.c14 {b : Nat} {t : TypeId} {v0 v1 v2 v3 v4 v5 v6 v7 v8 v9 v10 v11 v12 v13 v14 : Value} {r : List Value} (h : Blk H b t (v0 :: v1 :: v2 :: v3 :: v4 :: v5 :: v6 :: v7 :: v8 :: v9 :: v10 :: v11 :: v12 :: v13 :: v14 :: r)) : cellH H ((⟨b, 0, none⟩ : Addr).add 14) = some v14 := by
  have := h.cell 14 (by simp); simpa using this
theorem Blk.c15 {b : Nat} {t : TypeId} {v0 v1 v2 v3 v4 v5 v6 v7 v8 v9 v10 v11 v12 v13 v14 v15 : Value} {r : List Value} (h : Blk H b t (v0 :: v1 :: v2 :: v3 :: v4 :: v5 :: v6 :: v7 :: v8 :: v9 :: v10 :: v11 :: v12 :: v13 :: v14 :: v15 :: r)) : cellH H ((⟨b, 0, none⟩ : Addr).add 15) = some v15 := by
  have := h.cell 15 (by simp); simpa using this
theorem Blk.c16 {b : Nat} {t : TypeId} {v0 v1 v2 v3 v4 v5 v6 v7 v8 v9 v10 v11 v12 v13 v14 v15 v16 : Value} {r : List Value} (h : Blk H b t (v0 :: v1 :: v2 :: v3 :: v4 :: v5 :: v6 :: v7 :: v8 :: v9 :: v10 :: v11 :: v12 :: v13 :: v14 :: v15 :: v16 :: r)) : cellH H ((⟨b, 0, none⟩ : Addr).add 16) = some v16 := by
  have := h.cell 16 (by simp); simpa using this
theorem Blk.c17 {b : Nat} {t : TypeId} {v0 v1 v2 v3 v4 v5 v6 v7 v8 v9 v10 v11 v12 v13 v14 v15 v16 v17 : Value} {r : List Value} (h : Blk H b t (v0 :: v1 :: v2 :: v3 :: v4 :: v5 :: v6 :: v7 :: v8 :: v9 :: v10 :: v11 :: v12 :: v13 :: v14 :: v15 :: v16 :: v17 :: r)) : cellH H ((⟨b, 0, none⟩ : Addr).add 17) = some v17 := by
  have := h.cell 17 (by simp); simpa using this
theorem Blk.c18 {b : Nat} {t : TypeId} {v0 v1 v2 v3 v4 v5 v6 v7 v8 v9 v10 v11 v12 v13 v14 v15 v16 v17 v18 : Value} {r : List Value} (h : Blk H b t (v0 :: v1 :: v2 :: v3 :: v4 :: v5 :: v6 :: v7 :: v8 :: v9 :: v10 :: v11 :: v12 :: v13 :: v14 :: v15 :: v16 :: v17 :: v18 :: r)) : cellH H ((⟨b, 0, none⟩ : Addr).add 18) = some v18 := by
  have := h.cell 18 (by simp); simpa using this
theorem Blk.c19 {b : Nat} {t : TypeId} {v0 v1 v2 v3 v4 v5 v6 v7 v8 v9 v10 v11 v12 v13 v14 v15 v16 v17 v18 v19 : Value} {r : List Value} (h : Blk H b t (v0 :: v1 :: v2 :: v3 :: v4 :: v5 :: v6 :: v7 :: v8 :: v9 :: v10 :: v11 :: v12 :: v13 :: v14 :: v15 :: v16 :: v17 :: v18 :: v19 :: r)) : cellH H ((⟨b, 0, none⟩ : Addr).add 19) = some v19 := by
  have := h.cell 19 (by simp); simpa using this

/-- From a on these cells. -/
def Cells (H : Heap) (a : Addr) (cs : List Value) : Prop := ∀ j, j < cs.length → cellH H (a.add j) = some (cs.getD j undef)
theorem Cells.ext {a : Addr} {cs : List Value} (h : Cells H a cs) (he : Ext H H') : Cells H' a cs := fun j hj => cellH_ext (h j hj) he
theorem Cells.mut {S : Nat → Prop} {a : Addr} {cs : List Value} (h : Cells H a cs) (he : Mut S H H') (hs : ¬ S a.block) : Cells H' a cs := fun j hj => by
  rw [cellH_congr (he.block _ (cellH_lt (h j hj)) (by rw [add_block]; exact hs))]; exact h j hj
theorem Blk.cells {b : Nat} {t : TypeId} {cs : List Value} (h : Blk H b t cs) : Cells H ⟨b, 0, none⟩ cs := fun j hj => h.cell j hj

/-! ### Elements -/
/-- A Go type whose values are just these cells. -/
class Cell (α : Type) extends Inhabited α where
  enc : α → List Value
  sz : Nat
  len : ∀ x, (enc x).length = sz
  one : ∀ x, ∀ v ∈ enc x, v.oneCell' = true
open _root_.Go.TM.Cell (enc)

instance : Cell Int where
  enc n := [.int .i64 n]
  sz := 1
  len _ := rfl
  one x v hv := by simp at hv; subst hv; rfl

/-- A slice's head. -/
structure Hdr where
  a : Option Addr
  len : Nat
  cap : Nat
deriving Inhabited
@[reducible] def Hdr.val (h : Hdr) : Value := .slice h.a h.len h.cap
instance : Cell Hdr where
  enc h := [.slice h.a h.len h.cap]
  sz := 1
  len _ := rfl
  one x v hv := by simp at hv; subst hv; rfl

def adr : Value → Addr
  | .slice (some a) _ _ => a
  | _ => default

/-- A slice that reads as these cells: n elements of sz cells each. -/
def Sl (H : Heap) (sz : Nat) (v : Value) (n : Nat) (cs : List Value) : Prop :=
  cs.length = n * sz ∧ ((v = .slice none 0 0 ∧ n = 0) ∨ ∃ a cap, v = .slice (some a) n cap ∧ n ≤ cap ∧ cap ≤ maxLen ∧ Cells H a cs)

/-- A slice of this length. -/
def LenIs (v : Value) (n : Nat) : Prop := ∃ a cap, v = .slice a n cap ∧ (0 < n → a.isSome = true)

section
variable {α : Type} [Cell α]
/-- A slice that reads as this list. -/
def SlE (H : Heap) (v : Value) (xs : List α) : Prop := Sl H (Cell.sz α) v xs.length (xs.flatMap enc)

theorem flat_length (xs : List α) : (xs.flatMap enc).length = xs.length * Cell.sz α := by
  induction xs with
  | nil => simp
  | cons x xs ih => simp only [List.flatMap_cons, List.length_append, ih, Cell.len, List.length_cons, Nat.succ_mul]; omega

theorem flat_getD (xs : List α) (i j : Nat) (hi : i < xs.length) (hj : j < Cell.sz α) : (xs.flatMap enc).getD (i * Cell.sz α + j) undef = (enc (xs.getD i default)).getD j undef := by
  induction xs generalizing i with
  | nil => simp at hi
  | cons x xs ih =>
    simp only [List.flatMap_cons]
    cases i with
    | zero => simp only [Nat.zero_mul, Nat.zero_add, List.getD_eq_getElem?_getD]; rw [List.getElem?_append_left (by rw [Cell.len]; exact hj)]; simp
    | succ i =>
      have ih' := ih i (by simpa using hi)
      simp only [List.getD_eq_getElem?_getD] at ih' ⊢
      rw [List.getElem?_append_right (by rw [Cell.len, Nat.succ_mul]; omega)]
      rw [show (i + 1) * Cell.sz α + j - (enc x).length = i * Cell.sz α + j by rw [Cell.len, Nat.succ_mul]; omega]
      rw [ih']
      simp

theorem SlE.ext {v : Value} {xs : List α} (h : SlE H v xs) (he : Ext H H') : SlE H' v xs :=
  ⟨h.1, h.2.imp id fun ⟨a, cap, e, h1, h2, hc⟩ => ⟨a, cap, e, h1, h2, hc.ext he⟩⟩
theorem SlE.mut {S : Nat → Prop} {v : Value} {xs : List α} (h : SlE H v xs) (he : Mut S H H') (hs : ∀ b, v.ownBlock = some b → ¬ S b) : SlE H' v xs :=
  ⟨h.1, h.2.imp id fun ⟨a, cap, e, h1, h2, hc⟩ => ⟨a, cap, e, h1, h2, hc.mut he (hs a.block (by rw [e]; rfl))⟩⟩
theorem SlE.nil (H : Heap) : SlE H (.slice none 0 0) ([] : List α) := ⟨by simp, .inl ⟨rfl, rfl⟩⟩
theorem SlE.len_le {v : Value} {xs : List α} (h : SlE H v xs) : xs.length ≤ maxLen := by
  rcases h.2 with ⟨_, h⟩ | ⟨a, cap, _, h1, h2, _⟩ <;> omega
/-- The cells of element i. -/
theorem SlE.cells {v : Value} {xs : List α} (h : SlE H v xs) (i : Nat) (hi : i < xs.length) : Cells H ((adr v).add (i * Cell.sz α)) (enc (xs.getD i default)) := by
  intro j hj
  rw [Cell.len] at hj
  rcases h.2 with ⟨_, h0⟩ | ⟨a, cap, rfl, h1, h2, hc⟩
  · omega
  · have := hc (i * Cell.sz α + j) (by
      rw [flat_length]
      calc i * Cell.sz α + j < i * Cell.sz α + Cell.sz α := by omega
        _ = (i + 1) * Cell.sz α := by rw [Nat.succ_mul]
        _ ≤ xs.length * Cell.sz α := Nat.mul_le_mul_right _ hi)
    rw [flat_getD xs i j hi hj] at this
    rw [add_add]
    exact this
theorem SlE.shape {v : Value} {xs : List α} (h : SlE H v xs) : ∃ a cap, v = .slice a xs.length cap := by
  rcases h.2 with ⟨h1, h0⟩ | ⟨a, cap, e, _⟩
  · exact ⟨none, 0, by rw [h1, h0]⟩
  · exact ⟨some a, cap, e⟩
theorem SlE.lenIs {v : Value} {xs : List α} (h : SlE H v xs) : LenIs v xs.length := by
  rcases h.2 with ⟨h1, h0⟩ | ⟨a, cap, e, _⟩
  · exact ⟨none, 0, by rw [h1, h0], fun h => by omega⟩
  · exact ⟨some a, cap, e, fun _ => rfl⟩
end

theorem SlE.int {v : Value} {xs : List Int} (h : SlE H v xs) (i : Int) (hi : 0 ≤ i ∧ i < xs.length) : cellH H ((adr v).add (i.toNat * 1)) = some (.int .i64 (xs.getD i.toNat 0)) := by
  have := h.cells i.toNat (by omega) 0 (by rw [Cell.len]; exact Nat.one_pos)
  rw [add_zero] at this
  exact this

theorem SlE.cellsI {α : Type} [Cell α] {v : Value} {xs : List α} (h : SlE H v xs) (i : Int) (hi : 0 ≤ i ∧ i < xs.length) : Cells H ((adr v).add (i.toNat * Cell.sz α)) (enc (xs.getD i.toNat default)) :=
  h.cells i.toNat (by omega)

/-- An address that an index leads to. -/
@[reducible] def eAt (v : Value) (sz : Nat) (i : Int) : Addr := (adr v).add (i.toNat * sz)

end Go.TM
