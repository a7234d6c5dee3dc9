/- The laws of the operations that make or write memory, and of calls; no condition. -/
import Derived.Test.YtpkigjlnbfgjcaaBase3
namespace Go.TM
open _root_.Go.TM.Cell (enc)
variable {P : Program} {N : Nat} {Q : Env → Heap → Prop} {ρ : Env} {H H' H'' : Heap} {ops : Array Oper} {st : Option Nat} {l : List Oper}
variable {d : Option Tmp} {ty : TypeId} {p : String} {e : Array Edge} {g : Option (Nat × Bool)}

/-- 'This one may write what was there': in a text's order, or the last one that does not only read. -/
def MayWrite (st : Option Nat) (l : List Oper) : Prop := ∀ m, st = some m → ¬ m ≤ loud l

/-! ### New blocks -/
theorem zero_run {t : TypeId} {z : Value} (h : ∀ w, (zeroValue t).run P w = .ok z w) : True := trivial
class TZero (P : Program) (t : TypeId) (z : outParam (List Value)) : Prop where
  run : ∀ w, ∃ v, (zeroValue t).run P w = .ok v w ∧ v.cells = z.toArray

theorem st_box {x : Operand} {t : TypeId} {d : Tmp} {cs : List Value} {v : Value} (hx : ev ρ x = v) (hv : v.cells = cs.toArray)
    (h : ∀ b H', Ext H H' → H.size ≤ b → Blk H' b t cs → WL P ops st Q l (upd ρ d (.pointer (some ⟨b, 0, none⟩))) H') : WL P ops st Q (⟨some d, .box t x, ty, p, e, none⟩ :: l) ρ H := by
  refine st_w rfl (OpW.of_run fun w hw => ⟨.pointer (some ⟨H.size, 0, none⟩), { w with heap := w.heap.push (.cells cs.toArray t (0, 0)) }, ?_, ⟨rfl, rfl, rfl, Nat.le_refl _⟩, fun _ _ _ => hw ▸ Ext.push _ _, h H.size _ (hw ▸ Ext.push _ _) (Nat.le_refl _) ?_⟩)
  · subst hw
    simp [execOp, hx, Instr.box, newVar, newRow, newObj, hv, Sem.run]
  · subst hw; exact Blk.push _ _ _

theorem st_alloc {t : TypeId} {z : List Value} [TZero P t z] {d : Tmp}
    (h : ∀ b H', Ext H H' → H.size ≤ b → Blk H' b t z → WL P ops st Q l (upd ρ d (.pointer (some ⟨b, 0, none⟩))) H') : WL P ops st Q (⟨some d, .alloc t, ty, p, e, none⟩ :: l) ρ H := by
  refine st_w rfl (OpW.of_run fun w hw => ⟨.pointer (some ⟨H.size, 0, none⟩), { w with heap := w.heap.push (.cells z.toArray t (0, 0)) }, ?_, ⟨rfl, rfl, rfl, Nat.le_refl _⟩, fun _ _ _ => hw ▸ Ext.push _ _, h H.size _ (hw ▸ Ext.push _ _) (Nat.le_refl _) ?_⟩)
  · subst hw
    obtain ⟨v, hr, hv⟩ := TZero.run (P := P) (t := t) (z := z) w
    simp [execOp, Instr.alloc, hr, newVar, newRow, newObj, hv, Sem.run]
  · subst hw; exact Blk.push _ _ _

/-! ### Stores -/
theorem setAt_length (vs cs : List Value) (j : Nat) : (setAt cs j vs).length = cs.length := by
  induction vs generalizing cs j with
  | nil => rfl
  | cons v vs ih => simp [setAt, ih]

theorem run_storeCells_blk {b j : Nat} {t : TypeId} (vs : List Value) (i : Nat) (cs : List Value) (w : World) (hb : Blk w.heap b t cs) (hj : j + i + vs.length ≤ cs.length) (h1 : ∀ v ∈ vs, v.oneCell' = true) :
    ∃ w', (storeCells ⟨b, j, none⟩ vs i).run P w = .ok () w' ∧ Like w w' ∧ Blk w'.heap b t (setAt cs (j + i) vs) ∧ Mut (· = b) w.heap w'.heap ∧ w'.heap.size = w.heap.size := by
  induction vs generalizing i cs w with
  | nil => exact ⟨w, rfl, Like.refl w, hb, Mut.refl _ _, rfl⟩
  | cons v vs ih =>
    simp only [List.length_cons] at hj
    have hcell : w.cell? ⟨b, j + i, none⟩ = some (cs.getD (j + i) undef) := by
      unfold Blk at hb
      have : j + i < cs.length := by omega
      simp [World.cell?, hb, List.getD, this]
    have hfro : w.frozen? ⟨b, j + i, none⟩ = false := by
      unfold Blk at hb
      simp [World.frozen?, hb]
    have hst : (store ((⟨b, j, none⟩ : Addr).add i) v).run P w = .ok () (w.setCell ⟨b, j + i, none⟩ v) := by
      rw [add_lit, run_store P w _ v _ (h1 v (by simp))]
      simp [hcell, hfro]
    have hb' : Blk (w.setCell ⟨b, j + i, none⟩ v).heap b t (cs.set (j + i) v) := by
      unfold Blk at hb ⊢
      simp [World.setCell, Array.getElem?_modify, hb]
    obtain ⟨w', hr, hl, hB, hm, hs⟩ := ih (i + 1) (cs.set (j + i) v) (w.setCell ⟨b, j + i, none⟩ v) hb' (by simp; omega) (fun u hu => h1 u (by simp [hu]))
    refine ⟨w', ?_, ⟨hl.os, hl.tape, hl.output, hl.drawn⟩, by rw [setAt]; exact hB, ?_, by rw [hs]; simp [World.setCell]⟩
    · simp [storeCells, hst, hr]
    · refine Mut.trans ⟨by simp [World.setCell], fun k _ hk => ?_⟩ hm
      simp only [World.setCell, Array.getElem?_modify]
      rw [if_neg (by omega)]

theorem oneCell_ne {v : Value} (h : v.oneCell' = true) : v.cells = #[v] := by cases v <;> simp_all [Value.oneCell', Value.cells]

/-- A store into a block of one's own. -/
theorem st_store {x y : Operand} {t te : TypeId} {n : Nat} [TSize P t n] {b j : Nat} {cs vs : List Value} {v : Value} (hx : ev ρ x = .pointer (some ((⟨b, 0, none⟩ : Addr).add j))) (hy : ev ρ y = v) (hv : v.cells = vs.toArray)
    (hn : vs.length = n) (h1 : ∀ u ∈ vs, u.oneCell' = true) (hb : Blk H b te cs) (hj : j + vs.length ≤ cs.length) (hst : MayWrite st l)
    (h : ∀ H', Mut (· = b) H H' → H'.size = H.size → Blk H' b te (setAt cs j vs) → WL P ops st Q l ρ H') : WL P ops st Q (⟨none, .store t x y, ty, p, e, none⟩ :: l) ρ H := by
  refine st_w rfl (OpW.of_skip fun w hw => ?_)
  subst hw
  obtain ⟨w', hr, hl, hB, hm, hs⟩ := run_storeCells_blk (P := P) vs 0 cs w hb (j := j) (by omega) h1
  refine ⟨w', ?_, hl, fun m hm' hle => absurd hle (hst m hm'), h _ hm hs hB⟩
  have hadd : (⟨b, 0, none⟩ : Addr).add j = ⟨b, j, none⟩ := by rw [add_lit, Nat.zero_add]
  rw [hadd] at hx
  have hsz : vs.toArray.size = n := by simpa using hn
  simp [execOp, hx, hy, Instr.storeAt, Instr.sureAddr, storeVar, TSize.run (P := P) (t := t), hv, hn, hr]

theorem st_store0 {x y : Operand} {t te : TypeId} {n : Nat} [TSize P t n] {b : Nat} {cs vs : List Value} {v : Value} (hx : ev ρ x = .pointer (some ⟨b, 0, none⟩)) (hy : ev ρ y = v) (hv : v.cells = vs.toArray)
    (hn : vs.length = n) (h1 : ∀ u ∈ vs, u.oneCell' = true) (hb : Blk H b te cs) (hj : cs.length = n) (hst : MayWrite st l)
    (h : ∀ H', Mut (· = b) H H' → H'.size = H.size → Blk H' b te vs → WL P ops st Q l ρ H') : WL P ops st Q (⟨none, .store t x y, ty, p, e, none⟩ :: l) ρ H := by
  refine st_store (j := 0) (by rw [add_zero]; exact hx) hy hv hn h1 hb (by omega) hst fun H' hm hs hB => h H' hm hs ?_
  have : ∀ (vs cs pre : List Value), cs.length = vs.length → setAt (pre ++ cs) pre.length vs = pre ++ vs := by
    intro vs
    induction vs with
    | nil => intro cs pre h; simp [setAt, List.eq_nil_of_length_eq_zero h]
    | cons v vs ih =>
      intro cs pre h
      cases cs with
      | nil => simp at h
      | cons c cs =>
        have := ih cs (pre ++ [v]) (by simpa using h)
        simp only [List.length_append, List.length_singleton, List.append_assoc, List.singleton_append] at this
        simp only [setAt]
        rw [List.set_append_right _ _ (Nat.le_refl _), Nat.sub_self, List.set_cons_zero]
        exact this
  have h2 := this vs cs [] (by omega)
  simp only [List.nil_append, List.length_nil] at h2
  rw [h2] at hB
  exact hB

/-! ### Rows of one's own -/
section
variable {α : Type} [Cell α]
/-- A slice that owns its array: it begins the block's head, and the block is from B on; nil, if it is empty and nil. -/
def Own (H : Heap) (B : Nat) (el : TypeId) (v : Value) (xs : List α) : Prop :=
  (xs.flatMap enc).length = xs.length * Cell.sz α ∧
  ((v = .slice none 0 0 ∧ xs.length = 0) ∨
   ∃ g cap cur, v = .slice (some ⟨g, 0, none⟩) xs.length cap ∧ B ≤ g ∧ H[g]? = some (.cells cur el (0, 0)) ∧ xs.length ≤ cap ∧ cap ≤ maxLen ∧ cur.size = cap * Cell.sz α ∧ cur.toList.take (xs.length * Cell.sz α) = xs.flatMap enc)

theorem Own.ownsRow {w : World} {B : Nat} {el : TypeId} {v : Value} {xs : List α} (h : Own w.heap B el v xs) : w.ownsRow B el (Cell.sz α) v xs.length (xs.flatMap enc) := h
theorem Own.of_ownsRow {w : World} {B : Nat} {el : TypeId} {v : Value} {n : Nat} {xs : List α} (hn : n = xs.length) (h : w.ownsRow B el (Cell.sz α) v n (xs.flatMap enc)) : Own w.heap B el v xs := by subst hn; exact h
theorem Own.nil (H : Heap) (B : Nat) (el : TypeId) : Own H B el (.slice none 0 0) ([] : List α) := ⟨by simp, .inl ⟨rfl, rfl⟩⟩
theorem Own.lt {B : Nat} {el : TypeId} {v : Value} {xs : List α} (h : Own H B el v xs) : ∀ k, v.ownBlock = some k → B ≤ k ∧ k < H.size := by
  intro k hk
  rcases h.2 with ⟨rfl, _⟩ | ⟨g, cap, cur, rfl, hb, hg, _⟩
  · simp [Value.ownBlock] at hk
  · simp [Value.ownBlock] at hk; subst hk; exact ⟨hb, (Array.getElem?_eq_some_iff.1 hg).1⟩
theorem Own.sl {B : Nat} {el : TypeId} {v : Value} {xs : List α} (h : Own H B el v xs) : SlE H v xs := by
  refine ⟨h.1, ?_⟩
  rcases h.2 with hn | ⟨g, cap, cur, rfl, _, hg, hnc, hcm, hcs, htake⟩
  · exact .inl hn
  · refine .inr ⟨⟨g, 0, none⟩, cap, rfl, hnc, hcm, fun j hj => ?_⟩
    rw [add_lit, ← htake]
    have : j < xs.length * Cell.sz α := by rw [← flat_length]; exact hj
    have h2 : j < cur.size := by rw [hcs]; exact Nat.lt_of_lt_of_le this (Nat.mul_le_mul_right _ hnc)
    simp [cellH, hg, List.getD, List.getElem?_take, this, h2]
theorem Own.ext {B : Nat} {el : TypeId} {v : Value} {xs : List α} (h : Own H B el v xs) (he : Ext H H') : Own H' B el v xs :=
  ⟨h.1, h.2.imp id fun ⟨g, cap, cur, e, hb, hg, r⟩ => ⟨g, cap, cur, e, hb, he.some hg, r⟩⟩
theorem Own.mut {S : Nat → Prop} {B : Nat} {el : TypeId} {v : Value} {xs : List α} (h : Own H B el v xs) (he : Mut S H H') (hs : ∀ k, v.ownBlock = some k → ¬ S k) : Own H' B el v xs :=
  ⟨h.1, h.2.imp id fun ⟨g, cap, cur, e, hb, hg, r⟩ => ⟨g, cap, cur, e, hb, (he.block g (Array.getElem?_eq_some_iff.1 hg).1 (hs g (by rw [e]; rfl))).trans hg, r⟩⟩
theorem Own.mono {B B' : Nat} {el : TypeId} {v : Value} {xs : List α} (h : Own H B el v xs) (hB : B' ≤ B) : Own H B' el v xs :=
  ⟨h.1, h.2.imp id fun ⟨g, cap, cur, e, hb, r⟩ => ⟨g, cap, cur, e, Nat.le_trans hB hb, r⟩⟩
theorem Own.base {B B' : Nat} {el : TypeId} {v : Value} {xs : List α} (h : Own H B el v xs) (hB : ∀ k, v.ownBlock = some k → B' ≤ k) : Own H B' el v xs :=
  ⟨h.1, h.2.imp id fun ⟨g, cap, cur, e, hb, r⟩ => ⟨g, cap, cur, e, hB g (by rw [e]; rfl), r⟩⟩
end

/-- The type of a slice's elements, as the model has it. -/
class TElem (P : Program) (el : TypeId) (α : Type) [Cell α] (bytes : outParam Nat) : Prop where
  info : ∃ i z, P.info? el = some i ∧ i.zero = some z ∧ i.size = Cell.sz α ∧ i.bytes = bytes ∧ z.cells.size = Cell.sz α
  pos : 0 < Cell.sz α

theorem like_grown {w w' : World} {row : Option Nat} (h : w.grownBy w' row) (hd : w.drawn ≤ w'.drawn) : Like w w' := ⟨h.os, h.tape, h.output, hd⟩
theorem mut_grown {w w' : World} {row : Option Nat} (h : w.grownBy w' row) : Mut (fun k => row = some k) w.heap w'.heap := ⟨h.size, fun k hk hn => h.block k hk fun e => hn e.symm⟩

/-- append onto a row of one's own, from whatever slice that reads. -/
theorem run_append {α : Type} [Cell α] {t el : TypeId} {bytes : Nat} [TSlice P t el] [TElem P el α bytes] {w : World} {B : Nat} {v u : Value} {xs ys : List α} (hv : Own w.heap B el v xs) (hu : SlE w.heap u ys)
    (hb : (xs.length + ys.length) * bytes ≤ 140737488355328) (hlen : xs.length + ys.length ≤ 9223372036854775807) (hB : B ≤ w.heap.size) :
    ∃ v' w', (Builtin.append_ #[t, t] ty #[v, u]).run P w = .ok v' w' ∧ Like w w' ∧ Own w'.heap B el v' (xs ++ ys) ∧ Mut (fun k => v.ownBlock = some k) w.heap w'.heap ∧ (∀ k, v'.ownBlock = some k → v.ownBlock = some k ∨ w.heap.size ≤ k) ∧
      (v' = .slice none 0 0 ↔ v = .slice none 0 0 ∧ ys = []) ∧ (∀ a, v = .slice (some a) xs.length xs.length → Ext w.heap w'.heap) := by
  obtain ⟨i, z, hi, hz, hsize, hby, hzs⟩ := TElem.info (P := P) (el := el) (α := α) (bytes := bytes)
  have hpos := TElem.pos (P := P) (el := el) (α := α) (bytes := bytes)
  have ht := TSlice.und (P := P) (t := t) (el := el)
  rcases hu.2 with ⟨rfl, h0⟩ | ⟨a, cap, rfl, hle, hcm, hc⟩
  · have hys : ys = [] := List.eq_nil_of_length_eq_zero h0
    subst hys
    refine ⟨v, w, run_append_owned_none (P := P) w B t ty el i (Cell.sz α) ht hi v xs.length _ hv.ownsRow, Like.refl w, by simpa using hv, Mut.refl _ _, fun k hk => .inl hk, by simp, fun _ _ => Ext.refl _⟩
  · have hnews : ∀ j u, (ys.flatMap enc)[j]? = some u → w.cell? (a.add j) = some u := by
      intro j u hj
      have hlt : j < (ys.flatMap enc).length := (List.getElem?_eq_some_iff.1 hj).1
      have := hc j hlt
      rw [List.getD_eq_getElem?_getD, hj] at this
      exact this
    have h1 : ∀ u ∈ ys.flatMap enc, u.oneCell' = true := by
      intro u hu
      obtain ⟨x, _, hx⟩ := List.mem_flatMap.1 hu
      exact Cell.one x u hx
    have hl : (ys.flatMap enc).length = ys.length * Cell.sz α := flat_length ys
    have hml : xs.length + ys.length ≤ maxLen := by simpa [maxLen] using hlen
    obtain ⟨v', w', hr, hown, hgr, hiff⟩ := run_append_own (P := P) w B t ty el i z (Cell.sz α) bytes ht hi hz hsize hby hzs hpos v xs.length _ hv.ownsRow a ys.length cap _ hl hnews h1 hml hb hB
    have hboth : (∀ k, v'.ownBlock = some k → v.ownBlock = some k ∨ w.heap.size ≤ k) ∧ w.drawn ≤ w'.drawn ∧ (∀ a, v = .slice (some a) xs.length xs.length → Ext w.heap w'.heap) := by
      rcases hv.2 with ⟨rfl, hx0⟩ | ⟨g, vcap, cur, rfl, hbg, hg, hnc, hcm', hcs, htake⟩
      · have hxs : xs = [] := List.eq_nil_of_length_eq_zero hx0
        subst hxs
        by_cases hm : ys.length = 0
        · have hr2 : (Builtin.append_ #[t, t] ty #[.slice none 0 0, .slice (some a) ys.length cap]).run P w = .ok (.slice none 0 0) w := by
            rw [hm]
            simp [Builtin.append_, run_underlying ht, sizeOf, typeInfo, hi, Builtin.lenOf, Builtin.firstCells, loadCells, loadCellsFrom]
          rw [hr] at hr2
          cases hr2
          exact ⟨fun k hk => .inl hk, Nat.le_refl _, fun _ h => by cases h⟩
        · have hr2 := run_append_nil (P := P) (ty := ty) w t el i z ht hi hz a ys.length cap _ (by rw [hsize]; exact hl) hnews (by omega) (by simp only [List.length_nil] at hlen; omega) (by rw [hby]; simp only [List.length_nil, Nat.zero_add] at hb; omega)
          rw [hr] at hr2
          cases hr2
          refine ⟨fun k hk => ?_, Nat.le_succ _, fun _ h => by cases h⟩
          simp only [Value.ownBlock, Option.some.injEq] at hk
          exact .inr (by omega)
      · by_cases hroom : xs.length + ys.length ≤ vcap
        · have hfit : xs.length * i.size + (ys.flatMap enc).length ≤ cur.size := by rw [hl, hcs, hsize, ← Nat.add_mul]; exact Nat.mul_le_mul_right _ hroom
          have hr2 := run_append_room (P := P) (ty := ty) w t el i ht hi g xs.length vcap cur hg a ys.length cap _ (by rw [hsize]; exact hl) hnews h1 hroom hfit
          rw [hr] at hr2
          cases hr2
          refine ⟨fun k hk => .inl hk, Nat.le_refl _, fun a' ha' => ?_⟩
          have hcl : vcap = xs.length := by cases ha'; rfl
          have hy0 : ys = [] := List.eq_nil_of_length_eq_zero (by omega)
          subst hy0
          refine ⟨by simp [World.setRow], fun b hb => ?_⟩
          by_cases hbg : b = g
          · subst hbg
            rw [hg]
            simp [World.setRow, Array.getElem?_modify, hg]
          · simp [World.setRow, Array.getElem?_modify, Ne.symm hbg]
        · have holds : ∀ j u, (xs.flatMap enc)[j]? = some u → w.cell? ((⟨g, 0, none⟩ : Addr).add j) = some u := hv.ownsRow.cells (g := g) rfl
          have hr2 := run_append_grow (P := P) (ty := ty) w t el i z ht hi hz ⟨g, 0, none⟩ xs.length vcap _ (by rw [hsize]; exact hv.1) holds a ys.length cap _ (by rw [hsize]; exact hl) hnews (by omega) (by omega) (growslice_fits (by omega) (by rw [hby]; exact hb))
          rw [hr] at hr2
          cases hr2
          refine ⟨fun k hk => ?_, Nat.le_succ _, fun _ _ => Ext.push _ _⟩
          simp only [Value.ownBlock, Option.some.injEq] at hk
          exact .inr (by omega)
    obtain ⟨hfresh, hdrawn, hfull⟩ := hboth
    refine ⟨v', w', hr, like_grown hgr hdrawn, Own.of_ownsRow (n := xs.length + ys.length) (by simp) (by simpa using hown), mut_grown hgr, hfresh, ?_, hfull⟩
    rw [hiff]
    simp

theorem st_append {α : Type} [Cell α] {x y : Operand} {t el : TypeId} {bytes : Nat} [TSlice P t el] [TElem P el α bytes] {d : Tmp} {B : Nat} {v u : Value} {xs ys : List α} (hx : ev ρ x = v) (hy : ev ρ y = u) (hv : Own H B el v xs) (hu : SlE H u ys)
    (hb : (xs.length + ys.length) * bytes ≤ 140737488355328) (hlen : xs.length + ys.length ≤ 9223372036854775807) (hB : B ≤ H.size) (hst : MayWrite st l ∨ v = .slice none 0 0)
    (h : ∀ v' H', Own H' B el v' (xs ++ ys) → Mut (fun k => v.ownBlock = some k) H H' → (∀ k, v'.ownBlock = some k → v.ownBlock = some k ∨ H.size ≤ k) → (v' = .slice none 0 0 ↔ v = .slice none 0 0 ∧ ys = []) → WL P ops st Q l (upd ρ d v') H') :
    WL P ops st Q (⟨some d, .call { callee := .builtin .append, args := #[x, y], argTypes := #[t, t] }, ty, p, e, none⟩ :: l) ρ H := by
  refine st_w rfl (OpW.of_run fun w hw => ?_)
  subst hw
  obtain ⟨v', w', hr, hl, hown, hm, hf, hi, _⟩ := run_append (P := P) (ty := ty) (t := t) hv hu hb hlen hB
  refine ⟨v', w', ?_, hl, fun m hm' hle => ?_, h v' w'.heap hown hm hf hi⟩
  · simp [execOp, resolve, invoke, builtin, hx, hy, hr]
  · rcases hst with h1 | rfl
    · exact absurd hle (h1 m hm')
    · exact hm.ext fun k _ hk => by simp [Value.ownBlock] at hk

/-- append onto a row that is full: nothing old is written. -/
theorem st_appendF {α : Type} [Cell α] {x y : Operand} {t el : TypeId} {bytes : Nat} [TSlice P t el] [TElem P el α bytes] {d : Tmp} {B : Nat} {u : Value} {a : Addr} {xs ys : List α} (hx : ev ρ x = .slice (some a) xs.length xs.length) (hy : ev ρ y = u) (hv : Own H B el (.slice (some a) xs.length xs.length) xs) (hu : SlE H u ys)
    (hb : (xs.length + ys.length) * bytes ≤ 140737488355328) (hlen : xs.length + ys.length ≤ 9223372036854775807) (hB : B ≤ H.size)
    (h : ∀ v' H', Own H' B el v' (xs ++ ys) → Ext H H' → (∀ k, v'.ownBlock = some k → (Value.slice (some a) xs.length xs.length).ownBlock = some k ∨ H.size ≤ k) → WL P ops st Q l (upd ρ d v') H') :
    WL P ops st Q (⟨some d, .call { callee := .builtin .append, args := #[x, y], argTypes := #[t, t] }, ty, p, e, none⟩ :: l) ρ H := by
  refine st_w rfl (OpW.of_run fun w hw => ?_)
  subst hw
  obtain ⟨v', w', hr, hl, hown, hm, hf, hi, hx9⟩ := run_append (P := P) (ty := ty) (t := t) hv hu hb hlen hB
  refine ⟨v', w', ?_, hl, fun _ _ _ => hx9 a rfl, h v' w'.heap hown (hx9 a rfl) hf⟩
  simp [execOp, resolve, invoke, builtin, hx, hy, hr]

/-! ### Fields -/
theorem TField.of {t : TypeId} {f off : Nat} {fs : Array Field} {fd : Field} (h : P.underlying t = some (.struct fs)) (hf : fs[f]? = some fd) (ho : fd.offset = off) {n : Nat} (hs : ∀ w, (sizeOf fd.type).run P w = .ok n w) (hn : n ≠ 0) : TField P t f off := ⟨fun a w => by
  simp [Instr.fieldAt, run_underlying h, hf, Instr.sureAddr, fieldPlace, hs, hn, ho]⟩

/-! ### Calls -/
class TFunc (P : Program) (f : FuncId) : Prop where
  run : ∀ args w, (callFunc f args).run P w = .ok (.enter f args) w
theorem TFunc.mk' {f : FuncId} {fn : Func} (hf : P.funcs[f]? = some fn) (hb : fn.body.isNone = false) (hn : (fn.name == "runtime.NumGoroutine") = false) : TFunc P f := ⟨fun args w => by
  have h1 : fn.name ≠ "runtime.NumGoroutine" := by simpa using hn
  have h2 : fn.body ≠ none := by intro h; rw [h] at hb; simp at hb
  simp [callFunc, hf, h1, h2]⟩

/-- A call of a function by its name, or of a function value. -/
theorem st_call {x : Operand} {args : List Operand} {tys : Array TypeId} {d : Option Tmp} {f : FuncId} {cap vs : List Value} {R : Value → Heap → Prop} [TFunc P f]
    (hx : ev ρ x = .func (.func f) #[] cap.toArray) (ha : AV ρ args vs) (hc : CallsH P f (vs ++ cap).toArray H R)
    (hst : MayWrite st l ∨ ∀ v H', R v H' → Ext H H')
    (h : ∀ v H', R v H' → WL P ops st Q l (put ρ d v) H') :
    WL P ops st Q (⟨d, .call { callee := .value x, args := args.toArray, argTypes := tys }, ty, p, e, none⟩ :: l) ρ H := by
  refine st_w rfl (OpW.of_call (f := f) (args := (vs ++ cap).toArray) (fun w hw => ?_) (hc.mono fun v H' hR => ⟨fun m hm hle => ?_, h v H' hR⟩))
  · simp [execOp, resolve, invoke, hx, Deferred.ofValue, TFunc.run (P := P), ha.map]
  · rcases hst with h1 | h1
    · exact absurd hle (h1 m hm)
    · exact h1 v H' hR

/-- A call of a function that is named. -/
theorem st_callF {f : FuncId} {args : List Operand} {tys : Array TypeId} {d : Option Tmp} {vs : List Value} {R : Value → Heap → Prop} [TFunc P f]
    (ha : AV ρ args vs) (hc : CallsH P f vs.toArray H R)
    (hst : MayWrite st l ∨ ∀ v H', R v H' → Ext H H')
    (h : ∀ v H', R v H' → WL P ops st Q l (put ρ d v) H') :
    WL P ops st Q (⟨d, .call { callee := .value (.func f), args := args.toArray, argTypes := tys }, ty, p, e, none⟩ :: l) ρ H :=
  st_call (cap := []) (x := .func f) rfl ha (by simpa using hc) hst h

end Go.TM
