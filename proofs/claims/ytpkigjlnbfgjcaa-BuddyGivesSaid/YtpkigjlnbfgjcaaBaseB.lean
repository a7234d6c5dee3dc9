/- Rows of one's own at the level of their cells: slices up to the capacity, appending where there is room; no condition. -/
import Derived.Test.YtpkigjlnbfgjcaaTac
namespace Go.TM
open _root_.Go.TM.Cell (enc)
variable {P : Program} {N : Nat} {Q : Env → Heap → Prop} {ρ : Env} {H H' H'' : Heap} {ops : Array Oper} {st : Option Nat} {l : List Oper}
variable {d : Option Tmp} {ty : TypeId} {p : String} {e : Array Edge} {g : Option (Nat × Bool)}
theorem q_sliceC {x : Operand} {t el : TypeId} {n sz cap lo hi : Nat} {a : Option Addr} {olo ohi : Option Operand} [TSlice P t el] [TSize P el sz] (hx : ev ρ x = .slice a n cap)
    (hlo : BV ρ 0 olo lo) (hhi : BV ρ n ohi hi) (hb : lo ≤ hi ∧ hi ≤ cap) : OpQ P ρ H ⟨d, .slice t x olo ohi none, ty, p, e, g⟩ (resl (.slice a n cap) sz lo hi) := fun w _ => by
  have hund := run_underlying (P := P) (TSlice.und (P := P) (t := t)) (w := w)
  have hl : (Instr.sliceBounds true n cap (olo.map (ev ρ)) (ohi.map (ev ρ)) none).run P w = .ok (lo, hi, cap) w := by
    cases hlo with
    | none =>
      cases hhi with
      | none => simp [Instr.sliceBounds]
      | some hi' h0' => simp [Instr.sliceBounds, sliceBound_run hi' h0' (by omega : _ ≤ cap)]
    | some hl' h0 =>
      cases hhi with
      | none => simp [Instr.sliceBounds, sliceBound_run hl' h0 hb.1]
      | some hi' h0' => simp [Instr.sliceBounds, sliceBound_run hi' h0' (by omega : _ ≤ cap), sliceBound_run hl' h0 hb.1]
  simp [execOp, hx, Instr.sliceAt, Instr.slice, hund, hl, TSize.run (P := P) (t := el), resl]
theorem resl_0 {g n cap sz i : Nat} : resl (.slice (some ⟨g, 0, none⟩) n cap) sz 0 i = .slice (some ⟨g, 0, none⟩) i cap := by
  simp only [resl]
  split <;> simp [add_zero]
theorem resl_j {g o n cap sz lo hi : Nat} (h : lo < cap) : resl (.slice (some ⟨g, o, none⟩) n cap) sz lo hi = .slice (some ⟨g, o + lo * sz, none⟩) (hi - lo) (cap - lo) := by
  simp only [resl]
  rw [if_neg (by omega), Option.map_some, add_lit]
theorem q_slice3 {x y z u : Operand} {t el : TypeId} {n sz cap : Nat} {i j m : Int} {k k' k'' : IntKind} {a : Option Addr} [TSlice P t el] [TSize P el sz] (hx : ev ρ x = .slice a n cap)
    (hy : ev ρ y = .int k i) (hz : ev ρ z = .int k' j) (hu : ev ρ u = .int k'' m) (hb : 0 ≤ i ∧ i ≤ j ∧ j ≤ m ∧ m ≤ cap) : OpQ P ρ H ⟨d, .slice t x (some y) (some z) (some u), ty, p, e, g⟩ (.slice (if m.toNat = i.toNat then a else a.map (·.add (i.toNat * sz))) (j.toNat - i.toNat) (m.toNat - i.toNat)) := fun w _ => by
  have hund := run_underlying (P := P) (TSlice.und (P := P) (t := t)) (w := w)
  simp [execOp, hx, Instr.sliceAt, Instr.slice, hund, Instr.sliceBounds, sliceBound_run hu (by omega) (by omega : m.toNat ≤ cap), sliceBound_run hz (by omega) (by omega : j.toNat ≤ m.toNat), sliceBound_run hy (by omega) (by omega : i.toNat ≤ j.toNat), TSize.run (P := P) (t := el)]
/-! ### Cells written -/
theorem setAt_tail (vs cs : List Value) (k : Nat) (h : k + vs.length = cs.length) : setAt cs k vs = cs.take k ++ vs := by
  have h1 := setAt_app (cs.take k) (cs.drop k) 0 vs
  rw [List.take_append_drop, Nat.add_zero] at h1
  have e : (cs.take k).length = k := by simp; omega
  rw [e, setAt_all _ _ (by simp; omega)] at h1
  exact h1
theorem setAt_mid (vs cs : List Value) (k : Nat) (h : k + vs.length ≤ cs.length) : setAt cs k vs = cs.take k ++ vs ++ cs.drop (k + vs.length) := by
  have h1 := setAt_left (cs.take (k + vs.length)) (cs.drop (k + vs.length)) k vs (by simp; omega)
  rw [List.take_append_drop] at h1
  rw [h1, setAt_tail vs _ k (by simp; omega), List.take_take, Nat.min_eq_left (by omega)]
theorem setAt_take_ge (vs cs : List Value) (k m : Nat) (h : m ≤ k) : (setAt cs k vs).take m = cs.take m := by
  induction vs generalizing cs k with
  | nil => rfl
  | cons v vs ih =>
    simp only [setAt]
    rw [ih _ _ (by omega)]
    apply List.ext_getElem?
    intro i
    by_cases hi : i < m
    · rw [List.getElem?_take_of_lt hi, List.getElem?_take_of_lt hi, List.getElem?_set_ne (by omega)]
    · rw [List.getElem?_eq_none (by simp; omega), List.getElem?_eq_none (by simp; omega)]
theorem two_sets {cs E D : List Value} {p q m : Nat} (hq : q = p + E.length) (hm : m = q + D.length) (hl : m ≤ cs.length) : (setAt (setAt cs q D) p E).take m = cs.take p ++ E ++ D ∧ (setAt (setAt cs p E) q D).take m = cs.take p ++ E ++ D := by
  have key : setAt (cs.take q) p E = cs.take p ++ E := by
    rw [setAt_tail E (cs.take q) p (by rw [List.length_take]; omega), List.take_take, Nat.min_eq_left (by omega)]
  constructor
  · rw [take_setAt _ _ _ _ (by omega), take_setAt _ _ _ _ (by omega), setAt_tail D (cs.take m) q (by rw [List.length_take]; omega), List.take_take, Nat.min_eq_left (by omega), setAt_left _ _ _ _ (by rw [List.length_take]; omega), key]
  · rw [take_setAt _ _ _ _ (by omega), take_setAt _ _ _ _ (by omega), setAt_tail D _ q (by rw [setAt_length, List.length_take]; omega), take_setAt _ _ _ _ (by omega), List.take_take, Nat.min_eq_left (by omega), key]
/-! ### Own rows and their blocks -/
section
variable {α : Type} [Cell α]
theorem Own.blk {B : Nat} {el : TypeId} {v : Value} {xs : List α} (h : Own H B el v xs) (h0 : v ≠ .slice none 0 0) : ∃ gg cap cs, v = .slice (some ⟨gg, 0, none⟩) xs.length cap ∧ B ≤ gg ∧ Blk H gg el cs ∧ xs.length ≤ cap ∧ cap ≤ maxLen ∧ cs.length = cap * Cell.sz α ∧ cs.take (xs.length * Cell.sz α) = xs.flatMap enc := by
  rcases h.2 with ⟨h1, _⟩ | ⟨gg, cap, cur, h1, h2, h3, h4, h5, h6, h7⟩
  · exact absurd h1 h0
  · exact ⟨gg, cap, cur.toList, h1, h2, by simpa [Blk] using h3, h4, h5, by simpa using h6, h7⟩
theorem Own.of_blk {B gg cap : Nat} {el : TypeId} {cs : List Value} {xs : List α} {n : Nat} (hB : B ≤ gg) (hb : Blk H gg el cs) (hn : n = xs.length) (hc : xs.length ≤ cap) (hm : cap ≤ maxLen) (hl : cs.length = cap * Cell.sz α) (ht : cs.take (xs.length * Cell.sz α) = xs.flatMap enc) : Own H B el (.slice (some ⟨gg, 0, none⟩) n cap) xs :=
  ⟨flat_length xs, .inr ⟨gg, cap, cs.toArray, by rw [hn], hB, hb, hc, hm, by simpa using hl, by simpa using ht⟩⟩
theorem Blk.sl {gg cap o n : Nat} {el : TypeId} {cs : List Value} {ys : List α} (hb : Blk H gg el cs) (hn : n = ys.length) (hc : ys.length ≤ cap) (hm : cap ≤ maxLen) (ht : (cs.drop o).take (ys.length * Cell.sz α) = ys.flatMap enc) (ho : o + ys.length * Cell.sz α ≤ cs.length) : SlE H (.slice (some ⟨gg, o, none⟩) n cap) ys := by
  refine ⟨flat_length ys, .inr ⟨⟨gg, o, none⟩, cap, by rw [hn], hc, hm, fun j hj => ?_⟩⟩
  have hj' : j < ys.length * Cell.sz α := by rw [← flat_length]; exact hj
  have h1 := hb.cell (o + j) (by omega)
  rw [add_lit, Nat.zero_add] at h1
  rw [add_lit, h1, ← ht]
  congr 1
  simp only [List.getD_eq_getElem?_getD, List.getElem?_take, if_pos hj', List.getElem?_drop]
theorem Blk.cellsAt {b o : Nat} {t : TypeId} {cs vs : List Value} (hb : Blk H b t cs) (ht : (cs.drop o).take vs.length = vs) (ho : o + vs.length ≤ cs.length) : Cells H ⟨b, o, none⟩ vs := by
  intro j hj
  have h1 := hb.cell (o + j) (by omega)
  rw [add_lit, Nat.zero_add] at h1
  rw [add_lit, h1]
  congr 1
  conv => rhs; rw [← ht]
  simp only [List.getD_eq_getElem?_getD, List.getElem?_take, if_pos hj, List.getElem?_drop]
/-- append, where there is room -/
theorem st_appendR {x y : Operand} {t el : TypeId} {bytes : Nat} {dd : Tmp} [TSlice P t el] [TElem P el α bytes] {gg n cap : Nat} {te : TypeId} {cs : List Value} {u : Value} {ys : List α} (hx : ev ρ x = .slice (some ⟨gg, 0, none⟩) n cap) (hy : ev ρ y = u)
    (hb : Blk H gg te cs) (hu : SlE H u ys) (hroom : n + ys.length ≤ cap) (hl : cs.length = cap * Cell.sz α) (hst : MayWrite st l)
    (h : ∀ H', Mut (· = gg) H H' → H'.size = H.size → Blk H' gg te (setAt cs (n * Cell.sz α) (ys.flatMap enc)) → WL P ops st Q l (upd ρ dd (.slice (some ⟨gg, 0, none⟩) (n + ys.length) cap)) H') :
    WL P ops st Q (⟨some dd, .call { callee := .builtin .append, args := #[x, y], argTypes := #[t, t] }, ty, p, e, none⟩ :: l) ρ H := by
  refine st_w rfl (OpW.of_run fun w hw => ?_)
  subst hw
  obtain ⟨i, z, hi, hz, hsize, hby, hzs⟩ := TElem.info (P := P) (el := el) (α := α) (bytes := bytes)
  have ht := TSlice.und (P := P) (t := t) (el := el)
  have hlen : (ys.flatMap enc).length = ys.length * Cell.sz α := flat_length ys
  have hle : n * Cell.sz α + ys.length * Cell.sz α ≤ cs.length := by rw [hl, ← Nat.add_mul]; exact Nat.mul_le_mul_right _ hroom
  obtain ⟨w', hr, hl', hB, hm, hs⟩ := run_storeCells_blk (P := P) (ys.flatMap enc) 0 cs w hb (j := n * Cell.sz α) (by rw [hlen]; omega) (by
    intro v hv
    obtain ⟨z, _, hz⟩ := List.mem_flatMap.1 hv
    exact Cell.one z v hz)
  rw [Nat.add_zero] at hB
  refine ⟨_, w', ?_, hl', fun m hm' hle => absurd hle (hst m hm'), h _ hm hs hB⟩
  have hload : (Builtin.lenOf u).run P w = .ok ys.length w ∧ (Builtin.firstCells i.size ys.length u).run P w = .ok (ys.flatMap enc).toArray w := by
    rcases hu.2 with ⟨rfl, h0⟩ | ⟨a, c, rfl, hle, _, hc⟩
    · have : ys = [] := List.eq_nil_of_length_eq_zero h0
      subst this
      exact ⟨by simp [Builtin.lenOf], by simp [Builtin.firstCells]⟩
    · refine ⟨by simp [Builtin.lenOf], ?_⟩
      have := run_loadCells' (P := P) hc (ys.length * i.size) (by rw [flat_length, hsize]; exact Nat.le_refl _)
      rw [List.take_of_length_le (by rw [flat_length, hsize]; exact Nat.le_refl _)] at this
      simpa [Builtin.firstCells] using this
  have hadd : (⟨gg, 0, none⟩ : Addr).add (n * i.size) = ⟨gg, n * Cell.sz α, none⟩ := by rw [add_lit, Nat.zero_add, hsize]
  simp [execOp, resolve, invoke, builtin, hx, hy, Builtin.append_, run_underlying ht, sizeOf, typeInfo, hi, hload.1, hload.2, hroom, hadd, hr]
/-- copy, into a block of one's own, out of whatever cells -/
theorem st_copyC {x y : Operand} {t el : TypeId} {dd : Tmp} {sz : Nat} [TSlice P t el] [TSize P el sz] {b o dn dc n m c : Nat} {te : TypeId} {cs vs : List Value} {a : Addr} (hx : ev ρ x = .slice (some ⟨b, o, none⟩) dn dc) (hy : ev ρ y = .slice (some a) m c)
    (hb : Blk H b te cs) (hu : Cells H a vs) (hvl : vs.length = n * sz) (h1 : ∀ v ∈ vs, v.oneCell' = true) (hn : n = min m dn) (hroom : o + n * sz ≤ cs.length) (hst : MayWrite st l)
    (h : ∀ H', Mut (· = b) H H' → H'.size = H.size → Blk H' b te (setAt cs o vs) → WL P ops st Q l (upd ρ dd (.int .i64 n)) H') :
    WL P ops st Q (⟨some dd, .call { callee := .builtin .copy, args := #[x, y], argTypes := #[t, t] }, ty, p, e, none⟩ :: l) ρ H := by
  refine st_w rfl (OpW.of_run fun w hw => ?_)
  subst hw
  obtain ⟨w', hr, hl, hB, hm, hs⟩ := run_storeCells_blk (P := P) vs 0 cs w hb (j := o) (by omega) h1
  rw [Nat.add_zero] at hB
  refine ⟨.int .i64 n, w', ?_, hl, fun m hm' hle => absurd hle (hst m hm'), h _ hm hs hB⟩
  have hload := run_loadCells' (P := P) hu (n * sz) (by omega)
  rw [List.take_of_length_le (by omega)] at hload
  have hnm : m.min dn = n := by rw [hn]
  simp [execOp, resolve, invoke, builtin, hx, hy, Builtin.copy_, run_underlying (TSlice.und (P := P) (t := t)), Builtin.lenOf, hnm, TSize.run (P := P) (t := el), Builtin.firstCells, hload, hr, goInt]
/-- a call that the model itself answers -/
theorem st_extern {f : FuncId} {args : List Operand} {tys : Array TypeId} {dd : Tmp} {vs : List Value} {v : Value} (ha : AV ρ args vs) (hrun : ∀ w : World, w.heap = H → (callFunc f vs.toArray).run P w = .ok (.value v) w)
    (h : WL P ops st Q l (upd ρ dd v) H) : WL P ops st Q (⟨some dd, .call { callee := .value (.func f), args := args.toArray, argTypes := tys }, ty, p, e, none⟩ :: l) ρ H := by
  refine st_w rfl (OpW.of_run fun w hw => ⟨v, w, ?_, Like.refl _, fun _ _ _ => hw ▸ Ext.refl _, hw ▸ h⟩)
  simp [execOp, resolve, invoke, ev_func, Deferred.ofValue, ha.map, hrun w hw]
theorem Blk.shape {w : World} {b : Nat} {t : TypeId} {cs : List Value} (h : Blk w.heap b t cs) : w.shape? b = some (t, cs.length) := by
  unfold Blk at h; simp [World.shape?, h]
theorem Blk.frozen {w : World} {b o : Nat} {t : TypeId} {cs : List Value} (h : Blk w.heap b t cs) : w.frozen? ⟨b, o, none⟩ = false := by
  unfold Blk at h; simp [World.frozen?, h]
end
end Go.TM
