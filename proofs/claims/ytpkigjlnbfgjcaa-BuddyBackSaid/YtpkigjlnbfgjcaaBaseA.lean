/- Division, shifts, bits, least of two; a part of a struct's value; copies, clearing, appending within rows of one's own; no condition. -/
import Derived.Test.YtpkigjlnbfgjcaaBase8
namespace Go.TM
open _root_.Go.TM.Cell (enc)
variable {P : Program} {N : Nat} {Q : Env → Heap → Prop} {ρ : Env} {H H' H'' : Heap} {ops : Array Oper} {st : Option Nat} {l : List Oper}
variable {d : Option Tmp} {ty : TypeId} {p : String} {e : Array Edge} {g : Option (Nat × Bool)}
section
variable {x y : Operand} {a b : Int} {xt yt : TypeId}
theorem q_rem (hx : ev ρ x = .int .i64 a) (hy : ev ρ y = .int .i64 b) (h : 0 ≤ a ∧ 0 < b) : OpQ P ρ H ⟨d, .binOp .rem xt x y yt, ty, p, e, g⟩ (.int .i64 (a % b)) := q_bin hx hy fun w => by
  have h0 : b ≠ 0 := by omega
  simp [binOp, Op.intDiv, h0, Int.tmod_eq_emod_of_nonneg h.1]
theorem q_quo (hx : ev ρ x = .int .i64 a) (hy : ev ρ y = .int .i64 b) (h : (0 ≤ a ∧ a ≤ 9223372036854775807) ∧ 0 < b) : OpQ P ρ H ⟨d, .binOp .quo xt x y yt, ty, p, e, g⟩ (.int .i64 (a / b)) := q_bin hx hy fun w => by
  have h0 : b ≠ 0 := by omega
  have h1 : 0 ≤ a / b := Int.ediv_nonneg h.1.1 (by omega)
  have h2 : a / b ≤ a := Int.ediv_le_self _ h.1.1
  simp only [binOp, Op.intDiv, h0, if_false, if_true, ne_eq, not_true_eq_false, Int.tdiv_eq_ediv_of_nonneg h.1.1]
  rw [wrap64_id (by omega)]; simp
def shlI (a b : Int) : Int := IntKind.i64.wrap (a * 2 ^ (min b.toNat 64))
theorem q_shl {k : IntKind} (hx : ev ρ x = .int .i64 a) (hy : ev ρ y = .int k b) (h : 0 ≤ b) : OpQ P ρ H ⟨d, .binOp .shl xt x y yt, ty, p, e, g⟩ (.int .i64 (shlI a b)) := fun w _ => by
  have hn : ¬ (b < 0) := by omega
  simp [execOp, hx, hy, binOp, eqGuard, Op.shift, hn, shlI, IntKind.bits]
theorem pow_le_62 (n : Nat) (h : n ≤ 62) : (2 : Int) ^ n ≤ 4611686018427387904 := by
  have : (2 : Int) ^ n ≤ 2 ^ 62 := by
    have h1 : (2 : Nat) ^ n ≤ 2 ^ 62 := Nat.pow_le_pow_right (by omega) h
    exact_mod_cast h1
  exact this
theorem shlI_one {b : Int} (h : 0 ≤ b ∧ b ≤ 62) : shlI 1 b = 2 ^ b.toNat := by
  have h1 : min b.toNat 64 = b.toNat := by omega
  have h2 := pow_le_62 b.toNat (by omega)
  have h3 : (0 : Int) < 2 ^ b.toNat := Int.pow_pos (by omega)
  unfold shlI
  rw [h1, Int.one_mul, wrap64_id (by omega)]
def andI (a b : Int) : Int := IntKind.i64.wrap ((BitVec.ofInt 64 a) &&& (BitVec.ofInt 64 b)).toNat
def xorI (a b : Int) : Int := IntKind.i64.wrap ((BitVec.ofInt 64 a) ^^^ (BitVec.ofInt 64 b)).toNat
theorem q_andI (hx : ev ρ x = .int .i64 a) (hy : ev ρ y = .int .i64 b) : OpQ P ρ H ⟨d, .binOp .and xt x y yt, ty, p, e, g⟩ (.int .i64 (andI a b)) := q_bin hx hy fun w => by
  simp only [binOp, Op.intBits, ne_eq, not_true_eq_false, if_false]; rfl
theorem q_xorI (hx : ev ρ x = .int .i64 a) (hy : ev ρ y = .int .i64 b) : OpQ P ρ H ⟨d, .binOp .xor xt x y yt, ty, p, e, g⟩ (.int .i64 (xorI a b)) := q_bin hx hy fun w => by
  simp only [binOp, Op.intBits, ne_eq, not_true_eq_false, if_false]; rfl
theorem q_min {tys : Array TypeId} (hx : ev ρ x = .int .i64 a) (hy : ev ρ y = .int .i64 b) : OpQ P ρ H ⟨d, .call { callee := .builtin .min, args := #[x, y], argTypes := tys }, ty, p, e, g⟩ (.int .i64 (min a b)) := fun w _ => by
  have : (if b < a then b else a) = min a b := by rw [Int.min_def]; split <;> split <;> omega
  simp [execOp, resolve, invoke, builtin, hx, hy, Builtin.min_, Builtin.min2, this]
/-- a part of a struct's value -/
class TPart (P : Program) (t : TypeId) (f : Nat) (off : outParam Nat) : Prop where
  run : ∀ (cs : List Value) v w, cs[off]? = some v → (Instr.field t (.agg cs.toArray) f).run P w = .ok v w
theorem TPart.of {t : TypeId} {fs : Array Field} {f off : Nat} {fd : Field} (ht : P.underlying t = some (.struct fs)) (hf : fs[f]? = some fd) (ho : fd.offset = off) (hs : ∀ w, (isAgg fd.type).run P w = .ok false w) : TPart P t f off := ⟨fun cs v w hv => by
  simp [Instr.field, run_underlying ht, hf, asAgg, part, hs, ho, hv]⟩
theorem q_field {t : TypeId} {f off : Nat} {cs : List Value} {v : Value} [TPart P t f off] (hx : ev ρ x = .agg cs.toArray) (hv : cs[off]? = some v) : OpQ P ρ H ⟨d, .field t x f, ty, p, e, g⟩ v := fun w _ => by
  simp [execOp, hx, TPart.run (P := P) (t := t) cs v w hv]
end
/-! ### Within a block of one's own -/
theorem run_loadCells' {a : Addr} {cs : List Value} {w : World} (h : Cells w.heap a cs) (n : Nat) (hn : n ≤ cs.length) : (loadCells a n).run P w = .ok (cs.take n).toArray w := by
  have hr := run_loadCells (P := P) (a := a) (cs := cs) n 0 #[] w (fun j hj => by rw [Nat.zero_add]; exact h j (by omega))
  have hl : (List.range' 0 n).map (fun j => cs.getD j undef) = cs.take n := by
    apply List.ext_getElem?
    intro i
    by_cases hi : i < n
    · simp [hi, List.getD, show i < cs.length by omega]
    · simp [hi]; omega
  rw [hl] at hr
  simpa [loadCells] using hr
/-- copy, into a block of one's own -/
theorem st_copy {α : Type} [Cell α] {x y : Operand} {t el : TypeId} {dd : Tmp} [TSlice P t el] [TSize P el (Cell.sz α)] {b o dn dc n : Nat} {te : TypeId} {cs : List Value} {u : Value} {ys : List α} (hx : ev ρ x = .slice (some ⟨b, o, none⟩) dn dc) (hy : ev ρ y = u)
    (hb : Blk H b te cs) (hu : SlE H u ys) (hn : n = min ys.length dn) (hroom : o + n * Cell.sz α ≤ cs.length) (hst : MayWrite st l)
    (h : ∀ H', Mut (· = b) H H' → H'.size = H.size → Blk H' b te (setAt cs o ((ys.take n).flatMap enc)) → WL P ops st Q l (upd ρ dd (.int .i64 n)) H') :
    WL P ops st Q (⟨some dd, .call { callee := .builtin .copy, args := #[x, y], argTypes := #[t, t] }, ty, p, e, none⟩ :: l) ρ H := by
  refine st_w rfl (OpW.of_run fun w hw => ?_)
  subst hw
  have hlen : ((ys.take n).flatMap enc).length = n * Cell.sz α := by rw [flat_length, List.length_take, Nat.min_eq_left (by omega)]
  obtain ⟨w', hr, hl, hB, hm, hs⟩ := run_storeCells_blk (P := P) ((ys.take n).flatMap enc) 0 cs w hb (j := o) (by rw [hlen]; omega) (by
    intro v hv
    obtain ⟨z, _, hz⟩ := List.mem_flatMap.1 hv
    exact Cell.one z v hz)
  rw [Nat.add_zero] at hB
  refine ⟨.int .i64 n, w', ?_, hl, fun m hm' hle => absurd hle (hst m hm'), h _ hm hs hB⟩
  have hload : (Builtin.lenOf u).run P w = .ok ys.length w ∧ (Builtin.firstCells (Cell.sz α) n u).run P w = .ok ((ys.take n).flatMap enc).toArray w := by
    rcases hu.2 with ⟨rfl, h0⟩ | ⟨a, cap, rfl, hle, _, hc⟩
    · have : ys = [] := List.eq_nil_of_length_eq_zero h0
      subst this
      refine ⟨by simp [Builtin.lenOf], ?_⟩
      simp [Builtin.firstCells]
    · refine ⟨by simp [Builtin.lenOf], ?_⟩
      have := run_loadCells' (P := P) hc (n * Cell.sz α) (by rw [flat_length]; exact Nat.mul_le_mul_right _ (by omega))
      rw [← flat_take] at this
      simpa [Builtin.firstCells] using this
  have hnm : ys.length.min dn = n := by rw [hn]
  simp [execOp, resolve, invoke, builtin, hx, hy, Builtin.copy_, run_underlying (TSlice.und (P := P) (t := t)), hload.1, hnm, TSize.run (P := P) (t := el), hload.2, hr, goInt]
/-- clear, within a block of one's own -/
theorem st_clear {x : Operand} {t el : TypeId} [TSlice P t el] {z : List Value} [TZero P el z] {v : Value} {b o n : Nat} {te : TypeId} {cs : List Value} (hx : ev ρ x = v) (hv : (∃ a c, v = .slice a 0 c) ∨ ∃ c, v = .slice (some ⟨b, o, none⟩) n c)
    (hb : Blk H b te cs) (hroom : o + n * z.length ≤ cs.length) (h1 : ∀ u ∈ z, u.oneCell' = true) (hst : MayWrite st l)
    (h : ∀ H', Mut (· = b) H H' → H'.size = H.size → (H' = H ∨ Blk H' b te (setAt cs o (List.replicate n z).flatten)) → WL P ops st Q l ρ H') :
    WL P ops st Q (⟨none, .call { callee := .builtin .clear, args := #[x], argTypes := #[t] }, ty, p, e, none⟩ :: l) ρ H := by
  refine st_w rfl (OpW.of_run fun w hw => ?_)
  subst hw
  by_cases h0 : ∃ a c, v = .slice a 0 c
  · obtain ⟨a, c, rfl⟩ := h0
    refine ⟨.tuple #[], w, ?_, Like.refl _, fun m hm' hle => absurd hle (hst m hm'), h _ (Mut.refl _ _) rfl (.inl rfl)⟩
    cases a <;> simp [execOp, resolve, invoke, builtin, hx, Builtin.clear_, run_underlying (TSlice.und (P := P) (t := t))]
  · obtain ⟨c, rfl⟩ := hv.resolve_left h0
    have hn0 : n ≠ 0 := fun hn => h0 ⟨some ⟨b, o, none⟩, c, by rw [hn]⟩
    obtain ⟨n', rfl⟩ := Nat.exists_eq_succ_of_ne_zero hn0
    obtain ⟨zv, hz, hzc⟩ := TZero.run (P := P) (t := el) (z := z) w
    have hlen : (List.replicate (n' + 1) z).flatten.length = (n' + 1) * z.length := by simp
    have hzr := zeroRow z (n' + 1)
    have hcells : Builtin.zeroCells zv.cells (n' + 1) = (List.replicate (n' + 1) z).flatten.toArray := by
      unfold Builtin.zeroCells
      rw [hzc]
      apply Array.toList_inj.1
      simpa using hzr
    obtain ⟨w', hr, hl, hB, hm, hs⟩ := run_storeCells_blk (P := P) (List.replicate (n' + 1) z).flatten 0 cs w hb (j := o) (by rw [hlen]; omega) (by
      intro u hu
      obtain ⟨a, ha, hu⟩ := List.mem_flatten.1 hu
      rw [(List.mem_replicate.1 ha).2] at hu
      exact h1 u hu)
    rw [Nat.add_zero] at hB
    refine ⟨.tuple #[], w', ?_, hl, fun m hm' hle => absurd hle (hst m hm'), h _ hm hs (.inr hB)⟩
    simp [execOp, resolve, invoke, builtin, hx, Builtin.clear_, run_underlying (TSlice.und (P := P) (t := t)), hz, hcells, hr]
set_option maxRecDepth 20000 in
/-- append(row, make(..)..), where the row must grow -/
theorem st_appendG {x y : Operand} {t t' el : TypeId} {k : IntKind} {bytes : Nat} {α : Type} [Cell α] [TSlice P t el] [TInt P t' k] [TElem P el α bytes] {zz : List Value} [TZero P el zz] {dd : Tmp} {m : Int} {B gg cap : Nat} {xs : List α} (za : α) (hzz : zz = enc za)
    (hv : Own H B el (.slice (some ⟨gg, 0, none⟩) xs.length cap) xs) (hx : ev ρ x = .slice (some ⟨gg, 0, none⟩) xs.length cap) (hy : ev ρ y = .int .i64 m)
    (hm : 0 < m) (hgrow : (cap : Int) < xs.length + m) (hb : (xs.length + m) * bytes ≤ 140737488355328) (hlen : xs.length + m ≤ 9223372036854775807)
    (h : ∀ v' H', Own H' H.size el v' (xs ++ List.replicate m.toNat za) → Ext H H' → (∃ c, v' = .slice (some ⟨H.size, 0, none⟩) (xs.length + m.toNat) c) → WL P ops st Q l (upd ρ dd v') H') :
    WL P ops st Q (⟨some dd, .call { callee := .builtin .append, args := #[x, y], argTypes := #[t, t'] }, ty, p, e, none⟩ :: l) ρ H := by
  refine st_w rfl (OpW.of_run fun w hw => ?_)
  subst hw
  obtain ⟨i, z, hi, hz, hsize, hby, hzs⟩ := TElem.info (P := P) (el := el) (α := α) (bytes := bytes)
  have ht := TSlice.und (P := P) (t := t) (el := el)
  have ht' := TInt.und (P := P) (t := t')
  have hpos := TElem.pos (P := P) (el := el) (α := α) (bytes := bytes)
  obtain ⟨q, rfl⟩ : ∃ q : Nat, m = q := ⟨m.toNat, by omega⟩
  simp only [Int.toNat_natCast] at h
  obtain ⟨zv, hzv, hzc⟩ := TZero.run (P := P) (t := el) (z := zz) w
  have hzz' : z = zv := by
    simp only [zeroValue, typeInfo, Sem.run_bind, run_program, Result.andThen_ok, hi, Sem.run_pure, hz] at hzv
    simpa using hzv
  have hzcells : z.cells = (enc za).toArray := by rw [hzz', hzc, hzz]
  have hwr : IntKind.i64.wrap (q : Int) = q := wrap64_id (by omega)
  have hb' : (xs.length + q) * i.bytes ≤ 140737488355328 := by
    have e1 : (((xs.length + q) * bytes : Nat) : Int) = (xs.length + q) * bytes := by rw [Int.natCast_mul, Int.natCast_add]
    rw [← e1] at hb
    rw [hby]; omega
  have h48i : ¬ ((281474976710656 : Int) < q * i.bytes) := by
    have : q * i.bytes ≤ (xs.length + q) * i.bytes := Nat.mul_le_mul_right _ (by omega)
    have h2 : ((q * i.bytes : Nat) : Int) = q * i.bytes := by simp
    omega
  have hneg : ¬ ((q : Int) < 0) := by omega
  have hneed : ¬ (xs.length + q ≤ cap) := by omega
  have h63 : ¬ ((9223372036854775807 : Int) < xs.length + q) := by omega
  have hfit : ¬ (281474976710656 < Builtin.nextslicecap (xs.length + q) cap * i.bytes) := by
    have := growslice_fits (need := xs.length + q) (old := cap) (bytes := i.bytes) (by omega) hb'
    omega
  have hge := grownCap_ge w (xs.length + q) cap el
  have hle := grownCap_le_maxLen w (xs.length + q) cap el (by unfold maxLen; omega)
  have hold : (loadCells ⟨gg, 0, none⟩ (xs.length * i.size)).run P w.drew = .ok (xs.flatMap enc).toArray w.drew := by
    have hsl := hv.sl
    rcases hsl.2 with ⟨h0, _⟩ | ⟨a, c, he, _, _, hc⟩
    · cases h0
    · cases he
      have := run_loadCells' (P := P) (w := w.drew) (a := ⟨gg, 0, none⟩) (cs := xs.flatMap enc) hc (xs.length * i.size) (by rw [flat_length, hsize]; exact Nat.le_refl _)
      rwa [List.take_of_length_le (by rw [flat_length, hsize]; exact Nat.le_refl _)] at this
  have hnew : Builtin.zeroCells z.cells q = ((List.replicate q za).flatMap enc).toArray := by
    unfold Builtin.zeroCells
    rw [hzcells]
    apply Array.toList_inj.1
    have := zeroRow (enc za) q
    rw [List.flatMap_def, List.map_replicate]
    simpa using this
  have hzl : ∀ r, (Builtin.zeroCells z.cells r).size = r * Cell.sz α := fun r => by simp [Builtin.zeroCells, hzs]
  have hsz0 : ¬ (q * i.size = 0) := by
    rw [hsize]; intro h0
    rcases Nat.mul_eq_zero.1 h0 with h1 | h1 <;> omega
  have hq0 : ¬ (q = 0) := by omega
  refine ⟨.slice (some ⟨w.heap.size, 0, none⟩) (xs.length + q) (grownCap w (xs.length + q) cap el), w.drew.alloc (.cells ((xs.flatMap enc).toArray ++ Builtin.zeroCells z.cells q ++ Builtin.zeroCells z.cells (grownCap w (xs.length + q) cap el - (xs.length + q))) el), ?_, ⟨rfl, rfl, rfl, Nat.le_succ _⟩, fun _ _ _ => Ext.push _ _, h _ _ ?_ (Ext.push _ _) ⟨_, rfl⟩⟩
  · simp [execOp, resolve, invoke, builtin, hx, hy, Builtin.append_, run_underlying ht, run_underlying ht', sizeOf, typeInfo, zeroValue, hi, hz, asInt, asIntOf, hwr, hneg, h48i, hneed, h63, hfit, Question.forced, Builtin.firstCells, hold, hsz0, hq0, newRow, grownCap, askRoom]
  · have hl : (xs ++ List.replicate q za).length = xs.length + q := by simp
    refine ⟨flat_length _, .inr ⟨w.heap.size, grownCap w (xs.length + q) cap el, (xs.flatMap enc).toArray ++ Builtin.zeroCells z.cells q ++ Builtin.zeroCells z.cells (grownCap w (xs.length + q) cap el - (xs.length + q)), by rw [hl], Nat.le_refl _, ?_, by rw [hl]; exact hge, hle, ?_, ?_⟩⟩
    · show (w.heap.push _)[w.heap.size]? = _
      simp
    · rw [Array.size_append, Array.size_append, hzl, hzl, List.size_toArray, flat_length, ← Nat.add_mul, ← Nat.add_mul]
      congr 1; omega
    · rw [hl, hnew, List.flatMap_append]
      have e1 : (xs.length + q) * Cell.sz α = ((xs.flatMap enc) ++ ((List.replicate q za).flatMap enc)).length := by rw [List.length_append, flat_length, flat_length, List.length_replicate, Nat.add_mul]
      rw [e1, Array.toList_append, Array.toList_append]
      exact List.take_left
end Go.TM
