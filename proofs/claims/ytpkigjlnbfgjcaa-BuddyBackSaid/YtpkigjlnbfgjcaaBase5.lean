/- More laws: reslicing, make, literals, stores into rows, maps; no condition. -/
import Derived.Test.YtpkigjlnbfgjcaaBase4
namespace Go.TM
open _root_.Go.TM.Cell (enc)
variable {P : Program} {N : Nat} {Q : Env → Heap → Prop} {ρ : Env} {H H' H'' : Heap} {ops : Array Oper} {st : Option Nat} {l : List Oper}
variable {d : Option Tmp} {ty : TypeId} {p : String} {e : Array Edge} {g : Option (Nat × Bool)}

/-! ### Reslicing -/
/-- v[l:h] -/
def resl (v : Value) (sz l h : Nat) : Value := match v with
  | .slice a _ cap => .slice (if cap = l then a else a.map (·.add (l * sz))) (h - l) (cap - l)
  | v => v

theorem flat_drop {α : Type} [Cell α] (xs : List α) (k : Nat) : (xs.drop k).flatMap enc = (xs.flatMap enc).drop (k * Cell.sz α) := by
  induction xs generalizing k with
  | nil => simp
  | cons x xs ih =>
    cases k with
    | zero => simp
    | succ k =>
      simp only [List.drop_succ_cons, List.flatMap_cons, ih]
      rw [show (k + 1) * Cell.sz α = (enc x).length + k * Cell.sz α by rw [Cell.len, Nat.succ_mul]; omega, List.drop_length_add_append]
theorem flat_take {α : Type} [Cell α] (xs : List α) (k : Nat) : (xs.take k).flatMap enc = (xs.flatMap enc).take (k * Cell.sz α) := by
  induction xs generalizing k with
  | nil => simp
  | cons x xs ih =>
    cases k with
    | zero => simp
    | succ k =>
      simp only [List.take_succ_cons, List.flatMap_cons, ih]
      rw [show (k + 1) * Cell.sz α = (enc x).length + k * Cell.sz α by rw [Cell.len, Nat.succ_mul]; omega, List.take_length_add_append]

theorem SlE.resl {α : Type} [Cell α] {v : Value} {xs : List α} (h : SlE H v xs) (l k : Nat) (hl : l ≤ k) (hk : k ≤ xs.length) : SlE H (resl v (Cell.sz α) l k) ((xs.take k).drop l) := by
  have hlen : ((xs.take k).drop l).length = k - l := by simp; omega
  refine ⟨by rw [flat_length], ?_⟩
  rw [hlen]
  rcases h.2 with ⟨rfl, h0⟩ | ⟨a, cap, rfl, h1, h2, hc⟩
  · left
    have : k = 0 := by omega
    have : l = 0 := by omega
    subst_vars
    exact ⟨rfl, rfl⟩
  · right
    by_cases hcl : cap = l
    · refine ⟨a, cap - l, by simp [TM.resl, hcl], by omega, by omega, fun j hj => ?_⟩
      rw [flat_length, hlen] at hj
      have : k - l = 0 := by omega
      rw [this] at hj; omega
    · refine ⟨a.add (l * Cell.sz α), cap - l, by simp [TM.resl, hcl], by omega, by omega, fun j hj => ?_⟩
      rw [flat_length, hlen] at hj
      rw [flat_drop, flat_take]
      have hj2 : l * Cell.sz α + j < k * Cell.sz α := by
        have : (k - l) * Cell.sz α + l * Cell.sz α = k * Cell.sz α := by rw [← Nat.add_mul]; congr 1; omega
        omega
      have hj3 : l * Cell.sz α + j < (xs.flatMap enc).length := by
        rw [flat_length]
        exact Nat.lt_of_lt_of_le hj2 (Nat.mul_le_mul_right _ hk)
      have := hc (l * Cell.sz α + j) hj3
      rw [add_add, this]
      congr 1
      simp only [List.getD_eq_getElem?_getD, List.getElem?_drop, List.getElem?_take, if_pos hj2]

theorem Own.take {α : Type} [Cell α] {B : Nat} {el : TypeId} {v : Value} {xs : List α} (h : Own H B el v xs) (k : Nat) (hk : k ≤ xs.length) : Own H B el (TM.resl v (Cell.sz α) 0 k) (xs.take k) := by
  have hlen : (xs.take k).length = k := by simp; omega
  refine ⟨by rw [flat_length], ?_⟩
  rw [hlen]
  rcases h.2 with ⟨rfl, h0⟩ | ⟨gg, cap, cur, rfl, hb, hg, hnc, hcm, hcs, htake⟩
  · left
    have : k = 0 := by omega
    subst this
    exact ⟨rfl, rfl⟩
  · refine .inr ⟨gg, cap, cur, ?_, hb, hg, by omega, hcm, hcs, ?_⟩
    · by_cases h0 : cap = 0 <;> simp [TM.resl, h0, add_zero]
    · rw [flat_take, ← htake, List.take_take]
      congr 1
      exact (Nat.min_eq_left (Nat.mul_le_mul_right _ hk)).symm

/-- a bound of a slice expression, where it is written -/
inductive BV (ρ : Env) (dflt : Nat) : Option Operand → Nat → Prop
  | none : BV ρ dflt none dflt
  | some {x : Operand} {k : IntKind} {i : Int} (h : ev ρ x = .int k i) (h0 : 0 ≤ i) : BV ρ dflt (some x) i.toNat

theorem sliceBound_run {x : Value} {k : IntKind} {i : Int} {y : Nat} {code : BoundsCode} (hx : x = .int k i) (h0 : 0 ≤ i) (hy : i.toNat ≤ y) (w : World) : (Instr.sliceBound x y code).run P w = .ok i.toNat w := by
  have : i ≤ y := by omega
  subst hx
  simp [Instr.sliceBound, asIntOf, h0, this]

theorem q_slice {x : Operand} {t el : TypeId} {n sz lo hi : Nat} {olo ohi : Option Operand} [TSlice P t el] [TSize P el sz] {v : Value} (hx : ev ρ x = v) (h : LenIs v n)
    (hlo : BV ρ 0 olo lo) (hhi : BV ρ n ohi hi) (hb : lo ≤ hi ∧ hi ≤ n) (hcap : ∀ a m c, v = .slice a m c → n ≤ c) : OpQ P ρ H ⟨d, .slice t x olo ohi none, ty, p, e, g⟩ (resl v sz lo hi) := fun w _ => by
  obtain ⟨a, cap, rfl, _⟩ := h
  have hc := hcap a n cap rfl
  have hund := run_underlying (P := P) (TSlice.und (P := P) (t := t)) (w := w)
  have hl : (Instr.sliceBounds true n cap (olo.map (ev ρ)) (ohi.map (ev ρ)) none).run P w = .ok (lo, hi, cap) w := by
    cases hlo with
    | none =>
      cases hhi with
      | none => simp [Instr.sliceBounds]
      | some hi' h0' => simp [Instr.sliceBounds, sliceBound_run hi' h0' (by omega : _ ≤ cap)]
    | some hl' h0 =>
      cases hhi with
      | none => simp [Instr.sliceBounds, sliceBound_run hl' h0 hb.1]
      | some hi' h0' => simp [Instr.sliceBounds, sliceBound_run hi' h0' (by omega : _ ≤ cap), sliceBound_run hl' h0 hb.1]
  simp [execOp, hx, Instr.sliceAt, Instr.slice, hund, hl, TSize.run (P := P) (t := el), resl]

theorem SlE.capIs {α : Type} [Cell α] {v : Value} {xs : List α} (h : SlE H v xs) : ∀ a m c, v = .slice a m c → xs.length ≤ c := by
  intro a m c hv
  rcases h.2 with ⟨h1, h0⟩ | ⟨a', cap, h1, h2, _⟩
  · omega
  · rw [hv] at h1; cases h1; exact h2

/-! ### make and literals -/
theorem range0 (f : Nat → Value) : (Array.range 0).map f = #[] := by
  apply Array.eq_empty_of_size_eq_zero; simp
theorem zeroRow (z : List Value) (n : Nat) : ((Array.range (n * z.length)).map (z.toArray[· % z.toArray.size]!)).toList = (List.replicate n z).flatten := by
  apply List.ext_getElem?
  intro i
  have hlen : (List.replicate n z).flatten.length = n * z.length := by simp
  by_cases hi : i < n * z.length
  · have hz : 0 < z.length := by
      rcases Nat.eq_zero_or_pos z.length with h | h
      · rw [h, Nat.mul_zero] at hi; omega
      · exact h
    have hm : i % z.length < z.length := Nat.mod_lt _ hz
    have key : ∀ (n i : Nat), i < n * z.length → (List.replicate n z).flatten[i]? = z[i % z.length]? := by
      intro n
      induction n with
      | zero => intro i hi; simp at hi
      | succ n ih =>
        intro i hi
        rw [List.replicate_succ, List.flatten_cons]
        by_cases h : i < z.length
        · rw [List.getElem?_append_left h, Nat.mod_eq_of_lt h]
        · rw [List.getElem?_append_right (by omega), ih (i - z.length) (by rw [Nat.succ_mul] at hi; omega), ← Nat.mod_eq_sub_mod (by omega)]
    rw [key n i hi]
    simp [hi, hm]
  · have h2 : (List.replicate n z).flatten[i]? = none := List.getElem?_eq_none (by rw [hlen]; omega)
    rw [h2, List.getElem?_eq_none]
    simp; omega

theorem own_new {α : Type} [Cell α] {B : Nat} {el : TypeId} {xs : List α} {cap : Nat} {cs : List Value} (hB : B ≤ H.size) (hc : cap ≤ maxLen) (hn : xs.length ≤ cap) (hl : cs.length = cap * Cell.sz α) (ht : cs.take (xs.length * Cell.sz α) = xs.flatMap enc) :
    Own (H.push (.cells cs.toArray el (0, 0))) B el (.slice (some ⟨H.size, 0, none⟩) xs.length cap) xs :=
  ⟨flat_length xs, .inr ⟨H.size, cap, cs.toArray, rfl, hB, by simp, hn, hc, by simpa using hl, by simpa using ht⟩⟩

theorem st_make {α : Type} [Cell α] {x y : Operand} {t el : TypeId} {bytes : Nat} [TSlice P t el] [TElem P el α bytes] {dd : Tmp} {k k' : IntKind} {n : Int} (z : α) (hx : ev ρ x = .int k n) (hy : ev ρ y = .int k' n) (hz : ∀ w, ∃ v, (zeroValue el).run P w = .ok v w ∧ v.cells = (enc z).toArray)
    (hn : 0 ≤ n ∧ n ≤ 2147483647) (hb : bytes ≤ 1024)
    (h : ∀ v' H', Own H' H.size el v' (List.replicate n.toNat z) → Ext H H' → v' ≠ .slice none 0 0 → WL P ops st Q l (upd ρ dd v') H') :
    WL P ops st Q (⟨some dd, .makeSlice t x y, ty, p, e, none⟩ :: l) ρ H := by
  refine st_w rfl (OpW.of_run fun w hw => ?_)
  subst hw
  obtain ⟨i, zv, hi, hzz, hsize, hby, hzs⟩ := TElem.info (P := P) (el := el) (α := α) (bytes := bytes)
  have hpos := TElem.pos (P := P) (el := el) (α := α) (bytes := bytes)
  obtain ⟨v, hv, hvc⟩ := hz w
  have hw64 : IntKind.i64.wrap n = n := wrap64_id (by omega)
  have hbn : (bytes : Int) * n ≤ 1024 * 2147483647 := Int.mul_le_mul (by omega) hn.2 hn.1 (by omega)
  have hbn0 : (0 : Int) ≤ bytes * n := Int.mul_nonneg (by omega) hn.1
  have hroom : ¬ roomBytes < n.toNat * bytes := by
    have : ((n.toNat * bytes : Nat) : Int) = bytes * n := by rw [Int.natCast_mul, Int.toNat_of_nonneg hn.1, Int.mul_comm]
    unfold roomBytes
    omega
  have hsz2 : (sizeOf el).run P w = .ok (Cell.sz α) w := by simp [sizeOf, typeInfo, hi, hsize]
  have hcells : (if n.toNat * Cell.sz α = 0 then (pure #[] : Sem (Array Value)) else do pure (← zeroValue el).cells).run P w = .ok (if n.toNat * Cell.sz α = 0 then #[] else (enc z).toArray) w := by
    split <;> simp [hv, hvc]
  refine ⟨.slice (some ⟨w.heap.size, 0, none⟩) n.toNat n.toNat, { w with heap := w.heap.push (.cells ((List.replicate n.toNat (enc z)).flatten).toArray el (0, 0)) }, ?_, ⟨rfl, rfl, rfl, Nat.le_refl _⟩, fun _ _ _ => Ext.push _ _, h _ _ ?_ (Ext.push _ _) (by simp)⟩
  · have e1 : ((Array.range (n.toNat * Cell.sz α)).map ((if n.toNat * Cell.sz α = 0 then #[] else (enc z).toArray)[· % (if n.toNat * Cell.sz α = 0 then #[] else (enc z).toArray).size]!)) = ((List.replicate n.toNat (enc z)).flatten).toArray := by
      by_cases h0 : n.toNat * Cell.sz α = 0
      · have : n.toNat = 0 := (Nat.mul_eq_zero.1 h0).resolve_right (by omega)
        simp [this]
      · simp only [h0, if_false]
        apply Array.toList_inj.1
        have := zeroRow (enc z) n.toNat
        rw [Cell.len] at this
        simpa using this
    simp only [execOp, hx, hy, Instr.makeSlice, Sem.run_bind, run_underlying (TSlice.und (P := P) (t := t)), Result.andThen_ok, asInt, asIntOf, Sem.run_pure, typeInfo, hi, hby, hw64]
    simp only [run_program, Result.andThen_ok, hi, Sem.run_pure]
    have c1 : ¬ (n < 0) := by omega
    have c2 : ¬ ((bytes : Int) * n > 2 ^ 48) := by omega
    have c3 : ¬ ((281474976710656 : Int) < bytes * n) := by omega
    simp [c1, c2, askRoom, hroom, hsz2, hby]
    rw [if_neg c3]
    by_cases h0 : n.toNat * Cell.sz α = 0
    · rw [if_pos h0]
      have : n.toNat = 0 := (Nat.mul_eq_zero.1 h0).resolve_right (by omega)
      rw [this]
      simp [newRow, newObj, Sem.run, range0]
    · rw [if_neg h0]
      simp only [h0, if_false] at e1
      rw [← hvc] at e1
      simp only [hv, Result.andThen_ok, e1]
      simp [newRow, newObj, Sem.run]
  · have hl : (List.replicate n.toNat z).length = n.toNat := by simp
    have := own_new (α := α) (H := w.heap) (B := w.heap.size) (el := el) (xs := List.replicate n.toNat z) (cap := n.toNat) (cs := (List.replicate n.toNat (enc z)).flatten) (Nat.le_refl _) (by unfold maxLen; omega) (by simp) (by simp [Cell.len]) (by
      rw [List.take_of_length_le (by simp [Cell.len])]
      simp [List.flatMap_def])
    rw [hl] at this
    exact this


/-- a literal of a slice -/
def litL (sz : Nat) : List Value → List (Nat × Value) → Option (List Value)
  | cs, [] => some cs
  | cs, (i, v) :: r => if v.cells.size ≠ sz || i * sz + v.cells.size > cs.length then none else litL sz (setAt cs (i * sz) v.cells.toList) r
theorem lit_eq (sz : Nat) (ps : List (Nat × Value)) : ∀ cs, Instr.fill (fun i => some (i * sz, sz)) cs.toArray ps = (litL sz cs ps).map List.toArray := by
  induction ps with
  | nil => intro cs; rfl
  | cons p ps ih =>
    intro cs
    obtain ⟨i, v⟩ := p
    simp only [Instr.fill, litL, List.size_toArray]
    split
    · rfl
    · rw [← ih]
      congr 1
      have := fold_setAt v.cells.toList cs (i * sz) 0
      rw [← Array.foldl_toList, Array.toList_zipIdx]
      exact this

theorem st_litc {α : Type} [Cell α] {t el : TypeId} {sz n : Nat} [TSlice P t el] [TSize P el sz] {dd : Tmp} {z : List Value} [TZero P el z] {ps : List (Nat × Operand)} {pvs : List (Nat × Value)} (xs : List α) (hn : xs.length = n) (hsz : sz = Cell.sz α) (hz : z.length = sz) (hsm : n * sz ≤ 16777216) (hpos : 0 < Cell.sz α)
    (hp : PV ρ ps pvs) (hb : litL sz (List.replicate n z).flatten pvs = some (xs.flatMap enc))
    (h : ∀ v' H', v' = .slice (some ⟨H.size, 0, none⟩) xs.length xs.length → Own H' H.size el v' xs → Ext H H' → WL P ops st Q l (upd ρ dd v') H') :
    WL P ops st Q (⟨some dd, .buildSlice t n ps.toArray, ty, p, e, none⟩ :: l) ρ H := by
  refine st_w rfl (OpW.of_run fun w hw => ?_)
  subst hw
  obtain ⟨v, hv, hvc⟩ := TZero.run (P := P) (t := el) (z := z) w
  have hlen : (xs.flatMap enc).length = n * sz := by rw [flat_length, hn, hsz]
  have hown : Own (w.heap.push (.cells (xs.flatMap enc).toArray el (0, 0))) w.heap.size el (.slice (some ⟨w.heap.size, 0, none⟩) n n) xs := by
    have := own_new (α := α) (H := w.heap) (B := w.heap.size) (el := el) (xs := xs) (cap := n) (cs := xs.flatMap enc) (Nat.le_refl _) (by
      unfold maxLen
      have h0 : 0 < sz := by rw [hsz]; exact hpos
      have : n ≤ n * sz := Nat.le_mul_of_pos_right _ h0
      omega) (by omega) (by rw [hlen, hsz]) (by rw [List.take_of_length_le (by rw [flat_length]; exact Nat.le_refl _)])
    rw [hn] at this
    exact this
  refine ⟨.slice (some ⟨w.heap.size, 0, none⟩) n n, { w with heap := w.heap.push (.cells (xs.flatMap enc).toArray el (0, 0)) }, ?_, ⟨rfl, rfl, rfl, Nat.le_refl _⟩, fun _ _ _ => Ext.push _ _, h _ _ (by rw [hn]) hown (Ext.push _ _)⟩
  have hf := lit_eq sz pvs (List.replicate n z).flatten
  rw [hb] at hf
  simp only [Option.map_some] at hf
  have hsm' : ¬ (16777216 < n * sz) := by omega
  by_cases h0 : n * sz = 0
  · have hfl : (List.replicate n z).flatten = [] := List.eq_nil_of_length_eq_zero (by simp [hz, h0])
    rw [hfl] at hf
    simp [execOp, hp.map, Instr.buildSlice, run_underlying (TSlice.und (P := P) (t := t)), TSize.run (P := P) (t := el), hsm', h0, range0, hf, newRow, newObj, Sem.run]
  · have hr : ((Array.range (n * sz)).map fun x => z.toArray[x % z.toArray.size]!) = ((List.replicate n z).flatten).toArray := by
      apply Array.toList_inj.1
      have := zeroRow z n
      rw [hz] at this
      exact this
    simp only [List.size_toArray, hz] at hr
    simp [execOp, hp.map, Instr.buildSlice, run_underlying (TSlice.und (P := P) (t := t)), TSize.run (P := P) (t := el), hsm', h0, hv, hvc, hz]
    have hr' : (Array.range (n * sz)).map (fun x => z[x % sz]?.getD default) = ((List.replicate n z).flatten).toArray := by simpa using hr
    rw [hr', hf]
    simp [newRow, newObj, Sem.run]

theorem st_lit {α : Type} [Cell α] {t el : TypeId} {sz n : Nat} [TSlice P t el] [TSize P el sz] {dd : Tmp} {z : List Value} [TZero P el z] {ps : List (Nat × Operand)} {pvs : List (Nat × Value)} (xs : List α) (hn : xs.length = n) (hsz : sz = Cell.sz α) (hz : z.length = sz) (hsm : n * sz ≤ 16777216) (hpos : 0 < Cell.sz α)
    (hp : PV ρ ps pvs) (hb : litL sz (List.replicate n z).flatten pvs = some (xs.flatMap enc))
    (h : ∀ v' H', Own H' H.size el v' xs → Ext H H' → v' ≠ .slice none 0 0 → WL P ops st Q l (upd ρ dd v') H') :
    WL P ops st Q (⟨some dd, .buildSlice t n ps.toArray, ty, p, e, none⟩ :: l) ρ H :=
  st_litc xs hn hsz hz hsm hpos hp hb fun v' H' he ho hx => h v' H' ho hx (by rw [he]; simp)
end Go.TM
