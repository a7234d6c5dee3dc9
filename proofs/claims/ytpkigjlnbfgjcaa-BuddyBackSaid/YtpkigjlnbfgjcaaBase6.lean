/- Stores into rows; maps; strings; no condition. -/
import Derived.Test.YtpkigjlnbfgjcaaBase5
namespace Go.TM
open _root_.Go.TM.Cell (enc)
variable {P : Program} {N : Nat} {Q : Env → Heap → Prop} {ρ : Env} {H H' H'' : Heap} {ops : Array Oper} {st : Option Nat} {l : List Oper}
variable {d : Option Tmp} {ty : TypeId} {p : String} {e : Array Edge} {g : Option (Nat × Bool)}

/-! ### A store into a row of one's own -/
theorem take_setAt (vs : List Value) : ∀ (cs : List Value) (k m : Nat), k + vs.length ≤ m → (setAt cs k vs).take m = setAt (cs.take m) k vs := by
  induction vs with
  | nil => intro cs k m _; rfl
  | cons v vs ih =>
    intro cs k m h
    simp only [List.length_cons] at h
    simp only [setAt]
    rw [ih _ _ _ (by omega), List.take_set]

theorem st_storeO {α : Type} [Cell α] {x y : Operand} {t el : TypeId} {n : Nat} [TSize P t n] {B off : Nat} {v u : Value} {xs : List α} {vs : List Value} {j : Int} (ys : List α) (hv : Own H B el v xs)
    (hx : ev ρ x = .pointer (some ((eAt v (Cell.sz α) j).add off))) (hj : 0 ≤ j ∧ j < xs.length) (hy : ev ρ y = u) (hu : u.cells = vs.toArray) (hn : vs.length = n) (h1 : ∀ c ∈ vs, c.oneCell' = true) (hoff : off + vs.length ≤ Cell.sz α)
    (hys : setAt (xs.flatMap enc) (j.toNat * Cell.sz α + off) vs = ys.flatMap enc) (hlen : ys.length = xs.length) (hst : MayWrite st l)
    (h : ∀ H', Mut (fun k => v.ownBlock = some k) H H' → H'.size = H.size → Own H' B el v ys → WL P ops st Q l ρ H') : WL P ops st Q (⟨none, .store t x y, ty, p, e, none⟩ :: l) ρ H := by
  refine st_w rfl (OpW.of_skip fun w hw => ?_)
  subst hw
  rcases hv.2 with ⟨_, h0⟩ | ⟨gg, cap, cur, rfl, hb, hg, hnc, hcm, hcs, htake⟩
  · omega
  · have hk : j.toNat * Cell.sz α + off + vs.length ≤ xs.length * Cell.sz α := by
      calc j.toNat * Cell.sz α + off + vs.length ≤ j.toNat * Cell.sz α + Cell.sz α := by omega
        _ = (j.toNat + 1) * Cell.sz α := by rw [Nat.succ_mul]
        _ ≤ xs.length * Cell.sz α := Nat.mul_le_mul_right _ (by omega)
    have hbl : Blk w.heap gg el cur.toList := by simpa [Blk] using hg
    have hcl : xs.length * Cell.sz α ≤ cur.toList.length := by
      simp only [Array.length_toList, hcs]
      exact Nat.mul_le_mul_right _ hnc
    obtain ⟨w', hr, hl, hB, hm, hs⟩ := run_storeCells_blk (P := P) (j := j.toNat * Cell.sz α + off) vs 0 cur.toList w hbl (by omega) h1
    rw [Nat.add_zero] at hB
    refine ⟨w', ?_, hl, fun m hm' hle => absurd hle (hst m hm'), h _ (hm.mono fun k _ hk => by subst hk; rfl) hs ?_⟩
    · have ha : (eAt (Value.slice (some ⟨gg, 0, none⟩) xs.length cap) (Cell.sz α) j).add off = ⟨gg, j.toNat * Cell.sz α + off, none⟩ := by
        simp only [eAt, adr, add_lit, Nat.zero_add]
      rw [ha] at hx
      simp [execOp, hx, hy, Instr.storeAt, Instr.sureAddr, storeVar, TSize.run (P := P) (t := t), hu, hn, hr]
    · refine ⟨flat_length ys, .inr ⟨gg, cap, (setAt cur.toList (j.toNat * Cell.sz α + off) vs).toArray, by rw [hlen], hb, hB, by omega, hcm, by simpa [setAt_length] using hcs, ?_⟩⟩
      rw [← hys, ← htake, hlen]
      exact take_setAt vs _ _ _ hk

theorem setAt_app (pre cs : List Value) (k : Nat) (vs : List Value) : setAt (pre ++ cs) (pre.length + k) vs = pre ++ setAt cs k vs := by
  induction vs generalizing cs k with
  | nil => rfl
  | cons v vs ih =>
    simp only [setAt]
    rw [List.set_append_right _ _ (by omega), show pre.length + k - pre.length = k by omega, Nat.add_assoc, ih]
theorem setAt_left (cs post : List Value) (k : Nat) (vs : List Value) (h : k + vs.length ≤ cs.length) : setAt (cs ++ post) k vs = setAt cs k vs ++ post := by
  induction vs generalizing cs k with
  | nil => rfl
  | cons v vs ih =>
    simp only [List.length_cons] at h
    simp only [setAt]
    rw [List.set_append_left _ _ (by omega), ih _ _ (by simp; omega)]
theorem setAt_all (vs cs : List Value) (h : cs.length = vs.length) : setAt cs 0 vs = vs := by
  have : ∀ (vs cs pre : List Value), cs.length = vs.length → setAt (pre ++ cs) pre.length vs = pre ++ vs := by
    intro vs
    induction vs with
    | nil => intro cs pre h; simp [setAt, List.eq_nil_of_length_eq_zero h]
    | cons v vs ih =>
      intro cs pre h
      cases cs with
      | nil => simp at h
      | cons c cs =>
        have := ih cs (pre ++ [v]) (by simpa using h)
        simp only [List.length_append, List.length_singleton, List.append_assoc, List.singleton_append] at this
        simp only [setAt]
        rw [List.set_append_right _ _ (Nat.le_refl _), Nat.sub_self, List.set_cons_zero]
        exact this
  exact this vs cs [] h
/-- one element anew, by its cells from off on -/
theorem setAt_flat {α : Type} [Cell α] (xs : List α) (i off : Nat) (a : α) (vs : List Value) (hi : i < xs.length) (hoff : off + vs.length ≤ Cell.sz α) (ha : setAt (enc (xs.getD i default)) off vs = enc a) :
    setAt (xs.flatMap enc) (i * Cell.sz α + off) vs = (xs.set i a).flatMap enc := by
  induction xs generalizing i with
  | nil => simp at hi
  | cons x xs ih =>
    cases i with
    | zero =>
      simp only [List.flatMap_cons, List.set_cons_zero, Nat.zero_mul, Nat.zero_add]
      simp only [List.getD_cons_zero] at ha
      rw [setAt_left _ _ _ _ (by rw [Cell.len]; exact hoff), ha]
    | succ i =>
      simp only [List.flatMap_cons, List.set_cons_succ]
      rw [show (i + 1) * Cell.sz α + off = (enc x).length + (i * Cell.sz α + off) by rw [Cell.len, Nat.succ_mul]; omega, setAt_app]
      rw [ih i (by simpa using hi) (by simpa using ha)]

/-! ### Maps -/
class MKey (κ : Type) where
  val : κ → Value
  dec : DecidableEq κ
  kind : TypeDesc
  same : ∀ a b, Instr.sameNow kind (val a) (val b) = some (decide (a = b))
  bits : ∀ a, Instr.sameBits 10000 (val a) (val a) = true
  check : ∀ (P : Program) (t : TypeId) (em : Bool) a w, P.underlying t = some kind → (Instr.checkKey em 10000 t (val a)).run P w = .ok () w

instance : MKey Int where
  val n := .int .i64 n
  dec := inferInstance
  kind := .int .i64
  same a b := by simp [Instr.sameNow]; rfl
  bits a := by simp [Instr.sameBits]
  check P t em a w h := by rw [show (10000 : Nat) = 9999 + 1 from rfl, Instr.checkKey]; simp [run_underlying h]
instance : MKey Bool where
  val n := .bool n
  dec := inferInstance
  kind := .bool
  same a b := by simp [Instr.sameNow]; rfl
  bits a := by simp [Instr.sameBits]
  check P t em a w h := by rw [show (10000 : Nat) = 9999 + 1 from rfl, Instr.checkKey]; simp [run_underlying h]
theorem ba_beq (a b : ByteArray) : (a == b) = true ↔ a = b := by
  show ByteArray.beq a b = true ↔ a = b
  unfold ByteArray.beq
  constructor
  · intro h
    apply ByteArray.ext
    simpa using h
  · rintro rfl; simp
structure StrK where
  s : ByteArray
deriving DecidableEq
instance : MKey StrK where
  val n := .string n.s
  dec := inferInstance
  kind := .string
  same a b := by
    simp only [Instr.sameNow, Option.some.injEq]
    rw [Bool.eq_iff_iff, ba_beq]; simp; cases a; cases b; simp
  bits a := by simp only [Instr.sameBits]; rw [ba_beq]
  check P t em a w h := by rw [show (10000 : Nat) = 9999 + 1 from rfl, Instr.checkKey]; simp [run_underlying h]
structure ByteK where
  n : Int
deriving DecidableEq
instance : MKey ByteK where
  val n := .int .u8 n.n
  dec := inferInstance
  kind := .int .u8
  same a b := by
    simp only [Instr.sameNow, if_true]
    congr 1
    rw [Bool.eq_iff_iff]; simp; cases a; cases b; simp
  bits a := by simp [Instr.sameBits]
  check P t em a w h := by rw [show (10000 : Nat) = 9999 + 1 from rfl, Instr.checkKey]; simp [run_underlying h]

section
variable {κ : Type} [MKey κ]
instance : DecidableEq κ := MKey.dec

/-- the entries' keys and values -/
def ents (es : List (κ × Value)) : List MapEntry → Prop
  | [] => es = []
  | m :: ms => ∃ k v r, es = (k, v) :: r ∧ m.key = MKey.val k ∧ m.val = v ∧ ents r ms

def findE (es : List (κ × Value)) (k : κ) : Option Value := match es with | [] => none | (k', v) :: r => if k = k' then some v else findE r k
def idxE (es : List (κ × Value)) (k : κ) (i : Nat) : Option (Nat × Value) := match es with | [] => none | (k', v) :: r => if k = k' then some (i, v) else idxE r k (i + 1)

theorem findNow_eq (k : κ) (ms : List MapEntry) : ∀ (es : List (κ × Value)) (i : Nat), ents es ms → Instr.findNow (MKey.kind κ) (MKey.val k) ms i = some (idxE es k i) := by
  induction ms with
  | nil => intro es i h; rw [show es = [] from h]; rfl
  | cons m ms ih =>
    rintro es i ⟨k', v, r, rfl, hk, hv, hr⟩
    simp only [Instr.findNow, hk, MKey.same, idxE, hv]
    by_cases he : k = k'
    · simp [he]
    · simp only [he, decide_false]
      rw [if_neg (by simp)]
      exact ih r (i + 1) hr

theorem idxE_find (es : List (κ × Value)) (k : κ) : ∀ i, (idxE es k i).map (·.2) = findE es k := by
  induction es with
  | nil => intro i; rfl
  | cons x r ih =>
    intro i
    obtain ⟨k', v⟩ := x
    simp only [idxE, findE]
    split
    · rfl
    · exact ih _

/-- The map in block r takes each key to what f says. -/
def MapF (H : Heap) (r : Nat) (f : κ → Option Value) : Prop :=
  ∃ ms clock es, H[r]? = some (.map ms clock) ∧ ents es ms.toList ∧ ∀ k, findE es k = f k

theorem MapF.lt {r : Nat} {f : κ → Option Value} (h : MapF H r f) : r < H.size := by
  obtain ⟨ms, clock, es, h, _⟩ := h; exact (Array.getElem?_eq_some_iff.1 h).1
theorem MapF.ext {r : Nat} {f : κ → Option Value} (h : MapF H r f) (he : Ext H H') : MapF H' r f := by
  obtain ⟨ms, clock, es, h, r⟩ := h; exact ⟨ms, clock, es, he.some h, r⟩
theorem MapF.mut {S : Nat → Prop} {r : Nat} {f : κ → Option Value} (h : MapF H r f) (he : Mut S H H') (hs : ¬ S r) : MapF H' r f := by
  have hl := h.lt
  obtain ⟨ms, clock, es, h, r⟩ := h; exact ⟨ms, clock, es, (he.block _ hl hs).trans h, r⟩

class TMap (P : Program) (t : TypeId) (κ : Type) [MKey κ] (z : outParam Value) : Prop where
  und : ∃ kt et, P.underlying t = some (.map kt et) ∧ P.underlying kt = some (MKey.kind κ) ∧ ∀ w, (zeroValue et).run P w = .ok z w

theorem q_lookup {t : TypeId} {x i : Operand} {z : Value} [TMap P t κ z] {r : Nat} {f : κ → Option Value} {k : κ} (hx : ev ρ x = .map (some r)) (hm : MapF H r f) (hi : ev ρ i = MKey.val k) :
    OpQ P ρ H ⟨d, .lookup t x i false, ty, p, e, g⟩ ((f k).getD z) := fun w hw => by
  obtain ⟨kt, et, h1, h2, h3⟩ := TMap.und (P := P) (t := t) (κ := κ) (z := z)
  obtain ⟨ms, clock, es, hr, hes, hf⟩ := hm
  have hr' : w.heap[r]? = some (.map ms clock) := hw.some hr
  have hfn := findNow_eq k ms.toList es 0 hes
  have hfk : (Instr.findKey kt (MKey.val k) ms.toList).run P w = .ok (idxE es k 0) w := by
    simp [Instr.findKey, run_underlying h2, hfn]
  have hck := fun em => MKey.check P kt em k w h2
  have hfd := idxE_find es k 0
  rw [hf] at hfd
  have hgo : (getObj r).run P w = .ok (.map ms clock) w := by simp [getObj, Sem.run, hr']
  simp only [execOp, hx, hi, Instr.lookup, Sem.run_bind, run_underlying h1, Result.andThen_ok, hgo, Sem.run_pure, hck, hfk]
  cases hidx : idxE es k 0 with
  | none =>
    rw [hidx] at hfd
    rw [← hfd]
    simp [h3]
  | some pr =>
    rw [hidx] at hfd
    rw [← hfd]
    simp

theorem st_makeMap {t : TypeId} {dd : Tmp}
    (h : ∀ r H', Ext H H' → H.size ≤ r → MapF H' r (fun _ : κ => none) → WL P ops st Q l (upd ρ dd (.map (some r))) H') : WL P ops st Q (⟨some dd, .makeMap t none, ty, p, e, none⟩ :: l) ρ H := by
  refine st_w rfl (OpW.of_run fun w hw => ?_)
  subst hw
  refine ⟨.map (some w.heap.size), { w with heap := w.heap.push (.map #[] 0) }, ?_, ⟨rfl, rfl, rfl, Nat.le_refl _⟩, fun _ _ _ => Ext.push _ _, h _ _ (Ext.push _ _) (Nat.le_refl _) ⟨#[], 0, [], by simp, rfl, fun _ => rfl⟩⟩
  simp [execOp, Instr.makeMap, newObj, Sem.run]

theorem ents_modify (ms : List MapEntry) (key v : Value) (k : κ) (hkey : key = MKey.val k) : ∀ (es : List (κ × Value)) (i j : Nat) (u : Value), ents es ms → idxE es k i = some (i + j, u) →
    ∃ es', ents es' (ms.modify j fun e => { e with key, val := v }) ∧ ∀ k', findE es' k' = if k' = k then some v else findE es k' := by
  induction ms with
  | nil => intro es i j u h hi; rw [show es = [] from h] at hi; simp [idxE] at hi
  | cons m ms ih =>
    rintro es i j u ⟨k', v', r, rfl, hk, hv, hr⟩ hi
    simp only [idxE] at hi
    by_cases he : k = k'
    · rw [if_pos he] at hi
      simp only [Option.some.injEq, Prod.mk.injEq] at hi
      have : j = 0 := by omega
      subst this
      subst he
      refine ⟨(k, v) :: r, ⟨k, v, r, rfl, by simp [hkey], by simp, by simpa using hr⟩, fun k'' => ?_⟩
      simp only [findE]
      by_cases h2 : k'' = k <;> simp [h2]
    · rw [if_neg he] at hi
      have hj : j ≠ 0 := by
        intro h0; subst h0
        have : ∀ (es : List (κ × Value)) (i : Nat) q, idxE es k i = some q → i ≤ q.1 := by
          intro es
          induction es with
          | nil => intro i q h; simp [idxE] at h
          | cons x es ih2 =>
            intro i q h
            simp only [idxE] at h
            split at h
            · cases h; exact Nat.le_refl _
            · have := ih2 _ _ h; omega
        have h9 := this _ _ _ hi
        simp only at h9
        omega
      obtain ⟨j, rfl⟩ := Nat.exists_eq_succ_of_ne_zero hj
      obtain ⟨es', h1, h2⟩ := ih r (i + 1) j u hr (by rw [hi]; congr 2; omega)
      refine ⟨(k', v') :: es', by rw [List.modify_succ_cons]; exact ⟨k', v', es', rfl, hk, hv, h1⟩, fun k'' => ?_⟩
      simp only [findE, h2]
      by_cases h3 : k'' = k'
      · rw [if_pos h3, if_pos h3, if_neg fun h => he (h.symm.trans h3)]
      · rw [if_neg h3, if_neg h3]

theorem ents_push (ms : List MapEntry) (m : MapEntry) (k : κ) (hk : m.key = MKey.val k) : ∀ (es : List (κ × Value)), ents es ms → findE es k = none →
    ∃ es', ents es' (ms ++ [m]) ∧ ∀ k', findE es' k' = if k' = k then some m.val else findE es k' := by
  induction ms with
  | nil =>
    intro es h _
    rw [show es = [] from h]
    exact ⟨[(k, m.val)], ⟨k, m.val, [], rfl, hk, rfl, rfl⟩, fun k' => by simp [findE]⟩
  | cons m' ms ih =>
    rintro es ⟨k', v', r, rfl, hk', hv', hr⟩ hn
    simp only [findE] at hn
    by_cases he : k = k'
    · rw [if_pos he] at hn; cases hn
    · rw [if_neg he] at hn
      obtain ⟨es', h1, h2⟩ := ih r hr hn
      refine ⟨(k', v') :: es', ⟨k', v', es', rfl, hk', hv', h1⟩, fun k'' => ?_⟩
      simp only [findE, h2]
      by_cases h3 : k'' = k'
      · rw [if_pos h3, if_pos h3, if_neg fun h => he (h.symm.trans h3)]
      · rw [if_neg h3, if_neg h3]

theorem st_mapUpdate {t : TypeId} {x i y : Operand} {z : Value} [TMap P t κ z] {r : Nat} {f : κ → Option Value} {k : κ} {v : Value} (hx : ev ρ x = .map (some r)) (hm : MapF H r f) (hi : ev ρ i = MKey.val k) (hy : ev ρ y = v) {op : Op} (hop : op = .mapUpdate t x i y ∨ op = .insert t x i y) (hst : MayWrite st l)
    (h : ∀ H', Mut (· = r) H H' → H'.size = H.size → MapF H' r (fun k' => if k' = k then some v else f k') → WL P ops st Q l ρ H') : WL P ops st Q (⟨none, op, ty, p, e, none⟩ :: l) ρ H := by
  have hq : isQ op = false := by rcases hop with rfl | rfl <;> rfl
  refine st_w hq (OpW.of_skip fun w hw => ?_)
  subst hw
  obtain ⟨kt, et, h1, h2, h3⟩ := TMap.und (P := P) (t := t) (κ := κ) (z := z)
  obtain ⟨ms, clock, es, hr, hes, hf⟩ := hm
  have hfn := findNow_eq k ms.toList es 0 hes
  have hfk : (Instr.findKey kt (MKey.val k) ms.toList).run P w = .ok (idxE es k 0) w := by
    simp [Instr.findKey, run_underlying h2, hfn]
  have hck := MKey.check P kt false k w h2
  have hfd := idxE_find es k 0
  have hgo : (getObj r).run P w = .ok (.map ms clock) w := by simp [getObj, Sem.run, hr]
  have hrlt : r < w.heap.size := (Array.getElem?_eq_some_iff.1 hr).1
  have hset : ∀ o : Obj, (setObj r o).run P w = .ok () { w with heap := w.heap.setIfInBounds r o } := fun o => by simp [setObj, Sem.run, hr]
  have hmut : ∀ o : Obj, Mut (· = r) w.heap (w.heap.setIfInBounds r o) := fun o => ⟨by simp, fun k' _ hk' => by rw [Array.getElem?_setIfInBounds_ne (fun e => hk' e.symm)]⟩
  have hexec : (execOp (ev ρ) ⟨none, op, ty, p, e, none⟩).run P w = ((Instr.mapUpdate t (.map (some r)) (MKey.val k) v).run P w).andThen fun _ w' => .ok .skip w' := by
    rcases hop with rfl | rfl <;> simp [execOp, hx, hi, hy]
  cases hidx : idxE es k 0 with
  | none =>
    rw [hidx] at hfd hfk
    obtain ⟨es', he1, he2⟩ := ents_push ms.toList { key := MKey.val k, val := v, born := clock } k rfl es hes (by rw [← hfd]; rfl)
    refine ⟨{ w with heap := w.heap.setIfInBounds r (.map (ms.push { key := MKey.val k, val := v, born := clock }) (clock + 1)) }, ?_, ⟨rfl, rfl, rfl, Nat.le_refl _⟩, fun m hm' hle => absurd hle (hst m hm'), h _ (hmut _) (by simp) ⟨ms.push { key := MKey.val k, val := v, born := clock }, clock + 1, es', by simp [hrlt], by simpa using he1, fun k' => by rw [he2, hf]⟩⟩
    rw [hexec]
    simp only [Instr.mapUpdate, Sem.run_bind, run_underlying h1, Result.andThen_ok, hgo, hck, hfk, hset]
  | some pr =>
    obtain ⟨j, u⟩ := pr
    rw [hidx] at hfk
    obtain ⟨es', he1, he2⟩ := ents_modify ms.toList (MKey.val k) v k rfl es 0 j u hes (by rw [hidx]; simp)
    -- the key that stood there is the same
    have hkey : ∀ (ms : List MapEntry) (es : List (κ × Value)) (i j : Nat) (u : Value), ents es ms → idxE es k i = some (i + j, u) → ∃ m, ms[j]? = some m ∧ m.key = MKey.val k := by
      intro ms
      induction ms with
      | nil => intro es i j u h hi; rw [show es = [] from h] at hi; simp [idxE] at hi
      | cons m ms ih =>
        rintro es i j u ⟨k', v', r, rfl, hk, hv, hr⟩ hi
        simp only [idxE] at hi
        by_cases he : k = k'
        · rw [if_pos he] at hi
          simp only [Option.some.injEq, Prod.mk.injEq] at hi
          have : j = 0 := by omega
          subst this
          exact ⟨m, rfl, by rw [hk, he]⟩
        · rw [if_neg he] at hi
          cases j with
          | zero =>
            exfalso
            have : ∀ (es : List (κ × Value)) (i : Nat) q, idxE es k i = some q → i ≤ q.1 := by
              intro es
              induction es with
              | nil => intro i q h; simp [idxE] at h
              | cons x es ih2 =>
                intro i q h
                simp only [idxE] at h
                split at h
                · cases h; exact Nat.le_refl _
                · have := ih2 _ _ h; omega
            have h9 := this _ _ _ hi
            simp only at h9
            omega
          | succ j =>
            obtain ⟨m', h1, h2⟩ := ih r (i + 1) j u hr (by rw [hi]; congr 2; omega)
            exact ⟨m', by simpa using h1, h2⟩
    obtain ⟨m, hm1, hm2⟩ := hkey ms.toList es 0 j u hes (by rw [hidx]; simp)
    have hm1' : ms[j]? = some m := by simpa using hm1
    have hstay : (Instr.keyThatStays (((ms[j]?).map (·.key)).getD (MKey.val k)) (MKey.val k)).run P w = .ok (MKey.val k) w := by
      simp [hm1', hm2, Instr.keyThatStays, MKey.bits]
    refine ⟨{ w with heap := w.heap.setIfInBounds r (.map (ms.modify j fun e => { e with key := MKey.val k, val := v }) clock) }, ?_, ⟨rfl, rfl, rfl, Nat.le_refl _⟩, fun m hm' hle => absurd hle (hst m hm'), h _ (hmut _) (by simp) ⟨ms.modify j fun e => { e with key := MKey.val k, val := v }, clock, es', by simp [hrlt], by rw [Array.toList_modify]; exact he1, fun k' => by rw [he2, hf]⟩⟩
    rw [hexec]
    simp only [Instr.mapUpdate, Sem.run_bind, run_underlying h1, Result.andThen_ok, hgo, hck, hfk, hstay, hset]
end

end Go.TM
