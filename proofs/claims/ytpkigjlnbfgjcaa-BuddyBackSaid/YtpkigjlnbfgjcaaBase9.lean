/- A law's row: what comes in, read as lists; what is left, read as it was; no condition. -/
import Derived.Test.YtpkigjlnbfgjcaaBase8
import Derived.ProofKit
import Derived.OpenShut
import Derived.Deep.Slices
import Derived.ChangeStays
import Derived.ChangeBook
namespace Go.TM
open _root_.Go.TM.Cell (enc)
open Go.ChangeShapes Go.WideShapes Go.ChangeAt Go.RowKit
section
variable {Hh : Type} {enc' : TypeId × Value → Hh} {P : Program} {w : World} {base : Nat} {spare : Nat → Bool} {held : Bool}
/-- A type whose cells are one plain datum, of which W holds. -/
structure Flat (P : Program) (t : TypeId) (α : Type) [Cell α] (W : α → Prop) : Prop where
  sz : P.cellsOf t = Cell.sz α
  open_ : ∀ {Hh : Type} {enc' : TypeId × Value → Hh} {w : World} {base : Nat} {spare : Nat → Bool} {held : Bool} {n : Nat} {cs : List Value} {y : DataW Hh × List MemPlace}, DataW.trod enc' P w base spare held n t cs = some y → ∃ x : α, cs = enc x ∧ W x
def R64w (n : Int) : Prop := -9223372036854775808 ≤ n ∧ n ≤ 9223372036854775807
theorem R64w.of {n : Int} (h : (Lit.int .i64 n).wf = true) : R64w n := by
  simpa [Lit.wf, IntKind.min, IntKind.max, IntKind.signed, IntKind.bits, R64w] using h
theorem int_of_trod {t : TypeId} (ht : P.underlying t = some (.int .i64)) {n : Nat} {cs : List Value} {y : DataW Hh × List MemPlace} (h : DataW.trod enc' P w base spare held n t cs = some y) : ∃ x : Int, cs = [.int .i64 x] ∧ R64w x := by
  cases n with
  | zero => simp [DataW.trod] at h
  | succ n =>
    rw [DataW.trod_step] at h
    unfold DataW.trodStep at h
    rw [ht] at h
    split at h <;> rename_i heq <;> simp_all
    obtain ⟨⟨h1, hw⟩, _⟩ := h
    subst h1
    rw [← heq] at hw
    exact R64w.of hw
theorem Flat.int {t : TypeId} (ht : P.underlying t = some (.int .i64)) (hc : P.cellsOf t = 1) : Flat P t Int R64w := ⟨hc, fun h => int_of_trod ht h⟩
/-- A struct of numbers. -/
theorem ints_of_struct {t it : TypeId} {fs : Array Field} (ht : P.underlying t = some (.struct fs)) (hit : P.underlying it = some (.int .i64)) (hc : P.cellsOf it = 1) (hn : P.cellsOf t = fs.size) (hf : (fs.toList.zipIdx.all fun p => Nat.beq p.1.type it && Nat.beq p.1.offset p.2) = true)
    {n : Nat} {cs : List Value} {y : DataW Hh × List MemPlace} (h : DataW.trod enc' P w base spare held n t cs = some y) : ∃ xs : List Int, xs.length = fs.size ∧ cs = xs.map (.int .i64 ·) ∧ ∀ x ∈ xs, R64w x := by
  obtain ⟨ys, m, _, _, hl, hys, hx⟩ := DataW.trod_struct ht h
  have each : ∀ i, i < fs.size → ∃ x : Int, cs[i]? = some (.int .i64 x) ∧ R64w x := by
    intro i hi
    have hfi : fs[i]? = some fs[i] := Array.getElem?_eq_getElem hi
    have h1 := hx i _ hfi
    have h2 := List.all_eq_true.1 hf (fs[i], i) (by rw [List.mem_zipIdx_iff_getElem?]; simp [hi])
    simp only [Bool.and_eq_true] at h2
    have e1 := Nat.eq_of_beq_eq_true h2.1
    have e2 := Nat.eq_of_beq_eq_true h2.2
    rw [e1, e2, hc, List.getElem?_eq_getElem (by omega)] at h1
    obtain ⟨x, h3, h4⟩ := int_of_trod hit h1
    refine ⟨x, ?_, h4⟩
    have h5 : (List.take 1 (List.drop i cs))[0]? = some (.int .i64 x) := by rw [h3]; rfl
    simpa using h5
  obtain ⟨f, hfx⟩ := Go.Deep.choose_lt (α := Int) each
  refine ⟨(List.range fs.size).map f, by simp, ?_, fun x hx => ?_⟩
  · apply List.ext_getElem?
    intro i
    by_cases hi : i < fs.size
    · rw [(hfx i hi).1]; simp [hi]
    · rw [List.getElem?_eq_none (by omega)]; simp [hi]
  · obtain ⟨i, hi, rfl⟩ := List.mem_map.1 hx
    exact (hfx i (List.mem_range.1 hi)).2
theorem cells?_get {a : Addr} {n : Nat} {cs : List Value} (h : w.cells? base a n = some cs) : cs.length = n ∧ ∀ j, j < n → w.cell? (a.add j) = some (cs.getD j undef) := by
  unfold World.cells? at h
  split at h
  · have hl : cs.length = n := by simpa using mapM_some_length h
    refine ⟨hl, fun j hj => ?_⟩
    have : ∀ (l : List Nat) (cs : List Value), l.mapM (fun i => w.cell? (a.add i)) = some cs → ∀ j (hj : j < l.length), w.cell? (a.add l[j]) = some (cs.getD j undef) := by
      intro l
      induction l with
      | nil => intro cs _ j hj; simp at hj
      | cons x l ih =>
        intro cs h j hj
        rw [List.mapM_cons] at h
        cases hx : w.cell? (a.add x) with
        | none => simp [hx] at h
        | some v =>
          cases hl : l.mapM (fun i => w.cell? (a.add i)) with
          | none => simp [hx, hl] at h
          | some vs =>
            simp [hx, hl] at h
            subst h
            cases j with
            | zero => simpa using hx
            | succ j => simpa using ih vs hl j (by simpa using hj)
    have := this (List.range n) cs h j (by simpa using hj)
    simpa using this
  · cases h
theorem flat_cells {α : Type} [Cell α] (f : Nat → α) (n i j : Nat) (hi : i < n) (hj : j < Cell.sz α) : (((List.range n).map f).flatMap enc).getD (i * Cell.sz α + j) undef = (enc (f i)).getD j undef := by
  rw [flat_getD _ i j (by simpa using hi) hj]
  simp [List.getD, hi]
theorem cells_of {α : Type} [Cell α] {H : Heap} {a : Addr} {n : Nat} (f : Nat → α) (h : ∀ i, i < n → ∀ j, j < Cell.sz α → cellH H (a.add (i * Cell.sz α + j)) = some ((enc (f i)).getD j undef)) : Cells H a (((List.range n).map f).flatMap enc) := by
  intro k hk
  rw [flat_length, List.length_map, List.length_range] at hk
  have hz : 0 < Cell.sz α := by
    rcases Nat.eq_zero_or_pos (Cell.sz α) with h0 | h0
    · rw [h0] at hk; omega
    · exact h0
  have hi : k / Cell.sz α < n := (Nat.div_lt_iff_lt_mul hz).2 hk
  have hj : k % Cell.sz α < Cell.sz α := Nat.mod_lt _ hz
  have e : k / Cell.sz α * Cell.sz α + k % Cell.sz α = k := by rw [Nat.mul_comm]; exact Nat.div_add_mod k _
  have h1 := h _ hi _ hj
  have h2 := flat_cells f n _ _ hi hj
  rw [e] at h1 h2
  rw [h1, h2]
/-- A slice that came in, of plain elements. -/
theorem open_flat {α : Type} [Cell α] {Wf : α → Prop} {t e : TypeId} (ht : P.underlying t = some (.slice e)) (hf : Flat P e α Wf) {fuel : Nat} {cs : List Value} {x : DataW Hh × List MemPlace} (h : DataW.trod enc' P w base (fun _ => true) held fuel t cs = some x) :
    ∃ (v : Value) (xs : List α), cs = [v] ∧ SlE w.heap v xs ∧ (∀ y ∈ xs, Wf y) ∧ (∀ B, (DataW.weights P t x.1).all (· ≤ B) = true → xs.length * P.bytesOf e ≤ B) := by
  rcases Go.Deep.open_slice ht h with ⟨rfl, rfl⟩ | ⟨a, len, cap, m, n, D, Pl, rfl, hb, hl, hm, hmm, rfl, hx⟩
  · exact ⟨_, [], rfl, SlE.nil _, by simp, by simp⟩
  simp only [if_true] at hmm
  subst hmm
  obtain ⟨f, hfx⟩ := Go.Deep.choose_lt (α := α) (n := m) (p := fun i y => w.cells? base (a.add (i * P.cellsOf e)) (P.cellsOf e) = some (enc y) ∧ Wf y) (fun i hi => by
    obtain ⟨cs', h1, h2⟩ := hx i hi
    obtain ⟨y, rfl, hy⟩ := hf.open_ h2
    exact ⟨y, h1, hy⟩)
  refine ⟨_, (List.range len).map f, rfl, ⟨flat_length _, .inr ⟨a, m, by simp, by simpa using hl, hm, cells_of f fun i hi j hj => ?_⟩⟩, fun y hy => ?_, fun B hB => ?_⟩
  · obtain ⟨h1, _⟩ := hfx i (by omega)
    rw [hf.sz] at h1
    have := (cells?_get h1).2 j hj
    rw [add_add] at this
    exact this
  · obtain ⟨i, hi, rfl⟩ := List.mem_map.1 hy
    exact (hfx i (by have := List.mem_range.1 hi; omega)).2
  · simp only [DataW.weights, ht, List.all_cons, Bool.and_eq_true, decide_eq_true_eq, List.length_map, List.length_range] at hB ⊢
    exact Nat.le_trans (Nat.mul_le_mul_right _ (by omega)) hB.1
/-- A slice of slices that came in. -/
theorem open_rows {α : Type} [Cell α] {Wf : α → Prop} {t s e : TypeId} (ht : P.underlying t = some (.slice s)) (hs : P.underlying s = some (.slice e)) (hc : P.cellsOf s = 1) (hf : Flat P e α Wf) {fuel : Nat} {cs : List Value} {x : DataW Hh × List MemPlace} (h : DataW.trod enc' P w base (fun _ => true) held fuel t cs = some x) :
    ∃ (v : Value) (hs : List Hdr) (xss : List (List α)), cs = [v] ∧ Sl2 w.heap v hs xss ∧ ∀ xs ∈ xss, ∀ y ∈ xs, Wf y := by
  rcases Go.Deep.open_slice ht h with ⟨rfl, rfl⟩ | ⟨a, len, cap, m, n, D, Pl, rfl, hb, hl, hm, hmm, rfl, hx⟩
  · exact ⟨_, [], [], rfl, ⟨SlE.nil _, Rows.nil⟩, by simp⟩
  simp only [if_true] at hmm
  subst hmm
  obtain ⟨f, hfx⟩ := Go.Deep.choose_lt (α := Hdr × List α) (n := m) (p := fun i y => w.cells? base (a.add (i * P.cellsOf s)) (P.cellsOf s) = some (enc y.1) ∧ SlE w.heap y.1.val y.2 ∧ ∀ z ∈ y.2, Wf z) (fun i hi => by
    obtain ⟨cs', h1, h2⟩ := hx i hi
    obtain ⟨v, xs, rfl, h3, h4, _⟩ := open_flat hs hf h2
    obtain ⟨hd, rfl⟩ := h3.hdrOf
    exact ⟨(hd, xs), h1, h3, h4⟩)
  refine ⟨_, (List.range len).map fun i => (f i).1, (List.range len).map fun i => (f i).2, rfl, ⟨⟨flat_length _, .inr ⟨a, m, by simp, by simpa using hl, hm, cells_of _ fun i hi j hj => ?_⟩⟩, ⟨by simp, fun i hi => ?_⟩⟩, fun xs hxs => ?_⟩
  · obtain ⟨h1, _⟩ := hfx i (by omega)
    rw [hc] at h1
    have h0 : Cell.sz Hdr = 1 := rfl
    rw [h0] at hj ⊢
    have := (cells?_get h1).2 j hj
    rw [add_add] at this
    exact this
  · simp only [List.length_map, List.length_range] at hi
    have := (hfx i (by omega)).2.1
    simpa [List.getD, hi] using this
  · obtain ⟨i, hi, rfl⟩ := List.mem_map.1 hxs
    exact (hfx i (by have := List.mem_range.1 hi; omega)).2.2
end
/-! ### The row's step -/
/-- What a law's call leaves: true; nothing that was there has turned. -/
def LawH (P : Program) (f : FuncId) (args : Array Value) (H : Heap) : Prop := CallsH P f args H fun v H' => v = .bool true ∧ Ext H H'
theorem frozen_ext {w w' : World} (h : Ext w.heap w'.heap) {b off : Nat} (hb : b < w.heap.size) : w'.frozen? ⟨b, off, none⟩ = w.frozen? ⟨b, off, none⟩ := by
  unfold World.frozen?; rw [h.block b hb]
theorem sameAt_ext {w w' : World} (h : Ext w.heap w'.heap) (p : MemPlace) (hp : p.block < w.heap.size) : w.sameAt w' p := by
  cases p with
  | cell b off => exact cellH_congr (h.block b hp)
  | map b => exact h.block b hp
theorem keptBut_ext {w w' : World} (l : Like w w') (h : Ext w.heap w'.heap) (may : MemPlace → Prop) : w.keptBut w' may := by
  refine ⟨l.os, l.output, fun i hi => ?_⟩
  rw [h.block i hi]
  cases ho : w.heap[i]? with
  | none => simp
  | some o => cases o <;> simp
section
variable {Hh : Type} {enc' : TypeId × Value → Hh} {P : Program}
theorem trodAll_ext {w w' : World} {T : TypeId → Prop} (K : Kids P T) (hsz : ∀ {t e : TypeId}, T t → P.underlying t = some (.slice e) → 0 < P.cellsOf e) (h : Ext w.heap w'.heap) {sp : Nat → Bool} :
    ∀ {ts : List TypeId} {vs : List Value} {ds : List (DataW Hh)} {ps : List MemPlace}, (∀ t ∈ ts, T t) → DataW.TrodAll enc' P w 0 (fun _ => true) true ts vs ds ps → (∀ p ∈ ps, p.block < w.heap.size) → (∀ p ∈ ps, sp p.block = true) → DataW.TrodAll enc' P w' 0 sp true ts vs ds ps
  | [], _, _, _, _, h1, _, _ => by
    obtain ⟨rfl, rfl, rfl⟩ := trodAll_nil h1; rfl
  | t :: ts, _, _, _, hT, h1, hb, hs => by
    obtain ⟨v, vs1, d, ds1, a, b, rfl, rfl, rfl, ⟨n, h2⟩, h3⟩ := trodAll_cons h1
    refine ⟨a, b, ⟨n, DataW.trod_stays K hsz (fun h => by cases h) (hT t (by simp)) h2 (fun p hp => sameAt_ext h p (hb p (by simp [show p ∈ a from hp]))) (fun p hp => hs p (by simp [show p ∈ a from hp]))⟩, ?_, rfl⟩
    exact trodAll_ext K hsz h (fun t ht => hT t (by simp [ht])) h3 (fun p hp => hb p (by simp [hp])) (fun p hp => hs p (by simp [hp]))
/-- The row's whole post, of a law that has no variables. -/
theorem law_post {T : TypeId → Prop} (K : Kids P T) (hsz : ∀ {t e : TypeId}, T t → P.underlying t = some (.slice e) → 0 < P.cellsOf e) {f : Func} {s : ChangeSpec} {bt : TypeId} (hbt : P.underlying bt = some .bool) (hres : f.resultTypes = #[bt])
    {W W' : World} {args : Array Value} {ds gs : List (DataW Hh)} {before : List MemPlace} (hv0 : s.vars = []) (hT : ∀ t ∈ f.params.toList, T t) (hW : DataW.Whole enc' P f.params.toList s.vars false W args.toList ds gs before)
    (hr : (s.fn Hh (ds ++ gs)).results = [.lit (.bool true)]) (ha : (s.fn Hh (ds ++ gs)).args = ds) (hvs : (s.fn Hh (ds ++ gs)).vars = []) (l : Like W W') (hE : Ext W.heap W'.heap) :
    s.post enc' P f false true false false W args (.bool true) W' := by
  have hlt := hW.lt
  have hW' := hW
  obtain ⟨p, q, hA, hV, rfl, hfz, hnd⟩ := hW
  rw [hv0] at hV
  obtain ⟨rfl, rfl⟩ := trodVars_none hV
  simp only [List.append_nil] at hlt hfz hW' hr ha hvs
  have hargs : ∀ sp : Nat → Bool, (∀ x ∈ p, sp x.block = true) → DataW.TrodAll enc' P W' 0 sp true f.params.toList args.toList (s.fn Hh (ds ++ [])).args p := by
    intro sp hs
    rw [List.append_nil, ha]
    exact trodAll_ext K hsz hE hT hA hlt hs
  have hresv : ∀ (b : Nat) (sp : Nat → Bool) (hd : Bool), DataW.TrodAll enc' P W' b sp hd f.resultTypes.toList ((Value.bool true).resultList f.resultTypes.size) (s.fn Hh (ds ++ [])).results [] := by
    intro b sp hd
    rw [List.append_nil, hr, hres]
    exact trodAll_cons_mk (shut_bool hbt _) trodAll_mk0
  have hvars : ∀ sp : Nat → Bool, DataW.TrodVars enc' P W' sp s.vars (s.fn Hh (ds ++ [])).vars [] := by
    intro sp; rw [List.append_nil, hvs, hv0]; rfl
  have hold : ∀ x ∈ p, (fun b => decide (b < W.heap.size)) x.block = true := fun x hx => by simpa using hlt x hx
  refine ⟨ds, [], p, [], p, [], hW', hresv _ _ _, hargs _ hold, hvars _, keptBut_ext l hE _, fun _ => ⟨?_, _, _, ([] ++ p) ++ [], ⟨[] ++ p, [], trodAll_append (hargs _ (fun _ _ => rfl)) (hresv _ _ _), hvars _, rfl, ?_, fun h => by cases h⟩, ?_⟩⟩
  · exact ok_one hres rfl (okWide_bool_mk hbt _)
  · intro b off hp
    have hp' : MemPlace.cell b off ∈ p := by simpa using hp
    exact (frozen_ext hE (hlt _ hp')).trans (hfz b off hp')
  · intro x hx _
    simpa using hx
end
end Go.TM
