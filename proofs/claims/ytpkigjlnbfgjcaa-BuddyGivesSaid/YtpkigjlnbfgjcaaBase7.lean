/- Footprints: what of one's own lies apart; rows of rows; no condition. -/
import Derived.Test.YtpkigjlnbfgjcaaBase6
import Derived.Laws.IdiomStrings
namespace Go.TM
open _root_.Go.TM.Cell (enc)
variable {P : Program} {N : Nat} {Q : Env → Heap → Prop} {ρ : Env} {H H' H'' H₀ : Heap} {ops : Array Oper} {st : Option Nat} {l : List Oper}

/-! ### Apart -/
abbrev fB (b : Nat) : Nat → Prop := (· = b)
abbrev fO (v : Value) : Nat → Prop := fun k => v.ownBlock = some k
abbrev fR (hs : List Hdr) : Nat → Prop := fun k => ∃ h, h ∈ hs ∧ h.val.ownBlock = some k
def Apt (a b : Nat → Prop) : Prop := ∀ k, a k → ¬ b k
theorem Apt.symm {a b : Nat → Prop} (h : Apt a b) : Apt b a := fun k hb ha => h k ha hb
/-- Below H's end. -/
def Old (H : Heap) (a : Nat → Prop) : Prop := ∀ k, a k → k < H.size
/-- Fresh since H₀. -/
def Frs (H₀ : Heap) (a : Nat → Prop) : Prop := ∀ k, a k → H₀.size ≤ k
theorem Apt.new {a b : Nat → Prop} (ha : Old H a) (hb : Frs H b) : Apt a b := fun k h1 h2 => by
  have := ha k h1; have := hb k h2; omega
theorem Apt.app {a a' b : Nat → Prop} (h : Apt a b) (hf : ∀ k, a' k → a k ∨ H.size ≤ k) (hb : Old H b) : Apt a' b := fun k h1 h2 => by
  rcases hf k h1 with h3 | h3
  · exact h k h3 h2
  · have := hb k h2; omega
theorem Apt.sub {a a' b : Nat → Prop} (h : Apt a b) (hs : ∀ k, a' k → a k) : Apt a' b := fun k h1 => h k (hs k h1)
theorem Apt.nil (b : Nat → Prop) : Apt (fO (.slice none 0 0)) b := fun k h => by cases h
theorem Apt.rnil (b : Nat → Prop) : Apt (fR []) b := fun k ⟨h, hm, _⟩ => by cases hm
theorem Old.ext {a : Nat → Prop} (h : Old H a) (he : Ext H H') : Old H' a := fun k hk => Nat.lt_of_lt_of_le (h k hk) he.size
theorem Old.nil : Old H (fO (.slice none 0 0)) := fun k h => by cases h
theorem Frs.blk {b : Nat} (h : H₀.size ≤ b) : Frs H₀ (fB b) := fun k hk => by rw [show k = b from hk]; exact h
theorem Frs.nil : Frs H₀ (fO (.slice none 0 0)) := fun k h => by cases h
theorem Frs.mono {a : Nat → Prop} (h : Frs H a) (he : H₀.size ≤ H.size) : Frs H₀ a := fun k hk => Nat.le_trans he (h k hk)
theorem Frs.app {a a' : Nat → Prop} (h : Frs H₀ a) (hf : ∀ k, a' k → a k ∨ H.size ≤ k) (hs : H₀.size ≤ H.size) : Frs H₀ a' := fun k hk => by
  rcases hf k hk with h3 | h3
  · exact h k h3
  · omega
theorem Frs.ge {b : Nat} (h : Frs H₀ (fB b)) : H₀.size ≤ b := h b rfl
theorem Blk.old {b : Nat} {t : TypeId} {cs : List Value} (h : Blk H b t cs) : Old H (fB b) := fun k hk => by rw [show k = b from hk]; exact h.lt
theorem Blk.mutF {f : Nat → Prop} {b : Nat} {t : TypeId} {cs : List Value} (h : Blk H b t cs) (k : Mut f H H') (hs : Apt f (fB b)) : Blk H' b t cs := h.mut k fun hf => hs b hf rfl
theorem MapF.mutF {κ : Type} [MKey κ] {g : κ → Option Value} {f : Nat → Prop} {b : Nat} (h : MapF H b g) (k : Mut f H H') (hs : Apt f (fB b)) : MapF H' b g := h.mut k fun hf => hs b hf rfl
theorem MapF.old {κ : Type} [MKey κ] {g : κ → Option Value} {b : Nat} (h : MapF H b g) : Old H (fB b) := fun k hk => by rw [show k = b from hk]; exact h.lt
section
variable {α : Type} [Cell α]
theorem Own.mutF {f : Nat → Prop} {B : Nat} {el : TypeId} {v : Value} {xs : List α} (h : Own H B el v xs) (k : Mut f H H') (hs : Apt f (fO v)) : Own H' B el v xs := h.mut k fun b hb hf => hs b hf hb
theorem Own.old {B : Nat} {el : TypeId} {v : Value} {xs : List α} (h : Own H B el v xs) : Old H (fO v) := fun k hk => (h.lt k hk).2
theorem Own.frs {el : TypeId} {v : Value} {xs : List α} {B : Nat} (h : Own H B el v xs) (hB : H₀.size ≤ B) : Frs H₀ (fO v) := fun k hk => Nat.le_trans hB (h.lt k hk).1
theorem Own.of_sl {B : Nat} {el : TypeId} {v : Value} {xs : List α} (h : Own H B el v xs) : SlE H v xs := h.sl
theorem SlE.mutF {f : Nat → Prop} {v : Value} {xs : List α} (h : SlE H v xs) (k : Mut f H H') (hs : Apt f (fO v)) : SlE H' v xs := h.mut k fun b hb hf => hs b hf hb
end
def SepA (a : Nat → Prop) : List (Nat → Prop) → Prop
  | [] => True
  | b :: l => Apt a b ∧ SepA a l
def SepL : List (Nat → Prop) → Prop
  | [] => True
  | a :: l => SepA a l ∧ SepL l
theorem sepa_nil {a : Nat → Prop} : SepA a [] := trivial
theorem sepa_cons {a b : Nat → Prop} {l : List (Nat → Prop)} (h : Apt a b) (hl : SepA a l) : SepA a (b :: l) := ⟨h, hl⟩
theorem sep_nil : SepL [] := trivial
theorem sep_cons {a : Nat → Prop} {l : List (Nat → Prop)} (h : SepA a l) (hl : SepL l) : SepL (a :: l) := ⟨h, hl⟩

instance : Cell UInt8 where
  enc b := [.int .u8 b.toNat]
  sz := 1
  len _ := rfl
  one x v hv := by simp at hv; subst hv; rfl
theorem q_nilCheck {x : Operand} {a : Addr} {d : Option Tmp} {ty : TypeId} {p : String} {e : Array Edge} {g : Option (Nat × Bool)} (hx : ev ρ x = .pointer (some a)) : OpQ P ρ H ⟨d, .nilCheck x, ty, p, e, g⟩ (.pointer (some a)) := fun w _ => by
  simp [execOp, hx]
theorem q_cap {x : Operand} {t el : TypeId} [TSlice P t el] {a : Option Addr} {n cap : Nat} {d : Option Tmp} {ty : TypeId} {p : String} {e : Array Edge} {g : Option (Nat × Bool)} (hx : ev ρ x = .slice a n cap) :
    OpQ P ρ H ⟨d, .call { callee := .builtin .cap, args := #[x], argTypes := #[t] }, ty, p, e, g⟩ (.int .i64 cap) := fun w _ => by
  simp [execOp, resolve, invoke, builtin, hx, Builtin.cap_, run_underlying (TSlice.und (P := P) (t := t)), goInt]
def isNil : Value → Bool | .slice none _ _ => true | _ => false
theorem q_eqnil {x : Operand} {t t' el : TypeId} [TSlice P t el] {v : Value} {n : Nat} {d : Option Tmp} {ty : TypeId} {p : String} {e : Array Edge} {g : Option (Nat × Bool)} (hx : ev ρ x = v) (h : LenIs v n) :
    OpQ P ρ H ⟨d, .binOp .eql t x (.const (.slice none 0 0)) t', ty, p, e, g⟩ (.bool (isNil v)) := fun w _ => by
  obtain ⟨a, cap, rfl, _⟩ := h
  have he : (Op.equal t (.slice a n cap) (.slice none 0 0)).run P w = .ok (isNil (.slice a n cap)) w := by
    rw [Op.equal, show Op.maxDepth = 9999 + 1 from rfl, Op.equalIn]
    cases a <;> simp [run_underlying (TSlice.und (P := P) (t := t)), isNil]
  cases a <;> simp [execOp, hx, ev_const, binOp, eqGuard, he]
class TInt (P : Program) (t : TypeId) (k : outParam IntKind) : Prop where
  und : P.underlying t = some (.int k)
class TStr (P : Program) (t : TypeId) : Prop where
  und : P.underlying t = some .string
theorem q_convInt {x : Operand} {s t : TypeId} {k k' : IntKind} {n : Int} [TInt P s k'] [TInt P t k] {d : Option Tmp} {ty : TypeId} {p : String} {e : Array Edge} {g : Option (Nat × Bool)} (hx : ev ρ x = .int k' n) :
    OpQ P ρ H ⟨d, .convert s t x, ty, p, e, g⟩ (.int k (k.wrap n)) := fun w _ => by
  simp [execOp, hx, convert, run_underlying (TInt.und (P := P) (t := s)), run_underlying (TInt.und (P := P) (t := t)), Conv.intToInt]
theorem q_shr {x : Operand} {y : Int} {k k' : IntKind} {a : Int} {xt yt : TypeId} {d : Option Tmp} {ty : TypeId} {p : String} {e : Array Edge} {g : Option (Nat × Bool)} (hx : ev ρ x = .int k a) (hy : 0 ≤ y) :
    OpQ P ρ H ⟨d, .binOp .shr xt x (.const (.int k' y)) yt, ty, p, e, g⟩ (.int k (a.fdiv (2 ^ (min y.toNat k.bits)))) := fun w _ => by
  have hn : ¬ (y < 0) := by omega
  simp [execOp, hx, ev_const, binOp, eqGuard, Op.shift, hn]
theorem q_shr8 {x : Operand} {k' : IntKind} {a : Int} {xt yt : TypeId} {d : Option Tmp} {ty : TypeId} {p : String} {e : Array Edge} {g : Option (Nat × Bool)} (hx : ev ρ x = .int .i64 a) :
    OpQ P ρ H ⟨d, .binOp .shr xt x (.const (.int k' 8)) yt, ty, p, e, g⟩ (.int .i64 (a.fdiv 256)) := q_shr (k := .i64) hx (by omega)
theorem q_bytesStr {x : Operand} {s t e8 : TypeId} [TSlice P s e8] [TInt P e8 .u8] [TStr P t] {v : Value} {bs : List UInt8} {d : Option Tmp} {ty : TypeId} {p : String} {e : Array Edge} {g : Option (Nat × Bool)} (hx : ev ρ x = v) (h : SlE H v bs) :
    OpQ P ρ H ⟨d, .convert s t x, ty, p, e, g⟩ (.string ⟨bs.toArray⟩) := fun w he => by
  have hs := TSlice.und (P := P) (t := s)
  have h8 := TInt.und (P := P) (t := e8)
  have ht := TStr.und (P := P) (t := t)
  have h' := h.ext he
  rcases h'.2 with ⟨rfl, h0⟩ | ⟨a, cap, rfl, _, _, hc⟩
  · have : bs = [] := List.eq_nil_of_length_eq_zero h0
    subst this
    simp [execOp, hx, run_convert_bytes_string w s t e8 none 0 0 hs h8 ht, Conv.bytesToString]
    rfl
  · have := run_convert_bytes_back (P := P) w s t e8 a cap bs hs h8 ht (fun j hj => by
      have := h'.cells j hj 0 (by rw [Cell.len]; exact Nat.one_pos)
      have e1 : bs.getD j default = bs[j] := by simp [List.getD, hj]
      rw [add_zero, e1] at this
      have e2 : j * Cell.sz UInt8 = j := Nat.mul_one j
      rw [e2] at this
      exact this)
    simp [execOp, hx, this]
def elemOK (P : Program) (el : TypeId) (sz bytes : Nat) : Bool := match P.info? el with
  | some i => match i.zero with
    | some z => Nat.beq i.size sz && Nat.beq i.bytes bytes && Nat.beq z.cells.size sz
    | none => false
  | none => false
theorem TElem.of {el : TypeId} {α : Type} [Cell α] (bytes : Nat) (hp : 0 < Cell.sz α) (h : elemOK P el (Cell.sz α) bytes = true) : TElem P el α bytes := ⟨by
  unfold elemOK at h
  cases hi : P.info? el with
  | none => rw [hi] at h; cases h
  | some i =>
    rw [hi] at h
    cases hz : i.zero with
    | none => simp only [hz] at h; cases h
    | some z =>
      simp only [hz, Bool.and_eq_true] at h
      exact ⟨i, z, rfl, hz, Nat.eq_of_beq_eq_true h.1.1, Nat.eq_of_beq_eq_true h.1.2, Nat.eq_of_beq_eq_true h.2⟩, hp⟩

/-! ### A head in a row -/
theorem SlE.hdr {v : Value} {xs : List Hdr} (h : SlE H v xs) (i : Int) (hi : 0 ≤ i ∧ i < xs.length) : cellH H ((adr v).add (i.toNat * 1)) = some (xs.getD i.toNat default).val := by
  have := h.cells i.toNat (by omega) 0 (by rw [Cell.len]; exact Nat.one_pos)
  rw [add_zero] at this
  exact this
theorem SlE.hdrN {v : Value} {xs : List Hdr} (h : SlE H v xs) (i : Nat) (hi : i < xs.length) : cellH H ((adr v).add ((i : Int).toNat * 1)) = some (xs.getD i default).val := h.hdr i (by omega)
theorem SlE.intN {v : Value} {xs : List Int} (h : SlE H v xs) (i : Nat) (hi : i < xs.length) : cellH H ((adr v).add ((i : Int).toNat * 1)) = some (.int .i64 (xs.getD i 0)) := h.int i (by omega)
theorem SlE.cellsN {α : Type} [Cell α] {v : Value} {xs : List α} (h : SlE H v xs) (i : Nat) (hi : i < xs.length) : Cells H ((adr v).add ((i : Int).toNat * Cell.sz α)) (enc (xs.getD i default)) := h.cells i hi
/-- Each head reads as its list. -/
structure Rows {α : Type} [Cell α] (H : Heap) (hs : List Hdr) (xss : List (List α)) : Prop where
  len : hs.length = xss.length
  at_ : ∀ i, i < xss.length → SlE H (hs.getD i default).val (xss.getD i [])
theorem Rows.ext {α : Type} [Cell α] {hs : List Hdr} {xss : List (List α)} (h : Rows H hs xss) (he : Ext H H') : Rows H' hs xss := ⟨h.len, fun i hi => (h.at_ i hi).ext he⟩
theorem Rows.nil {α : Type} [Cell α] : Rows (α := α) H [] [] := ⟨rfl, fun i hi => by simp at hi⟩
theorem Rows.cons {α : Type} [Cell α] {hs : List Hdr} {xss : List (List α)} {h : Hdr} {xs : List α} (hx : SlE H h.val xs) (hr : Rows H hs xss) : Rows H (h :: hs) (xs :: xss) := ⟨by simp [hr.len], fun i hi => by
  cases i with
  | zero => simpa using hx
  | succ i => simpa using hr.at_ i (by simpa using hi)⟩
theorem Rows.append {α : Type} [Cell α] {hs hs' : List Hdr} {xss xss' : List (List α)} (h : Rows H hs xss) (h' : Rows H hs' xss') : Rows H (hs ++ hs') (xss ++ xss') := ⟨by simp [h.len, h'.len], fun i hi => by
  by_cases hl : i < xss.length
  · have := h.at_ i hl
    simp only [List.getD_eq_getElem?_getD] at this ⊢
    rw [List.getElem?_append_left (by rw [h.len]; exact hl), List.getElem?_append_left hl]
    exact this
  · have := h'.at_ (i - xss.length) (by simp at hi; omega)
    simp only [List.getD_eq_getElem?_getD] at this ⊢
    rw [List.getElem?_append_right (by rw [h.len]; omega), List.getElem?_append_right (by omega), h.len]
    exact this⟩
theorem Rows.take {α : Type} [Cell α] {hs : List Hdr} {xss : List (List α)} (h : Rows H hs xss) (k : Nat) : Rows H (hs.take k) (xss.take k) := ⟨by simp [h.len], fun i hi => by
  have hi' : i < k ∧ i < xss.length := by simp at hi; omega
  have := h.at_ i hi'.2
  simp only [List.getD_eq_getElem?_getD] at this ⊢
  rw [List.getElem?_take_of_lt hi'.1, List.getElem?_take_of_lt hi'.1]
  exact this⟩
theorem Rows.drop {α : Type} [Cell α] {hs : List Hdr} {xss : List (List α)} (h : Rows H hs xss) (k : Nat) : Rows H (hs.drop k) (xss.drop k) := ⟨by simp [h.len], fun i hi => by
  have hi' : k + i < xss.length := by simp at hi; omega
  have := h.at_ (k + i) hi'
  simp only [List.getD_eq_getElem?_getD] at this ⊢
  rw [List.getElem?_drop, List.getElem?_drop]
  exact this⟩
theorem SlE.hdrOf {α : Type} [Cell α] {v : Value} {xs : List α} (h : SlE H v xs) : ∃ hd : Hdr, v = hd.val := by
  obtain ⟨a, cap, e⟩ := h.shape; exact ⟨⟨a, _, cap⟩, e⟩

/-- The heads' blocks. -/
theorem Rows.mutF {α : Type} [Cell α] {f : Nat → Prop} {hs : List Hdr} {xss : List (List α)} (h : Rows H hs xss) (k : Mut f H H') (ha : Apt f (fR hs)) : Rows H' hs xss := ⟨h.len, fun i hi => (h.at_ i hi).mutF k fun b hb hv => ha b hb ⟨hs.getD i default, by
  rw [List.getD_eq_getElem?_getD, List.getElem?_eq_getElem (by rw [h.len]; exact hi)]
  exact List.getElem_mem _, hv⟩⟩
theorem SlE.old {α : Type} [Cell α] {v : Value} {xs : List α} (h : SlE H v xs) (h0 : xs ≠ []) (hz : 0 < Cell.sz α) : Old H (fO v) := fun k hk => by
  rcases h.2 with ⟨_, h0'⟩ | ⟨a, cap, rfl, _, _, hc⟩
  · exact absurd (List.eq_nil_of_length_eq_zero h0') h0
  · have h1 : 0 < (xs.flatMap enc).length := by
      rw [flat_length]
      exact Nat.mul_pos (List.length_pos_iff.2 h0) hz
    have := cellH_lt (hc 0 h1)
    have hk : some a.block = some k := hk
    simp only [Option.some.injEq] at hk
    rw [add_block] at this
    omega
/-- Each head owns its list's row. -/
structure ROwn {α : Type} [Cell α] (H : Heap) (B : Nat) (el : TypeId) (hs : List Hdr) (xss : List (List α)) : Prop where
  len : hs.length = xss.length
  at_ : ∀ i, i < xss.length → Own H B el (hs.getD i default).val (xss.getD i [])
theorem ROwn.rows {α : Type} [Cell α] {B : Nat} {el : TypeId} {hs : List Hdr} {xss : List (List α)} (h : ROwn H B el hs xss) : Rows H hs xss := ⟨h.len, fun i hi => (h.at_ i hi).sl⟩
theorem ROwn.ext {α : Type} [Cell α] {B : Nat} {el : TypeId} {hs : List Hdr} {xss : List (List α)} (h : ROwn H B el hs xss) (he : Ext H H') : ROwn H' B el hs xss := ⟨h.len, fun i hi => (h.at_ i hi).ext he⟩
theorem ROwn.nil {α : Type} [Cell α] {B : Nat} {el : TypeId} : ROwn (α := α) H B el [] [] := ⟨rfl, fun i hi => by simp at hi⟩
theorem ROwn.append {α : Type} [Cell α] {B : Nat} {el : TypeId} {hs hs' : List Hdr} {xss xss' : List (List α)} (h : ROwn H B el hs xss) (h' : ROwn H B el hs' xss') : ROwn H B el (hs ++ hs') (xss ++ xss') := ⟨by simp [h.len, h'.len], fun i hi => by
  by_cases hl : i < xss.length
  · have := h.at_ i hl
    simp only [List.getD_eq_getElem?_getD] at this ⊢
    rw [List.getElem?_append_left (by rw [h.len]; exact hl), List.getElem?_append_left hl]
    exact this
  · have := h'.at_ (i - xss.length) (by simp at hi; omega)
    simp only [List.getD_eq_getElem?_getD] at this ⊢
    rw [List.getElem?_append_right (by rw [h.len]; omega), List.getElem?_append_right (by omega), h.len]
    exact this⟩
theorem ROwn.one {α : Type} [Cell α] {B : Nat} {el : TypeId} {h : Hdr} {xs : List α} (ho : Own H B el h.val xs) : ROwn H B el [h] [xs] := ⟨rfl, fun i hi => by
  have : i = 0 := by simpa using hi
  subst this; simpa using ho⟩
theorem ROwn.mem {α : Type} [Cell α] {B : Nat} {el : TypeId} {hs : List Hdr} {xss : List (List α)} (h : ROwn H B el hs xss) {hd : Hdr} (hm : hd ∈ hs) : ∃ xs, xs ∈ xss ∧ Own H B el hd.val xs := by
  obtain ⟨i, hi, rfl⟩ := List.mem_iff_getElem.1 hm
  have hi' : i < xss.length := by rw [← h.len]; exact hi
  have := h.at_ i hi'
  rw [List.getD_eq_getElem?_getD, List.getD_eq_getElem?_getD, List.getElem?_eq_getElem hi, List.getElem?_eq_getElem hi'] at this
  exact ⟨_, List.getElem_mem hi', this⟩
theorem ROwn.old {α : Type} [Cell α] {B : Nat} {el : TypeId} {hs : List Hdr} {xss : List (List α)} (h : ROwn H B el hs xss) : Old H (fR hs) := fun k ⟨hd, hm, hk⟩ => by
  obtain ⟨xs, _, ho⟩ := h.mem hm
  exact (ho.lt k hk).2
theorem ROwn.frs {α : Type} [Cell α] {B : Nat} {el : TypeId} {hs : List Hdr} {xss : List (List α)} (h : ROwn H B el hs xss) (hB : H₀.size ≤ B) : Frs H₀ (fR hs) := fun k ⟨hd, hm, hk⟩ => by
  obtain ⟨xs, _, ho⟩ := h.mem hm
  exact Nat.le_trans hB (ho.lt k hk).1
theorem ROwn.mutF {α : Type} [Cell α] {B : Nat} {el : TypeId} {f : Nat → Prop} {hs : List Hdr} {xss : List (List α)} (h : ROwn H B el hs xss) (k : Mut f H H') (ha : Apt f (fR hs)) : ROwn H' B el hs xss := ⟨h.len, fun i hi => (h.at_ i hi).mutF k fun b hb hv => ha b hb ⟨hs.getD i default, by
  rw [List.getD_eq_getElem?_getD, List.getElem?_eq_getElem (by rw [h.len]; exact hi)]
  exact List.getElem_mem _, hv⟩⟩
/-- A row of rows that all can be read. -/
structure Sl2 {α : Type} [Cell α] (H : Heap) (v : Value) (hs : List Hdr) (xss : List (List α)) : Prop where
  sl : SlE H v hs
  rows : Rows H hs xss
theorem Sl2.ext {α : Type} [Cell α] {v : Value} {hs : List Hdr} {xss : List (List α)} (h : Sl2 H v hs xss) (he : Ext H H') : Sl2 H' v hs xss := ⟨h.sl.ext he, h.rows.ext he⟩
end Go.TM
