/- The laws of the operations that only read; no condition. -/
import Derived.Test.YtpkigjlnbfgjcaaBase2
namespace Go.TM
open _root_.Go.TM.Cell (enc)
variable {P : Program} {N : Nat} {Q : Env → Heap → Prop} {ρ : Env} {H H' H'' : Heap} {ops : Array Oper} {st : Option Nat} {l : List Oper}
variable {d : Option Tmp} {ty : TypeId} {p : String} {e : Array Edge} {g : Option (Nat × Bool)}

/-! ### Looking a slot up -/
theorem look_here (ρ : Env) (d : Nat) (v : Value) : upd ρ d v d = v := upd_same ρ d v
theorem look_here' {ρ : Env} {d : Nat} {v w : Value} (h : v = w) : upd ρ d v d = w := by rw [upd_same]; exact h
theorem look_there {ρ : Env} {d i : Nat} {v w : Value} (h : Nat.beq i d = false) (hw : ρ i = w) : upd ρ d v i = w := by rw [upd_ne _ _ _ _ h]; exact hw
theorem ev_tmp {t : Nat} {v : Value} (h : ρ t = v) : ev ρ (.tmp t) = v := h
theorem ev_const {v : Value} : ev ρ (.const v) = v := rfl
theorem ev_func {f : Nat} : ev ρ (.func f) = .func (.func f) #[] #[] := rfl

/-- A value that is there where a guard let its operation be done. -/
def gt (p : Bool) (v : Value) : Value := bif p then v else undef
theorem gt_true {p : Bool} {v : Value} (h : p = true) : gt p v = v := by rw [h]; rfl
theorem ev_gt {t : Nat} {p : Bool} {v : Value} (h : ρ t = gt p v) (hp : p = true) : ev ρ (.tmp t) = v := by rw [ev_tmp h, gt_true hp]

/-! ### Steps -/
theorem st_nil (h : Q ρ H) : WL P ops st Q [] ρ H := h
theorem st_q {d : Tmp} {op : Op} {v : Value} (hq : OpQ P ρ H ⟨some d, op, ty, p, e, none⟩ v) (h : WL P ops st Q l (upd ρ d v) H) : WL P ops st Q (⟨some d, op, ty, p, e, none⟩ :: l) ρ H := by
  unfold WL; rw [if_pos (by rfl)]; exact .inl ⟨v, hq, h⟩
theorem st_w {d : Option Tmp} {op : Op} (hs : isQ op = false) (hq : OpW P ρ H ⟨d, op, ty, p, e, none⟩ (fun v H' => (∀ m, st = some m → m ≤ loud l → Ext H H') ∧ WL P ops st Q l (put ρ d v) H')) :
    WL P ops st Q (⟨d, op, ty, p, e, none⟩ :: l) ρ H := by
  unfold WL; rw [if_pos (by rfl)]; exact .inr ⟨fun _ => hs, hq⟩
/-- guarded, the guard's own value plain -/
theorem st_g0 {d : Tmp} {op : Op} {v : Value} {j : Nat} {want b : Bool} {dj : Tmp} (hj : (ops[j]?).bind (·.dst) = some dj) (hb : ρ dj = .bool b)
    (hq : (b == want) = true → OpQ P ρ H ⟨some d, op, ty, p, e, some (j, want)⟩ v) (h : WL P ops st Q l (upd ρ d (gt (b == want) v)) H) :
    WL P ops st Q (⟨some d, op, ty, p, e, some (j, want)⟩ :: l) ρ H := by
  unfold WL
  have hw : wantedρ ops ⟨some d, op, ty, p, e, some (j, want)⟩ ρ = (b == want) := by simp only [wantedρ, hj, hb]
  rw [hw]
  by_cases hbw : (b == want) = true
  · rw [if_pos hbw]; exact .inl ⟨v, hq hbw, by rw [gt_true hbw] at h; exact h⟩
  · rw [if_neg hbw]
    have hf : (b == want) = false := by simpa using hbw
    rw [hf] at h
    exact h
/-- guarded, the guard guarded itself -/
theorem st_g1 {d : Tmp} {op : Op} {v : Value} {j : Nat} {want b pg : Bool} {dj : Tmp} (hj : (ops[j]?).bind (·.dst) = some dj) (hb : ρ dj = gt pg (.bool b))
    (hq : (pg && (b == want)) = true → OpQ P ρ H ⟨some d, op, ty, p, e, some (j, want)⟩ v) (h : WL P ops st Q l (upd ρ d (gt (pg && (b == want)) v)) H) :
    WL P ops st Q (⟨some d, op, ty, p, e, some (j, want)⟩ :: l) ρ H := by
  unfold WL
  have hw : wantedρ ops ⟨some d, op, ty, p, e, some (j, want)⟩ ρ = (pg && (b == want)) := by
    simp only [wantedρ, hj, hb]
    cases pg <;> simp [gt, undef]
  rw [hw]
  by_cases hbw : (pg && (b == want)) = true
  · rw [if_pos hbw]; exact .inl ⟨v, hq hbw, by rw [gt_true hbw] at h; exact h⟩
  · rw [if_neg hbw]
    have hf : (pg && (b == want)) = false := by simpa using hbw
    rw [hf] at h
    exact h
/-- a guarded operation whose guard is decided -/
theorem st_skip {op : Op} {j : Nat} {want b : Bool} {dj : Tmp} (hj : (ops[j]?).bind (·.dst) = some dj) (hb : ρ dj = .bool b) (hn : (b == want) = false)
    (h : WL P ops st Q l (put ρ d undef) H) : WL P ops st Q (⟨d, op, ty, p, e, some (j, want)⟩ :: l) ρ H := by
  unfold WL
  have hw : wantedρ ops ⟨d, op, ty, p, e, some (j, want)⟩ ρ = false := by simp only [wantedρ, hj, hb, hn]
  rw [hw]; exact h
theorem st_wg {op : Op} {j : Nat} {want b : Bool} {dj : Tmp} (hs : isQ op = false) (hj : (ops[j]?).bind (·.dst) = some dj) (hb : ρ dj = .bool b) (hn : (b == want) = true)
    (hq : OpW P ρ H ⟨d, op, ty, p, e, some (j, want)⟩ (fun v H' => (∀ m, st = some m → m ≤ loud l → Ext H H') ∧ WL P ops st Q l (put ρ d v) H')) :
    WL P ops st Q (⟨d, op, ty, p, e, some (j, want)⟩ :: l) ρ H := by
  unfold WL
  have hw : wantedρ ops ⟨d, op, ty, p, e, some (j, want)⟩ ρ = true := by simp only [wantedρ, hj, hb, hn]
  rw [hw]; exact .inr ⟨fun _ => hs, hq⟩

/-! ### Values -/
theorem q_move {x : Operand} {v : Value} (hx : ev ρ x = v) : OpQ P ρ H ⟨d, .move x, ty, p, e, g⟩ v := fun w _ => by simp [execOp, hx]
theorem q_assign {x : Operand} {v : Value} (hx : ev ρ x = v) : OpQ P ρ H ⟨d, .assign x, ty, p, e, g⟩ v := fun w _ => by simp [execOp, hx]
theorem q_pick {c a b : Operand} {t : Bool} {v : Value} (hc : ev ρ c = .bool t) (hv : (if t then ev ρ a else ev ρ b) = v) : OpQ P ρ H ⟨d, .pick c a b, ty, p, e, g⟩ v := fun w _ => by
  simp [execOp, hc, asBool, hv]
/-- 'x && y' -/
theorem q_and {c a : Operand} {t u : Bool} (hc : ev ρ c = .bool t) (ha : ev ρ a = gt (t == true) (.bool u)) : OpQ P ρ H ⟨d, .pick c a (.const (.bool false)), ty, p, e, g⟩ (.bool (t && u)) :=
  q_pick hc (by cases t <;> simp [ha, gt, ev_const])
theorem q_or {c b : Operand} {t u : Bool} (hc : ev ρ c = .bool t) (hb : ev ρ b = gt (t == false) (.bool u)) : OpQ P ρ H ⟨d, .pick c (.const (.bool true)) b, ty, p, e, g⟩ (.bool (t || u)) :=
  q_pick hc (by cases t <;> simp [hb, gt, ev_const])
/-- the same under a guard -/
theorem q_andg {c a : Operand} {t u q : Bool} (hq : q = true) (hc : ev ρ c = gt q (.bool t)) (ha : ev ρ a = gt (q && (t == true)) (.bool u)) : OpQ P ρ H ⟨d, .pick c a (.const (.bool false)), ty, p, e, g⟩ (.bool (t && u)) :=
  q_pick (t := t) (by rw [hc, gt_true hq]) (by subst hq; cases t <;> simp [ha, gt, ev_const])
theorem q_org {c b : Operand} {t u q : Bool} (hq : q = true) (hc : ev ρ c = gt q (.bool t)) (hb : ev ρ b = gt (q && (t == false)) (.bool u)) : OpQ P ρ H ⟨d, .pick c (.const (.bool true)) b, ty, p, e, g⟩ (.bool (t || u)) :=
  q_pick (t := t) (by rw [hc, gt_true hq]) (by subst hq; cases t <;> simp [hb, gt, ev_const])

section ints
variable {x y : Operand} {a b : Int} {k : IntKind} {xt yt : TypeId}
theorem eqGuard_int {op : BinOp} {t : TypeId} {x y : Operand} {w : World} : (eqGuard op t x y (.int k a) (.int k b)).run P w = .ok () w := by
  unfold eqGuard
  split <;> simp
theorem q_bin {op : BinOp} {v : Value} (hx : ev ρ x = .int k a) (hy : ev ρ y = .int k b) (h : ∀ w, (binOp op xt (.int k a) (.int k b)).run P w = .ok v w) : OpQ P ρ H ⟨d, .binOp op xt x y yt, ty, p, e, g⟩ v := fun w _ => by
  simp [execOp, hx, hy, eqGuard_int, h]
theorem q_addw (hx : ev ρ x = .int k a) (hy : ev ρ y = .int k b) : OpQ P ρ H ⟨d, .binOp .add xt x y yt, ty, p, e, g⟩ (.int k (k.wrap (a + b))) := q_bin hx hy fun w => by simp [binOp, Op.intArith]
theorem q_subw (hx : ev ρ x = .int k a) (hy : ev ρ y = .int k b) : OpQ P ρ H ⟨d, .binOp .sub xt x y yt, ty, p, e, g⟩ (.int k (k.wrap (a - b))) := q_bin hx hy fun w => by simp [binOp, Op.intArith]
theorem q_mulw (hx : ev ρ x = .int k a) (hy : ev ρ y = .int k b) : OpQ P ρ H ⟨d, .binOp .mul xt x y yt, ty, p, e, g⟩ (.int k (k.wrap (a * b))) := q_bin hx hy fun w => by simp [binOp, Op.intArith]
theorem wrap64_id {n : Int} (h : -9223372036854775808 ≤ n ∧ n ≤ 9223372036854775807) : IntKind.i64.wrap n = n := by
  rw [IntKind.wrap_i64]; omega
theorem q_add (hx : ev ρ x = .int .i64 a) (hy : ev ρ y = .int .i64 b) (h : -9223372036854775808 ≤ a + b ∧ a + b ≤ 9223372036854775807) : OpQ P ρ H ⟨d, .binOp .add xt x y yt, ty, p, e, g⟩ (.int .i64 (a + b)) := by
  have := @q_addw P ρ H d ty p e g x y a b .i64 xt yt hx hy; rw [wrap64_id h] at this; exact this
theorem q_sub (hx : ev ρ x = .int .i64 a) (hy : ev ρ y = .int .i64 b) (h : -9223372036854775808 ≤ a - b ∧ a - b ≤ 9223372036854775807) : OpQ P ρ H ⟨d, .binOp .sub xt x y yt, ty, p, e, g⟩ (.int .i64 (a - b)) := by
  have := @q_subw P ρ H d ty p e g x y a b .i64 xt yt hx hy; rw [wrap64_id h] at this; exact this
theorem q_mul (hx : ev ρ x = .int .i64 a) (hy : ev ρ y = .int .i64 b) (h : -9223372036854775808 ≤ a * b ∧ a * b ≤ 9223372036854775807) : OpQ P ρ H ⟨d, .binOp .mul xt x y yt, ty, p, e, g⟩ (.int .i64 (a * b)) := by
  have := @q_mulw P ρ H d ty p e g x y a b .i64 xt yt hx hy; rw [wrap64_id h] at this; exact this
theorem q_lss (hx : ev ρ x = .int k a) (hy : ev ρ y = .int k b) : OpQ P ρ H ⟨d, .binOp .lss xt x y yt, ty, p, e, g⟩ (.bool (decide (a < b))) := q_bin hx hy fun w => by simp [binOp, Op.intCmp]
theorem q_leq (hx : ev ρ x = .int k a) (hy : ev ρ y = .int k b) : OpQ P ρ H ⟨d, .binOp .leq xt x y yt, ty, p, e, g⟩ (.bool (decide (a ≤ b))) := q_bin hx hy fun w => by simp [binOp, Op.intCmp]
theorem q_gtr (hx : ev ρ x = .int k a) (hy : ev ρ y = .int k b) : OpQ P ρ H ⟨d, .binOp .gtr xt x y yt, ty, p, e, g⟩ (.bool (decide (b < a))) := q_bin hx hy fun w => by simp [binOp, Op.intCmp]
theorem q_geq (hx : ev ρ x = .int k a) (hy : ev ρ y = .int k b) : OpQ P ρ H ⟨d, .binOp .geq xt x y yt, ty, p, e, g⟩ (.bool (decide (b ≤ a))) := q_bin hx hy fun w => by simp [binOp, Op.intCmp]
theorem q_eql (hx : ev ρ x = .int k a) (hy : ev ρ y = .int k b) : OpQ P ρ H ⟨d, .binOp .eql xt x y yt, ty, p, e, g⟩ (.bool (decide (a = b))) := q_bin hx hy fun w => by
  simp [binOp, Op.intCmp]; rfl
theorem q_neq (hx : ev ρ x = .int k a) (hy : ev ρ y = .int k b) : OpQ P ρ H ⟨d, .binOp .neq xt x y yt, ty, p, e, g⟩ (.bool (decide (a ≠ b))) := q_bin hx hy fun w => by
  simp [binOp, Op.intCmp]; rfl
end ints

theorem q_not {x : Operand} {b : Bool} {xt : TypeId} (hx : ev ρ x = .bool b) : OpQ P ρ H ⟨d, .unOp .not xt x, ty, p, e, g⟩ (.bool (!b)) := fun w _ => by simp [execOp, hx, Op.unary]
theorem q_extract {x : Operand} {vs : List Value} {i : Nat} {v : Value} (hx : ev ρ x = .tuple vs.toArray) (hv : vs[i]? = some v) : OpQ P ρ H ⟨d, .extract x i, ty, p, e, g⟩ v := fun w _ => by
  simp [execOp, hx, Instr.extract, hv]

/-! ### Addresses -/
class TSlice (P : Program) (t : TypeId) (el : outParam TypeId) : Prop where
  und : P.underlying t = some (.slice el)
class TSize (P : Program) (t : TypeId) (n : outParam Nat) : Prop where
  run : ∀ w, (sizeOf t).run P w = .ok n w
class TScal (P : Program) (t : TypeId) : Prop where
  run : ∀ w, (isAgg t).run P w = .ok false w
class TAgg (P : Program) (t : TypeId) (n : outParam Nat) : Prop where
  run : ∀ w, (isAgg t).run P w = .ok true w
  size : ∀ w, (sizeOf t).run P w = .ok n w
class TField (P : Program) (t : TypeId) (f : Nat) (off : outParam Nat) : Prop where
  run : ∀ a w, (Instr.fieldAt t (.pointer (some a)) f).run P w = .ok (.pointer (some (a.add off))) w

theorem q_len {x : Operand} {t el : TypeId} [TSlice P t el] {a : Option Addr} {n cap : Nat} (hx : ev ρ x = .slice a n cap) :
    OpQ P ρ H ⟨d, .call { callee := .builtin .len, args := #[x], argTypes := #[t] }, ty, p, e, g⟩ (.int .i64 n) := fun w _ => by
  simp [execOp, resolve, invoke, builtin, hx, Builtin.len_, run_underlying (TSlice.und (P := P) (t := t)), goInt]
theorem q_lenE {x : Operand} {t el : TypeId} [TSlice P t el] {v : Value} {n : Nat} (hx : ev ρ x = v) (h : LenIs v n) :
    OpQ P ρ H ⟨d, .call { callee := .builtin .len, args := #[x], argTypes := #[t] }, ty, p, e, g⟩ (.int .i64 n) := by
  obtain ⟨a, cap, rfl, _⟩ := h
  exact q_len hx

theorem q_indexAddr {x i : Operand} {t el : TypeId} {n m : Nat} {k : IntKind} [TSlice P t el] [TSize P el n] {v : Value} {j : Int} (hx : ev ρ x = v) (h : LenIs v m)
    (hi : ev ρ i = .int k j) (hj : 0 ≤ j ∧ j < m) : OpQ P ρ H ⟨d, .indexAddr t x i, ty, p, e, g⟩ (.pointer (some (eAt v n j))) := fun w _ => by
  obtain ⟨a, cap, rfl, hs⟩ := h
  obtain ⟨h0, hl⟩ := hj
  obtain ⟨a, rfl⟩ := Option.isSome_iff_exists.1 (hs (by omega))
  simp [execOp, hx, hi, Instr.indexAt, asIntOf, run_underlying (TSlice.und (P := P) (t := t)), h0, hl, TSize.run (P := P) (t := el), eAt, adr]

theorem q_fieldAddr {x : Operand} {t : TypeId} {f off : Nat} [TField P t f off] {a : Addr} (hx : ev ρ x = .pointer (some a)) : OpQ P ρ H ⟨d, .fieldAddr t x f, ty, p, e, g⟩ (.pointer (some (a.add off))) := fun w _ => by
  simp [execOp, hx, TField.run (P := P) (t := t)]

theorem q_load {x : Operand} {t : TypeId} [TScal P t] {a : Addr} {v : Value} (hx : ev ρ x = .pointer (some a)) (hc : cellH H a = some v) : OpQ P ρ H ⟨d, .load t x, ty, p, e, g⟩ v := fun w he => by
  have hc' : w.cell? a = some v := cellH_ext hc he
  simp [execOp, hx, Instr.loadAt, Instr.sureAddr, loadVar, TScal.run (P := P) (t := t), hc']

theorem run_loadCells {a : Addr} {cs : List Value} (n : Nat) (i : Nat) (acc : Array Value) (w : World) (h : ∀ j, j < n → w.cell? (a.add (i + j)) = some (cs.getD (i + j) undef)) :
    (loadCellsFrom a i n acc).run P w = .ok (acc ++ ((List.range' i n).map fun j => cs.getD j undef).toArray) w := by
  induction n generalizing i acc with
  | zero => simp [loadCellsFrom]
  | succ n ih =>
    have h0 : w.cell? (a.add i) = some (cs.getD i undef) := by simpa using h 0 (by omega)
    have := ih (i + 1) (acc.push (cs.getD i undef)) (fun j hj => by have := h (j + 1) (by omega); rw [show i + 1 + j = i + (j + 1) by omega]; exact this)
    simp only [loadCellsFrom, Sem.run_bind]
    simp only [List.getD_eq_getElem?_getD] at h0 this
    simp [h0, this, List.range'_succ, load, Sem.run, Result.andThen]

theorem q_loadAgg {x : Operand} {t : TypeId} {n : Nat} [TAgg P t n] {a : Addr} {cs : List Value} (hx : ev ρ x = .pointer (some a)) (hc : Cells H a cs) (hn : cs.length = n) : OpQ P ρ H ⟨d, .load t x, ty, p, e, g⟩ (.agg cs.toArray) := fun w he => by
  have hr := run_loadCells (P := P) (a := a) (cs := cs) n 0 #[] w (fun j hj => by rw [Nat.zero_add]; exact cellH_ext (hc j (by omega)) he)
  have hl : (List.range' 0 n).map (fun j => cs.getD j undef) = cs := by
    subst hn
    apply List.ext_getElem?
    intro i
    by_cases hi : i < cs.length
    · simp [hi, List.getD]
    · simp [hi]
  rw [hl] at hr
  simp [execOp, hx, Instr.loadAt, Instr.sureAddr, loadVar, TAgg.run (P := P) (t := t), TAgg.size (P := P) (t := t), loadCells, hr]

/-! ### Lists of operands; composites -/
inductive AV (ρ : Env) : List Operand → List Value → Prop
  | nil : AV ρ [] []
  | cons {x : Operand} {v : Value} {xs : List Operand} {vs : List Value} : ev ρ x = v → AV ρ xs vs → AV ρ (x :: xs) (v :: vs)
theorem AV.map {xs : List Operand} {vs : List Value} (h : AV ρ xs vs) : xs.map (ev ρ) = vs := by
  induction h with
  | nil => rfl
  | cons h _ ih => simp [h, ih]
inductive PV (ρ : Env) : List (Nat × Operand) → List (Nat × Value) → Prop
  | nil : PV ρ [] []
  | cons {i : Nat} {x : Operand} {v : Value} {xs : List (Nat × Operand)} {vs : List (Nat × Value)} : ev ρ x = v → PV ρ xs vs → PV ρ ((i, x) :: xs) ((i, v) :: vs)
theorem PV.map {xs : List (Nat × Operand)} {vs : List (Nat × Value)} (h : PV ρ xs vs) : xs.map (fun p => (p.1, ev ρ p.2)) = vs := by
  induction h with
  | nil => rfl
  | cons h _ ih => simp [h, ih]

inductive F2 {α β : Type} (R : α → β → Prop) : List α → List β → Prop
  | nil : F2 R [] []
  | cons {a : α} {b : β} {as : List α} {bs : List β} : R a b → F2 R as bs → F2 R (a :: as) (b :: bs)

/-- Cells from j on are written. -/
def setAt (cs : List Value) (j : Nat) : List Value → List Value
  | [] => cs
  | v :: vs => setAt (cs.set j v) (j + 1) vs

def buildL (places : List (Nat × Nat)) : List Value → List (Nat × Value) → Option (List Value)
  | cs, [] => some cs
  | cs, (i, v) :: r => match places[i]? with
    | none => none
    | some (off, size) => if v.cells.size ≠ size || off + v.cells.size > cs.length then none else buildL places (setAt cs off v.cells.toList) r

theorem fold_setAt (vs : List Value) : ∀ (cs : List Value) (off k : Nat), ((vs.zipIdx k).foldl (fun (a : Array Value) (x : Value × Nat) => a.setIfInBounds (off + x.2) x.1) cs.toArray) = (setAt cs (off + k) vs).toArray := by
  induction vs with
  | nil => intro cs off k; rfl
  | cons v vs ih =>
    intro cs off k
    simp only [List.zipIdx_cons, List.foldl_cons, setAt]
    have := ih (cs.set (off + k) v) off (k + 1)
    simpa [Nat.add_assoc] using this

theorem fill_eq (places : List (Nat × Nat)) (ps : List (Nat × Value)) : ∀ cs, Instr.fill (fun i => places[i]?) cs.toArray ps = (buildL places cs ps).map List.toArray := by
  induction ps with
  | nil => intro cs; rfl
  | cons p ps ih =>
    intro cs
    obtain ⟨i, v⟩ := p
    simp only [Instr.fill, buildL]
    cases places[i]? with
    | none => rfl
    | some x =>
      obtain ⟨off, size⟩ := x
      simp only [List.size_toArray]
      split
      · rfl
      · rw [← ih]
        congr 1
        have := fold_setAt v.cells.toList cs off 0
        rw [← Array.foldl_toList, Array.toList_zipIdx]
        exact this

class TBuild (P : Program) (t : TypeId) (places : outParam (List (Nat × Nat))) (z : outParam (List Value)) : Prop where
  run : ∀ ps cs w, buildL places z ps = some cs → (Instr.build t ps.toArray).run P w = .ok (.agg cs.toArray) w

theorem places_run {fs : List Field} {places : List (Nat × Nat)} (h : F2 (fun (f : Field) (pl : Nat × Nat) => f.offset = pl.1 ∧ ∀ w, (sizeOf f.type).run P w = .ok pl.2 w) fs places) (w : World) :
    (fs.mapM (m := Sem) fun f => do pure (f.offset, ← sizeOf f.type)).run P w = .ok places w := by
  induction h with
  | nil => rfl
  | cons h _ ih => simp only [List.mapM_cons, Sem.run_bind, h.2 w, Sem.run_pure, Result.andThen_ok, ih, h.1]

theorem TBuild.of {t : TypeId} {fs : List Field} {places : List (Nat × Nat)} {z : List Value} (h : P.underlying t = some (.struct fs.toArray)) (hz : ∀ w, ∃ v, (zeroValue t).run P w = .ok v w ∧ v.cells = z.toArray)
    (hs : F2 (fun (f : Field) (pl : Nat × Nat) => f.offset = pl.1 ∧ ∀ w, (sizeOf f.type).run P w = .ok pl.2 w) fs places) : TBuild P t places z := ⟨fun ps cs w hb => by
  obtain ⟨v, hv, hc⟩ := hz w
  have hm := places_run hs w
  have hf := fill_eq places ps z
  rw [hb] at hf
  simp only [Option.map_some] at hf
  have hm' : (fs.toArray.mapM (m := Sem) fun f => do pure (f.offset, ← sizeOf f.type)).run P w = .ok places.toArray w := by
    rw [List.mapM_toArray]
    simp only [Sem.run_map, hm, Result.andThen_ok]
  simp only [Instr.build, Sem.run_bind, hv, Result.andThen_ok, run_underlying h, hm', hc, List.getElem?_toArray, hf, Sem.run_pure]⟩

theorem q_build {t : TypeId} {places : List (Nat × Nat)} {z : List Value} [TBuild P t places z] {ps : List (Nat × Operand)} {pvs : List (Nat × Value)} {cs : List Value} (hp : PV ρ ps pvs) (hb : buildL places z pvs = some cs) :
    OpQ P ρ H ⟨d, .build t ps.toArray, ty, p, e, g⟩ (.agg cs.toArray) := fun w _ => by
  have := TBuild.run (P := P) (t := t) pvs cs w hb
  simp [execOp, hp.map, this]

theorem RV.cell {a : Tmp} {t : TypeId} {n : Nat} [TAgg P t n] {ad : Addr} {cs : List Value} (h : ρ a = .pointer (some ad)) (hc : Cells H ad cs) (hn : cs.length = n) : RV P ρ H (.cell a t) (.agg cs.toArray) := by
  refine ⟨ad, h, fun w hw => ?_⟩
  have hq := q_loadAgg (P := P) (ρ := ρ) (H := H) (d := none) (ty := 0) (p := "") (e := #[]) (g := none) (x := .tmp a) (t := t) (n := n) (a := ad) (cs := cs) h hc hn w (hw ▸ Ext.refl _)
  simp only [execOp, ev, h, Instr.loadAt, Instr.sureAddr, Sem.run_bind, Sem.run_pure, Result.andThen_ok] at hq
  generalize (loadVar t ad).run P w = r at hq ⊢
  cases r with
  | ok v w' => simp only [Result.andThen_ok, Result.ok.injEq, Next.value.injEq] at hq; rw [hq.1, hq.2]
  | halt x w' => simp only [Result.andThen] at hq; cases hq
theorem RV.cellS {a : Tmp} {t : TypeId} [TScal P t] {ad : Addr} {v : Value} (h : ρ a = .pointer (some ad)) (hc : cellH H ad = some v) : RV P ρ H (.cell a t) v := by
  refine ⟨ad, h, fun w hw => ?_⟩
  have hc' : w.cell? ad = some v := by rw [cell?_eq, hw]; exact hc
  simp [loadVar, TScal.run (P := P) (t := t), hc']

end Go.TM
