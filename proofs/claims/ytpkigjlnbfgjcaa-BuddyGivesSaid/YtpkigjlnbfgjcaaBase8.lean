/- Room made ahead; zeros appended; no condition. -/
import Derived.Test.YtpkigjlnbfgjcaaBase7
namespace Go.TM
open _root_.Go.TM.Cell (enc)
variable {P : Program} {N : Nat} {Q : Env → Heap → Prop} {ρ : Env} {H H' H'' H₀ : Heap} {ops : Array Oper} {st : Option Nat} {l : List Oper}
variable {d : Option Tmp} {ty : TypeId} {p : String} {e : Array Edge} {g : Option (Nat × Bool)}
/-- A row of one's own of n elements, whatever they are. -/
def Raw (H : Heap) (B : Nat) (el : TypeId) (sz : Nat) (v : Value) (n : Nat) : Prop :=
  ∃ gg cap cur, v = .slice (some ⟨gg, 0, none⟩) n cap ∧ B ≤ gg ∧ H[gg]? = some (.cells cur el (0, 0)) ∧ n ≤ cap ∧ cap ≤ maxLen ∧ cur.size = cap * sz
theorem Raw.lenIs {B : Nat} {el : TypeId} {sz : Nat} {v : Value} {n : Nat} (h : Raw H B el sz v n) : LenIs v n := by
  obtain ⟨gg, cap, cur, rfl, _⟩ := h; exact ⟨_, _, rfl, fun _ => rfl⟩
theorem Raw.capIs {B : Nat} {el : TypeId} {sz : Nat} {v : Value} {n : Nat} (h : Raw H B el sz v n) : ∀ a m c, v = .slice a m c → n ≤ c := by
  obtain ⟨gg, cap, cur, rfl, _, _, h, _⟩ := h; intro a m c hv; cases hv; exact h
theorem Raw.zero {α : Type} [Cell α] {B : Nat} {el : TypeId} {v : Value} {n : Nat} (h : Raw H B el (Cell.sz α) v n) : Own H B el (resl v (Cell.sz α) 0 0) ([] : List α) := by
  obtain ⟨gg, cap, cur, rfl, hB, hg, hn, hm, hs⟩ := h
  refine ⟨by simp, .inr ⟨gg, cap, cur, ?_, hB, hg, by simp, hm, hs, by simp⟩⟩
  by_cases h0 : cap = 0 <;> simp [resl, h0, add_zero]

theorem st_appendZ {x y : Operand} {t t' el : TypeId} {k : IntKind} {bytes : Nat} {α : Type} [Cell α] [TSlice P t el] [TInt P t' k] [TElem P el α bytes] {d : Tmp} {n : Int} (hx : ev ρ x = .slice none 0 0) (hy : ev ρ y = .int .i64 n)
    (hn : 0 < n ∧ n ≤ 9223372036854775807) (hb : n * bytes ≤ 281474976710656)
    (h : ∀ v' H', Raw H' H.size el (Cell.sz α) v' n.toNat → Ext H H' → WL P ops st Q l (upd ρ d v') H') :
    WL P ops st Q (⟨some d, .call { callee := .builtin .append, args := #[x, y], argTypes := #[t, t'] }, ty, p, e, none⟩ :: l) ρ H := by
  refine st_w rfl (OpW.of_run fun w hw => ?_)
  subst hw
  obtain ⟨i, z, hi, hz, hsize, hby, hzs⟩ := TElem.info (P := P) (el := el) (α := α) (bytes := bytes)
  have ht := TSlice.und (P := P) (t := t) (el := el)
  have ht' := TInt.und (P := P) (t := t')
  obtain ⟨m, rfl⟩ : ∃ m : Nat, n = m := ⟨n.toNat, by omega⟩
  have hm0 : m ≠ 0 := by omega
  have hwr : IntKind.i64.wrap (m : Int) = m := wrap64_id (by omega)
  have h48 : ¬ (281474976710656 < m * i.bytes) := by rw [hby]; have : ((m * bytes : Nat) : Int) = m * bytes := by simp
                                                     omega
  have h48i : ¬ ((281474976710656 : Int) < m * i.bytes) := by rw [hby]; omega
  have h63 : ¬ ((9223372036854775807 : Int) < m) := by omega
  have h63' : ¬ (9223372036854775807 < m) := by omega
  have hneg : ¬ ((m : Int) < 0) := by omega
  have hnc : ¬ (281474976710656 < Builtin.nextslicecap m 0 * i.bytes) := by rw [nextslicecap_zero (by omega)]; exact h48
  have hge := grownCap_ge w m 0 el
  have hle := grownCap_le_maxLen w m 0 el (by unfold maxLen; omega)
  have hgetp : (w.drew.alloc (.cells (Builtin.zeroCells z.cells m ++ Builtin.zeroCells z.cells (grownCap w m 0 el - m)) el)).heap[w.heap.size]? = some (.cells (Builtin.zeroCells z.cells m ++ Builtin.zeroCells z.cells (grownCap w m 0 el - m)) el (0, 0)) := by
    show (w.heap.push _)[w.heap.size]? = _
    simp
  have hzl : ∀ q, (Builtin.zeroCells z.cells q).size = q * Cell.sz α := fun q => by simp [Builtin.zeroCells, hzs]
  refine ⟨.slice (some ⟨w.heap.size, 0, none⟩) m (grownCap w m 0 el), w.drew.alloc (.cells (Builtin.zeroCells z.cells m ++ Builtin.zeroCells z.cells (grownCap w m 0 el - m)) el), ?_, ⟨rfl, rfl, rfl, Nat.le_succ _⟩, fun _ _ _ => Ext.push _ _, h _ _ ⟨w.heap.size, _, _, rfl, Nat.le_refl _, hgetp, by simpa using hge, hle, ?_⟩ (Ext.push _ _)⟩
  · have hsz0 : ¬ (m * i.size = 0) := by
      have := TElem.pos (P := P) (el := el) (α := α) (bytes := bytes)
      rw [hsize]; intro h0
      rcases Nat.mul_eq_zero.1 h0 with h1 | h1 <;> omega
    simp [execOp, resolve, invoke, builtin, hx, hy, Builtin.append_, run_underlying ht, run_underlying ht', sizeOf, typeInfo, zeroValue, hi, hz, asInt, asIntOf, hwr, hneg, h48i, hm0, h63, h63', hnc, Question.forced, Builtin.firstCells, hsz0, newRow, grownCap, askRoom]
  · rw [Array.size_append, hzl, hzl, ← Nat.add_mul]
    congr 1; omega

theorem st_makeCap {α : Type} [Cell α] {x y : Operand} {t el : TypeId} {bytes : Nat} [TSlice P t el] [TElem P el α bytes] {dd : Tmp} {k k' : IntKind} {c : Int} {zz : List Value} [TZero P el zz] (hx : ev ρ x = .int k 0) (hy : ev ρ y = .int k' c)
    (hc : 0 ≤ c) (hb : c * bytes ≤ 281474976710656) (hc2 : c ≤ 9223372036854775807) (hzz : zz.length = Cell.sz α)
    (h : ∀ v' H', Own H' H.size el v' ([] : List α) → Ext H H' → v' ≠ .slice none 0 0 → WL P ops st Q l (upd ρ dd v') H') :
    WL P ops st Q (⟨some dd, .makeSlice t x y, ty, p, e, none⟩ :: l) ρ H := by
  refine st_w rfl (OpW.of_run fun w hw => ?_)
  subst hw
  obtain ⟨i, z, hi, hz, hsize, hby, hzs⟩ := TElem.info (P := P) (el := el) (α := α) (bytes := bytes)
  obtain ⟨zv, hzv, hzvc⟩ := TZero.run (P := P) (t := el) (z := zz) w
  obtain ⟨m, rfl⟩ : ∃ m : Nat, c = m := ⟨c.toNat, by omega⟩
  have hwr : IntKind.i64.wrap (m : Int) = m := wrap64_id (by omega)
  have hw0 : IntKind.i64.wrap 0 = 0 := wrap64_id (by omega)
  have hsz2 : (sizeOf el).run P w = .ok (Cell.sz α) w := by simp [sizeOf, typeInfo, hi, hsize]
  have c1 : ¬ ((m : Int) < 0) := by omega
  have hb' : ((i.bytes : Int) * m) ≤ 281474976710656 := by rw [hby, Int.mul_comm]; exact hb
  have c2 : ¬ ((i.bytes : Int) * m > 2 ^ 48) := by omega
  have c3 : ¬ ((281474976710656 : Int) < i.bytes * m) := by omega
  have c4 : ¬ ((0 : Int) > m) := by omega
  let zr : Array Value := if m * Cell.sz α = 0 then #[] else zv.cells
  refine ⟨.slice (some ⟨w.heap.size, 0, none⟩) 0 m, { w with heap := w.heap.push (.cells ((Array.range (m * Cell.sz α)).map (zr[· % zr.size]!)) el (0, 0)) }, ?_, ⟨rfl, rfl, rfl, Nat.le_refl _⟩, fun _ _ _ => Ext.push _ _, h _ _ ⟨by simp, .inr ⟨w.heap.size, m, (Array.range (m * Cell.sz α)).map (zr[· % zr.size]!), by simp, Nat.le_refl _, by simp, by simp, by unfold maxLen; omega, by simp, by simp⟩⟩ (Ext.push _ _) (by simp)⟩
  simp only [execOp, hx, hy, Instr.makeSlice, Sem.run_bind, run_underlying (TSlice.und (P := P) (t := t)), Result.andThen_ok, asInt, asIntOf, Sem.run_pure, typeInfo, hi, hwr, hw0]
  simp only [run_program, Result.andThen_ok, hi, Sem.run_pure]
  simp [c1, c3, c4, hsz2, askRoom]
  by_cases h0 : m * Cell.sz α = 0
  · simp [zr, h0]
    simp [newRow, newObj, Sem.run]
    try rfl
  · simp [zr, h0]
    simp [newRow, newObj, Sem.run, hzv]
    try rfl
theorem q_makeFunc {f : FuncId} {caps : List Operand} {vs : List Value} (h : AV ρ caps vs) : OpQ P ρ H ⟨d, .makeFunc (.func f) #[] caps.toArray, ty, p, e, g⟩ (.func (.func f) #[] vs.toArray) := fun w _ => by
  simp [execOp, Instr.makeFunc, h.map]
/-- The ways meet again behind c: as W_cut, where c stands ahead already. -/
theorem W_cutQ {N : Nat} {X : Type} {c dd : Code} {Qe : Exit → Env → Heap → Prop} (slots : X → List (Nat × Value)) (I : X → Heap → Prop)
    (h : W P N c (thenQ (fun ρ' H' => ∃ x, holds (slots x) ρ' ∧ I x H') Qe) ρ H)
    (hk : ∀ (u : Env) x H, I x H → W P N dd Qe (over (slots x) u) H) : W P N c (thenQ (W P N dd Qe) Qe) ρ H := by
  refine h.mono fun e ρ' H' q => ?_
  cases e with
  | normal =>
    obtain ⟨x, hs, hx⟩ := q
    have := hk ρ' x H' hx
    rw [over_eq _ _ hs] at this
    exact this
  | exit id => exact q
  | goto id => exact q
  | ret => exact q
  | panic c => exact q
  | outgrown => exact q
theorem q_lookupS {t : TypeId} {x i : Operand} {z : Value} [TMap P t StrK z] {r : Nat} {f : StrK → Option Value} {s : ByteArray} (hx : ev ρ x = .map (some r)) (hm : MapF H r f) (hi : ev ρ i = .string s) :
    OpQ P ρ H ⟨d, .lookup t x i false, ty, p, e, g⟩ ((f ⟨s⟩).getD z) := q_lookup (k := (⟨s⟩ : StrK)) hx hm hi
theorem q_lookupS' {t : TypeId} {x i : Operand} {z v : Value} [TMap P t StrK z] {r : Nat} {f : StrK → Option Value} {s : ByteArray} (hx : ev ρ x = .map (some r)) (hm : MapF H r f) (hi : ev ρ i = .string s) (hv : (f ⟨s⟩).getD z = v) :
    OpQ P ρ H ⟨d, .lookup t x i false, ty, p, e, g⟩ v := hv ▸ q_lookup (k := (⟨s⟩ : StrK)) hx hm hi
theorem q_lookupI {t : TypeId} {x i : Operand} {z : Value} [TMap P t Int z] {r : Nat} {f : Int → Option Value} {n : Int} (hx : ev ρ x = .map (some r)) (hm : MapF H r f) (hi : ev ρ i = .int .i64 n) :
    OpQ P ρ H ⟨d, .lookup t x i false, ty, p, e, g⟩ ((f n).getD z) := q_lookup (k := n) hx hm hi
/-! ### Calls under a guard -/
theorem st_callg0 {f : FuncId} {args : List Operand} {tys : Array TypeId} {dd : Tmp} {vs : List Value} {R : Value → Heap → Prop} [TFunc P f] {j : Nat} {want b : Bool} {dj : Tmp} (hj : (ops[j]?).bind (·.dst) = some dj) (hb : ρ dj = .bool b) (hp : (b == want) = true)
    (ha : AV ρ args vs) (hc : CallsH P f vs.toArray H R) (hst : MayWrite st l ∨ ∀ v H', R v H' → Ext H H')
    (h : ∀ v H', R v H' → WL P ops st Q l (upd ρ dd (gt (b == want) v)) H') :
    WL P ops st Q (⟨some dd, .call { callee := .value (.func f), args := args.toArray, argTypes := tys }, ty, p, e, some (j, want)⟩ :: l) ρ H := by
  refine st_wg rfl hj hb hp (OpW.of_call (f := f) (args := vs.toArray) (fun w hw => ?_) (hc.mono fun v H' hR => ⟨fun m hm hle => ?_, ?_⟩))
  · simp [execOp, resolve, invoke, ev_func, Deferred.ofValue, TFunc.run (P := P), ha.map]
  · rcases hst with h1 | h1
    · exact absurd hle (h1 m hm)
    · exact h1 v H' hR
  · have := h v H' hR
    rw [gt_true hp] at this
    exact this
theorem st_skipg0 {op : Op} {dd : Tmp} {v : Value} {j : Nat} {want b : Bool} {dj : Tmp} (hj : (ops[j]?).bind (·.dst) = some dj) (hb : ρ dj = .bool b) (hp : (b == want) = false)
    (h : WL P ops st Q l (upd ρ dd (gt (b == want) v)) H) : WL P ops st Q (⟨some dd, op, ty, p, e, some (j, want)⟩ :: l) ρ H :=
  st_skip hj hb hp (by rw [hp] at h; exact h)
theorem st_callg1 {f : FuncId} {args : List Operand} {tys : Array TypeId} {dd : Tmp} {vs : List Value} {R : Value → Heap → Prop} [TFunc P f] {j : Nat} {want b pg : Bool} {dj : Tmp} (hj : (ops[j]?).bind (·.dst) = some dj) (hb : ρ dj = gt pg (.bool b)) (hp : (pg && (b == want)) = true)
    (ha : AV ρ args vs) (hc : CallsH P f vs.toArray H R) (hst : MayWrite st l ∨ ∀ v H', R v H' → Ext H H')
    (h : ∀ v H', R v H' → WL P ops st Q l (upd ρ dd (gt (pg && (b == want)) v)) H') :
    WL P ops st Q (⟨some dd, .call { callee := .value (.func f), args := args.toArray, argTypes := tys }, ty, p, e, some (j, want)⟩ :: l) ρ H := by
  have hpg : pg = true := by cases pg <;> simp_all
  have hbw : (b == want) = true := by cases pg <;> simp_all
  have := st_callg0 (P := P) (Q := Q) (l := l) (ty := ty) (p := p) (e := e) (tys := tys) (dd := dd) (st := st) (ops := ops) (ρ := ρ) hj (by rw [hb, gt_true hpg]) hbw ha hc hst (fun v H' hR => by
    have := h v H' hR
    rw [hp] at this
    rw [hbw]; exact this)
  exact this
theorem st_skipg1 {op : Op} {dd : Tmp} {v : Value} {j : Nat} {want b pg : Bool} {dj : Tmp} (hj : (ops[j]?).bind (·.dst) = some dj) (hb : ρ dj = gt pg (.bool b)) (hp : (pg && (b == want)) = false)
    (h : WL P ops st Q l (upd ρ dd (gt (pg && (b == want)) v)) H) : WL P ops st Q (⟨some dd, op, ty, p, e, some (j, want)⟩ :: l) ρ H := by
  unfold WL
  have hw : wantedρ ops ⟨some dd, op, ty, p, e, some (j, want)⟩ ρ = false := by
    simp only [wantedρ, hj, hb]
    cases pg with
    | false => simp [gt, undef]
    | true => simp only [Bool.true_and] at hp; simp [gt, hp]
  rw [hw]
  rw [hp] at h
  exact h
/-- A guard that holds. -/
theorem st_unguard0 {op : Op} {dd : Option Tmp} {j : Nat} {want b : Bool} {dj : Tmp} (hj : (ops[j]?).bind (·.dst) = some dj) (hb : ρ dj = .bool b) (hp : (b == want) = true)
    (h : WL P ops st Q (⟨dd, op, ty, p, e, none⟩ :: l) ρ H) : WL P ops st Q (⟨dd, op, ty, p, e, some (j, want)⟩ :: l) ρ H := by
  unfold WL at h ⊢
  have hw : wantedρ ops ⟨dd, op, ty, p, e, some (j, want)⟩ ρ = true := by simp only [wantedρ, hj, hb, hp]
  rw [if_pos (by rfl)] at h
  rw [if_pos hw]
  exact h
end Go.TM
