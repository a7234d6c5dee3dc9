/- Weakest preconditions over the heap alone: an environment of slots and the memory; no condition. -/
import Derived.WalkKit
import Derived.OrdersHeld
namespace Go.TM

abbrev Heap := Array Obj
abbrev Env := Nat → Value

/-- The value of an operand. -/
def ev (ρ : Env) : Operand → Value
  | .tmp t => ρ t
  | .const v => v
  | .global g => .pointer (some ⟨g, 0, none⟩)
  | .func f => .func (.func f) #[] #[]

/-- A slot gets a value. -/
def upd (ρ : Env) (d : Nat) (v : Value) : Env := fun i => cond (Nat.beq i d) v (ρ i)
theorem upd_same (ρ : Env) (d : Nat) (v : Value) : upd ρ d v d = v := by simp [upd]
theorem upd_ne (ρ : Env) (d : Nat) (v : Value) (i : Nat) (h : Nat.beq i d = false) : upd ρ d v i = ρ i := by simp [upd, h]

def put (ρ : Env) (d : Option Tmp) (v : Value) : Env := match d with | some d => upd ρ d v | none => ρ

/-- The world but for its heap and its count of draws. -/
structure Like (w w' : World) : Prop where
  os : w'.os = w.os
  tape : w'.tape = w.tape
  output : w'.output = w.output
  drawn : w.drawn ≤ w'.drawn
theorem Like.refl (w : World) : Like w w := ⟨rfl, rfl, rfl, Nat.le_refl _⟩
theorem Like.trans {a b c : World} (h : Like a b) (k : Like b c) : Like a c := ⟨k.os.trans h.os, k.tape.trans h.tape, k.output.trans h.output, Nat.le_trans h.drawn k.drawn⟩

/-- H' is H with new blocks. -/
structure Ext (H H' : Heap) : Prop where
  size : H.size ≤ H'.size
  block : ∀ b, b < H.size → H'[b]? = H[b]?
theorem Ext.refl (H : Heap) : Ext H H := ⟨Nat.le_refl _, fun _ _ => rfl⟩
theorem Ext.trans {a b c : Heap} (h : Ext a b) (k : Ext b c) : Ext a c := ⟨Nat.le_trans h.size k.size, fun i hi => (k.block i (Nat.lt_of_lt_of_le hi h.size)).trans (h.block i hi)⟩
theorem Ext.some {H H' : Heap} (h : Ext H H') {b : Nat} {o : Obj} (hb : H[b]? = some o) : H'[b]? = some o :=
  (h.block b (Array.getElem?_eq_some_iff.1 hb).1).trans hb

structure Agrees (N : Nat) (ρ : Env) (a : Act) : Prop where
  size : a.tmps.size = N
  at_ : ∀ i, a.tmps.getD i undef = ρ i
  defers : a.defers = []

theorem Agrees.eval {N : Nat} {ρ : Env} {a : Act} (h : Agrees N ρ a) : a.eval = ev ρ := by
  funext x; cases x <;> simp [Act.eval, ev, ← h.at_]

/-- Every slot that the code writes is below N. -/
def dstsLt (N : Nat) : Code → Bool
  | .region _ ops _ => ops.toList.all fun o => match o.dst with | some d => Nat.blt d N | none => true
  | .seq a b => dstsLt N a && dstsLt N b
  | .cond _ a b => dstsLt N a && dstsLt N b
  | .block _ c | .loop c | .scope c => dstsLt N c
  | .rangeFunc _ _ a b => dstsLt N a && dstsLt N b
  | _ => true

def lift (N : Nat) (w : World) (Q : Exit → Env → Heap → Prop) : Exit → Act → World → Prop :=
  fun e a' w' => Like w w' ∧ ∃ ρ', Agrees N ρ' a' ∧ Q e ρ' w'.heap

/-- From this environment and heap the code comes to what Q says. -/
def W (P : Program) (N : Nat) (c : Code) (Q : Exit → Env → Heap → Prop) (ρ : Env) (H : Heap) : Prop :=
  dstsLt N c = true → ∀ (a : Act) (w : World), Agrees N ρ a → w.heap = H → c.wp P (lift N w Q) a w

def thenQ (next : Env → Heap → Prop) (Q : Exit → Env → Heap → Prop) : Exit → Env → Heap → Prop
  | .normal, ρ, H => next ρ H
  | e, ρ, H => Q e ρ H

def inBlockQ (id : Nat) (Q : Exit → Env → Heap → Prop) : Exit → Env → Heap → Prop
  | .exit id', ρ, H => if id' = id then Q .normal ρ H else Q (.exit id') ρ H
  | e, ρ, H => Q e ρ H

variable {P : Program} {N : Nat} {Q : Exit → Env → Heap → Prop} {ρ : Env} {H : Heap}

theorem W.mono {c : Code} {Q' : Exit → Env → Heap → Prop} (h : W P N c Q ρ H) (hq : ∀ e ρ H, Q e ρ H → Q' e ρ H) : W P N c Q' ρ H :=
  fun hd a w ha hw => wp_mono (h hd a w ha hw) fun _ _ _ ⟨l, ρ', g, q⟩ => ⟨l, ρ', g, hq _ _ _ q⟩

theorem W_skip (h : Q .normal ρ H) : W P N .skip Q ρ H := fun _ _ w ha hw => wp_skip ⟨Like.refl w, ρ, ha, hw ▸ h⟩
theorem W_label {l : Nat} (h : Q .normal ρ H) : W P N (.label l) Q ρ H := fun _ _ w ha hw => wp_label ⟨Like.refl w, ρ, ha, hw ▸ h⟩
theorem W_exit {id : Nat} (h : Q (.exit id) ρ H) : W P N (.exit id) Q ρ H := fun _ _ w ha hw => wp_exit ⟨Like.refl w, ρ, ha, hw ▸ h⟩
theorem W_ret (h : Q .ret ρ H) : W P N .ret Q ρ H := fun _ _ w ha hw => wp_ret ⟨Like.refl w, ρ, ha, hw ▸ h⟩

theorem W_seq {x y : Code} (h : W P N x (thenQ (W P N y Q) Q) ρ H) : W P N (.seq x y) Q ρ H := by
  intro hd a w ha hw
  simp only [dstsLt, Bool.and_eq_true] at hd
  refine wp_seq (wp_mono (h hd.1 a w ha hw) ?_)
  rintro e a' w' ⟨l, ρ', g, q⟩
  cases e with
  | normal => exact wp_mono (q hd.2 a' w' g rfl) fun e a w ⟨l', ρ', g, q⟩ => ⟨l.trans l', ρ', g, q⟩
  | exit id => exact ⟨l, ρ', g, q⟩
  | goto id => exact ⟨l, ρ', g, q⟩
  | ret => exact ⟨l, ρ', g, q⟩
  | panic c => exact ⟨l, ρ', g, q⟩
  | outgrown => exact ⟨l, ρ', g, q⟩

theorem W_block {id : Nat} {c : Code} (h : W P N c (inBlockQ id Q) ρ H) : W P N (.block id c) Q ρ H := by
  intro hd a w ha hw
  refine wp_block (wp_mono (h hd a w ha hw) ?_)
  rintro e a' w' ⟨l, ρ', g, q⟩
  cases e with
  | exit id' =>
    simp only [inBlockQ] at q
    simp only [Exit.inBlock]
    split at q
    · rename_i he; rw [if_pos he]; exact ⟨l, ρ', g, q⟩
    · rename_i he; rw [if_neg he]; exact ⟨l, ρ', g, q⟩
  | normal => exact ⟨l, ρ', g, q⟩
  | goto id => exact ⟨l, ρ', g, q⟩
  | ret => exact ⟨l, ρ', g, q⟩
  | panic c => exact ⟨l, ρ', g, q⟩
  | outgrown => exact ⟨l, ρ', g, q⟩

theorem W_cond {c : Operand} {x y : Code} {b : Bool} (hc : ev ρ c = .bool b) (ht : b = true → W P N x Q ρ H) (hf : b = false → W P N y Q ρ H) : W P N (.cond c x y) Q ρ H := by
  intro hd a w ha hw
  simp only [dstsLt, Bool.and_eq_true] at hd
  refine wp_cond_split (t := b) (by rw [ha.eval]; exact hc) (fun h => ?_) (fun h => ?_)
  · exact ht h hd.1 a w ha hw
  · exact hf h hd.2 a w ha hw

/-- A test on a proposition. -/
theorem W_if {c : Operand} {x y : Code} {p : Prop} [Decidable p] (hc : ev ρ c = .bool (decide p)) (ht : p → W P N x Q ρ H) (hf : ¬ p → W P N y Q ρ H) : W P N (.cond c x y) Q ρ H :=
  W_cond hc (fun h => ht (of_decide_eq_true h)) (fun h => hf (of_decide_eq_false h))
theorem W_true {c : Operand} {x y : Code} (hc : ev ρ c = .bool true) (h : W P N x Q ρ H) : W P N (.cond c x y) Q ρ H :=
  W_cond hc (fun _ => h) (fun h => by cases h)
theorem W_false {c : Operand} {x y : Code} (hc : ev ρ c = .bool false) (h : W P N y Q ρ H) : W P N (.cond c x y) Q ρ H :=
  W_cond hc (fun h => by cases h) (fun _ => h)

/-- The slots hold these values. -/
def holds (l : List (Nat × Value)) (ρ : Env) : Prop := match l with | [] => True | p :: l => ρ p.1 = p.2 ∧ holds l ρ
def over : List (Nat × Value) → Env → Env | [], ρ => ρ | p :: l, ρ => upd (over l ρ) p.1 p.2
theorem over_eq (l : List (Nat × Value)) (ρ : Env) (h : holds l ρ) : over l ρ = ρ := by
  induction l with
  | nil => rfl
  | cons p l ih =>
    obtain ⟨h1, h2⟩ := h
    funext i
    simp only [over, upd, ih h2]
    cases hb : Nat.beq i p.1 with
    | true => rw [Nat.eq_of_beq_eq_true hb]; exact h1.symm
    | false => rfl

/-- A loop: x tells the round's state; its slots and what holds of it at every round's head; a measure that each round lowers. -/
theorem W_loop {X : Type} {c : Code} (slots : X → List (Nat × Value)) (I : X → Heap → Prop) (μ : X → Nat) (x₀ : X)
    (h₀ : holds (slots x₀) ρ) (hI : I x₀ H)
    (round : ∀ (u : Env) x H, I x H → W P N c (thenQ (fun ρ' H' => ∃ x', holds (slots x') ρ' ∧ I x' H' ∧ μ x' < μ x) Q) (over (slots x) u) H) :
    W P N (.loop c) Q ρ H := by
  intro hd a w ha hw
  let R : Nat → Act → World → Prop := fun n a' w' => Like w w' ∧ ∃ x ρ', Agrees N ρ' a' ∧ holds (slots x) ρ' ∧ I x w'.heap ∧ μ x = n
  intro b k cs
  have key : ∀ n a w', R n a w' → ∃ e a' w'', lift N w Q e a' w'' ∧ Arrives P (lone (b.at a (.code c :: .inLoop c :: k)) cs w') b k cs e a' w'' := by
    intro n
    induction n using Nat.strongRecOn with
    | _ n ih =>
      rintro a w' ⟨hl, x, ρ', hag, hs, hx, hn⟩
      have hr := round ρ' x w'.heap hx hd a w' (by rw [over_eq _ _ hs]; exact hag) rfl b (.inLoop c :: k) cs
      obtain ⟨e, a₁, w₁, ⟨l₁, ρ₁, g₁, q⟩, harr⟩ := hr
      cases e with
      | normal =>
        obtain ⟨x', hs', hI', hlt⟩ := q
        obtain ⟨e₂, a₂, w₂, hq₂, harr₂⟩ := ih (μ x') (hn ▸ hlt) a₁ w₁ ⟨hl.trans l₁, x', ρ₁, g₁, hs', hI', rfl⟩
        exact ⟨e₂, a₂, w₂, hq₂, .of_steps (Steps.trans harr (.one step_inLoop)) harr₂⟩
      | exit id => exact ⟨_, a₁, w₁, ⟨hl.trans l₁, ρ₁, g₁, q⟩, .pass (x := .inLoop c) rfl (fun _ _ => .inl (by simp)) harr⟩
      | goto l => exact ⟨_, a₁, w₁, ⟨hl.trans l₁, ρ₁, g₁, q⟩, .pass (x := .inLoop c) rfl (fun _ _ => .inl (by simp)) harr⟩
      | ret => exact ⟨_, a₁, w₁, ⟨hl.trans l₁, ρ₁, g₁, q⟩, .pass (x := .inLoop c) rfl (fun _ _ => .inl (by simp)) harr⟩
      | panic ch => exact ⟨_, a₁, w₁, ⟨hl.trans l₁, ρ₁, g₁, q⟩, .pass (x := .inLoop c) rfl (fun _ _ => .inl (by simp)) harr⟩
      | outgrown => exact ⟨_, a₁, w₁, ⟨hl.trans l₁, ρ₁, g₁, q⟩, .pass (x := .inLoop c) rfl (fun _ _ => .inl (by simp)) harr⟩
  obtain ⟨e, a', w', hq, harr⟩ := key _ a w ⟨Like.refl w, x₀, ρ, ha, h₀, hw ▸ hI, rfl⟩
  exact ⟨e, a', w', hq, .of_steps (.one step_loop) harr⟩

/-- What a Bool says. -/
class BP (b : Bool) (p : outParam Prop) : Prop where
  iff : b = true ↔ p
instance (priority := low) BP.any (b : Bool) : BP b (b = true) := ⟨Iff.rfl⟩
instance BP.dec (p : Prop) [Decidable p] : BP (decide p) p := ⟨decide_eq_true_iff⟩
instance BP.and (a b : Bool) (p q : Prop) [BP a p] [BP b q] : BP (a && b) (p ∧ q) := ⟨by rw [Bool.and_eq_true, BP.iff (b := a), BP.iff (b := b)]⟩
instance BP.or (a b : Bool) (p q : Prop) [BP a p] [BP b q] : BP (a || b) (p ∨ q) := ⟨by rw [Bool.or_eq_true, BP.iff (b := a), BP.iff (b := b)]⟩
instance BP.not (a : Bool) (p : Prop) [BP a p] : BP (!a) (¬ p) := ⟨by rw [← BP.iff (b := a)]; cases a <;> simp⟩
instance BP.tt : BP true True := ⟨by simp⟩
instance BP.ff : BP false False := ⟨by simp⟩
theorem BP.neg {b : Bool} {p : Prop} [BP b p] (h : b = false) : ¬ p := fun hp => by rw [(BP.iff (b := b)).2 hp] at h; cases h

theorem look_over_here (i : Nat) (v : Value) (l : List (Nat × Value)) (u : Env) : over ((i, v) :: l) u i = v := by simp [over, upd]
theorem look_over_here' {i : Nat} {v w : Value} {l : List (Nat × Value)} {u : Env} (h : v = w) : over ((i, v) :: l) u i = w := by rw [look_over_here, h]
theorem look_over_there {i j : Nat} {v w : Value} {l : List (Nat × Value)} {u : Env} (h : Nat.beq i j = false) (hw : over l u i = w) : over ((j, v) :: l) u i = w := by simp [over, upd, h, hw]

/-- The ways of c meet again: what follows is shown once, of whatever state x tells. -/
theorem W_cut {X : Type} {c d : Code} (slots : X → List (Nat × Value)) (I : X → Heap → Prop)
    (h : W P N c (thenQ (fun ρ' H' => ∃ x, holds (slots x) ρ' ∧ I x H') Q) ρ H)
    (hk : ∀ (u : Env) x H, I x H → W P N d Q (over (slots x) u) H) : W P N (.seq c d) Q ρ H := by
  refine W_seq (h.mono fun e ρ' H' q => ?_)
  cases e with
  | normal =>
    obtain ⟨x, hs, hx⟩ := q
    have := hk ρ' x H' hx
    rw [over_eq _ _ hs] at this
    exact this
  | exit id => exact q
  | goto id => exact q
  | ret => exact q
  | panic c => exact q
  | outgrown => exact q

/-! ### Where a part has come to its end -/
theorem nq_then {next : Env → Heap → Prop} (h : next ρ H) : thenQ next Q .normal ρ H := h
theorem nq_block {id : Nat} (h : Q .normal ρ H) : inBlockQ id Q .normal ρ H := h
theorem xq_then {next : Env → Heap → Prop} {id : Nat} (h : Q (.exit id) ρ H) : thenQ next Q (.exit id) ρ H := h
theorem xq_eq {id : Nat} (h : Q .normal ρ H) : inBlockQ id Q (.exit id) ρ H := by simp only [inBlockQ, if_true]; exact h
theorem xq_ne {id id' : Nat} (hn : Nat.beq id' id = false) (h : Q (.exit id') ρ H) : inBlockQ id Q (.exit id') ρ H := by
  have : ¬ id' = id := fun e => by subst e; simp at hn
  simp only [inBlockQ, if_neg this]; exact h
theorem rq_then {next : Env → Heap → Prop} (h : Q .ret ρ H) : thenQ next Q .ret ρ H := h
theorem rq_block {id : Nat} (h : Q .ret ρ H) : inBlockQ id Q .ret ρ H := h

/-! ### Calls -/
/-- Called in this memory the function returns v and leaves the memory H', of which R holds. -/
def CallsH (P : Program) (f : FuncId) (args : Array Value) (H : Heap) (R : Value → Heap → Prop) : Prop :=
  ∀ w : World, w.heap = H → Calls P f args w fun e w' => ∃ v, e = .returned v ∧ Like w w' ∧ R v w'.heap

theorem CallsH.mono {f : FuncId} {args : Array Value} {R R' : Value → Heap → Prop} (h : CallsH P f args H R) (hr : ∀ v H', R v H' → R' v H') : CallsH P f args H R' :=
  fun w hw => (h w hw).mono fun _ _ ⟨v, he, l, r⟩ => ⟨v, he, l, hr _ _ r⟩


/-- What the function hands back, of this environment and heap. -/
def ResAt (P : Program) (fn : Func) (ρ : Env) (H : Heap) (v : Value) : Prop :=
  ∀ (tmps : Array Value) (w : World), (∀ i, tmps.getD i undef = ρ i) → w.heap = H → (results fn tmps).run P w = .ok v w

theorem ResAt.none {fn : Func} (h : fn.results = #[]) : ResAt P fn ρ H (.tuple #[]) := fun tmps w _ _ => results_none h tmps P w
theorem ResAt.one {fn : Func} {t : Tmp} {v : Value} (h : fn.results = #[.tmp t]) (hv : ρ t = v) : ResAt P fn ρ H v := fun tmps w ha _ => by
  rw [results_tmp h tmps P w, ha, hv]
theorem ResAt.two {fn : Func} {t u : Tmp} {v v' : Value} (h : fn.results = #[.tmp t, .tmp u]) (hv : ρ t = v) (hu : ρ u = v') : ResAt P fn ρ H (.tuple #[v, v']) := fun tmps w ha _ => by
  rw [results_tmp2 h tmps P w, ha, hv, ha, hu]
theorem ResAt.three {fn : Func} {t u s : Tmp} {v v' v'' : Value} (h : fn.results = #[.tmp t, .tmp u, .tmp s]) (hv : ρ t = v) (hu : ρ u = v') (hs : ρ s = v'') : ResAt P fn ρ H (.tuple #[v, v', v'']) := fun tmps w ha _ => by
  have h1 := ha t; have h2 := ha u; have h3 := ha s
  simp only [Array.getD_eq_getD_getElem?] at h1 h2 h3
  simp [results, h, h1, h2, h3, hv, hu, hs]
theorem ResAt.four {fn : Func} {t u s r : Tmp} {v v' v'' v3 : Value} (h : fn.results = #[.tmp t, .tmp u, .tmp s, .tmp r]) (hv : ρ t = v) (hu : ρ u = v') (hs : ρ s = v'') (hr : ρ r = v3) : ResAt P fn ρ H (.tuple #[v, v', v'', v3]) := fun tmps w ha _ => by
  have h1 := ha t; have h2 := ha u; have h3 := ha s; have h4 := ha r
  simp only [Array.getD_eq_getD_getElem?] at h1 h2 h3 h4
  simp [results, h, h1, h2, h3, h4, hv, hu, hs, hr]

/-- What a result variable holds. -/
def RV (P : Program) (ρ : Env) (H : Heap) : ResultVar → Value → Prop
  | .tmp t, v => ρ t = v
  | .cell a t, v => ∃ ad, ρ a = .pointer (some ad) ∧ ∀ w : World, w.heap = H → (loadVar t ad).run P w = .ok v w
def RVs (P : Program) (ρ : Env) (H : Heap) : List ResultVar → List Value → Prop
  | [], [] => True
  | r :: rs, v :: vs => RV P ρ H r v ∧ RVs P ρ H rs vs
  | _, _ => False
def rvRun (tmps : Array Value) (r : ResultVar) : Sem Value := match r with
  | .tmp t => pure (tmps.getD t undef)
  | .cell a t => do loadVar t (← asAddr (tmps.getD a undef))
theorem RVs_run {tmps : Array Value} {w : World} (ht : ∀ i, tmps.getD i undef = ρ i) (hw : w.heap = H) (rs : List ResultVar) : ∀ vs, RVs P ρ H rs vs → (rs.mapM (rvRun tmps)).run P w = .ok vs w := by
  induction rs with
  | nil => intro vs h; cases vs with | nil => rfl | cons v vs => exact h.elim
  | cons r rs ih =>
    intro vs h
    cases vs with
    | nil => exact h.elim
    | cons v vs =>
      have h2 := ih vs h.2
      have h1 : (rvRun tmps r).run P w = .ok v w := by
        cases r with
        | tmp t => simp only [rvRun, Sem.run_pure]; rw [ht t, h.1]
        | cell a t =>
          obtain ⟨ad, had, hl⟩ := h.1
          have ha : (asAddr (tmps.getD a undef)).run P w = .ok ad w := by rw [ht a, had]; rfl
          simp only [rvRun, Sem.run_bind, ha, Result.andThen_ok, hl w hw]
      simp only [List.mapM_cons, Sem.run_bind, Sem.run_pure, Result.andThen_ok, h1, h2]
theorem results_eq (fn : Func) (tmps : Array Value) : results fn tmps = (do let vs ← fn.results.mapM (rvRun tmps); pure (if h : vs.size = 1 then vs[0] else .tuple vs)) := rfl
theorem ResAt.oneV {fn : Func} {r : ResultVar} {v : Value} (h : fn.results = #[r]) (hv : RV P ρ H r v) : ResAt P fn ρ H v := fun tmps w ht hw => by
  have := RVs_run (P := P) ht hw [r] [v] ⟨hv, trivial⟩
  rw [results_eq, h, show #[r] = [r].toArray from rfl, List.mapM_toArray]
  simp only [Sem.run_bind, Sem.run_map, Sem.run_pure, this, Result.andThen_ok]
  simp
theorem ResAt.manyV {fn : Func} {rs : List ResultVar} {vs : List Value} (h : fn.results = rs.toArray) (hn : vs.length ≠ 1) (hv : RVs P ρ H rs vs) : ResAt P fn ρ H (.tuple vs.toArray) := fun tmps w ht hw => by
  have := RVs_run (P := P) ht hw rs vs hv
  rw [results_eq, h, List.mapM_toArray]
  simp only [Sem.run_bind, Sem.run_map, Sem.run_pure, this, Result.andThen_ok]
  simp [hn]

/-- Where the body has come to its end. -/
def retQ (P : Program) (fn : Func) (R : Value → Heap → Prop) : Exit → Env → Heap → Prop
  | .normal, ρ, H | .ret, ρ, H => ∃ v, ResAt P fn ρ H v ∧ R v H
  | _, _, _ => False

def initρ (args : List Value) : Env := fun i => args.getD i undef

theorem initρ_agrees (args : Array Value) (n : Nat) : Agrees (max args.size n) (initρ args.toList) { tmps := args ++ Array.replicate (n - args.size) undef, defers := [] } := by
  refine ⟨by simp; omega, fun i => ?_, rfl⟩
  simp only [initρ, Array.getD_eq_getD_getElem?, List.getD_eq_getElem?_getD, Array.getElem?_toList]
  by_cases hi : i < args.size
  · rw [Array.getElem?_append_left hi]
  · rw [Array.getElem?_append_right (by omega), Array.getElem?_eq_none (by omega : args.size ≤ i)]
    by_cases h2 : i - args.size < n - args.size
    · rw [Array.getElem?_replicate, if_pos h2]; rfl
    · rw [Array.getElem?_replicate, if_neg h2]

theorem retQ_ret {fn : Func} {R : Value → Heap → Prop} {v : Value} (hv : ResAt P fn ρ H v) (h : R v H) : retQ P fn R .ret ρ H := ⟨v, hv, h⟩
theorem retQ_end {fn : Func} {R : Value → Heap → Prop} {v : Value} (hv : ResAt P fn ρ H v) (h : R v H) : retQ P fn R .normal ρ H := ⟨v, hv, h⟩

/-- The parameters, each in its slot. -/
def initF : Nat → List Value → Env
  | _, [] => fun _ => undef
  | k, v :: l => upd (initF (k + 1) l) k v
theorem initF_eq (l : List Value) (k : Nat) : ∀ i, initF k l i = if k ≤ i then l.getD (i - k) undef else undef := by
  induction l generalizing k with
  | nil => intro i; simp [initF]
  | cons v l ih =>
    intro i
    simp only [initF, upd, ih (k + 1)]
    cases hb : Nat.beq i k with
    | true => have := Nat.eq_of_beq_eq_true hb; subst this; simp
    | false =>
      have hne : i ≠ k := fun e => by subst e; simp at hb
      simp only [cond_false]
      by_cases h : k + 1 ≤ i
      · rw [if_pos h, if_pos (by omega), show i - k = (i - (k + 1)) + 1 by omega]; simp
      · rw [if_neg h, if_neg (by omega)]
theorem initρ_eq (l : List Value) : initρ l = initF 0 l := by
  funext i; rw [initF_eq]; simp [initρ]

/-- The body of a function shows its contract. -/
theorem callsH_of_W {f : FuncId} {fn : Func} {c : Code} {args : List Value} {H : Heap} {R : Value → Heap → Prop} {ρ₀ : Env} (hρ : initF 0 args = ρ₀) (hf : P.funcs[f]? = some fn) (hb : fn.body = some c)
    (hd : dstsLt (max args.length fn.ntmps) c = true)
    (h : W P (max args.length fn.ntmps) c (retQ P fn R) ρ₀ H) : CallsH P f args.toArray H R := by
  intro w hw
  rw [← hρ, ← initρ_eq] at h
  refine calls_of_wp hf hb (wp_mono (h hd _ w (by simpa using initρ_agrees args.toArray fn.ntmps) hw) ?_)
  rintro e a' w' ⟨l, ρ', g, q⟩
  cases e with
  | normal => obtain ⟨v, hr, hR⟩ := q; exact ⟨g.defers, v, hr _ _ g.at_ rfl, v, rfl, l, hR⟩
  | ret => obtain ⟨v, hr, hR⟩ := q; exact ⟨g.defers, v, hr _ _ g.at_ rfl, v, rfl, l, hR⟩
  | exit id => exact q.elim
  | goto id => exact q.elim
  | panic c => exact q.elim
  | outgrown => exact q.elim

/-! ### Operations -/
/-- The operation yields v wherever this memory lies, and does nothing else. -/
def OpQ (P : Program) (ρ : Env) (H : Heap) (o : Oper) (v : Value) : Prop :=
  ∀ w : World, Ext H w.heap → (execOp (ev ρ) o).run P w = .ok (.value v) w

/-- The operation comes to K. -/
def OpW (P : Program) (ρ : Env) (H : Heap) (o : Oper) (K : Value → Heap → Prop) : Prop :=
  ∀ (a : Act) (w : World) (next : Act → World → Prop) (Qx : Exit → Act → World → Prop), a.eval = ev ρ → w.heap = H →
    (∀ v w', Like w w' → K v w'.heap → next (a.put o.dst v) w') → o.wp P a w next Qx

theorem OpQ.mono {o : Oper} {v : Value} {H' : Heap} (h : OpQ P ρ H o v) (he : Ext H H') : OpQ P ρ H' o v := fun w hw => h w (he.trans hw)
theorem OpQ.opW {o : Oper} {v : Value} {K : Value → Heap → Prop} (h : OpQ P ρ H o v) (hk : K v H) : OpW P ρ H o K := by
  intro a w next Qx ha hw hn
  unfold Oper.wp
  rw [ha, h w (hw ▸ Ext.refl _), Oper.upon_value]
  exact hn v w (Like.refl w) (hw ▸ hk)
theorem OpW.mono {o : Oper} {K K' : Value → Heap → Prop} (h : OpW P ρ H o K) (hk : ∀ v H', K v H' → K' v H') : OpW P ρ H o K' :=
  fun a w next Qx ha hw hn => h a w next Qx ha hw fun v w' l k => hn v w' l (hk _ _ k)
theorem OpW.of_run {o : Oper} {K : Value → Heap → Prop} (h : ∀ w : World, w.heap = H → ∃ v w', (execOp (ev ρ) o).run P w = .ok (.value v) w' ∧ Like w w' ∧ K v w'.heap) : OpW P ρ H o K := by
  intro a w next Qx ha hw hn
  obtain ⟨v, w', hr, l, k⟩ := h w hw
  unfold Oper.wp
  rw [ha, hr, Oper.upon_value]
  exact hn v w' l k
theorem OpW.of_skip {o : Oper} {K : Value → Heap → Prop} (h : ∀ w : World, w.heap = H → ∃ w', (execOp (ev ρ) o).run P w = .ok .skip w' ∧ Like w w' ∧ K undef w'.heap) : OpW P ρ H o K := by
  intro a w next Qx ha hw hn
  obtain ⟨w', hr, l, k⟩ := h w hw
  unfold Oper.wp
  rw [ha, hr, Oper.upon_skip]
  exact hn undef w' l k
theorem OpW.of_call {o : Oper} {f : FuncId} {args : Array Value} {K : Value → Heap → Prop} (h : ∀ w : World, w.heap = H → (execOp (ev ρ) o).run P w = .ok (.enter f args) w) (hc : CallsH P f args H K) : OpW P ρ H o K := by
  intro a w next Qx ha hw hn
  unfold Oper.wp
  rw [ha, h w hw, Oper.upon_enter]
  refine (hc w hw).mono ?_
  rintro e w' ⟨v, rfl, l, k⟩
  exact hn v w' l k

/-! ### Regions -/
/-- Is a guarded operation wanted? -/
def wantedρ (ops : Array Oper) (o : Oper) (ρ : Env) : Bool :=
  match o.guard with
  | none => true
  | some (j, want) => match (ops[j]?).bind (·.dst) with
    | some d => match ρ d with
      | .bool b => b == want
      | _ => false
    | none => false

theorem wanted_eq {ops : Array Oper} {o : Oper} {a : Act} (h : Agrees N ρ a) : Region.wanted o (yielded ops a.tmps) = wantedρ ops o ρ := by
  unfold Region.wanted wantedρ
  cases o.guard with
  | none => rfl
  | some g =>
    obtain ⟨j, want⟩ := g
    simp only [yielded]
    generalize (ops[j]?).bind (·.dst) = od
    cases od with
    | none => rfl
    | some d =>
      have hat := h.at_ d
      simp only [Array.getD_eq_getD_getElem?] at hat
      simp only [Option.bind_some]
      cases ht : a.tmps[d]? with
      | none => rw [ht] at hat; simp only [Option.getD_none] at hat; rw [← hat]; rfl
      | some v =>
        rw [ht] at hat
        simp only [Option.getD_some] at hat
        rw [← hat]
        cases v <;> first | rfl | (simp; rfl) | (simp)

/-- Operations that only read. -/
def isQ : Op → Bool
  | .move _ | .assign _ | .pick .. | .load .. | .extract .. | .binOp .. | .unOp .. | .field .. | .fieldAddr .. | .indexAddr .. | .index .. | .slice .. | .nilCheck _ | .lookup .. | .makeFunc .. | .makeInterface .. | .build .. => true
  | .convert .. => true
  | .call { callee := .builtin b, .. } => match b with | .len | .cap | .min | .max => true | _ => false
  | _ => false

/-- How many operations do not only read. -/
def loud : List Oper → Nat
  | [] => 0
  | o :: l => if isQ o.op then loud l else loud l + 1

/-- The operations, one behind the other. 'st' (some m): nothing that was there is written, but by the last m that do not only read. -/
def WL (P : Program) (ops : Array Oper) (st : Option Nat) (Q : Env → Heap → Prop) : List Oper → Env → Heap → Prop
  | [], ρ, H => Q ρ H
  | o :: l, ρ, H =>
    if wantedρ ops o ρ then (∃ v, OpQ P ρ H o v ∧ WL P ops st Q l (put ρ o.dst v) H) ∨
      ((st ≠ none → isQ o.op = false) ∧ OpW P ρ H o (fun v H' => (∀ m, st = some m → m ≤ loud l → Ext H H') ∧ WL P ops st Q l (put ρ o.dst v) H'))
    else WL P ops st Q l (put ρ o.dst undef) H

theorem put_agrees {a : Act} {v : Value} {d : Option Tmp} (h : Agrees N ρ a) (hd : ∀ i, d = some i → i < N) : Agrees N (put ρ d v) (a.put d v) := by
  cases d with
  | none => exact h
  | some d =>
    have hlt := hd d rfl
    refine ⟨by simp [Act.put, h.size], fun i => ?_, h.defers⟩
    simp only [Act.put, put, upd]
    have hi := h.at_ i
    simp only [Array.getD_eq_getD_getElem?] at hi ⊢
    by_cases he : i = d
    · subst he
      rw [Array.getElem?_setIfInBounds_self, if_pos (by rw [h.size]; exact hlt)]
      simp
    · rw [Array.getElem?_setIfInBounds_ne (Ne.symm he), hi]
      have : Nat.beq i d = false := by
        rw [Bool.eq_false_iff]; intro hb; exact he (Nat.eq_of_beq_eq_true hb)
      simp [this]

theorem WL_sound {ops : Array Oper} {st : Option Nat} {Q' : Env → Heap → Prop} {w₀ : World} (l : List Oper) : ∀ (ρ : Env) (H : Heap) (a : Act) (w : World), (∀ o ∈ l, ∀ i, o.dst = some i → i < N) →
    WL P ops st Q' l ρ H → Agrees N ρ a → w.heap = H → Like w₀ w →
    wpList P ops (fun e a' w' => Like w₀ w' ∧ ∃ ρ', Agrees N ρ' a' ∧ e = .normal ∧ Q' ρ' w'.heap) l a w := by
  induction l with
  | nil => intro ρ H a w _ h ha hw hl; exact ⟨hl, ρ, ha, rfl, hw ▸ h⟩
  | cons o l ih =>
    intro ρ H a w hd h ha hw hl
    have hd' : ∀ i, o.dst = some i → i < N := hd o (by simp)
    have hdl : ∀ o ∈ l, ∀ i, o.dst = some i → i < N := fun o ho => hd o (by simp [ho])
    unfold wpList
    unfold WL at h
    rw [wanted_eq ha]
    split
    · rename_i hwt
      rw [if_pos hwt] at h
      refine .inl ?_
      rcases h with ⟨v, hq, hk⟩ | ⟨_, hop⟩
      · unfold Oper.wp
        rw [ha.eval, hq w (hw ▸ Ext.refl _), Oper.upon_value]
        exact ih _ _ (a.put o.dst v) w hdl hk (put_agrees ha hd') hw hl
      · exact hop a w _ _ ha.eval hw fun v w' hl' hk => ih _ _ (a.put o.dst v) w' hdl hk.2 (put_agrees ha hd') rfl (hl.trans hl')
    · rename_i hwt
      rw [if_neg hwt] at h
      exact ih _ _ (a.put o.dst undef) w hdl h (put_agrees ha hd') hw hl

theorem W_region {id : Nat} {l : List Oper} (h : WL P l.toArray none (Q .normal) l ρ H) : W P N (.region id l.toArray false) Q ρ H := by
  intro hd a w ha hw
  refine wp_mono (wp_region_lit (WL_sound (w₀ := w) l ρ H a w ?_ h ha hw (Like.refl w))) ?_
  · intro o ho i hi
    simp only [dstsLt, List.all_eq_true] at hd
    have := hd o ho
    rw [hi] at this
    simpa using this
  · rintro e a' w' ⟨hl, ρ', g, rfl, q⟩
    exact ⟨hl, ρ', g, q⟩


/-! ### A region in whatever order -/
/-- 'fin': the one operation that may write what was there. -/
def wpAnyE (P : Program) (ops : Array Oper) (fin : List Nat) (Q : Exit → Act → World → Prop) : Nat → Array Bool → Act → World → Prop
  | 0, listed, a, w => Region.ready .any ops listed = [] ∧ Q .normal a w
  | fuel + 1, listed, a, w =>
    (Region.ready .any ops listed = [] → Q .normal a w) ∧
    ∀ i ∈ Region.ready .any ops listed, wpOp P ops Q i (fun a' w' => (i ∈ fin ∨ Ext w.heap w'.heap) ∧ wpAnyE P ops fin Q fuel (listed.setIfInBounds i true) a' w') a w

theorem wpAny_of_E {ops : Array Oper} {fin : List Nat} {Qx : Exit → Act → World → Prop} : ∀ (fuel : Nat) (listed : Array Bool) (a : Act) (w : World), wpAnyE P ops fin Qx fuel listed a w → wpAny P .any ops Qx fuel listed a w
  | 0, _, _, _, h => h
  | fuel + 1, _, _, _, h => ⟨h.1, fun i hi => wpOp_mono (fun a' w' h' => wpAny_of_E fuel _ a' w' h'.2) (h.2 i hi)⟩

theorem yieldsIf_weaken {ops : Array Oper} {S S' : World → Prop} {o : Oper} {v : Value} {a : Act} (h : YieldsIf P ops S o v a) (hs : ∀ w, S' w → S w) : YieldsIf P ops S' o v a :=
  h.imp (fun ⟨h1, h2⟩ => ⟨h1, fun w hw => h2 w (hs w hw)⟩) id

/-- Whatever is listed, all that it waits for is. -/
def Closed (ops : Array Oper) (listed : Array Bool) : Prop := ∀ k ok, ops[k]? = some ok → listed.getD k false = true → ∀ e ∈ ok.after, Region.binds .any e = true → listed.getD e.on false = true
theorem closed_new (ops : Array Oper) (n : Nat) : Closed ops (Array.replicate n false) := fun k ok _ hk => by
  exfalso
  simp only [Array.getD_eq_getD_getElem?, Array.getElem?_replicate] at hk
  split at hk <;> cases hk
theorem closed_set {ops : Array Oper} {listed : Array Bool} {j : Nat} (h : Closed ops listed) (hj : j ∈ Region.ready .any ops listed) : Closed ops (listed.setIfInBounds j true) := by
  intro k ok hk hl e he hb
  by_cases hkj : j = k
  · subst hkj
    obtain ⟨_, o, ho, hall⟩ := mem_ready.1 hj
    rw [ho] at hk; cases hk
    exact getD_set_true (hall e he hb)
  · rw [getD_set_ne false hkj] at hl
    exact getD_set_true (h k ok hk hl e he hb)
/-- j waits for k, through others perhaps. -/
inductive Rch (ops : Array Oper) (j : Nat) : Nat → Prop
  | one {o : Oper} {e : Edge} : ops[j]? = some o → e ∈ o.after → Region.binds .any e = true → Rch ops j e.on
  | more {k : Nat} {o : Oper} {e : Edge} : Rch ops j k → ops[k]? = some o → e ∈ o.after → Region.binds .any e = true → Rch ops j e.on
theorem rch_un {ops : Array Oper} {listed : Array Bool} (hc : Closed ops listed) {j i : Nat} (h : Rch ops j i) : listed.getD i false ≠ true →
    ∃ oj, ops[j]? = some oj ∧ listed.getD j false ≠ true ∧ ∃ e ∈ oj.after, Region.binds .any e = true ∧ listed.getD e.on false ≠ true := by
  induction h with
  | @one o e ho he hb => exact fun hi => ⟨o, ho, fun hl => hi (hc j o ho hl e he hb), e, he, hb, hi⟩
  | @more k o e _ ho he hb ih => exact fun hi => ih fun hl => hi (hc k o ho hl e he hb)
/-- All that waits are for, from those at hand on. -/
def clo (ops : Array Oper) : Nat → List Nat → List Nat → List Nat
  | 0, _, seen => seen
  | _ + 1, [], seen => seen
  | n + 1, k :: todo, seen =>
    let new := match ops[k]? with
      | some o => (o.after.toList.filter fun e => Region.binds .any e && !(seen.any (Nat.beq e.on))).map Edge.on
      | none => []
    clo ops n (new ++ todo) (new ++ seen)
theorem clo_sound {ops : Array Oper} {j : Nat} (n : Nat) : ∀ (todo seen : List Nat), (∀ k ∈ todo, k = j ∨ Rch ops j k) → (∀ k ∈ seen, Rch ops j k) → ∀ k ∈ clo ops n todo seen, Rch ops j k := by
  induction n with
  | zero => intro todo seen _ h; exact h
  | succ n ih =>
    intro todo seen ht hs
    cases todo with
    | nil => exact hs
    | cons k todo =>
      simp only [clo]
      have hnew : ∀ x ∈ (match ops[k]? with | some o => (o.after.toList.filter fun e => Region.binds .any e && !(seen.any (Nat.beq e.on))).map Edge.on | none => ([] : List Nat)), Rch ops j x := by
        intro x hx
        cases ho : ops[k]? with
        | none => rw [ho] at hx; simp at hx
        | some o =>
          rw [ho] at hx
          simp only [List.mem_map, List.mem_filter, Bool.and_eq_true, Array.mem_toList_iff] at hx
          obtain ⟨e, ⟨he, hb, _⟩, rfl⟩ := hx
          rcases ht k (by simp) with rfl | hr
          · exact .one ho he hb
          · exact .more hr ho he hb
      refine ih _ _ ?_ ?_
      · intro x hx
        rcases List.mem_append.1 hx with h | h
        · exact .inr (hnew x h)
        · exact ht x (by simp [h])
      · intro x hx
        rcases List.mem_append.1 hx with h | h
        · exact hnew x h
        · exact hs x h
theorem un_of_ready {ops : Array Oper} {listed : Array Bool} {i : Nat} (h : i ∈ Region.ready .any ops listed) : listed.getD i false ≠ true := by
  have h0 := (mem_ready.1 h).1
  rcases Nat.lt_or_ge i listed.size with h' | h'
  · simp [h'] at h0 ⊢; exact h0
  · simp [Array.getElem?_eq_none h'] at h0

theorem wpAnyE_first {ops : Array Oper} {fin : List Nat} {Qx : Exit → Act → World → Prop} {i : Nat} {oi : Oper} {v : Value} (hi : ops[i]? = some oi) (hsel : ∀ (j : Nat) (o : Oper) cs b, ops[j]? = some o → o.op ≠ .select cs b)
    (hQ : ∀ c a w, Qx (.panic c) (a.put oi.dst v) w → Qx (.panic c) a w)
    : ∀ (fuel : Nat) (listed : Array Bool) (a : Act) (w : World),
      Closed ops listed → (∀ j, j ∈ fin → j ≠ i → listed.getD j true = false → Rch ops j i) →
      (∀ j oj, ops[j]? = some oj → j ≠ i → listed.getD j true = false → (∀ e ∈ oj.after, Region.binds .any e = true → e.on ≠ i) → oi.apart ops oj = true) →
      i ∈ Region.ready .any ops listed → YieldsIf P ops (fun w' => Ext w.heap w'.heap) oi v a →
      wpAnyE P ops fin Qx fuel (listed.setIfInBounds i true) (a.put oi.dst v) w → wpAnyE P ops fin Qx (fuel + 1) listed a w := by
  intro fuel
  induction fuel with
  | zero =>
    intro listed a w _ _ _ hr hy H
    refine ⟨fun h => (by rw [h] at hr; cases hr), fun j hj => ?_⟩
    by_cases hji : j = i
    · subst hji; exact hy.wpOp hi (Ext.refl _) ⟨.inr (Ext.refl _), H⟩
    · have := ready_mono hj hji
      rw [H.1] at this
      cases this
  | succ fuel ih =>
    intro listed a w hcl hfin hfree hr hy H
    refine ⟨fun h => (by rw [h] at hr; cases hr), fun j hj => ?_⟩
    by_cases hji : j = i
    · subst hji; exact hy.wpOp hi (Ext.refl _) ⟨.inr (Ext.refl _), H⟩
    · have h1 := H.2 j (ready_mono hj hji)
      obtain ⟨hjun, oj, hoj, hall⟩ := mem_ready.1 hj
      have hnot : ∀ e ∈ oj.after, Region.binds .any e = true → e.on ≠ i := fun e he hb heq => by
        have h1 := hall e he hb
        have h0 := (mem_ready.1 hr).1
        rw [heq] at h1
        rcases Nat.lt_or_ge i listed.size with h' | h'
        · simp [h'] at h0 h1; rw [h0] at h1; cases h1
        · simp [Array.getElem?_eq_none h'] at h1
      have h2 := wpOp_putIf hoj (hfree j oj hoj hji hjun hnot) (fun cs b => hsel i oi cs b hi) (fun cs b => hsel j oj cs b hoj) hQ hy h1
      have hfree' : ∀ k ok, ops[k]? = some ok → k ≠ i → (listed.setIfInBounds j true).getD k true = false →
          (∀ e ∈ ok.after, Region.binds .any e = true → e.on ≠ i) → oi.apart ops ok = true := fun k ok hk hki hun hno => by
        refine hfree k ok hk hki ?_ hno
        by_cases hjk : j = k
        · subst hjk; exact hjun
        · rw [getD_set_ne true hjk] at hun; exact hun
      have hri : i ∈ Region.ready .any ops (listed.setIfInBounds j true) := ready_mono hr (Ne.symm hji)
      refine wpOp_mono (fun a' w' h3 => ?_) h2
      have hext : Ext w.heap w'.heap := by
        rcases h3.2.1 with he | he
        · obtain ⟨o', ho', _, e, hem, hb, hun⟩ := rch_un hcl (hfin j he hji hjun) (un_of_ready hr)
          rw [hoj] at ho'; cases ho'
          exact absurd (hall e hem hb) hun
        · exact he
      have hfin' : ∀ k, k ∈ fin → k ≠ i → (listed.setIfInBounds j true).getD k true = false → Rch ops k i := fun k hkf hki hun => by
        refine hfin k hkf hki ?_
        by_cases hjk : j = k
        · subst hjk; exact hjun
        · rw [getD_set_ne true hjk] at hun; exact hun
      refine ⟨.inr hext, ih (listed.setIfInBounds j true) a' w' (closed_set hcl hj) hfin' hfree' hri (yieldsIf_weaken h3.1 fun w'' h => hext.trans h) ?_⟩
      rw [Array.setIfInBounds_comm _ _ hji]
      exact h3.2.2

/-- May the operations be taken in this order, those that only read ahead of those that do not? -/
def canonGo (ops : Array Oper) (fin : List Nat) : List Nat → Array Bool → Bool
  | [], listed => (Region.ready .any ops listed).isEmpty
  | i :: π, listed => (Region.ready .any ops listed).contains i &&
      (match ops[i]? with
       | none => false
       | some o => if isQ o.op then Region.free .any ops listed i && (fin.all fun j => j == i || listed.getD j true || (clo ops (ops.size + 1) [j] []).any (Nat.beq i)) else Region.ready .any ops listed == [i]) &&
      canonGo ops fin π (listed.setIfInBounds i true)

/-- The last m that do not only read. -/
def finOf (ops : Array Oper) (m : Nat) : List Nat → List Nat
  | [] => []
  | i :: π => match ops[i]? with
    | some o => if isQ o.op then finOf ops m π else if loud (π.filterMap (ops[·]?)) < m then i :: finOf ops m π else finOf ops m π
    | none => finOf ops m π

def canonOK (ops : Array Oper) (m : Nat) (π : List Nat) : Bool :=
  Region.noSelect ops && π.length == ops.size && canonGo ops (finOf ops m π) π (Array.replicate ops.size false)

def pick (ops : List Oper) : List Nat → List Oper
  | [] => []
  | i :: π => match ops[i]? with | some o => o :: pick ops π | none => pick ops π

theorem pick_eq (ops : Array Oper) (π : List Nat) : pick ops.toList π = π.filterMap (ops[·]?) := by
  induction π with
  | nil => rfl
  | cons i π ih =>
    simp only [pick, Array.getElem?_toList, List.filterMap_cons]
    cases ops[i]? <;> simp [ih]

theorem wpAnyE_of_WL {ops : Array Oper} {fin : List Nat} {m : Nat} {Q' : Env → Heap → Prop} {w₀ : World} (hs : Region.noSelect ops = true) (hd : ∀ (i : Nat) (o : Oper), ops[i]? = some o → ∀ d, o.dst = some d → d < N) (π : List Nat) :
    ∀ (listed : Array Bool) (ρ : Env) (H : Heap) (a : Act) (w : World), Closed ops listed → canonGo ops fin π listed = true → (∀ j ∈ finOf ops m π, j ∈ fin) → Agrees N ρ a → w.heap = H → Like w₀ w →
    WL P ops (some m) Q' (pick ops.toList π) ρ H →
    wpAnyE P ops fin (fun e a' w' => Like w₀ w' ∧ ∃ ρ', Agrees N ρ' a' ∧ e = .normal ∧ Q' ρ' w'.heap) π.length listed a w := by
  induction π with
  | nil =>
    intro listed ρ H a w _ hc _ ha hw hl h
    simp only [canonGo, List.isEmpty_iff] at hc
    exact ⟨hc, hl, ρ, ha, rfl, hw ▸ h⟩
  | cons i π ih =>
    intro listed ρ H a w hcl hc hf ha hw hl h
    simp only [canonGo, Bool.and_eq_true] at hc
    obtain ⟨⟨hr, hk⟩, hg⟩ := hc
    cases ho : ops[i]? with
    | none => rw [ho] at hk; simp at hk
    | some o =>
      rw [ho] at hk
      have hol : ops.toList[i]? = some o := by simpa using ho
      simp only [pick, hol] at h
      have hf' : ∀ j ∈ finOf ops m π, j ∈ fin := fun j hj => hf j (by
        simp only [finOf, ho]
        split
        · exact hj
        · split
          · exact List.mem_cons_of_mem _ hj
          · exact hj)
      have hdi : ∀ d, o.dst = some d → d < N := hd i o ho
      unfold WL at h
      by_cases hq : isQ o.op = true
      · -- it only reads: taken first
        simp only [hq, if_true, Bool.and_eq_true] at hk
        have hfree := Region.free_spec ho hk.1
        have hri : i ∈ Region.ready .any ops listed := by simpa using hr
        have hcl' := closed_set hcl hri
        have hfinw : ∀ j, j ∈ fin → j ≠ i → listed.getD j true = false → Rch ops j i := by
          intro j hj hji hun
          have h2 := List.all_eq_true.1 hk.2 j hj
          simp only [Bool.or_eq_true, beq_iff_eq, hji, false_or, hun, Bool.false_eq_true] at h2
          obtain ⟨x, hx, hxe⟩ := List.any_eq_true.1 h2
          rw [Nat.eq_of_beq_eq_true hxe]
          exact clo_sound _ [j] [] (fun k hk => .inl (by simpa using hk)) (fun k hk => by simp at hk) x hx
        have main : ∀ v, YieldsIf P ops (fun w' => Ext w.heap w'.heap) o v a → WL P ops (some m) Q' (pick ops.toList π) (put ρ o.dst v) H →
            wpAnyE P ops fin (fun e a' w' => Like w₀ w' ∧ ∃ ρ', Agrees N ρ' a' ∧ e = .normal ∧ Q' ρ' w'.heap) (π.length + 1) listed a w := by
          intro v hy hk'
          refine wpAnyE_first ho (Region.noSelect_spec hs) ?_ π.length listed a w hcl hfinw hfree hri hy (ih _ _ H (a.put o.dst v) w hcl' hg hf' (put_agrees ha hdi) hw hl hk')
          rintro c a' w' ⟨_, _, _, he, _⟩
          cases he
        rw [List.length_cons]
        by_cases hw' : wantedρ ops o ρ = true
        · rw [if_pos hw'] at h
          rcases h with ⟨v, hop, hk'⟩ | ⟨hno, _⟩
          · exact main v (.inl ⟨by rw [wanted_eq ha]; exact hw', fun w' he => by rw [ha.eval]; exact hop w' (hw ▸ he)⟩) hk'
          · rw [hno (by simp)] at hq; cases hq
        · rw [if_neg hw'] at h
          exact main undef (.inr ⟨by rw [wanted_eq ha]; simpa using hw', rfl⟩) h
      · simp only [hq] at hk
        have hri : Region.ready .any ops listed = [i] := by simpa using hk
        rw [List.length_cons]
        refine ⟨fun h0 => (by rw [hri] at h0; cases h0), fun j hj => ?_⟩
        have hcl' := closed_set hcl hj
        rw [hri, List.mem_singleton] at hj
        subst hj
        unfold wpOp
        simp only [ho]
        rw [wanted_eq ha]
        split
        · rename_i hwt
          rw [if_pos hwt] at h
          refine .inl ?_
          rcases h with ⟨v, hop, hk'⟩ | ⟨_, hop⟩
          · unfold Oper.wp
            rw [ha.eval, hop w (hw ▸ Ext.refl _), Oper.upon_value]
            exact ⟨.inr (Ext.refl _), ih _ _ H _ w hcl' hg hf' (put_agrees ha hdi) hw hl hk'⟩
          · refine hop a w _ _ ha.eval hw fun v w' hl' hk' => ⟨?_, ih _ _ _ _ w' hcl' hg hf' (put_agrees ha hdi) rfl (hl.trans hl') hk'.2⟩
            by_cases hp : loud (pick ops.toList π) < m
            · left
              refine hf j ?_
              rw [pick_eq] at hp
              simp [finOf, ho, hq, hp]
            · exact .inr (hw ▸ hk'.1 m rfl (by omega))
        · rename_i hwt
          rw [if_neg hwt] at h
          exact ⟨.inr (Ext.refl _), ih _ _ H _ w hcl' hg hf' (put_agrees ha hdi) hw hl h⟩

/-- A region that draws its order: shown in one order. -/
theorem W_draw (hm : P.follows .mixedOrders = true) {id : Nat} {ops : List Oper} (m : Nat) (π : List Nat) (hc : canonOK ops.toArray m π = true)
    (h : WL P ops.toArray (some m) (Q .normal) (pick ops π) ρ H) : W P N (.region id ops.toArray true) Q ρ H := by
  intro hd a w ha hw
  simp only [canonOK, Bool.and_eq_true, beq_iff_eq] at hc
  refine wp_mono (wp_region_any hm (Q := fun e a' w' => Like w w' ∧ ∃ ρ', Agrees N ρ' a' ∧ e = .normal ∧ Q .normal ρ' w'.heap) ?_) ?_
  · rw [← hc.1.2]
    have hl : Like w { w with drawn := w.drawn + 1 } := ⟨rfl, rfl, rfl, Nat.le_succ _⟩
    have := wpAnyE_of_WL (P := P) (ops := ops.toArray) (fin := finOf ops.toArray m π) (m := m) (Q' := Q .normal) (w₀ := w) (N := N) hc.1.1 ?_ π (Array.replicate ops.toArray.size false) ρ H a { w with drawn := w.drawn + 1 } (closed_new _ _) hc.2 (fun _ h => h) ha hw hl h
    · exact wpAny_of_E _ _ _ _ (by rw [hc.1.2] at this ⊢; exact this)
    · intro i o ho d hdst
      simp only [dstsLt, List.all_eq_true] at hd
      have hmem : o ∈ ops := by
        have : ops[i]? = some o := by simpa using ho
        exact List.mem_of_getElem? this
      have := hd o hmem
      rw [hdst] at this
      simpa using this
  · rintro e a' w' ⟨hl, ρ', g, rfl, q⟩
    exact ⟨hl, ρ', g, q⟩


/-! ### A region in whatever order, where several that do not only read may come first -/
inductive Tr
  | nil
  | seg (m : Nat) (l : List Nat) (t : Tr)
  | alt (i : Nat) (t more : Tr)
  | altw (i : Nat) (t more : Tr)
  | stop
def Tr.heads : Tr → List Nat
  | .alt i _ r => i :: r.heads
  | .altw i _ r => i :: r.heads
  | _ => []
def canonSeg (ops : Array Oper) (fin : List Nat) : List Nat → Array Bool → Bool
  | [], _ => true
  | i :: π, listed => (Region.ready .any ops listed).contains i &&
      (match ops[i]? with
       | none => false
       | some o => if isQ o.op then Region.free .any ops listed i && (fin.all fun j => j == i || listed.getD j true || (clo ops (ops.size + 1) [j] []).any (Nat.beq i)) else Region.ready .any ops listed == [i]) &&
      canonSeg ops fin π (listed.setIfInBounds i true)
def afterSeg : List Nat → Array Bool → Array Bool
  | [], listed => listed
  | i :: π, listed => afterSeg π (listed.setIfInBounds i true)
def canonT (ops : Array Oper) (fin : List Nat) : Tr → Bool → Nat → Array Bool → Bool
  | .nil, top, fuel, listed => top && Nat.beq fuel 0 && (Region.ready .any ops listed).isEmpty
  | .stop, top, _, _ => !top
  | .seg m l t, top, fuel, listed => top && Nat.ble l.length fuel && canonSeg ops fin l listed && ((finOf ops m l).all fun j => fin.any (Nat.beq j)) && canonT ops fin t true (fuel - l.length) (afterSeg l listed)
  | .alt i t r, top, fuel, listed => (!top || ((i :: r.heads) == Region.ready .any ops listed)) && Nat.ble 1 fuel && (match ops[i]? with | some _ => true | none => false) &&
      canonT ops fin t true (fuel - 1) (listed.setIfInBounds i true) && canonT ops fin r false fuel listed
  | .altw i t r, top, fuel, listed => (!top || ((i :: r.heads) == Region.ready .any ops listed)) && Nat.ble 1 fuel && (match ops[i]? with | some _ => fin.any (Nat.beq i) | none => false) &&
      canonT ops fin t true (fuel - 1) (listed.setIfInBounds i true) && canonT ops fin r false fuel listed
/-- What is to be shown, branch by branch. -/
def WT (P : Program) (ops : List Oper) (Q : Env → Heap → Prop) : Tr → Env → Heap → Prop
  | .nil, ρ, H => Q ρ H
  | .stop, _, _ => True
  | .seg m l t, ρ, H => WL P ops.toArray (some m) (fun ρ H => WT P ops Q t ρ H) (pick ops l) ρ H
  | .alt i t r, ρ, H => WL P ops.toArray (some 0) (fun ρ H => WT P ops Q t ρ H) (pick ops [i]) ρ H ∧ WT P ops Q r ρ H
  | .altw i t r, ρ, H => WL P ops.toArray (some 1) (fun ρ H => WT P ops Q t ρ H) (pick ops [i]) ρ H ∧ WT P ops Q r ρ H

theorem wpAnyE_seg {ops : Array Oper} {fin : List Nat} {m : Nat} {K Q' : Env → Heap → Prop} {w₀ : World} (hs : Region.noSelect ops = true) (hd : ∀ (i : Nat) (o : Oper), ops[i]? = some o → ∀ d, o.dst = some d → d < N) (rest : Nat) (π : List Nat) :
    ∀ (listed : Array Bool) (ρ : Env) (H : Heap) (a : Act) (w : World), Closed ops listed → canonSeg ops fin π listed = true → (∀ j ∈ finOf ops m π, j ∈ fin) → Agrees N ρ a → w.heap = H → Like w₀ w →
    WL P ops (some m) K (pick ops.toList π) ρ H →
    (∀ ρ' a' w', Closed ops (afterSeg π listed) → Agrees N ρ' a' → Like w₀ w' → K ρ' w'.heap → wpAnyE P ops fin (fun e a' w' => Like w₀ w' ∧ ∃ ρ', Agrees N ρ' a' ∧ e = .normal ∧ Q' ρ' w'.heap) rest (afterSeg π listed) a' w') →
    wpAnyE P ops fin (fun e a' w' => Like w₀ w' ∧ ∃ ρ', Agrees N ρ' a' ∧ e = .normal ∧ Q' ρ' w'.heap) (π.length + rest) listed a w := by
  induction π with
  | nil =>
    intro listed ρ H a w hcl _ _ ha hw hl h hk
    rw [List.length_nil, Nat.zero_add]
    exact hk ρ a w hcl ha hl (by rw [hw]; exact h)
  | cons i π ih =>
    intro listed ρ H a w hcl hc hf ha hw hl h hkk
    simp only [canonSeg, Bool.and_eq_true] at hc
    obtain ⟨⟨hr, hk⟩, hg⟩ := hc
    cases ho : ops[i]? with
    | none => rw [ho] at hk; simp at hk
    | some o =>
      rw [ho] at hk
      have hol : ops.toList[i]? = some o := by simpa using ho
      simp only [pick, hol] at h
      have hf' : ∀ j ∈ finOf ops m π, j ∈ fin := fun j hj => hf j (by
        simp only [finOf, ho]
        split
        · exact hj
        · split
          · exact List.mem_cons_of_mem _ hj
          · exact hj)
      have hdi : ∀ d, o.dst = some d → d < N := hd i o ho
      have hri : i ∈ Region.ready .any ops listed := by simpa using hr
      have hcl' := closed_set hcl hri
      unfold WL at h
      rw [List.length_cons, Nat.add_right_comm]
      by_cases hq : isQ o.op = true
      · simp only [hq, if_true, Bool.and_eq_true] at hk
        have hfree := Region.free_spec ho hk.1
        have hfinw : ∀ j, j ∈ fin → j ≠ i → listed.getD j true = false → Rch ops j i := by
          intro j hj hji hun
          have h2 := List.all_eq_true.1 hk.2 j hj
          simp only [Bool.or_eq_true, beq_iff_eq, hji, false_or, hun, Bool.false_eq_true] at h2
          obtain ⟨x, hx, hxe⟩ := List.any_eq_true.1 h2
          rw [Nat.eq_of_beq_eq_true hxe]
          exact clo_sound _ [j] [] (fun k hk => .inl (by simpa using hk)) (fun k hk => by simp at hk) x hx
        have main : ∀ v, YieldsIf P ops (fun w' => Ext w.heap w'.heap) o v a → WL P ops (some m) K (pick ops.toList π) (put ρ o.dst v) H →
            wpAnyE P ops fin (fun e a' w' => Like w₀ w' ∧ ∃ ρ', Agrees N ρ' a' ∧ e = .normal ∧ Q' ρ' w'.heap) (π.length + rest + 1) listed a w := by
          intro v hy hk'
          refine wpAnyE_first ho (Region.noSelect_spec hs) ?_ (π.length + rest) listed a w hcl hfinw hfree hri hy (ih _ _ H (a.put o.dst v) w hcl' hg hf' (put_agrees ha hdi) hw hl hk' hkk)
          rintro c a' w' ⟨_, _, _, he, _⟩
          cases he
        by_cases hw' : wantedρ ops o ρ = true
        · rw [if_pos hw'] at h
          rcases h with ⟨v, hop, hk'⟩ | ⟨hno, _⟩
          · exact main v (.inl ⟨by rw [wanted_eq ha]; exact hw', fun w' he => by rw [ha.eval]; exact hop w' (hw ▸ he)⟩) hk'
          · rw [hno (by simp)] at hq; cases hq
        · rw [if_neg hw'] at h
          exact main undef (.inr ⟨by rw [wanted_eq ha]; simpa using hw', rfl⟩) h
      · simp only [hq] at hk
        have hri' : Region.ready .any ops listed = [i] := by simpa using hk
        refine ⟨fun h0 => (by rw [hri'] at h0; cases h0), fun j hj => ?_⟩
        rw [hri', List.mem_singleton] at hj
        subst hj
        unfold wpOp
        simp only [ho]
        rw [wanted_eq ha]
        split
        · rename_i hwt
          rw [if_pos hwt] at h
          refine .inl ?_
          rcases h with ⟨v, hop, hk'⟩ | ⟨_, hop⟩
          · unfold Oper.wp
            rw [ha.eval, hop w (hw ▸ Ext.refl _), Oper.upon_value]
            exact ⟨.inr (Ext.refl _), ih _ _ H _ w hcl' hg hf' (put_agrees ha hdi) hw hl hk' hkk⟩
          · refine hop a w _ _ ha.eval hw fun v w' hl' hk' => ⟨?_, ih _ _ _ _ w' hcl' hg hf' (put_agrees ha hdi) rfl (hl.trans hl') hk'.2 hkk⟩
            by_cases hp : loud (pick ops.toList π) < m
            · left
              refine hf j ?_
              rw [pick_eq] at hp
              simp [finOf, ho, hq, hp]
            · exact .inr (hw ▸ hk'.1 m rfl (by omega))
        · rename_i hwt
          rw [if_neg hwt] at h
          exact ⟨.inr (Ext.refl _), ih _ _ H _ w hcl' hg hf' (put_agrees ha hdi) hw hl h hkk⟩

theorem WT_sound {ops : List Oper} {fin : List Nat} {Q' : Env → Heap → Prop} {w₀ : World} (hs : Region.noSelect ops.toArray = true) (hd : ∀ (i : Nat) (o : Oper), ops.toArray[i]? = some o → ∀ d, o.dst = some d → d < N) (t : Tr) :
    (∀ (fuel : Nat) (listed : Array Bool) (ρ : Env) (H : Heap) (a : Act) (w : World), Closed ops.toArray listed → canonT ops.toArray fin t true fuel listed = true → Agrees N ρ a → w.heap = H → Like w₀ w → WT P ops Q' t ρ H →
      wpAnyE P ops.toArray fin (fun e a' w' => Like w₀ w' ∧ ∃ ρ', Agrees N ρ' a' ∧ e = .normal ∧ Q' ρ' w'.heap) fuel listed a w) ∧
    (∀ (fuel : Nat) (listed : Array Bool) (ρ : Env) (H : Heap) (a : Act) (w : World), Closed ops.toArray listed → canonT ops.toArray fin t false fuel listed = true → (∀ i ∈ t.heads, i ∈ Region.ready .any ops.toArray listed) → Agrees N ρ a → w.heap = H → Like w₀ w → WT P ops Q' t ρ H →
      ∀ i ∈ t.heads, wpOp P ops.toArray (fun e a' w' => Like w₀ w' ∧ ∃ ρ', Agrees N ρ' a' ∧ e = .normal ∧ Q' ρ' w'.heap) i (fun a' w' => (i ∈ fin ∨ Ext w.heap w'.heap) ∧ wpAnyE P ops.toArray fin (fun e a' w' => Like w₀ w' ∧ ∃ ρ', Agrees N ρ' a' ∧ e = .normal ∧ Q' ρ' w'.heap) (fuel - 1) (listed.setIfInBounds i true) a' w') a w) := by
  induction t with
  | nil =>
    refine ⟨fun fuel listed ρ H a w hcl hc ha hw hl h => ?_, fun _ _ _ _ _ _ _ _ _ _ _ _ _ i hi => by cases hi⟩
    simp only [canonT, Bool.true_and, Bool.and_eq_true, List.isEmpty_iff] at hc
    have hf := Nat.eq_of_beq_eq_true hc.1
    subst hf
    exact ⟨hc.2, hl, ρ, ha, rfl, hw ▸ h⟩
  | stop =>
    refine ⟨fun fuel listed ρ H a w hcl hc ha hw hl h => ?_, fun _ _ _ _ _ _ _ _ _ _ _ _ _ i hi => by cases hi⟩
    simp [canonT] at hc
  | seg m l t ih =>
    refine ⟨fun fuel listed ρ H a w hcl hc ha hw hl h => ?_, fun _ _ _ _ _ _ _ _ _ _ _ _ _ i hi => by cases hi⟩
    simp only [canonT, Bool.true_and, Bool.and_eq_true] at hc
    obtain ⟨⟨⟨h1, h2⟩, h3⟩, h4⟩ := hc
    have hle := Nat.le_of_ble_eq_true h1
    have := wpAnyE_seg (P := P) (ops := ops.toArray) (fin := fin) (m := m) (K := fun ρ H => WT P ops Q' t ρ H) (Q' := Q') (w₀ := w₀) hs hd (fuel - l.length) l listed ρ H a w hcl h2 (fun j hj => by
      obtain ⟨x, hx, he⟩ := List.any_eq_true.1 (List.all_eq_true.1 h3 j hj)
      rw [Nat.eq_of_beq_eq_true he]; exact hx) ha hw hl h (fun ρ' a' w' hcl' ha' hl' hk' => ih.1 _ _ ρ' _ a' w' hcl' h4 ha' rfl hl' hk')
    rwa [show l.length + (fuel - l.length) = fuel by omega] at this
  | alt i t r iht ihr =>
    have second : ∀ (fuel : Nat) (listed : Array Bool) (ρ : Env) (H : Heap) (a : Act) (w : World), Closed ops.toArray listed → canonT ops.toArray fin (.alt i t r) false fuel listed = true → (∀ j ∈ (Tr.alt i t r).heads, j ∈ Region.ready .any ops.toArray listed) → Agrees N ρ a → w.heap = H → Like w₀ w → WT P ops Q' (.alt i t r) ρ H →
      ∀ j ∈ (Tr.alt i t r).heads, wpOp P ops.toArray (fun e a' w' => Like w₀ w' ∧ ∃ ρ', Agrees N ρ' a' ∧ e = .normal ∧ Q' ρ' w'.heap) j (fun a' w' => (j ∈ fin ∨ Ext w.heap w'.heap) ∧ wpAnyE P ops.toArray fin (fun e a' w' => Like w₀ w' ∧ ∃ ρ', Agrees N ρ' a' ∧ e = .normal ∧ Q' ρ' w'.heap) (fuel - 1) (listed.setIfInBounds j true) a' w') a w := by
      intro fuel listed ρ H a w hcl hc hrd ha hw hl h j hj
      simp only [canonT, Bool.not_false, Bool.true_or, Bool.true_and, Bool.and_eq_true] at hc
      obtain ⟨⟨⟨h1, h2⟩, h3⟩, h4⟩ := hc
      obtain ⟨hi, hr⟩ := h
      simp only [Tr.heads, List.mem_cons] at hj
      rcases hj with rfl | hj
      · cases ho : ops.toArray[j]? with
        | none => rw [ho] at h2; simp at h2
        | some o =>
          rw [ho] at h2
          have hol : ops[j]? = some o := by simpa using ho
          have hcl' := closed_set hcl (hrd j (by simp [Tr.heads]))
          have hdi : ∀ d, o.dst = some d → d < N := hd j o ho
          simp only [pick, hol] at hi
          unfold WL at hi
          unfold wpOp
          simp only [ho]
          rw [wanted_eq ha]
          split
          · rename_i hwt
            rw [if_pos hwt] at hi
            refine .inl ?_
            rcases hi with ⟨v, hop, hk'⟩ | ⟨_, hop⟩
            · unfold Oper.wp
              rw [ha.eval, hop w (hw ▸ Ext.refl _), Oper.upon_value]
              exact ⟨.inr (Ext.refl _), iht.1 _ _ _ H _ w hcl' h3 (put_agrees ha hdi) hw hl hk'⟩
            · exact hop a w _ _ ha.eval hw fun v w' hl' hk' => ⟨.inr (hw ▸ hk'.1 0 rfl (Nat.zero_le _)), iht.1 _ _ _ _ _ w' hcl' h3 (put_agrees ha hdi) rfl (hl.trans hl') hk'.2⟩
          · rename_i hwt
            rw [if_neg hwt] at hi
            exact ⟨.inr (Ext.refl _), iht.1 _ _ _ H _ w hcl' h3 (put_agrees ha hdi) hw hl hi⟩
      · exact ihr.2 fuel listed ρ H a w hcl h4 (fun k hk => hrd k (by simp [Tr.heads, hk])) ha hw hl hr j hj
    refine ⟨fun fuel listed ρ H a w hcl hc ha hw hl h => ?_, second⟩
    have hc2 : canonT ops.toArray fin (.alt i t r) false fuel listed = true := by
      simp only [canonT, Bool.not_true, Bool.false_or, Bool.not_false, Bool.true_or, Bool.true_and, Bool.and_eq_true] at hc ⊢
      exact ⟨⟨⟨hc.1.1.1.2, hc.1.1.2⟩, hc.1.2⟩, hc.2⟩
    simp only [canonT, Bool.not_true, Bool.false_or, Bool.and_eq_true, beq_iff_eq] at hc
    have hready : Region.ready .any ops.toArray listed = (Tr.alt i t r).heads := hc.1.1.1.1.symm
    have hfu := Nat.le_of_ble_eq_true hc.1.1.1.2
    obtain ⟨f, rfl⟩ : ∃ f, fuel = f + 1 := ⟨fuel - 1, by omega⟩
    refine ⟨fun h0 => (by rw [hready] at h0; cases h0), fun j hj => ?_⟩
    rw [hready] at hj
    exact second (f + 1) listed ρ H a w hcl hc2 (fun k hk => hready ▸ hk) ha hw hl h j hj
  | altw i t r iht ihr =>
    have second : ∀ (fuel : Nat) (listed : Array Bool) (ρ : Env) (H : Heap) (a : Act) (w : World), Closed ops.toArray listed → canonT ops.toArray fin (.altw i t r) false fuel listed = true → (∀ j ∈ (Tr.altw i t r).heads, j ∈ Region.ready .any ops.toArray listed) → Agrees N ρ a → w.heap = H → Like w₀ w → WT P ops Q' (.altw i t r) ρ H →
      ∀ j ∈ (Tr.altw i t r).heads, wpOp P ops.toArray (fun e a' w' => Like w₀ w' ∧ ∃ ρ', Agrees N ρ' a' ∧ e = .normal ∧ Q' ρ' w'.heap) j (fun a' w' => (j ∈ fin ∨ Ext w.heap w'.heap) ∧ wpAnyE P ops.toArray fin (fun e a' w' => Like w₀ w' ∧ ∃ ρ', Agrees N ρ' a' ∧ e = .normal ∧ Q' ρ' w'.heap) (fuel - 1) (listed.setIfInBounds j true) a' w') a w := by
      intro fuel listed ρ H a w hcl hc hrd ha hw hl h j hj
      simp only [canonT, Bool.not_false, Bool.true_or, Bool.true_and, Bool.and_eq_true] at hc
      obtain ⟨⟨⟨h1, h2⟩, h3⟩, h4⟩ := hc
      obtain ⟨hi, hr⟩ := h
      simp only [Tr.heads, List.mem_cons] at hj
      rcases hj with rfl | hj
      · cases ho : ops.toArray[j]? with
        | none => rw [ho] at h2; simp at h2
        | some o =>
          rw [ho] at h2
          have hol : ops[j]? = some o := by simpa using ho
          have hcl' := closed_set hcl (hrd j (by simp [Tr.heads]))
          have hfj : j ∈ fin := by
            obtain ⟨x, hx, he⟩ := List.any_eq_true.1 h2
            rw [Nat.eq_of_beq_eq_true he]; exact hx
          have hdi : ∀ d, o.dst = some d → d < N := hd j o ho
          simp only [pick, hol] at hi
          unfold WL at hi
          unfold wpOp
          simp only [ho]
          rw [wanted_eq ha]
          split
          · rename_i hwt
            rw [if_pos hwt] at hi
            refine .inl ?_
            rcases hi with ⟨v, hop, hk'⟩ | ⟨_, hop⟩
            · unfold Oper.wp
              rw [ha.eval, hop w (hw ▸ Ext.refl _), Oper.upon_value]
              exact ⟨.inr (Ext.refl _), iht.1 _ _ _ H _ w hcl' h3 (put_agrees ha hdi) hw hl hk'⟩
            · exact hop a w _ _ ha.eval hw fun v w' hl' hk' => ⟨.inl hfj, iht.1 _ _ _ _ _ w' hcl' h3 (put_agrees ha hdi) rfl (hl.trans hl') hk'.2⟩
          · rename_i hwt
            rw [if_neg hwt] at hi
            exact ⟨.inr (Ext.refl _), iht.1 _ _ _ H _ w hcl' h3 (put_agrees ha hdi) hw hl hi⟩
      · exact ihr.2 fuel listed ρ H a w hcl h4 (fun k hk => hrd k (by simp [Tr.heads, hk])) ha hw hl hr j hj
    refine ⟨fun fuel listed ρ H a w hcl hc ha hw hl h => ?_, second⟩
    have hc2 : canonT ops.toArray fin (.altw i t r) false fuel listed = true := by
      simp only [canonT, Bool.not_true, Bool.false_or, Bool.not_false, Bool.true_or, Bool.true_and, Bool.and_eq_true] at hc ⊢
      exact ⟨⟨⟨hc.1.1.1.2, hc.1.1.2⟩, hc.1.2⟩, hc.2⟩
    simp only [canonT, Bool.not_true, Bool.false_or, Bool.and_eq_true, beq_iff_eq] at hc
    have hready : Region.ready .any ops.toArray listed = (Tr.altw i t r).heads := hc.1.1.1.1.symm
    have hfu := Nat.le_of_ble_eq_true hc.1.1.1.2
    obtain ⟨f, rfl⟩ : ∃ f, fuel = f + 1 := ⟨fuel - 1, by omega⟩
    refine ⟨fun h0 => (by rw [hready] at h0; cases h0), fun j hj => ?_⟩
    rw [hready] at hj
    exact second (f + 1) listed ρ H a w hcl hc2 (fun k hk => hready ▸ hk) ha hw hl h j hj

/-- A region that draws its order: shown branch by branch. -/
theorem W_drawT (hm : P.follows .mixedOrders = true) {id : Nat} {ops : List Oper} (fin : List Nat) (t : Tr) (hc : (Region.noSelect ops.toArray && canonT ops.toArray fin t true ops.toArray.size (Array.replicate ops.toArray.size false)) = true)
    (h : WT P ops (Q .normal) t ρ H) : W P N (.region id ops.toArray true) Q ρ H := by
  intro hd a w ha hw
  simp only [Bool.and_eq_true] at hc
  have hdd : ∀ (i : Nat) (o : Oper), ops.toArray[i]? = some o → ∀ d, o.dst = some d → d < N := by
    intro i o ho d hdst
    simp only [dstsLt, List.all_eq_true] at hd
    have hmem : o ∈ ops := by
      have : ops[i]? = some o := by simpa using ho
      exact List.mem_of_getElem? this
    have := hd o hmem
    rw [hdst] at this
    simpa using this
  refine wp_mono (wp_region_any hm (Q := fun e a' w' => Like w w' ∧ ∃ ρ', Agrees N ρ' a' ∧ e = .normal ∧ Q .normal ρ' w'.heap) ?_) ?_
  · have hl : Like w { w with drawn := w.drawn + 1 } := ⟨rfl, rfl, rfl, Nat.le_succ _⟩
    exact wpAny_of_E _ _ _ _ ((WT_sound (P := P) (w₀ := w) hc.1 hdd t).1 ops.toArray.size _ ρ H a { w with drawn := w.drawn + 1 } (closed_new _ _) hc.2 ha hw hl h)
  · rintro e a' w' ⟨hl, ρ', g, rfl, q⟩
    exact ⟨hl, ρ', g, q⟩

end Go.TM
