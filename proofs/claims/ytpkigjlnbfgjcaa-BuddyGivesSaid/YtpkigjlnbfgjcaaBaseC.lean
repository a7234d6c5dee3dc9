/- Rounds: yield, and a range over a function; no condition. -/
import Derived.Test.YtpkigjlnbfgjcaaTac
import Derived.RangeFuncIn
import Derived.RangeFuncRecord
import Derived.RangeFuncLeaves
import Derived.OwnWalkIn

namespace Go.TM
open _root_.Go.TM.Cell (enc)
variable {P : Program} {N : Nat} {Q : Exit → Env → Heap → Prop} {ρ : Env} {H H' : Heap}

/-- Nothing is kept out; in a round perhaps. -/
def Wide (r : Option Nat) : Fence := { Fence.wide with round := r }
theorem room_Wide (r : Option Nat) (n : Nat) : (Wide r).room n := room_wide n

theorem wpIn_of_wp {r : Option Nat} {n : Nat} {o : Oper} {a : Act} {w : World} {next : Act → World → Prop} {Qx : Exit → Act → World → Prop} (hd : ∀ c, o.op ≠ .defer c) (h : o.wp P a w next Qx) : o.wpIn (Wide r) n P a w next Qx := by
  unfold Oper.wpIn
  refine ⟨fun _ _ => trivial, ?_⟩
  rw [Oper.semAt_eq _ _ _ hd]
  unfold Oper.wp at h
  generalize (execOp a.eval o).run P w = res at h ⊢
  cases res with
  | ok v w' =>
    cases v with
    | value v => exact h
    | skip => exact h
    | defer d => exact h
    | enter f args => exact ⟨fun h => (by cases h), callsIn_wide.2 h⟩
    | row row args =>
      refine ⟨fun h => (by cases h), fun c cs _ => ?_⟩
      obtain ⟨v, w', hR, hs⟩ := h c cs
      exact ⟨v, w', hR, stepsIn_wide.2 hs⟩
    | _ => exact h.elim
  | halt hh w' =>
    cases hh with
    | panic v => exact h
    | _ => exact h.elim

/-- The slots, whatever calls are put off. -/
def AgD (N : Nat) (ρ : Env) (a : Act) : Prop := Agrees N ρ { tmps := a.tmps, defers := [] }
theorem AgD.eval {a : Act} (h : AgD N ρ a) : a.eval = ev ρ := Agrees.eval (a := { tmps := a.tmps, defers := [] }) h
theorem AgD.put {a : Act} {v : Value} {d : Option Tmp} (h : AgD N ρ a) (hd : ∀ i, d = some i → i < N) : AgD N (TM.put ρ d v) (a.put d v) := by
  have := put_agrees (v := v) h hd
  cases d <;> exact this

def noDefer : List Oper → Bool
  | [] => true
  | o :: l => (match o.op with | .defer _ => false | _ => true) && noDefer l
theorem noDefer_cons {o : Oper} {l : List Oper} (h : noDefer (o :: l) = true) : (∀ c, o.op ≠ .defer c) ∧ noDefer l = true := by
  simp only [noDefer, Bool.and_eq_true] at h
  refine ⟨fun c hc => ?_, h.2⟩
  rw [hc] at h
  exact absurd h.1 (by simp)

/-- The operations at the head of a region. -/
theorem WL_soundIn {r : Option Nat} {n : Nat} {ops : Array Oper} {K : Env → Heap → Prop} {Qx : Exit → Act → World → Prop} {w₀ : World} {ds : List Deferred} {l2 : List Oper}
    (hk : ∀ (ρ' : Env) (a' : Act) (w' : World), AgD N ρ' a' → a'.defers = ds → Like w₀ w' → K ρ' w'.heap → wpListIn (Wide r) n P ops Qx l2 a' w') (l : List Oper) :
    ∀ (ρ : Env) (H : Heap) (a : Act) (w : World), noDefer l = true → (∀ o ∈ l, ∀ i, o.dst = some i → i < N) →
    WL P ops none K l ρ H → AgD N ρ a → a.defers = ds → w.heap = H → Like w₀ w → wpListIn (Wide r) n P ops Qx (l ++ l2) a w := by
  induction l with
  | nil => intro ρ H a w _ _ h ha hds hw hl; exact hk ρ a w ha hds hl (hw ▸ h)
  | cons o l ih =>
    intro ρ H a w hnd hd h ha hds hw hl
    have hd' : ∀ i, o.dst = some i → i < N := hd o (by simp)
    have hdl : ∀ o ∈ l, ∀ i, o.dst = some i → i < N := fun o ho => hd o (by simp [ho])
    obtain ⟨hn1, hn2⟩ := noDefer_cons hnd
    have hdd : ∀ v, (a.put o.dst v).defers = ds := fun v => by cases o.dst <;> exact hds
    rw [List.cons_append]
    unfold wpListIn
    unfold WL at h
    have hwe : Region.wanted o (yielded ops a.tmps) = wantedρ ops o ρ := wanted_eq (a := { tmps := a.tmps, defers := [] }) ha
    rw [hwe]
    split
    · rename_i hwt
      rw [if_pos hwt] at h
      rcases h with ⟨v, hq, hk⟩ | ⟨_, hop⟩
      · refine wpIn_of_wp hn1 ?_
        unfold Oper.wp
        rw [ha.eval, hq w (hw ▸ Ext.refl _), Oper.upon_value]
        exact ih _ _ (a.put o.dst v) w hn2 hdl hk (ha.put hd') (hdd _) hw hl
      · exact wpIn_of_wp hn1 (hop a w _ _ ha.eval hw fun v w' hl' hk => ih _ _ (a.put o.dst v) w' hn2 hdl hk.2 (ha.put hd') (hdd _) rfl (hl.trans hl'))
    · rename_i hwt
      rw [if_neg hwt] at h
      exact ⟨fun _ _ => trivial, ih _ _ (a.put o.dst undef) w hn2 hdl h (ha.put hd') (hdd _) hw hl⟩

/-- A region, in a round perhaps. -/
theorem region_in {r : Option Nat} {n : Nat} {id : Nat} {l : List Oper} {K : Env → Heap → Prop} {Qx : Exit → Act → World → Prop} {a : Act} {w : World} (hnd : noDefer l = true) (hd : dstsLt N (.region id l.toArray false) = true)
    (ha : AgD N ρ a) (h : WL P l.toArray none K l ρ w.heap)
    (hk : ∀ (ρ' : Env) (a' : Act) (w' : World), AgD N ρ' a' → a'.defers = a.defers → Like w w' → K ρ' w'.heap → Qx .normal a' w') :
    (Code.region id l.toArray false).wpIn (Wide r) n P Qx a w := by
  refine wpIn_region_lit ?_
  have := WL_soundIn (r := r) (n := n) (ops := l.toArray) (K := K) (Qx := Qx) (w₀ := w) (ds := a.defers) (l2 := []) (P := P) (N := N) (fun ρ' a' w' h1 h2 h3 h4 => by unfold wpListIn; exact hk ρ' a' w' h1 h2 h3 h4) l ρ w.heap a w hnd (fun o ho i hi => by
    simp only [dstsLt, List.all_eq_true] at hd
    have := hd o ho
    rw [hi] at this
    simpa using this) h ha rfl rfl (Like.refl w)
  rwa [List.append_nil] at this

theorem like_putObj (w : World) (l : Nat) (o : Obj) : Like w (w.putObj l o) := ⟨rfl, rfl, rfl, Nat.le_refl _⟩
theorem mut_putObj (w : World) (l : Nat) (o : Obj) : Mut (fB l) w.heap (w.putObj l o).heap := ⟨by simp [World.putObj], fun k _ hk => World.putObj_heap_other (fun e => hk e)⟩
theorem mut_set (H : Heap) (l : Nat) (o : Obj) : Mut (fB l) H (H.setIfInBounds l o) := ⟨by simp, fun k _ hk => Array.getElem?_setIfInBounds_ne (Ne.symm (fun e => hk e))⟩
theorem Mut.exts {S : Nat → Prop} {H₀ : Heap} (h : Mut S H H') (hX : Ext H₀ H) (hs : ∀ k, S k → H₀.size ≤ k) : Ext H₀ H' := ⟨Nat.le_trans hX.size h.size, fun k hk => (h.block k (Nat.lt_of_lt_of_le hk hX.size) fun hS => by have := hs k hS; omega).trans (hX.block k hk)⟩
theorem Mut.some {S : Nat → Prop} (h : Mut S H H') {k : Nat} {o : Obj} (hk : H[k]? = some o) (hs : ¬ S k) : H'[k]? = some o := (h.block k (Array.getElem?_eq_some_iff.1 hk).1 hs).trans hk
theorem like_alloc (w : World) (o : Obj) : Like w (w.alloc o) := like_grown (World.grownBy_alloc w o none) (Nat.le_refl _)
theorem ext_alloc (w : World) (o : Obj) : Ext w.heap (w.alloc o).heap := (mut_grown (World.grownBy_alloc w o none)).ext fun k _ h => by cases h

/-- A function that ranges over a function, out of its body. -/
theorem callsH_of_marks {f : FuncId} {fn : Func} {c : Code} {args : List Value} {H : Heap} {R : Value → Heap → Prop} {ρ₀ : Env} (hρ : initF 0 args = ρ₀) (hf : P.funcs[f]? = some fn) (hb : fn.body = some c)
    (h : ∀ (a : Act) (w : World), AgD (max args.length fn.ntmps) ρ₀ a → a.defers = [] → w.heap = H → c.wpIn (Wide none) 1 P (bodyPostM (Wide none) 1 P fn fun e w' => ∃ v, e = .returned v ∧ Like w w' ∧ R v w'.heap) a w) : CallsH P f args.toArray H R := by
  intro w hw
  rw [← hρ, ← initρ_eq] at h
  refine (callsIn_wide (n := 1)).1 (callsIn_of_wp_marks hf hb trivial (h _ w ?_ rfl hw))
  have := initρ_agrees args.toArray fn.ntmps
  exact ⟨by simpa using this.size, this.at_, rfl⟩

/-- What yield, called here, does. -/
def YieldH (P : Program) (l : Nat) (args : Array Value) (H : Heap) (K : Value → Heap → Prop) : Prop :=
  ∀ w : World, w.heap = H → ∃ fn tmps assign body, (Instr.yield l args).run P w = .ok (.round l fn tmps assign body) w ∧
    RoundIn Fence.wide 0 P l fn tmps assign body w fun e w' => ∃ v, e = .returned v ∧ Like w w' ∧ K v w'.heap

theorem YieldH.mono {L : Nat} {args : Array Value} {K K' : Value → Heap → Prop} (h : YieldH P L args H K) (hk : ∀ v H', K v H' → K' v H') : YieldH P L args H K' := fun w hw => by
  obtain ⟨fn, tmps, assign, body, h1, h2⟩ := h w hw
  exact ⟨fn, tmps, assign, body, h1, RoundIn.mono h2 fun e w' ⟨v, h3, h4, h5⟩ => ⟨v, h3, h4, hk _ _ h5⟩⟩
/-- A region that holds a yield at its place k. -/
theorem W_regionY {id : Nat} {l : List Oper} (k : Nat) {x : Operand} {args : List Operand} {tys : Array TypeId} {d : Option Tmp} {ty : TypeId} {p : String} {e : Array Edge} {L : Nat} {vs : List Value}
    (hl : l = l.take k ++ (⟨d, .call { callee := .value x, args := args.toArray, argTypes := tys }, ty, p, e, none⟩ : Oper) :: l.drop (k + 1)) (hnd : noDefer l = true)
    (h : WL P l.toArray none (fun ρ1 H1 => ev ρ1 x = .func (.yield L) #[] #[] ∧ AV ρ1 args vs ∧ YieldH P L vs.toArray H1 (fun v H2 => WL P l.toArray none (Q .normal) (l.drop (k + 1)) (put ρ1 d v) H2)) (l.take k) ρ H) :
    W P N (.region id l.toArray false) Q ρ H := by
  intro hd a w ha hw
  have hds : ∀ o ∈ l, ∀ i, o.dst = some i → i < N := fun o ho i hi => by
    simp only [dstsLt, List.all_eq_true] at hd
    have := hd o ho
    rw [hi] at this
    simpa using this
  generalize ho : (⟨d, .call { callee := .value x, args := args.toArray, argTypes := tys }, ty, p, e, none⟩ : Oper) = o at hl
  have hnt : ∀ l' : List Oper, noDefer l' = true → ∀ j, noDefer (l'.take j) = true ∧ noDefer (l'.drop j) = true := by
    intro l'
    induction l' with
    | nil => intro _ j; simp [noDefer]
    | cons o l ih =>
      intro hn j
      cases j with
      | zero => exact ⟨rfl, hn⟩
      | succ j =>
        obtain ⟨h1, h2⟩ := noDefer_cons hn
        obtain ⟨h3, h4⟩ := ih h2 j
        refine ⟨?_, h4⟩
        simp only [noDefer, Bool.and_eq_true] at hn
        simp only [List.take_succ_cons, noDefer, Bool.and_eq_true]
        exact ⟨hn.1, h3⟩
  have hmo : o ∈ l := by rw [hl]; simp
  have hod : o.dst = d := by rw [← ho]
  have key : wpListIn (Wide none) 1 P l.toArray (lift N w Q) l a w := by
    have := WL_soundIn (P := P) (N := N) (r := none) (n := 1) (ops := l.toArray) (K := fun ρ1 H1 => ev ρ1 x = .func (.yield L) #[] #[] ∧ AV ρ1 args vs ∧ YieldH P L vs.toArray H1 (fun v H2 => WL P l.toArray none (Q .normal) (l.drop (k + 1)) (put ρ1 d v) H2)) (Qx := lift N w Q) (w₀ := w) (ds := []) (l2 := o :: l.drop (k + 1)) ?_ (l.take k) ρ H a w (hnt l hnd k).1 (fun o ho => hds o (List.mem_of_mem_take ho)) h ⟨ha.size, ha.at_, rfl⟩ ha.defers hw (Like.refl w)
    · rw [← hl] at this; exact this
    · rintro ρ1 a1 w1 hag hdf hlk ⟨hx, hav, hY⟩
      refine wpListIn_plain (by rw [← ho]) fun K hK => ?_
      obtain ⟨fn, tmps, assign, body, hy, hF, hR⟩ := hY w1 rfl
      unfold Oper.wpIn
      refine ⟨fun _ _ => trivial, ?_⟩
      rw [Oper.semAt_eq _ _ _ (by rw [← ho]; intro c hc; cases hc)]
      have hrun : (execOp a1.eval o).run P w1 = .ok (.round L fn tmps assign body) w1 := by
        rw [hag.eval, ← ho]
        simp [execOp, resolve, invoke, hx, Deferred.ofValue, hav.map, hy]
      rw [hrun, Oper.uponIn_round]
      refine ⟨fun h => (by cases h), RoundIn.mono (R := fun e w' => ∃ v, e = .returned v ∧ Like w1 w' ∧ WL P l.toArray none (Q .normal) (l.drop (k + 1)) (put ρ1 d v) w'.heap) ⟨trivial, fun c cs _ => hR c cs (room_wide _)⟩ ?_⟩
      rintro e w2 ⟨v, rfl, hl2, hWL⟩
      refine hK _ _ ?_
      have hdd : ∀ u, (a1.put o.dst u).defers = [] := fun u => by cases o.dst <;> exact hdf
      have h2 := WL_soundIn (P := P) (N := N) (r := none) (n := 1) (ops := l.toArray) (K := Q .normal) (Qx := lift N w Q) (w₀ := w) (ds := []) (l2 := []) (fun ρ' a' w' h1 h2 h3 h4 => by
        unfold wpListIn
        refine ⟨h3, ρ', ?_, h4⟩
        obtain ⟨s1, s2, _⟩ := h1
        exact ⟨s1, s2, h2⟩) (l.drop (k + 1)) (put ρ1 d v) w2.heap (a1.put o.dst v) w2 (hnt l hnd (k + 1)).2 (fun o ho => hds o (List.mem_of_mem_drop ho)) hWL (by rw [← hod]; exact hag.put (hds o hmo)) (hdd _) rfl (hlk.trans hl2)
      rwa [List.append_nil] at h2
  exact wpIn_wide.1 (wpIn_region_lit (F := Wide none) (n := 1) key)
theorem push2 (h : Heap) (o1 o2 : Obj) : ((h.push o1).push o2).size = h.size + 2 ∧ Ext h ((h.push o1).push o2) ∧ ((h.push o1).push o2)[h.size]? = some o1 ∧ ((h.push o1).push o2)[h.size + 1]? = some o2 := by
  refine ⟨by simp, ⟨by simp; omega, fun k hk => ?_⟩, ?_, ?_⟩
  · rw [Array.getElem?_push, if_neg (by simp; omega), Array.getElem?_push, if_neg (by omega)]
  · rw [Array.getElem?_push, if_neg (by simp), Array.getElem?_push, if_pos rfl]
  · rw [Array.getElem?_push, if_pos (by simp)]
/-- A range over a function that is named, with what it has captured. -/
def recOf (fn : FuncId) (tmps : Array Value) (ps : Array Tmp) (assign body : Code) (D : Nat) (st : LoopState) (pe : Option Code) : Loop := { state := st, pending := pe, fn, tmps, params := ps, assign, body, defers := D }
theorem wpIn_rangeH {g : Operand} {ps : Array Tmp} {assign body : Code} {Qx : Exit → Act → World → Prop} {a : Act} {w : World} {f : FuncId} {cap : Array Value} [TFunc P f] (hg : a.eval g = .func (.func f) #[] cap) (K : FuncId → Option Code → Heap → Prop)
    (hc : ∀ fn, CallsH P f (#[.func (.yield (w.heap.size + 1)) #[] #[]] ++ cap) ((w.heap.push (.deferred (some []))).push (.loop (recOf fn a.tmps ps assign body w.heap.size .ready none))) fun _ H' =>
      ∃ st pe, st ≠ LoopState.busy ∧ H'[w.heap.size + 1]? = some (.loop (recOf fn a.tmps ps assign body w.heap.size st pe)) ∧ K fn pe H')
    (hk : ∀ fn pe st w', K fn pe w'.heap → w'.heap[w.heap.size + 1]? = some (.loop (recOf fn a.tmps ps assign body w.heap.size st pe)) → Like w w' →
      match pe with
      | none => Qx .normal { a with defers := { target := .collected w.heap.size, args := #[] } :: a.defers } (w'.putObj (w.heap.size + 1) (.loop (recOf fn a.tmps ps assign body w.heap.size .exhausted pe)))
      | some c => c.wpIn (Wide none) 1 P Qx { a with defers := { target := .collected w.heap.size, args := #[] } :: a.defers } (w'.putObj (w.heap.size + 1) (.loop (recOf fn a.tmps ps assign body w.heap.size .exhausted pe)))) :
    (Code.rangeFunc g ps assign body).wpIn (Wide none) 1 P Qx a w := by
  refine wpIn_rangeFunc ?_
  intro fn _
  obtain ⟨W1, hW1⟩ : ∃ W1, W1 = (w.alloc (.deferred (some []))).alloc (.loop (recOf fn a.tmps ps assign body w.heap.size .ready none)) := ⟨_, rfl⟩
  have hl1 : Like w W1 := by rw [hW1]; exact (like_alloc _ _).trans (like_alloc _ _)
  refine ⟨w.heap.size + 1, [{ target := .collected w.heap.size, args := #[] }], W1, { target := .fn (.func f) cap, args := #[.func (.yield (w.heap.size + 1)) #[] #[]] }, W1, f, #[.func (.yield (w.heap.size + 1)) #[] #[]] ++ cap, W1, ?_, ?_, fun _ _ => trivial, ?_, fun h => (by cases h), ?_⟩
  · rw [hW1]; exact run_enterLoop_outer _ _ _ _ _
  · simp only [resolve, hg]
    simp [Deferred.ofValue]
    rfl
  · simp [invoke, TFunc.run (P := P)]
  · refine callsIn_wide.2 ((hc fn W1 (by rw [hW1]; rfl)).mono ?_)
    rintro e w3 ⟨v, rfl, hl3, st, pe, hst, hL, hK⟩
    refine ⟨pe, _, run_endLoop hL hst, ?_⟩
    have := hk fn pe st w3 hK hL (hl1.trans hl3)
    cases pe with
    | none => exact this
    | some c => exact this

/-- A round that goes off its end. -/
theorem yield_in {L : Nat} {r : Loop} {vs : Array Value} {K : Value → Heap → Prop} (hL : H[L]? = some (.loop r)) (hst : r.state = .ready) (hpe : r.pending = none) (hsz : vs.size = r.params.size)
    (h : ∀ w : World, w.heap = H → r.assign.wpIn (Wide (some L)) 0 P (fun e a1 w1 => e = .normal ∧ w1.heap[L]? = some (.loop r) ∧ Like w w1 ∧
      r.body.wpIn (Wide (some L)) 0 P (fun e a2 w2 => e = .normal ∧ Like w w2 ∧ w2.heap[L]? = some (.loop { r with state := .busy }) ∧ K (.bool true) (w2.heap.setIfInBounds L (.loop r))) a1 (w1.putObj L (.loop { r with state := .busy })))
      { tmps := (r.params.zip vs).foldl (fun tmps (t, a) => tmps.setIfInBounds t a) r.tmps, defers := [] } w) : YieldH P L vs H K := by
  intro w hw
  refine ⟨r.fn, _, r.assign, r.body, run_yield (by rw [hw]; exact hL) hsz, roundIn_of_wpIn trivial (wpIn_mono (h w hw) ?_)⟩
  rintro e a1 w1 ⟨rfl, hL1, hl1, hb⟩
  refine ⟨_, run_beginRound hL1 hst, wpIn_mono hb ?_⟩
  rintro e a2 w2 ⟨rfl, hl2, hL2, hK⟩
  refine ⟨_, _, run_endRound none hL2, _, rfl, hl2.trans (like_putObj _ _ _), ?_⟩
  have er : ({ { r with state := .busy } with state := if (none : Option Code).isNone = true then LoopState.ready else .done, pending := none } : Loop) = r := by
    cases r; simp only at hst hpe; subst hst hpe; rfl
  rw [er]
  exact hK

end Go.TM
