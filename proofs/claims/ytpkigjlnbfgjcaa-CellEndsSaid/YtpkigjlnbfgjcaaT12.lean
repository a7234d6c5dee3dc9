/- taskmillref.AllEnds: every order, one by one. -/
import Derived.Test.YtpkigjlnbfgjcaaT11
namespace Go.Proofs.Ytpkigjlnbfgjcaa
open Go.TM
open Go.TM.Cell (enc)
set_option maxRecDepth 20000
set_option maxHeartbeats 4000000
variable {H H' H₀ : Heap}
def insAt : List (List Int) → List Int → Nat
  | [], _ => 0
  | x :: l, m => if lessL x m then insAt l m + 1 else 0
def insertL (out : List (List Int)) (m : List Int) : List (List Int) :=
  if insAt out m = out.length ∨ out.getD (insAt out m) [] ≠ m then out.take (insAt out m) ++ (m :: out.drop (insAt out m)) else out
/-- Every order, one after the other. -/
def allE (xss : List (List OpD)) : Nat → List Int → List Int → List (List Int) → List (List Int)
  | 0, _, _, out => out
  | n + 1, m, a, out =>
    let out' := (List.range xss.length).foldl (fun out p => if atEnd xss a p then out else allE xss n (nextM xss m a p) (nextA a p) out) out
    if (List.range xss.length).all (atEnd xss a) then insertL out' m else out'
def allStep (xss : List (List OpD)) (n : Nat) (m a : List Int) (out : List (List Int)) (p : Nat) : List (List Int) := if atEnd xss a p then out else allE xss n (nextM xss m a p) (nextA a p) out
theorem allE_succ (xss : List (List OpD)) (n : Nat) (m a : List Int) (out : List (List Int)) : allE xss (n + 1) m a out =
    (let out' := (List.range xss.length).foldl (allStep xss n m a) out
     if (List.range xss.length).all (atEnd xss a) then insertL out' m else out') := rfl
theorem insAt_le (out : List (List Int)) (m : List Int) : insAt out m ≤ out.length := by
  induction out with
  | nil => exact Nat.le_refl _
  | cons x l ih => simp only [insAt]; split <;> simp <;> omega
theorem insAt_spec (out : List (List Int)) (m : List Int) (k : Nat) (hk : k ≤ out.length) (h : ∀ i, i < k → lessL (out.getD i []) m = true) (he : k = out.length ∨ lessL (out.getD k []) m = false) : insAt out m = k := by
  induction out generalizing k with
  | nil => simp at hk; simp [insAt, hk]
  | cons x l ih =>
    cases k with
    | zero =>
      simp only [insAt]
      rcases he with he | he
      · simp at he
      · simp only [List.getD_cons_zero] at he; rw [if_neg (by rw [he]; decide)]
    | succ k =>
      have h0 := h 0 (by omega)
      simp only [List.getD_cons_zero] at h0
      simp only [insAt]
      rw [if_pos h0, ih k (by simpa using hk) (fun i hi => by have := h (i + 1) (by omega); simpa using this) (by simpa using he)]
theorem insertL_mem (out : List (List Int)) (m : List Int) (x : List Int) (h : x ∈ insertL out m) : x = m ∨ x ∈ out := by
  unfold insertL at h
  split at h
  · rcases List.mem_append.1 h with h | h
    · exact .inr (List.mem_of_mem_take h)
    · rcases List.mem_cons.1 h with h | h
      · exact .inl h
      · exact .inr (List.mem_of_mem_drop h)
  · exact .inr h
theorem insertL_len (out : List (List Int)) (m : List Int) : (insertL out m).length ≤ out.length + 1 := by
  unfold insertL
  split
  · simp; omega
  · omega
theorem foldl_len2 {f : List (List Int) → Nat → List (List Int)} {c : Nat} (hf : ∀ s p, (f s p).length ≤ s.length + c) (l : List Nat) : ∀ s, (l.foldl f s).length ≤ s.length + l.length * c := by
  induction l with
  | nil => intro s; simp
  | cons p l ih =>
    intro s
    have h1 := ih (f s p)
    have h2 := hf s p
    simp only [List.foldl_cons, List.length_cons, Nat.succ_mul]; omega
theorem allE_len (xss : List (List OpD)) (hx : xss.length ≤ 4) (n : Nat) : ∀ m a out, (allE xss n m a out).length ≤ out.length + 5 ^ n := by
  induction n with
  | zero => intro m a s; simp [allE]
  | succ n ih =>
    intro m a s
    rw [allE_succ]
    have hs : ∀ s p, (allStep xss n m a s p).length ≤ s.length + 5 ^ n := fun s p => by
      unfold allStep; split
      · exact Nat.le_add_right _ _
      · exact ih _ _ _
    have := foldl_len2 hs (List.range xss.length) s
    simp only [List.length_range] at this
    have h4 : xss.length * 5 ^ n ≤ 4 * 5 ^ n := Nat.mul_le_mul_right _ hx
    have h1 : 1 ≤ 5 ^ n := Nat.one_le_pow _ _ (by omega)
    rw [Nat.pow_succ]
    dsimp only
    split
    · have := insertL_len ((List.range xss.length).foldl (allStep xss n m a) s) m; omega
    · omega
theorem foldl_inv {σ : Type} {f : σ → Nat → σ} {I : σ → Prop} (l : List Nat) (hf : ∀ s p, p ∈ l → I s → I (f s p)) : ∀ s, I s → I (l.foldl f s) := by
  induction l with
  | nil => intro s h; exact h
  | cons p l ih =>
    intro s h
    exact ih (fun s p hp hs => hf s p (List.mem_cons_of_mem _ hp) hs) _ (hf s p (List.mem_cons_self ..) h)
theorem allE_inner (xss : List (List OpD)) (M : Nat) (n : Nat) : ∀ m a out, m.length = M → (∀ x ∈ out, x.length = M) → ∀ x ∈ allE xss n m a out, x.length = M := by
  induction n with
  | zero => intro m a out _ h; exact h
  | succ n ih =>
    intro m a out hm h
    rw [allE_succ]
    have hI : ∀ x ∈ (List.range xss.length).foldl (allStep xss n m a) out, x.length = M := foldl_inv (I := fun o : List (List Int) => ∀ x ∈ o, x.length = M) _ (fun s p _ hs => by
      unfold allStep; split
      · exact hs
      · exact ih _ _ _ (by simp [nextM, hm]) hs) out h
    dsimp only
    split
    · intro x hx
      rcases insertL_mem _ _ _ hx with h | h
      · rw [h]; exact hm
      · exact hI x h
    · exact hI
/-! ### The invariant -/
theorem fO_resl {v : Value} {sz k j : Nat} (h : fO (resl v sz 0 k) j) : fO v j := by
  cases v with
  | slice a n cap =>
    cases a with
    | none => revert h; simp [fO, resl, Value.ownBlock]
    | some a =>
      revert h
      simp only [fO, resl, Nat.zero_mul, Option.map_some, add_zero]
      split <;> simp [Value.ownBlock]
  | _ => exact h

theorem _root_.Go.TM.ROwn.take {α : Type} [Cell α] {B : Nat} {el : TypeId} {hs : List Hdr} {xss : List (List α)} (h : ROwn H B el hs xss) (k : Nat) : ROwn H B el (hs.take k) (xss.take k) := ⟨by simp [h.len], fun i hi => by
  have hi' : i < k ∧ i < xss.length := by simp at hi; omega
  have := h.at_ i hi'.2
  simp only [List.getD_eq_getElem?_getD] at this ⊢
  rw [List.getElem?_take_of_lt hi'.1, List.getElem?_take_of_lt hi'.1]
  exact this⟩
theorem _root_.Go.TM.ROwn.drop {α : Type} [Cell α] {B : Nat} {el : TypeId} {hs : List Hdr} {xss : List (List α)} (h : ROwn H B el hs xss) (k : Nat) : ROwn H B el (hs.drop k) (xss.drop k) := ⟨by simp [h.len], fun i hi => by
  have hi' : k + i < xss.length := by simp at hi; omega
  have := h.at_ (k + i) hi'
  simp only [List.getD_eq_getElem?_getD] at this ⊢
  rw [List.getElem?_drop, List.getElem?_drop]
  exact this⟩
def FY (bt ba bn bo : Nat) : Nat → Prop := fun k => k = bt ∨ k = ba ∨ k = bn ∨ k = bo
structure PJ (H₀ H : Heap) (bt ba bn bo : Nat) (tv av vo : Value) (a : List Int) (hs : List Hdr) (ms : List (List Int)) : Prop where
  xe : Ext H₀ H
  fro : H₀.size ≤ bo
  xbt : Blk H bt 23 [tv]
  xba : Blk H ba 22 [av]
  xbn : Blk H bn 70 [.func (.func 41) #[] #[.pointer (some ⟨bt, 0, none⟩), .pointer (some ⟨ba, 0, none⟩), .pointer (some ⟨bn, 0, none⟩), .pointer (some ⟨bo, 0, none⟩)]]
  xbo : Blk H bo 26 [vo]
  ar : Own H H₀.size 3 av a
  ov : Own H H₀.size 22 vo hs
  rw_ : ROwn H H₀.size 3 hs ms
  d1 : bt ≠ bo ∧ ba ≠ bo ∧ bn ≠ bo
  sv : Apt (fO vo) (FY bt ba bn bo)
  sa : Apt (fO av) (FY bt ba bn bo)
  sav : Apt (fO av) (fO vo)
  sr : Apt (fR hs) (FY bt ba bn bo)
  srv : Apt (fR hs) (fO vo)
  sra : Apt (fR hs) (fO av)
variable {bt ba bn bo : Nat} {tv av vo : Value} {a : List Int} {hs : List Hdr} {ms : List (List Int)}
theorem PJ.ext (h : PJ H₀ H bt ba bn bo tv av vo a hs ms) (he : Ext H H') : PJ H₀ H' bt ba bn bo tv av vo a hs ms :=
  ⟨h.xe.trans he, h.fro, h.xbt.ext he, h.xba.ext he, h.xbn.ext he, h.xbo.ext he, h.ar.ext he, h.ov.ext he, h.rw_.ext he, h.d1, h.sv, h.sa, h.sav, h.sr, h.srv, h.sra⟩
theorem PJ.oldFY (h : PJ H₀ H bt ba bn bo tv av vo a hs ms) : Old H (FY bt ba bn bo) := fun k hk => by
  rcases hk with rfl | rfl | rfl | rfl
  · exact h.xbt.lt
  · exact h.xba.lt
  · exact h.xbn.lt
  · exact h.xbo.lt
theorem PJ.at_ (h : PJ H₀ H bt ba bn bo tv av vo a hs ms) {a' : List Int} (hm : Mut (fO av) H H') (ha : Own H' H₀.size 3 av a') : PJ H₀ H' bt ba bn bo tv av vo a' hs ms := by
  have nv : ∀ b, FY bt ba bn bo b → ¬ fO av b := fun b hb hv => h.sa b hv hb
  exact ⟨h.xe.mut hm (h.ar.frs (Nat.le_refl _)), h.fro, h.xbt.mut hm (nv _ (.inl rfl)), h.xba.mut hm (nv _ (.inr (.inl rfl))), h.xbn.mut hm (nv _ (.inr (.inr (.inl rfl)))), h.xbo.mut hm (nv _ (.inr (.inr (.inr rfl)))),
    ha, h.ov.mutF hm h.sav, h.rw_.mutF hm h.sra.symm, h.d1, h.sv, h.sa, h.sav, h.sr, h.srv, h.sra⟩
theorem PJ.ins {H5 H6 : Heap} {v2 : Value} {hdm : Hdr} {m : List Int} {k : Nat} (h : PJ H₀ H bt ba bn bo tv av vo a hs ms) (hm5 : Mut (fO vo) H H5) (n5 : Own H5 H₀.size 22 v2 (hs.take k ++ (hdm :: hs.drop k))) (hF5 : ∀ k, v2.ownBlock = some k → vo.ownBlock = some k ∨ H.size ≤ k)
    (hm6 : Mut (fB bo) H5 H6) (xbo6 : Blk H6 bo 26 [v2]) (om : Own H H₀.size 3 hdm.val m) (am : Apt (fO hdm.val) (FY bt ba bn bo)) (amv : Apt (fO hdm.val) (fO vo)) (ama : Apt (fO hdm.val) (fO av)) : PJ H₀ H6 bt ba bn bo tv av v2 a (hs.take k ++ (hdm :: hs.drop k)) (ms.take k ++ (m :: ms.drop k)) := by
  obtain ⟨h5, h6, h7⟩ := h.d1
  have nv : ∀ b, FY bt ba bn bo b → ¬ fO vo b := fun b hb hv => h.sv b hv hb
  have nb : ∀ b, b ≠ bo → ¬ fB bo b := fun b hb e => hb e
  have sv2 : Apt (fO v2) (FY bt ba bn bo) := Apt.app h.sv hF5 h.oldFY
  have hfr : ∀ j, fR (hs.take k ++ (hdm :: hs.drop k)) j → fR hs j ∨ fO hdm.val j := by
    rintro j ⟨x, hx, hk⟩
    rcases List.mem_append.1 hx with h | h
    · exact .inl ⟨x, List.mem_of_mem_take h, hk⟩
    · rcases List.mem_cons.1 h with h | h
      · subst h; exact .inr hk
      · exact .inl ⟨x, List.mem_of_mem_drop h, hk⟩
  have hr6 : ROwn H6 H₀.size 3 hs ms := (h.rw_.mutF hm5 h.srv.symm).mutF hm6 (fun k hk hv => h.sr k hv (.inr (.inr (.inr hk))))
  have ho6 : Own H6 H₀.size 3 hdm.val m := (om.mutF hm5 amv.symm).mutF hm6 (fun k hk hv => am k hv (.inr (.inr (.inr hk))))
  refine ⟨(h.xe.mut hm5 (h.ov.frs (Nat.le_refl _))).mut hm6 (fun k hk => by rw [show k = bo from hk]; exact h.fro), h.fro, (h.xbt.mut hm5 (nv _ (.inl rfl))).mut hm6 (nb _ h5), (h.xba.mut hm5 (nv _ (.inr (.inl rfl)))).mut hm6 (nb _ h6),
    (h.xbn.mut hm5 (nv _ (.inr (.inr (.inl rfl))))).mut hm6 (nb _ h7), xbo6, (h.ar.mutF hm5 h.sav.symm).mutF hm6 (fun k hk hv => h.sa k hv (.inr (.inr (.inr hk)))),
    n5.mutF hm6 (fun k hk hv => sv2 k hv (.inr (.inr (.inr hk)))), ?_, h.d1, sv2, h.sa, ?_, ?_, ?_, ?_⟩
  · have h1 := (hr6.take k).append ((ROwn.one ho6).append (hr6.drop k))
    simpa using h1
  · exact (Apt.app h.sav.symm hF5 h.ar.old).symm
  · intro k hk hx
    rcases hfr k hk with h1 | h1
    · exact h.sr k h1 hx
    · exact am k h1 hx
  · intro k hk hx
    rcases hF5 k hx with hv | hv
    · rcases hfr k hk with h1 | h1
      · exact h.srv k h1 hv
      · exact amv k h1 hv
    · rcases hfr k hk with h1 | h1
      · have := h.rw_.old k h1; omega
      · have := om.old k h1; omega
  · intro k hk hx
    rcases hfr k hk with h1 | h1
    · exact h.sra k h1 hx
    · exact ama k h1 hx
def SY (bo : Nat) (av vo : Value) : Nat → Prop := fun k => fO av k ∨ k = bo ∨ fO vo k
def QJ (H₀ H : Heap) (bt ba bn bo : Nat) (tv av vo mv : Value) (a : List Int) (hs : List Hdr) (out : List (List Int)) (v : Value) (H' : Heap) : Prop :=
  v = .tuple #[] ∧ ∃ vo' hs', PJ H₀ H' bt ba bn bo tv av vo' a hs' out ∧ Mut (SY bo av vo) H H' ∧ (∀ k, fO vo' k → fO vo k ∨ H.size ≤ k) ∧ (∀ k, fR hs' k → fR hs k ∨ fO mv k ∨ H.size ≤ k)
end Go.Proofs.Ytpkigjlnbfgjcaa
