/- The plain law of CellEnds: the search that keeps what it had finds what all orders leave. -/
import Derived.Test.YtpkigjlnbfgjcaaT14
namespace Go.Proofs.Ytpkigjlnbfgjcaa
open Go.TM
open Go.TM.Cell (enc)
variable {xss : List (List OpD)} {M : Nat}
/-! ### Orders of lists -/
theorem lessL_irrefl (a : List Int) : lessL a a = false := by
  induction a with
  | nil => rfl
  | cons x a ih => simp [lessL, ih]
theorem lessL_trans (a : List Int) : ∀ b c, a.length = b.length → b.length = c.length → lessL a b = true → lessL b c = true → lessL a c = true := by
  induction a with
  | nil => intro b c h1 h2 h; simp [lessL] at h
  | cons x a ih =>
    intro b c h1 h2
    cases b with
    | nil => simp at h1
    | cons y b =>
      cases c with
      | nil => simp at h2
      | cons z c =>
        simp only [List.length_cons, Nat.add_right_cancel_iff] at h1 h2
        simp only [lessL]
        intro h3 h4
        by_cases hxy : x = y
        · subst hxy
          by_cases hyz : x = z
          · subst hyz
            simp only [ne_eq, not_true_eq_false, if_false] at h3 h4 ⊢
            exact ih b c h1 h2 h3 h4
          · rw [if_pos hyz] at h4 ⊢; exact h4
        · rw [if_pos hxy] at h3
          simp only [decide_eq_true_eq] at h3
          by_cases hyz : y = z
          · subst hyz
            rw [if_pos hxy]; simpa using h3
          · rw [if_pos hyz] at h4
            simp only [decide_eq_true_eq] at h4
            rw [if_pos (by omega)]
            simp only [decide_eq_true_eq]; omega
theorem lessL_total (a : List Int) : ∀ b, a.length = b.length → lessL a b = false → a ≠ b → lessL b a = true := by
  induction a with
  | nil => intro b h1 _ h; exact absurd (List.eq_nil_of_length_eq_zero (by simpa using h1.symm)).symm h
  | cons x a ih =>
    intro b h1 h2 h3
    cases b with
    | nil => simp at h1
    | cons y b =>
      simp only [List.length_cons, Nat.add_right_cancel_iff] at h1
      simp only [lessL] at h2 ⊢
      by_cases hxy : x = y
      · subst hxy
        simp only [ne_eq, not_true_eq_false, if_false] at h2 ⊢
        exact ih b h1 h2 (fun e => h3 (by rw [e]))
      · rw [if_pos hxy] at h2
        rw [if_pos (fun e => hxy e.symm)]
        simp only [decide_eq_false_iff_not] at h2
        simp only [decide_eq_true_eq]; omega
theorem cmpL_less (a : List Int) : ∀ b, a.length = b.length → cmpL a b ≤ 0 → a ≠ b → lessL a b = true := by
  induction a with
  | nil => intro b h1 _ h; exact absurd (List.eq_nil_of_length_eq_zero (by simpa using h1.symm)).symm h
  | cons x a ih =>
    intro b h1 h2 h3
    cases b with
    | nil => simp at h1
    | cons y b =>
      simp only [List.length_cons, Nat.add_right_cancel_iff] at h1
      simp only [lessL]
      simp only [cmpL] at h2
      by_cases hxy : x = y
      · subst hxy
        have h0 : cmpI x x = 0 := by simp [cmpI]
        rw [if_neg (by rw [h0]; simp)] at h2
        rw [if_neg (by simp)]
        exact ih b h1 h2 (fun e => h3 (by rw [e]))
      · rw [if_pos hxy]
        simp only [decide_eq_true_eq]
        by_cases hlt : x < y
        · exact hlt
        · have h0 : cmpI x y = 1 := by unfold cmpI; rw [if_neg hlt, if_pos (by omega)]
          rw [if_pos (by rw [h0]; decide), h0] at h2
          omega
def LS (l : List (List Int)) : Prop := l.Pairwise fun a b => lessL a b = true
theorem LS.eq (l1 : List (List Int)) : ∀ l2, LS l1 → LS l2 → (∀ x ∈ l1, x.length = M) → (∀ x ∈ l2, x.length = M) → (∀ x, x ∈ l1 ↔ x ∈ l2) → l1 = l2 := by
  induction l1 with
  | nil =>
    intro l2 _ _ _ _ h
    cases l2 with
    | nil => rfl
    | cons y l2 => have := (h y).2 (by simp); simp at this
  | cons x l1 ih =>
    intro l2 h1 h2 m1 m2 h
    cases l2 with
    | nil => have := (h x).1 (by simp); simp at this
    | cons y l2 =>
      obtain ⟨hx, h1'⟩ := List.pairwise_cons.1 h1
      obtain ⟨hy, h2'⟩ := List.pairwise_cons.1 h2
      have hxy : x = y := by
        rcases List.mem_cons.1 ((h x).1 (by simp)) with e | e
        · exact e
        · rcases List.mem_cons.1 ((h y).2 (by simp)) with e' | e'
          · exact e'.symm
          · have a1 := hx y e'
            have a2 := hy x e
            have := lessL_trans x y x (by rw [m1 x (by simp), m2 y (by simp)]) (by rw [m1 x (by simp), m2 y (by simp)]) a1 a2
            rw [lessL_irrefl] at this; cases this
      subst hxy
      congr 1
      refine ih l2 h1' h2' (fun z hz => m1 z (by simp [hz])) (fun z hz => m2 z (by simp [hz])) fun z => ⟨fun hz => ?_, fun hz => ?_⟩
      · rcases List.mem_cons.1 ((h z).1 (by simp [hz])) with e | e
        · subst e; have := hx z hz; rw [lessL_irrefl] at this; cases this
        · exact e
      · rcases List.mem_cons.1 ((h z).2 (by simp [hz])) with e | e
        · subst e; have := hy z hz; rw [lessL_irrefl] at this; cases this
        · exact e
/-! ### Insertion -/
theorem insertL_cons_lt (x m : List Int) (l : List (List Int)) (h : lessL x m = true) : insertL (x :: l) m = x :: insertL l m := by
  have e : insAt (x :: l) m = insAt l m + 1 := by simp [insAt, h]
  unfold insertL
  rw [e]
  simp only [List.length_cons, Nat.add_right_cancel_iff, List.getD_cons_succ, List.take_succ_cons, List.drop_succ_cons, List.cons_append]
  split <;> rfl
theorem insertL_cons_ge (x m : List Int) (l : List (List Int)) (h : lessL x m = false) : insertL (x :: l) m = if x ≠ m then m :: x :: l else x :: l := by
  have e : insAt (x :: l) m = 0 := by simp [insAt, h]
  unfold insertL
  rw [e]
  simp only [List.length_cons, List.getD_cons_zero, List.take_zero, List.drop_zero, List.nil_append]
  by_cases hx : x = m <;> simp [hx]
theorem insertL_nil (m : List Int) : insertL [] m = [m] := by simp [insertL, insAt]
theorem mem_insertL (m : List Int) (l : List (List Int)) (x : List Int) : x ∈ insertL l m ↔ x ∈ l ∨ x = m := by
  induction l with
  | nil => simp [insertL_nil]
  | cons y l ih =>
    cases h : lessL y m with
    | true => rw [insertL_cons_lt _ _ _ h]; simp only [List.mem_cons, ih]; simp only [or_assoc]
    | false =>
      rw [insertL_cons_ge _ _ _ h]
      by_cases hy : y = m
      · subst hy; simp only [ne_eq, not_true_eq_false, if_false, List.mem_cons]
        constructor
        · exact fun h => .inl h
        · rintro (h | h)
          · exact h
          · exact .inl h
      · rw [if_pos hy]; simp only [List.mem_cons]
        constructor
        · rintro (h | h)
          · exact .inr h
          · exact .inl h
        · rintro (h | h)
          · exact .inr h
          · exact .inl h
theorem insertL_LS (m : List Int) (l : List (List Int)) (hm : m.length = M) (hl : ∀ x ∈ l, x.length = M) (h : LS l) : LS (insertL l m) := by
  induction l with
  | nil => rw [insertL_nil]; exact List.pairwise_singleton _ _
  | cons y l ih =>
    obtain ⟨hy, h'⟩ := List.pairwise_cons.1 h
    have ly := hl y (by simp)
    cases hlt : lessL y m with
    | true =>
      rw [insertL_cons_lt _ _ _ hlt]
      refine List.pairwise_cons.2 ⟨fun z hz => ?_, ih (fun x hx => hl x (by simp [hx])) h'⟩
      rcases (mem_insertL _ _ _).1 hz with h | h
      · exact hy z h
      · rw [h]; exact hlt
    | false =>
      rw [insertL_cons_ge _ _ _ hlt]
      by_cases he : y = m
      · rw [if_neg (by simpa using he)]; exact h
      · rw [if_pos he]
        have hmy := lessL_total y m (by omega) hlt he
        refine List.pairwise_cons.2 ⟨fun z hz => ?_, h⟩
        rcases List.mem_cons.1 hz with e | e
        · rw [e]; exact hmy
        · exact lessL_trans m y z (by omega) (by rw [ly, hl z (by simp [e])]) hmy (hy z e)
/-! ### What orders leave -/
inductive Leads (xss : List (List OpD)) : List Int → List Int → List Int → Prop
  | done {m a : List Int} : (List.range xss.length).all (atEnd xss a) = true → Leads xss m a m
  | step {m a x : List Int} (p : Nat) : p < xss.length → atEnd xss a p = false → Leads xss (nextM xss m a p) (nextA a p) x → Leads xss m a x
theorem all_end {a : List Int} (h : (List.range xss.length).all (atEnd xss a) = true) (p : Nat) (hp : p < xss.length) : atEnd xss a p = true := by
  rw [List.all_eq_true] at h; exact h p (by simpa using hp)
theorem leads_end {m a x : List Int} (h : (List.range xss.length).all (atEnd xss a) = true) (hl : Leads xss m a x) : x = m := by
  cases hl with
  | done => rfl
  | step p hp hn _ => rw [all_end h p hp] at hn; cases hn
theorem leads_more {m a x : List Int} (h : (List.range xss.length).all (atEnd xss a) = false) (hl : Leads xss m a x) : ∃ p, p < xss.length ∧ atEnd xss a p = false ∧ Leads xss (nextM xss m a p) (nextA a p) x := by
  cases hl with
  | done h' => rw [h] at h'; cases h'
  | step p hp hn hl => exact ⟨p, hp, hn, hl⟩
theorem leads_len {m a x : List Int} (hl : Leads xss m a x) : x.length = m.length := by
  induction hl with
  | done => rfl
  | step p _ _ _ ih => rw [ih]; simp [nextM]
theorem rem_nn (xss : List (List OpD)) : ∀ (a : List Int), a.length = xss.length → (∀ p, p < xss.length → 0 ≤ a.getD p 0 ∧ a.getD p 0 ≤ ((xss.getD p []).length : Int)) → 0 ≤ remOf xss a := by
  induction xss with
  | nil => intro a ha _; have : a = [] := List.eq_nil_of_length_eq_zero ha; subst this; simp [remOf]
  | cons x l ih =>
    intro a ha h
    cases a with
    | nil => simp at ha
    | cons y a =>
      have h2 := ih a (by simpa using ha) (fun p hp => by have := h (p + 1) (by simp; omega); simpa using this)
      have h3 := h 0 (by simp)
      simp only [remOf, List.map_cons, List.sum_cons, List.getD_cons_zero] at h2 h3 ⊢; omega
theorem Fit.rem {m a : List Int} (h : Fit xss M m a) : 0 ≤ remOf xss a := rem_nn xss a h.fa h.at_
theorem leads_some (n : Nat) : ∀ m a, Fit xss M m a → remOf xss a < n → ∃ x, Leads xss m a x := by
  induction n with
  | zero => intro m a h hr; have := h.rem; omega
  | succ n ih =>
    intro m a h hr
    cases he : (List.range xss.length).all (atEnd xss a) with
    | true => exact ⟨m, .done he⟩
    | false =>
      simp only [List.all_eq_false, List.mem_range] at he
      obtain ⟨p, hp, hn⟩ := he
      have hn' : atEnd xss a p = false := by simpa using hn
      obtain ⟨x, hx⟩ := ih _ _ (h.next p hp hn') (by rw [remOf_next h p hp]; omega)
      exact ⟨x, .step p hp hn' hx⟩
/-! ### Every order, one by one -/
theorem allE_mem (n : Nat) : ∀ (m a : List Int) (out : List (List Int)), Fit xss M m a → remOf xss a < n → ∀ x, x ∈ allE xss n m a out ↔ x ∈ out ∨ Leads xss m a x := by
  induction n with
  | zero => intro m a out h hr; have := h.rem; omega
  | succ n ih =>
    intro m a out h hr x
    rw [allE_succ]
    have hfold : ∀ (l : List Nat) (out : List (List Int)), (∀ p ∈ l, p < xss.length) → (x ∈ l.foldl (allStep xss n m a) out ↔ x ∈ out ∨ ∃ p ∈ l, atEnd xss a p = false ∧ Leads xss (nextM xss m a p) (nextA a p) x) := by
      intro l
      induction l with
      | nil => intro out _; simp
      | cons p l ihl =>
        intro out hp
        have hpl := hp p (by simp)
        simp only [List.foldl_cons]
        rw [ihl _ (fun q hq => hp q (by simp [hq]))]
        have h1 : x ∈ allStep xss n m a out p ↔ x ∈ out ∨ (atEnd xss a p = false ∧ Leads xss (nextM xss m a p) (nextA a p) x) := by
          unfold allStep
          cases he : atEnd xss a p with
          | true => simp
          | false =>
            simp only [Bool.false_eq_true, if_false, true_and]
            exact ih _ _ _ (h.next p hpl he) (by rw [remOf_next h p hpl]; omega) x
        rw [h1]
        constructor
        · rintro ((h | h) | ⟨q, hq, h⟩)
          · exact .inl h
          · exact .inr ⟨p, by simp, h⟩
          · exact .inr ⟨q, by simp [hq], h⟩
        · rintro (h | ⟨q, hq, h⟩)
          · exact .inl (.inl h)
          · rcases List.mem_cons.1 hq with e | e
            · subst e; exact .inl (.inr h)
            · exact .inr ⟨q, e, h⟩
    have hf := hfold (List.range xss.length) out (fun p hp => by simpa using hp)
    dsimp only
    cases he : (List.range xss.length).all (atEnd xss a) with
    | true =>
      rw [if_pos rfl, mem_insertL, hf]
      constructor
      · rintro ((h | ⟨p, hp, hn, _⟩) | h)
        · exact .inl h
        · rw [all_end he p (by simpa using hp)] at hn; cases hn
        · subst h; exact .inr (.done he)
      · rintro (h | h)
        · exact .inl (.inl h)
        · exact .inr (leads_end he h)
    | false =>
      rw [if_neg (by simp), hf]
      constructor
      · rintro (h | ⟨p, hp, hn, h⟩)
        · exact .inl h
        · exact .inr (.step p (by simpa using hp) hn h)
      · rintro (h | h)
        · exact .inl h
        · obtain ⟨p, hp, hn, hl⟩ := leads_more he h
          exact .inr ⟨p, by simpa using hp, hn, hl⟩
theorem allE_LS (n : Nat) : ∀ (m a : List Int) (out : List (List Int)), m.length = M → (∀ x ∈ out, x.length = M) → LS out → LS (allE xss n m a out) := by
  induction n with
  | zero => intro m a out _ _ h; exact h
  | succ n ih =>
    intro m a out hm hl h
    rw [allE_succ]
    have hI : (∀ x ∈ (List.range xss.length).foldl (allStep xss n m a) out, x.length = M) ∧ LS ((List.range xss.length).foldl (allStep xss n m a) out) := foldl_inv (I := fun o : List (List Int) => (∀ x ∈ o, x.length = M) ∧ LS o) _ (fun s p _ hs => by
      unfold allStep; split
      · exact hs
      · exact ⟨allE_inner xss M n _ _ _ (by simp [nextM, hm]) hs.1, ih _ _ _ (by simp [nextM, hm]) hs.1 hs.2⟩) out ⟨hl, h⟩
    dsimp only
    split
    · exact insertL_LS m _ hm hI.1 hI.2
    · exact hI.2
/-! ### Keys -/
def R64 (x : Int) : Prop := -9223372036854775808 ≤ x ∧ x ≤ 9223372036854775807
theorem byteOf_inj (x y : Int) (h : byteOf x = byteOf y) : x % 256 = y % 256 := by
  have h1 := wrap_u8 x
  have h2 := wrap_u8 y
  rw [h] at h1
  rw [← h2] at h1
  simpa [IntKind.wrap, IntKind.signed, IntKind.bits] using h1
theorem bytesOf_inj (n : Nat) : ∀ x y : Int, bytesOf n x = bytesOf n y → ∃ k : Int, x - y = (256 : Int) ^ n * k := by
  induction n with
  | zero => intro x y _; exact ⟨x - y, by simp⟩
  | succ n ih =>
    intro x y h
    simp only [bytesOf, List.cons.injEq] at h
    have h1 := byteOf_inj x y h.1
    obtain ⟨k, hk⟩ := ih _ _ h.2
    rw [Int.fdiv_eq_ediv_of_nonneg _ (by decide), Int.fdiv_eq_ediv_of_nonneg _ (by decide)] at hk
    refine ⟨k, ?_⟩
    rw [Int.pow_succ, Int.mul_comm _ 256, Int.mul_assoc]
    generalize (256 : Int) ^ n * k = t at hk ⊢
    omega
theorem bytes8_inj (x y : Int) (hx : R64 x) (hy : R64 y) (h : bytesOf 8 x = bytesOf 8 y) : x = y := by
  obtain ⟨k, hk⟩ := bytesOf_inj 8 x y h
  have e : (256 : Int) ^ 8 = 18446744073709551616 := by decide
  rw [e] at hk
  unfold R64 at hx hy
  omega
theorem getD_memL {α : Type} (d : α) (l : List α) (i : Nat) (h : i < l.length) : l.getD i d ∈ l := by
  rw [List.getD_eq_getElem?_getD, List.getElem?_eq_getElem h]; exact List.getElem_mem _
theorem flat8_inj (xs : List Int) : ∀ ys, (∀ x ∈ xs, R64 x) → (∀ y ∈ ys, R64 y) → xs.flatMap (bytesOf 8) = ys.flatMap (bytesOf 8) → xs = ys := by
  induction xs with
  | nil =>
    intro ys _ _ h
    cases ys with
    | nil => rfl
    | cons y ys =>
      have := congrArg List.length h
      simp [bytesOf_length] at this
      omega
  | cons x xs ih =>
    intro ys hx hy h
    cases ys with
    | nil =>
      have := congrArg List.length h
      simp [bytesOf_length] at this
    | cons y ys =>
      simp only [List.flatMap_cons] at h
      obtain ⟨h1, h2⟩ := List.append_inj h (by simp [bytesOf_length])
      rw [bytes8_inj x y (hx x (by simp)) (hy y (by simp)) h1, ih ys (fun z hz => hx z (by simp [hz])) (fun z hz => hy z (by simp [hz])) h2]
/-! ### The search -/
structure FitR (xss : List (List OpD)) (M : Nat) (m a : List Int) : Prop where
  fit : Fit xss M m a
  rm : ∀ x ∈ m, R64 x
  ra : ∀ x ∈ a, R64 x
theorem keyS_inj {m a m' a' : List Int} (h : FitR xss M m a) (h' : FitR xss M m' a') (he : keyS m a = keyS m' a') : m = m' ∧ a = a' := by
  have h1 : keyOf m a = keyOf m' a' := congrArg StrK.s he
  have h2 : (m ++ a).flatMap (bytesOf 8) = (m' ++ a').flatMap (bytesOf 8) := by
    have := congrArg (fun b : ByteArray => b.data.toList) h1
    simpa [keyOf] using this
  have h3 := flat8_inj _ _ (fun x hx => by rcases List.mem_append.1 hx with h0 | h0; exact h.rm x h0; exact h.ra x h0) (fun x hx => by rcases List.mem_append.1 hx with h0 | h0; exact h'.rm x h0; exact h'.ra x h0) h2
  exact List.append_inj h3 (by rw [h.fit.fm, h'.fit.fm])
structure OpsR (xss : List (List OpD)) : Prop where
  len : ∀ p, p < xss.length → (xss.getD p []).length ≤ 5000
  ab : ∀ p, p < xss.length → ∀ i, i < (xss.getD p []).length → R64 ((xss.getD p []).getD i default).a ∧ R64 ((xss.getD p []).getD i default).b
theorem wrap_R64 (x : Int) : R64 (IntKind.i64.wrap x) := by
  rw [IntKind.wrap_i64]; unfold R64; omega
theorem mem_set {l : List Int} {i : Nat} {v x : Int} (h : x ∈ l.set i v) : x ∈ l ∨ x = v := by
  rcases List.mem_or_eq_of_mem_set h with h | h
  · exact .inl h
  · exact .inr h
theorem opDone_R64 (c : Int) (o : OpD) (hc : R64 c) (ha : R64 o.a) (hb : R64 o.b) : R64 (opDone c o).1 := by
  unfold opDone
  split
  · exact hc
  · split
    · exact ha
    · split
      · exact wrap_R64 _
      · split
        · exact ha
        · split
          · exact hb
          · exact hc
theorem FitR.next {m a : List Int} (hO : OpsR xss) (h : FitR xss M m a) (p : Nat) (hp : p < xss.length) (hn : atEnd xss a p = false) : FitR xss M (nextM xss m a p) (nextA a p) := by
  have hat := h.fit.at_ p hp
  have hl := hO.len p hp
  have hne : a.getD p 0 ≠ ((xss.getD p []).length : Int) := by simpa [atEnd] using hn
  have hab := hO.ab p hp (a.getD p 0).toNat (by omega)
  refine ⟨h.fit.next p hp hn, fun x hx => ?_, fun x hx => ?_⟩
  · unfold nextM at hx
    rcases mem_set hx with h1 | h1
    · exact h.rm x h1
    · rw [h1]
      refine opDone_R64 _ _ ?_ hab.1 hab.2
      rw [List.getD_eq_getElem?_getD]
      cases hg : m[((xss.getD p []).getD (a.getD p 0).toNat default).at_.toNat]? with
      | none => unfold R64; simp
      | some v => exact h.rm v (List.mem_of_getElem? hg)
  · unfold nextA at hx
    rcases mem_set hx with h1 | h1
    · exact h.ra x h1
    · rw [h1]; unfold R64; omega
def Inv (xss : List (List OpD)) (M : Nat) (r : Int) (s : St) : Prop :=
  ∀ m a, FitR xss M m a → keyS m a ∈ s.1 → remOf xss a ≤ r → ∀ x, Leads xss m a x → x ∈ s.2
structure Ran1 (xss : List (List OpD)) (M : Nat) (m a : List Int) (s s' : St) : Prop where
  mo : ∀ x ∈ s.2, x ∈ s'.2
  so : ∀ x ∈ s'.2, x ∈ s.2 ∨ Leads xss m a x
  co : ∀ x, Leads xss m a x → x ∈ s'.2
  ky : ∀ k ∈ s'.1, k ∈ s.1 ∨ ∃ m1 a1, FitR xss M m1 a1 ∧ k = keyS m1 a1 ∧ (remOf xss a1 < remOf xss a ∨ (m1 = m ∧ a1 = a))
  iv : Inv xss M (remOf xss a) s'
theorem play_ran (hO : OpsR xss) (n : Nat) : ∀ (m a : List Int) (s : St), FitR xss M m a → remOf xss a < n → Inv xss M (remOf xss a) s → Ran1 xss M m a s (play xss n m a s) := by
  induction n with
  | zero => intro m a s h hr; have := h.fit.rem; omega
  | succ n ih =>
    intro m a s h hr hI
    rw [play_succ]
    by_cases hk : keyS m a ∈ s.1
    · rw [if_pos hk]
      exact ⟨fun x hx => hx, fun x hx => .inl hx, fun x hx => hI m a h hk (Int.le_refl _) x hx, fun k hk => .inl hk, hI⟩
    · rw [if_neg hk]
      have hfold : ∀ (l : List Nat) (s0 : St), (∀ p ∈ l, p < xss.length) → Inv xss M (remOf xss a - 1) s0 →
          let s' := l.foldl (playStep xss n m a) s0
          (∀ x ∈ s0.2, x ∈ s'.2) ∧ (∀ x ∈ s'.2, x ∈ s0.2 ∨ ∃ p ∈ l, atEnd xss a p = false ∧ Leads xss (nextM xss m a p) (nextA a p) x) ∧
          (∀ p ∈ l, atEnd xss a p = false → ∀ x, Leads xss (nextM xss m a p) (nextA a p) x → x ∈ s'.2) ∧
          (∀ k ∈ s'.1, k ∈ s0.1 ∨ ∃ m1 a1, FitR xss M m1 a1 ∧ k = keyS m1 a1 ∧ remOf xss a1 < remOf xss a) ∧ Inv xss M (remOf xss a - 1) s' := by
        intro l
        induction l with
        | nil => intro s0 _ h0; exact ⟨fun x hx => hx, fun x hx => .inl hx, fun p hp => (by cases hp), fun k hk => .inl hk, h0⟩
        | cons p l ihl =>
          intro s0 hp h0
          have hpl := hp p (by simp)
          simp only [List.foldl_cons]
          cases he : atEnd xss a p with
          | true =>
            have e : playStep xss n m a s0 p = s0 := by unfold playStep; rw [if_pos he]
            rw [e]
            obtain ⟨h1, h2, h3, h4, h5⟩ := ihl s0 (fun q hq => hp q (by simp [hq])) h0
            refine ⟨h1, fun x hx => (h2 x hx).imp id fun ⟨q, hq, r⟩ => ⟨q, by simp [hq], r⟩, fun q hq hn => ?_, h4, h5⟩
            rcases List.mem_cons.1 hq with e | e
            · subst e; rw [he] at hn; cases hn
            · exact h3 q e hn
          | false =>
            have e : playStep xss n m a s0 p = play xss n (nextM xss m a p) (nextA a p) s0 := by unfold playStep; rw [if_neg (by rw [he]; simp)]
            rw [e]
            have hrn := remOf_next h.fit p hpl
            have hr1 := ih _ _ s0 (h.next hO p hpl he) (by rw [hrn]; omega) (by rw [hrn]; exact h0)
            obtain ⟨h1, h2, h3, h4, h5⟩ := ihl (play xss n (nextM xss m a p) (nextA a p) s0) (fun q hq => hp q (by simp [hq])) (by have := hr1.iv; rwa [hrn] at this)
            refine ⟨fun x hx => h1 x (hr1.mo x hx), fun x hx => ?_, fun q hq hn x hx => ?_, fun k hk => ?_, h5⟩
            · rcases h2 x hx with h | ⟨q, hq, r⟩
              · rcases hr1.so x h with h | h
                · exact .inl h
                · exact .inr ⟨p, by simp, he, h⟩
              · exact .inr ⟨q, by simp [hq], r⟩
            · rcases List.mem_cons.1 hq with e | e
              · subst e; exact h1 x (hr1.co x hx)
              · exact h3 q e hn x hx
            · rcases h4 k hk with h | h
              · rcases hr1.ky k h with h | ⟨m1, a1, hf, he1, hr⟩
                · exact .inl h
                · refine .inr ⟨m1, a1, hf, he1, ?_⟩
                  rcases hr with hr | ⟨_, hr⟩
                  · omega
                  · rw [hr]; omega
              · exact .inr h
      have h0 : Inv xss M (remOf xss a - 1) (keyS m a :: s.1, s.2) := by
        intro m1 a1 hf hk1 hr1 x hx
        rcases List.mem_cons.1 hk1 with e | e
        · obtain ⟨_, rfl⟩ := keyS_inj hf h e; omega
        · exact hI m1 a1 hf e (by omega) x hx
      obtain ⟨h1, h2, h3, h4, h5⟩ := hfold (List.range xss.length) (keyS m a :: s.1, s.2) (fun p hp => by simpa using hp) h0
      generalize (List.range xss.length).foldl (playStep xss n m a) (keyS m a :: s.1, s.2) = s' at h1 h2 h3 h4 h5
      dsimp only at h1 h2 h3 h4 h5 ⊢
      -- the keys, and what is had, whatever is appended behind
      have hky : ∀ k ∈ s'.1, k ∈ s.1 ∨ ∃ m1 a1, FitR xss M m1 a1 ∧ k = keyS m1 a1 ∧ (remOf xss a1 < remOf xss a ∨ (m1 = m ∧ a1 = a)) := by
        intro k hk
        rcases h4 k hk with h' | ⟨m1, a1, hf, he, hr⟩
        · rcases List.mem_cons.1 h' with e | e
          · exact .inr ⟨m, a, h, e, .inr ⟨rfl, rfl⟩⟩
          · exact .inl e
        · exact .inr ⟨m1, a1, hf, he, .inl hr⟩
      have hiv : ∀ out, (∀ x ∈ s'.2, x ∈ out) → (∀ x, Leads xss m a x → x ∈ out) → Inv xss M (remOf xss a) (s'.1, out) := by
        intro out ho hl m1 a1 hf hk1 hr1 x hx
        by_cases hlt : remOf xss a1 ≤ remOf xss a - 1
        · exact ho x (h5 m1 a1 hf hk1 hlt x hx)
        · rcases h4 _ hk1 with h' | ⟨m2, a2, hf2, he2, hr2⟩
          · rcases List.mem_cons.1 h' with e | e
            · obtain ⟨rfl, rfl⟩ := keyS_inj hf h e
              exact hl x hx
            · exact ho x (h1 x (hI m1 a1 hf e hr1 x hx))
          · obtain ⟨rfl, rfl⟩ := keyS_inj hf hf2 he2
            omega
      cases he : (List.range xss.length).all (atEnd xss a) with
      | true =>
        rw [if_pos rfl]
        have hco : ∀ x, Leads xss m a x → x ∈ s'.2 ++ [m] := fun x hx => by rw [leads_end he hx]; simp
        refine ⟨fun x hx => by simp [h1 x hx], fun x hx => ?_, hco, hky, hiv _ (fun x hx => by simp [hx]) hco⟩
        rcases List.mem_append.1 hx with h' | h'
        · rcases h2 x h' with h' | ⟨p, hp, hn, _⟩
          · exact .inl h'
          · rw [all_end he p (by simpa using hp)] at hn; cases hn
        · rw [List.mem_singleton.1 h']; exact .inr (.done he)
      | false =>
        rw [if_neg (by simp)]
        have hco : ∀ x, Leads xss m a x → x ∈ s'.2 := fun x hx => by
          obtain ⟨p, hp, hn, hl⟩ := leads_more he hx
          exact h3 p (by simpa using hp) hn x hl
        refine ⟨h1, fun x hx => ?_, hco, hky, hiv _ (fun x hx => hx) hco⟩
        rcases h2 x hx with h' | ⟨p, hp, hn, hl⟩
        · exact .inl h'
        · exact .inr (.step p (by simpa using hp) hn hl)
/-! ### Each once -/
theorem end_uniq {a a' : List Int} (h : a.length = xss.length) (h' : a'.length = xss.length) (he : (List.range xss.length).all (atEnd xss a) = true) (he' : (List.range xss.length).all (atEnd xss a') = true) : a = a' := by
  apply List.ext_getElem (by omega)
  intro i h1 h2
  have e1 := all_end he i (by omega)
  have e2 := all_end he' i (by omega)
  simp only [atEnd, decide_eq_true_eq] at e1 e2
  rw [← e2] at e1
  simpa [List.getD, h1, h2] using e1
def Once (xss : List (List OpD)) (s : St) : Prop := s.2.Nodup ∧ ∀ x ∈ s.2, ∀ a : List Int, a.length = xss.length → (List.range xss.length).all (atEnd xss a) = true → keyS x a ∈ s.1
theorem play_once (n : Nat) : ∀ (m a : List Int) (s : St), a.length = xss.length → Once xss s → Once xss (play xss n m a s) ∧ ∀ k ∈ s.1, k ∈ (play xss n m a s).1 := by
  induction n with
  | zero => intro m a s _ h; exact ⟨h, fun k hk => hk⟩
  | succ n ih =>
    intro m a s ha h
    rw [play_succ]
    by_cases hk : keyS m a ∈ s.1
    · rw [if_pos hk]; exact ⟨h, fun k hk => hk⟩
    · rw [if_neg hk]
      have hfold : ∀ (l : List Nat) (s0 : St), Once xss s0 → Once xss (l.foldl (playStep xss n m a) s0) ∧ ∀ k ∈ s0.1, k ∈ (l.foldl (playStep xss n m a) s0).1 := by
        intro l
        induction l with
        | nil => intro s0 h0; exact ⟨h0, fun k hk => hk⟩
        | cons p l ihl =>
          intro s0 h0
          simp only [List.foldl_cons]
          have h1 : Once xss (playStep xss n m a s0 p) ∧ ∀ k ∈ s0.1, k ∈ (playStep xss n m a s0 p).1 := by
            unfold playStep
            split
            · exact ⟨h0, fun k hk => hk⟩
            · exact ih _ _ _ (by simp [nextA, ha]) h0
          have h2 := ihl _ h1.1
          exact ⟨h2.1, fun k hk => h2.2 k (h1.2 k hk)⟩
      have h0 : Once xss (keyS m a :: s.1, s.2) := ⟨h.1, fun x hx a' ha' he' => List.mem_cons_of_mem _ (h.2 x hx a' ha' he')⟩
      cases he : (List.range xss.length).all (atEnd xss a) with
      | true =>
        have hid : ∀ (l : List Nat) (s0 : St), (∀ p ∈ l, p < xss.length) → l.foldl (playStep xss n m a) s0 = s0 := by
          intro l
          induction l with
          | nil => intro s0 _; rfl
          | cons p l ihl =>
            intro s0 hp
            simp only [List.foldl_cons]
            have : playStep xss n m a s0 p = s0 := by unfold playStep; rw [if_pos (all_end he p (hp p (by simp)))]
            rw [this]; exact ihl s0 fun q hq => hp q (by simp [hq])
        rw [hid _ _ (fun p hp => by simpa using hp)]
        dsimp only
        rw [if_pos rfl]
        refine ⟨⟨?_, fun x hx a' ha' he' => ?_⟩, fun k hk => List.mem_cons_of_mem _ hk⟩
        · rw [List.nodup_append]
          refine ⟨h.1, by simp, fun x hx y hy => ?_⟩
          rw [List.mem_singleton] at hy
          subst hy
          intro e; subst e
          exact hk (h.2 x hx a ha he)
        · rcases List.mem_append.1 hx with h' | h'
          · exact List.mem_cons_of_mem _ (h.2 x h' a' ha' he')
          · rw [List.mem_singleton] at h'
            subst h'
            rw [end_uniq ha' ha he' he]; exact List.mem_cons_self ..
      | false =>
        have h2 := hfold (List.range xss.length) _ h0
        dsimp only
        rw [if_neg (by simp)]
        exact ⟨h2.1, fun k hk => h2.2 k (List.mem_cons_of_mem _ hk)⟩
theorem ends_nodup (xs : List Int) (xss : List (List OpD)) : (endsOf xs xss).Nodup :=
  (play_once 13 xs (List.replicate xss.length 0) ([], []) (by simp) ⟨by simp, fun x hx => by simp at hx⟩).1.1
theorem nodup_next {ms : List (List Int)} (h : ms.Nodup) (i : Nat) (hi : i + 1 < ms.length) : ms.getD (i + 1) [] ≠ ms.getD i [] := by
  intro e
  have h1 : i < ms.length := by omega
  rw [List.getD_eq_getElem?_getD, List.getD_eq_getElem?_getD, List.getElem?_eq_getElem hi, List.getElem?_eq_getElem h1] at e
  simp only [Option.getD_some] at e
  have := (List.getElem_inj h).1 e
  omega
theorem fit0 (xs : List Int) (xss : List (List OpD)) : Fit xss xs.length xs (List.replicate xss.length 0) := ⟨rfl, by simp, fun p hp => by simp [List.getD, hp]⟩
theorem rem0 (xss : List (List OpD)) : remOf xss (List.replicate xss.length 0) = (sumLen xss : Nat) := by
  have e1 : (xss.map fun l => (l.length : Int)).sum = (sumLen xss : Nat) := sumLen_map xss
  have e2 : (List.replicate xss.length (0 : Int)).sum = 0 := by simp
  unfold remOf; omega
theorem sorted_LS {ms : List (List Int)} (hl : ∀ x ∈ ms, x.length = M) (hn : ms.Nodup) (hs : ms.Pairwise fun a b => cmpL a b ≤ 0) : LS ms := by
  unfold LS
  have h2 := hs.and hn
  refine List.Pairwise.imp_of_mem ?_ h2
  rintro a b ha hb ⟨h1, h2⟩
  exact cmpL_less a b (by rw [hl a ha, hl b hb]) h1 h2
/-- What the values are that come in. -/
structure In64 (xs : List Int) (xss : List (List OpD)) : Prop where
  xs : ∀ x ∈ xs, R64 x
  ops : ∀ l ∈ xss, ∀ o ∈ l, R64 o.a ∧ R64 o.b
theorem ends_ran {xs : List Int} {xss : List (List OpD)} (hI : In64 xs xss) (hf : Fine xss xs.length) (hs : sumLen xss ≤ 12) (x : List Int) : x ∈ endsOf xs xss ↔ Leads xss xs (List.replicate xss.length 0) x := by
  have hO : OpsR xss := ⟨hf.len, fun p hp i hi => hI.ops _ (getD_memL [] xss p hp) _ (getD_memL default _ i hi)⟩
  have h := play_ran hO 13 xs (List.replicate xss.length 0) ([], []) ⟨fit0 xs xss, hI.xs, fun x hx => by rw [(List.mem_replicate.1 hx).2]; unfold R64; omega⟩ (by rw [rem0]; omega) (fun m a _ hk => by simp at hk)
  exact ⟨fun hx => (h.so x hx).resolve_left (by simp), h.co x⟩
theorem ends_len {xs : List Int} {xss : List (List OpD)} (hI : In64 xs xss) (hf : Fine xss xs.length) (hs : sumLen xss ≤ 12) : ∀ x ∈ endsOf xs xss, x.length = xs.length := fun x hx => leads_len ((ends_ran hI hf hs x).1 hx)
theorem ends_big {xs : List Int} {xss : List (List OpD)} (hI : In64 xs xss) (ms : List (List Int)) (hf : Fine xss xs.length) (hs : sumLen xss ≤ 12) (hp : ms.Perm (endsOf xs xss)) (hso : ms.Pairwise fun a b => cmpL a b ≤ 0) :
    0 < ms.length ∧ (∀ x ∈ ms, x.length = xs.length) ∧ LS ms := by
  have hl : ∀ x ∈ ms, x.length = xs.length := fun x hx => ends_len hI hf hs x (hp.mem_iff.1 hx)
  refine ⟨?_, hl, sorted_LS hl (hp.nodup_iff.2 (ends_nodup xs xss)) hso⟩
  obtain ⟨x, hx⟩ := leads_some (xss := xss) 13 xs _ (fit0 xs xss) (by rw [rem0]; omega)
  exact List.length_pos_of_mem (hp.mem_iff.2 ((ends_ran hI hf hs x).2 hx))
theorem ends_small {xs : List Int} {xss : List (List OpD)} (hI : In64 xs xss) (ms : List (List Int)) (hf : Fine xss xs.length) (hs : sumLen xss ≤ 12) (hp : ms.Perm (endsOf xs xss)) (hso : ms.Pairwise fun a b => cmpL a b ≤ 0) : ms = allEnds xs xss := by
  obtain ⟨_, hl, hLS⟩ := ends_big hI ms hf hs hp hso
  refine LS.eq ms _ hLS ?_ hl ?_ fun x => ?_
  · exact allE_LS 13 xs _ [] rfl (by simp) List.Pairwise.nil
  · exact allE_inner xss xs.length 13 xs _ [] rfl (by simp)
  · rw [hp.mem_iff, ends_ran hI hf hs]
    have := allE_mem (xss := xss) 13 xs (List.replicate xss.length 0) [] (fit0 xs xss) (by rw [rem0]; omega) x
    unfold allEnds
    rw [this]; simp
end Go.Proofs.Ytpkigjlnbfgjcaa
