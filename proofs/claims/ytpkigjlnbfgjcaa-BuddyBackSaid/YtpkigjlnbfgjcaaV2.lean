/- Valid spaces: plain laws. -/
import Derived.Test.YtpkigjlnbfgjcaaV1
namespace Go.Proofs.Ytpkigjlnbfgjcaa
open Go.TM
def has (x : Int) (b : BlockD) : Bool := decide (b.start ≤ x) && decide (x < b.start + b.size)
theorem has_iff (x : Int) (b : BlockD) : has x b = true ↔ b.start ≤ x ∧ x < b.start + b.size := by simp [has]
def cnt (l : List BlockD) (x : Int) : Nat := l.countP (has x)
theorem cnt_nil (x : Int) : cnt [] x = 0 := rfl
theorem cnt_cons (b : BlockD) (l : List BlockD) (x : Int) : cnt (b :: l) x = (if has x b then 1 else 0) + cnt l x := by
  simp only [cnt, List.countP_cons]; omega
theorem cnt_append (l l' : List BlockD) (x : Int) : cnt (l ++ l') x = cnt l x + cnt l' x := List.countP_append
theorem cnt_perm {l l' : List BlockD} (h : l.Perm l') (x : Int) : cnt l x = cnt l' x := h.countP_eq _
theorem cnt_mem {l : List BlockD} {b : BlockD} (h : b ∈ l) {x : Int} (hx : has x b = true) : 1 ≤ cnt l x := List.countP_pos_iff.2 ⟨b, h, hx⟩
theorem cnt_ex {l : List BlockD} {x : Int} (h : 1 ≤ cnt l x) : ∃ b ∈ l, has x b = true := List.countP_pos_iff.1 h
def Tile (a e : Int) (l : List BlockD) : Prop := a ≤ e ∧ ∀ x, cnt l x = if a ≤ x ∧ x < e then 1 else 0
theorem Tile.perm {a e : Int} {l l' : List BlockD} (h : Tile a e l) (p : l.Perm l') : Tile a e l' := ⟨h.1, fun x => by rw [← cnt_perm p]; exact h.2 x⟩
def Pos (l : List BlockD) : Prop := ∀ b ∈ l, 0 < b.size
theorem has_start {b : BlockD} (h : 0 < b.size) : has b.start b = true := (has_iff _ _).2 ⟨Int.le_refl _, by omega⟩
theorem Tile.in_ {a e : Int} {l : List BlockD} (h : Tile a e l) {b : BlockD} (hb : b ∈ l) {x : Int} (hx : has x b = true) : a ≤ x ∧ x < e := by
  have h1 := cnt_mem hb hx
  rw [h.2 x] at h1
  split at h1
  · assumption
  · omega
theorem Tile.cons_iff {a e : Int} {b : BlockD} {l : List BlockD} (hb : b.start = a) (hp : 0 < b.size) : Tile a e (b :: l) ↔ Tile (a + b.size) e l := by
  constructor
  · intro h
    have h1 := h.in_ (b := b) (by simp) (x := a + b.size - 1) ((has_iff _ _).2 ⟨by omega, by omega⟩)
    refine ⟨by omega, fun x => ?_⟩
    have h2 := h.2 x
    rw [cnt_cons] at h2
    by_cases hx : has x b = true
    · have := (has_iff _ _).1 hx
      rw [if_pos hx] at h2
      rw [if_neg (by omega)]
      split at h2 <;> omega
    · have : ¬ (b.start ≤ x ∧ x < b.start + b.size) := fun hh => hx ((has_iff _ _).2 hh)
      rw [if_neg hx, Nat.zero_add] at h2
      rw [h2]
      by_cases h3 : a + b.size ≤ x ∧ x < e
      · rw [if_pos h3, if_pos (by omega)]
      · rw [if_neg h3, if_neg (by omega)]
  · intro h
    refine ⟨by have := h.1; omega, fun x => ?_⟩
    rw [cnt_cons, h.2 x]
    by_cases hx : has x b = true
    · have := (has_iff _ _).1 hx
      have := h.1
      rw [if_pos hx, if_neg (by omega), if_pos (by omega)]
    · have : ¬ (b.start ≤ x ∧ x < b.start + b.size) := fun hh => hx ((has_iff _ _).2 hh)
      rw [if_neg hx, Nat.zero_add]
      by_cases h3 : a + b.size ≤ x ∧ x < e
      · rw [if_pos h3, if_pos (by omega)]
      · rw [if_neg h3, if_neg (by omega)]
theorem Tile.nil_iff {a e : Int} : Tile a e [] ↔ a = e := by
  constructor
  · rintro ⟨h1, h2⟩
    have := h2 a
    rw [cnt_nil] at this
    split at this <;> omega
  · rintro rfl
    exact ⟨Int.le_refl _, fun x => by rw [cnt_nil, if_neg (by omega)]⟩
/-- Where something is left, some block begins just here. -/
theorem Tile.first {a e : Int} {l : List BlockD} (h : Tile a e l) (hp : Pos l) (hne : l ≠ []) : ∃ c ∈ l, c.start = a ∧ ∀ b ∈ l, a ≤ b.start := by
  have hge : ∀ b ∈ l, a ≤ b.start ∧ b.start < e := fun b hb => h.in_ hb (has_start (hp b hb))
  obtain ⟨b, hb⟩ := List.exists_mem_of_ne_nil l hne
  have := hge b hb
  obtain ⟨c, hc, hx⟩ := cnt_ex (l := l) (x := a) (by rw [h.2 a, if_pos (by omega)]; omega)
  have h1 := (has_iff _ _).1 hx
  have h2 := hge c hc
  exact ⟨c, hc, by omega, fun b hb => (hge b hb).1⟩
theorem chain_iff (l : List BlockD) : ∀ a e, Pos l → l.Pairwise (fun a b => a.start ≤ b.start) → (chainP a l = some e ↔ Tile a e l) := by
  induction l with
  | nil => intro a e _ _; rw [chainP, Tile.nil_iff]; simp
  | cons b l ih =>
    intro a e hp hs
    have hpb := hp b (by simp)
    obtain ⟨hs1, hs2⟩ := List.pairwise_cons.1 hs
    rw [chainP]
    by_cases hb : b.start = a
    · rw [if_pos hb, ih _ _ (fun c hc => hp c (by simp [hc])) hs2, Tile.cons_iff hb hpb]
    · rw [if_neg hb]
      constructor
      · intro h; cases h
      · intro h
        exfalso
        obtain ⟨c, hc, hca, hall⟩ := h.first hp (by simp)
        have := hall b (by simp)
        rcases List.mem_cons.1 hc with rfl | hc
        · exact hb hca
        · have := hs1 c hc; omega
def Srt (l : List BlockD) : Prop := l.Pairwise (fun a b => a.start < b.start)
theorem merge_iff (n : Nat) : ∀ a e (u f : List BlockD), n = u.length + f.length → Pos (u ++ f) → Srt u → Srt f → (mergeR n a u f = some e ↔ Tile a e (u ++ f)) := by
  induction n with
  | zero =>
    intro a e u f hn _ _ _
    have h1 : u = [] := List.eq_nil_of_length_eq_zero (by omega)
    have h2 : f = [] := List.eq_nil_of_length_eq_zero (by omega)
    subst h1 h2
    rw [mergeR, List.append_nil, Tile.nil_iff]; simp
  | succ n ih =>
    intro a e u f hn hp hu hf
    rw [mergeR]
    by_cases h1 : hdAt a u = true
    · rw [if_pos h1]
      cases u with
      | nil => cases h1
      | cons b u =>
        have hb : b.start = a := by simpa [hdAt] using h1
        rw [List.headD_cons, List.tail_cons, ih _ _ u f (by simp at hn; omega) (fun c hc => hp c (by simp at hc ⊢; exact .inr hc)) (List.pairwise_cons.1 hu).2 hf, List.cons_append, Tile.cons_iff hb (hp b (by simp))]
    · rw [if_neg h1]
      by_cases h2 : hdAt a f = true
      · rw [if_pos h2]
        cases f with
        | nil => cases h2
        | cons b f =>
          have hb : b.start = a := by simpa [hdAt] using h2
          have hperm : (u ++ b :: f).Perm (b :: (u ++ f)) := List.perm_middle
          rw [List.headD_cons, List.tail_cons, ih _ _ u f (by simp at hn; omega) (fun c hc => hp c (by simp at hc ⊢; rcases hc with h | h <;> simp [h])) hu (List.pairwise_cons.1 hf).2,
            ← Tile.cons_iff hb (hp b (by simp))]
          exact ⟨fun h => h.perm hperm.symm, fun h => h.perm hperm⟩
      · rw [if_neg h2]
        constructor
        · intro h; cases h
        · intro h
          exfalso
          obtain ⟨c, hc, hca, hall⟩ := h.first hp (by intro h0; rw [List.append_eq_nil_iff] at h0; rw [h0.1, h0.2] at hn; simp at hn)
          have key : ∀ l : List BlockD, Srt l → c ∈ l → (∀ b ∈ l, a ≤ b.start) → hdAt a l = true := by
            intro l hl hcl hal
            cases l with
            | nil => cases hcl
            | cons x l =>
              have := hal x (by simp)
              rcases List.mem_cons.1 hcl with rfl | hcl
              · simp [hdAt, hca]
              · have := (List.pairwise_cons.1 hl).1 c hcl
                omega
          rcases List.mem_append.1 hc with hc | hc
          · exact h1 (key u hu hc fun b hb => hall b (List.mem_append.2 (.inl hb)))
          · exact h2 (key f hf hc fun b hb => hall b (List.mem_append.2 (.inr hb)))
/-! ### The lists -/
theorem bad_al {W : Int} (b : BlockD) (hW : W ≤ 1073741824) : ¬ badW powR W b ↔ AL W b := by
  constructor
  · intro h
    have h1 : powR b.size = true := Decidable.byContradiction fun hn => h (.inl (.inl (.inl (.inl hn))))
    have h2 : ¬ b.start < 0 := fun hn => h (.inl (.inl (.inl (.inr hn))))
    have h3 : b.start % b.size = 0 := Decidable.byContradiction fun hn => h (.inl (.inl (.inr hn)))
    have h5 : ¬ W - b.size < b.start := fun hn => h (.inr hn)
    obtain ⟨k, _, hk⟩ := (powR_iff _).1 h1
    exact ⟨k, hk, by omega, h3, by omega⟩
  · rintro ⟨k, h1, h2, h3, h4⟩ h
    have hp : (0 : Int) < b.size := by rw [h1]; exact Int.pow_pos (by omega)
    have hk : k ≤ 62 := by
      rcases Nat.lt_or_ge 62 k with h9 | h9
      · exfalso
        have : (2 : Int) ^ 63 ≤ 2 ^ k := by exact_mod_cast Nat.pow_le_pow_right (by omega) h9
        omega
      · exact h9
    have hr : powR b.size = true := (powR_iff _).2 ⟨k, hk, h1⟩
    rcases h with (((h | h) | h) | h) | h
    · exact h hr
    · omega
    · exact h h3
    · omega
    · omega
theorem lf_ok (pw : Int → Bool) (W k : Int) (l : List BlockD) : ∀ p, (lf pw W k p l).code = 0 ↔ (∀ b ∈ l, ¬ badW pw W b) ∧ Srt l ∧ ∀ q, p = some q → ∀ b ∈ l, q.start < b.start := by
  induction l with
  | nil => intro p; cases p <;> simp [lf, Srt]
  | cons b l ih =>
    intro p
    have key : (lf pw W k p (b :: l)).code = 0 ↔ ¬ badW pw W b ∧ (∀ q, p = some q → q.start < b.start) ∧ (lf pw W k (some b) l).code = 0 := by
      cases p with
      | none =>
        simp only [lf]
        split
        · rename_i h; simp [h]
        · rename_i h; simp [h]
      | some q =>
        simp only [lf]
        split
        · rename_i h; simp [h]
        · rename_i h
          split
          · rename_i h2
            constructor
            · intro h3; cases h3
            · rintro ⟨_, h3, _⟩
              have := h3 q rfl
              omega
          · rename_i h2
            exact ⟨fun h3 => ⟨h, fun q' e => by cases e; omega, h3⟩, fun ⟨_, _, h3⟩ => h3⟩
    rw [key, ih (some b)]
    constructor
    · rintro ⟨h1, h2, h3, h4, h5⟩
      refine ⟨fun c hc => ?_, List.pairwise_cons.2 ⟨fun c hc => h5 b rfl c hc, h4⟩, fun q hq c hc => ?_⟩
      · rcases List.mem_cons.1 hc with rfl | hc
        · exact h1
        · exact h3 c hc
      · have := h2 q hq
        rcases List.mem_cons.1 hc with rfl | hc
        · exact this
        · have := h5 b rfl c hc; omega
    · rintro ⟨h1, h2, h3⟩
      obtain ⟨h4, h5⟩ := List.pairwise_cons.1 h2
      exact ⟨h1 b (by simp), fun q hq => h3 q hq b (by simp), fun c hc => h1 c (by simp [hc]), h5, fun q hq c hc => by cases hq; exact h4 c hc⟩
theorem lf_congr {pw pw' : Int → Bool} (W k : Int) (l : List BlockD) (h : ∀ b ∈ l, pw b.size = pw' b.size) : ∀ p, lf pw W k p l = lf pw' W k p l := by
  induction l with
  | nil => intro p; cases p <;> rfl
  | cons b l ih =>
    intro p
    have hb := h b (by simp)
    have ih' := ih (fun c hc => h c (by simp [hc])) (some b)
    cases p with
    | none => simp only [lf, badW, hb, ih']
    | some q => simp only [lf, badW, hb, ih']
/-! ### Valid spaces -/
structure VS (s : SpD) (W : Int) : Prop where
  hb : 0 ≤ s.bits ∧ s.bits ≤ 30
  hW : W = 2 ^ s.bits.toNat
  len : s.used.length + s.free.length ≤ 5000
  al : ∀ b ∈ s.used ++ s.free, AL W b
  su : Srt s.used
  sf : Srt s.free
  tile : Tile 0 W (s.used ++ s.free)
  nm : ∀ b ∈ s.free, b.size < W → mateR b ∉ s.free
theorem W_bound {bits : Int} (hb : 0 ≤ bits ∧ bits ≤ 30) : (1 : Int) ≤ 2 ^ bits.toNat ∧ (2 : Int) ^ bits.toNat ≤ 1073741824 := by
  refine ⟨Int.pow_pos (by omega), ?_⟩
  have : (2 : Int) ^ bits.toNat ≤ 2 ^ 30 := by exact_mod_cast Nat.pow_le_pow_right (by omega) (show bits.toNat ≤ 30 by omega)
  omega
theorem VS.w {s : SpD} {W : Int} (h : VS s W) : 1 ≤ W ∧ W ≤ 1073741824 := by rw [h.hW]; exact W_bound h.hb
theorem any_matedR {W : Int} {l : List BlockD} : l.any (matedR W l) = true ↔ ∃ b ∈ l, b.size < W ∧ mateR b ∈ l := by
  simp only [List.any_eq_true, matedR, Bool.and_eq_true, decide_eq_true_eq]
  exact ⟨fun ⟨b, h1, h2, h3⟩ => ⟨b, h1, h2, (ixFrom_nn _ _ 0).1.1 h3⟩, fun ⟨b, h1, h2, h3⟩ => ⟨b, h1, h2, (ixFrom_nn _ _ 0).1.2 h3⟩⟩
theorem faultR_zero (s : SpD) : (faultR s).code = 0 ↔ VS s (2 ^ s.bits.toNat) := by
  unfold faultR
  split
  · rename_i h
    exact ⟨fun h0 => (by cases h0), fun h0 => by have := h0.hb; have := h0.len; omega⟩
  · rename_i h
    have hb : 0 ≤ s.bits ∧ s.bits ≤ 30 := by omega
    obtain ⟨hw1, hw2⟩ := W_bound hb
    generalize hW : (2 : Int) ^ s.bits.toNat = W at hw1 hw2 ⊢
    have o1 := lf_ok powR W 0 s.used none
    have o2 := lf_ok powR W 1 s.free none
    split
    · rename_i h1
      refine ⟨fun h0 => absurd h0 h1, fun h0 => absurd (o1.2 ⟨fun b hb => (bad_al b hw2).2 (h0.al b (List.mem_append.2 (.inl hb))), h0.su, fun q hq => by cases hq⟩) h1⟩
    · rename_i h1
      replace h1 := o1.1 (Decidable.not_not.1 h1)
      split
      · rename_i h2
        refine ⟨fun h0 => absurd h0 h2, fun h0 => absurd (o2.2 ⟨fun b hb => (bad_al b hw2).2 (h0.al b (List.mem_append.2 (.inr hb))), h0.sf, fun q hq => by cases hq⟩) h2⟩
      · rename_i h2
        replace h2 := o2.1 (Decidable.not_not.1 h2)
        have hal : ∀ b ∈ s.used ++ s.free, AL W b := fun b hb => (List.mem_append.1 hb).elim (fun hb => (bad_al b hw2).1 (h1.1 b hb)) (fun hb => (bad_al b hw2).1 (h2.1 b hb))
        have hp : Pos (s.used ++ s.free) := fun b hb => (hal b hb).pos.1
        have hm := merge_iff _ 0 W s.used s.free rfl hp h1.2.1 h2.2.1
        split
        · rename_i h3
          exact ⟨fun h0 => (by cases h0), fun h0 => absurd (hm.2 h0.tile) h3⟩
        · rename_i h3
          replace h3 := hm.1 (Decidable.not_not.1 h3)
          split
          · rename_i h4
            obtain ⟨b, h5, h6, h7⟩ := any_matedR.1 h4
            exact ⟨fun h0 => (by cases h0), fun h0 => absurd h7 (h0.nm b h5 h6)⟩
          · rename_i h4
            exact ⟨fun _ => ⟨hb, hW.symm, by omega, hal, h1.2.1, h2.2.1, h3, fun b h5 h6 h7 => h4 (any_matedR.2 ⟨b, h5, h6, h7⟩)⟩, fun _ => rfl⟩
theorem checkP_eq (s : SpD) (l' : List BlockD) (hr : ∀ b ∈ s.used ++ s.free, BR b) (hp' : l'.Perm (s.used ++ s.free)) (hs' : l'.Pairwise (fun a b => a.start ≤ b.start)) : checkP s l' = faultR s := by
  unfold checkP faultR
  split
  · rfl
  · rename_i h
    have hb : 0 ≤ s.bits ∧ s.bits ≤ 30 := by omega
    obtain ⟨hw1, hw2⟩ := W_bound hb
    have hsh : shlI 1 s.bits = 2 ^ s.bits.toNat := shlI_one (by omega)
    generalize hW : (2 : Int) ^ s.bits.toNat = W at hw1 hw2 hsh ⊢
    have c1 := lf_congr (pw := powP) (pw' := powR) W 0 s.used (fun b hb => powP_eq _ (hr b (List.mem_append.2 (.inl hb))).2.2) none
    have c2 := lf_congr (pw := powP) (pw' := powR) W 1 s.free (fun b hb => powP_eq _ (hr b (List.mem_append.2 (.inr hb))).2.2) none
    rw [c1, c2]
    have o1 := lf_ok powR W 0 s.used none
    have o2 := lf_ok powR W 1 s.free none
    split
    · rfl
    · rename_i h1
      replace h1 := o1.1 (Decidable.not_not.1 h1)
      split
      · rfl
      · rename_i h2
        replace h2 := o2.1 (Decidable.not_not.1 h2)
        have hal : ∀ b ∈ s.used ++ s.free, AL W b := fun b hb => (List.mem_append.1 hb).elim (fun hb => (bad_al b hw2).1 (h1.1 b hb)) (fun hb => (bad_al b hw2).1 (h2.1 b hb))
        have hp : Pos (s.used ++ s.free) := fun b hb => (hal b hb).pos.1
        have hm := merge_iff _ 0 W s.used s.free rfl hp h1.2.1 h2.2.1
        have hc := chain_iff l' 0 W (fun b hb => hp b (hp'.mem_iff.1 hb)) hs'
        have hmc : chainP 0 l' = some W ↔ mergeR (s.used.length + s.free.length) 0 s.used s.free = some W := by
          rw [hm, hc]; exact ⟨fun h => h.perm hp', fun h => h.perm hp'.symm⟩
        have hany : s.free.any (mated s.bits s.free) = s.free.any (matedR W s.free) := by
          rw [Bool.eq_iff_iff, any_matedR]
          simp only [List.any_eq_true, mated, Bool.and_eq_true, decide_eq_true_eq, hsh]
          constructor
          · rintro ⟨b, h5, h6, h7⟩
            exact ⟨b, h5, h6, by rw [← mate_eq (hal b (List.mem_append.2 (.inr h5))) hw2]; exact h7⟩
          · rintro ⟨b, h5, h6, h7⟩
            exact ⟨b, h5, h6, by rw [mate_eq (hal b (List.mem_append.2 (.inr h5))) hw2]; exact h7⟩
        rw [hany]
        by_cases hq : chainP 0 l' = some W
        · have hq2 := hmc.1 hq
          simp only [hq, hq2, ne_eq, not_true_eq_false, if_false]
        · have hq2 : ¬ mergeR (s.used.length + s.free.length) 0 s.used s.free = some W := fun h => hq (hmc.2 h)
          simp only [hq, hq2, ne_eq, not_false_eq_true, if_true]
end Go.Proofs.Ytpkigjlnbfgjcaa
