/- What Take and Give leave: plain laws. -/
import Derived.Test.YtpkigjlnbfgjcaaV3
namespace Go.Proofs.Ytpkigjlnbfgjcaa
open Go.TM
theorem mateR_invol {W : Int} {b : BlockD} (h : AL W b) : mateR (mateR b) = b := by
  obtain ⟨hp, h0, h1⟩ := h.pos
  obtain ⟨q, hq0, hq, hqd⟩ := h.div
  rcases mate_cases h with ⟨hm, e1, _⟩ | ⟨hm, e1, _⟩
  · rw [e1]
    have : (b.start + b.size) / b.size = q + 1 := by rw [hqd, Int.add_ediv_of_dvd_right (Int.dvd_refl _), Int.ediv_self (by omega)]
    unfold mateR
    simp only [this]
    rw [if_neg (by omega)]
    cases b; simp
  · rw [e1]
    have : (b.start - b.size) / b.size = q - 1 := by
      rw [hqd]
      have e : b.start - b.size = b.start + (-1) * b.size := by omega
      rw [e, Int.add_mul_ediv_right _ _ (by omega)]
      omega
    unfold mateR
    simp only [this]
    rw [if_pos (by omega)]
    cases b; simp
theorem mateR_size (b : BlockD) : (mateR b).size = b.size := by unfold mateR; split <;> rfl
theorem mateR_left {W st z : Int} {k : Nat} (hz : z = 2 ^ k) (h : AL W ⟨st, 2 * z⟩) : mateR ⟨st, z⟩ = ⟨st + z, z⟩ ∧ mateR ⟨st + z, z⟩ = ⟨st, z⟩ ∧ par ⟨st, z⟩ = ⟨st, 2 * z⟩ := by
  have hp : 0 < z := by rw [hz]; exact pow_pos' k
  obtain ⟨ha, hb⟩ := h.halves hz
  obtain ⟨q, hq0, hq, _⟩ := h.div
  simp only at hq
  have e0 : st / z = q * 2 := by
    rw [hq, ← Int.mul_assoc]
    exact Int.mul_ediv_cancel _ (by omega)
  have e1 : mateR ⟨st, z⟩ = ⟨st + z, z⟩ := by
    unfold mateR
    simp only [e0]
    rw [if_pos (by omega)]
  have e2 := mateR_invol ha
  rw [e1] at e2
  refine ⟨e1, e2, ?_⟩
  rw [par, e1]
  simp only [BlockD.mk.injEq, and_true]
  omega
/-- One block is out; the others. -/
structure SI (W : Int) (used f : List BlockD) (b : BlockD) : Prop where
  sf : Srt f
  alb : AL W b
  al : ∀ x ∈ used ++ f, AL W x
  tile : Tile 0 W (b :: (used ++ f))
  nm : ∀ x ∈ f, x.size < W → mateR x ∉ f
theorem SI.pos {W : Int} {used f : List BlockD} {b : BlockD} (h : SI W used f b) : Pos (b :: (used ++ f)) := fun x hx => by
  rcases List.mem_cons.1 hx with rfl | hx
  · exact h.alb.pos.1
  · exact (h.al x hx).pos.1
theorem SI.ne {W : Int} {used f : List BlockD} {b : BlockD} (h : SI W used f b) : (∀ x ∈ f, x.start ≠ b.start) ∧ ∀ x ∈ used, x.start ≠ b.start := by
  have := h.tile.start_ne h.pos
  exact ⟨fun x hx => this x (List.mem_append.2 (.inr hx)), fun x hx => this x (List.mem_append.2 (.inl hx))⟩
theorem SI.start {s : SpD} {W : Int} (h : VS s W) {B : BlockD} (hB : B ∈ s.free) : SI W s.used (noB s.free B) B := by
  have hp := noB_perm h.sf hB
  refine ⟨noB_srt h.sf B, h.al B (List.mem_append.2 (.inr hB)), fun x hx => ?_, ?_, fun x hx hlt hm => ?_⟩
  · rcases List.mem_append.1 hx with hx | hx
    · exact h.al x (List.mem_append.2 (.inl hx))
    · exact h.al x (List.mem_append.2 (.inr ((noB_mem _ _ _).1 hx).1))
  · refine h.tile.perm ?_
    exact (List.Perm.append_left s.used hp).trans List.perm_middle
  · exact h.nm x ((noB_mem _ _ _).1 hx).1 hlt ((noB_mem _ _ _).1 hm).1
theorem SI.startU {s : SpD} {W : Int} (h : VS s W) {B : BlockD} (hB : B ∈ s.used) : SI W (noB s.used B) s.free B := by
  have hp := noB_perm h.su hB
  refine ⟨h.sf, h.al B (List.mem_append.2 (.inl hB)), fun x hx => ?_, ?_, h.nm⟩
  · rcases List.mem_append.1 hx with hx | hx
    · exact h.al x (List.mem_append.2 (.inl ((noB_mem _ _ _).1 hx).1))
    · exact h.al x (List.mem_append.2 (.inr hx))
  · exact h.tile.perm (List.Perm.append_right s.free hp)
theorem SI.split {W st z : Int} {k : Nat} {used f : List BlockD} (hz : z = 2 ^ k) (h : SI W used f ⟨st, 2 * z⟩) : (∀ x ∈ f, x.start ≠ st + z) ∧ SI W used (withB f ⟨st + z, z⟩) ⟨st, z⟩ := by
  have hp : 0 < z := by rw [hz]; exact pow_pos' k
  obtain ⟨h1, h2⟩ := h.alb.halves hz
  obtain ⟨m1, m2, _⟩ := mateR_left hz h.alb
  have ht : Tile 0 W (⟨st, z⟩ :: ⟨st + z, z⟩ :: (used ++ f)) := (Tile.halves hp).1 h.tile
  have hover : ∀ x ∈ f, x ≠ ⟨st, z⟩ := fun x hx e => h.tile.apart (x := x) (List.mem_append.2 (.inr hx)) (y := st) ((has_iff _ _).2 ⟨Int.le_refl _, by show st < st + 2 * z; omega⟩) (by rw [e]; exact (has_iff _ _).2 ⟨Int.le_refl _, by show st < st + z; omega⟩)
  have hne : ∀ x ∈ f, x.start ≠ st + z := by
    have ht2 : Tile 0 W (⟨st + z, z⟩ :: ⟨st, z⟩ :: (used ++ f)) := ht.perm (List.Perm.swap _ _ _)
    intro x hx
    exact ht2.start_ne (fun y hy => by
      rcases List.mem_cons.1 hy with rfl | hy
      · exact hp
      · rcases List.mem_cons.1 hy with rfl | hy
        · exact hp
        · exact (h.al y hy).pos.1) x (List.mem_cons.2 (.inr (List.mem_append.2 (.inr hx))))
  refine ⟨hne, withB_srt h.sf hne, h1, fun x hx => ?_, ?_, fun x hx hlt hm => ?_⟩
  · rcases List.mem_append.1 hx with hx | hx
    · exact h.al x (List.mem_append.2 (.inl hx))
    · rcases (withB_mem _ _ _).1 hx with rfl | hx
      · exact h2
      · exact h.al x (List.mem_append.2 (.inr hx))
  · refine ht.perm (List.Perm.cons _ ?_)
    exact (List.perm_middle.symm).trans (List.Perm.append_left used (withB_perm f _).symm)
  · rcases (withB_mem _ _ _).1 hx with rfl | hx
    · rw [m2] at hm
      rcases (withB_mem _ _ _).1 hm with e | hm
      · have : (⟨st, z⟩ : BlockD).start = (⟨st + z, z⟩ : BlockD).start := by rw [e]
        simp only at this; omega
      · exact hover _ hm rfl
    · rcases (withB_mem _ _ _).1 hm with e | hm
      · have := mateR_invol (h.al x (List.mem_append.2 (.inr hx)))
        rw [e, m2] at this
        exact hover x hx this.symm
      · exact h.nm x hx hlt hm
theorem SI.merge {W : Int} {K : Nat} {used f : List BlockD} {b : BlockD} (hW : W = 2 ^ K) (h : SI W used f b) (hlt : b.size < W) (hm : mateR b ∈ f) : SI W used (noB f (mateR b)) (par b) := by
  have hp := noB_perm h.sf hm
  refine ⟨noB_srt h.sf _, AL.par hW h.alb hlt, fun x hx => ?_, ?_, fun x hx hlt hm => h.nm x ((noB_mem _ _ _).1 hx).1 hlt ((noB_mem _ _ _).1 hm).1⟩
  · rcases List.mem_append.1 hx with hx | hx
    · exact h.al x (List.mem_append.2 (.inl hx))
    · exact h.al x (List.mem_append.2 (.inr ((noB_mem _ _ _).1 hx).1))
  · rw [← Tile.par h.alb]
    exact h.tile.perm (List.Perm.cons _ ((List.Perm.append_left used hp).trans List.perm_middle))
/-- The block goes to the used ones. -/
theorem SI.toUsed {s : SpD} {W : Int} {b : BlockD} (h : SI W s.used s.free b) (hb : 0 ≤ s.bits ∧ s.bits ≤ 30) (hW : W = 2 ^ s.bits.toNat) (hu : Srt s.used) (hl : s.used.length + s.free.length + 1 ≤ 5000) : VS ⟨s.bits, withB s.used b, s.free⟩ W := by
  refine ⟨hb, hW, by show (withB s.used b).length + s.free.length ≤ 5000; rw [withB_len]; omega, fun x hx => ?_, withB_srt hu h.ne.2, h.sf, ?_, h.nm⟩
  · rcases List.mem_append.1 hx with hx | hx
    · rcases (withB_mem _ _ _).1 hx with e | hx
      · rw [e]; exact h.alb
      · exact h.al x (List.mem_append.2 (.inl hx))
    · exact h.al x (List.mem_append.2 (.inr hx))
  · exact h.tile.perm (List.Perm.append_right s.free (withB_perm s.used b).symm)
/-- The block goes to the free ones. -/
theorem SI.toFree {s : SpD} {W : Int} {b : BlockD} (h : SI W s.used s.free b) (hb : 0 ≤ s.bits ∧ s.bits ≤ 30) (hW : W = 2 ^ s.bits.toNat) (hu : Srt s.used) (hl : s.used.length + s.free.length + 1 ≤ 5000) (hno : b.size < W → mateR b ∉ s.free) : VS ⟨s.bits, s.used, withB s.free b⟩ W := by
  refine ⟨hb, hW, by show s.used.length + (withB s.free b).length ≤ 5000; rw [withB_len]; omega, fun x hx => ?_, hu, withB_srt h.sf h.ne.1, ?_, fun x hx hlt hm => ?_⟩
  · rcases List.mem_append.1 hx with hx | hx
    · exact h.al x (List.mem_append.2 (.inl hx))
    · rcases (withB_mem _ _ _).1 hx with e | hx
      · rw [e]; exact h.alb
      · exact h.al x (List.mem_append.2 (.inr hx))
  · exact h.tile.perm ((List.perm_middle.symm).trans (List.Perm.append_left s.used (withB_perm s.free b).symm))
  · rcases (withB_mem _ _ _).1 hx with rfl | hx
    · rcases (withB_mem _ _ _).1 hm with e | hm
      · exact mateR_ne h.alb e
      · exact hno hlt hm
    · rcases (withB_mem _ _ _).1 hm with e | hm
      · have hi := mateR_invol (h.al x (List.mem_append.2 (.inr hx)))
        rw [e] at hi
        have hs : x.size = b.size := by rw [← e, mateR_size]
        exact hno (by omega) (by rw [hi]; exact hx)
      · exact h.nm x hx hlt hm
/-! ### Which block; how large -/
def IsBest (l : List BlockD) (n : Int) (i : Nat) : Prop := i < l.length ∧ n ≤ (l.getD i default).size ∧ (∀ j, j < l.length → n ≤ (l.getD j default).size → (l.getD i default).size ≤ (l.getD j default).size) ∧ ∀ j, j < i → (l.getD j default).size ≠ (l.getD i default).size
theorem IsBest.uniq {l : List BlockD} {n : Int} {i j : Nat} (h : IsBest l n i) (h' : IsBest l n j) : i = j := by
  obtain ⟨a1, a2, a3, a4⟩ := h
  obtain ⟨b1, b2, b3, b4⟩ := h'
  have e1 := a3 j b1 b2
  have e2 := b3 i a1 a2
  have e : (l.getD i default).size = (l.getD j default).size := by omega
  rcases Nat.lt_trichotomy i j with h | h | h
  · exact absurd e (b4 i h)
  · exact h
  · exact absurd e.symm (a4 j h)
open Classical in
noncomputable def bestI (l : List BlockD) (n : Int) : Option Nat := if h : ∃ i, IsBest l n i then some (Classical.choose h) else none
theorem bestI_some {l : List BlockD} {n : Int} {i : Nat} (h : IsBest l n i) : bestI l n = some i := by
  have hx : ∃ i, IsBest l n i := ⟨i, h⟩
  rw [bestI, dif_pos hx, (Classical.choose_spec hx).uniq h]
theorem bestI_is {l : List BlockD} {n : Int} {i : Nat} (h : bestI l n = some i) : IsBest l n i := by
  unfold bestI at h
  split at h
  · rename_i hx; cases h; exact Classical.choose_spec hx
  · cases h
theorem bestI_none {l : List BlockD} {n : Int} (h : ∀ j, j < l.length → (l.getD j default).size < n) : bestI l n = none := by
  rw [bestI, dif_neg]
  rintro ⟨i, h1, h2, _⟩
  have := h i h1; omega
def IsSz (n : Int) (m : Nat) : Prop := n ≤ 2 ^ m ∧ ∀ m', m' < m → (2 : Int) ^ m' < n
theorem pow_le_pow_iff {a b : Nat} : (2 : Int) ^ a ≤ 2 ^ b ↔ a ≤ b := by
  constructor
  · intro h
    rcases Nat.lt_or_ge b a with h1 | h1
    · exfalso
      have h2 : (2 : Int) ^ (b + 1) ≤ 2 ^ a := by exact_mod_cast Nat.pow_le_pow_right (by omega) h1
      have := pow_pos' b
      rw [Int.pow_succ] at h2
      omega
    · exact h1
  · intro h; exact_mod_cast Nat.pow_le_pow_right (by omega) h
theorem IsSz.uniq {n : Int} {m m' : Nat} (h : IsSz n m) (h' : IsSz n m') : m = m' := by
  rcases Nat.lt_trichotomy m m' with h1 | h1 | h1
  · have := h'.2 m h1; have := h.1; omega
  · exact h1
  · have := h.2 m' h1; have := h'.1; omega
theorem IsSz.ex {n : Int} (h : n ≤ 1073741824) : ∃ m, IsSz n m ∧ m ≤ 30 := by
  have key : ∀ k, (∀ m', m' < k → (2 : Int) ^ m' < n) → k ≤ 30 → ∃ m, IsSz n m ∧ m ≤ 30 := by
    intro k
    generalize hd : 30 - k = d
    induction d generalizing k with
    | zero =>
      intro h1 h2
      exact ⟨k, ⟨by have : k = 30 := by omega
                    subst this; simpa using h, h1⟩, h2⟩
    | succ d ih =>
      intro h1 h2
      by_cases h3 : n ≤ 2 ^ k
      · exact ⟨k, ⟨h3, h1⟩, h2⟩
      · refine ih (k + 1) (by omega) (fun m' hm => ?_) (by omega)
        rcases Nat.lt_or_ge m' k with h4 | h4
        · exact h1 m' h4
        · have : m' = k := by omega
          subst this; omega
  exact key 0 (fun m' hm => by omega) (by omega)
open Classical in
noncomputable def mOf (n : Int) : Nat := if h : ∃ m, IsSz n m then Classical.choose h else 0
theorem mOf_eq {n : Int} {m : Nat} (h : IsSz n m) : mOf n = m := by
  have hx : ∃ m, IsSz n m := ⟨m, h⟩
  rw [mOf, dif_pos hx, (Classical.choose_spec hx).uniq h]
/-- n units fit a block of 2^k just where their own size does. -/
theorem IsSz.fit {n : Int} {m k : Nat} (h : IsSz n m) : n ≤ 2 ^ k ↔ m ≤ k := by
  constructor
  · intro h1
    rcases Nat.lt_or_ge k m with h2 | h2
    · have := h.2 k h2; omega
    · exact h2
  · intro h1
    have := pow_le_pow_iff.2 h1
    have := h.1; omega
def splitL (m : Nat) (st : Int) : Nat → List BlockD → List BlockD
  | 0, f => f
  | j + 1, f => splitL m st j (withB f ⟨st + 2 ^ (m + j), 2 ^ (m + j)⟩)
def expOf (x : Int) : Nat := x.toNat.log2
theorem expOf_pow (k : Nat) : expOf (2 ^ k) = k := by
  have : ((2 : Int) ^ k).toNat = 2 ^ k := by
    have : ((2 : Int) ^ k) = ((2 ^ k : Nat) : Int) := by simp
    rw [this, Int.toNat_natCast]
  rw [expOf, this, Nat.log2_two_pow]
noncomputable def takeT (s : SpD) (n : Int) (i : Nat) : SpD :=
  ⟨s.bits, withB s.used ⟨(s.free.getD i default).start, 2 ^ mOf n⟩, splitL (mOf n) (s.free.getD i default).start (expOf (s.free.getD i default).size - mOf n) (noB s.free (s.free.getD i default))⟩
def sp0 : SpD := ⟨0, [], []⟩
noncomputable def takeV (s : SpD) (n : Int) : SpD × Int × FaultD :=
  if (faultR s).code ≠ 0 then (sp0, 0, faultR s)
  else if n < 1 ∨ 1073741824 < n then (sp0, 0, ⟨3, -1⟩)
  else match bestI s.free n with
    | none => (sp0, 0, ⟨6, 0⟩)
    | some i => if 5000 < (takeT s n i).used.length + (takeT s n i).free.length then (sp0, 0, ⟨9, 0⟩) else (takeT s n i, (s.free.getD i default).start, ⟨0, 0⟩)
def mergeF : Nat → Int → List BlockD → BlockD → List BlockD × BlockD
  | 0, _, f, b => (f, b)
  | k + 1, W, f, b => if b.size < W ∧ mateR b ∈ f then mergeF k W (noB f (mateR b)) (par b) else (f, b)
def giveT (s : SpD) (i : Nat) : SpD :=
  ⟨s.bits, noB s.used (s.used.getD i default), withB (mergeF 31 (2 ^ s.bits.toNat) s.free (s.used.getD i default)).1 (mergeF 31 (2 ^ s.bits.toNat) s.free (s.used.getD i default)).2⟩
open Classical in
noncomputable def ixS (l : List BlockD) (st : Int) : Option Nat := if h : ∃ i, i < l.length ∧ (l.getD i default).start = st then some (Classical.choose h) else none
noncomputable def giveV (s : SpD) (st : Int) : SpD × FaultD :=
  if (faultR s).code ≠ 0 then (sp0, faultR s)
  else match ixS s.used st with
    | none => (sp0, ⟨6, 0⟩)
    | some i => (giveT s i, ⟨0, 0⟩)
theorem srt_getD {l : List BlockD} (h : Srt l) {i j : Nat} (hij : i < j) (hj : j < l.length) : (l.getD i default).start < (l.getD j default).start := by
  have := List.pairwise_iff_getElem.1 h i j (by omega) hj hij
  simpa [List.getD, hj, show i < l.length by omega] using this
theorem ixS_some {l : List BlockD} (h : Srt l) {st : Int} {i : Nat} (hi : i < l.length) (he : (l.getD i default).start = st) : ixS l st = some i := by
  have hx : ∃ i, i < l.length ∧ (l.getD i default).start = st := ⟨i, hi, he⟩
  rw [ixS, dif_pos hx]
  obtain ⟨h1, h2⟩ := Classical.choose_spec hx
  generalize Classical.choose hx = j at h1 h2
  congr 1
  rcases Nat.lt_trichotomy i j with h3 | h3 | h3
  · have := srt_getD h h3 h1; omega
  · exact h3.symm
  · have := srt_getD h h3 hi; omega
theorem ixS_none {l : List BlockD} {st : Int} (h : ∀ i, i < l.length → (l.getD i default).start ≠ st) : ixS l st = none := by
  rw [ixS, dif_neg]; rintro ⟨i, h1, h2⟩; exact h i h1 h2
end Go.Proofs.Ytpkigjlnbfgjcaa
