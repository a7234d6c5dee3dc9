/- Lists of blocks; splitting and merging: plain laws. -/
import Derived.Test.YtpkigjlnbfgjcaaV2
namespace Go.Proofs.Ytpkigjlnbfgjcaa
open Go.TM
theorem withB_perm (l : List BlockD) (b : BlockD) : (withB l b).Perm (b :: l) := by
  induction l with
  | nil => exact List.Perm.refl _
  | cons x l ih =>
    rw [withB]
    split
    · exact List.Perm.refl _
    · exact (List.Perm.cons x ih).trans (List.Perm.swap b x l)
theorem withB_len (l : List BlockD) (b : BlockD) : (withB l b).length = l.length + 1 := by rw [(withB_perm l b).length_eq]; rfl
theorem withB_mem (l : List BlockD) (b x : BlockD) : x ∈ withB l b ↔ x = b ∨ x ∈ l := by rw [(withB_perm l b).mem_iff, List.mem_cons]
theorem withB_srt {l : List BlockD} {b : BlockD} (h : Srt l) (hne : ∀ x ∈ l, x.start ≠ b.start) : Srt (withB l b) := by
  induction l with
  | nil => exact List.pairwise_singleton _ _
  | cons x l ih =>
    obtain ⟨h1, h2⟩ := List.pairwise_cons.1 h
    have hx := hne x (by simp)
    rw [withB]
    split
    · rename_i hlt
      refine List.pairwise_cons.2 ⟨fun y hy => ?_, h⟩
      rcases List.mem_cons.1 hy with rfl | hy
      · exact hlt
      · have := h1 y hy; omega
    · rename_i hlt
      refine List.pairwise_cons.2 ⟨fun y hy => ?_, ih h2 (fun y hy => hne y (by simp [hy]))⟩
      rcases (withB_mem l b y).1 hy with rfl | hy
      · omega
      · exact h1 y hy
theorem srt_nodup {l : List BlockD} (h : Srt l) : l.Nodup := h.imp fun {a b} hab e => by rw [e] at hab; omega
theorem noB_srt {l : List BlockD} (h : Srt l) (b : BlockD) : Srt (noB l b) := List.Pairwise.filter _ h
theorem noB_mem (l : List BlockD) (b x : BlockD) : x ∈ noB l b ↔ x ∈ l ∧ x ≠ b := by simp [noB]
theorem noB_of_not {l : List BlockD} {b : BlockD} (h : b ∉ l) : noB l b = l := by
  unfold noB
  rw [List.filter_eq_self]
  intro x hx
  simp only [decide_eq_true_eq]
  rintro rfl; exact h hx
theorem noB_perm {l : List BlockD} {b : BlockD} (h : Srt l) (hb : b ∈ l) : l.Perm (b :: noB l b) := by
  induction l with
  | nil => cases hb
  | cons x l ih =>
    obtain ⟨h1, h2⟩ := List.pairwise_cons.1 h
    have hnd := (List.nodup_cons.1 (srt_nodup h)).1
    rw [noB_cons]
    by_cases hx : x = b
    · subst hx
      rw [if_pos rfl, noB_of_not hnd]
    · rw [if_neg hx]
      rcases List.mem_cons.1 hb with rfl | hb
      · exact absurd rfl hx
      · exact (List.Perm.cons x (ih h2 hb)).trans (List.Perm.swap b x _)
theorem noB_length {l : List BlockD} {b : BlockD} (h : Srt l) (hb : b ∈ l) : l.length = (noB l b).length + 1 := by rw [(noB_perm h hb).length_eq]; rfl
theorem erase_noB {l : List BlockD} (h : Srt l) : ∀ i, i < l.length → l.eraseIdx i = noB l (l.getD i default) := by
  induction l with
  | nil => intro i hi; simp at hi
  | cons x l ih =>
    intro i hi
    obtain ⟨h1, h2⟩ := List.pairwise_cons.1 h
    have hnd := (List.nodup_cons.1 (srt_nodup h)).1
    cases i with
    | zero => rw [noB_cons]; simp [noB_of_not hnd]
    | succ i =>
      have hi' : i < l.length := by simpa using hi
      have hm : l.getD i default ∈ l := by rw [List.getD_eq_getElem?_getD, List.getElem?_eq_getElem hi']; exact List.getElem_mem _
      rw [noB_cons, List.eraseIdx_cons_succ, ih h2 i hi', List.getD_cons_succ, if_neg (fun e : x = l.getD i default => hnd (by rw [e]; exact hm))]
theorem put_withB {l : List BlockD} {b : BlockD} (h : Srt l) (hne : ∀ x ∈ l, x.start ≠ b.start) : ∃ lb, lb ≤ l.length ∧ (∀ i, i < l.length → ((l.getD i default).start < b.start ↔ i < lb)) ∧ insB l lb b = withB l b := by
  induction l with
  | nil => exact ⟨0, Nat.le_refl _, fun i hi => by simp at hi, rfl⟩
  | cons x l ih =>
    obtain ⟨h1, h2⟩ := List.pairwise_cons.1 h
    have hx := hne x (by simp)
    by_cases hlt : b.start < x.start
    · refine ⟨0, Nat.zero_le _, fun i hi => ?_, ?_⟩
      · cases i with
        | zero => simp; omega
        | succ i =>
          have hi' : i < l.length := by simpa using hi
          have hm : l.getD i default ∈ l := by rw [List.getD_eq_getElem?_getD, List.getElem?_eq_getElem hi']; exact List.getElem_mem _
          have := h1 _ hm
          rw [List.getD_cons_succ]
          omega
      · rw [withB, if_pos hlt]; rfl
    · obtain ⟨lb, h3, h4, h5⟩ := ih h2 (fun y hy => hne y (by simp [hy]))
      refine ⟨lb + 1, by simp; omega, fun i hi => ?_, ?_⟩
      · cases i with
        | zero => simp; omega
        | succ i =>
          rw [List.getD_cons_succ, h4 i (by simpa using hi)]
          omega
      · rw [withB, if_neg hlt, ← h5]; rfl
theorem srt_ext {l l' : List BlockD} (h : Srt l) (h' : Srt l') (p : l.Perm l') : l = l' := by
  induction l generalizing l' with
  | nil => exact p.nil_eq
  | cons x l ih =>
    cases l' with
    | nil => exact absurd p.symm.nil_eq (by simp)
    | cons y l' =>
      obtain ⟨h1, h2⟩ := List.pairwise_cons.1 h
      obtain ⟨h3, h4⟩ := List.pairwise_cons.1 h'
      have hxy : x = y := by
        have m1 : x ∈ y :: l' := p.mem_iff.1 (by simp)
        have m2 : y ∈ x :: l := p.mem_iff.2 (by simp)
        rcases List.mem_cons.1 m1 with e | m1
        · exact e
        · rcases List.mem_cons.1 m2 with e | m2
          · exact e.symm
          · have := h1 y m2; have := h3 x m1; omega
      subst hxy
      rw [ih h2 h4 (List.Perm.cons_inv p)]
/-! ### What overlaps -/
theorem Tile.apart {a e : Int} {b : BlockD} {l : List BlockD} (h : Tile a e (b :: l)) {x : BlockD} (hx : x ∈ l) {y : Int} (h1 : has y b = true) (h2 : has y x = true) : False := by
  have h3 := h.2 y
  rw [cnt_cons, if_pos h1] at h3
  have := cnt_mem hx h2
  split at h3 <;> omega
theorem Tile.start_ne {a e : Int} {b : BlockD} {l : List BlockD} (h : Tile a e (b :: l)) (hp : Pos (b :: l)) : ∀ x ∈ l, x.start ≠ b.start := fun x hx he =>
  h.apart hx (has_start (hp b (by simp))) (by rw [← he]; exact has_start (hp x (by simp [hx])))
/-! ### Halves -/
theorem pow_pos' (k : Nat) : (0 : Int) < 2 ^ k := Int.pow_pos (by omega)
theorem AL.halves {W st z : Int} {k : Nat} (hz : z = 2 ^ k) (h : AL W ⟨st, 2 * z⟩) : AL W ⟨st, z⟩ ∧ AL W ⟨st + z, z⟩ := by
  obtain ⟨_, _, h2, h3, h4⟩ := h
  simp only at h2 h3 h4
  have hp : 0 < z := by rw [hz]; exact pow_pos' k
  have hd : z ∣ st := Int.dvd_trans ⟨2, by rw [Int.mul_comm]⟩ (Int.dvd_of_emod_eq_zero h3)
  refine ⟨⟨k, hz, h2, Int.emod_eq_zero_of_dvd hd, by show st + z ≤ W; omega⟩, ⟨k, hz, by show 0 ≤ st + z; omega, ?_, by show st + z + z ≤ W; omega⟩⟩
  exact Int.emod_eq_zero_of_dvd (Int.dvd_add hd (Int.dvd_refl z))
theorem has_halves (st z x : Int) (hz : 0 < z) : (if has x ⟨st, 2 * z⟩ then 1 else 0) = (if has x ⟨st, z⟩ then 1 else 0) + (if has x ⟨st + z, z⟩ then 1 else 0) := by
  simp only [has, Bool.and_eq_true, decide_eq_true_eq]
  by_cases h1 : st ≤ x ∧ x < st + z
  · rw [if_pos (by omega), if_pos h1, if_neg (by omega)]
  · by_cases h2 : st + z ≤ x ∧ x < st + z + z
    · rw [if_pos (by omega), if_neg h1, if_pos h2]
    · rw [if_neg (by omega), if_neg h1, if_neg h2]
theorem Tile.halves {a e st z : Int} {l : List BlockD} (hz : 0 < z) : Tile a e (⟨st, 2 * z⟩ :: l) ↔ Tile a e (⟨st, z⟩ :: ⟨st + z, z⟩ :: l) := by
  have key : ∀ x, cnt (⟨st, 2 * z⟩ :: l) x = cnt (⟨st, z⟩ :: ⟨st + z, z⟩ :: l) x := fun x => by
    rw [cnt_cons, cnt_cons, cnt_cons, has_halves st z x hz]; omega
  exact ⟨fun h => ⟨h.1, fun x => by rw [← key]; exact h.2 x⟩, fun h => ⟨h.1, fun x => by rw [key]; exact h.2 x⟩⟩
/-- The block that a block and its mate make. -/
def par (b : BlockD) : BlockD := ⟨min b.start (mateR b).start, 2 * b.size⟩
theorem mate_cases {W : Int} {b : BlockD} (h : AL W b) : (b.start / b.size % 2 = 0 ∧ mateR b = ⟨b.start + b.size, b.size⟩ ∧ par b = ⟨b.start, 2 * b.size⟩) ∨ (b.start / b.size % 2 = 1 ∧ mateR b = ⟨b.start - b.size, b.size⟩ ∧ par b = ⟨b.start - b.size, 2 * b.size⟩) := by
  have hp := h.pos
  by_cases hm : b.start / b.size % 2 = 0
  · have e : mateR b = ⟨b.start + b.size, b.size⟩ := by rw [mateR, if_pos hm]
    refine .inl ⟨hm, e, ?_⟩
    rw [par, e]; simp only [BlockD.mk.injEq, and_true]; omega
  · have e : mateR b = ⟨b.start - b.size, b.size⟩ := by rw [mateR, if_neg hm]
    refine .inr ⟨by omega, e, ?_⟩
    rw [par, e]; simp only [BlockD.mk.injEq, and_true]; omega
theorem AL.par {W : Int} {K : Nat} {b : BlockD} (hW : W = 2 ^ K) (h : AL W b) (hlt : b.size < W) : AL W (par b) := by
  obtain ⟨hp, h0, h1⟩ := h.pos
  obtain ⟨q, hq0, hq, hqd⟩ := h.div
  have hc := mate_cases h
  obtain ⟨k, hk, _, _, _⟩ := h
  have hkK : k < K := by
    rcases Nat.lt_or_ge k K with h2 | h2
    · exact h2
    · exfalso
      have : (2 : Int) ^ K ≤ 2 ^ k := by exact_mod_cast Nat.pow_le_pow_right (by omega) h2
      omega
  have hdW : 2 * b.size ∣ W := by
    rw [hW, hk]
    have : (2 : Int) * 2 ^ k = 2 ^ (k + 1) := by rw [Int.pow_succ, Int.mul_comm]
    rw [this]
    exact ⟨2 ^ (K - (k + 1)), by rw [← Int.pow_add]; congr 1; omega⟩
  obtain ⟨c, hc2⟩ := hdW
  have hsz : (2 : Int) * b.size = 2 ^ (k + 1) := by rw [hk, Int.pow_succ, Int.mul_comm]
  rw [← hqd] at hc
  have fin : ∀ st r : Int, 0 ≤ st → st = r * (2 * b.size) → st < W → AL W ⟨st, 2 * b.size⟩ := by
    intro st r h5 h6 h7
    refine ⟨k + 1, hsz, h5, by show st % (2 * b.size) = 0; rw [h6]; exact Int.mul_emod_left _ _, ?_⟩
    show st + 2 * b.size ≤ W
    have hlt2 : r * (2 * b.size) < c * (2 * b.size) := by rw [← h6, Int.mul_comm c, ← hc2]; exact h7
    have h8 : r < c := Int.lt_of_mul_lt_mul_right hlt2 (by omega)
    have h9 : (r + 1) * (2 * b.size) ≤ c * (2 * b.size) := Int.mul_le_mul_of_nonneg_right (by omega) (by omega)
    rw [Int.add_mul, Int.one_mul, ← h6, Int.mul_comm c, ← hc2] at h9
    exact h9
  rcases hc with ⟨hm, _, e⟩ | ⟨hm, _, e⟩
  · rw [e]
    refine fin _ (q / 2) h0 ?_ (by omega)
    have : q = q / 2 * 2 := by omega
    rw [hq, this, Int.mul_assoc]
    congr 1
    rw [show q / 2 * 2 / 2 = q / 2 by omega]
  · rw [e]
    have hq1 : 1 ≤ q := by omega
    have h5 : b.start - b.size = (q - 1) * b.size := by rw [Int.sub_mul, Int.one_mul, ← hq]
    have h6 : 0 ≤ (q - 1) * b.size := Int.mul_nonneg (by omega) (by omega)
    refine fin _ ((q - 1) / 2) (by omega) ?_ (by omega)
    have h7 : q - 1 = (q - 1) / 2 * 2 := by omega
    rw [h5]
    calc (q - 1) * b.size = ((q - 1) / 2 * 2) * b.size := by rw [← h7]
      _ = (q - 1) / 2 * (2 * b.size) := by rw [Int.mul_assoc]
theorem Tile.par {W a e : Int} {b : BlockD} {l : List BlockD} (h : AL W b) : Tile a e (b :: mateR b :: l) ↔ Tile a e (Go.Proofs.Ytpkigjlnbfgjcaa.par b :: l) := by
  have hp := h.pos
  rcases mate_cases h with ⟨_, e1, e2⟩ | ⟨_, e1, e2⟩
  · rw [e1, e2, Tile.halves hp.1]
  · rw [e1, e2, Tile.halves hp.1]
    have e3 : (⟨b.start - b.size + b.size, b.size⟩ : BlockD) = b := by cases b; simp
    rw [e3]
    exact ⟨fun h => h.perm (List.Perm.swap _ _ _), fun h => h.perm (List.Perm.swap _ _ _)⟩
theorem mateR_ne {W : Int} {b : BlockD} (h : AL W b) : mateR b ≠ b := by
  have hp := h.pos
  rcases mate_cases h with ⟨_, e1, _⟩ | ⟨_, e1, _⟩
  · intro e
    rw [e1] at e
    have : (⟨b.start + b.size, b.size⟩ : BlockD).start = b.start := by rw [e]
    simp only at this; omega
  · intro e
    rw [e1] at e
    have : (⟨b.start - b.size, b.size⟩ : BlockD).start = b.start := by rw [e]
    simp only at this; omega
end Go.Proofs.Ytpkigjlnbfgjcaa
