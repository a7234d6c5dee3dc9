/- Taken and given back: plain laws. -/
import Derived.Test.YtpkigjlnbfgjcaaW1
namespace Go.Proofs.Ytpkigjlnbfgjcaa
open Go.TM
theorem noB_withB {l : List BlockD} {b : BlockD} (h : b ∉ l) : noB (withB l b) b = l := by
  induction l with
  | nil => simp [withB, noB]
  | cons x l ih =>
    have hx : x ≠ b := fun e => h (by simp [e])
    have hl : b ∉ l := fun e => h (by simp [e])
    rw [withB]
    split
    · rw [noB_cons, if_pos rfl, noB_cons, if_neg hx, noB_of_not hl]
    · rw [noB_cons, if_neg hx, ih hl]
theorem SI.splits {W : Int} {used : List BlockD} {m : Nat} {st : Int} : ∀ (j : Nat) (f : List BlockD), SI W used f ⟨st, 2 ^ (m + j)⟩ → SI W used (splitL m st j f) ⟨st, 2 ^ m⟩
  | 0, f, h => h
  | j + 1, f, h => by
    have hz2 : (2 : Int) ^ (m + (j + 1)) = 2 * 2 ^ (m + j) := by rw [← Nat.add_assoc, Int.pow_succ, Int.mul_comm]
    rw [hz2] at h
    exact SI.splits j _ (h.split (k := m + j) rfl).2
theorem merge_split {W : Int} {used : List BlockD} {m : Nat} {st : Int} : ∀ (j : Nat) (f : List BlockD) (fuel : Nat), SI W used f ⟨st, 2 ^ (m + j)⟩ → mergeF (fuel + j) W (splitL m st j f) ⟨st, 2 ^ m⟩ = mergeF fuel W f ⟨st, 2 ^ (m + j)⟩
  | 0, f, fuel, h => rfl
  | j + 1, f, fuel, h => by
    have hz2 : (2 : Int) ^ (m + (j + 1)) = 2 * 2 ^ (m + j) := by rw [← Nat.add_assoc, Int.pow_succ, Int.mul_comm]
    rw [hz2] at h ⊢
    obtain ⟨hne, h2⟩ := h.split (k := m + j) rfl
    obtain ⟨m1, _, m3⟩ := mateR_left (k := m + j) rfl h.alb
    have hp := h.alb.pos
    have hz := pow_pos' (m + j)
    have ih := merge_split j (withB f ⟨st + 2 ^ (m + j), 2 ^ (m + j)⟩) (fuel + 1) h2
    rw [splitL, show fuel + (j + 1) = fuel + 1 + j by omega, ih, mergeF, if_pos ⟨by simp only at hp ⊢; omega, by rw [m1]; exact (withB_mem _ _ _).2 (.inl rfl)⟩, m1, m3, noB_withB (fun hm => hne _ hm rfl)]
theorem SI.merges {W : Int} {K : Nat} {used : List BlockD} (hW : W = 2 ^ K) : ∀ (k : Nat) (f : List BlockD) (b : BlockD), SI W used f b → W < b.size * 2 ^ k →
    SI W used (mergeF k W f b).1 (mergeF k W f b).2 ∧ ¬ ((mergeF k W f b).2.size < W ∧ mateR (mergeF k W f b).2 ∈ (mergeF k W f b).1) ∧ (mergeF k W f b).1.length ≤ f.length
  | 0, f, b, h, hb => ⟨h, fun hh => by have := hh.1; simp only [mergeF] at this; omega, Nat.le_refl _⟩
  | k + 1, f, b, h, hb => by
    rw [mergeF]
    split
    · rename_i hc
      have h2 := h.merge hW hc.1 hc.2
      have hl := noB_length h.sf hc.2
      obtain ⟨a1, a2, a3⟩ := SI.merges hW k _ _ h2 (by
        show W < 2 * b.size * 2 ^ k
        rw [Int.pow_succ, ← Int.mul_assoc] at hb
        rw [Int.mul_comm 2 b.size, Int.mul_assoc, Int.mul_comm 2, ← Int.mul_assoc]
        exact hb)
      exact ⟨a1, a2, by omega⟩
    · rename_i hc
      exact ⟨h, hc, Nat.le_refl _⟩
theorem mem_getD {l : List BlockD} {q : Nat} (h : q < l.length) : l.getD q default ∈ l := by rw [List.getD_eq_getElem?_getD, List.getElem?_eq_getElem h]; exact List.getElem_mem _
theorem mem_ix {l : List BlockD} {b : BlockD} (h : b ∈ l) : ∃ q, q < l.length ∧ l.getD q default = b := by
  obtain ⟨q, hq, e⟩ := List.mem_iff_getElem.1 h
  exact ⟨q, hq, by rw [List.getD_eq_getElem?_getD, List.getElem?_eq_getElem hq]; exact e⟩
/-- What Take takes. -/
structure Took (s : SpD) (W n : Int) (q m K : Nat) : Prop where
  best : IsBest s.free n q
  sz : IsSz n m
  le : m ≤ K
  size : (s.free.getD q default).size = 2 ^ K
  si : SI W s.used (noB s.free (s.free.getD q default)) ⟨(s.free.getD q default).start, 2 ^ (m + (K - m))⟩
  eq : takeT s n q = ⟨s.bits, withB s.used ⟨(s.free.getD q default).start, 2 ^ m⟩, splitL m (s.free.getD q default).start (K - m) (noB s.free (s.free.getD q default))⟩
theorem took {s : SpD} {W n : Int} {q : Nat} (hV : VS s W) (hn : n ≤ 1073741824) (hq : IsBest s.free n q) : ∃ m K, Took s W n q m K := by
  obtain ⟨m, hm, hm30⟩ := IsSz.ex hn
  have hBm := mem_getD hq.1
  obtain ⟨K, hK, _⟩ := hV.al _ (List.mem_append.2 (.inr hBm))
  have hmK : m ≤ K := hm.fit.1 (by rw [← hK]; exact hq.2.1)
  have hS := SI.start hV hBm
  refine ⟨m, K, hq, hm, hmK, hK, ?_, ?_⟩
  · rw [show m + (K - m) = K by omega, ← hK]; exact hS
  · rw [takeT, mOf_eq hm, hK, expOf_pow]
theorem take_valid {s : SpD} {W n : Int} {q : Nat} (hV : VS s W) (hn : n ≤ 1073741824) (hq : IsBest s.free n q) (hl : (takeT s n q).used.length + (takeT s n q).free.length ≤ 5000) : VS (takeT s n q) W := by
  obtain ⟨m, K, t⟩ := took hV hn hq
  have h := SI.splits _ _ t.si
  rw [t.eq] at hl ⊢
  have h3 : (withB s.used ⟨(s.free.getD q default).start, 2 ^ m⟩).length = s.used.length + 1 := withB_len _ _
  exact SI.toUsed (s := ⟨s.bits, s.used, splitL m (s.free.getD q default).start (K - m) (noB s.free (s.free.getD q default))⟩) h hV.hb hV.hW hV.su (by
    simp only at hl ⊢; omega)
theorem give_valid {s : SpD} {W : Int} {q : Nat} (hV : VS s W) (hq : q < s.used.length) : VS (giveT s q) W ∧ (giveT s q).used.length + 1 = s.used.length := by
  have hBm := mem_getD hq
  have hS := SI.startU hV hBm
  have hw := hV.w
  have hp := hS.alb.pos
  have hl := noB_length hV.su hBm
  obtain ⟨h1, h2, h3⟩ := SI.merges hV.hW 31 _ _ hS (by
    have : (2 : Int) ^ 31 = 2147483648 := by decide
    rw [this]; omega)
  have hlen := hV.len
  rw [giveT, ← hV.hW]
  refine ⟨SI.toFree (s := ⟨s.bits, noB s.used (s.used.getD q default), (mergeF 31 W s.free (s.used.getD q default)).1⟩) h1 hV.hb hV.hW (noB_srt hV.su _) (by simp only; omega) (fun h9 h10 => h2 ⟨h9, h10⟩), hl.symm⟩
theorem back {s : SpD} {W n : Int} {q : Nat} (hV : VS s W) (hn : n ≤ 1073741824) (hq : IsBest s.free n q) (hl : (takeT s n q).used.length + (takeT s n q).free.length ≤ 5000) :
    ∃ q', q' < (takeT s n q).used.length ∧ ((takeT s n q).used.getD q' default).start = (s.free.getD q default).start ∧ ixS (takeT s n q).used (s.free.getD q default).start = some q' ∧ giveT (takeT s n q) q' = s := by
  have hV2 := take_valid hV hn hq hl
  obtain ⟨m, K, t⟩ := took hV hn hq
  have hSI := SI.splits _ _ t.si
  have hBm := mem_getD hq.1
  obtain ⟨B, hB⟩ : ∃ B, B = s.free.getD q default := ⟨_, rfl⟩
  have hsize := t.size
  have heq := t.eq
  have hsi := t.si
  rw [← hB] at hsize heq hsi hSI hBm ⊢
  have hmem : (⟨B.start, 2 ^ m⟩ : BlockD) ∈ (takeT s n q).used := by rw [heq]; exact (withB_mem _ _ _).2 (.inl rfl)
  obtain ⟨q', h1, h2⟩ := mem_ix hmem
  have hix := ixS_some hV2.su h1 (show ((takeT s n q).used.getD q' default).start = B.start by rw [h2])
  refine ⟨q', h1, by rw [h2], hix, ?_⟩
  have hK30 : K ≤ 30 := by
    have hp := (hV.al _ (List.mem_append.2 (.inr hBm))).pos
    have hw := hV.w
    rw [hsize] at hp
    exact pow_le_pow_iff.1 (by show (2 : Int) ^ K ≤ 2 ^ 30; omega)
  have hms := merge_split (K - m) (noB s.free B) (31 - (K - m)) hsi
  rw [show 31 - (K - m) + (K - m) = 31 by omega, show m + (K - m) = K by have := t.le; omega] at hms
  have hBe : (⟨B.start, 2 ^ K⟩ : BlockD) = B := by cases B; simp only at hsize; rw [hsize]
  rw [hBe, mergeF_stop (fun hh => hV.nm B hBm hh.1 ((noB_mem _ _ _).1 hh.2).1)] at hms
  have hnu : (⟨B.start, 2 ^ m⟩ : BlockD) ∉ s.used := fun hm => hSI.ne.2 _ hm rfl
  rw [giveT, h2, heq]
  simp only
  rw [← hV.hW, hms, noB_withB hnu]
  have hfree : withB (noB s.free B) B = s.free := by
    refine srt_ext (withB_srt (noB_srt hV.sf B) fun x hx e => ?_) hV.sf ((withB_perm _ _).trans (noB_perm hV.sf hBm).symm)
    exact (SI.start hV hBm).ne.1 x hx e
  rw [hfree]
end Go.Proofs.Ytpkigjlnbfgjcaa
