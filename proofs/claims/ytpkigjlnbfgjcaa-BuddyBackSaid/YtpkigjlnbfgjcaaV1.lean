/- Powers of two, mates: plain laws. -/
import Derived.Test.YtpkigjlnbfgjcaaUA
namespace Go.Proofs.Ytpkigjlnbfgjcaa
open Go.TM
theorem and_eq {n : Int} (h : 0 < n ∧ n ≤ 9223372036854775807) : andI n (n - 1) = ((n.toNat &&& (n.toNat - 1) : Nat) : Int) := by
  obtain ⟨m, rfl⟩ : ∃ m : Nat, n = m := ⟨n.toNat, by omega⟩
  have e1 : (BitVec.ofInt 64 (m : Int)).toNat = m := by
    rw [BitVec.toNat_ofInt]
    have : ((m : Int) % ((2 ^ 64 : Nat) : Int)) = m := Int.emod_eq_of_lt (by omega) (by omega)
    rw [this]; rfl
  have e2 : (BitVec.ofInt 64 ((m : Int) - 1)).toNat = m - 1 := by
    rw [BitVec.toNat_ofInt]
    have : (((m : Int) - 1) % ((2 ^ 64 : Nat) : Int)) = (m : Int) - 1 := Int.emod_eq_of_lt (by omega) (by omega)
    rw [this]; omega
  unfold andI
  rw [BitVec.toNat_and, e1, e2]
  have h3 : m &&& (m - 1) ≤ m := Nat.and_le_left
  rw [wrap64_id (by omega)]
  rfl
theorem pow_and (k : Nat) : 2 ^ k &&& (2 ^ k - 1) = 0 := by
  rw [Nat.and_two_pow_sub_one_eq_mod]; simp
theorem and_pow {m : Nat} (h0 : 0 < m) (h : m &&& (m - 1) = 0) : ∃ k, m = 2 ^ k := by
  refine ⟨m.log2, ?_⟩
  have h1 : 2 ^ m.log2 ≤ m := Nat.log2_self_le (by omega)
  have h2 : m < 2 ^ (m.log2 + 1) := Nat.lt_log2_self
  by_cases he : m = 2 ^ m.log2
  · exact he
  · exfalso
    have t1 : m.testBit m.log2 = true := by
      rw [Nat.testBit_eq_decide_div_mod_eq]
      have : m / 2 ^ m.log2 = 1 := by
        rw [Nat.div_eq_iff (Nat.pos_of_neZero _)]
        rw [Nat.pow_succ] at h2
        omega
      rw [this]; rfl
    have t2 : (m - 1).testBit m.log2 = true := by
      rw [Nat.testBit_eq_decide_div_mod_eq]
      have : (m - 1) / 2 ^ m.log2 = 1 := by
        rw [Nat.div_eq_iff (Nat.pos_of_neZero _)]
        rw [Nat.pow_succ] at h2
        omega
      rw [this]; rfl
    have := Nat.testBit_and m (m - 1) m.log2
    rw [h, t1, t2] at this
    simp at this
theorem powR_iff (n : Int) : powR n = true ↔ ∃ k, k ≤ 62 ∧ n = 2 ^ k := by
  simp only [powR, List.any_eq_true, List.mem_range, decide_eq_true_eq]
  exact ⟨fun ⟨k, h1, h2⟩ => ⟨k, by omega, h2.symm⟩, fun ⟨k, h1, h2⟩ => ⟨k, by omega, h2.symm⟩⟩
theorem powP_eq (n : Int) (h : n ≤ 9223372036854775807) : powP n = powR n := by
  rw [Bool.eq_iff_iff, powR_iff]
  simp only [powP, Bool.and_eq_true, decide_eq_true_eq]
  constructor
  · rintro ⟨h0, h1⟩
    rw [and_eq ⟨h0, h⟩] at h1
    obtain ⟨k, hk⟩ := and_pow (m := n.toNat) (by omega) (by exact_mod_cast h1)
    refine ⟨k, ?_, ?_⟩
    · rcases Nat.lt_or_ge 62 k with h2 | h2
      · exfalso
        have : (2 : Nat) ^ 63 ≤ 2 ^ k := Nat.pow_le_pow_right (by omega) h2
        omega
      · exact h2
    · have : ((n.toNat : Nat) : Int) = ((2 ^ k : Nat) : Int) := by rw [hk]
      rw [Int.toNat_of_nonneg (by omega)] at this
      rw [this]; simp
  · rintro ⟨k, hk, rfl⟩
    have h0 : (0 : Int) < 2 ^ k := Int.pow_pos (by omega)
    refine ⟨h0, ?_⟩
    rw [and_eq ⟨h0, h⟩]
    have : ((2 : Int) ^ k).toNat = 2 ^ k := by
      have : ((2 : Int) ^ k) = ((2 ^ k : Nat) : Int) := by simp
      rw [this, Int.toNat_natCast]
    rw [this, pow_and]; rfl
/-- A block in its place. -/
def AL (W : Int) (b : BlockD) : Prop := ∃ k : Nat, b.size = 2 ^ k ∧ 0 ≤ b.start ∧ b.start % b.size = 0 ∧ b.start + b.size ≤ W
theorem AL.pos {W : Int} {b : BlockD} (h : AL W b) : 0 < b.size ∧ 0 ≤ b.start ∧ b.start + b.size ≤ W := by
  obtain ⟨k, h1, h2, _, h4⟩ := h
  refine ⟨by rw [h1]; exact Int.pow_pos (by omega), h2, h4⟩
theorem AL.div {W : Int} {b : BlockD} (h : AL W b) : ∃ q : Int, 0 ≤ q ∧ b.start = q * b.size ∧ q = b.start / b.size := by
  obtain ⟨k, h1, h2, h3, h4⟩ := h
  have hp : (0 : Int) < b.size := by rw [h1]; exact Int.pow_pos (by omega)
  exact ⟨b.start / b.size, Int.ediv_nonneg h2 (by omega), (Int.ediv_mul_cancel (Int.dvd_of_emod_eq_zero h3)).symm, rfl⟩
theorem xor_one (q : Nat) : q ^^^ 1 = if q % 2 = 0 then q + 1 else q - 1 := by
  have h1 : (q ^^^ 1) / 2 = q / 2 := by
    have := Nat.xor_div_two (a := q) (b := 1)
    simpa using this
  have h2 : (q ^^^ 1) % 2 = (q % 2) ^^^ 1 := by
    have := Nat.xor_mod_two_pow (a := q) (b := 1) (n := 1)
    simpa using this
  rcases Nat.mod_two_eq_zero_or_one q with h | h
  · rw [h] at h2
    have h3 : (0 ^^^ 1 : Nat) = 1 := rfl
    rw [if_pos h]; omega
  · rw [h] at h2
    have h3 : (1 ^^^ 1 : Nat) = 0 := rfl
    rw [if_neg (by omega)]; omega
theorem xor_eq {a b : Nat} (ha : a < 2 ^ 62) (hb : b < 2 ^ 62) : xorI a b = ((a ^^^ b : Nat) : Int) := by
  have e (m : Nat) (h : m < 2 ^ 62) : (BitVec.ofInt 64 (m : Int)).toNat = m := by
    rw [BitVec.toNat_ofInt]
    have : ((m : Int) % ((2 ^ 64 : Nat) : Int)) = m := Int.emod_eq_of_lt (by omega) (by omega)
    rw [this]; rfl
  unfold xorI
  rw [BitVec.toNat_xor, e a ha, e b hb]
  have h3 : a ^^^ b < 2 ^ 62 := Nat.xor_lt_two_pow ha hb
  rw [wrap64_id (by omega)]
theorem mate_eq {W : Int} {b : BlockD} (h : AL W b) (hW : W ≤ 1073741824) : mateP b = mateR b := by
  obtain ⟨hp, h0, h1⟩ := h.pos
  obtain ⟨q, hq0, hq, hqd⟩ := h.div
  obtain ⟨k, hk, _, _, _⟩ := h
  have key : xorI b.start b.size = if q % 2 = 0 then b.start + b.size else b.start - b.size := by
    obtain ⟨Q, rfl⟩ : ∃ Q : Nat, q = Q := ⟨q.toNat, by omega⟩
    have es : b.size = ((2 ^ k : Nat) : Int) := by rw [hk]; simp
    have ea : b.start = ((Q * 2 ^ k : Nat) : Int) := by rw [hq, es]; simp
    have hb1 : Q * 2 ^ k < 2 ^ 62 := by omega
    have hb2 : 2 ^ k < 2 ^ 62 := by omega
    rw [ea, es, xor_eq hb1 hb2]
    have : Q * 2 ^ k ^^^ 2 ^ k = (Q ^^^ 1) * 2 ^ k := by
      have := Nat.shiftLeft_xor_distrib (a := Q) (b := 1) (i := k)
      rw [Nat.shiftLeft_eq, Nat.shiftLeft_eq, Nat.shiftLeft_eq, Nat.one_mul] at this
      exact this.symm
    rw [this, xor_one]
    by_cases hm : Q % 2 = 0
    · rw [if_pos hm, if_pos (by omega), Nat.add_mul]; simp
    · rw [if_neg hm, if_neg (by omega)]
      have : 1 ≤ Q := by omega
      rw [Nat.sub_mul, Nat.one_mul]
      have : 2 ^ k ≤ Q * 2 ^ k := Nat.le_mul_of_pos_left _ (by omega)
      omega
  unfold mateP mateR
  rw [key, hqd]
  split <;> rfl
end Go.Proofs.Ytpkigjlnbfgjcaa
