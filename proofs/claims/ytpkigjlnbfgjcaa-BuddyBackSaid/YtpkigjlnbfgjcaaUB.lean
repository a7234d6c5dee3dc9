/- Take. -/
import Derived.Test.YtpkigjlnbfgjcaaV4
namespace Go.Proofs.Ytpkigjlnbfgjcaa
open Go.TM
open Go.TM.Cell (enc)
set_option maxRecDepth 20000
set_option maxHeartbeats 4000000
variable {H : Heap}
theorem del_spec {B : Nat} {v : Value} {l : List BlockD} (o : Own H B 51 v l) (hs : Srt l) (i : Nat) (hi : i < l.length) (hn : l.length ≤ 1000000) :
    CallsH PG 56 #[v, .int .i64 i, .int .i64 (i + 1)] H fun r H' => Own H' B 51 r (noB l (l.getD i default)) ∧ Mut (fO v) H H' ∧ (∀ k, fO r k → fO v k ∨ H.size ≤ k) :=
  (delete_spec o i hi hn).mono fun r H' ⟨h1, h2, h3⟩ => ⟨by rw [← erase_noB hs i hi]; exact h1, h2, fun k hk => .inl (h3 k hk)⟩
theorem putS_spec {B : Nat} {v : Value} {l : List BlockD} (o : Own H B 51 v l) (hs : Srt l) (b : BlockD) (hne : ∀ x ∈ l, x.start ≠ b.start) (hB : B ≤ H.size) (hn : l.length ≤ 1000000) :
    CallsH PG 57 #[v, b.val] H fun r H' => Own H' B 51 r (withB l b) ∧ Mut (fO v) H H' ∧ (∀ k, fO r k → fO v k ∨ H.size ≤ k) := by
  obtain ⟨lb, h1, h2, h3⟩ := put_withB hs hne
  exact (put_spec o hB b lb h1 h2 hn).mono fun r H' ⟨h4, h5, h6⟩ => ⟨by rw [← h3]; exact h4, h5, h6⟩
theorem bcheck_spec {hu hf : Hdr} {s : SpD} (h1 : SlE H hu.val s.used) (h2 : SlE H hf.val s.free) (hb : R64x s.bits) (hn : s.used.length ≤ 1000000 ∧ s.free.length ≤ 1000000) (hr : ∀ b ∈ s.used ++ s.free, BR b) :
    CallsH PG 21 #[SpV s.bits hu hf] H fun v H' => v = (faultR s).val ∧ Ext H H' :=
  (check_walk h1 h2 hb hn hr).mono fun v H' ⟨⟨l', p1, p2, e⟩, hE⟩ => ⟨by rw [e, checkP_eq s l' hr p1 p2], hE⟩
def BestUp (l : List BlockD) (z : Int) (i : Nat) (bv : Int) : Prop :=
  (bv = -1 ∧ ∀ j, j < i → (l.getD j default).size < z) ∨
  ∃ k : Nat, bv = k ∧ k < i ∧ z ≤ (l.getD k default).size ∧ (∀ j, j < i → z ≤ (l.getD j default).size → (l.getD k default).size ≤ (l.getD j default).size) ∧ ∀ j, j < k → z ≤ (l.getD j default).size → (l.getD k default).size < (l.getD j default).size
theorem BestUp.rng {l : List BlockD} {z : Int} {i : Nat} {bv : Int} (h : BestUp l z i bv) : bv = -1 ∨ (0 ≤ bv ∧ bv < i) := by
  rcases h with ⟨h, _⟩ | ⟨k, h1, h2, _⟩
  · exact .inl h
  · exact .inr (by omega)
theorem BestUp.step {l : List BlockD} {z : Int} {i : Nat} {bv : Int} (h : BestUp l z i bv) :
    BestUp l z (i + 1) (if z ≤ (l.getD i default).size ∧ (bv < 0 ∨ (l.getD i default).size < (l.getD bv.toNat default).size) then i else bv) := by
  split
  · rename_i hc
    refine .inr ⟨i, rfl, by omega, hc.1, fun j hj hz => ?_, fun j hj hz => ?_⟩
    · rcases h with ⟨h1, h2⟩ | ⟨k, h1, h2, h3, h4, h5⟩
      · rcases Nat.lt_or_ge j i with h6 | h6
        · have := h2 j h6; omega
        · have : j = i := by omega
          subst this; omega
      · have hk : bv.toNat = k := by omega
        rw [hk] at hc
        rcases Nat.lt_or_ge j i with h6 | h6
        · have := h4 j h6 hz; omega
        · have : j = i := by omega
          subst this; omega
    · rcases h with ⟨h1, h2⟩ | ⟨k, h1, h2, h3, h4, h5⟩
      · have := h2 j hj; omega
      · have hk : bv.toNat = k := by omega
        rw [hk] at hc
        have := h4 j hj hz; omega
  · rename_i hc
    rcases h with ⟨h1, h2⟩ | ⟨k, h1, h2, h3, h4, h5⟩
    · refine .inl ⟨h1, fun j hj => ?_⟩
      rcases Nat.lt_or_ge j i with h6 | h6
      · exact h2 j h6
      · have : j = i := by omega
        subst this
        omega
    · have hk : bv.toNat = k := by omega
      rw [hk] at hc
      refine .inr ⟨k, h1, by omega, h3, fun j hj hz => ?_, h5⟩
      rcases Nat.lt_or_ge j i with h6 | h6
      · exact h4 j h6 hz
      · have : j = i := by omega
        subst this
        omega
theorem BestUp.best {l : List BlockD} {n : Int} {m : Nat} {bv : Int} (hm : IsSz n m) (hp : ∀ b ∈ l, ∃ k : Nat, b.size = 2 ^ k) (h : BestUp l (2 ^ m) l.length bv) : (bv = -1 ∧ bestI l n = none) ∨ ∃ k : Nat, bv = k ∧ IsBest l n k := by
  have hfit : ∀ j, j < l.length → (n ≤ (l.getD j default).size ↔ 2 ^ m ≤ (l.getD j default).size) := fun j hj => by
    obtain ⟨k, hk⟩ := hp (l.getD j default) (by rw [List.getD_eq_getElem?_getD, List.getElem?_eq_getElem hj]; exact List.getElem_mem _)
    rw [hk, hm.fit, pow_le_pow_iff]
  rcases h with ⟨h1, h2⟩ | ⟨k, h1, h2, h3, h4, h5⟩
  · refine .inl ⟨h1, bestI_none fun j hj => ?_⟩
    have := h2 j hj
    have := hfit j hj
    omega
  · refine .inr ⟨k, h1, h2, (hfit k h2).2 h3, fun j hj hn => h4 j hj ((hfit j hj).1 hn), fun j hj e => ?_⟩
    have := h5 j hj (by omega)
    omega
end Go.Proofs.Ytpkigjlnbfgjcaa
