/- CompactFunc, where no two neighbours are alike; faults of tasks. -/
import Derived.Test.YtpkigjlnbfgjcaaT9
namespace Go.Proofs.Ytpkigjlnbfgjcaa
open Go.TM
open Go.TM.Cell (enc)
set_option maxRecDepth 20000
set_option maxHeartbeats 4000000
variable {H H' H₀ : Heap}
theorem compact_spec {v : Value} {hs : List Hdr} {ms : List (List Int)} (hv : Sl2 H v hs ms) (hne : ∀ i, i + 1 < ms.length → ms.getD (i + 1) [] ≠ ms.getD i []) :
    CallsH PG 37 #[v, .func (.func 38) #[] #[]] H fun r H' => r = v ∧ Ext H H' := by
  obtain ⟨ht, hr⟩ := hv
  have lt := ht.len_le; have er := hr.len
  unfold maxLen at lt
  have ht0 := ht
  have hr0 := hr
  have hX := Ext.refl H
  have hXs := hX.size
  refine callsH_of_W (args := [v, .func (.func 38) #[] #[]]) (ρ₀ := (upd (upd (fun _ => undef) 1 (.func (.func 38) #[] #[])) 0 v)) rfl Try.func37 rfl (by kernel_rfl) ?_
  refine go_ (hq := ?_)
  refine if_ (ht := fun h => ?_) (hf := fun h => ?_)
  · skip
    refine go_ (hq := ?_)
    refine ret1_ (h := ?_)
    exact ⟨rfl, hX⟩
  · skip
    refine go_ (hq := ?_)
    refine W_loop (X := Nat) (fun k => [(0, v), (1, .func (.func 38) #[] #[]), (5, .int .i64 (k + 1 : Nat))]) (fun k H' => Ext H H' ∧ k + 1 ≤ hs.length) (fun k => hs.length - k) 0 ?_ ?_ ?_
    · exact hold_
    · exact ⟨hX, by omega⟩
    · clear hX ht hr
      rintro u k H' ⟨hX, hk⟩
      have hXs := hX.size
      have ht := ht0.ext hX
      have hr := hr0.ext hX
      refine go_ (hq := ?_)
      refine if_ (ht := fun h2 => ?_) (hf := fun h2 => ?_)
      · skip
        have hrk := hr.at_ k (by omega)
        have hrk1 := hr.at_ (k + 1) (by omega)
        have hn := hne k (by omega)
        have e1 : ((k + 1 : Nat) : Int) - 1 = (k : Nat) := by omega
        refine go_ (hq := ?_)
        refine draw_ mixed (Q := _) 0 [0,1,2,3,4,5,6,7,8,9,10] (h := ?_)
        refine go_ (hq := ?_)
        have e2 : (((k + 1 : Nat) : Int) - 1).toNat = k := by omega
        simp only [e2]
        refine callv_ (cap := []) (hc := equalL_spec hrk1 hrk) (h := ?_)
        rintro v9 H9 ⟨rfl, hE⟩
        simp only [put]
        replace hX := hX.trans hE
        replace hXs := hX.size
        replace ht := ht0.ext hX
        replace hr := hr0.ext hX
        refine go_ (hq := ?_)
        refine if_ (ht := fun h3 => ?_) (hf := fun h3 => ?_)
        · exact absurd h3 hn
        · skip
          refine go_ (hq := ?_)
          have e3 : ((k + 1 : Nat) : Int) + 1 = ((k + 1 + 1 : Nat) : Int) := by omega
          refine ⟨k + 1, ?_, ⟨hX, by omega⟩, by omega⟩
          rw [← e3]
          exact hold_
      · skip
        refine go_ (hq := ?_)
        refine ret1_ (h := ?_)
        exact ⟨rfl, hX⟩
/-! ### Faults of tasks -/
theorem ffrom_zero {α : Type} (f : α → Int) (xs : List α) : ∀ k, (ffrom f k xs).code = 0 → ffrom f k xs = ⟨0, 0⟩ ∧ ∀ i, (h : i < xs.length) → f xs[i] = 0 := by
  induction xs with
  | nil => intro k _; exact ⟨rfl, fun i h => by simp at h⟩
  | cons x xs ih =>
    intro k h
    simp only [ffrom] at h ⊢
    by_cases hx : f x ≠ 0
    · rw [if_pos hx] at h; exact absurd h hx
    · rw [if_neg hx] at h ⊢
      obtain ⟨h1, h2⟩ := ih _ h
      refine ⟨h1, fun i hi => ?_⟩
      cases i with
      | zero => simpa using hx
      | succ i => simpa using h2 i (by simpa using hi)
theorem opsFault_zero {n : Nat} {l : List OpD} (h : (opsFault n l).code = 0) : opsFault n l = ⟨0, 0⟩ ∧ n ≤ 32 ∧ l.length ≤ 5000 ∧ ∀ i, i < l.length → opCode n (l.getD i default) = 0 := by
  unfold opsFault at h ⊢
  by_cases hb : 32 < (n : Int) ∨ 5000 < (l.length : Int)
  · rw [if_pos hb] at h; cases h
  · rw [if_neg hb] at h ⊢
    obtain ⟨h1, h2⟩ := ffrom_zero _ _ _ h
    refine ⟨h1, by omega, by omega, fun i hi => ?_⟩
    have := h2 i hi
    simpa [List.getD, hi] using this
theorem opCode_zero {n : Int} {o : OpD} (h : opCode n o = 0) : (1 ≤ o.kind ∧ o.kind ≤ 5) ∧ 0 ≤ o.at_ ∧ o.at_ < n := by
  unfold opCode at h
  split at h
  · omega
  · split at h
    · omega
    · split at h <;> omega
theorem tasksFault_zero {n : Nat} (xss : List (List OpD)) (h : (tasksFault n xss).code = 0) : tasksFault n xss = ⟨0, 0⟩ ∧ ∀ p, p < xss.length → (opsFault n (xss.getD p [])).code = 0 := by
  induction xss with
  | nil => exact ⟨rfl, fun p hp => by simp at hp⟩
  | cons x l ih =>
    simp only [tasksFault] at h ⊢
    by_cases hx : (opsFault n x).code ≠ 0
    · rw [if_pos hx] at h; exact absurd h hx
    · rw [if_neg hx] at h ⊢
      obtain ⟨h1, h2⟩ := ih h
      refine ⟨h1, fun p hp => ?_⟩
      cases p with
      | zero => simpa using hx
      | succ p => simpa using h2 p (by simpa using hp)
theorem fine_of {n : Nat} {xss : List (List OpD)} (hn : n ≤ 17592186044000) (h4 : xss.length ≤ 4) (h : (tasksFault n xss).code = 0) : Fine xss n := by
  obtain ⟨_, h2⟩ := tasksFault_zero xss h
  refine ⟨h4, hn, fun p hp => (opsFault_zero (h2 p hp)).2.2.1, fun p hp i hi => ?_⟩
  exact opCode_zero ((opsFault_zero (h2 p hp)).2.2.2 i hi)
end Go.Proofs.Ytpkigjlnbfgjcaa
