/- The walk of the law CellEnds, over the sort's contract. -/
import Derived.Test.YtpkigjlnbfgjcaaT15
import Derived.Test.YtpkigjlnbfgjcaaT17
namespace Go.Proofs.Ytpkigjlnbfgjcaa
open Go.TM
open Go.TM.Cell (enc)
set_option maxRecDepth 20000
set_option maxHeartbeats 4000000
variable {H H' H₀ : Heap}
theorem vast_false {α : Type} {xss : List (List α)} (h : vastB xss = false) : xss.length ≤ 1000 ∧ ∀ x ∈ xss, x.length ≤ 10000 := by
  simp only [vastB, Bool.or_eq_false_iff, decide_eq_false_iff_not, List.any_eq_false, decide_eq_true_eq] at h
  exact ⟨by omega, fun x hx => by have := h.2 x hx; omega⟩
theorem fault1 {n : Nat} {xss : List (List OpD)} {f : FaultD} (hf : f = if 4 < xss.length then ⟨2, 0⟩ else tasksFault n xss) (hc : f.code = 0) : xss.length ≤ 4 ∧ (tasksFault n xss).code = 0 ∧ f = ⟨0, 0⟩ := by
  by_cases h : 4 < xss.length
  · rw [if_pos h] at hf; rw [hf] at hc; cases hc
  · rw [if_neg h] at hf
    rw [hf] at hc ⊢
    exact ⟨by omega, hc, (tasksFault_zero xss hc).1⟩
theorem fault2 {n : Nat} {xss : List (List OpD)} {f : FaultD} (hf : f = if 4 < xss.length then ⟨2, 0⟩ else tasksFault n xss) (hc : f.code = 0) (h : 12 < sumLen xss) : (⟨2, 0⟩ : FaultD) = endsFault n xss := by
  obtain ⟨h1, h2, h3⟩ := fault1 hf hc
  rw [endsFault, if_neg (by omega), if_neg (by rw [h2]; simp), if_pos h]
theorem fault3 {n : Nat} {xss : List (List OpD)} {f : FaultD} (hf : f = if 4 < xss.length then ⟨2, 0⟩ else tasksFault n xss) (hc : f.code = 0) (h : ¬ 12 < sumLen xss) : f = endsFault n xss := by
  obtain ⟨h1, h2, h3⟩ := fault1 hf hc
  rw [endsFault, if_neg (by omega), if_neg (by rw [h2]; simp), if_neg h, h3]
theorem fault4 {n : Nat} {xss : List (List OpD)} {f : FaultD} (hf : f = if 4 < xss.length then ⟨2, 0⟩ else tasksFault n xss) (hc : ¬ f.code = 0) : f = endsFault n xss := by
  unfold endsFault
  by_cases h : 4 < xss.length
  · rw [if_pos h] at hf ⊢; exact hf
  · rw [if_neg h] at hf ⊢
    rw [hf] at hc ⊢
    rw [if_pos hc]
theorem fault5 {n : Nat} {xss : List (List OpD)} (hn : n ≤ 17592186044000) (h : (endsFault n xss).code = 0) : Fine xss n ∧ sumLen xss ≤ 12 := by
  unfold endsFault at h
  by_cases h1 : 4 < xss.length
  · rw [if_pos h1] at h; cases h
  · rw [if_neg h1] at h
    by_cases h2 : (tasksFault n xss).code ≠ 0
    · rw [if_pos h2] at h; exact absurd h h2
    · rw [if_neg h2] at h
      by_cases h3 : 12 < sumLen xss
      · rw [if_pos h3] at h; cases h
      · exact ⟨fine_of hn (by omega) (by simpa using h2), by omega⟩
theorem law_spec (hsort : SortOK) {mv tv : Value} {xs : List Int} {thd : List Hdr} {xss : List (List OpD)} (hm : SlE H mv xs) (ht : Sl2 H tv thd xss) (hmb : xs.length ≤ 17592186044000) (hI : In64 xs xss) :
    CallsH PG 3 #[mv, tv] H fun v H' => v = .bool true ∧ Ext H H' := by
  have hts := ht.sl
  have hm0 := hm
  have ht0 := ht
  have hts0 := hts
  have hX := Ext.refl H
  have hXs := hX.size
  have lt := ht.sl.len_le
  have er := ht.rows.len
  unfold maxLen at lt
  refine callsH_of_W (args := [mv, tv]) (ρ₀ := (upd (upd (fun _ => undef) 1 tv) 0 mv)) rfl Try.func3 rfl (by kernel_rfl) ?_
  refine go_ (hq := ?_)
  refine call_ (hc := cellBegun_spec hsort) (h := ?_)
  rintro v2 H2 ⟨rfl, hE2⟩
  replace hX := hX.trans hE2
  replace hXs := hX.size
  replace hm := hm0.ext hX
  replace ht := ht0.ext hX
  replace hts := hts0.ext hX
  simp only [put]
  refine go_ (hq := ?_)
  refine if_ (ht := fun h => ?_) (hf := fun h => ?_)
  · exact absurd trivial h
  · skip
    refine go_ (hq := ?_)
    refine call_ (hc := vastTasks_spec ht) (h := ?_)
    rintro v6 H6 ⟨rfl, hE6⟩
    replace hX := hX.trans hE6
    replace hXs := hX.size
    replace hm := hm0.ext hX
    replace ht := ht0.ext hX
    replace hts := hts0.ext hX
    simp only [put]
    refine go_ (hq := ?_)
    refine if_ (ht := fun hv => ?_) (hf := fun hv => ?_)
    · skip
      refine go_ (hq := ?_)
      refine ret1_ (h := ?_)
      exact ⟨rfl, hX⟩
    · skip
      have hv2 := vast_false (by simpa using hv)
      have hsl : sumLen xss ≤ 1000000000 := Nat.le_trans (sumLen_le xss 10000 hv2.2) (by have := hv2.1; omega)
      refine go_ (hq := ?_)
      refine call_ (hc := own_spec hm (by omega)) (h := ?_)
      rintro w H11 ⟨n_11, hE11⟩
      have hf_o_w : Frs H (fO w) := Frs.mono (Own.frs n_11 (Nat.le_refl _)) hXs
      have o_w := n_11.mono hXs
      replace hX := hX.trans hE11
      replace hXs := hX.size
      replace hm := hm0.ext hX
      replace ht := ht0.ext hX
      replace hts := hts0.ext hX
      simp only [put]
      refine go_ (hq := ?_)
      refine call_ (hc := ends_spec hsort o_w.sl hmb ht (fun ms hp _ i hi => nodup_next (hp.nodup_iff.2 (ends_nodup xs xss)) i hi)) (h := ?_)
      rintro v9 H9 ⟨ev, rfl, hE, hres⟩
      simp only [put]
      replace hX := hX.trans hE
      replace hXs := hX.size
      replace hm := hm0.ext hX
      replace ht := ht0.ext hX
      replace hts := hts0.ext hX
      replace o_w := o_w.ext hE
      have hX0 := hX
      have hm0 := hm
      have ht0 := ht
      have hts0 := hts
      have hX := Ext.refl H9
      have hXs := hX.size
      refine go_ (hq := ?_)
      refine st_alloc fun b6 H15 hE15 hge_b6 hB_b6 => ?_
      have hf_hB_b6 : Frs H9 (fB b6) := Frs.mono (Frs.blk hge_b6) hXs
      replace hX := hX.trans hE15
      replace hXs := hX.size
      replace hm := hm0.ext hX
      replace ht := ht0.ext hX
      replace hts := hts0.ext hX
      refine go_ (hq := ?_)
      refine store_ hB_b6 (h := fun H17 hM17 hsz17 hB_b6 => ?_)
      replace hX := hX.mut hM17 hf_hB_b6
      replace hXs := hX.size
      replace hm := hm0.ext hX
      replace ht := ht0.ext hX
      replace hts := hts0.ext hX
      refine go_ (hq := ?_)
      refine st_alloc fun b7 H19 hE19 hge_b7 hB_b7 => ?_
      have hs_hB_b6_hB_b7 : Apt (fB b6) (fB b7) := Apt.new hB_b6.old (Frs.blk hge_b7)
      have hf_hB_b7 : Frs H9 (fB b7) := Frs.mono (Frs.blk hge_b7) hXs
      replace hX := hX.trans hE19
      replace hXs := hX.size
      replace hm := hm0.ext hX
      replace ht := ht0.ext hX
      replace hts := hts0.ext hX
      replace hB_b6 := hB_b6.ext hE19
      refine go_ (hq := ?_)
      refine store_ hB_b7 (h := fun H21 hM21 hsz21 hB_b7 => ?_)
      replace hX := hX.mut hM21 hf_hB_b7
      replace hXs := hX.size
      replace hm := hm0.ext hX
      replace ht := ht0.ext hX
      replace hts := hts0.ext hX
      replace hB_b6 := hB_b6.mutF hM21 (hs_hB_b6_hB_b7.symm)
      refine go_ (hq := ?_)
      refine W_cutQ (X := FaultD) (fun f => [(0, mv), (1, tv), (5, ev), (6, .pointer (some ⟨b6, 0, none⟩)), (7, .pointer (some ⟨b7, 0, none⟩))])
        (fun f H' => Ext H9 H' ∧ Blk H' b6 28 [.int .i64 (endsFault xs.length xss).code, .int .i64 (endsFault xs.length xss).at_] ∧ Blk H' b7 28 [.int .i64 f.code, .int .i64 f.at_] ∧ f = if 4 < xss.length then ⟨2, 0⟩ else tasksFault xs.length xss) ?_ ?_
      · skip
        refine if_ (ht := fun h4 => ?_) (hf := fun h4 => ?_)
        · skip
          refine go_ (hq := ?_)
          refine call_ (hc := F_spec _ _) (h := ?_)
          rintro v25 H25 ⟨rfl, hE25⟩
          replace hX := hX.trans hE25
          replace hXs := hX.size
          replace hm := hm0.ext hX
          replace ht := ht0.ext hX
          replace hts := hts0.ext hX
          replace hB_b6 := hB_b6.ext hE25
          replace hB_b7 := hB_b7.ext hE25
          simp only [put]
          refine go_ (hq := ?_)
          refine store_ hB_b7 (h := fun H27 hM27 hsz27 hB_b7 => ?_)
          replace hX := hX.mut hM27 hf_hB_b7
          replace hXs := hX.size
          replace hm := hm0.ext hX
          replace ht := ht0.ext hX
          replace hts := hts0.ext hX
          replace hB_b6 := hB_b6.mutF hM27 (hs_hB_b6_hB_b7.symm)
          refine go_ (hq := ?_)
          exact ⟨⟨2, 0⟩, hold_, hX, hB_b6, hB_b7, by rw [if_pos (by omega)]⟩
        · skip
          refine go_ (hq := ?_)
          refine call_ (hc := tasksFault_spec hm ht) (h := ?_)
          rintro v30 H30 ⟨rfl, hE30⟩
          replace hX := hX.trans hE30
          replace hXs := hX.size
          replace hm := hm0.ext hX
          replace ht := ht0.ext hX
          replace hts := hts0.ext hX
          replace hB_b6 := hB_b6.ext hE30
          replace hB_b7 := hB_b7.ext hE30
          simp only [put]
          refine go_ (hq := ?_)
          refine store_ hB_b7 (h := fun H32 hM32 hsz32 hB_b7 => ?_)
          replace hX := hX.mut hM32 hf_hB_b7
          replace hXs := hX.size
          replace hm := hm0.ext hX
          replace ht := ht0.ext hX
          replace hts := hts0.ext hX
          replace hB_b6 := hB_b6.mutF hM32 (hs_hB_b6_hB_b7.symm)
          refine go_ (hq := ?_)
          exact ⟨tasksFault xs.length xss, hold_, hX, hB_b6, hB_b7, by rw [if_neg (by omega)]⟩
      · clear hX hB_b6 hB_b7 hm ht hts hXs
        rintro u f H' ⟨hX, hB_b6, hB_b7, hf⟩
        have hS := (sep_cons (sepa_cons hs_hB_b6_hB_b7 sepa_nil) (sep_cons sepa_nil sep_nil) : SepL [fB b6, fB b7])
        have hXs := hX.size
        have hm := hm0.ext hX
        have ht := ht0.ext hX
        have hts := hts0.ext hX
        obtain ⟨⟨hs_hB_b6_hB_b7, -⟩, ⟨⟨-⟩, -⟩⟩ := hS
        refine W_cut (X := FaultD) (fun f => [(0, mv), (1, tv), (5, ev), (6, .pointer (some ⟨b6, 0, none⟩)), (7, .pointer (some ⟨b7, 0, none⟩))])
          (fun f H' => Ext H9 H' ∧ Blk H' b6 28 [.int .i64 (endsFault xs.length xss).code, .int .i64 (endsFault xs.length xss).at_] ∧ Blk H' b7 28 [.int .i64 f.code, .int .i64 f.at_] ∧ f = endsFault xs.length xss) ?_ ?_
        · skip
          by_cases hc : f.code = 0
          · skip
            have hb : (decide (f.code = 0) == true) = true := by simp [hc]
            refine go_ (hq := ?_)
            refine callg_ hb (hc := opsOf_spec ht hsl) (h := ?_)
            rintro v30 H30 ⟨rfl, hE⟩
            replace hX := hX.trans hE
            replace hXs := hX.size
            replace hm := hm0.ext hX
            replace ht := ht0.ext hX
            replace hts := hts0.ext hX
            replace hB_b6 := hB_b6.ext hE
            replace hB_b7 := hB_b7.ext hE
            refine go_ (hq := ?_)
            refine if_ (ht := fun h5 => ?_) (hf := fun h5 => ?_)
            · skip
              refine go_ (hq := ?_)
              refine call_ (hc := F_spec _ _) (h := ?_)
              rintro v39 H39 ⟨rfl, hE39⟩
              replace hX := hX.trans hE39
              replace hXs := hX.size
              replace hm := hm0.ext hX
              replace ht := ht0.ext hX
              replace hts := hts0.ext hX
              replace hB_b6 := hB_b6.ext hE39
              replace hB_b7 := hB_b7.ext hE39
              simp only [put]
              refine go_ (hq := ?_)
              refine store_ hB_b7 (h := fun H41 hM41 hsz41 hB_b7 => ?_)
              replace hX := hX.mut hM41 hf_hB_b7
              replace hXs := hX.size
              replace hm := hm0.ext hX
              replace ht := ht0.ext hX
              replace hts := hts0.ext hX
              replace hB_b6 := hB_b6.mutF hM41 (hs_hB_b6_hB_b7.symm)
              refine go_ (hq := ?_)
              exact ⟨⟨2, 0⟩, hold_, hX, hB_b6, hB_b7, fault2 hf hc (by omega)⟩
            · skip
              refine go_ (hq := ?_)
              exact ⟨f, hold_, hX, hB_b6, hB_b7, fault3 hf hc (by omega)⟩
          · skip
            have hb : (decide (f.code = 0) == true) = false := by simp [hc]
            refine go_ (hq := ?_)
            refine skipg_ (.int .i64 0) hb (h := ?_)
            refine go_ (hq := ?_)
            refine if_ (ht := fun h5 => ?_) (hf := fun h5 => ?_)
            · exact absurd h5.1 hc
            · skip
              refine go_ (hq := ?_)
              exact ⟨f, hold_, hX, hB_b6, hB_b7, fault4 hf hc⟩
        · clear hX hB_b6 hB_b7 hm ht hts hXs hf
          have hs_hB_b6_hB_b7' := hs_hB_b6_hB_b7
          clear hs_hB_b6_hB_b7
          rintro u f H' ⟨hX, hB_b6, hB_b7, hf⟩
          subst hf
          have hS := (sep_cons (sepa_cons hs_hB_b6_hB_b7' sepa_nil) (sep_cons sepa_nil sep_nil) : SepL [fB b6, fB b7])
          have hXs := hX.size
          have hm := hm0.ext hX
          have ht := ht0.ext hX
          have hts := hts0.ext hX
          obtain ⟨⟨hs_hB_b6_hB_b7, -⟩, ⟨⟨-⟩, -⟩⟩ := hS
          refine go_ (hq := ?_)
          refine if_ (ht := fun h6 => ?_) (hf := fun h6 => ?_)
          · exact absurd ⟨rfl, rfl⟩ h6
          · skip
            refine go_ (hq := ?_)
            refine if_ (ht := fun h7 => ?_) (hf := fun h7 => ?_)
            · skip
              rcases hres with ⟨_, rfl⟩ | ⟨h0, _⟩
              · skip
                have hlen : LenIs (.slice none 0 0) 0 := ⟨none, 0, rfl, fun h => absurd h (Nat.lt_irrefl _)⟩
                refine go_ (hq := ?_)
                refine ret1_ (h := ?_)
                exact ⟨by simp, hX0.trans hX⟩
              · exact absurd h0 h7
            · skip
              rcases hres with ⟨h0, _⟩ | ⟨h0, hs, ms, hsl2, hperm, hsorted⟩
              · exact absurd h0 h7
              · skip
                obtain ⟨hfine, h12⟩ := fault5 hmb h0
                obtain ⟨hpos, hml, hLS⟩ := ends_big hI ms hfine h12 hperm hsorted
                replace hsl2 := hsl2.ext hX
                have hse := hsl2.sl
                have hsr := hsl2.rows
                have esr := hsr.len
                have lse := hse.len_le
                unfold maxLen at lse
                have hX1 := hX0.trans hX
                have hm0 := hm
                have ht0 := ht
                have hse0 := hse
                have hsr0 := hsr
                have hsl20 := hsl2
                have hX := Ext.refl H'
                have hXs := hX.size
                refine go_ (hq := ?_)
                refine call_ (hc := opsOf_spec ht hsl) (h := ?_)
                rintro v54 H54 ⟨rfl, hE54⟩
                replace hX := hX.trans hE54
                replace hXs := hX.size
                replace hm := hm0.ext hX
                replace ht := ht0.ext hX
                replace hse := hse0.ext hX
                replace hsr := hsr0.ext hX
                replace hsl2 := hsl20.ext hX
                simp only [put]
                refine go_ (hq := ?_)
                refine if_ (ht := fun h9 => ?_) (hf := fun h9 => ?_)
                · skip
                  refine go_ (hq := ?_)
                  refine W_loop (X := Nat) (fun k => [(0, mv), (5, ev), (8, .int .i64 k)]) (fun k H2 => Ext H' H2 ∧ k ≤ hs.length) (fun k => hs.length - k) 0 ?_ ?_ ?_
                  · exact hold_
                  · exact ⟨hX, Nat.zero_le _⟩
                  · clear hX hm ht hse hsr hsl2
                    rintro u k H' ⟨hX, hk⟩
                    have hXs := hX.size
                    have hm := hm0.ext hX
                    have ht := ht0.ext hX
                    have hse := hse0.ext hX
                    have hsr := hsr0.ext hX
                    have hsl2 := hsl20.ext hX
                    refine go_ (hq := ?_)
                    refine if_ (ht := fun h2 => ?_) (hf := fun h2 => ?_)
                    · skip
                      have hk' : k < ms.length := by omega
                      have hrk := hsr.at_ k hk'
                      have hlk := hml _ (getD_memL [] ms k hk')
                      refine go_ (hq := ?_)
                      refine draw_ mixed (Q := _) 0 [0,1,2,3,4,5,6,7,8,9,10,11,12,13,14,15,16,17,18,19,20,21,22,23,24] (h := ?_)
                      refine go_ (hq := ?_)
                      by_cases hk0 : k = 0
                      · skip
                        have hg : (decide (((ms.getD k []).length : Int) ≠ xs.length) == false && (decide (0 < (k : Int)) == true)) = false := by simp [hk0]
                        refine skipg1_ (.bool false) hg (h := ?_)
                        refine go_ (hq := ?_)
                        refine if_ (ht := fun h10 => ?_) (hf := fun h10 => ?_)
                        · exfalso; omega
                        · skip
                          refine go_ (hq := ?_)
                          exact ⟨k + 1, hold_, ⟨hX, by omega⟩, by omega⟩
                      · skip
                        have hg : (decide (((ms.getD k []).length : Int) ≠ xs.length) == false && (decide (0 < (k : Int)) == true)) = true := by
                          simp only [Bool.and_eq_true, beq_iff_eq, decide_eq_false_iff_not, decide_eq_true_eq]; omega
                        have hrk1 := hsr.at_ (k - 1) (by omega)
                        have hlk1 := hml _ (getD_memL [] ms (k - 1) (by omega))
                        have hlt : lessL (ms.getD (k - 1) []) (ms.getD k []) = true := by
                          have := List.pairwise_iff_getElem.1 hLS (k - 1) k (by omega) hk' (by omega)
                          simpa [List.getD, hk', show k - 1 < ms.length by omega] using this
                        have e2 : ((k : Int) - 1).toNat = k - 1 := by omega
                        simp only [e2]
                        refine callg1_ hg (hc := less_spec hrk1 hrk (by omega)) (h := ?_)
                        rintro v70 H70 ⟨rfl, hE⟩
                        replace hX := hX.trans hE
                        replace hXs := hX.size
                        replace hm := hm0.ext hX
                        replace ht := ht0.ext hX
                        replace hse := hse0.ext hX
                        replace hsr := hsr0.ext hX
                        replace hsl2 := hsl20.ext hX
                        rw [hlt]
                        refine go_ (hq := ?_)
                        refine if_ (ht := fun h10 => ?_) (hf := fun h10 => ?_)
                        · exfalso
                          rcases h10 with h10 | h10
                          · omega
                          · exact h10.2 trivial
                        · skip
                          refine go_ (hq := ?_)
                          exact ⟨k + 1, hold_, ⟨hX, by omega⟩, by omega⟩
                    · skip
                      refine go_ (hq := ?_)
                      refine ret1_ (h := ?_)
                      exact ⟨by simp; omega, hX1.trans hX⟩
                · skip
                  refine go_ (hq := ?_)
                  refine call_ (hc := allEnds_spec hm ht hfine h12) (h := ?_)
                  rintro v72 H72 ⟨hs2, hr2, hE72⟩
                  replace hX := hX.trans hE72
                  replace hXs := hX.size
                  replace hm := hm0.ext hX
                  replace ht := ht0.ext hX
                  replace hse := hse0.ext hX
                  replace hsr := hsr0.ext hX
                  replace hsl2 := hsl20.ext hX
                  simp only [put]
                  refine go_ (hq := ?_)
                  refine call_ (hc := lists_spec hsl2 hr2) (h := ?_)
                  rintro v74 H74 ⟨rfl, hE74⟩
                  replace hX := hX.trans hE74
                  replace hXs := hX.size
                  replace hm := hm0.ext hX
                  replace ht := ht0.ext hX
                  replace hse := hse0.ext hX
                  replace hsr := hsr0.ext hX
                  replace hsl2 := hsl20.ext hX
                  simp only [put]
                  refine go_ (hq := ?_)
                  refine ret1_ (h := ?_)
                  exact ⟨by rw [decide_eq_true (ends_small hI ms hfine h12 hperm hsorted)], hX1.trans hX⟩
end Go.Proofs.Ytpkigjlnbfgjcaa
