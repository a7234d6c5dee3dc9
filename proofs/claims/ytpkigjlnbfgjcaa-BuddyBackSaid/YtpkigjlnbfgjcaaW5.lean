/- BuddyBack: the walk. -/
import Derived.Test.YtpkigjlnbfgjcaaW0
import Derived.Test.YtpkigjlnbfgjcaaV5
namespace Go.Proofs.Ytpkigjlnbfgjcaa
open Go.TM
open Go.TM.Cell (enc)
set_option maxRecDepth 20000
set_option maxHeartbeats 4000000
variable {H : Heap}
theorem BR.of_al {W : Int} {b : BlockD} (hW : W ≤ 1073741824) (h : AL W b) : BR b := by
  have hp := h.pos
  exact ⟨⟨by omega, by omega⟩, ⟨by omega, by omega⟩⟩
/-- What Take hands back, where it goes well. -/
theorem takeV_cases (s : SpD) (n : Int) : ((takeV s n).2.2.code ≠ 0 ∧ (takeV s n).1 = sp0) ∨ ∃ W q, VS s W ∧ n ≤ 1073741824 ∧ 1 ≤ n ∧ IsBest s.free n q ∧ (takeT s n q).used.length + (takeT s n q).free.length ≤ 5000 ∧ takeV s n = (takeT s n q, (s.free.getD q default).start, ⟨0, 0⟩) := by
  by_cases hf : (faultR s).code = 0
  · by_cases hr : n < 1 ∨ 1073741824 < n
    · left
      rw [takeV, if_neg (fun h => h hf), if_pos hr]
      exact ⟨by decide, rfl⟩
    · cases hb : bestI s.free n with
      | none =>
        left
        rw [takeV, if_neg (fun h => h hf), if_neg hr, hb]
        exact ⟨(by show (6 : Int) ≠ 0; decide), rfl⟩
      | some q =>
        by_cases hl : 5000 < (takeT s n q).used.length + (takeT s n q).free.length
        · left
          rw [takeV, if_neg (fun h => h hf), if_neg hr, hb]
          simp only
          rw [if_pos hl]
          exact ⟨by decide, rfl⟩
        · right
          refine ⟨_, q, (faultR_zero s).1 hf, by omega, by omega, bestI_is hb, by omega, ?_⟩
          rw [takeV, if_neg (fun h => h hf), if_neg hr, hb]
          simp only
          rw [if_neg hl]
  · left
    rw [takeV, if_pos hf]
    exact ⟨hf, rfl⟩
theorem back_walk {hu hf : Hdr} {s : SpD} (n : Int) (h1 : SlE H hu.val s.used) (h2 : SlE H hf.val s.free) (hb : R64x s.bits) (hn : s.used.length ≤ 1000000000000000 ∧ s.free.length ≤ 1000000000000000) (hr : ∀ b ∈ s.used ++ s.free, BR b) :
    CallsH PG 6 #[SpV s.bits hu hf, .int .i64 n] H fun v H' => v = .bool true ∧ Ext H H' := by
  have h10 := h1
  have h20 := h2
  have hX := Ext.refl H
  have hXs := hX.size
  refine callsH_of_W (args := [SpV s.bits hu hf, .int .i64 n]) (ρ₀ := (upd (upd (fun _ => undef) 1 (.int .i64 n)) 0 (SpV s.bits hu hf))) rfl Try.func6 rfl (by kernel_rfl) ?_
  refine go_ (hq := ?_)
  refine box_ (h := fun c H2 hE2 hge_c hB_c => ?_)
  have hf_hB_c : Frs H (fB c) := Frs.mono (Frs.blk hge_c) hXs
  replace hX := hX.trans hE2
  replace hXs := hX.size
  replace h1 := h10.ext hX
  replace h2 := h20.ext hX
  refine go_ (hq := ?_)
  refine call_ (hc := begun_spec) (h := ?_)
  rintro v4 H4 ⟨rfl, hE4⟩
  replace hX := hX.trans hE4
  replace hXs := hX.size
  replace h1 := h10.ext hX
  replace h2 := h20.ext hX
  replace hB_c := hB_c.ext hE4
  simp only [put]
  refine go_ (hq := ?_)
  refine if_ (ht := fun hbg => ?_) (hf := fun hbg => ?_)
  · exact absurd trivial hbg
  · skip
    refine go_ (hq := ?_)
    refine call_ (hc := vastSpace_spec h1 h2 hn) (h := ?_)
    rintro v8 H8 ⟨rfl, hE8⟩
    replace hX := hX.trans hE8
    replace hXs := hX.size
    replace h1 := h10.ext hX
    replace h2 := h20.ext hX
    replace hB_c := hB_c.ext hE8
    simp only [put]
    refine go_ (hq := ?_)
    refine if_ (ht := fun hvast => ?_) (hf := fun hvast => ?_)
    · skip
      refine go_ (hq := ?_)
      refine ret1_ (h := ?_)
      exact ⟨rfl, hX⟩
    · skip
      have hl6 : s.used.length + s.free.length ≤ 6000 := by omega
      refine go_ (hq := ?_)
      refine call_ (hc := take_spec n h1 h2 hb (by omega) hr) (h := ?_)
      rintro v2 H2 ⟨sv2, rfl, ⟨tu, tf, rfl, g3, g4⟩, hE2⟩
      replace hX := hX.trans hE2
      replace hXs := hX.size
      replace h1 := h10.ext hX
      replace h2 := h20.ext hX
      replace hB_c := hB_c.ext hE2
      have htc := takeV_cases s n
      obtain ⟨T, hT⟩ : ∃ T, T = takeV s n := ⟨_, rfl⟩
      rw [← hT] at g3 g4 htc ⊢
      have s3 : SlS _ tu.val T.1.used := g3.sl
      have s4 : SlS _ tf.val T.1.free := g4.sl
      simp only [put]
      refine go_ (hq := ?_)
      refine st_alloc fun b5 H16 hE16 hge_b5 hB_b5 => ?_
      have hs_hB_c_hB_b5 : Apt (fB c) (fB b5) := Apt.new hB_c.old (Frs.blk hge_b5)
      have hs_s3_hB_b5 : Apt (fS tu.val T.1.used) (fB b5) := Apt.new s3.old (Frs.blk hge_b5)
      have hs_s4_hB_b5 : Apt (fS tf.val T.1.free) (fB b5) := Apt.new s4.old (Frs.blk hge_b5)
      have hf_hB_b5 : Frs H (fB b5) := Frs.mono (Frs.blk hge_b5) hXs
      replace hX := hX.trans hE16
      replace hXs := hX.size
      replace h1 := h10.ext hX
      replace h2 := h20.ext hX
      replace hB_c := hB_c.ext hE16
      replace s3 := s3.ext hE16
      replace s4 := s4.ext hE16
      refine go_ (hq := ?_)
      refine st_alloc fun b7 H18 hE18 hge_b7 hB_b7 => ?_
      have hs_hB_c_hB_b7 : Apt (fB c) (fB b7) := Apt.new hB_c.old (Frs.blk hge_b7)
      have hs_s3_hB_b7 : Apt (fS tu.val T.1.used) (fB b7) := Apt.new s3.old (Frs.blk hge_b7)
      have hs_s4_hB_b7 : Apt (fS tf.val T.1.free) (fB b7) := Apt.new s4.old (Frs.blk hge_b7)
      have hs_hB_b5_hB_b7 : Apt (fB b5) (fB b7) := Apt.new hB_b5.old (Frs.blk hge_b7)
      have hf_hB_b7 : Frs H (fB b7) := Frs.mono (Frs.blk hge_b7) hXs
      replace hX := hX.trans hE18
      replace hXs := hX.size
      replace h1 := h10.ext hX
      replace h2 := h20.ext hX
      replace hB_c := hB_c.ext hE18
      replace s3 := s3.ext hE18
      replace s4 := s4.ext hE18
      replace hB_b5 := hB_b5.ext hE18
      refine go_ (hq := ?_)
      refine store_ hB_b5 (h := fun H20 hM20 hsz20 hB_b5 => ?_)
      replace hX := hX.mut hM20 hf_hB_b5
      replace hXs := hX.size
      replace h1 := h10.ext hX
      replace h2 := h20.ext hX
      replace hB_c := hB_c.mutF hM20 (hs_hB_c_hB_b5.symm)
      replace s3 := s3.mutF hM20 (hs_s3_hB_b5.symm)
      replace s4 := s4.mutF hM20 (hs_s4_hB_b5.symm)
      replace hB_b7 := hB_b7.mutF hM20 hs_hB_b5_hB_b7
      refine go_ (hq := ?_)
      refine store_ hB_b7 (h := fun H22 hM22 hsz22 hB_b7 => ?_)
      replace hX := hX.mut hM22 hf_hB_b7
      replace hXs := hX.size
      replace h1 := h10.ext hX
      replace h2 := h20.ext hX
      replace hB_c := hB_c.mutF hM22 (hs_hB_c_hB_b7.symm)
      replace s3 := s3.mutF hM22 (hs_s3_hB_b7.symm)
      replace s4 := s4.mutF hM22 (hs_s4_hB_b7.symm)
      replace hB_b5 := hB_b5.mutF hM22 (hs_hB_b5_hB_b7.symm)
      refine go_ (hq := ?_)
      refine if_ (ht := fun hc => ?_) (hf := fun hc => ?_)
      · skip
        refine go_ (hq := ?_)
        refine ret1_ (h := ?_)
        exact ⟨rfl, hX⟩
      · skip
        rcases htc with ⟨hcc, _⟩ | ⟨W, q, hV, hn1, hn0, hq, hl, hTe⟩
        · exact absurd hcc hc
        have hV2 := take_valid hV hn1 hq hl
        obtain ⟨q', hq1, hq2, hq3, hq4⟩ := back hV hn1 hq hl
        have hw2 := hV.w
        have hT1 : T.1 = takeT s n q := by rw [hTe]
        have hG : giveV T.1 T.2.1 = (s, ⟨0, 0⟩) := by
          rw [hTe]
          simp only
          rw [giveV, if_neg (fun h => h ((faultR_zero _).2 (by rw [← hV2.hW]; exact hV2))), hq3]
          simp only
          rw [hq4]
        have e3 : SlE _ tu.val T.1.used := s3
        have e4 : SlE _ tf.val T.1.free := s4
        have hlT : T.1.used.length + T.1.free.length ≤ 5000 := by rw [hT1]; exact hl
        refine go_ (hq := ?_)
        refine call_ (hc := give_spec (s := T.1) T.2.1 e3 e4 (by rw [hT1]; exact hb) (by omega) (fun b hb => by rw [hT1] at hb; exact BR.of_al hw2.2 (hV2.al b hb))) (h := ?_)
        rintro v4 H4 ⟨sv4, rfl, h9, hE4⟩
        clear e3 e4
        rw [hG] at h9
        obtain ⟨du, df, rfl, f1, f2⟩ := h9
        rw [hG]
        dsimp only at f1 f2 ⊢
        have hs_hB_c_o_u : Apt (fB c) (fO du.val) := Apt.new hB_c.old (Own.frs f1 (Nat.le_refl _))
        have hs_s3_o_u : Apt (fS tu.val T.1.used) (fO du.val) := Apt.new s3.old (Own.frs f1 (Nat.le_refl _))
        have hs_s4_o_u : Apt (fS tf.val T.1.free) (fO du.val) := Apt.new s4.old (Own.frs f1 (Nat.le_refl _))
        have hs_hB_b5_o_u : Apt (fB b5) (fO du.val) := Apt.new hB_b5.old (Own.frs f1 (Nat.le_refl _))
        have hs_hB_b7_o_u : Apt (fB b7) (fO du.val) := Apt.new hB_b7.old (Own.frs f1 (Nat.le_refl _))
        have hf_o_u : Frs H (fO du.val) := Frs.mono (Own.frs f1 (Nat.le_refl _)) hXs
        have o_u := f1.mono hXs
        have hs_hB_c_o_f : Apt (fB c) (fO df.val) := Apt.new hB_c.old (Own.frs f2 (Nat.le_refl _))
        have hs_s3_o_f : Apt (fS tu.val T.1.used) (fO df.val) := Apt.new s3.old (Own.frs f2 (Nat.le_refl _))
        have hs_s4_o_f : Apt (fS tf.val T.1.free) (fO df.val) := Apt.new s4.old (Own.frs f2 (Nat.le_refl _))
        have hs_hB_b5_o_f : Apt (fB b5) (fO df.val) := Apt.new hB_b5.old (Own.frs f2 (Nat.le_refl _))
        have hs_hB_b7_o_f : Apt (fB b7) (fO df.val) := Apt.new hB_b7.old (Own.frs f2 (Nat.le_refl _))
        have hf_o_f : Frs H (fO df.val) := Frs.mono (Own.frs f2 (Nat.le_refl _)) hXs
        have o_f := f2.mono hXs
        replace hX := hX.trans hE4
        replace hXs := hX.size
        replace h1 := h10.ext hX
        replace h2 := h20.ext hX
        replace hB_c := hB_c.ext hE4
        replace s3 := s3.ext hE4
        replace s4 := s4.ext hE4
        replace hB_b5 := hB_b5.ext hE4
        replace hB_b7 := hB_b7.ext hE4
        simp only [put]
        refine go_ (hq := ?_)
        refine st_alloc fun b8 H31 hE31 hge_b8 hB_b8 => ?_
        have hs_hB_c_hB_b8 : Apt (fB c) (fB b8) := Apt.new hB_c.old (Frs.blk hge_b8)
        have hs_s3_hB_b8 : Apt (fS tu.val T.1.used) (fB b8) := Apt.new s3.old (Frs.blk hge_b8)
        have hs_s4_hB_b8 : Apt (fS tf.val T.1.free) (fB b8) := Apt.new s4.old (Frs.blk hge_b8)
        have hs_hB_b5_hB_b8 : Apt (fB b5) (fB b8) := Apt.new hB_b5.old (Frs.blk hge_b8)
        have hs_hB_b7_hB_b8 : Apt (fB b7) (fB b8) := Apt.new hB_b7.old (Frs.blk hge_b8)
        have hs_o_u_hB_b8 : Apt (fO du.val) (fB b8) := Apt.new o_u.old (Frs.blk hge_b8)
        have hs_o_f_hB_b8 : Apt (fO df.val) (fB b8) := Apt.new o_f.old (Frs.blk hge_b8)
        have hf_hB_b8 : Frs H (fB b8) := Frs.mono (Frs.blk hge_b8) hXs
        replace hX := hX.trans hE31
        replace hXs := hX.size
        replace h1 := h10.ext hX
        replace h2 := h20.ext hX
        replace hB_c := hB_c.ext hE31
        replace s3 := s3.ext hE31
        replace s4 := s4.ext hE31
        replace hB_b5 := hB_b5.ext hE31
        replace hB_b7 := hB_b7.ext hE31
        replace o_u := o_u.ext hE31
        replace o_f := o_f.ext hE31
        refine go_ (hq := ?_)
        refine store_ hB_b8 (h := fun H33 hM33 hsz33 hB_b8 => ?_)
        replace hX := hX.mut hM33 hf_hB_b8
        replace hXs := hX.size
        replace h1 := h10.ext hX
        replace h2 := h20.ext hX
        replace hB_c := hB_c.mutF hM33 (hs_hB_c_hB_b8.symm)
        replace s3 := s3.mutF hM33 (hs_s3_hB_b8.symm)
        replace s4 := s4.mutF hM33 (hs_s4_hB_b8.symm)
        replace hB_b5 := hB_b5.mutF hM33 (hs_hB_b5_hB_b8.symm)
        replace hB_b7 := hB_b7.mutF hM33 (hs_hB_b7_hB_b8.symm)
        replace o_u := o_u.mutF hM33 (hs_o_u_hB_b8.symm)
        replace o_f := o_f.mutF hM33 (hs_o_f_hB_b8.symm)
        refine go_ (hq := ?_)
        refine store_ hB_b7 (h := fun H35 hM35 hsz35 hB_b7 => ?_)
        replace hX := hX.mut hM35 hf_hB_b7
        replace hXs := hX.size
        replace h1 := h10.ext hX
        replace h2 := h20.ext hX
        replace hB_c := hB_c.mutF hM35 (hs_hB_c_hB_b7.symm)
        replace s3 := s3.mutF hM35 (hs_s3_hB_b7.symm)
        replace s4 := s4.mutF hM35 (hs_s4_hB_b7.symm)
        replace hB_b5 := hB_b5.mutF hM35 (hs_hB_b5_hB_b7.symm)
        replace o_u := o_u.mutF hM35 hs_hB_b7_o_u
        replace o_f := o_f.mutF hM35 hs_hB_b7_o_f
        replace hB_b8 := hB_b8.mutF hM35 hs_hB_b7_hB_b8
        refine go_ (hq := ?_)
        have hp9 : (decide ((⟨0, 0⟩ : FaultD).code = 0) == true) = true := by decide
        have e5 := o_u.sl
        have e6 := o_f.sl
        refine callg_ hp9 (hc := sameSpace_spec e5 e6 h1 h2) (h := ?_)
        rintro v8 H8 ⟨rfl, hE8⟩
        clear e5 e6
        replace hX := hX.trans hE8
        replace hXs := hX.size
        replace h1 := h10.ext hX
        replace h2 := h20.ext hX
        replace hB_c := hB_c.ext hE8
        replace s3 := s3.ext hE8
        replace s4 := s4.ext hE8
        replace hB_b5 := hB_b5.ext hE8
        replace hB_b7 := hB_b7.ext hE8
        replace o_u := o_u.ext hE8
        replace o_f := o_f.ext hE8
        replace hB_b8 := hB_b8.ext hE8
        refine go_ (hq := ?_)
        refine ret1_ (h := ?_)
        refine ⟨?_, hX⟩
        congr 1
        simp
end Go.Proofs.Ytpkigjlnbfgjcaa
