/- The walk of AllEnds. -/
import Derived.Test.YtpkigjlnbfgjcaaT13
namespace Go.Proofs.Ytpkigjlnbfgjcaa
open Go.TM
open Go.TM.Cell (enc)
set_option maxRecDepth 20000
set_option maxHeartbeats 4000000
variable {H H' H₀ : Heap}
def allEnds (xs : List Int) (xss : List (List OpD)) : List (List Int) := allE xss 13 xs (List.replicate xss.length 0) []
theorem allEnds_spec {mv tv : Value} {xs : List Int} {thd : List Hdr} {xss : List (List OpD)} (hm : SlE H mv xs) (ht : Sl2 H tv thd xss) (hfine : Fine xss xs.length) (hsum : sumLen xss ≤ 12) :
    CallsH PG 17 #[mv, tv] H fun v H' => ∃ hs, Sl2 H' v hs (allEnds xs xss) ∧ Ext H H' := by
  obtain ⟨ht, hr⟩ := ht
  obtain ⟨htd, rfl⟩ := ht.hdrOf
  have lt := ht.len_le; have er := hr.len
  have h4 := hfine.num
  have hmb := hfine.big
  unfold maxLen at lt
  have hm0 := hm
  have ht0 := ht
  have hr0 := hr
  have hX := Ext.refl H
  have hXs := hX.size
  refine callsH_of_W (args := [mv, htd.val]) (ρ₀ := (upd (upd (fun _ => undef) 1 (htd.val)) 0 mv)) rfl Try.func17 rfl (by kernel_rfl) ?_
  refine go_ (hq := ?_)
  refine box_ (h := fun bt H2 hE2 hge_bt hB_bt => ?_)
  have hf_hB_bt : Frs H (fB bt) := Frs.mono (Frs.blk hge_bt) hXs
  replace hX := hX.trans hE2
  replace hXs := hX.size
  replace hm := hm0.ext hX
  replace ht := ht0.ext hX
  replace hr := hr0.ext hX
  refine go_ (hq := ?_)
  refine st_alloc fun bo H4 hE4 hge_bo hB_bo => ?_
  have hs_hB_bt_hB_bo : Apt (fB bt) (fB bo) := Apt.new hB_bt.old (Frs.blk hge_bo)
  have hf_hB_bo : Frs H (fB bo) := Frs.mono (Frs.blk hge_bo) hXs
  replace hX := hX.trans hE4
  replace hXs := hX.size
  replace hm := hm0.ext hX
  replace ht := ht0.ext hX
  replace hr := hr0.ext hX
  replace hB_bt := hB_bt.ext hE4
  refine go_ (hq := ?_)
  refine make_ (0 : Int) (h := fun av H6 n_6 hE6 hN6 => ?_)
  have hs_hB_bt_o_a : Apt (fB bt) (fO av) := Apt.new hB_bt.old (Own.frs n_6 (Nat.le_refl _))
  have hs_hB_bo_o_a : Apt (fB bo) (fO av) := Apt.new hB_bo.old (Own.frs n_6 (Nat.le_refl _))
  have hf_o_a : Frs H (fO av) := Frs.mono (Own.frs n_6 (Nat.le_refl _)) hXs
  have o_a := n_6.mono hXs
  replace hX := hX.trans hE6
  replace hXs := hX.size
  replace hm := hm0.ext hX
  replace ht := ht0.ext hX
  replace hr := hr0.ext hX
  replace hB_bt := hB_bt.ext hE6
  replace hB_bo := hB_bo.ext hE6
  rw [Int.toNat_natCast, er] at o_a
  obtain ⟨had, rfl⟩ := o_a.sl.hdrOf
  refine go_ (hq := ?_)
  refine st_alloc fun ba H9 hE9 hge_ba hB_ba => ?_
  have hs_hB_bt_hB_ba : Apt (fB bt) (fB ba) := Apt.new hB_bt.old (Frs.blk hge_ba)
  have hs_hB_bo_hB_ba : Apt (fB bo) (fB ba) := Apt.new hB_bo.old (Frs.blk hge_ba)
  have hs_o_a_hB_ba : Apt (fO had.val) (fB ba) := Apt.new o_a.old (Frs.blk hge_ba)
  have hf_hB_ba : Frs H (fB ba) := Frs.mono (Frs.blk hge_ba) hXs
  replace hX := hX.trans hE9
  replace hXs := hX.size
  replace hm := hm0.ext hX
  replace ht := ht0.ext hX
  replace hr := hr0.ext hX
  replace hB_bt := hB_bt.ext hE9
  replace hB_bo := hB_bo.ext hE9
  replace o_a := o_a.ext hE9
  refine go_ (hq := ?_)
  refine store_ hB_ba (h := fun H11 hM11 hsz11 hB_ba => ?_)
  replace hX := hX.mut hM11 hf_hB_ba
  replace hXs := hX.size
  replace hm := hm0.ext hX
  replace ht := ht0.ext hX
  replace hr := hr0.ext hX
  replace hB_bt := hB_bt.mutF hM11 (hs_hB_bt_hB_ba.symm)
  replace hB_bo := hB_bo.mutF hM11 (hs_hB_bo_hB_ba.symm)
  replace o_a := o_a.mutF hM11 (hs_o_a_hB_ba.symm)
  refine go_ (hq := ?_)
  refine st_alloc fun bn H13 hE13 hge_bn hB_bn => ?_
  have hs_hB_bt_hB_bn : Apt (fB bt) (fB bn) := Apt.new hB_bt.old (Frs.blk hge_bn)
  have hs_hB_bo_hB_bn : Apt (fB bo) (fB bn) := Apt.new hB_bo.old (Frs.blk hge_bn)
  have hs_o_a_hB_bn : Apt (fO had.val) (fB bn) := Apt.new o_a.old (Frs.blk hge_bn)
  have hs_hB_ba_hB_bn : Apt (fB ba) (fB bn) := Apt.new hB_ba.old (Frs.blk hge_bn)
  have hf_hB_bn : Frs H (fB bn) := Frs.mono (Frs.blk hge_bn) hXs
  replace hX := hX.trans hE13
  replace hXs := hX.size
  replace hm := hm0.ext hX
  replace ht := ht0.ext hX
  replace hr := hr0.ext hX
  replace hB_bt := hB_bt.ext hE13
  replace hB_bo := hB_bo.ext hE13
  replace o_a := o_a.ext hE13
  replace hB_ba := hB_ba.ext hE13
  refine go_ (hq := ?_)
  refine store_ hB_bn (h := fun H15 hM15 hsz15 hB_bn => ?_)
  replace hX := hX.mut hM15 hf_hB_bn
  replace hXs := hX.size
  replace hm := hm0.ext hX
  replace ht := ht0.ext hX
  replace hr := hr0.ext hX
  replace hB_bt := hB_bt.mutF hM15 (hs_hB_bt_hB_bn.symm)
  replace hB_bo := hB_bo.mutF hM15 (hs_hB_bo_hB_bn.symm)
  replace o_a := o_a.mutF hM15 (hs_o_a_hB_bn.symm)
  replace hB_ba := hB_ba.mutF hM15 (hs_hB_ba_hB_bn.symm)
  refine go_ (hq := ?_)
  refine draw_ mixed (Q := _) 1 [0,1,2,3] (h := ?_)
  refine go_ (hq := ?_)
  have o_m : Own H15 H.size 3 (.slice none 0 0) ([] : List Int) := Own.nil _ _ _
  have hs_hB_bt_o_m : Apt (fB bt) (fO (.slice none 0 0)) := (Apt.nil _).symm
  have hs_hB_bo_o_m : Apt (fB bo) (fO (.slice none 0 0)) := (Apt.nil _).symm
  have hs_o_a_o_m : Apt (fO had.val) (fO (.slice none 0 0)) := (Apt.nil _).symm
  have hs_hB_ba_o_m : Apt (fB ba) (fO (.slice none 0 0)) := (Apt.nil _).symm
  have hs_hB_bn_o_m : Apt (fB bn) (fO (.slice none 0 0)) := (Apt.nil _).symm
  have hf_o_m : Frs H (fO (.slice none 0 0)) := Frs.nil
  refine append_ o_m hm (h := fun w H20 n_20 hM20 hF20 hN20 => ?_)
  have hq_hB_bt := hs_hB_bt_o_m.symm
  have hq_hB_bo := hs_hB_bo_o_m.symm
  have hq_o_a := hs_o_a_o_m.symm
  have hq_hB_ba := hs_hB_ba_o_m.symm
  have hq_hB_bn := hs_hB_bn_o_m.symm
  have hfq := hf_o_m
  replace hs_hB_bt_o_m : Apt (fB bt) (fO w) := ((hs_hB_bt_o_m.symm).app hF20 hB_bt.old).symm
  replace hs_hB_bo_o_m : Apt (fB bo) (fO w) := ((hs_hB_bo_o_m.symm).app hF20 hB_bo.old).symm
  replace hs_o_a_o_m : Apt (fO had.val) (fO w) := ((hs_o_a_o_m.symm).app hF20 o_a.old).symm
  replace hs_hB_ba_o_m : Apt (fB ba) (fO w) := ((hs_hB_ba_o_m.symm).app hF20 hB_ba.old).symm
  replace hs_hB_bn_o_m : Apt (fB bn) (fO w) := ((hs_hB_bn_o_m.symm).app hF20 hB_bn.old).symm
  replace hf_o_m : Frs H (fO w) := Frs.app hf_o_m hF20 hXs
  replace hX := hX.mut hM20 hfq
  replace hXs := hX.size
  replace hm := hm0.ext hX
  replace ht := ht0.ext hX
  replace hr := hr0.ext hX
  replace hB_bt := hB_bt.mutF hM20 hq_hB_bt
  replace hB_bo := hB_bo.mutF hM20 hq_hB_bo
  replace o_a := o_a.mutF hM20 hq_o_a
  replace hB_ba := hB_ba.mutF hM20 hq_hB_ba
  replace hB_bn := hB_bn.mutF hM20 hq_hB_bn
  replace o_m := n_20
  have hfit : Fit xss xs.length xs (List.replicate xss.length 0) := ⟨rfl, by simp, fun p hp => by simp [List.getD, hp]⟩
  have hrem : remOf xss (List.replicate xss.length 0) < (13 : Nat) := by
    have e1 : (xss.map fun l => (l.length : Int)).sum = (sumLen xss : Nat) := sumLen_map xss
    have e2 : (List.replicate xss.length (0 : Int)).sum = 0 := by simp
    unfold remOf; omega
  have hP : PJ H _ bt ba bn bo htd.val had.val (.slice none 0 0) (List.replicate xss.length 0) [] [] := ⟨hX, hf_hB_bo.ge, hB_bt, hB_ba, hB_bn, hB_bo, o_a, Own.nil _ _ _, ROwn.nil,
    ⟨hs_hB_bt_hB_bo.ne, hs_hB_bo_hB_ba.ne.symm, hs_hB_bo_hB_bn.ne.symm⟩, Apt.nil _, ?_, (Apt.nil _).symm, Apt.rnil _, Apt.rnil _, Apt.rnil _⟩
  · skip
    refine go_ (hq := ?_)
    refine callv_ (hc := all_walk ht0 hr0 hfine 13 xs (List.replicate xss.length 0) w [] _ _ [] hP o_m ?_ (Apt.nil _).symm hs_o_a_o_m.symm hfit hrem (by simp) (by simp)) (h := ?_)
    · intro k hk hx
      rcases hx with h | h | h | h
      · exact hs_hB_bt_o_m.symm k hk h
      · exact hs_hB_ba_o_m.symm k hk h
      · exact hs_hB_bn_o_m.symm k hk h
      · exact hs_hB_bo_o_m.symm k hk h
    · rintro v9 H9 ⟨rfl, vo2, hs2, hP2, hM2, hvo2, hhs2⟩
      simp only [put]
      have xbo := hP2.xbo
      refine go_ (hq := ?_)
      refine ret1_ (h := ?_)
      exact ⟨hs2, ⟨hP2.ov.sl, hP2.rw_.rows⟩, hP2.xe⟩
  · intro k hk hx
    rcases hx with h | h | h | h
    · exact hs_hB_bt_o_a.symm k hk h
    · exact hs_o_a_hB_ba k hk h
    · exact hs_o_a_hB_bn k hk h
    · exact hs_hB_bo_o_a.symm k hk h
end Go.Proofs.Ytpkigjlnbfgjcaa
