/- The document's example. -/
import Derived.Test.YtpkigjlnbfgjcaaUF
namespace Go.Proofs.Ytpkigjlnbfgjcaa
open Go.TM
open Go.TM.Cell (enc)
set_option maxRecDepth 20000
set_option maxHeartbeats 4000000
variable {H : Heap}
theorem begun_take : takeV (newS 3) 3 = (⟨3, [⟨0, 4⟩], [⟨4, 4⟩]⟩, 0, ⟨0, 0⟩) := by
  have hf : (faultR (newS 3)).code = 0 := by decide
  have hm : mOf 3 = 2 := mOf_eq ⟨by decide, fun m' hm => by
    match m', hm with
    | 0, _ => decide
    | 1, _ => decide⟩
  have hb : bestI (newS 3).free 3 = some 0 := bestI_some ⟨by decide, by decide, fun j hj _ => by
    have : j = 0 := by simp [newS] at hj; exact hj
    subst this; exact Int.le_refl _, fun j hj => by omega⟩
  have hT : takeT (newS 3) 3 0 = ⟨3, [⟨0, 4⟩], [⟨4, 4⟩]⟩ := by
    rw [takeT, hm]
    have e : expOf ((newS 3).free.getD 0 default).size = 3 := expOf_pow 3
    rw [e]
    decide
  rw [takeV, if_neg (fun h => h hf), if_neg (by decide), hb]
  simp only [hT]
  decide
def ex4 : List BlockD := [⟨4, 4⟩]
theorem begun_spec : CallsH PG 18 #[] H fun v H' => v = .bool true ∧ Ext H H' := by
  have hX := Ext.refl H
  have hXs := hX.size
  refine callsH_of_W (args := []) (ρ₀ := (fun _ => undef)) rfl Try.func18 rfl (by kernel_rfl) ?_
  refine go_ (hq := ?_)
  refine call_ (hc := new_spec 3) (h := ?_)
  rintro v1 H1 ⟨sv, rfl, ⟨hu, hf, rfl, e1, e2⟩, hE1⟩
  have en : newP 3 = (newS 3, ⟨0, 0⟩) := by decide
  rw [en] at e1 e2
  rw [en]
  dsimp only at e1 e2 ⊢
  simp only [put]
  have e10 := e1
  have e20 := e2
  have hX := Ext.refl H1
  have hXs := hX.size
  refine go_ (hq := ?_)
  refine st_alloc fun b1 H3 hE3 hge_b1 hB_b1 => ?_
  have hf_hB_b1 : Frs H1 (fB b1) := Frs.mono (Frs.blk hge_b1) hXs
  replace hX := hX.trans hE3
  replace hXs := hX.size
  replace e1 := e10.ext hX
  replace e2 := e20.ext hX
  refine go_ (hq := ?_)
  refine st_alloc fun b2 H5 hE5 hge_b2 hB_b2 => ?_
  have hs_hB_b1_hB_b2 : Apt (fB b1) (fB b2) := Apt.new hB_b1.old (Frs.blk hge_b2)
  have hf_hB_b2 : Frs H1 (fB b2) := Frs.mono (Frs.blk hge_b2) hXs
  replace hX := hX.trans hE5
  replace hXs := hX.size
  replace e1 := e10.ext hX
  replace e2 := e20.ext hX
  replace hB_b1 := hB_b1.ext hE5
  refine go_ (hq := ?_)
  refine store_ hB_b1 (h := fun H7 hM7 hsz7 hB_b1 => ?_)
  replace hX := hX.mut hM7 hf_hB_b1
  replace hXs := hX.size
  replace e1 := e10.ext hX
  replace e2 := e20.ext hX
  replace hB_b2 := hB_b2.mutF hM7 hs_hB_b1_hB_b2
  refine go_ (hq := ?_)
  refine store_ hB_b2 (h := fun H9 hM9 hsz9 hB_b2 => ?_)
  replace hX := hX.mut hM9 hf_hB_b2
  replace hXs := hX.size
  replace e1 := e10.ext hX
  replace e2 := e20.ext hX
  replace hB_b1 := hB_b1.mutF hM9 (hs_hB_b1_hB_b2.symm)
  refine go_ (hq := ?_)
  refine call_ (hc := take_spec (s := newS 3) 3 e1 e2 (by unfold R64x newS; decide) (by decide) (by intro b hb; simp [newS] at hb; subst hb; unfold BR R64x; decide)) (h := ?_)
  rintro v2 H2 ⟨sv2, rfl, h9, hE2⟩
  rw [begun_take] at h9
  obtain ⟨du, df, rfl, f1, f2⟩ := h9
  rw [begun_take]
  dsimp only at f1 f2 ⊢
  replace hX := hX.trans hE2
  replace hXs := hX.size
  replace e1 := e10.ext hX
  replace e2 := e20.ext hX
  replace hB_b1 := hB_b1.ext hE2
  replace hB_b2 := hB_b2.ext hE2
  have sS : SlS _ df.val ex4 := f2.sl
  simp only [put]
  refine go_ (hq := ?_)
  refine st_alloc fun b3 H14 hE14 hge_b3 hB_b3 => ?_
  have hs_hB_b1_hB_b3 : Apt (fB b1) (fB b3) := Apt.new hB_b1.old (Frs.blk hge_b3)
  have hs_hB_b2_hB_b3 : Apt (fB b2) (fB b3) := Apt.new hB_b2.old (Frs.blk hge_b3)
  have hs_sS_hB_b3 : Apt (fS df.val ex4) (fB b3) := Apt.new sS.old (Frs.blk hge_b3)
  have hf_hB_b3 : Frs H1 (fB b3) := Frs.mono (Frs.blk hge_b3) hXs
  replace hX := hX.trans hE14
  replace hXs := hX.size
  replace e1 := e10.ext hX
  replace e2 := e20.ext hX
  replace hB_b1 := hB_b1.ext hE14
  replace hB_b2 := hB_b2.ext hE14
  replace sS := sS.ext hE14
  refine go_ (hq := ?_)
  refine st_alloc fun b4 H16 hE16 hge_b4 hB_b4 => ?_
  have hs_hB_b1_hB_b4 : Apt (fB b1) (fB b4) := Apt.new hB_b1.old (Frs.blk hge_b4)
  have hs_hB_b2_hB_b4 : Apt (fB b2) (fB b4) := Apt.new hB_b2.old (Frs.blk hge_b4)
  have hs_sS_hB_b4 : Apt (fS df.val ex4) (fB b4) := Apt.new sS.old (Frs.blk hge_b4)
  have hs_hB_b3_hB_b4 : Apt (fB b3) (fB b4) := Apt.new hB_b3.old (Frs.blk hge_b4)
  have hf_hB_b4 : Frs H1 (fB b4) := Frs.mono (Frs.blk hge_b4) hXs
  replace hX := hX.trans hE16
  replace hXs := hX.size
  replace e1 := e10.ext hX
  replace e2 := e20.ext hX
  replace hB_b1 := hB_b1.ext hE16
  replace hB_b2 := hB_b2.ext hE16
  replace sS := sS.ext hE16
  replace hB_b3 := hB_b3.ext hE16
  refine go_ (hq := ?_)
  refine store_ hB_b3 (h := fun H18 hM18 hsz18 hB_b3 => ?_)
  replace hX := hX.mut hM18 hf_hB_b3
  replace hXs := hX.size
  replace e1 := e10.ext hX
  replace e2 := e20.ext hX
  replace hB_b1 := hB_b1.mutF hM18 (hs_hB_b1_hB_b3.symm)
  replace hB_b2 := hB_b2.mutF hM18 (hs_hB_b2_hB_b3.symm)
  replace sS := sS.mutF hM18 (hs_sS_hB_b3.symm)
  replace hB_b4 := hB_b4.mutF hM18 hs_hB_b3_hB_b4
  refine go_ (hq := ?_)
  refine store_ hB_b4 (h := fun H20 hM20 hsz20 hB_b4 => ?_)
  replace hX := hX.mut hM20 hf_hB_b4
  replace hXs := hX.size
  replace e1 := e10.ext hX
  replace e2 := e20.ext hX
  replace hB_b1 := hB_b1.mutF hM20 (hs_hB_b1_hB_b4.symm)
  replace hB_b2 := hB_b2.mutF hM20 (hs_hB_b2_hB_b4.symm)
  replace sS := sS.mutF hM20 (hs_sS_hB_b4.symm)
  replace hB_b3 := hB_b3.mutF hM20 (hs_hB_b3_hB_b4.symm)
  refine go_ (hq := ?_)
  have hp : ((decide ((⟨0, 0⟩ : FaultD).code = 0) && decide ((⟨0, 0⟩ : FaultD).code = 0) && decide ((0 : Int) = 0)) == true) = true := by decide
  refine ung_ hp (h := ?_)
  refine st_lit ex4 rfl rfl rfl (by decide) (by decide) (by repeat (first | exact PV.nil | (apply PV.cons; (focus (exact lg_))))) rfl (h := fun vl H9 o9 hE9 hN9 => ?_)
  replace hX := hX.trans hE9
  replace hXs := hX.size
  replace e1 := e10.ext hX
  replace e2 := e20.ext hX
  replace hB_b1 := hB_b1.ext hE9
  replace hB_b2 := hB_b2.ext hE9
  replace sS := sS.ext hE9
  replace hB_b3 := hB_b3.ext hE9
  replace hB_b4 := hB_b4.ext hE9
  have sE : SlE _ df.val ex4 := sS
  refine go_ (hq := ?_)
  refine callg_ hp (hc := sameBlocks_spec sE o9.sl) (h := ?_)
  rintro v8 H8 ⟨rfl, hE8⟩
  replace hX := hX.trans hE8
  replace hXs := hX.size
  replace e1 := e10.ext hX
  replace e2 := e20.ext hX
  replace hB_b1 := hB_b1.ext hE8
  replace hB_b2 := hB_b2.ext hE8
  replace sS := sS.ext hE8
  replace hB_b3 := hB_b3.ext hE8
  replace hB_b4 := hB_b4.ext hE8
  refine go_ (hq := ?_)
  refine ret1_ (h := ?_)
  refine ⟨?_, hE1.trans hX⟩
  congr 1
end Go.Proofs.Ytpkigjlnbfgjcaa
