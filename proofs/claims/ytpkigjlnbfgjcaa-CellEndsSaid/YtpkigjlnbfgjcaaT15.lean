/- cellBegun. -/
import Derived.Test.YtpkigjlnbfgjcaaT14
namespace Go.Proofs.Ytpkigjlnbfgjcaa
open Go.TM
open Go.TM.Cell (enc)
set_option maxRecDepth 20000
set_option maxHeartbeats 4000000
variable {H H' H₀ : Heap}
def addOne : List OpD := [⟨3, 0, 1, 0⟩]
theorem begun_ends : endsOf [0] [addOne, addOne] = [[2]] := by kernel_rfl
theorem begun_fault : endsFault 1 [addOne, addOne] = ⟨0, 0⟩ := by decide
theorem cellBegun_spec (hsort : SortOK) : CallsH PG 8 #[] H fun v H' => v = .bool true ∧ Ext H H' := by
  have hX := Ext.refl H
  have hXs := hX.size
  refine callsH_of_W (args := []) (ρ₀ := (fun _ => undef)) rfl Try.func8 rfl (by kernel_rfl) ?_
  refine go_ (hq := ?_)
  refine lit_ addOne (h := fun lv H2 n_2 hE2 hN2 => ?_)
  have hf_o_l : Frs H (fO lv) := Frs.mono (Own.frs n_2 (Nat.le_refl _)) hXs
  have o_l := n_2.mono hXs
  replace hX := hX.trans hE2
  replace hXs := hX.size
  obtain ⟨hdl, rfl⟩ := o_l.sl.hdrOf
  refine go_ (hq := ?_)
  refine lit_ [(0 : Int)] (h := fun zv H5 n_5 hE5 hN5 => ?_)
  have hs_o_l_o_z : Apt (fO hdl.val) (fO zv) := Apt.new o_l.old (Own.frs n_5 (Nat.le_refl _))
  have hf_o_z : Frs H (fO zv) := Frs.mono (Own.frs n_5 (Nat.le_refl _)) hXs
  have o_z := n_5.mono hXs
  replace hX := hX.trans hE5
  replace hXs := hX.size
  replace o_l := o_l.ext hE5
  refine go_ (hq := ?_)
  refine lit_ [hdl, hdl] (h := fun tv H7 n_7 hE7 hN7 => ?_)
  have hs_o_l_o_t : Apt (fO hdl.val) (fO tv) := Apt.new o_l.old (Own.frs n_7 (Nat.le_refl _))
  have hs_o_z_o_t : Apt (fO zv) (fO tv) := Apt.new o_z.old (Own.frs n_7 (Nat.le_refl _))
  have hf_o_t : Frs H (fO tv) := Frs.mono (Own.frs n_7 (Nat.le_refl _)) hXs
  have o_t := n_7.mono hXs
  replace hX := hX.trans hE7
  replace hXs := hX.size
  replace o_l := o_l.ext hE7
  replace o_z := o_z.ext hE7
  refine go_ (hq := ?_)
  have hsl : Sl2 _ tv [hdl, hdl] [addOne, addOne] := ⟨o_t.sl, Rows.cons o_l.sl (Rows.cons o_l.sl Rows.nil)⟩
  refine call_ (hc := ends_spec hsort o_z.sl (by decide) hsl ?_) (h := ?_)
  · intro ms hp _ i hi
    rw [begun_ends] at hp
    have := hp.length_eq
    simp at this; omega
  · rintro v9 H9 ⟨ev, rfl, hE, hres⟩
    simp only [put]
    replace hX := hX.trans hE
    replace hXs := hX.size
    replace o_l := o_l.ext hE
    replace o_z := o_z.ext hE
    replace o_t := o_t.ext hE
    have hf : endsFault [(0 : Int)].length [addOne, addOne] = ⟨0, 0⟩ := begun_fault
    rw [hf] at hres ⊢
    rcases hres with ⟨h, _⟩ | ⟨_, hs, ms, hsl2, hperm, _⟩
    · exact absurd rfl h
    · skip
      rw [begun_ends] at hperm
      have hms : ms = [[2]] := List.perm_singleton.1 hperm
      subst hms
      have hX0 := hX
      have hb : (decide ((⟨0, 0⟩ : FaultD).code = 0) == true) = true := by decide
      have hsl20 := hsl2
      have hX := Ext.refl H9
      have hXs := hX.size
      refine go_ (hq := ?_)
      refine st_alloc fun b H11 hE11 hge_b hB_b => ?_
      have hf_hB_b : Frs H9 (fB b) := Frs.mono (Frs.blk hge_b) hXs
      replace hX := hX.trans hE11
      replace hXs := hX.size
      replace hsl2 := hsl20.ext hX
      refine go_ (hq := ?_)
      refine store_ hB_b (h := fun H13 hM13 hsz13 hB_b => ?_)
      replace hX := hX.mut hM13 hf_hB_b
      replace hXs := hX.size
      replace hsl2 := hsl20.ext hX
      refine go_ (hq := ?_)
      refine ung_ hb (h := ?_)
      refine lit_ [(2 : Int)] (h := fun rv H15 n_15 hE15 hN15 => ?_)
      have hs_hB_b_o_r : Apt (fB b) (fO rv) := Apt.new hB_b.old (Own.frs n_15 (Nat.le_refl _))
      have hf_o_r : Frs H9 (fO rv) := Frs.mono (Own.frs n_15 (Nat.le_refl _)) hXs
      have o_r := n_15.mono hXs
      replace hX := hX.trans hE15
      replace hXs := hX.size
      replace hsl2 := hsl20.ext hX
      replace hB_b := hB_b.ext hE15
      obtain ⟨hdr, rfl⟩ := o_r.sl.hdrOf
      refine go_ (hq := ?_)
      refine ung_ hb (h := ?_)
      refine lit_ [hdr] (h := fun qv H18 n_18 hE18 hN18 => ?_)
      have hs_hB_b_o_q : Apt (fB b) (fO qv) := Apt.new hB_b.old (Own.frs n_18 (Nat.le_refl _))
      have hs_o_r_o_q : Apt (fO hdr.val) (fO qv) := Apt.new o_r.old (Own.frs n_18 (Nat.le_refl _))
      have hf_o_q : Frs H9 (fO qv) := Frs.mono (Own.frs n_18 (Nat.le_refl _)) hXs
      have o_q := n_18.mono hXs
      replace hX := hX.trans hE18
      replace hXs := hX.size
      replace hsl2 := hsl20.ext hX
      replace hB_b := hB_b.ext hE18
      replace o_r := o_r.ext hE18
      refine go_ (hq := ?_)
      refine callg_ hb (hc := lists_spec hsl2 ⟨o_q.sl, Rows.cons o_r.sl Rows.nil⟩) (h := ?_)
      rintro v10 H10 ⟨rfl, hE10⟩
      replace hX := hX.trans hE10
      replace hXs := hX.size
      replace hsl2 := hsl20.ext hX
      replace hB_b := hB_b.ext hE10
      replace o_r := o_r.ext hE10
      replace o_q := o_q.ext hE10
      refine go_ (hq := ?_)
      refine ret1_ (h := ?_)
      exact ⟨by simp, hX0.trans hX⟩
end Go.Proofs.Ytpkigjlnbfgjcaa
