/- Ran; what ops do; Do. -/
import Derived.Test.YtpkigjlnbfgjcaaT4
namespace Go.Proofs.Ytpkigjlnbfgjcaa
open Go.TM
open Go.TM.Cell (enc)
set_option maxRecDepth 20000
variable {H : Heap}
def ranL : List Int → List OpD → List Int × List Int
  | m, [] => (m, [])
  | m, o :: r => let d := opDone (m.getD o.at_.toNat 0) o; let q := ranL (m.set o.at_.toNat d.1) r; (q.1, d.2 :: q.2)
theorem ran_spec {a o : Value} {xs : List Int} {l : List OpD} (ha : SlE H a xs) (ho : SlE H o l) (hn : xs.length * 8 ≤ 140737488355328) (hl : l.length ≤ 5000) (hat : ∀ x ∈ l, 0 ≤ x.at_ ∧ x.at_ < xs.length) :
    CallsH PG 42 #[a, o] H fun v H' => ∃ vm vo, v = .tuple #[vm, vo] ∧ Own H' H.size 3 vm (ranL xs l).1 ∧ Own H' H.size 3 vo (ranL xs l).2 ∧ Ext H H' := by
  have ha0 := ha
  have ho0 := ho
  have hX := Ext.refl H
  have hXs := hX.size
  refine callsH_of_W (args := [a, o]) (ρ₀ := (upd (upd (fun _ => undef) 1 o) 0 a)) rfl Try.func42 rfl (by kernel_rfl) ?_
  refine go_ (hq := ?_)
  have o_m : Own H H.size 3 (.slice none 0 0) ([] : List Int) := Own.nil _ _ _
  have hf_o_m : Frs H (fO (.slice none 0 0)) := Frs.nil
  refine append_ o_m ha (h := fun v H3 n_3 hM3 hF3 hN3 => ?_)
  have hfq := hf_o_m
  replace hf_o_m : Frs H (fO v) := Frs.app hf_o_m hF3 hXs
  replace hX := hX.mut hM3 hfq
  replace hXs := hX.size
  replace ha := ha0.ext hX
  replace ho := ho0.ext hX
  replace o_m := n_3
  refine go_ (hq := ?_)
  have o_out : Own H3 H.size 3 (.slice none 0 0) ([] : List Int) := Own.nil _ _ _
  have hs_o_m_o_out : Apt (fO v) (fO (.slice none 0 0)) := (Apt.nil _).symm
  have hf_o_out : Frs H (fO (.slice none 0 0)) := Frs.nil
  refine W_loop (X := Nat × Value × List Int × Value × List Int) (fun x => [(1, o), (6, x.2.1), (7, x.2.2.2.1), (8, .int .i64 x.1)])
    (fun x H' => Ext H H' ∧ Own H' H.size 3 x.2.1 x.2.2.1 ∧ Own H' H.size 3 x.2.2.2.1 x.2.2.2.2 ∧ SepL [fO x.2.1, fO x.2.2.2.1] ∧ x.1 ≤ l.length ∧ x.2.2.2.2.length = x.1 ∧ x.2.2.1.length = xs.length ∧
      ranL xs l = ((ranL x.2.2.1 (l.drop x.1)).1, x.2.2.2.2 ++ (ranL x.2.2.1 (l.drop x.1)).2)) (fun x => l.length - x.1) (0, v, xs, .slice none 0 0, []) ?_ ?_ ?_
  · exact hold_
  · exact ⟨hX, o_m, o_out, (sep_cons (sepa_cons (hs_o_m_o_out) sepa_nil) (sep_cons sepa_nil sep_nil)), Nat.zero_le _, rfl, rfl, rfl⟩
  · clear hX ha ho o_m o_out
    rintro u ⟨k, vm, m, vo, out⟩ H' ⟨hX, o_m, o_out, hS, hk, hol, hml, hall⟩
    dsimp only at hX o_m o_out hS hk hol hml hall ⊢
    have hXs := hX.size
    have ha := ha0.ext hX
    have ho := ho0.ext hX
    have hf_o_m : Frs H (fO vm) := o_m.frs (Nat.le_refl _)
    have hf_o_out : Frs H (fO vo) := o_out.frs (Nat.le_refl _)
    obtain ⟨⟨hs_o_m_o_out, -⟩, ⟨⟨-⟩, -⟩⟩ := hS
    refine go_ (hq := ?_)
    refine if_ (ht := fun h2 => ?_) (hf := fun h2 => ?_)
    · skip
      have hdr := drop_getD default l k (by omega)
      have hmem : l.getD k default ∈ l := by rw [List.getD_eq_getElem?_getD, List.getElem?_eq_getElem (by omega)]; exact List.getElem_mem _
      have hin := hat _ hmem
      rw [hdr] at hall
      simp only [ranL] at hall
      refine go_ (hq := ?_)
      refine draw_ mixed (Q := _) 0 [0,1,2,3,4,5,6,7,8,9,10,11,12,13,14,15,16,17] (h := ?_)
      refine go_ (hq := ?_)
      refine call_ (hc := done_spec (m.getD (l.getD k default).at_.toNat 0) (l.getD k default)) (h := ?_)
      rintro v11 H11 ⟨rfl, hE11⟩
      replace hX := hX.trans hE11
      replace hXs := hX.size
      replace ha := ha0.ext hX
      replace ho := ho0.ext hX
      replace o_m := o_m.ext hE11
      replace o_out := o_out.ext hE11
      simp only [put]
      refine go_ (hq := ?_)
      refine storee_ o_m ((opDone (m.getD (l.getD k default).at_.toNat 0) (l.getD k default)).1) (h := fun H13 hM13 hsz13 o_m => ?_)
      replace hX := hX.mut hM13 hf_o_m
      replace hXs := hX.size
      replace ha := ha0.ext hX
      replace ho := ho0.ext hX
      replace o_out := o_out.mutF hM13 hs_o_m_o_out
      try simp only [Int.toNat_natCast] at o_m
      refine go_ (hq := ?_)
      refine lit_ [(opDone (m.getD (l.getD k default).at_.toNat 0) (l.getD k default)).2] (h := fun vl H15 n_15 hE15 hN15 => ?_)
      have hs_o_m_o_l : Apt (fO vm) (fO vl) := Apt.new o_m.old (Own.frs n_15 (Nat.le_refl _))
      have hs_o_out_o_l : Apt (fO vo) (fO vl) := Apt.new o_out.old (Own.frs n_15 (Nat.le_refl _))
      have hf_o_l : Frs H (fO vl) := Frs.mono (Own.frs n_15 (Nat.le_refl _)) hXs
      have o_l := n_15.mono hXs
      replace hX := hX.trans hE15
      replace hXs := hX.size
      replace ha := ha0.ext hX
      replace ho := ho0.ext hX
      replace o_m := o_m.ext hE15
      replace o_out := o_out.ext hE15
      refine go_ (hq := ?_)
      refine append_ o_out o_l.sl (h := fun vo' H17 n_17 hM17 hF17 hN17 => ?_)
      have hq_o_m := hs_o_m_o_out.symm
      have hq_o_l := hs_o_out_o_l
      have hfq := hf_o_out
      replace hs_o_m_o_out : Apt (fO vm) (fO vo') := ((hs_o_m_o_out.symm).app hF17 o_m.old).symm
      replace hs_o_out_o_l : Apt (fO vo') (fO vl) := Apt.app hs_o_out_o_l hF17 o_l.old
      replace hf_o_out : Frs H (fO vo') := Frs.app hf_o_out hF17 hXs
      replace hX := hX.mut hM17 hfq
      replace hXs := hX.size
      replace ha := ha0.ext hX
      replace ho := ho0.ext hX
      replace o_m := o_m.mutF hM17 hq_o_m
      replace o_l := o_l.mutF hM17 hq_o_l
      replace o_out := n_17
      refine go_ (hq := ?_)
      refine ⟨(k + 1, vm, m.set (l.getD k default).at_.toNat (opDone (m.getD (l.getD k default).at_.toNat 0) (l.getD k default)).1, vo', out ++ [(opDone (m.getD (l.getD k default).at_.toNat 0) (l.getD k default)).2]), hold_, ⟨hX, o_m, o_out, (sep_cons (sepa_cons (hs_o_m_o_out) sepa_nil) (sep_cons sepa_nil sep_nil)), by omega, by simp; omega, by simpa using hml, ?_⟩, by dsimp only; omega⟩
      rw [hall]; simp
    · skip
      refine go_ (hq := ?_)
      refine ret2_ (h := ?_)
      rw [List.drop_of_length_le (by omega)] at hall
      simp only [ranL, List.append_nil] at hall
      rw [hall]
      exact ⟨_, _, rfl, o_m, o_out, hX⟩
end Go.Proofs.Ytpkigjlnbfgjcaa
