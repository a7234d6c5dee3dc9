/- BuddyTakes: every Check, New and Take does what the document says to a space. No condition: for every space and numbers. -/
import Derived.Test.YtpkigjlnbfgjcaaW0
import Derived.Test.YtpkigjlnbfgjcaaW1
namespace Go.Proofs.Ytpkigjlnbfgjcaa.buddyTakes
open Go.TM Go.ChangeShapes Go.WideShapes Go.ChangeAt Go.RowKit
open Go.TM.Cell (enc)
set_option maxRecDepth 100000 in
theorem lifted (os : Os) (started : os.Started) (H : Type) (enc : TypeId × Value → H) :
    ReturnsInHanded {} Try.checked os 4 .any (Rows.buddyTakesSpec.pre6 enc Try.prog Try.f4 Rows.buddyTakesRow.domain false) (Rows.buddyTakesSpec.post enc Try.prog Try.f4 false true false false) := by
  refine returnsInHanded_of_change_sized (C := Try.checked) ownKnob_ started (by kernel_rfl) Try.func4
    (ChangeSpec.witness6 (enc := enc) (C := Try.checked) false ⟨#[], #[.agg #[.int .i64 0, .slice none 0 0, .slice none 0 0], .int .i64 0, .int .i64 0], []⟩ 8 (by kernel_rfl) (by kernel_rfl) (by kernel_rfl) (by kernel_rfl)) ?_
  intro W base args ds gs before hval hW hcnd hsz _
  have hW' := hW
  obtain ⟨p, q, hA0, hV, rfl, hfz, hnd⟩ := hW
  have hA : DataW.TrodAll enc Try.prog W 0 (fun _ => true) true Try.f4.params.toList args.toList ds p := hA0
  rw [Try.params4] at hA hsz
  obtain ⟨v0, vs0, d0, ds0, p0, q0, hargs, rfl, rfl, ⟨n0, h0⟩, r0⟩ := trodAll_cons hA
  obtain ⟨v1, vs1, d1, ds1, p1, q1, rfl, rfl, rfl, ⟨n1, h1⟩, r1⟩ := trodAll_cons r0
  obtain ⟨v2, vs2, d2, ds2, p2, q2, rfl, rfl, rfl, ⟨n2, h2⟩, r2⟩ := trodAll_cons r1
  obtain ⟨rfl, rfl, rfl⟩ := trodAll_nil r2
  obtain rfl : args = #[v0, v1, v2] := by cases args; simp_all
  obtain ⟨rfl, rfl⟩ := trodVars_none hV
  obtain ⟨n, rfl⟩ := okWide_int Try.underlying3 (hval 1 3 v1 rfl rfl)
  obtain ⟨bits, rfl⟩ := okWide_int Try.underlying3 (hval 2 3 v2 rfl rfl)
  have hsz0 : (DataW.weights Try.prog 41 d0).all (· ≤ reachBytes) = true := by
    rw [List.all_eq_true] at hsz ⊢
    intro x hx
    refine hsz x ?_
    simp only [List.cons_append, List.nil_append, DataW.weightsEach, List.mem_append]
    exact .inl hx
  obtain ⟨hu, hf, s, e0, g1, g2, hb, hr, hl1, hl2⟩ := open_space h0 hsz0
  obtain rfl := space_val e0
  refine law_calls rfl rfl (by decide) hW' ?_ ?_ ?_ ?_
  · rfl
  · rfl
  · rfl
  · exact takes_walk n bits g1 g2 hb ⟨hl1, hl2⟩ hr
theorem over : Rows.buddyTakesRow.holds Try.pinned (OpenSpec.ofChange Rows.buddyTakesSpec) :=
  OpenClaim.holds_of_wide 4 Try.f4 rfl rfl rfl rfl rfl rfl rfl ⟨rfl, rfl, rfl, rfl, rfl⟩ rfl rfl rfl rfl rfl (by kernel_rfl) Try.func4 (by kernel_rfl)
    (of_decide_eq_true (by kernel_rfl)) (by unfold Func.isWrapper; first | (rw [if_pos (by decide +kernel)]; kernel_rfl) | (rw [if_neg (by decide +kernel)]; exact ⟨rfl, rfl⟩))
    (fun os started H enc _ => lifted os started H enc)
end Go.Proofs.Ytpkigjlnbfgjcaa.buddyTakes
namespace Go.Proofs.Ytpkigjlnbfgjcaa
theorem buddyTakes_proved : Rows.BuddyTakesSaid := buddyTakes.over
#print axioms buddyTakes_proved
end Go.Proofs.Ytpkigjlnbfgjcaa
