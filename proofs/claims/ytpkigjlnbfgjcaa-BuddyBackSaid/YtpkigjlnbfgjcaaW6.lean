/- BuddyBack: what is taken, and given back, leaves the space as it was. No condition: for every space and number. -/
import Derived.Test.YtpkigjlnbfgjcaaW0
import Derived.Test.YtpkigjlnbfgjcaaW5
namespace Go.Proofs.Ytpkigjlnbfgjcaa.buddyBack
open Go.TM Go.ChangeShapes Go.WideShapes Go.ChangeAt Go.RowKit
open Go.TM.Cell (enc)
set_option maxRecDepth 100000 in
theorem lifted (os : Os) (started : os.Started) (H : Type) (enc : TypeId × Value → H) :
    ReturnsInHanded {} Try.checked os 6 .any (Rows.buddyBackSpec.pre6 enc Try.prog Try.f6 Rows.buddyBackRow.domain false) (Rows.buddyBackSpec.post enc Try.prog Try.f6 false true false false) := by
  refine returnsInHanded_of_change_sized (C := Try.checked) ownKnob_ started (by kernel_rfl) Try.func6
    (ChangeSpec.witness6 (enc := enc) (C := Try.checked) false ⟨#[], #[.agg #[.int .i64 0, .slice none 0 0, .slice none 0 0], .int .i64 0], []⟩ 8 (by kernel_rfl) (by kernel_rfl) (by kernel_rfl) (by kernel_rfl)) ?_
  intro W base args ds gs before hval hW hcnd hsz _
  have hW' := hW
  obtain ⟨p, q, hA0, hV, rfl, hfz, hnd⟩ := hW
  have hA : DataW.TrodAll enc Try.prog W 0 (fun _ => true) true Try.f6.params.toList args.toList ds p := hA0
  rw [Try.params6] at hA hsz
  obtain ⟨v0, vs0, d0, ds0, p0, q0, hargs, rfl, rfl, ⟨n0, h0⟩, r0⟩ := trodAll_cons hA
  obtain ⟨v1, vs1, d1, ds1, p1, q1, rfl, rfl, rfl, ⟨n1, h1⟩, r1⟩ := trodAll_cons r0
  obtain ⟨rfl, rfl, rfl⟩ := trodAll_nil r1
  obtain rfl : args = #[v0, v1] := by cases args; simp_all
  obtain ⟨rfl, rfl⟩ := trodVars_none hV
  obtain ⟨n, rfl⟩ := okWide_int Try.underlying3 (hval 1 3 v1 rfl rfl)
  have hsz0 : (DataW.weights Try.prog 41 d0).all (· ≤ reachBytes) = true := by
    rw [List.all_eq_true] at hsz ⊢
    intro x hx
    refine hsz x ?_
    simp only [List.cons_append, List.nil_append, DataW.weightsEach, List.mem_append]
    exact .inl hx
  obtain ⟨hu, hf, s, e0, g1, g2, hb, hr, hl1, hl2⟩ := open_space h0 hsz0
  obtain rfl := space_val e0
  refine law_calls rfl rfl (by decide) hW' ?_ ?_ ?_ ?_
  · rfl
  · rfl
  · rfl
  · exact back_walk n g1 g2 hb ⟨hl1, hl2⟩ hr
theorem over : Rows.buddyBackRow.holds Try.pinned (OpenSpec.ofChange Rows.buddyBackSpec) :=
  OpenClaim.holds_of_wide 6 Try.f6 rfl rfl rfl rfl rfl rfl rfl ⟨rfl, rfl, rfl, rfl, rfl⟩ rfl rfl rfl rfl rfl (by kernel_rfl) Try.func6 (by kernel_rfl)
    (of_decide_eq_true (by kernel_rfl)) (by unfold Func.isWrapper; first | (rw [if_pos (by decide +kernel)]; kernel_rfl) | (rw [if_neg (by decide +kernel)]; exact ⟨rfl, rfl⟩))
    (fun os started H enc _ => lifted os started H enc)
end Go.Proofs.Ytpkigjlnbfgjcaa.buddyBack
namespace Go.Proofs.Ytpkigjlnbfgjcaa
theorem buddyBack_proved : Rows.BuddyBackSaid := buddyBack.over
#print axioms buddyBack_proved
end Go.Proofs.Ytpkigjlnbfgjcaa
