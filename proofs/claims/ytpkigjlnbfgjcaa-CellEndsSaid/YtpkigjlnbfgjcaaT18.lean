/- The row of CellEnds, over the sort. -/
import Derived.Test.YtpkigjlnbfgjcaaRowKit
import Derived.Test.YtpkigjlnbfgjcaaT16
namespace Go.Proofs.Ytpkigjlnbfgjcaa.cellEnds
open Go.TM Go.ChangeShapes Go.WideShapes Go.ChangeAt Go.RowKit
open Go.TM.Cell (enc)
theorem flatOp : Flat Try.prog 60 OpD (fun o => R64w o.a ∧ R64w o.b) := ⟨by kernel_rfl, fun h => by
  obtain ⟨xs, h1, rfl, h2⟩ := ints_of_struct Try.underlying60 Try.underlying3 (by kernel_rfl) (by kernel_rfl) (by kernel_rfl) h
  match xs, h1 with
  | [k, at_, a, b], _ => exact ⟨⟨k, at_, a, b⟩, rfl, h2 _ (by simp), h2 _ (by simp)⟩⟩
set_option maxRecDepth 100000 in
theorem lifted (hsort : SortOK) (os : Os) (started : os.Started) (H : Type) (enc : TypeId × Value → H) :
    ReturnsInHanded {} Try.checked os 3 .any (Rows.cellEndsSpec.pre6 enc Try.prog Try.f3 Rows.cellEndsRow.domain false) (Rows.cellEndsSpec.post enc Try.prog Try.f3 false true false false) := by
  refine returnsInHanded_of_change_sized (C := Try.checked) ownKnob_ started (by kernel_rfl) Try.func3
    (ChangeSpec.witness6 (enc := enc) (C := Try.checked) false ⟨#[], #[.slice none 0 0, .slice none 0 0], []⟩ 8 (by kernel_rfl) (by kernel_rfl) (by kernel_rfl) (by kernel_rfl)) ?_
  intro W base args ds gs before hval hW hcnd hsz _
  have hW' := hW
  obtain ⟨p, q, hA0, hV, rfl, hfz, hnd⟩ := hW
  have hA : DataW.TrodAll enc Try.prog W 0 (fun _ => true) true Try.f3.params.toList args.toList ds p := hA0
  rw [Try.params3] at hA hsz
  obtain ⟨v0, vs0, d0, ds0, p0, q0, hargs, rfl, rfl, ⟨n0, h0⟩, r0⟩ := trodAll_cons hA
  obtain ⟨v1, vs1, d1, ds1, p1, q1, rfl, rfl, rfl, ⟨n1, h1⟩, r1⟩ := trodAll_cons r0
  obtain ⟨rfl, rfl, rfl⟩ := trodAll_nil r1
  obtain rfl : args = #[v0, v1] := by cases args; simp_all
  obtain ⟨rfl, rfl⟩ := trodVars_none hV
  obtain ⟨m, xs, e0, hm, hxs, hb⟩ := open_flat Try.underlying22 flatInt h0
  obtain ⟨t, hs, xss, e1, ht, hops⟩ := open_rows Try.underlying23 Try.underlying61 (by kernel_rfl) flatOp h1
  obtain ⟨va, vl, vc, rfl⟩ := okWide_slice Try.underlying22 (hval 0 22 v0 rfl rfl)
  obtain ⟨ua, ul, uc, rfl⟩ := okWide_slice Try.underlying23 (hval 1 23 v1 rfl rfl)
  have e0' : m = .slice va vl vc := by simpa [Value.cells] using e0.symm
  have e1' : t = .slice ua ul uc := by simpa [Value.cells] using e1.symm
  subst e0' e1'
  have hsz0 : (DataW.weights Try.prog 22 d0).all (· ≤ reachBytes) = true := by
    rw [List.all_eq_true] at hsz ⊢
    intro x hx
    refine hsz x ?_
    simp only [List.cons_append, List.nil_append, DataW.weightsEach, List.mem_append]
    exact .inl hx
  have hmb := hb _ hsz0
  have hby : Try.prog.bytesOf 3 = 8 := by kernel_rfl
  have hrb : reachBytes = 140737488351232 := by decide
  rw [hby, hrb] at hmb
  refine law_calls rfl rfl (by decide) hW' ?_ ?_ ?_ ?_
  · rfl
  · rfl
  · rfl
  · exact law_spec hsort hm ht (by omega) ⟨hxs, hops⟩
theorem over (hsort : SortOK) : Rows.cellEndsRow.holds Try.pinned (OpenSpec.ofChange Rows.cellEndsSpec) :=
  OpenClaim.holds_of_wide 3 Try.f3 rfl rfl rfl rfl rfl rfl rfl ⟨rfl, rfl, rfl, rfl, rfl⟩ rfl rfl rfl rfl rfl (by kernel_rfl) Try.func3 (by kernel_rfl)
    (of_decide_eq_true (by kernel_rfl)) (by unfold Func.isWrapper; first | (rw [if_pos (by decide +kernel)]; kernel_rfl) | (rw [if_neg (by decide +kernel)]; exact ⟨rfl, rfl⟩))
    (fun os started H enc _ => lifted hsort os started H enc)
end Go.Proofs.Ytpkigjlnbfgjcaa.cellEnds
