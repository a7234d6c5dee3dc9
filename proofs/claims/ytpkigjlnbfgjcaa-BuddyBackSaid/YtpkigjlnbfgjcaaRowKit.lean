/- What a law's row asks of this program's types. -/
import Derived.Test.YtpkigjlnbfgjcaaRows
import Derived.Test.YtpkigjlnbfgjcaaElem
import Derived.Test.YtpkigjlnbfgjcaaBase9
import Derived.SizedLaws
import Derived.ChangeBears
import Derived.ReadAgain
namespace Go.Proofs.Ytpkigjlnbfgjcaa
open Go.TM Go.ChangeShapes Go.WideShapes Go.ChangeAt Go.RowKit
open Go.TM.Cell (enc)
theorem ownKnob_ : ownKnob Try.prog.godebug = none := by kernel_rfl
theorem kids_ : Kids Try.prog (· < Try.prog.types.size) := kids_rows (by kernel_rfl) (by kernel_rfl)
theorem full_ : ∀ {t e : TypeId}, t < Try.prog.types.size → Try.prog.underlying t = some (.slice e) → 0 < Try.prog.cellsOf e := fun {t e} => slices_full_of Try.prog (by kernel_rfl) t e
theorem flatInt : Flat Try.prog 3 Int R64w := Flat.int Try.underlying3 (by kernel_rfl)
/-- A law's call, as the row has it. -/
theorem law_calls {H : Type} {enc : TypeId × Value → H} {f : FuncId} {fn : Func} {s : ChangeSpec} {W : World} {args : Array Value} {ds gs : List (DataW H)} {before : List MemPlace} (hres : fn.resultTypes = #[4]) (hv0 : s.vars = []) (hT : ∀ t ∈ fn.params.toList, t < Try.prog.types.size)
    (hW : DataW.Whole enc Try.prog fn.params.toList s.vars false W args.toList ds gs before) (hr : (s.fn H (ds ++ gs)).results = [.lit (.bool true)]) (ha : (s.fn H (ds ++ gs)).args = ds) (hvs : (s.fn H (ds ++ gs)).vars = []) (hc : LawH Try.prog f args W.heap) :
    Calls Try.prog f args W fun e W' => ∃ v, e = .returned v ∧ s.post enc Try.prog fn false true false false W args v W' :=
  (hc W rfl).mono fun e W' ⟨v, he, l, hv, hE⟩ => ⟨v, he, by rw [hv]; exact law_post kids_ full_ Try.underlying4 hres hv0 hT hW hr ha hvs l hE⟩
end Go.Proofs.Ytpkigjlnbfgjcaa
