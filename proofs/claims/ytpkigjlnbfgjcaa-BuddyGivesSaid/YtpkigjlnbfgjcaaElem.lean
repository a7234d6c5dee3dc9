/- The rows' types of this program. -/
import Derived.Test.YtpkigjlnbfgjcaaTac
namespace Go.Proofs.Ytpkigjlnbfgjcaa
open Go.TM Go.Proofs
open Go.TM.Cell (enc)
instance : TElem PG 3 Int 8 := TElem.of 8 (by decide) (by kernel_rfl)
instance : TElem PG 22 Hdr 24 := TElem.of 24 (by decide) (by kernel_rfl)
instance : TElem PG 61 Hdr 24 := TElem.of 24 (by decide) (by kernel_rfl)
instance : TElem PG 60 OpD 32 := TElem.of 32 (by decide) (by kernel_rfl)
instance : TElem PG 51 BlockD 16 := TElem.of 16 (by decide) (by kernel_rfl)
instance : TElem PG 5 UInt8 1 := TElem.of 1 (by decide) (by kernel_rfl)
theorem stood28 : PG.stoodInHeld 28 = false := by kernel_rfl
instance : TEq2 PG 28 where
  guard := by kernel_rfl
  eq a b c d w := by
    rw [Op.equal, show Op.maxDepth = 9998 + 1 + 1 from rfl, Op.equalIn]
    simp [run_underlying Try.underlying28, stood28, part0, part1, eqInt Try.underlying3 9998]
    by_cases h1 : a = c <;> by_cases h2 : b = d <;> simp [h1, h2]
theorem stood51 : PG.stoodInHeld 51 = false := by kernel_rfl
instance : TEq2 PG 51 where
  guard := by kernel_rfl
  eq a b c d w := by
    rw [Op.equal, show Op.maxDepth = 9998 + 1 + 1 from rfl, Op.equalIn]
    simp [run_underlying Try.underlying51, stood51, part0, part1, eqInt Try.underlying3 9998]
    by_cases h1 : a = c <;> by_cases h2 : b = d <;> simp [h1, h2]
end Go.Proofs.Ytpkigjlnbfgjcaa
