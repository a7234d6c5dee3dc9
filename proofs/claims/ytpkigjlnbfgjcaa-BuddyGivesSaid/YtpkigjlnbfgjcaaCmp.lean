/- '==' of structs of two numbers. -/
import Derived.Test.YtpkigjlnbfgjcaaBase8
namespace Go.TM
open _root_.Go.TM.Cell (enc)
/-- A struct type of two ints: how '==' runs. -/
class TEq2 (P : Program) (t : TypeId) : Prop where
  eq : ∀ (a b c d : Int) (w : World), (Op.equal t (.agg #[.int .i64 a, .int .i64 b]) (.agg #[.int .i64 c, .int .i64 d])).run P w = .ok (decide (a = c ∧ b = d)) w
  guard : P.eqGuardType P.depth t = false
variable {P : Program} {ρ : Env} {H : Heap} {d : Option Tmp} {ty : TypeId} {p : String} {e : Array Edge} {g : Option (Nat × Bool)}
theorem eqInt {t : TypeId} (ht : P.underlying t = some (.int .i64)) (n : Nat) (a b : Int) (w : World) : (Op.equalIn (n + 1) t (.int .i64 a) (.int .i64 b)).run P w = .ok (decide (a = b)) w := by
  rw [Op.equalIn]; simp [run_underlying ht]
  try rfl
theorem part0 {t : TypeId} [TScal P t] (x y : Value) (w : World) : (part t #[x, y] 0).run P w = .ok x w := by simp [part, TScal.run (P := P) (t := t)]
theorem part1 {t : TypeId} [TScal P t] (x y : Value) (w : World) : (part t #[x, y] 1).run P w = .ok y w := by simp [part, TScal.run (P := P) (t := t)]
theorem guard2 {t : TypeId} [TEq2 P t] {op : BinOp} (hop : op = .eql ∨ op = .neq) {x y : Operand} {a b c d : Int} {w : World} : (eqGuard op t x y (.agg #[.int .i64 a, .int .i64 b]) (.agg #[.int .i64 c, .int .i64 d])).run P w = .ok () w := by
  have := TEq2.guard (P := P) (t := t)
  unfold eqGuard
  rcases hop with rfl | rfl <;> simp [this] <;> (intro h; rw [h] at this; cases this)
theorem q_eq2 {t t' : TypeId} [TEq2 P t] {x y : Operand} {a b c dd : Int} (hx : ev ρ x = .agg #[.int .i64 a, .int .i64 b]) (hy : ev ρ y = .agg #[.int .i64 c, .int .i64 dd]) : OpQ P ρ H ⟨d, .binOp .eql t x y t', ty, p, e, g⟩ (.bool (decide (a = c ∧ b = dd))) := fun w _ => by
  simp only [execOp, hx, hy, Sem.run_bind, guard2 (.inl rfl), Result.andThen_ok, binOp, TEq2.eq, Sem.run_pure]
theorem q_ne2 {t t' : TypeId} [TEq2 P t] {x y : Operand} {a b c dd : Int} (hx : ev ρ x = .agg #[.int .i64 a, .int .i64 b]) (hy : ev ρ y = .agg #[.int .i64 c, .int .i64 dd]) : OpQ P ρ H ⟨d, .binOp .neq t x y t', ty, p, e, g⟩ (.bool (!decide (a = c ∧ b = dd))) := fun w _ => by
  simp only [execOp, hx, hy, Sem.run_bind, guard2 (.inr rfl), Result.andThen_ok, binOp, TEq2.eq, Sem.run_pure]
end Go.TM
