/- A space that comes in. -/
import Derived.Test.YtpkigjlnbfgjcaaRowKit
import Derived.Test.YtpkigjlnbfgjcaaUG
namespace Go.Proofs.Ytpkigjlnbfgjcaa
open Go.TM Go.ChangeShapes Go.WideShapes Go.ChangeAt Go.RowKit
open Go.TM.Cell (enc)
set_option maxRecDepth 100000 in
theorem flatBlock : Flat Try.prog 51 BlockD (fun o => R64w o.start ∧ R64w o.size) := ⟨by kernel_rfl, fun h => by
  obtain ⟨xs, h1, rfl, h2⟩ := ints_of_struct Try.underlying51 Try.underlying3 (by kernel_rfl) (by kernel_rfl) (by kernel_rfl) h
  match xs, h1 with
  | [a, b], _ => exact ⟨⟨a, b⟩, rfl, h2 _ (by simp), h2 _ (by simp)⟩⟩
set_option maxRecDepth 100000 in
theorem open_space {Hh : Type} {enc' : TypeId × Value → Hh} {w : World} {held : Bool} {n : Nat} {cs : List Value} {y : DataW Hh × List MemPlace} (h : DataW.trod enc' Try.prog w 0 (fun _ => true) held n 41 cs = some y)
    (hwt : (DataW.weights Try.prog 41 y.1).all (· ≤ reachBytes) = true) :
    ∃ (hu hf : Hdr) (s : SpD), cs = [.int .i64 s.bits, hu.val, hf.val] ∧ SlE w.heap hu.val s.used ∧ SlE w.heap hf.val s.free ∧ R64x s.bits ∧ (∀ b ∈ s.used ++ s.free, BR b) ∧ s.used.length ≤ 1000000000000000 ∧ s.free.length ≤ 1000000000000000 := by
  obtain ⟨ys, m, rfl, rfl, hl, hys, hx⟩ := DataW.trod_struct Try.underlying41 h
  have hlen : cs.length = 3 := hl.trans (by kernel_rfl)
  have hyl : ys.length = 3 := hys
  match cs, hlen with
  | [c0, c1, c2], _ =>
  match ys, hyl with
  | [y0, y1, y2], _ =>
  have x0 : DataW.trod enc' Try.prog w 0 (fun _ => true) held m 3 (List.take (Try.prog.cellsOf 3) (List.drop 0 [c0, c1, c2])) = some y0 := hx 0 _ rfl
  have x1 : DataW.trod enc' Try.prog w 0 (fun _ => true) held m 39 (List.take (Try.prog.cellsOf 39) (List.drop 1 [c0, c1, c2])) = some y1 := hx 1 _ rfl
  have x2 : DataW.trod enc' Try.prog w 0 (fun _ => true) held m 39 (List.take (Try.prog.cellsOf 39) (List.drop 2 [c0, c1, c2])) = some y2 := hx 2 _ rfl
  have k3 : Try.prog.cellsOf 3 = 1 := by kernel_rfl
  have k39 : Try.prog.cellsOf 39 = 1 := by kernel_rfl
  rw [k3] at x0
  rw [k39] at x1 x2
  simp only [List.drop_zero, List.drop_succ_cons, List.take_succ_cons, List.take_zero, List.getElem?_cons_zero, List.getElem?_cons_succ] at x0 x1 x2
  obtain ⟨bits, e0, hb⟩ := int_of_trod Try.underlying3 x0
  obtain ⟨v1, us, e1, h1, hu1, hw1⟩ := open_flat Try.underlying39 flatBlock x1
  obtain ⟨v2, fs, e2, h2, hu2, hw2⟩ := open_flat Try.underlying39 flatBlock x2
  obtain ⟨hu, rfl⟩ := h1.hdrOf
  obtain ⟨hf, rfl⟩ := h2.hdrOf
  have hwt' : (DataW.weights Try.prog 39 y1.1).all (· ≤ reachBytes) = true ∧ (DataW.weights Try.prog 39 y2.1).all (· ≤ reachBytes) = true := by
    rw [DataW.weights, Try.underlying41] at hwt
    simp only [List.map_cons, List.map_nil, DataW.weightsEach, List.all_append, Bool.and_eq_true] at hwt
    exact ⟨hwt.2.1, hwt.2.2.1⟩
  have hby : Try.prog.bytesOf 51 = 16 := by kernel_rfl
  have hrb : reachBytes = 140737488351232 := by decide
  have l1 := hw1 _ hwt'.1
  have l2 := hw2 _ hwt'.2
  rw [hby, hrb] at l1 l2
  refine ⟨hu, hf, ⟨bits, us, fs⟩, ?_, h1, h2, hb, fun b hb => ?_, by show us.length ≤ _; omega, by show fs.length ≤ _; omega⟩
  · simp only [List.cons.injEq, and_true] at e0 e1 e2
    rw [e0, e1, e2]
  · rcases List.mem_append.1 hb with hb | hb
    · exact hu1 b hb
    · exact hu2 b hb
theorem space_val {v : Value} {a b c : Value} (h : v.cells.toList = [a, b, c]) : v = .agg #[a, b, c] := by
  cases v <;> simp_all [Value.cells]
  rename_i cs
  cases cs; simp_all
theorem int_val {v : Value} {x : Int} (h : v.cells.toList = [.int .i64 x]) (hok : ∀ cs, v ≠ .agg cs) : v = .int .i64 x := by
  cases v <;> simp_all [Value.cells]
end Go.Proofs.Ytpkigjlnbfgjcaa
