/- What kinds do; Do; copies. -/
import Derived.Test.YtpkigjlnbfgjcaaT5
namespace Go.Proofs.Ytpkigjlnbfgjcaa
open Go.TM
open Go.TM.Cell (enc)
set_option maxRecDepth 20000
set_option maxHeartbeats 4000000
variable {H : Heap}
/-- What a kind's function does to the cell, and tells. -/
def DoesQ (H : Heap) (B : Nat) (v : Value) (xs : List Int) (i : Int) (c t : Int) (r : Value) (H' : Heap) : Prop :=
  r = .int .i64 t ∧ Own H' B 3 v (xs.set i.toNat c) ∧ Mut (fO v) H H' ∧ H'.size = H.size
theorem does1_spec {B : Nat} {v : Value} {xs : List Int} (o_v : Own H B 3 v xs) (i : Int) (hi : 0 ≤ i ∧ i < xs.length) (a b : Int) :
    CallsH PG 80 #[.pointer (some (eAt v 1 i)), .int .i64 a, .int .i64 b] H fun r H' => DoesQ H B v xs i (xs.getD i.toNat 0) (xs.getD i.toNat 0) r H' := by
  have hX := Ext.refl H
  have hXs := hX.size
  refine callsH_of_W (args := [.pointer (some (eAt v 1 i)), .int .i64 a, .int .i64 b]) (ρ₀ := (upd (upd (upd (fun _ => undef) 2 (.int .i64 b)) 1 (.int .i64 a)) 0 (.pointer (some (eAt v 1 i))))) rfl Try.func80 rfl (by kernel_rfl) ?_
  refine go_ (hq := ?_)
  refine ret1_ (h := ?_)
  refine ⟨rfl, ?_, Mut.refl _ _, rfl⟩
  rw [show xs.set i.toNat (xs.getD i.toNat 0) = xs by rw [List.getD_eq_getElem?_getD, List.getElem?_eq_getElem (by omega)]; simp]
  exact o_v
theorem does2_spec {B : Nat} {v : Value} {xs : List Int} (o_v : Own H B 3 v xs) (i : Int) (hi : 0 ≤ i ∧ i < xs.length) (a b : Int) :
    CallsH PG 81 #[.pointer (some (eAt v 1 i)), .int .i64 a, .int .i64 b] H fun r H' => DoesQ H B v xs i a 0 r H' := by
  have hX := Ext.refl H
  have hXs := hX.size
  refine callsH_of_W (args := [.pointer (some (eAt v 1 i)), .int .i64 a, .int .i64 b]) (ρ₀ := (upd (upd (upd (fun _ => undef) 2 (.int .i64 b)) 1 (.int .i64 a)) 0 (.pointer (some (eAt v 1 i))))) rfl Try.func81 rfl (by kernel_rfl) ?_
  refine go_ (hq := ?_)
  refine storee_ o_v a (h := fun H1 hM hsz o_1 => ?_)
  refine go_ (hq := ?_)
  refine ret1_ (h := ?_)
  exact ⟨rfl, o_1, hM, hsz⟩
theorem does3_spec {B : Nat} {v : Value} {xs : List Int} (o_v : Own H B 3 v xs) (i : Int) (hi : 0 ≤ i ∧ i < xs.length) (a b : Int) :
    CallsH PG 82 #[.pointer (some (eAt v 1 i)), .int .i64 a, .int .i64 b] H fun r H' => DoesQ H B v xs i (IntKind.i64.wrap (xs.getD i.toNat 0 + a)) (IntKind.i64.wrap (xs.getD i.toNat 0 + a)) r H' := by
  have hX := Ext.refl H
  have hXs := hX.size
  refine callsH_of_W (args := [.pointer (some (eAt v 1 i)), .int .i64 a, .int .i64 b]) (ρ₀ := (upd (upd (upd (fun _ => undef) 2 (.int .i64 b)) 1 (.int .i64 a)) 0 (.pointer (some (eAt v 1 i))))) rfl Try.func82 rfl (by kernel_rfl) ?_
  refine go_ (hq := ?_)
  refine storee_ o_v (IntKind.i64.wrap (xs.getD i.toNat 0 + a)) (h := fun H1 hM hsz o_1 => ?_)
  have hl1 : (xs.set i.toNat (IntKind.i64.wrap (xs.getD i.toNat 0 + a))).length = xs.length := by simp
  refine go_ (hq := ?_)
  refine ret1_ (h := ?_)
  refine ⟨?_, o_1, hM, hsz⟩
  rw [List.getD_eq_getElem?_getD, List.getElem?_eq_getElem (by rw [hl1]; omega)]
  simp
theorem does4_spec {B : Nat} {v : Value} {xs : List Int} (o_v : Own H B 3 v xs) (i : Int) (hi : 0 ≤ i ∧ i < xs.length) (a b : Int) :
    CallsH PG 83 #[.pointer (some (eAt v 1 i)), .int .i64 a, .int .i64 b] H fun r H' => DoesQ H B v xs i a (xs.getD i.toNat 0) r H' := by
  have hX := Ext.refl H
  have hXs := hX.size
  refine callsH_of_W (args := [.pointer (some (eAt v 1 i)), .int .i64 a, .int .i64 b]) (ρ₀ := (upd (upd (upd (fun _ => undef) 2 (.int .i64 b)) 1 (.int .i64 a)) 0 (.pointer (some (eAt v 1 i))))) rfl Try.func83 rfl (by kernel_rfl) ?_
  refine go_ (hq := ?_)
  refine storee_ o_v a (h := fun H1 hM hsz o_1 => ?_)
  refine go_ (hq := ?_)
  refine ret1_ (h := ?_)
  exact ⟨rfl, o_1, hM, hsz⟩
theorem does5_spec {B : Nat} {v : Value} {xs : List Int} (o_v : Own H B 3 v xs) (i : Int) (hi : 0 ≤ i ∧ i < xs.length) (a b : Int) :
    CallsH PG 84 #[.pointer (some (eAt v 1 i)), .int .i64 a, .int .i64 b] H fun r H' => DoesQ H B v xs i (if xs.getD i.toNat 0 = a then b else xs.getD i.toNat 0) (if xs.getD i.toNat 0 = a then 1 else 0) r H' := by
  have hX := Ext.refl H
  have hXs := hX.size
  refine callsH_of_W (args := [.pointer (some (eAt v 1 i)), .int .i64 a, .int .i64 b]) (ρ₀ := (upd (upd (upd (fun _ => undef) 2 (.int .i64 b)) 1 (.int .i64 a)) 0 (.pointer (some (eAt v 1 i))))) rfl Try.func84 rfl (by kernel_rfl) ?_
  refine go_ (hq := ?_)
  refine if_ (ht := fun h => ?_) (hf := fun h => ?_)
  · skip
    refine go_ (hq := ?_)
    refine ret1_ (h := ?_)
    rw [if_neg h, if_neg h]
    refine ⟨rfl, ?_, Mut.refl _ _, rfl⟩
    rw [show xs.set i.toNat (xs.getD i.toNat 0) = xs by rw [List.getD_eq_getElem?_getD, List.getElem?_eq_getElem (by omega)]; simp]
    exact o_v
  · skip
    refine go_ (hq := ?_)
    refine storee_ o_v b (h := fun H1 hM hsz o_1 => ?_)
    refine go_ (hq := ?_)
    refine ret1_ (h := ?_)
    have h' : xs.getD i.toNat 0 = a := Decidable.not_not.1 h
    rw [if_pos h', if_pos h']
    exact ⟨rfl, o_1, hM, hsz⟩
def fnOf (k : Int) : Option Value := if k = 5 then some (.func (.func 84) #[] #[]) else if k = 4 then some (.func (.func 83) #[] #[]) else if k = 3 then some (.func (.func 82) #[] #[]) else if k = 2 then some (.func (.func 81) #[] #[]) else if k = 1 then some (.func (.func 80) #[] #[]) else none
theorem does_spec : CallsH PG 67 #[] H fun v H' => ∃ r, v = .map (some r) ∧ MapF H' r fnOf ∧ Ext H H' := by
  have hX := Ext.refl H
  have hXs := hX.size
  refine callsH_of_W (args := []) (ρ₀ := (fun _ => undef)) rfl Try.func67 rfl (by kernel_rfl) ?_
  refine go_ (hq := ?_)
  refine st_makeMap (κ := Int) fun r H2 hE2 hge_r m_r => ?_
  have hf_m_r : Frs H (fB r) := Frs.mono (Frs.blk hge_r) hXs
  replace hX := hX.trans hE2
  replace hXs := hX.size
  refine go_ (hq := ?_)
  refine mapsetI_ m_r (h := fun H4 hM4 hsz4 m_r => ?_)
  replace hX := hX.mut hM4 hf_m_r
  replace hXs := hX.size
  refine mapsetI_ m_r (h := fun H5 hM5 hsz5 m_r => ?_)
  replace hX := hX.mut hM5 hf_m_r
  replace hXs := hX.size
  refine mapsetI_ m_r (h := fun H6 hM6 hsz6 m_r => ?_)
  replace hX := hX.mut hM6 hf_m_r
  replace hXs := hX.size
  refine mapsetI_ m_r (h := fun H7 hM7 hsz7 m_r => ?_)
  replace hX := hX.mut hM7 hf_m_r
  replace hXs := hX.size
  refine mapsetI_ m_r (h := fun H8 hM8 hsz8 m_r => ?_)
  replace hX := hX.mut hM8 hf_m_r
  replace hXs := hX.size
  refine go_ (hq := ?_)
  refine ret1_ (h := ?_)
  exact ⟨_, rfl, m_r, hX⟩
theorem fn_spec (o : OpD) (hk : 1 ≤ o.kind ∧ o.kind ≤ 5) : ∃ f : FuncId, TFunc PG f ∧ fnOf o.kind = some (.func (.func f) #[] #[]) ∧ ∀ (H₁ : Heap) (B : Nat) (v : Value) (xs : List Int), Own H₁ B 3 v xs → 0 ≤ o.at_ ∧ o.at_ < xs.length →
    CallsH PG f #[.pointer (some (eAt v 1 o.at_)), .int .i64 o.a, .int .i64 o.b] H₁ fun r H' => DoesQ H₁ B v xs o.at_ (opDone (xs.getD o.at_.toNat 0) o).1 (opDone (xs.getD o.at_.toNat 0) o).2 r H' := by
  have hc : o.kind = 1 ∨ o.kind = 2 ∨ o.kind = 3 ∨ o.kind = 4 ∨ o.kind = 5 := by omega
  rcases hc with h | h | h | h | h
  · refine ⟨80, inferInstance, by simp [fnOf, h], fun H₁ B v xs hv hi => ?_⟩
    simp only [opDone, h]
    exact does1_spec hv _ hi _ _
  · refine ⟨81, inferInstance, by simp [fnOf, h], fun H₁ B v xs hv hi => ?_⟩
    simp only [opDone, h]
    exact does2_spec hv _ hi _ _
  · refine ⟨82, inferInstance, by simp [fnOf, h], fun H₁ B v xs hv hi => ?_⟩
    simp only [opDone, h]
    exact does3_spec hv _ hi _ _
  · refine ⟨83, inferInstance, by simp [fnOf, h], fun H₁ B v xs hv hi => ?_⟩
    simp only [opDone, h]
    exact does4_spec hv _ hi _ _
  · refine ⟨84, inferInstance, by simp [fnOf, h], fun H₁ B v xs hv hi => ?_⟩
    have := does5_spec hv o.at_ hi o.a o.b
    have e : opDone (xs.getD o.at_.toNat 0) o = if xs.getD o.at_.toNat 0 = o.a then (o.b, 1) else (xs.getD o.at_.toNat 0, 0) := by simp [opDone, h]
    rw [e]
    by_cases hh : xs.getD o.at_.toNat 0 = o.a
    · rw [if_pos hh]; rw [if_pos hh, if_pos hh] at this; exact this
    · rw [if_neg hh]; rw [if_neg hh, if_neg hh] at this; exact this
theorem do_spec {B : Nat} {v : Value} {xs : List Int} {o : OpD} (o_v : Own H B 3 v xs) (hk : 1 ≤ o.kind ∧ o.kind ≤ 5) (hi : 0 ≤ o.at_ ∧ o.at_ < xs.length) :
    CallsH PG 34 #[v, o.val] H fun r H' => r = .int .i64 (opDone (xs.getD o.at_.toNat 0) o).2 ∧ Own H' B 3 v (xs.set o.at_.toNat (opDone (xs.getD o.at_.toNat 0) o).1) ∧ Mut (fO v) H H' := by
  have hX := Ext.refl H
  have hXs := hX.size
  refine callsH_of_W (args := [v, o.val]) (ρ₀ := (upd (upd (fun _ => undef) 1 (o.val)) 0 v)) rfl Try.func34 rfl (by kernel_rfl) ?_
  refine go_ (hq := ?_)
  refine box_ (h := fun b H3 hE3 hge_b hB_b => ?_)
  have hs_o_v_hB_b : Apt (fO v) (fB b) := Apt.new o_v.old (Frs.blk hge_b)
  have hf_hB_b : Frs H (fB b) := Frs.mono (Frs.blk hge_b) hXs
  replace hX := hX.trans hE3
  replace hXs := hX.size
  replace o_v := o_v.ext hE3
  refine go_ (hq := ?_)
  refine draw_ mixed (Q := _) 1 [1,2,4,5,6,7,8,9,10,11,0,3,12,13] (h := ?_)
  refine go_ (hq := ?_)
  refine call_ (hc := does_spec) (h := ?_)
  rintro v7 H7 ⟨r, rfl, m_r, hE7⟩
  replace hX := hX.trans hE7
  replace hXs := hX.size
  replace o_v := o_v.ext hE7
  replace hB_b := hB_b.ext hE7
  simp only [put]
  refine go_ (hq := ?_)
  obtain ⟨f, hf, hfn, hcon⟩ := fn_spec o hk
  rw [hfn]
  simp only [Option.getD_some]
  refine callv_ (cap := []) (hc := hcon _ _ _ _ o_v hi) (h := ?_)
  rintro r9 H9 ⟨rfl, o_9, hM9, hs9⟩
  simp only [put]
  refine go_ (hq := ?_)
  refine ret1_ (h := ?_)
  refine ⟨rfl, o_9, ⟨by omega, fun k hk hn => ?_⟩⟩
  rw [hM9.block k (by omega) hn, hX.block k hk]
end Go.Proofs.Ytpkigjlnbfgjcaa
