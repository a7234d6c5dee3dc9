/- Done, Ran, cell.one, Check, the comparisons. -/
import Derived.Test.YtpkigjlnbfgjcaaT1
namespace Go.Proofs.Ytpkigjlnbfgjcaa
open Go.TM
open Go.TM.Cell (enc)
set_option maxRecDepth 20000
variable {H : Heap}
/-- What is in the cell after an op; what it tells. -/
def opDone (c : Int) (o : OpD) : Int × Int :=
  if o.kind = 1 then (c, c) else if o.kind = 2 then (o.a, 0) else if o.kind = 3 then (IntKind.i64.wrap (c + o.a), IntKind.i64.wrap (c + o.a)) else if o.kind = 4 then (o.a, c)
  else if c = o.a then (o.b, 1) else (c, 0)
theorem done_spec (c : Int) (o : OpD) : CallsH PG 71 #[.int .i64 c, o.val] H fun v H' => v = .tuple #[.int .i64 (opDone c o).1, .int .i64 (opDone c o).2] ∧ Ext H H' := by
  have hX := Ext.refl H
  have hXs := hX.size
  refine callsH_of_W (args := [.int .i64 c, o.val]) (ρ₀ := (upd (upd (fun _ => undef) 1 (o.val)) 0 (.int .i64 c))) rfl Try.func71 rfl (by kernel_rfl) ?_
  refine go_ (hq := ?_)
  refine box_ (h := fun b H2 hE2 hge_b hB_b => ?_)
  have hf_hB_b : Frs H (fB b) := Frs.mono (Frs.blk hge_b) hXs
  replace hX := hX.trans hE2
  replace hXs := hX.size
  refine go_ (hq := ?_)
  refine if_ (ht := fun h1 => ?_) (hf := fun h1 => ?_)
  · skip
    refine go_ (hq := ?_)
    refine ret2_ (h := ?_)
    exact ⟨by rw [opDone, if_pos h1], hX⟩
  · skip
    refine go_ (hq := ?_)
    refine if_ (ht := fun h2 => ?_) (hf := fun h2 => ?_)
    · skip
      refine go_ (hq := ?_)
      refine ret2_ (h := ?_)
      exact ⟨by rw [opDone, if_neg h1, if_pos h2], hX⟩
    · skip
      refine go_ (hq := ?_)
      refine if_ (ht := fun h3 => ?_) (hf := fun h3 => ?_)
      · skip
        refine go_ (hq := ?_)
        refine draw_ mixed (Q := _) 0 [0,1,2,3,4,5,6,7,8,9] (h := ?_)
        refine go_ (hq := ?_)
        refine ret2_ (h := ?_)
        exact ⟨by rw [opDone, if_neg h1, if_neg h2, if_pos h3], hX⟩
      · skip
        refine go_ (hq := ?_)
        refine if_ (ht := fun h4 => ?_) (hf := fun h4 => ?_)
        · skip
          refine go_ (hq := ?_)
          refine ret2_ (h := ?_)
          exact ⟨by rw [opDone, if_neg h1, if_neg h2, if_neg h3, if_pos h4], hX⟩
        · skip
          refine go_ (hq := ?_)
          refine if_ (ht := fun h5 => ?_) (hf := fun h5 => ?_)
          · skip
            refine go_ (hq := ?_)
            refine ret2_ (h := ?_)
            exact ⟨by rw [opDone, if_neg h1, if_neg h2, if_neg h3, if_neg h4, if_pos h5], hX⟩
          · skip
            refine go_ (hq := ?_)
            refine ret2_ (h := ?_)
            exact ⟨by rw [opDone, if_neg h1, if_neg h2, if_neg h3, if_neg h4, if_neg h5], hX⟩
theorem one_spec (o : OpD) (n : Int) : CallsH PG 65 #[o.val, .int .i64 n] H fun v H' => v = .int .i64 (opCode n o) ∧ Ext H H' := by
  have hX := Ext.refl H
  have hXs := hX.size
  refine callsH_of_W (args := [o.val, .int .i64 n]) (ρ₀ := (upd (upd (fun _ => undef) 1 (.int .i64 n)) 0 (o.val))) rfl Try.func65 rfl (by kernel_rfl) ?_
  have key : ∀ x, opCode n o = x → (Value.int .i64 x) = .int .i64 (opCode n o) := fun x h => by rw [h]
  refine go_ (hq := ?_)
  refine box_ (h := fun b H2 hE2 hge_b hB_b => ?_)
  have hf_hB_b : Frs H (fB b) := Frs.mono (Frs.blk hge_b) hXs
  replace hX := hX.trans hE2
  replace hXs := hX.size
  refine go_ (hq := ?_)
  refine if_ (ht := fun h1 => ?_) (hf := fun h1 => ?_)
  · skip
    refine go_ (hq := ?_)
    refine if_ (ht := fun h2 => ?_) (hf := fun h2 => ?_)
    · skip
      refine go_ (hq := ?_)
      refine ret1_ (h := ?_)
      exact ⟨key _ (by unfold opCode; (repeat' split) <;> omega), hX⟩
    · skip
      refine go_ (hq := ?_)
      refine if_ (ht := fun h3 => ?_) (hf := fun h3 => ?_)
      · skip
        refine go_ (hq := ?_)
        refine ret1_ (h := ?_)
        exact ⟨key _ (by unfold opCode; (repeat' split) <;> omega), hX⟩
      · skip
        refine go_ (hq := ?_)
        refine ret1_ (h := ?_)
        exact ⟨key _ (by unfold opCode; (repeat' split) <;> omega), hX⟩
  · skip
    refine W_cut (X := Bool) (fun q => [(1, .int .i64 n), (2, .pointer (some ⟨b, 0, none⟩)), (6, .int .i64 o.kind), (17, .bool q)]) (fun q H' => Ext H H' ∧ Blk H' b 60 [.int .i64 o.kind, .int .i64 o.at_, .int .i64 o.a, .int .i64 o.b] ∧ q = decide (o.kind = 2 ∨ o.kind = 3 ∨ o.kind = 4)) ?_ ?_
    · skip
      refine go_ (hq := ?_)
      refine if_ (ht := fun h2 => ?_) (hf := fun h2 => ?_)
      · skip
        refine go_ (hq := ?_)
        exact ⟨_, hold_, hX, hB_b, by simp [h2]⟩
      · skip
        refine go_ (hq := ?_)
        refine if_ (ht := fun h3 => ?_) (hf := fun h3 => ?_)
        · skip
          refine go_ (hq := ?_)
          exact ⟨_, hold_, hX, hB_b, by simp [h3]⟩
        · skip
          refine go_ (hq := ?_)
          exact ⟨_, hold_, hX, hB_b, by simp [h2, h3]⟩
    · clear hX hB_b
      rintro u q H' ⟨hX, hB_b, hq⟩
      have hXs := hX.size
      refine go_ (hq := ?_)
      refine if_ (ht := fun h2 => ?_) (hf := fun h2 => ?_)
      · skip
        refine go_ (hq := ?_)
        rw [hq, decide_eq_true_eq] at h2
        refine if_ (ht := fun h3 => ?_) (hf := fun h3 => ?_)
        · skip
          refine go_ (hq := ?_)
          refine ret1_ (h := ?_)
          exact ⟨key _ (by unfold opCode; (repeat' split) <;> omega), hX⟩
        · skip
          refine go_ (hq := ?_)
          refine if_ (ht := fun h4 => ?_) (hf := fun h4 => ?_)
          · skip
            refine go_ (hq := ?_)
            refine ret1_ (h := ?_)
            exact ⟨key _ (by unfold opCode; (repeat' split) <;> omega), hX⟩
          · skip
            refine go_ (hq := ?_)
            refine ret1_ (h := ?_)
            exact ⟨key _ (by unfold opCode; (repeat' split) <;> omega), hX⟩
      · skip
        rw [hq, decide_eq_true_eq] at h2
        refine go_ (hq := ?_)
        refine if_ (ht := fun h3 => ?_) (hf := fun h3 => ?_)
        · skip
          refine go_ (hq := ?_)
          refine if_ (ht := fun h4 => ?_) (hf := fun h4 => ?_)
          · skip
            refine go_ (hq := ?_)
            refine ret1_ (h := ?_)
            exact ⟨key _ (by unfold opCode; (repeat' split) <;> omega), hX⟩
          · skip
            refine go_ (hq := ?_)
            refine ret1_ (h := ?_)
            exact ⟨key _ (by unfold opCode; (repeat' split) <;> omega), hX⟩
        · skip
          refine go_ (hq := ?_)
          refine ret1_ (h := ?_)
          exact ⟨key _ (by unfold opCode; (repeat' split) <;> omega), hX⟩
theorem check_spec {m o : Value} {xs : List Int} {l : List OpD} (hm : SlE H m xs) (ho : SlE H o l) : CallsH PG 30 #[m, o] H fun v H' => v = (opsFault xs.length l).val ∧ Ext H H' := by
  have hm0 := hm
  have ho0 := ho
  have hX := Ext.refl H
  have hXs := hX.size
  have lm := hm.len_le; have ll := ho.len_le
  unfold maxLen at lm ll
  refine callsH_of_W (args := [m, o]) (ρ₀ := (upd (upd (fun _ => undef) 1 o) 0 m)) rfl Try.func30 rfl (by kernel_rfl) ?_
  refine go_ (hq := ?_)
  refine st_alloc fun b H2 hE2 hge_b hB_b => ?_
  have hf_hB_b : Frs H (fB b) := Frs.mono (Frs.blk hge_b) hXs
  replace hX := hX.trans hE2
  replace hXs := hX.size
  replace hm := hm0.ext hX
  replace ho := ho0.ext hX
  refine go_ (hq := ?_)
  refine if_ (ht := fun h => ?_) (hf := fun h => ?_)
  · skip
    refine go_ (hq := ?_)
    refine call_ (hc := cellFault_spec _ _) (h := ?_)
    rintro v6 H6 ⟨rfl, hE6⟩
    replace hX := hX.trans hE6
    replace hXs := hX.size
    replace hm := hm0.ext hX
    replace ho := ho0.ext hX
    replace hB_b := hB_b.ext hE6
    simp only [put]
    refine go_ (hq := ?_)
    refine store_ hB_b (h := fun H8 hM8 hsz8 hB_b => ?_)
    replace hX := hX.mut hM8 hf_hB_b
    replace hXs := hX.size
    replace hm := hm0.ext hX
    replace ho := ho0.ext hX
    refine go_ (hq := ?_)
    refine retc_ hB_b (h := ?_)
    refine ⟨?_, hX⟩
    rw [opsFault, if_pos h]
  · skip
    refine go_ (hq := ?_)
    have hf : opsFault xs.length l = ffrom (opCode xs.length) 0 l := by rw [opsFault, if_neg (by omega)]
    rw [hf]
    refine W_loop (X := Nat) (fun k => [(0, m), (17, o), (18, .int .i64 l.length), (4, .pointer (some ⟨b, 0, none⟩)), (19, .int .i64 k)])
      (fun k H' => Ext H H' ∧ Blk H' b 28 [.int .i64 0, .int .i64 0] ∧ k ≤ l.length ∧ ffrom (opCode xs.length) 0 l = ffrom (opCode xs.length) k (l.drop k)) (fun k => l.length - k) 0 ?_ ?_ ?_
    · exact hold_
    · exact ⟨hX, hB_b, Nat.zero_le _, rfl⟩
    · clear hX hB_b hm ho
      rintro u k H' ⟨hX, hB_b, hk, hall⟩
      have hXs := hX.size
      have hm := hm0.ext hX
      have ho := ho0.ext hX
      refine go_ (hq := ?_)
      refine if_ (ht := fun h2 => ?_) (hf := fun h2 => ?_)
      · skip
        have hfd := ffrom_drop (opCode xs.length) l k (by omega)
        refine go_ (hq := ?_)
        refine st_alloc fun c H14 hE14 hge_c hB_c => ?_
        have hs_hB_b_hB_c : Apt (fB b) (fB c) := Apt.new hB_b.old (Frs.blk hge_c)
        have hf_hB_c : Frs H (fB c) := Frs.mono (Frs.blk hge_c) hXs
        replace hX := hX.trans hE14
        replace hXs := hX.size
        replace hm := hm0.ext hX
        replace ho := ho0.ext hX
        replace hB_b := hB_b.ext hE14
        refine go_ (hq := ?_)
        refine store_ hB_c (h := fun H16 hM16 hsz16 hB_c => ?_)
        replace hX := hX.mut hM16 hf_hB_c
        replace hXs := hX.size
        replace hm := hm0.ext hX
        replace ho := ho0.ext hX
        replace hB_b := hB_b.mutF hM16 (hs_hB_b_hB_c.symm)
        try simp only [Int.toNat_natCast] at hB_c
        generalize hop : l.getD k default = op at *
        refine go_ (hq := ?_)
        refine call_ (hc := one_spec op _) (h := ?_)
        rintro v18 H18 ⟨rfl, hE18⟩
        replace hX := hX.trans hE18
        replace hXs := hX.size
        replace hm := hm0.ext hX
        replace ho := ho0.ext hX
        replace hB_b := hB_b.ext hE18
        replace hB_c := hB_c.ext hE18
        simp only [put]
        refine go_ (hq := ?_)
        refine if_ (ht := fun h3 => ?_) (hf := fun h3 => ?_)
        · skip
          refine go_ (hq := ?_)
          refine call_ (hc := cellFault_spec _ _) (h := ?_)
          rintro v22 H22 ⟨rfl, hE22⟩
          replace hX := hX.trans hE22
          replace hXs := hX.size
          replace hm := hm0.ext hX
          replace ho := ho0.ext hX
          replace hB_b := hB_b.ext hE22
          replace hB_c := hB_c.ext hE22
          simp only [put]
          refine go_ (hq := ?_)
          refine store_ hB_b (h := fun H24 hM24 hsz24 hB_b => ?_)
          replace hX := hX.mut hM24 hf_hB_b
          replace hXs := hX.size
          replace hm := hm0.ext hX
          replace ho := ho0.ext hX
          replace hB_c := hB_c.mutF hM24 hs_hB_b_hB_c
          refine go_ (hq := ?_)
          refine retc_ hB_b (h := ?_)
          refine ⟨?_, hX⟩
          rw [hall, hfd, if_pos h3]
        · skip
          refine go_ (hq := ?_)
          exact ⟨k + 1, hold_, ⟨hX, hB_b, by omega, by rw [hall, hfd, if_neg h3]⟩, by omega⟩
      · skip
        refine go_ (hq := ?_)
        refine store_ hB_b (h := fun H28 hM28 hsz28 hB_b => ?_)
        replace hX := hX.mut hM28 hf_hB_b
        replace hXs := hX.size
        replace hm := hm0.ext hX
        replace ho := ho0.ext hX
        refine go_ (hq := ?_)
        refine retc_ hB_b (h := ?_)
        refine ⟨?_, hX⟩
        rw [hall, List.drop_of_length_le (by omega)]; rfl
end Go.Proofs.Ytpkigjlnbfgjcaa
