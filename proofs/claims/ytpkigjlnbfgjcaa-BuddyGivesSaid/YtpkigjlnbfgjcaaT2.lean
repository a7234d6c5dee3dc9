/- cell.Check and its like. -/
import Derived.Test.YtpkigjlnbfgjcaaElem
namespace Go.Proofs.Ytpkigjlnbfgjcaa
open Go.TM
open Go.TM.Cell (enc)
set_option maxRecDepth 20000
variable {H : Heap}
theorem F_spec (c a : Int) : CallsH PG 12 #[.int .i64 c, .int .i64 a] H fun v H' => v = FaultD.val ⟨c, a⟩ ∧ Ext H H' := by
  have hX := Ext.refl H
  have hXs := hX.size
  refine callsH_of_W (args := [.int .i64 c, .int .i64 a]) (ρ₀ := (upd (upd (fun _ => undef) 1 (.int .i64 a)) 0 (.int .i64 c))) rfl Try.func12 rfl (by kernel_rfl) ?_
  refine go_ (hq := ?_)
  refine st_alloc fun b H2 hE2 hge_b hB_b => ?_
  have hf_hB_b : Frs H (fB b) := Frs.mono (Frs.blk hge_b) hXs
  replace hX := hX.trans hE2
  replace hXs := hX.size
  refine go_ (hq := ?_)
  refine store_ hB_b (h := fun H4 hM4 hsz4 hB_b => ?_)
  replace hX := hX.mut hM4 hf_hB_b
  replace hXs := hX.size
  refine go_ (hq := ?_)
  refine retc_ hB_b (h := ?_)
  exact ⟨rfl, hX⟩
theorem cellFault_spec (c a : Int) : CallsH PG 29 #[.int .i64 c, .int .i64 a] H fun v H' => v = FaultD.val ⟨c, a⟩ ∧ Ext H H' := by
  have hX := Ext.refl H
  have hXs := hX.size
  refine callsH_of_W (args := [.int .i64 c, .int .i64 a]) (ρ₀ := (upd (upd (fun _ => undef) 1 (.int .i64 a)) 0 (.int .i64 c))) rfl Try.func29 rfl (by kernel_rfl) ?_
  refine go_ (hq := ?_)
  refine st_alloc fun b H2 hE2 hge_b hB_b => ?_
  have hf_hB_b : Frs H (fB b) := Frs.mono (Frs.blk hge_b) hXs
  replace hX := hX.trans hE2
  replace hXs := hX.size
  refine go_ (hq := ?_)
  refine store_ hB_b (h := fun H4 hM4 hsz4 hB_b => ?_)
  replace hX := hX.mut hM4 hf_hB_b
  replace hXs := hX.size
  refine go_ (hq := ?_)
  refine retc_ hB_b (h := ?_)
  exact ⟨rfl, hX⟩
/-- What is wrong with an op in a memory of n cells; 0: nothing. -/
def opCode (n : Int) (o : OpD) : Int :=
  if o.kind < 1 ∨ 5 < o.kind then 4 else if (o.kind = 1 ∧ o.a ≠ 0) ∨ (o.kind ≠ 5 ∧ o.b ≠ 0) then 5 else if o.at_ < 0 ∨ n ≤ o.at_ then 3 else 0
def opsFault (n : Int) (l : List OpD) : FaultD := if 32 < n ∨ 5000 < (l.length : Int) then ⟨2, 0⟩ else ffrom (opCode n) 0 l
theorem opsFault_spec {m o : Value} {xs : List Int} {l : List OpD} (hm : SlE H m xs) (ho : SlE H o l) : CallsH PG 39 #[m, o] H fun v H' => v = (opsFault xs.length l).val ∧ Ext H H' := by
  have hm0 := hm
  have ho0 := ho
  have hX := Ext.refl H
  have hXs := hX.size
  have lm := hm.len_le; have ll := ho.len_le
  unfold maxLen at lm ll
  refine callsH_of_W (args := [m, o]) (ρ₀ := (upd (upd (fun _ => undef) 1 o) 0 m)) rfl Try.func39 rfl (by kernel_rfl) ?_
  refine go_ (hq := ?_)
  refine st_alloc fun b H2 hE2 hge_b hB_b => ?_
  have hf_hB_b : Frs H (fB b) := Frs.mono (Frs.blk hge_b) hXs
  replace hX := hX.trans hE2
  replace hXs := hX.size
  replace hm := hm0.ext hX
  replace ho := ho0.ext hX
  refine go_ (hq := ?_)
  refine if_ (ht := fun h => ?_) (hf := fun h => ?_)
  · skip
    refine go_ (hq := ?_)
    refine call_ (hc := F_spec _ _) (h := ?_)
    rintro v6 H6 ⟨rfl, hE6⟩
    replace hX := hX.trans hE6
    replace hXs := hX.size
    replace hm := hm0.ext hX
    replace ho := ho0.ext hX
    replace hB_b := hB_b.ext hE6
    simp only [put]
    refine go_ (hq := ?_)
    refine store_ hB_b (h := fun H8 hM8 hsz8 hB_b => ?_)
    replace hX := hX.mut hM8 hf_hB_b
    replace hXs := hX.size
    replace hm := hm0.ext hX
    replace ho := ho0.ext hX
    refine go_ (hq := ?_)
    refine retc_ hB_b (h := ?_)
    refine ⟨?_, hX⟩
    rw [opsFault, if_pos h]
  · skip
    refine go_ (hq := ?_)
    have hf : opsFault xs.length l = ffrom (opCode xs.length) 0 l := by rw [opsFault, if_neg (by omega)]
    rw [hf]
    refine W_loop (X := Nat) (fun k => [(0, m), (1, o), (4, .pointer (some ⟨b, 0, none⟩)), (5, .int .i64 k)])
      (fun k H' => Ext H H' ∧ Blk H' b 28 [.int .i64 0, .int .i64 0] ∧ k ≤ l.length ∧ ffrom (opCode xs.length) 0 l = ffrom (opCode xs.length) k (l.drop k)) (fun k => l.length - k) 0 ?_ ?_ ?_
    · exact hold_
    · exact ⟨hX, hB_b, Nat.zero_le _, rfl⟩
    · clear hX hB_b hm ho
      rintro u k H' ⟨hX, hB_b, hk, hall⟩
      have hXs := hX.size
      have hm := hm0.ext hX
      have ho := ho0.ext hX
      refine go_ (hq := ?_)
      refine if_ (ht := fun h2 => ?_) (hf := fun h2 => ?_)
      · skip
        have hfd := ffrom_drop (opCode xs.length) l k (by omega)
        refine go_ (hq := ?_)
        refine st_alloc fun c H14 hE14 hge_c hB_c => ?_
        have hs_hB_b_hB_c : Apt (fB b) (fB c) := Apt.new hB_b.old (Frs.blk hge_c)
        have hf_hB_c : Frs H (fB c) := Frs.mono (Frs.blk hge_c) hXs
        replace hX := hX.trans hE14
        replace hXs := hX.size
        replace hm := hm0.ext hX
        replace ho := ho0.ext hX
        replace hB_b := hB_b.ext hE14
        refine go_ (hq := ?_)
        refine store_ hB_c (h := fun H16 hM16 hsz16 hB_c => ?_)
        replace hX := hX.mut hM16 hf_hB_c
        replace hXs := hX.size
        replace hm := hm0.ext hX
        replace ho := ho0.ext hX
        replace hB_b := hB_b.mutF hM16 (hs_hB_b_hB_c.symm)
        try simp only [Int.toNat_natCast] at hB_c
        generalize hop : l.getD k default = op at *
        refine go_ (hq := ?_)
        refine if_ (ht := fun h3 => ?_) (hf := fun h3 => ?_)
        · skip
          have hc : opCode xs.length op = 4 := by rw [opCode, if_pos h3]
          refine go_ (hq := ?_)
          refine call_ (hc := F_spec _ _) (h := ?_)
          rintro v20 H20 ⟨rfl, hE20⟩
          replace hX := hX.trans hE20
          replace hXs := hX.size
          replace hm := hm0.ext hX
          replace ho := ho0.ext hX
          replace hB_b := hB_b.ext hE20
          replace hB_c := hB_c.ext hE20
          simp only [put]
          refine go_ (hq := ?_)
          refine store_ hB_b (h := fun H22 hM22 hsz22 hB_b => ?_)
          replace hX := hX.mut hM22 hf_hB_b
          replace hXs := hX.size
          replace hm := hm0.ext hX
          replace ho := ho0.ext hX
          replace hB_c := hB_c.mutF hM22 hs_hB_b_hB_c
          refine go_ (hq := ?_)
          refine retc_ hB_b (h := ?_)
          refine ⟨?_, hX⟩
          rw [hall, hfd, hc]; rfl
        · skip
          refine go_ (hq := ?_)
          refine if_ (ht := fun h4 => ?_) (hf := fun h4 => ?_)
          · skip
            have hc : opCode xs.length op = 5 := by rw [opCode, if_neg (by omega), if_pos h4]
            refine go_ (hq := ?_)
            refine call_ (hc := F_spec _ _) (h := ?_)
            rintro v27 H27 ⟨rfl, hE27⟩
            replace hX := hX.trans hE27
            replace hXs := hX.size
            replace hm := hm0.ext hX
            replace ho := ho0.ext hX
            replace hB_b := hB_b.ext hE27
            replace hB_c := hB_c.ext hE27
            simp only [put]
            refine go_ (hq := ?_)
            refine store_ hB_b (h := fun H29 hM29 hsz29 hB_b => ?_)
            replace hX := hX.mut hM29 hf_hB_b
            replace hXs := hX.size
            replace hm := hm0.ext hX
            replace ho := ho0.ext hX
            replace hB_c := hB_c.mutF hM29 hs_hB_b_hB_c
            refine go_ (hq := ?_)
            refine retc_ hB_b (h := ?_)
            refine ⟨?_, hX⟩
            rw [hall, hfd, hc]; rfl
          · skip
            refine go_ (hq := ?_)
            refine if_ (ht := fun h5 => ?_) (hf := fun h5 => ?_)
            · skip
              have hc : opCode xs.length op = 3 := by rw [opCode, if_neg (by omega), if_neg (by omega), if_pos h5]
              refine go_ (hq := ?_)
              refine call_ (hc := F_spec _ _) (h := ?_)
              rintro v34 H34 ⟨rfl, hE34⟩
              replace hX := hX.trans hE34
              replace hXs := hX.size
              replace hm := hm0.ext hX
              replace ho := ho0.ext hX
              replace hB_b := hB_b.ext hE34
              replace hB_c := hB_c.ext hE34
              simp only [put]
              refine go_ (hq := ?_)
              refine store_ hB_b (h := fun H36 hM36 hsz36 hB_b => ?_)
              replace hX := hX.mut hM36 hf_hB_b
              replace hXs := hX.size
              replace hm := hm0.ext hX
              replace ho := ho0.ext hX
              replace hB_c := hB_c.mutF hM36 hs_hB_b_hB_c
              refine go_ (hq := ?_)
              refine retc_ hB_b (h := ?_)
              refine ⟨?_, hX⟩
              rw [hall, hfd, hc]; rfl
            · skip
              have hc : opCode xs.length op = 0 := by rw [opCode, if_neg (by omega), if_neg (by omega), if_neg (by omega)]
              refine go_ (hq := ?_)
              exact ⟨k + 1, hold_, ⟨hX, hB_b, by omega, by rw [hall, hfd, hc]; rfl⟩, by omega⟩
      · skip
        refine go_ (hq := ?_)
        refine store_ hB_b (h := fun H40 hM40 hsz40 hB_b => ?_)
        replace hX := hX.mut hM40 hf_hB_b
        replace hXs := hX.size
        replace hm := hm0.ext hX
        replace ho := ho0.ext hX
        refine go_ (hq := ?_)
        refine retc_ hB_b (h := ?_)
        refine ⟨?_, hX⟩
        rw [hall, List.drop_of_length_le (by omega)]; rfl
end Go.Proofs.Ytpkigjlnbfgjcaa
