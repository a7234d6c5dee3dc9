/- BuddyTakes' walk. -/
import Derived.Test.YtpkigjlnbfgjcaaUG
namespace Go.Proofs.Ytpkigjlnbfgjcaa
open Go.TM
open Go.TM.Cell (enc)
set_option maxRecDepth 20000
set_option maxHeartbeats 4000000
variable {H : Heap}
theorem splitL_len (m : Nat) (st : Int) (j : Nat) : ∀ f, (splitL m st j f).length = f.length + j := by
  induction j with
  | zero => intro f; rfl
  | succ j ih => intro f; rw [splitL, ih, withB_len]; omega
theorem takeT_len {s : SpD} {W n : Int} {q : Nat} (hVS : VS s W) (hq : IsBest s.free n q) : (takeT s n q).used.length = s.used.length + 1 ∧ (takeT s n q).free.length ≤ s.free.length + 30 := by
  have hql := hq.1
  have hBm : s.free.getD q default ∈ s.free := by rw [List.getD_eq_getElem?_getD, List.getElem?_eq_getElem hql]; exact List.getElem_mem _
  obtain ⟨K, hK, _, _, h4⟩ := hVS.al _ (List.mem_append.2 (.inr hBm))
  have hp := (hVS.al _ (List.mem_append.2 (.inr hBm))).pos
  have hw := hVS.w
  have hKb : K ≤ 30 := pow_le_pow_iff.1 (by rw [← hK]; show _ ≤ (2 : Int) ^ 30; omega)
  refine ⟨withB_len _ _, ?_⟩
  show (splitL _ _ _ _).length ≤ _
  rw [splitL_len, hK, expOf_pow]
  have := noB_len s.free (s.free.getD q default)
  omega
theorem faultR_ok {s : SpD} (h : (faultR s).code = 0) : faultR s = ⟨0, 0⟩ := by
  unfold faultR at h ⊢
  split at h
  · cases h
  · rename_i h1
    rw [if_neg h1]
    split at h
    · rename_i h2; exact absurd h h2
    · rename_i h2
      rw [if_neg h2]
      split at h
      · rename_i h3; exact absurd h h3
      · rename_i h3
        rw [if_neg h3]
        split at h
        · cases h
        · rename_i h4
          rw [if_neg h4]
          split at h
          · cases h
          · rename_i h5; rw [if_neg h5]
/-- What is wanted of Take: the fault, the space, where. -/
def Want (T : SpD × Int × FaultD) (w : FaultD) (want : SpD) (start : Int) : Prop := T.2.2 = w ∧ (w.code ≠ 0 → T.1 = sp0 ∧ T.2.1 = 0) ∧ (w.code = 0 → T.1 = want ∧ T.2.1 = start)
theorem takes_walk {hu hf : Hdr} {s : SpD} (n bits : Int) (h1 : SlE H hu.val s.used) (h2 : SlE H hf.val s.free) (hb : R64x s.bits) (hn : s.used.length ≤ 1000000000000000 ∧ s.free.length ≤ 1000000000000000) (hr : ∀ b ∈ s.used ++ s.free, BR b) :
    CallsH PG 4 #[SpV s.bits hu hf, .int .i64 n, .int .i64 bits] H fun v H' => v = .bool true ∧ Ext H H' := by
  have h10 := h1
  have h20 := h2
  have hX := Ext.refl H
  have hXs := hX.size
  refine callsH_of_W (args := [SpV s.bits hu hf, .int .i64 n, .int .i64 bits]) (ρ₀ := (upd (upd (upd (fun _ => undef) 2 (.int .i64 bits)) 1 (.int .i64 n)) 0 (SpV s.bits hu hf))) rfl Try.func4 rfl (by kernel_rfl) ?_
  refine go_ (hq := ?_)
  refine box_ (h := fun c H2 hE2 hge_c hB_c => ?_)
  have hf_hB_c : Frs H (fB c) := Frs.mono (Frs.blk hge_c) hXs
  replace hX := hX.trans hE2
  replace hXs := hX.size
  replace h1 := h10.ext hX
  replace h2 := h20.ext hX
  refine go_ (hq := ?_)
  refine call_ (hc := begun_spec) (h := ?_)
  rintro v4 H4 ⟨rfl, hE4⟩
  replace hX := hX.trans hE4
  replace hXs := hX.size
  replace h1 := h10.ext hX
  replace h2 := h20.ext hX
  replace hB_c := hB_c.ext hE4
  simp only [put]
  refine go_ (hq := ?_)
  refine if_ (ht := fun hbg => ?_) (hf := fun hbg => ?_)
  · exact absurd trivial hbg
  · skip
    refine go_ (hq := ?_)
    refine call_ (hc := vastSpace_spec h1 h2 hn) (h := ?_)
    rintro v8 H8 ⟨rfl, hE8⟩
    replace hX := hX.trans hE8
    replace hXs := hX.size
    replace h1 := h10.ext hX
    replace h2 := h20.ext hX
    replace hB_c := hB_c.ext hE8
    simp only [put]
    refine go_ (hq := ?_)
    refine if_ (ht := fun hvast => ?_) (hf := fun hvast => ?_)
    · skip
      refine go_ (hq := ?_)
      refine ret1_ (h := ?_)
      exact ⟨rfl, hX⟩
    · skip
      have hl6 : s.used.length + s.free.length ≤ 6000 := by omega
      refine go_ (hq := ?_)
      refine call_ (hc := ownSpace_spec h1 h2 (by omega)) (h := ?_)
      rintro v1 H1 ⟨⟨xu, xf, rfl, g1, g2⟩, hE1⟩
      replace hX := hX.trans hE1
      replace hXs := hX.size
      replace h1 := h10.ext hX
      replace h2 := h20.ext hX
      replace hB_c := hB_c.ext hE1
      have s1 : SlS _ xu.val s.used := g1
      have s2 : SlS _ xf.val s.free := g2
      simp only [put]
      refine go_ (hq := ?_)
      refine st_alloc fun b7 H16 hE16 hge_b7 hB_b7 => ?_
      have hs_hB_c_hB_b7 : Apt (fB c) (fB b7) := Apt.new hB_c.old (Frs.blk hge_b7)
      have hs_s1_hB_b7 : Apt (fS xu.val s.used) (fB b7) := Apt.new s1.old (Frs.blk hge_b7)
      have hs_s2_hB_b7 : Apt (fS xf.val s.free) (fB b7) := Apt.new s2.old (Frs.blk hge_b7)
      have hf_hB_b7 : Frs H (fB b7) := Frs.mono (Frs.blk hge_b7) hXs
      replace hX := hX.trans hE16
      replace hXs := hX.size
      replace h1 := h10.ext hX
      replace h2 := h20.ext hX
      replace hB_c := hB_c.ext hE16
      replace s1 := s1.ext hE16
      replace s2 := s2.ext hE16
      refine go_ (hq := ?_)
      refine store_ hB_b7 (h := fun H18 hM18 hsz18 hB_b7 => ?_)
      replace hX := hX.mut hM18 hf_hB_b7
      replace hXs := hX.size
      replace h1 := h10.ext hX
      replace h2 := h20.ext hX
      replace hB_c := hB_c.mutF hM18 (hs_hB_c_hB_b7.symm)
      replace s1 := s1.mutF hM18 (hs_s1_hB_b7.symm)
      replace s2 := s2.mutF hM18 (hs_s2_hB_b7.symm)
      refine go_ (hq := ?_)
      have e1 : SlE _ xu.val s.used := s1
      have e2 : SlE _ xf.val s.free := s2
      refine call_ (hc := bcheck_spec e1 e2 hb (by omega) hr) (h := ?_)
      rintro v20 H20 ⟨rfl, hE20⟩
      replace hX := hX.trans hE20
      replace hXs := hX.size
      replace h1 := h10.ext hX
      replace h2 := h20.ext hX
      replace hB_c := hB_c.ext hE20
      replace s1 := s1.ext hE20
      replace s2 := s2.ext hE20
      replace hB_b7 := hB_b7.ext hE20
      simp only [put]
      clear e1 e2
      refine go_ (hq := ?_)
      refine st_alloc fun b8 H22 hE22 hge_b8 hB_b8 => ?_
      have hs_hB_c_hB_b8 : Apt (fB c) (fB b8) := Apt.new hB_c.old (Frs.blk hge_b8)
      have hs_s1_hB_b8 : Apt (fS xu.val s.used) (fB b8) := Apt.new s1.old (Frs.blk hge_b8)
      have hs_s2_hB_b8 : Apt (fS xf.val s.free) (fB b8) := Apt.new s2.old (Frs.blk hge_b8)
      have hs_hB_b7_hB_b8 : Apt (fB b7) (fB b8) := Apt.new hB_b7.old (Frs.blk hge_b8)
      have hf_hB_b8 : Frs H (fB b8) := Frs.mono (Frs.blk hge_b8) hXs
      replace hX := hX.trans hE22
      replace hXs := hX.size
      replace h1 := h10.ext hX
      replace h2 := h20.ext hX
      replace hB_c := hB_c.ext hE22
      replace s1 := s1.ext hE22
      replace s2 := s2.ext hE22
      replace hB_b7 := hB_b7.ext hE22
      refine go_ (hq := ?_)
      refine store_ hB_b8 (h := fun H24 hM24 hsz24 hB_b8 => ?_)
      replace hX := hX.mut hM24 hf_hB_b8
      replace hXs := hX.size
      replace h1 := h10.ext hX
      replace h2 := h20.ext hX
      replace hB_c := hB_c.mutF hM24 (hs_hB_c_hB_b8.symm)
      replace s1 := s1.mutF hM24 (hs_s1_hB_b8.symm)
      replace s2 := s2.mutF hM24 (hs_s2_hB_b8.symm)
      replace hB_b7 := hB_b7.mutF hM24 (hs_hB_b7_hB_b8.symm)
      refine go_ (hq := ?_)
      have e1 : SlE _ xu.val s.used := s1
      have e2 : SlE _ xf.val s.free := s2
      refine call_ (hc := take_spec n e1 e2 hb (by omega) hr) (h := ?_)
      rintro v2 H2 ⟨sv2, rfl, ⟨tu, tf, rfl, g3, g4⟩, hE2⟩
      clear e1 e2
      replace hX := hX.trans hE2
      replace hXs := hX.size
      replace h1 := h10.ext hX
      replace h2 := h20.ext hX
      replace hB_c := hB_c.ext hE2
      replace s1 := s1.ext hE2
      replace s2 := s2.ext hE2
      replace hB_b7 := hB_b7.ext hE2
      replace hB_b8 := hB_b8.ext hE2
      obtain ⟨T, hT⟩ : ∃ T, T = takeV s n := ⟨_, rfl⟩
      rw [← hT] at g3 g4 ⊢
      have s3 : SlS _ tu.val T.1.used := g3.sl
      have s4 : SlS _ tf.val T.1.free := g4.sl
      simp only [put]
      refine go_ (hq := ?_)
      refine st_alloc fun b9 H29 hE29 hge_b9 hB_b9 => ?_
      have hs_hB_c_hB_b9 : Apt (fB c) (fB b9) := Apt.new hB_c.old (Frs.blk hge_b9)
      have hs_s1_hB_b9 : Apt (fS xu.val s.used) (fB b9) := Apt.new s1.old (Frs.blk hge_b9)
      have hs_s2_hB_b9 : Apt (fS xf.val s.free) (fB b9) := Apt.new s2.old (Frs.blk hge_b9)
      have hs_hB_b7_hB_b9 : Apt (fB b7) (fB b9) := Apt.new hB_b7.old (Frs.blk hge_b9)
      have hs_hB_b8_hB_b9 : Apt (fB b8) (fB b9) := Apt.new hB_b8.old (Frs.blk hge_b9)
      have hs_s3_hB_b9 : Apt (fS tu.val T.1.used) (fB b9) := Apt.new s3.old (Frs.blk hge_b9)
      have hs_s4_hB_b9 : Apt (fS tf.val T.1.free) (fB b9) := Apt.new s4.old (Frs.blk hge_b9)
      have hf_hB_b9 : Frs H (fB b9) := Frs.mono (Frs.blk hge_b9) hXs
      replace hX := hX.trans hE29
      replace hXs := hX.size
      replace h1 := h10.ext hX
      replace h2 := h20.ext hX
      replace hB_c := hB_c.ext hE29
      replace s1 := s1.ext hE29
      replace s2 := s2.ext hE29
      replace hB_b7 := hB_b7.ext hE29
      replace hB_b8 := hB_b8.ext hE29
      replace s3 := s3.ext hE29
      replace s4 := s4.ext hE29
      refine go_ (hq := ?_)
      refine st_alloc fun b11 H31 hE31 hge_b11 hB_b11 => ?_
      have hs_hB_c_hB_b11 : Apt (fB c) (fB b11) := Apt.new hB_c.old (Frs.blk hge_b11)
      have hs_s1_hB_b11 : Apt (fS xu.val s.used) (fB b11) := Apt.new s1.old (Frs.blk hge_b11)
      have hs_s2_hB_b11 : Apt (fS xf.val s.free) (fB b11) := Apt.new s2.old (Frs.blk hge_b11)
      have hs_hB_b7_hB_b11 : Apt (fB b7) (fB b11) := Apt.new hB_b7.old (Frs.blk hge_b11)
      have hs_hB_b8_hB_b11 : Apt (fB b8) (fB b11) := Apt.new hB_b8.old (Frs.blk hge_b11)
      have hs_s3_hB_b11 : Apt (fS tu.val T.1.used) (fB b11) := Apt.new s3.old (Frs.blk hge_b11)
      have hs_s4_hB_b11 : Apt (fS tf.val T.1.free) (fB b11) := Apt.new s4.old (Frs.blk hge_b11)
      have hs_hB_b9_hB_b11 : Apt (fB b9) (fB b11) := Apt.new hB_b9.old (Frs.blk hge_b11)
      have hf_hB_b11 : Frs H (fB b11) := Frs.mono (Frs.blk hge_b11) hXs
      replace hX := hX.trans hE31
      replace hXs := hX.size
      replace h1 := h10.ext hX
      replace h2 := h20.ext hX
      replace hB_c := hB_c.ext hE31
      replace s1 := s1.ext hE31
      replace s2 := s2.ext hE31
      replace hB_b7 := hB_b7.ext hE31
      replace hB_b8 := hB_b8.ext hE31
      replace s3 := s3.ext hE31
      replace s4 := s4.ext hE31
      replace hB_b9 := hB_b9.ext hE31
      refine go_ (hq := ?_)
      refine store_ hB_b9 (h := fun H33 hM33 hsz33 hB_b9 => ?_)
      replace hX := hX.mut hM33 hf_hB_b9
      replace hXs := hX.size
      replace h1 := h10.ext hX
      replace h2 := h20.ext hX
      replace hB_c := hB_c.mutF hM33 (hs_hB_c_hB_b9.symm)
      replace s1 := s1.mutF hM33 (hs_s1_hB_b9.symm)
      replace s2 := s2.mutF hM33 (hs_s2_hB_b9.symm)
      replace hB_b7 := hB_b7.mutF hM33 (hs_hB_b7_hB_b9.symm)
      replace hB_b8 := hB_b8.mutF hM33 (hs_hB_b8_hB_b9.symm)
      replace s3 := s3.mutF hM33 (hs_s3_hB_b9.symm)
      replace s4 := s4.mutF hM33 (hs_s4_hB_b9.symm)
      replace hB_b11 := hB_b11.mutF hM33 hs_hB_b9_hB_b11
      refine go_ (hq := ?_)
      refine store_ hB_b11 (h := fun H35 hM35 hsz35 hB_b11 => ?_)
      replace hX := hX.mut hM35 hf_hB_b11
      replace hXs := hX.size
      replace h1 := h10.ext hX
      replace h2 := h20.ext hX
      replace hB_c := hB_c.mutF hM35 (hs_hB_c_hB_b11.symm)
      replace s1 := s1.mutF hM35 (hs_s1_hB_b11.symm)
      replace s2 := s2.mutF hM35 (hs_s2_hB_b11.symm)
      replace hB_b7 := hB_b7.mutF hM35 (hs_hB_b7_hB_b11.symm)
      replace hB_b8 := hB_b8.mutF hM35 (hs_hB_b8_hB_b11.symm)
      replace s3 := s3.mutF hM35 (hs_s3_hB_b11.symm)
      replace s4 := s4.mutF hM35 (hs_s4_hB_b11.symm)
      replace hB_b9 := hB_b9.mutF hM35 (hs_hB_b9_hB_b11.symm)
      refine go_ (hq := ?_)
      refine call_ (hc := new_spec bits) (h := ?_)
      rintro v3 H3 ⟨sv3, rfl, ⟨nu, nf, rfl, g5, g6⟩, hE3⟩
      replace hX := hX.trans hE3
      replace hXs := hX.size
      replace h1 := h10.ext hX
      replace h2 := h20.ext hX
      replace hB_c := hB_c.ext hE3
      replace s1 := s1.ext hE3
      replace s2 := s2.ext hE3
      replace hB_b7 := hB_b7.ext hE3
      replace hB_b8 := hB_b8.ext hE3
      replace s3 := s3.ext hE3
      replace s4 := s4.ext hE3
      replace hB_b9 := hB_b9.ext hE3
      replace hB_b11 := hB_b11.ext hE3
      obtain ⟨NN, hNN⟩ : ∃ NN, NN = newP bits := ⟨_, rfl⟩
      rw [← hNN] at g5 g6 ⊢
      have s5 : SlS _ nu.val NN.1.used := g5
      have s6 : SlS _ nf.val NN.1.free := g6
      simp only [put]
      refine go_ (hq := ?_)
      refine st_alloc fun b12 H40 hE40 hge_b12 hB_b12 => ?_
      have hs_hB_c_hB_b12 : Apt (fB c) (fB b12) := Apt.new hB_c.old (Frs.blk hge_b12)
      have hs_s1_hB_b12 : Apt (fS xu.val s.used) (fB b12) := Apt.new s1.old (Frs.blk hge_b12)
      have hs_s2_hB_b12 : Apt (fS xf.val s.free) (fB b12) := Apt.new s2.old (Frs.blk hge_b12)
      have hs_hB_b7_hB_b12 : Apt (fB b7) (fB b12) := Apt.new hB_b7.old (Frs.blk hge_b12)
      have hs_hB_b8_hB_b12 : Apt (fB b8) (fB b12) := Apt.new hB_b8.old (Frs.blk hge_b12)
      have hs_s3_hB_b12 : Apt (fS tu.val T.1.used) (fB b12) := Apt.new s3.old (Frs.blk hge_b12)
      have hs_s4_hB_b12 : Apt (fS tf.val T.1.free) (fB b12) := Apt.new s4.old (Frs.blk hge_b12)
      have hs_hB_b9_hB_b12 : Apt (fB b9) (fB b12) := Apt.new hB_b9.old (Frs.blk hge_b12)
      have hs_hB_b11_hB_b12 : Apt (fB b11) (fB b12) := Apt.new hB_b11.old (Frs.blk hge_b12)
      have hs_s5_hB_b12 : Apt (fS nu.val NN.1.used) (fB b12) := Apt.new s5.old (Frs.blk hge_b12)
      have hs_s6_hB_b12 : Apt (fS nf.val NN.1.free) (fB b12) := Apt.new s6.old (Frs.blk hge_b12)
      have hf_hB_b12 : Frs H (fB b12) := Frs.mono (Frs.blk hge_b12) hXs
      replace hX := hX.trans hE40
      replace hXs := hX.size
      replace h1 := h10.ext hX
      replace h2 := h20.ext hX
      replace hB_c := hB_c.ext hE40
      replace s1 := s1.ext hE40
      replace s2 := s2.ext hE40
      replace hB_b7 := hB_b7.ext hE40
      replace hB_b8 := hB_b8.ext hE40
      replace s3 := s3.ext hE40
      replace s4 := s4.ext hE40
      replace hB_b9 := hB_b9.ext hE40
      replace hB_b11 := hB_b11.ext hE40
      replace s5 := s5.ext hE40
      replace s6 := s6.ext hE40
      refine go_ (hq := ?_)
      refine st_alloc fun b13 H42 hE42 hge_b13 hB_b13 => ?_
      have hs_hB_c_hB_b13 : Apt (fB c) (fB b13) := Apt.new hB_c.old (Frs.blk hge_b13)
      have hs_s1_hB_b13 : Apt (fS xu.val s.used) (fB b13) := Apt.new s1.old (Frs.blk hge_b13)
      have hs_s2_hB_b13 : Apt (fS xf.val s.free) (fB b13) := Apt.new s2.old (Frs.blk hge_b13)
      have hs_hB_b7_hB_b13 : Apt (fB b7) (fB b13) := Apt.new hB_b7.old (Frs.blk hge_b13)
      have hs_hB_b8_hB_b13 : Apt (fB b8) (fB b13) := Apt.new hB_b8.old (Frs.blk hge_b13)
      have hs_s3_hB_b13 : Apt (fS tu.val T.1.used) (fB b13) := Apt.new s3.old (Frs.blk hge_b13)
      have hs_s4_hB_b13 : Apt (fS tf.val T.1.free) (fB b13) := Apt.new s4.old (Frs.blk hge_b13)
      have hs_hB_b9_hB_b13 : Apt (fB b9) (fB b13) := Apt.new hB_b9.old (Frs.blk hge_b13)
      have hs_hB_b11_hB_b13 : Apt (fB b11) (fB b13) := Apt.new hB_b11.old (Frs.blk hge_b13)
      have hs_s5_hB_b13 : Apt (fS nu.val NN.1.used) (fB b13) := Apt.new s5.old (Frs.blk hge_b13)
      have hs_s6_hB_b13 : Apt (fS nf.val NN.1.free) (fB b13) := Apt.new s6.old (Frs.blk hge_b13)
      have hs_hB_b12_hB_b13 : Apt (fB b12) (fB b13) := Apt.new hB_b12.old (Frs.blk hge_b13)
      have hf_hB_b13 : Frs H (fB b13) := Frs.mono (Frs.blk hge_b13) hXs
      replace hX := hX.trans hE42
      replace hXs := hX.size
      replace h1 := h10.ext hX
      replace h2 := h20.ext hX
      replace hB_c := hB_c.ext hE42
      replace s1 := s1.ext hE42
      replace s2 := s2.ext hE42
      replace hB_b7 := hB_b7.ext hE42
      replace hB_b8 := hB_b8.ext hE42
      replace s3 := s3.ext hE42
      replace s4 := s4.ext hE42
      replace hB_b9 := hB_b9.ext hE42
      replace hB_b11 := hB_b11.ext hE42
      replace s5 := s5.ext hE42
      replace s6 := s6.ext hE42
      replace hB_b12 := hB_b12.ext hE42
      refine go_ (hq := ?_)
      refine store_ hB_b12 (h := fun H44 hM44 hsz44 hB_b12 => ?_)
      replace hX := hX.mut hM44 hf_hB_b12
      replace hXs := hX.size
      replace h1 := h10.ext hX
      replace h2 := h20.ext hX
      replace hB_c := hB_c.mutF hM44 (hs_hB_c_hB_b12.symm)
      replace s1 := s1.mutF hM44 (hs_s1_hB_b12.symm)
      replace s2 := s2.mutF hM44 (hs_s2_hB_b12.symm)
      replace hB_b7 := hB_b7.mutF hM44 (hs_hB_b7_hB_b12.symm)
      replace hB_b8 := hB_b8.mutF hM44 (hs_hB_b8_hB_b12.symm)
      replace s3 := s3.mutF hM44 (hs_s3_hB_b12.symm)
      replace s4 := s4.mutF hM44 (hs_s4_hB_b12.symm)
      replace hB_b9 := hB_b9.mutF hM44 (hs_hB_b9_hB_b12.symm)
      replace hB_b11 := hB_b11.mutF hM44 (hs_hB_b11_hB_b12.symm)
      replace s5 := s5.mutF hM44 (hs_s5_hB_b12.symm)
      replace s6 := s6.mutF hM44 (hs_s6_hB_b12.symm)
      replace hB_b13 := hB_b13.mutF hM44 hs_hB_b12_hB_b13
      refine go_ (hq := ?_)
      refine store_ hB_b13 (h := fun H46 hM46 hsz46 hB_b13 => ?_)
      replace hX := hX.mut hM46 hf_hB_b13
      replace hXs := hX.size
      replace h1 := h10.ext hX
      replace h2 := h20.ext hX
      replace hB_c := hB_c.mutF hM46 (hs_hB_c_hB_b13.symm)
      replace s1 := s1.mutF hM46 (hs_s1_hB_b13.symm)
      replace s2 := s2.mutF hM46 (hs_s2_hB_b13.symm)
      replace hB_b7 := hB_b7.mutF hM46 (hs_hB_b7_hB_b13.symm)
      replace hB_b8 := hB_b8.mutF hM46 (hs_hB_b8_hB_b13.symm)
      replace s3 := s3.mutF hM46 (hs_s3_hB_b13.symm)
      replace s4 := s4.mutF hM46 (hs_s4_hB_b13.symm)
      replace hB_b9 := hB_b9.mutF hM46 (hs_hB_b9_hB_b13.symm)
      replace hB_b11 := hB_b11.mutF hM46 (hs_hB_b11_hB_b13.symm)
      replace s5 := s5.mutF hM46 (hs_s5_hB_b13.symm)
      replace s6 := s6.mutF hM46 (hs_s6_hB_b13.symm)
      replace hB_b12 := hB_b12.mutF hM46 (hs_hB_b12_hB_b13.symm)
      refine go_ (hq := ?_)
      refine call_ (hc := spaceFault_walk h1 h2 hb (by omega) hr) (h := ?_)
      rintro v48 H48 ⟨rfl, hE48⟩
      replace hX := hX.trans hE48
      replace hXs := hX.size
      replace h1 := h10.ext hX
      replace h2 := h20.ext hX
      replace hB_c := hB_c.ext hE48
      replace s1 := s1.ext hE48
      replace s2 := s2.ext hE48
      replace hB_b7 := hB_b7.ext hE48
      replace hB_b8 := hB_b8.ext hE48
      replace s3 := s3.ext hE48
      replace s4 := s4.ext hE48
      replace hB_b9 := hB_b9.ext hE48
      replace hB_b11 := hB_b11.ext hE48
      replace s5 := s5.ext hE48
      replace s6 := s6.ext hE48
      replace hB_b12 := hB_b12.ext hE48
      replace hB_b13 := hB_b13.ext hE48
      simp only [put]
      refine go_ (hq := ?_)
      refine st_alloc fun b14 H50 hE50 hge_b14 hB_b14 => ?_
      have hs_hB_c_hB_b14 : Apt (fB c) (fB b14) := Apt.new hB_c.old (Frs.blk hge_b14)
      have hs_s1_hB_b14 : Apt (fS xu.val s.used) (fB b14) := Apt.new s1.old (Frs.blk hge_b14)
      have hs_s2_hB_b14 : Apt (fS xf.val s.free) (fB b14) := Apt.new s2.old (Frs.blk hge_b14)
      have hs_hB_b7_hB_b14 : Apt (fB b7) (fB b14) := Apt.new hB_b7.old (Frs.blk hge_b14)
      have hs_hB_b8_hB_b14 : Apt (fB b8) (fB b14) := Apt.new hB_b8.old (Frs.blk hge_b14)
      have hs_s3_hB_b14 : Apt (fS tu.val T.1.used) (fB b14) := Apt.new s3.old (Frs.blk hge_b14)
      have hs_s4_hB_b14 : Apt (fS tf.val T.1.free) (fB b14) := Apt.new s4.old (Frs.blk hge_b14)
      have hs_hB_b9_hB_b14 : Apt (fB b9) (fB b14) := Apt.new hB_b9.old (Frs.blk hge_b14)
      have hs_hB_b11_hB_b14 : Apt (fB b11) (fB b14) := Apt.new hB_b11.old (Frs.blk hge_b14)
      have hs_s5_hB_b14 : Apt (fS nu.val NN.1.used) (fB b14) := Apt.new s5.old (Frs.blk hge_b14)
      have hs_s6_hB_b14 : Apt (fS nf.val NN.1.free) (fB b14) := Apt.new s6.old (Frs.blk hge_b14)
      have hs_hB_b12_hB_b14 : Apt (fB b12) (fB b14) := Apt.new hB_b12.old (Frs.blk hge_b14)
      have hs_hB_b13_hB_b14 : Apt (fB b13) (fB b14) := Apt.new hB_b13.old (Frs.blk hge_b14)
      have hf_hB_b14 : Frs H (fB b14) := Frs.mono (Frs.blk hge_b14) hXs
      replace hX := hX.trans hE50
      replace hXs := hX.size
      replace h1 := h10.ext hX
      replace h2 := h20.ext hX
      replace hB_c := hB_c.ext hE50
      replace s1 := s1.ext hE50
      replace s2 := s2.ext hE50
      replace hB_b7 := hB_b7.ext hE50
      replace hB_b8 := hB_b8.ext hE50
      replace s3 := s3.ext hE50
      replace s4 := s4.ext hE50
      replace hB_b9 := hB_b9.ext hE50
      replace hB_b11 := hB_b11.ext hE50
      replace s5 := s5.ext hE50
      replace s6 := s6.ext hE50
      replace hB_b12 := hB_b12.ext hE50
      replace hB_b13 := hB_b13.ext hE50
      refine go_ (hq := ?_)
      refine store_ hB_b14 (h := fun H52 hM52 hsz52 hB_b14 => ?_)
      replace hX := hX.mut hM52 hf_hB_b14
      replace hXs := hX.size
      replace h1 := h10.ext hX
      replace h2 := h20.ext hX
      replace hB_c := hB_c.mutF hM52 (hs_hB_c_hB_b14.symm)
      replace s1 := s1.mutF hM52 (hs_s1_hB_b14.symm)
      replace s2 := s2.mutF hM52 (hs_s2_hB_b14.symm)
      replace hB_b7 := hB_b7.mutF hM52 (hs_hB_b7_hB_b14.symm)
      replace hB_b8 := hB_b8.mutF hM52 (hs_hB_b8_hB_b14.symm)
      replace s3 := s3.mutF hM52 (hs_s3_hB_b14.symm)
      replace s4 := s4.mutF hM52 (hs_s4_hB_b14.symm)
      replace hB_b9 := hB_b9.mutF hM52 (hs_hB_b9_hB_b14.symm)
      replace hB_b11 := hB_b11.mutF hM52 (hs_hB_b11_hB_b14.symm)
      replace s5 := s5.mutF hM52 (hs_s5_hB_b14.symm)
      replace s6 := s6.mutF hM52 (hs_s6_hB_b14.symm)
      replace hB_b12 := hB_b12.mutF hM52 (hs_hB_b12_hB_b14.symm)
      replace hB_b13 := hB_b13.mutF hM52 (hs_hB_b13_hB_b14.symm)
      refine go_ (hq := ?_)
      have hp : ((!decide ((faultR s).code = (faultR s).code ∧ (faultR s).at_ = (faultR s).at_)) == false) = true := by simp
      have e1 : SlE _ xu.val s.used := s1
      have e2 : SlE _ xf.val s.free := s2
      refine callg_ hp (hc := sameSpace_spec e1 e2 h1 h2) (h := ?_)
      rintro v9 H9 ⟨rfl, hE9⟩
      clear e1 e2
      replace hX := hX.trans hE9
      replace hXs := hX.size
      replace h1 := h10.ext hX
      replace h2 := h20.ext hX
      replace hB_c := hB_c.ext hE9
      replace s1 := s1.ext hE9
      replace s2 := s2.ext hE9
      replace hB_b7 := hB_b7.ext hE9
      replace hB_b8 := hB_b8.ext hE9
      replace s3 := s3.ext hE9
      replace s4 := s4.ext hE9
      replace hB_b9 := hB_b9.ext hE9
      replace hB_b11 := hB_b11.ext hE9
      replace s5 := s5.ext hE9
      replace s6 := s6.ext hE9
      replace hB_b12 := hB_b12.ext hE9
      replace hB_b13 := hB_b13.ext hE9
      replace hB_b14 := hB_b14.ext hE9
      refine go_ (hq := ?_)
      refine if_ (ht := fun hne => ?_) (hf := fun hne => ?_)
      · exact absurd hne (by simp)
      · skip
        refine go_ (hq := ?_)
        have hnew : (bits < 0 ∨ 30 < bits) → NN = (sp0, ⟨3, -1⟩) := fun h => by rw [hNN, newP, if_pos h]; rfl
        have hnew2 : ¬ (bits < 0 ∨ 30 < bits) → NN = (newS bits, ⟨0, 0⟩) := fun h => by rw [hNN, newP, if_neg h]
        refine W_cutQ (X := Unit) (fun _ => [(1, .int .i64 n), (3, .pointer (some ⟨c, 0, none⟩)), (6, .bool false), (9, .pointer (some ⟨b9, 0, none⟩)), (10, .int .i64 T.2.1), (11, .pointer (some ⟨b11, 0, none⟩)), (14, .pointer (some ⟨b14, 0, none⟩))])
          (fun _ H' => Ext H H' ∧ Blk H' c 41 [.int .i64 s.bits, hu.val, hf.val] ∧ SlS H' tu.val T.1.used ∧ SlS H' tf.val T.1.free ∧ Blk H' b9 41 [.int .i64 T.1.bits, tu.val, tf.val] ∧ Blk H' b11 28 [.int .i64 T.2.2.code, .int .i64 T.2.2.at_] ∧ Blk H' b14 28 [.int .i64 (faultR s).code, .int .i64 (faultR s).at_]) ?_ ?_
        · skip
          refine if_ (ht := fun hbits => ?_) (hf := fun hbits => ?_)
          · skip
            have hN := hnew hbits
            rw [hN] at hB_b12 hB_b13 s5 s6
            dsimp only at hB_b12 hB_b13 s5 s6
            refine go_ (hq := ?_)
            refine draw_ mixed (Q := _) 0 [0,1,2,3,4,5,6,7,8] (h := ?_)
            refine go_ (hq := ?_)
            refine call_ (hc := F_spec _ _) (h := ?_)
            rintro v62 H62 ⟨rfl, hE62⟩
            replace hX := hX.trans hE62
            replace hXs := hX.size
            replace h1 := h10.ext hX
            replace h2 := h20.ext hX
            replace hB_c := hB_c.ext hE62
            replace s1 := s1.ext hE62
            replace s2 := s2.ext hE62
            replace hB_b7 := hB_b7.ext hE62
            replace hB_b8 := hB_b8.ext hE62
            replace s3 := s3.ext hE62
            replace s4 := s4.ext hE62
            replace hB_b9 := hB_b9.ext hE62
            replace hB_b11 := hB_b11.ext hE62
            replace s5 := s5.ext hE62
            replace s6 := s6.ext hE62
            replace hB_b12 := hB_b12.ext hE62
            replace hB_b13 := hB_b13.ext hE62
            replace hB_b14 := hB_b14.ext hE62
            simp only [put]
            refine go_ (hq := ?_)
            have hp1 : ((!decide ((3 : Int) = (⟨3, -1⟩ : FaultD).code ∧ (-1 : Int) = (⟨3, -1⟩ : FaultD).at_)) == false) = true := by decide
            have e5 : SlE _ nu.val sp0.used := s5
            have e6 : SlE _ nf.val sp0.free := s6
            refine callg_ hp1 (hc := sameSpace_spec (s := sp0) (s' := ⟨0, [], []⟩) (hu' := ⟨none, 0, 0⟩) (hf' := ⟨none, 0, 0⟩) e5 e6 (SlE.nil _) (SlE.nil _)) (h := ?_)
            rintro v8 H8 ⟨rfl, hE8⟩
            clear e5 e6
            replace hX := hX.trans hE8
            replace hXs := hX.size
            replace h1 := h10.ext hX
            replace h2 := h20.ext hX
            replace hB_c := hB_c.ext hE8
            replace s1 := s1.ext hE8
            replace s2 := s2.ext hE8
            replace hB_b7 := hB_b7.ext hE8
            replace hB_b8 := hB_b8.ext hE8
            replace s3 := s3.ext hE8
            replace s4 := s4.ext hE8
            replace hB_b9 := hB_b9.ext hE8
            replace hB_b11 := hB_b11.ext hE8
            replace s5 := s5.ext hE8
            replace s6 := s6.ext hE8
            replace hB_b12 := hB_b12.ext hE8
            replace hB_b13 := hB_b13.ext hE8
            replace hB_b14 := hB_b14.ext hE8
            refine go_ (hq := ?_)
            refine if_ (ht := fun hq => ?_) (hf := fun hq => ?_)
            · exact absurd hq (by decide)
            · skip
              refine go_ (hq := ?_)
              exact ⟨(), hold_, hX, hB_c, s3, s4, hB_b9, hB_b11, hB_b14⟩
          · skip
            have hN := hnew2 hbits
            rw [hN] at hB_b12 hB_b13 s5 s6
            dsimp only at hB_b12 hB_b13 s5 s6
            refine go_ (hq := ?_)
            refine draw_ mixed (Q := _) 0 [0,1,2,3,4,5,6,7,8,9,10,11,12,13] (h := ?_)
            refine go_ (hq := ?_)
            have hp1 : (decide ((0 : Int) ≠ 0) == false) = true := by decide
            refine ung_ hp1 (h := ?_)
            refine st_lit [(⟨0, shlI 1 bits⟩ : BlockD)] rfl rfl rfl (by decide) (by decide) (by repeat (first | exact PV.nil | (apply PV.cons; (focus (exact lg_))))) rfl (h := fun vl H7 o7 hE7 hN7 => ?_)
            replace hX := hX.trans hE7
            replace hXs := hX.size
            replace h1 := h10.ext hX
            replace h2 := h20.ext hX
            replace hB_c := hB_c.ext hE7
            replace s1 := s1.ext hE7
            replace s2 := s2.ext hE7
            replace hB_b7 := hB_b7.ext hE7
            replace hB_b8 := hB_b8.ext hE7
            replace s3 := s3.ext hE7
            replace s4 := s4.ext hE7
            replace hB_b9 := hB_b9.ext hE7
            replace hB_b11 := hB_b11.ext hE7
            replace s5 := s5.ext hE7
            replace s6 := s6.ext hE7
            replace hB_b12 := hB_b12.ext hE7
            replace hB_b13 := hB_b13.ext hE7
            replace hB_b14 := hB_b14.ext hE7
            obtain ⟨dl, rfl⟩ := o7.sl.hdrOf
            have e7 := o7.sl
            refine go_ (hq := ?_)
            have e5 : SlE _ nu.val (newS bits).used := s5
            have e6 : SlE _ nf.val (newS bits).free := s6
            refine callg_ hp1 (hc := sameSpace_spec (s := newS bits) (s' := ⟨bits, [], [⟨0, shlI 1 bits⟩]⟩) (hu' := ⟨none, 0, 0⟩) (hf' := dl) e5 e6 (SlE.nil _) e7) (h := ?_)
            rintro v8 H8 ⟨rfl, hE8⟩
            clear e5 e6 e7
            replace hX := hX.trans hE8
            replace hXs := hX.size
            replace h1 := h10.ext hX
            replace h2 := h20.ext hX
            replace hB_c := hB_c.ext hE8
            replace s1 := s1.ext hE8
            replace s2 := s2.ext hE8
            replace hB_b7 := hB_b7.ext hE8
            replace hB_b8 := hB_b8.ext hE8
            replace s3 := s3.ext hE8
            replace s4 := s4.ext hE8
            replace hB_b9 := hB_b9.ext hE8
            replace hB_b11 := hB_b11.ext hE8
            replace s5 := s5.ext hE8
            replace s6 := s6.ext hE8
            replace hB_b12 := hB_b12.ext hE8
            replace hB_b13 := hB_b13.ext hE8
            replace hB_b14 := hB_b14.ext hE8
            have hsame : newS bits = ⟨bits, [], [⟨0, shlI 1 bits⟩]⟩ := by rw [newS, shlI_one (by omega)]
            refine go_ (hq := ?_)
            refine if_ (ht := fun hq => ?_) (hf := fun hq => ?_)
            · exact absurd hq (by rw [hsame]; simp)
            · skip
              refine go_ (hq := ?_)
              exact ⟨(), hold_, hX, hB_c, s3, s4, hB_b9, hB_b11, hB_b14⟩
        · clear hX h1 h2 hB_c hB_b7 hB_b8 hB_b9 hB_b11 hB_b12 hB_b13 hB_b14 s1 s2 s3 s4 s5 s6
          rintro u _ H' ⟨hX, hB_c, s3, s4, hB_b9, hB_b11, hB_b14⟩
          have hXs := hX.size
          have h1 := h10.ext hX
          have h2 := h20.ext hX
          obtain ⟨w, hw⟩ : ∃ w : FaultD, w = if (faultR s).code = 0 ∧ (n < 1 ∨ 1073741824 < n) then ⟨3, -1⟩ else faultR s := ⟨_, rfl⟩
          refine go_ (hq := ?_)
          refine W_cutQ (X := Unit) (fun _ => [(1, .int .i64 n), (3, .pointer (some ⟨c, 0, none⟩)), (6, .bool false), (9, .pointer (some ⟨b9, 0, none⟩)), (10, .int .i64 T.2.1), (11, .pointer (some ⟨b11, 0, none⟩)), (14, .pointer (some ⟨b14, 0, none⟩))])
            (fun _ H' => Ext H H' ∧ Blk H' c 41 [.int .i64 s.bits, hu.val, hf.val] ∧ SlS H' tu.val T.1.used ∧ SlS H' tf.val T.1.free ∧ Blk H' b9 41 [.int .i64 T.1.bits, tu.val, tf.val] ∧ Blk H' b11 28 [.int .i64 T.2.2.code, .int .i64 T.2.2.at_] ∧ Blk H' b14 28 [.int .i64 w.code, .int .i64 w.at_]) ?_ ?_
          · skip
            refine if_ (ht := fun hrg => ?_) (hf := fun hrg => ?_)
            · skip
              refine go_ (hq := ?_)
              refine call_ (hc := F_spec _ _) (h := ?_)
              rintro v81 H81 ⟨rfl, hE81⟩
              replace hX := hX.trans hE81
              replace hXs := hX.size
              replace h1 := h10.ext hX
              replace h2 := h20.ext hX
              replace hB_c := hB_c.ext hE81
              replace s3 := s3.ext hE81
              replace s4 := s4.ext hE81
              replace hB_b9 := hB_b9.ext hE81
              replace hB_b11 := hB_b11.ext hE81
              replace hB_b14 := hB_b14.ext hE81
              simp only [put]
              refine go_ (hq := ?_)
              refine store_ hB_b14 (h := fun H83 hM83 hsz83 hB_b14 => ?_)
              replace hX := hX.mut hM83 hf_hB_b14
              replace hXs := hX.size
              replace h1 := h10.ext hX
              replace h2 := h20.ext hX
              replace hB_c := hB_c.mutF hM83 (hs_hB_c_hB_b14.symm)
              replace s3 := s3.mutF hM83 (hs_s3_hB_b14.symm)
              replace s4 := s4.mutF hM83 (hs_s4_hB_b14.symm)
              replace hB_b9 := hB_b9.mutF hM83 (hs_hB_b9_hB_b14.symm)
              replace hB_b11 := hB_b11.mutF hM83 (hs_hB_b11_hB_b14.symm)
              refine go_ (hq := ?_)
              have hw3 : w = ⟨3, -1⟩ := by rw [hw, if_pos hrg]
              rw [hw3]
              exact ⟨(), hold_, hX, hB_c, s3, s4, hB_b9, hB_b11, hB_b14⟩
            · skip
              refine go_ (hq := ?_)
              have hw3 : w = faultR s := by rw [hw, if_neg hrg]
              rw [hw3]
              exact ⟨(), hold_, hX, hB_c, s3, s4, hB_b9, hB_b11, hB_b14⟩
          · clear hX h1 h2 hB_c hB_b9 hB_b11 hB_b14 s3 s4 u
            rintro u _ H' ⟨hX, hB_c, s3, s4, hB_b9, hB_b11, hB_b14⟩
            have hXs := hX.size
            have h1 := h10.ext hX
            have h2 := h20.ext hX
            refine go_ (hq := ?_)
            refine st_alloc fun b15 H88 hE88 hge_b15 hB_b15 => ?_
            have hs_hB_c_hB_b15 : Apt (fB c) (fB b15) := Apt.new hB_c.old (Frs.blk hge_b15)
            have hs_s3_hB_b15 : Apt (fS tu.val T.1.used) (fB b15) := Apt.new s3.old (Frs.blk hge_b15)
            have hs_s4_hB_b15 : Apt (fS tf.val T.1.free) (fB b15) := Apt.new s4.old (Frs.blk hge_b15)
            have hs_hB_b9_hB_b15 : Apt (fB b9) (fB b15) := Apt.new hB_b9.old (Frs.blk hge_b15)
            have hs_hB_b11_hB_b15 : Apt (fB b11) (fB b15) := Apt.new hB_b11.old (Frs.blk hge_b15)
            have hs_hB_b14_hB_b15 : Apt (fB b14) (fB b15) := Apt.new hB_b14.old (Frs.blk hge_b15)
            have hf_hB_b15 : Frs H (fB b15) := Frs.mono (Frs.blk hge_b15) hXs
            replace hX := hX.trans hE88
            replace hXs := hX.size
            replace h1 := h10.ext hX
            replace h2 := h20.ext hX
            replace hB_c := hB_c.ext hE88
            replace s3 := s3.ext hE88
            replace s4 := s4.ext hE88
            replace hB_b9 := hB_b9.ext hE88
            replace hB_b11 := hB_b11.ext hE88
            replace hB_b14 := hB_b14.ext hE88
            refine go_ (hq := ?_)
            refine W_cutQ (X := FaultD × SpD × Hdr × Hdr × Int) (fun x => [(6, .bool false), (9, .pointer (some ⟨b9, 0, none⟩)), (10, .int .i64 T.2.1), (11, .pointer (some ⟨b11, 0, none⟩)), (14, .pointer (some ⟨b14, 0, none⟩)), (15, .pointer (some ⟨b15, 0, none⟩)), (16, .int .i64 x.2.2.2.2)])
              (fun x H' => Ext H H' ∧ SlE H' tu.val T.1.used ∧ SlE H' tf.val T.1.free ∧ Blk H' b9 41 [.int .i64 T.1.bits, tu.val, tf.val] ∧ Blk H' b11 28 [.int .i64 T.2.2.code, .int .i64 T.2.2.at_] ∧ Blk H' b14 28 [.int .i64 x.1.code, .int .i64 x.1.at_] ∧ Blk H' b15 41 [.int .i64 x.2.1.bits, x.2.2.1.val, x.2.2.2.1.val] ∧ SlE H' x.2.2.1.val x.2.1.used ∧ SlE H' x.2.2.2.1.val x.2.1.free ∧ Want T x.1 x.2.1 x.2.2.2.2) ?_ ?_
            · skip
              refine if_ (ht := fun hw0 => ?_) (hf := fun hw0 => ?_)
              · skip
                have hf0 : (faultR s).code = 0 ∧ ¬ (n < 1 ∨ 1073741824 < n) := by
                  by_cases hcc : (faultR s).code = 0 ∧ (n < 1 ∨ 1073741824 < n)
                  · rw [hw, if_pos hcc] at hw0; exact absurd hw0 (by decide)
                  · rw [hw, if_neg hcc] at hw0; exact ⟨hw0, fun h => hcc ⟨hw0, h⟩⟩
                have hwe : w = ⟨0, 0⟩ := by rw [hw, if_neg (fun h => hf0.2 h.2), faultR_ok hf0.1]
                obtain ⟨W, hVS⟩ : ∃ W, VS s W := ⟨_, (faultR_zero s).1 hf0.1⟩
                have hlen := hVS.len
                refine go_ (hq := ?_)
                refine call_ (hc := takenOf_spec hVS n (by omega) h1 h2) (h := ?_)
                rintro v8 H8 ⟨⟨hbn, rfl⟩ | ⟨q, hbq, du, df, rfl, g7, g8⟩, hE8⟩
                · skip
                  have hT2 : T = (sp0, 0, ⟨6, 0⟩) := by rw [hT, takeV, if_neg (fun h => h hf0.1), if_neg hf0.2, hbn]
                  replace hX := hX.trans hE8
                  replace hXs := hX.size
                  replace h1 := h10.ext hX
                  replace h2 := h20.ext hX
                  replace hB_c := hB_c.ext hE8
                  replace s3 := s3.ext hE8
                  replace s4 := s4.ext hE8
                  replace hB_b9 := hB_b9.ext hE8
                  replace hB_b11 := hB_b11.ext hE8
                  replace hB_b14 := hB_b14.ext hE8
                  replace hB_b15 := hB_b15.ext hE8
                  simp only [put]
                  refine go_ (hq := ?_)
                  refine st_alloc fun b17 H94 hE94 hge_b17 hB_b17 => ?_
                  have hs_hB_c_hB_b17 : Apt (fB c) (fB b17) := Apt.new hB_c.old (Frs.blk hge_b17)
                  have hs_s3_hB_b17 : Apt (fS tu.val T.1.used) (fB b17) := Apt.new s3.old (Frs.blk hge_b17)
                  have hs_s4_hB_b17 : Apt (fS tf.val T.1.free) (fB b17) := Apt.new s4.old (Frs.blk hge_b17)
                  have hs_hB_b9_hB_b17 : Apt (fB b9) (fB b17) := Apt.new hB_b9.old (Frs.blk hge_b17)
                  have hs_hB_b11_hB_b17 : Apt (fB b11) (fB b17) := Apt.new hB_b11.old (Frs.blk hge_b17)
                  have hs_hB_b14_hB_b17 : Apt (fB b14) (fB b17) := Apt.new hB_b14.old (Frs.blk hge_b17)
                  have hs_hB_b15_hB_b17 : Apt (fB b15) (fB b17) := Apt.new hB_b15.old (Frs.blk hge_b17)
                  have hf_hB_b17 : Frs H (fB b17) := Frs.mono (Frs.blk hge_b17) hXs
                  replace hX := hX.trans hE94
                  replace hXs := hX.size
                  replace h1 := h10.ext hX
                  replace h2 := h20.ext hX
                  replace hB_c := hB_c.ext hE94
                  replace s3 := s3.ext hE94
                  replace s4 := s4.ext hE94
                  replace hB_b9 := hB_b9.ext hE94
                  replace hB_b11 := hB_b11.ext hE94
                  replace hB_b14 := hB_b14.ext hE94
                  replace hB_b15 := hB_b15.ext hE94
                  refine go_ (hq := ?_)
                  refine store_ hB_b17 (h := fun H96 hM96 hsz96 hB_b17 => ?_)
                  replace hX := hX.mut hM96 hf_hB_b17
                  replace hXs := hX.size
                  replace h1 := h10.ext hX
                  replace h2 := h20.ext hX
                  replace hB_c := hB_c.mutF hM96 (hs_hB_c_hB_b17.symm)
                  replace s3 := s3.mutF hM96 (hs_s3_hB_b17.symm)
                  replace s4 := s4.mutF hM96 (hs_s4_hB_b17.symm)
                  replace hB_b9 := hB_b9.mutF hM96 (hs_hB_b9_hB_b17.symm)
                  replace hB_b11 := hB_b11.mutF hM96 (hs_hB_b11_hB_b17.symm)
                  replace hB_b14 := hB_b14.mutF hM96 (hs_hB_b14_hB_b17.symm)
                  replace hB_b15 := hB_b15.mutF hM96 (hs_hB_b15_hB_b17.symm)
                  refine go_ (hq := ?_)
                  refine if_ (ht := fun hok => ?_) (hf := fun hok => ?_)
                  · skip
                    refine go_ (hq := ?_)
                    refine call_ (hc := F_spec _ _) (h := ?_)
                    rintro v100 H100 ⟨rfl, hE100⟩
                    replace hX := hX.trans hE100
                    replace hXs := hX.size
                    replace h1 := h10.ext hX
                    replace h2 := h20.ext hX
                    replace hB_c := hB_c.ext hE100
                    replace s3 := s3.ext hE100
                    replace s4 := s4.ext hE100
                    replace hB_b9 := hB_b9.ext hE100
                    replace hB_b11 := hB_b11.ext hE100
                    replace hB_b14 := hB_b14.ext hE100
                    replace hB_b15 := hB_b15.ext hE100
                    replace hB_b17 := hB_b17.ext hE100
                    simp only [put]
                    refine go_ (hq := ?_)
                    refine store_ hB_b14 (h := fun H102 hM102 hsz102 hB_b14 => ?_)
                    replace hX := hX.mut hM102 hf_hB_b14
                    replace hXs := hX.size
                    replace h1 := h10.ext hX
                    replace h2 := h20.ext hX
                    replace hB_c := hB_c.mutF hM102 (hs_hB_c_hB_b14.symm)
                    replace s3 := s3.mutF hM102 (hs_s3_hB_b14.symm)
                    replace s4 := s4.mutF hM102 (hs_s4_hB_b14.symm)
                    replace hB_b9 := hB_b9.mutF hM102 (hs_hB_b9_hB_b14.symm)
                    replace hB_b11 := hB_b11.mutF hM102 (hs_hB_b11_hB_b14.symm)
                    replace hB_b15 := hB_b15.mutF hM102 hs_hB_b14_hB_b15
                    replace hB_b17 := hB_b17.mutF hM102 hs_hB_b14_hB_b17
                    refine go_ (hq := ?_)
                    refine store_ hB_b15 (h := fun H104 hM104 hsz104 hB_b15 => ?_)
                    replace hX := hX.mut hM104 hf_hB_b15
                    replace hXs := hX.size
                    replace h1 := h10.ext hX
                    replace h2 := h20.ext hX
                    replace hB_c := hB_c.mutF hM104 (hs_hB_c_hB_b15.symm)
                    replace s3 := s3.mutF hM104 (hs_s3_hB_b15.symm)
                    replace s4 := s4.mutF hM104 (hs_s4_hB_b15.symm)
                    replace hB_b9 := hB_b9.mutF hM104 (hs_hB_b9_hB_b15.symm)
                    replace hB_b11 := hB_b11.mutF hM104 (hs_hB_b11_hB_b15.symm)
                    replace hB_b14 := hB_b14.mutF hM104 (hs_hB_b14_hB_b15.symm)
                    replace hB_b17 := hB_b17.mutF hM104 hs_hB_b15_hB_b17
                    refine go_ (hq := ?_)
                    refine ⟨(⟨6, 0⟩, s, hu, hf, 0), hold_, hX, s3, s4, hB_b9, hB_b11, hB_b14, hB_b15, h1, h2, ?_⟩
                    rw [hT2]
                    exact ⟨rfl, fun _ => ⟨rfl, rfl⟩, fun h => absurd (show (6 : Int) = 0 from h) (by decide)⟩
                  · exact absurd (by simp) hok
                · skip
                  have hq := bestI_is hbq
                  have hTl := takeT_len hVS hq
                  have hT2 : T = if 5000 < (takeT s n q).used.length + (takeT s n q).free.length then (sp0, 0, ⟨9, 0⟩) else (takeT s n q, (s.free.getD q default).start, ⟨0, 0⟩) := by rw [hT, takeV, if_neg (fun h => h hf0.1), if_neg hf0.2, hbq]
                  have hs_hB_c_o_u : Apt (fB c) (fO du.val) := Apt.new hB_c.old (Own.frs g7 (Nat.le_refl _))
                  have hs_s3_o_u : Apt (fS tu.val T.1.used) (fO du.val) := Apt.new s3.old (Own.frs g7 (Nat.le_refl _))
                  have hs_s4_o_u : Apt (fS tf.val T.1.free) (fO du.val) := Apt.new s4.old (Own.frs g7 (Nat.le_refl _))
                  have hs_hB_b9_o_u : Apt (fB b9) (fO du.val) := Apt.new hB_b9.old (Own.frs g7 (Nat.le_refl _))
                  have hs_hB_b11_o_u : Apt (fB b11) (fO du.val) := Apt.new hB_b11.old (Own.frs g7 (Nat.le_refl _))
                  have hs_hB_b14_o_u : Apt (fB b14) (fO du.val) := Apt.new hB_b14.old (Own.frs g7 (Nat.le_refl _))
                  have hs_hB_b15_o_u : Apt (fB b15) (fO du.val) := Apt.new hB_b15.old (Own.frs g7 (Nat.le_refl _))
                  have hf_o_u : Frs H (fO du.val) := Frs.mono (Own.frs g7 (Nat.le_refl _)) hXs
                  have o_u := g7.mono hXs
                  have hs_hB_c_o_f : Apt (fB c) (fO df.val) := Apt.new hB_c.old (Own.frs g8 (Nat.le_refl _))
                  have hs_s3_o_f : Apt (fS tu.val T.1.used) (fO df.val) := Apt.new s3.old (Own.frs g8 (Nat.le_refl _))
                  have hs_s4_o_f : Apt (fS tf.val T.1.free) (fO df.val) := Apt.new s4.old (Own.frs g8 (Nat.le_refl _))
                  have hs_hB_b9_o_f : Apt (fB b9) (fO df.val) := Apt.new hB_b9.old (Own.frs g8 (Nat.le_refl _))
                  have hs_hB_b11_o_f : Apt (fB b11) (fO df.val) := Apt.new hB_b11.old (Own.frs g8 (Nat.le_refl _))
                  have hs_hB_b14_o_f : Apt (fB b14) (fO df.val) := Apt.new hB_b14.old (Own.frs g8 (Nat.le_refl _))
                  have hs_hB_b15_o_f : Apt (fB b15) (fO df.val) := Apt.new hB_b15.old (Own.frs g8 (Nat.le_refl _))
                  have hf_o_f : Frs H (fO df.val) := Frs.mono (Own.frs g8 (Nat.le_refl _)) hXs
                  have o_f := g8.mono hXs
                  replace hX := hX.trans hE8
                  replace hXs := hX.size
                  replace h1 := h10.ext hX
                  replace h2 := h20.ext hX
                  replace hB_c := hB_c.ext hE8
                  replace s3 := s3.ext hE8
                  replace s4 := s4.ext hE8
                  replace hB_b9 := hB_b9.ext hE8
                  replace hB_b11 := hB_b11.ext hE8
                  replace hB_b14 := hB_b14.ext hE8
                  replace hB_b15 := hB_b15.ext hE8
                  obtain ⟨X, hXd⟩ : ∃ X, X = takeT s n q := ⟨_, rfl⟩
                  have hXb : X.bits = s.bits := by rw [hXd]; rfl
                  rw [← hXd] at o_u o_f hTl hT2
                  simp only [put]
                  refine go_ (hq := ?_)
                  refine st_alloc fun b17 H110 hE110 hge_b17 hB_b17 => ?_
                  have hs_hB_c_hB_b17 : Apt (fB c) (fB b17) := Apt.new hB_c.old (Frs.blk hge_b17)
                  have hs_s3_hB_b17 : Apt (fS tu.val T.1.used) (fB b17) := Apt.new s3.old (Frs.blk hge_b17)
                  have hs_s4_hB_b17 : Apt (fS tf.val T.1.free) (fB b17) := Apt.new s4.old (Frs.blk hge_b17)
                  have hs_hB_b9_hB_b17 : Apt (fB b9) (fB b17) := Apt.new hB_b9.old (Frs.blk hge_b17)
                  have hs_hB_b11_hB_b17 : Apt (fB b11) (fB b17) := Apt.new hB_b11.old (Frs.blk hge_b17)
                  have hs_hB_b14_hB_b17 : Apt (fB b14) (fB b17) := Apt.new hB_b14.old (Frs.blk hge_b17)
                  have hs_hB_b15_hB_b17 : Apt (fB b15) (fB b17) := Apt.new hB_b15.old (Frs.blk hge_b17)
                  have hs_o_u_hB_b17 : Apt (fO du.val) (fB b17) := Apt.new o_u.old (Frs.blk hge_b17)
                  have hs_o_f_hB_b17 : Apt (fO df.val) (fB b17) := Apt.new o_f.old (Frs.blk hge_b17)
                  have hf_hB_b17 : Frs H (fB b17) := Frs.mono (Frs.blk hge_b17) hXs
                  replace hX := hX.trans hE110
                  replace hXs := hX.size
                  replace h1 := h10.ext hX
                  replace h2 := h20.ext hX
                  replace hB_c := hB_c.ext hE110
                  replace s3 := s3.ext hE110
                  replace s4 := s4.ext hE110
                  replace hB_b9 := hB_b9.ext hE110
                  replace hB_b11 := hB_b11.ext hE110
                  replace hB_b14 := hB_b14.ext hE110
                  replace hB_b15 := hB_b15.ext hE110
                  replace o_u := o_u.ext hE110
                  replace o_f := o_f.ext hE110
                  refine go_ (hq := ?_)
                  refine store_ hB_b17 (h := fun H112 hM112 hsz112 hB_b17 => ?_)
                  replace hX := hX.mut hM112 hf_hB_b17
                  replace hXs := hX.size
                  replace h1 := h10.ext hX
                  replace h2 := h20.ext hX
                  replace hB_c := hB_c.mutF hM112 (hs_hB_c_hB_b17.symm)
                  replace s3 := s3.mutF hM112 (hs_s3_hB_b17.symm)
                  replace s4 := s4.mutF hM112 (hs_s4_hB_b17.symm)
                  replace hB_b9 := hB_b9.mutF hM112 (hs_hB_b9_hB_b17.symm)
                  replace hB_b11 := hB_b11.mutF hM112 (hs_hB_b11_hB_b17.symm)
                  replace hB_b14 := hB_b14.mutF hM112 (hs_hB_b14_hB_b17.symm)
                  replace hB_b15 := hB_b15.mutF hM112 (hs_hB_b15_hB_b17.symm)
                  replace o_u := o_u.mutF hM112 (hs_o_u_hB_b17.symm)
                  replace o_f := o_f.mutF hM112 (hs_o_f_hB_b17.symm)
                  refine go_ (hq := ?_)
                  refine if_ (ht := fun hok => ?_) (hf := fun hok => ?_)
                  · exact absurd trivial hok
                  · skip
                    refine go_ (hq := ?_)
                    refine if_ (ht := fun h5 => ?_) (hf := fun h5 => ?_)
                    · skip
                      rw [if_pos (by omega)] at hT2
                      refine go_ (hq := ?_)
                      refine call_ (hc := F_spec _ _) (h := ?_)
                      rintro v118 H118 ⟨rfl, hE118⟩
                      replace hX := hX.trans hE118
                      replace hXs := hX.size
                      replace h1 := h10.ext hX
                      replace h2 := h20.ext hX
                      replace hB_c := hB_c.ext hE118
                      replace s3 := s3.ext hE118
                      replace s4 := s4.ext hE118
                      replace hB_b9 := hB_b9.ext hE118
                      replace hB_b11 := hB_b11.ext hE118
                      replace hB_b14 := hB_b14.ext hE118
                      replace hB_b15 := hB_b15.ext hE118
                      replace o_u := o_u.ext hE118
                      replace o_f := o_f.ext hE118
                      replace hB_b17 := hB_b17.ext hE118
                      simp only [put]
                      refine go_ (hq := ?_)
                      refine store_ hB_b14 (h := fun H120 hM120 hsz120 hB_b14 => ?_)
                      replace hX := hX.mut hM120 hf_hB_b14
                      replace hXs := hX.size
                      replace h1 := h10.ext hX
                      replace h2 := h20.ext hX
                      replace hB_c := hB_c.mutF hM120 (hs_hB_c_hB_b14.symm)
                      replace s3 := s3.mutF hM120 (hs_s3_hB_b14.symm)
                      replace s4 := s4.mutF hM120 (hs_s4_hB_b14.symm)
                      replace hB_b9 := hB_b9.mutF hM120 (hs_hB_b9_hB_b14.symm)
                      replace hB_b11 := hB_b11.mutF hM120 (hs_hB_b11_hB_b14.symm)
                      replace hB_b15 := hB_b15.mutF hM120 hs_hB_b14_hB_b15
                      replace o_u := o_u.mutF hM120 hs_hB_b14_o_u
                      replace o_f := o_f.mutF hM120 hs_hB_b14_o_f
                      replace hB_b17 := hB_b17.mutF hM120 hs_hB_b14_hB_b17
                      refine go_ (hq := ?_)
                      refine store_ hB_b15 (h := fun H122 hM122 hsz122 hB_b15 => ?_)
                      replace hX := hX.mut hM122 hf_hB_b15
                      replace hXs := hX.size
                      replace h1 := h10.ext hX
                      replace h2 := h20.ext hX
                      replace hB_c := hB_c.mutF hM122 (hs_hB_c_hB_b15.symm)
                      replace s3 := s3.mutF hM122 (hs_s3_hB_b15.symm)
                      replace s4 := s4.mutF hM122 (hs_s4_hB_b15.symm)
                      replace hB_b9 := hB_b9.mutF hM122 (hs_hB_b9_hB_b15.symm)
                      replace hB_b11 := hB_b11.mutF hM122 (hs_hB_b11_hB_b15.symm)
                      replace hB_b14 := hB_b14.mutF hM122 (hs_hB_b14_hB_b15.symm)
                      replace o_u := o_u.mutF hM122 hs_hB_b15_o_u
                      replace o_f := o_f.mutF hM122 hs_hB_b15_o_f
                      replace hB_b17 := hB_b17.mutF hM122 hs_hB_b15_hB_b17
                      refine go_ (hq := ?_)
                      refine ⟨(⟨9, 0⟩, X, du, df, (s.free.getD q default).start), hold_, hX, s3, s4, hB_b9, hB_b11, hB_b14, by rw [hXb]; exact hB_b15, o_u.sl, o_f.sl, ?_⟩
                      rw [hT2]
                      exact ⟨rfl, fun _ => ⟨rfl, rfl⟩, fun h => absurd (show (9 : Int) = 0 from h) (by decide)⟩
                    · skip
                      rw [if_neg (by omega)] at hT2
                      refine go_ (hq := ?_)
                      refine store_ hB_b15 (h := fun H125 hM125 hsz125 hB_b15 => ?_)
                      replace hX := hX.mut hM125 hf_hB_b15
                      replace hXs := hX.size
                      replace h1 := h10.ext hX
                      replace h2 := h20.ext hX
                      replace hB_c := hB_c.mutF hM125 (hs_hB_c_hB_b15.symm)
                      replace s3 := s3.mutF hM125 (hs_s3_hB_b15.symm)
                      replace s4 := s4.mutF hM125 (hs_s4_hB_b15.symm)
                      replace hB_b9 := hB_b9.mutF hM125 (hs_hB_b9_hB_b15.symm)
                      replace hB_b11 := hB_b11.mutF hM125 (hs_hB_b11_hB_b15.symm)
                      replace hB_b14 := hB_b14.mutF hM125 (hs_hB_b14_hB_b15.symm)
                      replace o_u := o_u.mutF hM125 hs_hB_b15_o_u
                      replace o_f := o_f.mutF hM125 hs_hB_b15_o_f
                      replace hB_b17 := hB_b17.mutF hM125 hs_hB_b15_hB_b17
                      refine go_ (hq := ?_)
                      refine ⟨(w, X, du, df, (s.free.getD q default).start), hold_, hX, s3, s4, hB_b9, hB_b11, hB_b14, by rw [hXb]; exact hB_b15, o_u.sl, o_f.sl, ?_⟩
                      rw [hT2]
                      exact ⟨hwe.symm, fun h => absurd (by rw [hwe]) h, fun _ => ⟨rfl, rfl⟩⟩
              · skip
                refine go_ (hq := ?_)
                refine ⟨(w, sp0, ⟨none, 0, 0⟩, ⟨none, 0, 0⟩, 0), hold_, hX, s3, s4, hB_b9, hB_b11, hB_b14, hB_b15, SlE.nil _, SlE.nil _, ?_⟩
                have hT2 : T = (sp0, 0, w) := by
                  rw [hT, takeV, hw]
                  by_cases hf0 : (faultR s).code = 0
                  · rw [if_neg (fun h => h hf0)]
                    by_cases hrg : n < 1 ∨ 1073741824 < n
                    · rw [if_pos hrg, if_pos ⟨hf0, hrg⟩]
                    · exfalso
                      rw [hw, if_neg (fun h => hrg h.2)] at hw0
                      exact hw0 hf0
                  · rw [if_pos hf0, if_neg (fun h => hf0 h.1)]
                rw [hT2]
                exact ⟨rfl, fun _ => ⟨rfl, rfl⟩, fun h => absurd h hw0⟩
            · clear hX h1 h2 hB_c hB_b9 hB_b11 hB_b14 hB_b15 s3 s4 u
              rintro u ⟨w', want, wu, wf, start⟩ H' ⟨hX, e3, e4, hB_b9, hB_b11, hB_b14, hB_b15, e5, e6, hW1, hW2, hW3⟩
              dsimp only at hX e3 e4 hB_b9 hB_b11 hB_b14 hB_b15 e5 e6 hW1 hW2 hW3 ⊢
              have hXs := hX.size
              refine go_ (hq := ?_)
              refine if_ (ht := fun hne2 => ?_) (hf := fun hne2 => ?_)
              · exact absurd ⟨by rw [hW1], by rw [hW1]⟩ hne2
              · skip
                refine go_ (hq := ?_)
                refine if_ (ht := fun hc0 => ?_) (hf := fun hc0 => ?_)
                · skip
                  obtain ⟨q1, q2⟩ := hW2 hc0
                  have hp9 : (decide (T.2.1 = 0) == true) = true := by rw [q2]; decide
                  refine go_ (hq := ?_)
                  refine callg_ hp9 (hc := sameSpace_spec (s := T.1) (s' := ⟨0, [], []⟩) (hu' := ⟨none, 0, 0⟩) (hf' := ⟨none, 0, 0⟩) e3 e4 (SlE.nil _) (SlE.nil _)) (h := ?_)
                  rintro v8 H8 ⟨rfl, hE8⟩
                  replace hX := hX.trans hE8
                  replace hXs := hX.size
                  refine go_ (hq := ?_)
                  refine ret1_ (h := ?_)
                  refine ⟨?_, hX⟩
                  congr 1
                  rw [q1, q2]; decide
                · skip
                  obtain ⟨q1, q2⟩ := hW3 (Decidable.not_not.1 hc0)
                  have hp9 : (decide (T.2.1 = start) == true) = true := by rw [decide_eq_true q2]; rfl
                  refine go_ (hq := ?_)
                  refine callg_ hp9 (hc := sameSpace_spec (s := T.1) (s' := want) e3 e4 e5 e6) (h := ?_)
                  rintro v8 H8 ⟨rfl, hE8⟩
                  replace hX := hX.trans hE8
                  replace hXs := hX.size
                  refine go_ (hq := ?_)
                  refine ret1_ (h := ?_)
                  refine ⟨?_, hX⟩
                  congr 1
                  rw [decide_eq_true q2, decide_eq_true q1]; rfl
end Go.Proofs.Ytpkigjlnbfgjcaa
