/- BuddyGives: every Give does what the document says to a space. No condition. -/
import Derived.Test.YtpkigjlnbfgjcaaW0
import Derived.Test.YtpkigjlnbfgjcaaW1
namespace Go.Proofs.Ytpkigjlnbfgjcaa
open Go.TM
open Go.TM.Cell (enc)
set_option maxRecDepth 20000
set_option maxHeartbeats 4000000
variable {H : Heap}
theorem ixS_is {l : List BlockD} {st : Int} {i : Nat} (h : ixS l st = some i) : i < l.length ∧ (l.getD i default).start = st := by
  unfold ixS at h
  split at h
  · rename_i hx; cases h; exact Classical.choose_spec hx
  · cases h
theorem ixS_no {l : List BlockD} {st : Int} (h : ixS l st = none) : ∀ i, i < l.length → (l.getD i default).start ≠ st := by
  intro i hi he
  unfold ixS at h
  rw [dif_pos ⟨i, hi, he⟩] at h
  cases h
/-- The last place that bears it. -/
def LastIx (l : List BlockD) (st : Int) (i : Nat) (k : Int) : Prop := (k = -1 ∧ ∀ j, j < i → (l.getD j default).start ≠ st) ∨ ∃ q : Nat, k = q ∧ q < i ∧ (l.getD q default).start = st
theorem gives_walk {hu hf : Hdr} {s : SpD} (st : Int) (h1 : SlE H hu.val s.used) (h2 : SlE H hf.val s.free) (hb : R64x s.bits) (hn : s.used.length ≤ 1000000000000000 ∧ s.free.length ≤ 1000000000000000) (hr : ∀ b ∈ s.used ++ s.free, BR b) :
    CallsH PG 5 #[SpV s.bits hu hf, .int .i64 st] H fun v H' => v = .bool true ∧ Ext H H' := by
  have h10 := h1
  have h20 := h2
  have hX := Ext.refl H
  have hXs := hX.size
  refine callsH_of_W (args := [SpV s.bits hu hf, .int .i64 st]) (ρ₀ := (upd (upd (fun _ => undef) 1 (.int .i64 st)) 0 (SpV s.bits hu hf))) rfl Try.func5 rfl (by kernel_rfl) ?_
  refine go_ (hq := ?_)
  refine box_ (h := fun c H2 hE2 hge_c hB_c => ?_)
  have hf_hB_c : Frs H (fB c) := Frs.mono (Frs.blk hge_c) hXs
  replace hX := hX.trans hE2
  replace hXs := hX.size
  replace h1 := h10.ext hX
  replace h2 := h20.ext hX
  refine go_ (hq := ?_)
  refine call_ (hc := begun_spec) (h := ?_)
  rintro v4 H4 ⟨rfl, hE4⟩
  replace hX := hX.trans hE4
  replace hXs := hX.size
  replace h1 := h10.ext hX
  replace h2 := h20.ext hX
  replace hB_c := hB_c.ext hE4
  simp only [put]
  refine go_ (hq := ?_)
  refine if_ (ht := fun hbg => ?_) (hf := fun hbg => ?_)
  · exact absurd trivial hbg
  · skip
    refine go_ (hq := ?_)
    refine call_ (hc := vastSpace_spec h1 h2 hn) (h := ?_)
    rintro v8 H8 ⟨rfl, hE8⟩
    replace hX := hX.trans hE8
    replace hXs := hX.size
    replace h1 := h10.ext hX
    replace h2 := h20.ext hX
    replace hB_c := hB_c.ext hE8
    simp only [put]
    refine go_ (hq := ?_)
    refine if_ (ht := fun hvast => ?_) (hf := fun hvast => ?_)
    · skip
      refine go_ (hq := ?_)
      refine ret1_ (h := ?_)
      exact ⟨rfl, hX⟩
    · skip
      have hl6 : s.used.length + s.free.length ≤ 6000 := by omega
      refine go_ (hq := ?_)
      refine call_ (hc := ownSpace_spec h1 h2 (by omega)) (h := ?_)
      rintro v1 H1 ⟨⟨xu, xf, rfl, g1, g2⟩, hE1⟩
      replace hX := hX.trans hE1
      replace hXs := hX.size
      replace h1 := h10.ext hX
      replace h2 := h20.ext hX
      replace hB_c := hB_c.ext hE1
      simp only [put]
      refine go_ (hq := ?_)
      refine call_ (hc := give_spec st g1 g2 hb (by omega) hr) (h := ?_)
      rintro v2 H2 ⟨sv2, rfl, ⟨tu, tf, rfl, g3, g4⟩, hE2⟩
      replace hX := hX.trans hE2
      replace hXs := hX.size
      replace h1 := h10.ext hX
      replace h2 := h20.ext hX
      replace hB_c := hB_c.ext hE2
      obtain ⟨T, hT⟩ : ∃ T, T = giveV s st := ⟨_, rfl⟩
      rw [← hT] at g3 g4 ⊢
      have s3 : SlS _ tu.val T.1.used := g3.sl
      have s4 : SlS _ tf.val T.1.free := g4.sl
      simp only [put]
      refine go_ (hq := ?_)
      refine st_alloc fun b5 H18 hE18 hge_b5 hB_b5 => ?_
      have hs_hB_c_hB_b5 : Apt (fB c) (fB b5) := Apt.new hB_c.old (Frs.blk hge_b5)
      have hs_s3_hB_b5 : Apt (fS tu.val T.1.used) (fB b5) := Apt.new s3.old (Frs.blk hge_b5)
      have hs_s4_hB_b5 : Apt (fS tf.val T.1.free) (fB b5) := Apt.new s4.old (Frs.blk hge_b5)
      have hf_hB_b5 : Frs H (fB b5) := Frs.mono (Frs.blk hge_b5) hXs
      replace hX := hX.trans hE18
      replace hXs := hX.size
      replace h1 := h10.ext hX
      replace h2 := h20.ext hX
      replace hB_c := hB_c.ext hE18
      replace s3 := s3.ext hE18
      replace s4 := s4.ext hE18
      refine go_ (hq := ?_)
      refine st_alloc fun b6 H20 hE20 hge_b6 hB_b6 => ?_
      have hs_hB_c_hB_b6 : Apt (fB c) (fB b6) := Apt.new hB_c.old (Frs.blk hge_b6)
      have hs_s3_hB_b6 : Apt (fS tu.val T.1.used) (fB b6) := Apt.new s3.old (Frs.blk hge_b6)
      have hs_s4_hB_b6 : Apt (fS tf.val T.1.free) (fB b6) := Apt.new s4.old (Frs.blk hge_b6)
      have hs_hB_b5_hB_b6 : Apt (fB b5) (fB b6) := Apt.new hB_b5.old (Frs.blk hge_b6)
      have hf_hB_b6 : Frs H (fB b6) := Frs.mono (Frs.blk hge_b6) hXs
      replace hX := hX.trans hE20
      replace hXs := hX.size
      replace h1 := h10.ext hX
      replace h2 := h20.ext hX
      replace hB_c := hB_c.ext hE20
      replace s3 := s3.ext hE20
      replace s4 := s4.ext hE20
      replace hB_b5 := hB_b5.ext hE20
      refine go_ (hq := ?_)
      refine store_ hB_b5 (h := fun H22 hM22 hsz22 hB_b5 => ?_)
      replace hX := hX.mut hM22 hf_hB_b5
      replace hXs := hX.size
      replace h1 := h10.ext hX
      replace h2 := h20.ext hX
      replace hB_c := hB_c.mutF hM22 (hs_hB_c_hB_b5.symm)
      replace s3 := s3.mutF hM22 (hs_s3_hB_b5.symm)
      replace s4 := s4.mutF hM22 (hs_s4_hB_b5.symm)
      replace hB_b6 := hB_b6.mutF hM22 hs_hB_b5_hB_b6
      refine go_ (hq := ?_)
      refine store_ hB_b6 (h := fun H24 hM24 hsz24 hB_b6 => ?_)
      replace hX := hX.mut hM24 hf_hB_b6
      replace hXs := hX.size
      replace h1 := h10.ext hX
      replace h2 := h20.ext hX
      replace hB_c := hB_c.mutF hM24 (hs_hB_c_hB_b6.symm)
      replace s3 := s3.mutF hM24 (hs_s3_hB_b6.symm)
      replace s4 := s4.mutF hM24 (hs_s4_hB_b6.symm)
      replace hB_b5 := hB_b5.mutF hM24 (hs_hB_b5_hB_b6.symm)
      refine go_ (hq := ?_)
      refine call_ (hc := spaceFault_walk h1 h2 hb (by omega) hr) (h := ?_)
      rintro v26 H26 ⟨rfl, hE26⟩
      replace hX := hX.trans hE26
      replace hXs := hX.size
      replace h1 := h10.ext hX
      replace h2 := h20.ext hX
      replace hB_c := hB_c.ext hE26
      replace s3 := s3.ext hE26
      replace s4 := s4.ext hE26
      replace hB_b5 := hB_b5.ext hE26
      replace hB_b6 := hB_b6.ext hE26
      simp only [put]
      refine go_ (hq := ?_)
      refine st_alloc fun b7 H28 hE28 hge_b7 hB_b7 => ?_
      have hs_hB_c_hB_b7 : Apt (fB c) (fB b7) := Apt.new hB_c.old (Frs.blk hge_b7)
      have hs_s3_hB_b7 : Apt (fS tu.val T.1.used) (fB b7) := Apt.new s3.old (Frs.blk hge_b7)
      have hs_s4_hB_b7 : Apt (fS tf.val T.1.free) (fB b7) := Apt.new s4.old (Frs.blk hge_b7)
      have hs_hB_b5_hB_b7 : Apt (fB b5) (fB b7) := Apt.new hB_b5.old (Frs.blk hge_b7)
      have hs_hB_b6_hB_b7 : Apt (fB b6) (fB b7) := Apt.new hB_b6.old (Frs.blk hge_b7)
      have hf_hB_b7 : Frs H (fB b7) := Frs.mono (Frs.blk hge_b7) hXs
      replace hX := hX.trans hE28
      replace hXs := hX.size
      replace h1 := h10.ext hX
      replace h2 := h20.ext hX
      replace hB_c := hB_c.ext hE28
      replace s3 := s3.ext hE28
      replace s4 := s4.ext hE28
      replace hB_b5 := hB_b5.ext hE28
      replace hB_b6 := hB_b6.ext hE28
      refine go_ (hq := ?_)
      refine store_ hB_b7 (h := fun H30 hM30 hsz30 hB_b7 => ?_)
      replace hX := hX.mut hM30 hf_hB_b7
      replace hXs := hX.size
      replace h1 := h10.ext hX
      replace h2 := h20.ext hX
      replace hB_c := hB_c.mutF hM30 (hs_hB_c_hB_b7.symm)
      replace s3 := s3.mutF hM30 (hs_s3_hB_b7.symm)
      replace s4 := s4.mutF hM30 (hs_s4_hB_b7.symm)
      replace hB_b5 := hB_b5.mutF hM30 (hs_hB_b5_hB_b7.symm)
      replace hB_b6 := hB_b6.mutF hM30 (hs_hB_b6_hB_b7.symm)
      refine go_ (hq := ?_)
      refine W_loop (X := Nat × Int) (fun x => [(1, .int .i64 st), (2, .pointer (some ⟨c, 0, none⟩)), (4, .bool false), (5, .pointer (some ⟨b5, 0, none⟩)), (6, .pointer (some ⟨b6, 0, none⟩)), (7, .pointer (some ⟨b7, 0, none⟩)), (8, .int .i64 x.2), (9, .int .i64 x.1)])
        (fun x H' => Ext H H' ∧ Blk H' c 41 [.int .i64 s.bits, hu.val, hf.val] ∧ SlS H' tu.val T.1.used ∧ SlS H' tf.val T.1.free ∧ Blk H' b5 41 [.int .i64 T.1.bits, tu.val, tf.val] ∧ Blk H' b6 28 [.int .i64 T.2.code, .int .i64 T.2.at_] ∧ Blk H' b7 28 [.int .i64 (faultR s).code, .int .i64 (faultR s).at_] ∧ x.1 ≤ s.used.length ∧ LastIx s.used st x.1 x.2) (fun x => s.used.length - x.1) (0, -1) ?_ ?_ ?_
      · exact hold_
      · exact ⟨hX, hB_c, s3, s4, hB_b5, hB_b6, hB_b7, by dsimp only; omega, .inl ⟨rfl, fun j hj => by omega⟩⟩
      · clear hX h1 h2 hB_c s3 s4 hB_b5 hB_b6 hB_b7
        rintro u ⟨i, k⟩ H' ⟨hX, hB_c, s3, s4, hB_b5, hB_b6, hB_b7, hi, hk⟩
        dsimp only at hi hk ⊢
        have hXs := hX.size
        have h1 := h10.ext hX
        have h2 := h20.ext hX
        refine go_ (hq := ?_)
        refine if_ (ht := fun hi2 => ?_) (hf := fun hi2 => ?_)
        · skip
          have hi' : i < s.used.length := by omega
          refine go_ (hq := ?_)
          refine if_ (ht := fun heq => ?_) (hf := fun heq => ?_)
          · skip
            refine go_ (hq := ?_)
            exact ⟨(i + 1, (i : Int)), hold_, ⟨hX, hB_c, s3, s4, hB_b5, hB_b6, hB_b7, by dsimp only; omega, .inr ⟨i, rfl, by dsimp only; omega, heq⟩⟩, by dsimp only; omega⟩
          · skip
            refine go_ (hq := ?_)
            refine ⟨(i + 1, k), hold_, ⟨hX, hB_c, s3, s4, hB_b5, hB_b6, hB_b7, by dsimp only; omega, ?_⟩, by dsimp only; omega⟩
            rcases hk with ⟨h8, h9⟩ | ⟨q, h8, h9, h10⟩
            · refine .inl ⟨h8, fun j hj => ?_⟩
              dsimp only at hj
              rcases Nat.lt_or_ge j i with h11 | h11
              · exact h9 j h11
              · have : j = i := by omega
                subst this; exact heq
            · exact .inr ⟨q, h8, by dsimp only; omega, h10⟩
        · skip
          have hie : i = s.used.length := by omega
          subst hie
          obtain ⟨w, hw⟩ : ∃ w : FaultD, w = if (faultR s).code = 0 ∧ k < 0 then ⟨6, 0⟩ else faultR s := ⟨_, rfl⟩
          refine go_ (hq := ?_)
          refine W_cutQ (X := Unit) (fun _ => [(2, .pointer (some ⟨c, 0, none⟩)), (4, .bool false), (5, .pointer (some ⟨b5, 0, none⟩)), (6, .pointer (some ⟨b6, 0, none⟩)), (7, .pointer (some ⟨b7, 0, none⟩)), (8, .int .i64 k)])
            (fun _ H' => Ext H H' ∧ Blk H' c 41 [.int .i64 s.bits, hu.val, hf.val] ∧ SlE H' tu.val T.1.used ∧ SlE H' tf.val T.1.free ∧ Blk H' b5 41 [.int .i64 T.1.bits, tu.val, tf.val] ∧ Blk H' b6 28 [.int .i64 T.2.code, .int .i64 T.2.at_] ∧ Blk H' b7 28 [.int .i64 w.code, .int .i64 w.at_]) ?_ ?_
          · skip
            refine if_ (ht := fun hrg => ?_) (hf := fun hrg => ?_)
            · skip
              refine go_ (hq := ?_)
              refine call_ (hc := F_spec _ _) (h := ?_)
              rintro v42 H42 ⟨rfl, hE42⟩
              replace hX := hX.trans hE42
              replace hXs := hX.size
              replace h1 := h10.ext hX
              replace h2 := h20.ext hX
              replace hB_c := hB_c.ext hE42
              replace s3 := s3.ext hE42
              replace s4 := s4.ext hE42
              replace hB_b5 := hB_b5.ext hE42
              replace hB_b6 := hB_b6.ext hE42
              replace hB_b7 := hB_b7.ext hE42
              simp only [put]
              refine go_ (hq := ?_)
              refine store_ hB_b7 (h := fun H44 hM44 hsz44 hB_b7 => ?_)
              replace hX := hX.mut hM44 hf_hB_b7
              replace hXs := hX.size
              replace h1 := h10.ext hX
              replace h2 := h20.ext hX
              replace hB_c := hB_c.mutF hM44 (hs_hB_c_hB_b7.symm)
              replace s3 := s3.mutF hM44 (hs_s3_hB_b7.symm)
              replace s4 := s4.mutF hM44 (hs_s4_hB_b7.symm)
              replace hB_b5 := hB_b5.mutF hM44 (hs_hB_b5_hB_b7.symm)
              replace hB_b6 := hB_b6.mutF hM44 (hs_hB_b6_hB_b7.symm)
              refine go_ (hq := ?_)
              have hw3 : w = ⟨6, 0⟩ := by rw [hw, if_pos hrg]
              rw [hw3]
              exact ⟨(), hold_, hX, hB_c, s3, s4, hB_b5, hB_b6, hB_b7⟩
            · skip
              refine go_ (hq := ?_)
              have hw3 : w = faultR s := by rw [hw, if_neg hrg]
              rw [hw3]
              exact ⟨(), hold_, hX, hB_c, s3, s4, hB_b5, hB_b6, hB_b7⟩
          · clear hX h1 h2 hB_c s3 s4 hB_b5 hB_b6 hB_b7 u
            rintro u _ H' ⟨hX, hB_c, e3, e4, hB_b5, hB_b6, hB_b7⟩
            have hXs := hX.size
            have h1 := h10.ext hX
            have h2 := h20.ext hX
            have key : T.2 = w ∧ (w.code ≠ 0 → T.1 = sp0) ∧ (w.code = 0 → ∃ q : Nat, k = q ∧ q < s.used.length ∧ T.1 = giveT s q ∧ VS s (2 ^ s.bits.toNat)) := by
              by_cases hf0 : (faultR s).code = 0
              · have hVS := (faultR_zero s).1 hf0
                rcases hk with ⟨h8, h9⟩ | ⟨q, h8, h9, h10⟩
                · have hTT : T = (sp0, ⟨6, 0⟩) := by rw [hT, giveV, if_neg (fun h => h hf0), ixS_none h9]
                  have hw3 : w = ⟨6, 0⟩ := by rw [hw, if_pos ⟨hf0, by omega⟩]
                  rw [hTT, hw3]
                  exact ⟨rfl, fun _ => rfl, fun h => absurd (show (6 : Int) = 0 from h) (by decide)⟩
                · have hTT : T = (giveT s q, ⟨0, 0⟩) := by rw [hT, giveV, if_neg (fun h => h hf0), ixS_some hVS.su h9 h10]
                  have hw3 : w = ⟨0, 0⟩ := by rw [hw, if_neg (by omega), faultR_ok hf0]
                  rw [hTT, hw3]
                  exact ⟨rfl, fun h => absurd rfl h, fun _ => ⟨q, h8, h9, rfl, hVS⟩⟩
              · have hTT : T = (sp0, faultR s) := by rw [hT, giveV, if_pos hf0]
                have hw3 : w = faultR s := by rw [hw, if_neg (fun h => hf0 h.1)]
                rw [hTT, hw3]
                exact ⟨rfl, fun _ => rfl, fun h => absurd h hf0⟩
            obtain ⟨k1, k2, k3⟩ := key
            refine go_ (hq := ?_)
            refine if_ (ht := fun hne2 => ?_) (hf := fun hne2 => ?_)
            · exact absurd ⟨by rw [k1], by rw [k1]⟩ hne2
            · skip
              refine go_ (hq := ?_)
              refine if_ (ht := fun hc0 => ?_) (hf := fun hc0 => ?_)
              · skip
                refine go_ (hq := ?_)
                refine call_ (hc := sameSpace_spec (s := T.1) (s' := ⟨0, [], []⟩) (hu' := ⟨none, 0, 0⟩) (hf' := ⟨none, 0, 0⟩) e3 e4 (SlE.nil _) (SlE.nil _)) (h := ?_)
                rintro v8 H8 ⟨rfl, hE8⟩
                replace hX := hX.trans hE8
                replace hXs := hX.size
                replace h1 := h10.ext hX
                replace h2 := h20.ext hX
                simp only [put]
                refine go_ (hq := ?_)
                refine ret1_ (h := ?_)
                refine ⟨?_, hX⟩
                rw [k2 hc0]; congr 1
              · skip
                obtain ⟨q, rfl, hql, hTq, hVS⟩ := k3 (Decidable.not_not.1 hc0)
                have hBm : s.used.getD q default ∈ s.used := by rw [List.getD_eq_getElem?_getD, List.getElem?_eq_getElem hql]; exact List.getElem_mem _
                refine go_ (hq := ?_)
                refine draw_ mixed (Q := _) 0 [0,1,2,3,4,5,6,7,8,9] (h := ?_)
                refine go_ (hq := ?_)
                rw [show Value.agg (enc (s.used.getD q default)).toArray = (s.used.getD q default).val from rfl]
                refine call_ (hc := returned_spec hVS hBm h1 h2) (h := ?_)
                rintro v8 H8 ⟨⟨ru, rf, rfl, g7, g8⟩, hE8⟩
                replace hX := hX.trans hE8
                replace hXs := hX.size
                replace h1 := h10.ext hX
                replace h2 := h20.ext hX
                have e3' := e3.ext hE8
                have e4' := e4.ext hE8
                simp only [put]
                refine go_ (hq := ?_)
                refine call_ (hc := sameSpace_spec (s := T.1) (s' := ⟨s.bits, noB s.used (s.used.getD q default), withB (mergeF 31 (2 ^ s.bits.toNat) s.free (s.used.getD q default)).1 (mergeF 31 (2 ^ s.bits.toNat) s.free (s.used.getD q default)).2⟩) e3' e4' g7 g8) (h := ?_)
                rintro v9 H9 ⟨rfl, hE9⟩
                replace hX := hX.trans hE9
                replace hXs := hX.size
                replace h1 := h10.ext hX
                replace h2 := h20.ext hX
                simp only [put]
                refine go_ (hq := ?_)
                refine ret1_ (h := ?_)
                refine ⟨?_, hX⟩
                congr 1
                rw [hTq]
                exact decide_eq_true rfl
end Go.Proofs.Ytpkigjlnbfgjcaa
