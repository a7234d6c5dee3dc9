/- The document's taking. -/
import Derived.Test.YtpkigjlnbfgjcaaUD
namespace Go.Proofs.Ytpkigjlnbfgjcaa
open Go.TM
open Go.TM.Cell (enc)
set_option maxRecDepth 20000
set_option maxHeartbeats 4000000
variable {H : Heap}
theorem noBlockO_spec {a : Value} {l : List BlockD} (ha : SlE H a l) (b : BlockD) (hn : l.length ≤ 1000000) : CallsH PG 61 #[a, b.val] H fun v H' => Own H' H.size 51 v (noB l b) ∧ Ext H H' := by
  have ha0 := ha
  have hX := Ext.refl H
  have hXs := hX.size
  refine callsH_of_W (args := [a, b.val]) (ρ₀ := (upd (upd (fun _ => undef) 1 (b.val)) 0 a)) rfl Try.func61 rfl (by kernel_rfl) ?_
  refine go_ (hq := ?_)
  refine box_ (h := fun c H2 hE2 hge_c hB_c => ?_)
  have hf_hB_c : Frs H (fB c) := Frs.mono (Frs.blk hge_c) hXs
  replace hX := hX.trans hE2
  replace hXs := hX.size
  replace ha := ha0.ext hX
  refine go_ (hq := ?_)
  have o_out : Own H2 H.size 51 (.slice none 0 0) ([] : List BlockD) := Own.nil _ _ _
  have hs_hB_c_o_out : Apt (fB c) (fO (.slice none 0 0)) := (Apt.nil _).symm
  have hf_o_out : Frs H (fO (.slice none 0 0)) := Frs.nil
  refine W_loop (X := Nat × Value × List BlockD) (fun x => [(0, a), (3, .pointer (some ⟨c, 0, none⟩)), (5, x.2.1), (6, .int .i64 x.1)]) (fun x H' => Ext H H' ∧ Blk H' c 51 [.int .i64 b.start, .int .i64 b.size] ∧ Own H' H.size 51 x.2.1 x.2.2 ∧ SepL [fB c, fO x.2.1] ∧ x.1 ≤ l.length ∧ x.2.2.length ≤ x.1 ∧ noB l b = x.2.2 ++ noB (l.drop x.1) b) (fun x => l.length - x.1) (0, .slice none 0 0, []) ?_ ?_ ?_
  · exact hold_
  · exact ⟨hX, hB_c, o_out, (sep_cons (sepa_cons (hs_hB_c_o_out) sepa_nil) (sep_cons sepa_nil sep_nil)), Nat.zero_le _, Nat.le_refl _, rfl⟩
  · clear hX hB_c ha o_out
    rintro u ⟨k, vo, out⟩ H' ⟨hX, hB_c, o_out, hS, hk, hol, hall⟩
    dsimp only at hX hB_c o_out hS hk hol hall ⊢
    have hXs := hX.size
    have ha := ha0.ext hX
    have hf_o_out : Frs H (fO vo) := o_out.frs (Nat.le_refl _)
    obtain ⟨⟨hs_hB_c_o_out, -⟩, ⟨⟨-⟩, -⟩⟩ := hS
    refine go_ (hq := ?_)
    refine if_ (ht := fun h2 => ?_) (hf := fun h2 => ?_)
    · skip
      rw [drop_getD default l k (by omega), noB_cons] at hall
      refine go_ (hq := ?_)
      refine draw_ mixed (Q := _) 0 [0,1,2,3,4,5] (h := ?_)
      refine go_ (hq := ?_)
      refine if_ (ht := fun h3 => ?_) (hf := fun h3 => ?_)
      · skip
        try simp only [Int.toNat_natCast] at h3
        rw [if_neg (fun e => h3 (by rw [e]; exact ⟨rfl, rfl⟩))] at hall
        refine go_ (hq := ?_)
        refine lit_ [l.getD k default] (h := fun vl H12 n_12 hE12 hN12 => ?_)
        have hs_hB_c_o_l : Apt (fB c) (fO vl) := Apt.new hB_c.old (Own.frs n_12 (Nat.le_refl _))
        have hs_o_out_o_l : Apt (fO vo) (fO vl) := Apt.new o_out.old (Own.frs n_12 (Nat.le_refl _))
        have hf_o_l : Frs H (fO vl) := Frs.mono (Own.frs n_12 (Nat.le_refl _)) hXs
        have o_l := n_12.mono hXs
        replace hX := hX.trans hE12
        replace hXs := hX.size
        replace ha := ha0.ext hX
        replace hB_c := hB_c.ext hE12
        replace o_out := o_out.ext hE12
        refine go_ (hq := ?_)
        refine append_ o_out o_l.sl (h := fun vo' H14 n_14 hM14 hF14 hN14 => ?_)
        have hq_hB_c := hs_hB_c_o_out.symm
        have hq_o_l := hs_o_out_o_l
        have hfq := hf_o_out
        replace hs_hB_c_o_out : Apt (fB c) (fO vo') := ((hs_hB_c_o_out.symm).app hF14 hB_c.old).symm
        replace hs_o_out_o_l : Apt (fO vo') (fO vl) := Apt.app hs_o_out_o_l hF14 o_l.old
        replace hf_o_out : Frs H (fO vo') := Frs.app hf_o_out hF14 hXs
        replace hX := hX.mut hM14 hfq
        replace hXs := hX.size
        replace ha := ha0.ext hX
        replace hB_c := hB_c.mutF hM14 hq_hB_c
        replace o_l := o_l.mutF hM14 hq_o_l
        replace o_out := n_14
        refine go_ (hq := ?_)
        exact ⟨(k + 1, vo', out ++ [l.getD k default]), hold_, ⟨hX, hB_c, o_out, (sep_cons (sepa_cons (hs_hB_c_o_out) sepa_nil) (sep_cons sepa_nil sep_nil)), by dsimp only; omega, by simp; omega, by rw [hall]; simp⟩, by dsimp only; omega⟩
      · skip
        try simp only [Int.toNat_natCast] at h3
        have h4 := Decidable.not_not.1 h3
        rw [if_pos (blk_ext h4.1 h4.2)] at hall
        refine go_ (hq := ?_)
        exact ⟨(k + 1, vo, out), hold_, ⟨hX, hB_c, o_out, (sep_cons (sepa_cons (hs_hB_c_o_out) sepa_nil) (sep_cons sepa_nil sep_nil)), by dsimp only; omega, by dsimp only; omega, hall⟩, by dsimp only; omega⟩
    · skip
      refine go_ (hq := ?_)
      refine ret1_ (h := ?_)
      rw [List.drop_of_length_le (by omega)] at hall
      have : noB l b = out := by rw [hall]; simp [noB]
      rw [this]
      exact ⟨o_out, hX⟩
theorem withBlockO_spec {a : Value} {l : List BlockD} (ha : SlE H a l) (b : BlockD) (hn : l.length ≤ 1000000) : CallsH PG 62 #[a, b.val] H fun v H' => Own H' H.size 51 v (withB l b) ∧ Ext H H' := by
  have ha0 := ha
  have hX := Ext.refl H
  have hXs := hX.size
  refine callsH_of_W (args := [a, b.val]) (ρ₀ := (upd (upd (fun _ => undef) 1 (b.val)) 0 a)) rfl Try.func62 rfl (by kernel_rfl) ?_
  refine go_ (hq := ?_)
  refine box_ (h := fun c H2 hE2 hge_c hB_c => ?_)
  have hf_hB_c : Frs H (fB c) := Frs.mono (Frs.blk hge_c) hXs
  replace hX := hX.trans hE2
  replace hXs := hX.size
  replace ha := ha0.ext hX
  refine go_ (hq := ?_)
  have o_out : Own H2 H.size 51 (.slice none 0 0) ([] : List BlockD) := Own.nil _ _ _
  have hs_hB_c_o_out : Apt (fB c) (fO (.slice none 0 0)) := (Apt.nil _).symm
  have hf_o_out : Frs H (fO (.slice none 0 0)) := Frs.nil
  refine W_loop (X := Nat × Value × List BlockD × Bool) (fun x => [(0, a), (3, .pointer (some ⟨c, 0, none⟩)), (5, x.2.1), (6, .bool x.2.2.2), (7, .int .i64 x.1)]) (fun x H' => Ext H H' ∧ Blk H' c 51 [.int .i64 b.start, .int .i64 b.size] ∧ Own H' H.size 51 x.2.1 x.2.2.1 ∧ SepL [fB c, fO x.2.1] ∧ x.1 ≤ l.length ∧ x.2.2.1.length = x.1 + (if x.2.2.2 then 1 else 0) ∧ withB l b = x.2.2.1 ++ (if x.2.2.2 then l.drop x.1 else withB (l.drop x.1) b)) (fun x => l.length - x.1) (0, .slice none 0 0, [], false) ?_ ?_ ?_
  · exact hold_
  · exact ⟨hX, hB_c, o_out, (sep_cons (sepa_cons (hs_hB_c_o_out) sepa_nil) (sep_cons sepa_nil sep_nil)), Nat.zero_le _, rfl, rfl⟩
  · clear hX hB_c ha o_out
    rintro u ⟨k, vo, out, pt⟩ H' ⟨hX, hB_c, o_out, hS, hk, hol, hall⟩
    dsimp only at hX hB_c o_out hS hk hol hall ⊢
    have hob : out.length ≤ k + 1 := by rw [hol]; split <;> omega
    have hXs := hX.size
    have ha := ha0.ext hX
    have hf_o_out : Frs H (fO vo) := o_out.frs (Nat.le_refl _)
    obtain ⟨⟨hs_hB_c_o_out, -⟩, ⟨⟨-⟩, -⟩⟩ := hS
    refine go_ (hq := ?_)
    refine if_ (ht := fun h2 => ?_) (hf := fun h2 => ?_)
    · skip
      have hdr := drop_getD default l k (by omega)
      rw [hdr] at hall
      refine go_ (hq := ?_)
      refine draw_ mixed (Q := _) 0 [0,1,2,3,4,5,6,7,8,9,10,11] (h := ?_)
      refine go_ (hq := ?_)
      refine if_ (ht := fun h3 => ?_) (hf := fun h3 => ?_)
      · skip
        obtain ⟨h4, h5⟩ := h3
        have hpt : pt = false := by simpa using h4
        subst hpt
        try simp only [Int.toNat_natCast] at h5
        simp only [Bool.false_eq_true, if_false, withB, if_pos h5] at hall
        refine go_ (hq := ?_)
        refine lit_ [b] (h := fun vl H12 n_12 hE12 hN12 => ?_)
        have hs_hB_c_o_l : Apt (fB c) (fO vl) := Apt.new hB_c.old (Own.frs n_12 (Nat.le_refl _))
        have hs_o_out_o_l : Apt (fO vo) (fO vl) := Apt.new o_out.old (Own.frs n_12 (Nat.le_refl _))
        have hf_o_l : Frs H (fO vl) := Frs.mono (Own.frs n_12 (Nat.le_refl _)) hXs
        have o_l := n_12.mono hXs
        replace hX := hX.trans hE12
        replace hXs := hX.size
        replace ha := ha0.ext hX
        replace hB_c := hB_c.ext hE12
        replace o_out := o_out.ext hE12
        refine go_ (hq := ?_)
        refine append_ o_out o_l.sl (h := fun vo1 H14 n_14 hM14 hF14 hN14 => ?_)
        have hq_hB_c := hs_hB_c_o_out.symm
        have hq_o_l := hs_o_out_o_l
        have hfq := hf_o_out
        replace hs_hB_c_o_out : Apt (fB c) (fO vo1) := ((hs_hB_c_o_out.symm).app hF14 hB_c.old).symm
        replace hs_o_out_o_l : Apt (fO vo1) (fO vl) := Apt.app hs_o_out_o_l hF14 o_l.old
        replace hf_o_out : Frs H (fO vo1) := Frs.app hf_o_out hF14 hXs
        replace hX := hX.mut hM14 hfq
        replace hXs := hX.size
        replace ha := ha0.ext hX
        replace hB_c := hB_c.mutF hM14 hq_hB_c
        replace o_l := o_l.mutF hM14 hq_o_l
        replace o_out := n_14
        refine go_ (hq := ?_)
        refine lit_ [l.getD k default] (h := fun vm H16 n_16 hE16 hN16 => ?_)
        have hs_hB_c_o_m : Apt (fB c) (fO vm) := Apt.new hB_c.old (Own.frs n_16 (Nat.le_refl _))
        have hs_o_out_o_m : Apt (fO vo1) (fO vm) := Apt.new o_out.old (Own.frs n_16 (Nat.le_refl _))
        have hs_o_l_o_m : Apt (fO vl) (fO vm) := Apt.new o_l.old (Own.frs n_16 (Nat.le_refl _))
        have hf_o_m : Frs H (fO vm) := Frs.mono (Own.frs n_16 (Nat.le_refl _)) hXs
        have o_m := n_16.mono hXs
        replace hX := hX.trans hE16
        replace hXs := hX.size
        replace ha := ha0.ext hX
        replace hB_c := hB_c.ext hE16
        replace o_out := o_out.ext hE16
        replace o_l := o_l.ext hE16
        refine go_ (hq := ?_)
        refine append_ o_out o_m.sl (h := fun vo2 H18 n_18 hM18 hF18 hN18 => ?_)
        have hq_hB_c := hs_hB_c_o_out.symm
        have hq_o_l := hs_o_out_o_l
        have hq_o_m := hs_o_out_o_m
        have hfq := hf_o_out
        replace hs_hB_c_o_out : Apt (fB c) (fO vo2) := ((hs_hB_c_o_out.symm).app hF18 hB_c.old).symm
        replace hs_o_out_o_l : Apt (fO vo2) (fO vl) := Apt.app hs_o_out_o_l hF18 o_l.old
        replace hs_o_out_o_m : Apt (fO vo2) (fO vm) := Apt.app hs_o_out_o_m hF18 o_m.old
        replace hf_o_out : Frs H (fO vo2) := Frs.app hf_o_out hF18 hXs
        replace hX := hX.mut hM18 hfq
        replace hXs := hX.size
        replace ha := ha0.ext hX
        replace hB_c := hB_c.mutF hM18 hq_hB_c
        replace o_l := o_l.mutF hM18 hq_o_l
        replace o_m := o_m.mutF hM18 hq_o_m
        replace o_out := n_18
        refine go_ (hq := ?_)
        exact ⟨(k + 1, vo2, out ++ [b] ++ [l.getD k default], true), hold_, ⟨hX, hB_c, o_out, (sep_cons (sepa_cons (hs_hB_c_o_out) sepa_nil) (sep_cons sepa_nil sep_nil)), by dsimp only; omega, by simp at hol ⊢; omega, by rw [hall]; simp⟩, by dsimp only; omega⟩
      · skip
        refine go_ (hq := ?_)
        refine lit_ [l.getD k default] (h := fun vm H21 n_21 hE21 hN21 => ?_)
        have hs_hB_c_o_m : Apt (fB c) (fO vm) := Apt.new hB_c.old (Own.frs n_21 (Nat.le_refl _))
        have hs_o_out_o_m : Apt (fO vo) (fO vm) := Apt.new o_out.old (Own.frs n_21 (Nat.le_refl _))
        have hf_o_m : Frs H (fO vm) := Frs.mono (Own.frs n_21 (Nat.le_refl _)) hXs
        have o_m := n_21.mono hXs
        replace hX := hX.trans hE21
        replace hXs := hX.size
        replace ha := ha0.ext hX
        replace hB_c := hB_c.ext hE21
        replace o_out := o_out.ext hE21
        refine go_ (hq := ?_)
        refine append_ o_out o_m.sl (h := fun vo2 H23 n_23 hM23 hF23 hN23 => ?_)
        have hq_hB_c := hs_hB_c_o_out.symm
        have hq_o_m := hs_o_out_o_m
        have hfq := hf_o_out
        replace hs_hB_c_o_out : Apt (fB c) (fO vo2) := ((hs_hB_c_o_out.symm).app hF23 hB_c.old).symm
        replace hs_o_out_o_m : Apt (fO vo2) (fO vm) := Apt.app hs_o_out_o_m hF23 o_m.old
        replace hf_o_out : Frs H (fO vo2) := Frs.app hf_o_out hF23 hXs
        replace hX := hX.mut hM23 hfq
        replace hXs := hX.size
        replace ha := ha0.ext hX
        replace hB_c := hB_c.mutF hM23 hq_hB_c
        replace o_m := o_m.mutF hM23 hq_o_m
        replace o_out := n_23
        refine go_ (hq := ?_)
        refine ⟨(k + 1, vo2, out ++ [l.getD k default], pt), hold_, ⟨hX, hB_c, o_out, (sep_cons (sepa_cons (hs_hB_c_o_out) sepa_nil) (sep_cons sepa_nil sep_nil)), by dsimp only; omega, by simp [hol]; omega, ?_⟩, by dsimp only; omega⟩
        rw [hall]
        cases pt with
        | true => simp
        | false =>
          have h5 : ¬ b.start < (l.getD k default).start := fun h => h3 ⟨by simp, h⟩
          simp only [Bool.false_eq_true, if_false, withB, if_neg h5]
          simp
    · skip
      rw [List.drop_of_length_le (by omega)] at hall
      refine go_ (hq := ?_)
      refine if_ (ht := fun h3 => ?_) (hf := fun h3 => ?_)
      · skip
        have hpt : pt = false := by simpa using h3
        subst hpt
        refine go_ (hq := ?_)
        refine lit_ [b] (h := fun vl H28 n_28 hE28 hN28 => ?_)
        have hs_hB_c_o_l : Apt (fB c) (fO vl) := Apt.new hB_c.old (Own.frs n_28 (Nat.le_refl _))
        have hs_o_out_o_l : Apt (fO vo) (fO vl) := Apt.new o_out.old (Own.frs n_28 (Nat.le_refl _))
        have hf_o_l : Frs H (fO vl) := Frs.mono (Own.frs n_28 (Nat.le_refl _)) hXs
        have o_l := n_28.mono hXs
        replace hX := hX.trans hE28
        replace hXs := hX.size
        replace ha := ha0.ext hX
        replace hB_c := hB_c.ext hE28
        replace o_out := o_out.ext hE28
        refine go_ (hq := ?_)
        refine append_ o_out o_l.sl (h := fun vo1 H30 n_30 hM30 hF30 hN30 => ?_)
        have hq_hB_c := hs_hB_c_o_out.symm
        have hq_o_l := hs_o_out_o_l
        have hfq := hf_o_out
        replace hs_hB_c_o_out : Apt (fB c) (fO vo1) := ((hs_hB_c_o_out.symm).app hF30 hB_c.old).symm
        replace hs_o_out_o_l : Apt (fO vo1) (fO vl) := Apt.app hs_o_out_o_l hF30 o_l.old
        replace hf_o_out : Frs H (fO vo1) := Frs.app hf_o_out hF30 hXs
        replace hX := hX.mut hM30 hfq
        replace hXs := hX.size
        replace ha := ha0.ext hX
        replace hB_c := hB_c.mutF hM30 hq_hB_c
        replace o_l := o_l.mutF hM30 hq_o_l
        replace o_out := n_30
        refine go_ (hq := ?_)
        refine ret1_ (h := ?_)
        have : withB l b = out ++ [b] := by rw [hall]; rfl
        rw [this]
        exact ⟨o_out, hX⟩
      · skip
        have hpt : pt = true := by simpa using h3
        subst hpt
        refine go_ (hq := ?_)
        refine ret1_ (h := ?_)
        have : withB l b = out := by rw [hall]; simp
        rw [this]
        exact ⟨o_out, hX⟩
theorem takenOf_spec {hu hf : Hdr} {s : SpD} {W : Int} (hVS : VS s W) (n : Int) (hn1 : 1 ≤ n ∧ n ≤ 1073741824) (h1 : SlE H hu.val s.used) (h2 : SlE H hf.val s.free) :
    CallsH PG 26 #[SpV s.bits hu hf, .int .i64 n] H fun v H' => ((bestI s.free n = none ∧ v = .tuple #[SpV s.bits hu hf, .int .i64 0, .bool false]) ∨ ∃ q, bestI s.free n = some q ∧ ∃ du df : Hdr, v = .tuple #[SpV s.bits du df, .int .i64 (s.free.getD q default).start, .bool true] ∧ Own H' H.size 51 du.val (takeT s n q).used ∧ Own H' H.size 51 df.val (takeT s n q).free) ∧ Ext H H' := by
  obtain ⟨hw1, hw2⟩ := hVS.w
  have hbb := hVS.hb
  have hsh : shlI 1 s.bits = W := by rw [shlI_one (by omega), hVS.hW]
  have hlen := hVS.len
  obtain ⟨m, hm, hm30⟩ := IsSz.ex hn1.2
  have hzle : ∀ k, k ≤ 31 → (1 : Int) ≤ 2 ^ k ∧ (2 : Int) ^ k ≤ 2147483648 := fun k hk => by
    have h1 := pow_pos' k
    have h2 : (2 : Int) ^ k ≤ 2 ^ 31 := pow_le_pow_iff.2 hk
    omega
  have hpw : ∀ b ∈ s.free, ∃ k : Nat, b.size = 2 ^ k := fun b hb => by
    obtain ⟨q, h9, _⟩ := hVS.al b (List.mem_append.2 (.inr hb)); exact ⟨q, h9⟩
  have hmemD : ∀ i, i < s.free.length → s.free.getD i default ∈ s.free := fun i hi => by rw [List.getD_eq_getElem?_getD, List.getElem?_eq_getElem hi]; exact List.getElem_mem _
  have h10 := h1
  have h20 := h2
  have hX := Ext.refl H
  have hXs := hX.size
  refine callsH_of_W (args := [SpV s.bits hu hf, .int .i64 n]) (ρ₀ := (upd (upd (fun _ => undef) 1 (.int .i64 n)) 0 (SpV s.bits hu hf))) rfl Try.func26 rfl (by kernel_rfl) ?_
  refine go_ (hq := ?_)
  refine box_ (h := fun c H2 hE2 hge_c hB_c => ?_)
  have hf_hB_c : Frs H (fB c) := Frs.mono (Frs.blk hge_c) hXs
  replace hX := hX.trans hE2
  replace hXs := hX.size
  replace h1 := h10.ext hX
  replace h2 := h20.ext hX
  refine go_ (hq := ?_)
  refine st_alloc fun r H4 hE4 hge_r hB_r => ?_
  have hs_hB_c_hB_r : Apt (fB c) (fB r) := Apt.new hB_c.old (Frs.blk hge_r)
  have hf_hB_r : Frs H (fB r) := Frs.mono (Frs.blk hge_r) hXs
  replace hX := hX.trans hE4
  replace hXs := hX.size
  replace h1 := h10.ext hX
  replace h2 := h20.ext hX
  replace hB_c := hB_c.ext hE4
  refine go_ (hq := ?_)
  refine W_loop (X := Nat) (fun k => [(1, .int .i64 n), (2, .pointer (some ⟨c, 0, none⟩)), (4, .pointer (some ⟨r, 0, none⟩)), (5, .int .i64 0), (6, .bool false), (7, .int .i64 (2 ^ k))])
    (fun k H' => Ext H H' ∧ Blk H' c 41 [.int .i64 s.bits, hu.val, hf.val] ∧ Blk H' r 41 [.int .i64 0, .slice none 0 0, .slice none 0 0] ∧ SepL [fB c, fB r] ∧ k ≤ 31 ∧ ∀ b ∈ s.free, n ≤ b.size → 2 ^ k ≤ b.size) (fun k => 31 - k) 0 ?_ ?_ ?_
  · exact hold_
  · refine ⟨hX, hB_c, hB_r, (sep_cons (sepa_cons (hs_hB_c_hB_r) sepa_nil) (sep_cons sepa_nil sep_nil)), by omega, fun b hb h9 => ?_⟩
    simp; omega
  · clear hX h1 h2 hB_c hB_r hs_hB_c_hB_r
    rintro u k H' ⟨hX, hB_c, hB_r, hS, hk, hmin⟩
    have hXs := hX.size
    have h1 := h10.ext hX
    have h2 := h20.ext hX
    obtain ⟨⟨hs_hB_c_hB_r, -⟩, ⟨⟨-⟩, -⟩⟩ := hS
    have hzk := hzle k hk
    refine go_ (hq := ?_)
    refine if_ (ht := fun hle => ?_) (hf := fun hle => ?_)
    · skip
      rw [hsh] at hle
      have hk30 : k ≤ 30 := pow_le_pow_iff.1 (show (2 : Int) ^ k ≤ 2 ^ 30 by omega)
      have hmin' : (∀ b ∈ s.free, n ≤ b.size → b.size ≠ 2 ^ k) → ∀ b ∈ s.free, n ≤ b.size → 2 ^ (k + 1) ≤ b.size := fun hne b hb h9 => by
        obtain ⟨q, hq⟩ := hpw b hb
        have h3 := hmin b hb h9
        have h4 := hne b hb h9
        rw [hq] at h3 h4 ⊢
        have h5 := pow_le_pow_iff.1 h3
        have h6 : k ≠ q := fun e => h4 (by rw [e])
        exact pow_le_pow_iff.2 (by omega)
      refine go_ (hq := ?_)
      refine if_ (ht := fun hsm => ?_) (hf := fun hsm => ?_)
      · skip
        refine go_ (hq := ?_)
        refine ⟨k + 1, ?_, ⟨hX, hB_c, hB_r, (sep_cons (sepa_cons (hs_hB_c_hB_r) sepa_nil) (sep_cons sepa_nil sep_nil)), by omega, hmin' fun b hb h9 e => by omega⟩, by omega⟩
        rw [← Int.pow_succ]; exact hold_
      · skip
        refine go_ (hq := ?_)
        refine W_loop (X := Nat) (fun i => [(1, .int .i64 n), (2, .pointer (some ⟨c, 0, none⟩)), (4, .pointer (some ⟨r, 0, none⟩)), (5, .int .i64 0), (6, .bool false), (7, .int .i64 (2 ^ k)), (8, .int .i64 i)])
          (fun i H' => Ext H H' ∧ Blk H' c 41 [.int .i64 s.bits, hu.val, hf.val] ∧ Blk H' r 41 [.int .i64 0, .slice none 0 0, .slice none 0 0] ∧ SepL [fB c, fB r] ∧ i ≤ s.free.length ∧ ∀ j, j < i → (s.free.getD j default).size ≠ 2 ^ k) (fun i => s.free.length - i) 0 ?_ ?_ ?_
        · exact hold_
        · exact ⟨hX, hB_c, hB_r, (sep_cons (sepa_cons (hs_hB_c_hB_r) sepa_nil) (sep_cons sepa_nil sep_nil)), by omega, fun j hj => by omega⟩
        · clear hX h1 h2 hB_c hB_r hs_hB_c_hB_r u
          rintro u i H' ⟨hX, hB_c, hB_r, hS, hi, hno⟩
          have hXs := hX.size
          have h1 := h10.ext hX
          have h2 := h20.ext hX
          obtain ⟨⟨hs_hB_c_hB_r, -⟩, ⟨⟨-⟩, -⟩⟩ := hS
          refine go_ (hq := ?_)
          refine if_ (ht := fun hi2 => ?_) (hf := fun hi2 => ?_)
          · skip
            have hi' : i < s.free.length := by omega
            refine go_ (hq := ?_)
            refine st_alloc fun e H15 hE15 hge_e hB_e => ?_
            have hs_hB_c_hB_e : Apt (fB c) (fB e) := Apt.new hB_c.old (Frs.blk hge_e)
            have hs_hB_r_hB_e : Apt (fB r) (fB e) := Apt.new hB_r.old (Frs.blk hge_e)
            have hf_hB_e : Frs H (fB e) := Frs.mono (Frs.blk hge_e) hXs
            replace hX := hX.trans hE15
            replace hXs := hX.size
            replace h1 := h10.ext hX
            replace h2 := h20.ext hX
            replace hB_c := hB_c.ext hE15
            replace hB_r := hB_r.ext hE15
            refine go_ (hq := ?_)
            refine store_ hB_e (h := fun H17 hM17 hsz17 hB_e => ?_)
            replace hX := hX.mut hM17 hf_hB_e
            replace hXs := hX.size
            replace h1 := h10.ext hX
            replace h2 := h20.ext hX
            replace hB_c := hB_c.mutF hM17 (hs_hB_c_hB_e.symm)
            replace hB_r := hB_r.mutF hM17 (hs_hB_r_hB_e.symm)
            refine go_ (hq := ?_)
            refine if_ (ht := fun hz => ?_) (hf := fun hz => ?_)
            · skip
              refine go_ (hq := ?_)
              exact ⟨i + 1, hold_, ⟨hX, hB_c, hB_r, (sep_cons (sepa_cons (hs_hB_c_hB_r) sepa_nil) (sep_cons sepa_nil sep_nil)), by omega, fun j hj => by
                rcases Nat.lt_or_ge j i with h9 | h9
                · exact hno j h9
                · have : j = i := by omega
                  subst this; exact hz⟩, by omega⟩
            · skip
              have hz2 : (s.free.getD i default).size = 2 ^ k := Decidable.not_not.1 hz
              have hq : IsBest s.free n i := ⟨hi', by omega, fun j hj h9 => by rw [hz2]; exact hmin _ (hmemD j hj) h9, fun j hj e => hno j hj (by rw [e, hz2])⟩
              have hqs := bestI_some hq
              obtain ⟨B, hB⟩ : ∃ B, B = s.free.getD i default := ⟨_, rfl⟩
              have hBm : B ∈ s.free := by rw [hB]; exact hmemD i hi'
              rw [← hB] at hz2
              have hmk : mOf n = m := mOf_eq hm
              have hmK : m ≤ k := hm.fit.1 (by omega)
              have hT : takeT s n i = ⟨s.bits, withB s.used ⟨B.start, 2 ^ m⟩, splitL m B.start (k - m) (noB s.free B)⟩ := by rw [takeT, ← hB, hmk, hz2, expOf_pow]
              have hlenN := noB_length hVS.sf hBm
              rw [← hB, show enc B = [Value.int .i64 B.start, .int .i64 B.size] from rfl] at hB_e
              rw [← hB]
              have hBp := (hVS.al B (List.mem_append.2 (.inr hBm))).pos
              refine go_ (hq := ?_)
              refine call_ (hc := noBlockO_spec h2 B (by omega)) (h := ?_)
              rintro vf H22 ⟨n_22, hE22⟩
              have hs_hB_c_o_f : Apt (fB c) (fO vf) := Apt.new hB_c.old (Own.frs n_22 (Nat.le_refl _))
              have hs_hB_r_o_f : Apt (fB r) (fO vf) := Apt.new hB_r.old (Own.frs n_22 (Nat.le_refl _))
              have hs_hB_e_o_f : Apt (fB e) (fO vf) := Apt.new hB_e.old (Own.frs n_22 (Nat.le_refl _))
              have hf_o_f : Frs H (fO vf) := Frs.mono (Own.frs n_22 (Nat.le_refl _)) hXs
              have o_f := n_22.mono hXs
              replace hX := hX.trans hE22
              replace hXs := hX.size
              replace h1 := h10.ext hX
              replace h2 := h20.ext hX
              replace hB_c := hB_c.ext hE22
              replace hB_r := hB_r.ext hE22
              replace hB_e := hB_e.ext hE22
              simp only [put]
              obtain ⟨df, rfl⟩ := o_f.sl.hdrOf
              refine go_ (hq := ?_)
              refine storef_ 2 hB_c (h := fun H25 hM25 hsz25 hB_c => ?_)
              replace hX := hX.mut hM25 hf_hB_c
              replace hXs := hX.size
              replace h1 := h10.ext hX
              replace h2 := h20.ext hX
              replace hB_r := hB_r.mutF hM25 hs_hB_c_hB_r
              replace hB_e := hB_e.mutF hM25 hs_hB_c_hB_e
              replace o_f := o_f.mutF hM25 hs_hB_c_o_f
              refine go_ (hq := ?_)
              refine W_loop (X := Nat × Hdr × List BlockD) (fun x => [(1, .int .i64 n), (2, .pointer (some ⟨c, 0, none⟩)), (4, .pointer (some ⟨r, 0, none⟩)), (9, .pointer (some ⟨e, 0, none⟩))])
                (fun x H' => Ext H H' ∧ Blk H' c 41 [.int .i64 s.bits, hu.val, x.2.1.val] ∧ Blk H' r 41 [.int .i64 0, .slice none 0 0, .slice none 0 0] ∧ Blk H' e 51 [.int .i64 B.start, .int .i64 (2 ^ (m + x.1))] ∧ Own H' H.size 51 x.2.1.val x.2.2 ∧ SepL [fB c, fB r, fB e, fO x.2.1.val] ∧ x.1 ≤ k - m ∧ x.2.2.length + x.1 + 1 = s.free.length + (k - m) ∧ splitL m B.start x.1 x.2.2 = splitL m B.start (k - m) (noB s.free B)) (fun x => x.1) (k - m, df, noB s.free B) ?_ ?_ ?_
              · exact hold_
              · refine ⟨hX, hB_c, hB_r, ?_, o_f, (sep_cons (sepa_cons (hs_hB_c_hB_r) (sepa_cons (hs_hB_c_hB_e) (sepa_cons (hs_hB_c_o_f) sepa_nil))) (sep_cons (sepa_cons (hs_hB_r_hB_e) (sepa_cons (hs_hB_r_o_f) sepa_nil)) (sep_cons (sepa_cons (hs_hB_e_o_f) sepa_nil) (sep_cons sepa_nil sep_nil)))), Nat.le_refl _, by dsimp only; omega, rfl⟩
                dsimp only
                rw [show m + (k - m) = k by omega, ← hz2]
                exact hB_e
              · clear hX h1 h2 hB_c hB_r hB_e o_f u
                rintro u ⟨j, dfx, fl⟩ H' ⟨hX, hB_c, hB_r, hB_e, o_f, hS, hj, hln, hsp⟩
                dsimp only at hX hB_c hB_r hB_e o_f hS hj hln hsp ⊢
                have hXs := hX.size
                have h1 := h10.ext hX
                have hf_o_f : Frs H (fO dfx.val) := o_f.frs (Nat.le_refl _)
                obtain ⟨⟨hs_hB_c_hB_r, hs_hB_c_hB_e, hs_hB_c_o_f, -⟩, ⟨⟨hs_hB_r_hB_e, hs_hB_r_o_f, -⟩, ⟨⟨hs_hB_e_o_f, -⟩, ⟨⟨-⟩, -⟩⟩⟩⟩ := hS
                have hzj := hzle (m + j) (by omega)
                refine go_ (hq := ?_)
                refine if_ (ht := fun hlt => ?_) (hf := fun hlt => ?_)
                · skip
                  obtain ⟨j, rfl⟩ : ∃ j', j = j' + 1 := by
                    cases j with
                    | zero =>
                      exfalso
                      rw [Nat.add_zero] at hlt
                      cases m with
                      | zero => simp at hlt; omega
                      | succ m =>
                        have := hm.2 m (by omega)
                        rw [Int.pow_succ] at hlt
                        omega
                    | succ j => exact ⟨j, rfl⟩
                  have hz3 : (2 : Int) ^ (m + (j + 1)) = 2 * 2 ^ (m + j) := by rw [← Nat.add_assoc, Int.pow_succ, Int.mul_comm]
                  have hzj' := hzle (m + j) (by omega)
                  rw [hz3] at hB_e hlt ⊢
                  refine go_ (hq := ?_)
                  rw [show (2 * (2 : Int) ^ (m + j)) / 2 = 2 ^ (m + j) by omega]
                  refine storef_ 1 hB_e (h := fun H30 hM30 hsz30 hB_e => ?_)
                  replace hX := hX.mut hM30 hf_hB_e
                  replace hXs := hX.size
                  replace h1 := h10.ext hX
                  replace hB_c := hB_c.mutF hM30 (hs_hB_c_hB_e.symm)
                  replace hB_r := hB_r.mutF hM30 (hs_hB_r_hB_e.symm)
                  replace o_f := o_f.mutF hM30 hs_hB_e_o_f
                  refine go_ (hq := ?_)
                  refine call_ (hc := withBlockO_spec o_f.sl ⟨B.start + 2 ^ (m + j), 2 ^ (m + j)⟩ (by omega)) (h := ?_)
                  rintro vg H32 ⟨n_32, hE32⟩
                  have hs_hB_c_o_g : Apt (fB c) (fO vg) := Apt.new hB_c.old (Own.frs n_32 (Nat.le_refl _))
                  have hs_hB_r_o_g : Apt (fB r) (fO vg) := Apt.new hB_r.old (Own.frs n_32 (Nat.le_refl _))
                  have hs_hB_e_o_g : Apt (fB e) (fO vg) := Apt.new hB_e.old (Own.frs n_32 (Nat.le_refl _))
                  have hs_o_f_o_g : Apt (fO dfx.val) (fO vg) := Apt.new o_f.old (Own.frs n_32 (Nat.le_refl _))
                  have hf_o_g : Frs H (fO vg) := Frs.mono (Own.frs n_32 (Nat.le_refl _)) hXs
                  have o_g := n_32.mono hXs
                  replace hX := hX.trans hE32
                  replace hXs := hX.size
                  replace h1 := h10.ext hX
                  replace hB_c := hB_c.ext hE32
                  replace hB_r := hB_r.ext hE32
                  replace hB_e := hB_e.ext hE32
                  replace o_f := o_f.ext hE32
                  simp only [put]
                  obtain ⟨dg, rfl⟩ := o_g.sl.hdrOf
                  refine go_ (hq := ?_)
                  refine storef_ 2 hB_c (h := fun H35 hM35 hsz35 hB_c => ?_)
                  replace hX := hX.mut hM35 hf_hB_c
                  replace hXs := hX.size
                  replace h1 := h10.ext hX
                  replace hB_r := hB_r.mutF hM35 hs_hB_c_hB_r
                  replace hB_e := hB_e.mutF hM35 hs_hB_c_hB_e
                  replace o_f := o_f.mutF hM35 hs_hB_c_o_f
                  replace o_g := o_g.mutF hM35 hs_hB_c_o_g
                  refine go_ (hq := ?_)
                  refine ⟨(j, dg, withB fl ⟨B.start + 2 ^ (m + j), 2 ^ (m + j)⟩), hold_, ⟨hX, hB_c, hB_r, hB_e, o_g, (sep_cons (sepa_cons (hs_hB_c_hB_r) (sepa_cons (hs_hB_c_hB_e) (sepa_cons (hs_hB_c_o_g) sepa_nil))) (sep_cons (sepa_cons (hs_hB_r_hB_e) (sepa_cons (hs_hB_r_o_g) sepa_nil)) (sep_cons (sepa_cons (hs_hB_e_o_g) sepa_nil) (sep_cons sepa_nil sep_nil)))), by dsimp only; omega, ?_, hsp⟩, by dsimp only; omega⟩
                  dsimp only
                  rw [withB_len]; omega
                · skip
                  have hj0 : j = 0 := by
                    cases j with
                    | zero => rfl
                    | succ j =>
                      exfalso
                      apply hlt
                      have hz3 : (2 : Int) ^ (m + (j + 1)) = 2 * 2 ^ (m + j) := by rw [← Nat.add_assoc, Int.pow_succ, Int.mul_comm]
                      have h9 := pow_le_pow_iff.2 (show m ≤ m + j by omega)
                      have := hm.1
                      omega
                  subst hj0
                  rw [Nat.add_zero] at hB_e
                  rw [splitL] at hsp
                  subst hsp
                  refine go_ (hq := ?_)
                  refine call_ (hc := withBlockO_spec h1 ⟨B.start, 2 ^ m⟩ (by omega)) (h := ?_)
                  rintro vu H38 ⟨n_38, hE38⟩
                  have hs_hB_c_o_u : Apt (fB c) (fO vu) := Apt.new hB_c.old (Own.frs n_38 (Nat.le_refl _))
                  have hs_hB_r_o_u : Apt (fB r) (fO vu) := Apt.new hB_r.old (Own.frs n_38 (Nat.le_refl _))
                  have hs_hB_e_o_u : Apt (fB e) (fO vu) := Apt.new hB_e.old (Own.frs n_38 (Nat.le_refl _))
                  have hs_o_f_o_u : Apt (fO dfx.val) (fO vu) := Apt.new o_f.old (Own.frs n_38 (Nat.le_refl _))
                  have hf_o_u : Frs H (fO vu) := Frs.mono (Own.frs n_38 (Nat.le_refl _)) hXs
                  have o_u := n_38.mono hXs
                  replace hX := hX.trans hE38
                  replace hXs := hX.size
                  replace h1 := h10.ext hX
                  replace hB_c := hB_c.ext hE38
                  replace hB_r := hB_r.ext hE38
                  replace hB_e := hB_e.ext hE38
                  replace o_f := o_f.ext hE38
                  simp only [put]
                  obtain ⟨du, rfl⟩ := o_u.sl.hdrOf
                  refine go_ (hq := ?_)
                  refine storef_ 1 hB_c (h := fun H41 hM41 hsz41 hB_c => ?_)
                  replace hX := hX.mut hM41 hf_hB_c
                  replace hXs := hX.size
                  replace h1 := h10.ext hX
                  replace hB_r := hB_r.mutF hM41 hs_hB_c_hB_r
                  replace hB_e := hB_e.mutF hM41 hs_hB_c_hB_e
                  replace o_f := o_f.mutF hM41 hs_hB_c_o_f
                  replace o_u := o_u.mutF hM41 hs_hB_c_o_u
                  refine go_ (hq := ?_)
                  refine drawt_ mixed [3] (.seg 0 [0] (.alt 1 (.alt 2 (.seg 1 [3, 4, 5] .nil) (.altw 3 (.seg 0 [2, 4, 5] .nil) (.stop))) (.altw 3 (.seg 0 [1, 2, 4, 5] .nil) (.stop)))) (h := ?_)
                  refine wseg_ (h := ?_)
                  refine go_ (hq := ?_)
                  refine walt_ (h := ?_) (hr := waltw_ (h := ?_) (hr := wstop_))
                  · skip
                    refine go_ (hq := ?_)
                    refine walt_ (h := ?_) (hr := waltw_ (h := ?_) (hr := wstop_))
                    · skip
                      refine go_ (hq := ?_)
                      refine wseg_ (h := ?_)
                      refine go_ (hq := ?_)
                      refine store_ hB_r (h := fun H47 hM47 hsz47 hB_r => ?_)
                      replace hX := hX.mut hM47 hf_hB_r
                      replace hXs := hX.size
                      replace h1 := h10.ext hX
                      replace hB_c := hB_c.mutF hM47 (hs_hB_c_hB_r.symm)
                      replace hB_e := hB_e.mutF hM47 hs_hB_r_hB_e
                      replace o_f := o_f.mutF hM47 hs_hB_r_o_f
                      replace o_u := o_u.mutF hM47 hs_hB_r_o_u
                      refine go_ (hq := ?_)
                      refine wnil_ ?_
                      refine go_ (hq := ?_)
                      refine retQ_ret (.manyV (rs := [_, _, _]) (vs := [_, _, _]) rfl (by simp) (rvc_ hB_r (h := rvt_ (h := rvt_ (h := rvn_))))) ?_
                      exact ⟨.inr ⟨i, hqs, du, dfx, by rw [← hB], by rw [hT]; exact o_u, by rw [hT]; exact o_f⟩, hX⟩
                    · skip
                      refine store_ hB_r (h := fun H50 hM50 hsz50 hB_r => ?_)
                      replace hX := hX.mut hM50 hf_hB_r
                      replace hXs := hX.size
                      replace h1 := h10.ext hX
                      replace hB_c := hB_c.mutF hM50 (hs_hB_c_hB_r.symm)
                      replace hB_e := hB_e.mutF hM50 hs_hB_r_hB_e
                      replace o_f := o_f.mutF hM50 hs_hB_r_o_f
                      replace o_u := o_u.mutF hM50 hs_hB_r_o_u
                      refine go_ (hq := ?_)
                      refine wseg_ (h := ?_)
                      refine go_ (hq := ?_)
                      refine wnil_ ?_
                      refine go_ (hq := ?_)
                      refine retQ_ret (.manyV (rs := [_, _, _]) (vs := [_, _, _]) rfl (by simp) (rvc_ hB_r (h := rvt_ (h := rvt_ (h := rvn_))))) ?_
                      exact ⟨.inr ⟨i, hqs, du, dfx, by rw [← hB], by rw [hT]; exact o_u, by rw [hT]; exact o_f⟩, hX⟩
                  · skip
                    refine store_ hB_r (h := fun H54 hM54 hsz54 hB_r => ?_)
                    replace hX := hX.mut hM54 hf_hB_r
                    replace hXs := hX.size
                    replace h1 := h10.ext hX
                    replace hB_c := hB_c.mutF hM54 (hs_hB_c_hB_r.symm)
                    replace hB_e := hB_e.mutF hM54 hs_hB_r_hB_e
                    replace o_f := o_f.mutF hM54 hs_hB_r_o_f
                    replace o_u := o_u.mutF hM54 hs_hB_r_o_u
                    refine go_ (hq := ?_)
                    refine wseg_ (h := ?_)
                    refine go_ (hq := ?_)
                    refine wnil_ ?_
                    refine go_ (hq := ?_)
                    refine retQ_ret (.manyV (rs := [_, _, _]) (vs := [_, _, _]) rfl (by simp) (rvc_ hB_r (h := rvt_ (h := rvt_ (h := rvn_))))) ?_
                    exact ⟨.inr ⟨i, hqs, du, dfx, by rw [← hB], by rw [hT]; exact o_u, by rw [hT]; exact o_f⟩, hX⟩
          · skip
            refine go_ (hq := ?_)
            refine ⟨k + 1, ?_, ⟨hX, hB_c, hB_r, (sep_cons (sepa_cons (hs_hB_c_hB_r) sepa_nil) (sep_cons sepa_nil sep_nil)), by omega, hmin' fun b hb h9 e => ?_⟩, by omega⟩
            · rw [← Int.pow_succ]; exact hold_
            · obtain ⟨j, hj, rfl⟩ := List.mem_iff_getElem.1 hb
              exact hno j (by omega) (by rw [List.getD_eq_getElem?_getD, List.getElem?_eq_getElem hj]; exact e)
    · skip
      rw [hsh] at hle
      have hbn : bestI s.free n = none := bestI_none fun j hj => by
        have h3 := hmin _ (hmemD j hj)
        have h4 := (hVS.al _ (List.mem_append.2 (.inr (hmemD j hj)))).pos
        omega
      refine go_ (hq := ?_)
      refine store_ hB_r (h := fun H60 hM60 hsz60 hB_r => ?_)
      replace hX := hX.mut hM60 hf_hB_r
      replace hXs := hX.size
      replace h1 := h10.ext hX
      replace h2 := h20.ext hX
      replace hB_c := hB_c.mutF hM60 (hs_hB_c_hB_r.symm)
      refine go_ (hq := ?_)
      refine retQ_ret (.manyV (rs := [_, _, _]) (vs := [_, _, _]) rfl (by simp) (rvc_ hB_r (h := rvt_ (h := rvt_ (h := rvn_))))) ?_
      exact ⟨.inl ⟨hbn, rfl⟩, hX⟩
end Go.Proofs.Ytpkigjlnbfgjcaa
