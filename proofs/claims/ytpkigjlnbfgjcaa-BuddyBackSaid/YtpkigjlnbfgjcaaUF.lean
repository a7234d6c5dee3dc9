/- The document's giving back. -/
import Derived.Test.YtpkigjlnbfgjcaaUE
namespace Go.Proofs.Ytpkigjlnbfgjcaa
open Go.TM
open Go.TM.Cell (enc)
set_option maxRecDepth 20000
set_option maxHeartbeats 4000000
variable {H H' : Heap}
/-- A row's own block, where it holds something. -/
def fS {α : Type} (v : Value) (xs : List α) : Nat → Prop := fun k => xs ≠ [] ∧ fO v k
/-- A row that can be read, among what changes. -/
def SlS {α : Type} [Cell α] (H : Heap) (v : Value) (xs : List α) : Prop := SlE H v xs
theorem SlS.ext {α : Type} [Cell α] {v : Value} {xs : List α} (h : SlS H v xs) (he : Ext H H') : SlS H' v xs := SlE.ext h he
theorem SlS.mutF {α : Type} [Cell α] {f : Nat → Prop} {v : Value} {xs : List α} (h : SlS H v xs) (k : Mut f H H') (hs : Apt f (fS v xs)) : SlS H' v xs := by
  by_cases hx : xs = []
  · subst hx
    refine ⟨h.1, h.2.imp id fun ⟨a, cap, e, h1, h2, _⟩ => ⟨a, cap, e, h1, h2, fun j hj => by simp at hj⟩⟩
  · exact SlE.mut h k fun b hb hf => hs b hf ⟨hx, hb⟩
theorem SlS.old {v : Value} {xs : List BlockD} (h : SlS H v xs) : Old H (fS v xs) := by
  rintro k ⟨hx, hk⟩
  rcases h.2 with ⟨⟨c, rfl⟩, _⟩ | ⟨a, cap, rfl, _, _, hc⟩
  · cases hk
  · have hl : 0 < (xs.flatMap enc).length := by
      have := flat_length xs
      have h0 : 0 < xs.length := List.length_pos_iff.2 hx
      rw [this]; show 0 < xs.length * 2; omega
    have h1 := hc 0 hl
    have e : a.block = k := by
      have : (some a.block : Option Nat) = some k := hk
      cases this; rfl
    subst e
    have := cellH_lt h1
    rwa [add_block] at this
theorem apt_fS {α : Type} {a : Nat → Prop} {v : Value} {xs : List α} (h : Apt a (fO v)) : Apt a (fS v xs) := fun k h1 h2 => h k h1 h2.2
theorem returned_spec {hu hf : Hdr} {s : SpD} {W : Int} (hVS : VS s W) {B : BlockD} (hBm : B ∈ s.used) (h1 : SlE H hu.val s.used) (h2 : SlE H hf.val s.free) :
    CallsH PG 28 #[SpV s.bits hu hf, B.val] H fun v H' => SpIs H' v ⟨s.bits, noB s.used B, withB (mergeF 31 W s.free B).1 (mergeF 31 W s.free B).2⟩ ∧ Ext H H' := by
  obtain ⟨hw1, hw2⟩ := hVS.w
  have hbb := hVS.hb
  have hsh : shlI 1 s.bits = W := by rw [shlI_one (by omega), hVS.hW]
  have hlen := hVS.len
  have hSI := SI.startU hVS hBm
  have h10 := h1
  have h20 := h2
  have hX := Ext.refl H
  have hXs := hX.size
  refine callsH_of_W (args := [SpV s.bits hu hf, B.val]) (ρ₀ := (upd (upd (fun _ => undef) 1 (B.val)) 0 (SpV s.bits hu hf))) rfl Try.func28 rfl (by kernel_rfl) ?_
  refine go_ (hq := ?_)
  refine box_ (h := fun c H2 hE2 hge_c hB_c => ?_)
  have hf_hB_c : Frs H (fB c) := Frs.mono (Frs.blk hge_c) hXs
  replace hX := hX.trans hE2
  replace hXs := hX.size
  replace h1 := h10.ext hX
  replace h2 := h20.ext hX
  refine go_ (hq := ?_)
  refine box_ (h := fun e H4 hE4 hge_e hB_e => ?_)
  have hs_hB_c_hB_e : Apt (fB c) (fB e) := Apt.new hB_c.old (Frs.blk hge_e)
  have hf_hB_e : Frs H (fB e) := Frs.mono (Frs.blk hge_e) hXs
  replace hX := hX.trans hE4
  replace hXs := hX.size
  replace h1 := h10.ext hX
  replace h2 := h20.ext hX
  replace hB_c := hB_c.ext hE4
  refine go_ (hq := ?_)
  refine st_alloc fun r H6 hE6 hge_r hB_r => ?_
  have hs_hB_c_hB_r : Apt (fB c) (fB r) := Apt.new hB_c.old (Frs.blk hge_r)
  have hs_hB_e_hB_r : Apt (fB e) (fB r) := Apt.new hB_e.old (Frs.blk hge_r)
  have hf_hB_r : Frs H (fB r) := Frs.mono (Frs.blk hge_r) hXs
  replace hX := hX.trans hE6
  replace hXs := hX.size
  replace h1 := h10.ext hX
  replace h2 := h20.ext hX
  replace hB_c := hB_c.ext hE6
  replace hB_e := hB_e.ext hE6
  refine go_ (hq := ?_)
  refine call_ (hc := noBlockO_spec h1 B (by omega)) (h := ?_)
  rintro vu H8 ⟨n_8, hE8⟩
  have hs_hB_c_o_u : Apt (fB c) (fO vu) := Apt.new hB_c.old (Own.frs n_8 (Nat.le_refl _))
  have hs_hB_e_o_u : Apt (fB e) (fO vu) := Apt.new hB_e.old (Own.frs n_8 (Nat.le_refl _))
  have hs_hB_r_o_u : Apt (fB r) (fO vu) := Apt.new hB_r.old (Own.frs n_8 (Nat.le_refl _))
  have hf_o_u : Frs H (fO vu) := Frs.mono (Own.frs n_8 (Nat.le_refl _)) hXs
  have o_u := n_8.mono hXs
  replace hX := hX.trans hE8
  replace hXs := hX.size
  replace h1 := h10.ext hX
  replace h2 := h20.ext hX
  replace hB_c := hB_c.ext hE8
  replace hB_e := hB_e.ext hE8
  replace hB_r := hB_r.ext hE8
  simp only [put]
  obtain ⟨du, rfl⟩ := o_u.sl.hdrOf
  refine go_ (hq := ?_)
  refine storef_ 1 hB_c (h := fun H11 hM11 hsz11 hB_c => ?_)
  replace hX := hX.mut hM11 hf_hB_c
  replace hXs := hX.size
  replace h1 := h10.ext hX
  replace h2 := h20.ext hX
  replace hB_e := hB_e.mutF hM11 hs_hB_c_hB_e
  replace hB_r := hB_r.mutF hM11 hs_hB_c_hB_r
  replace o_u := o_u.mutF hM11 hs_hB_c_o_u
  refine go_ (hq := ?_)
  have sS : SlS _ hf.val s.free := h2
  have hold : Old H (fS hf.val s.free) := SlS.old h20
  have hs_hB_c_sS := (Apt.new hold hf_hB_c).symm
  have hs_hB_e_sS := (Apt.new hold hf_hB_e).symm
  have hs_hB_r_sS := (Apt.new hold hf_hB_r).symm
  have hs_o_u_sS := (Apt.new hold hf_o_u).symm
  clear hold
  refine W_loop (X := Nat × Hdr × List BlockD × BlockD) (fun x => [(2, .pointer (some ⟨c, 0, none⟩)), (3, .pointer (some ⟨e, 0, none⟩)), (4, .pointer (some ⟨r, 0, none⟩))])
    (fun x H' => Ext H H' ∧ Blk H' c 41 [.int .i64 s.bits, du.val, x.2.1.val] ∧ Blk H' e 51 [.int .i64 x.2.2.2.start, .int .i64 x.2.2.2.size] ∧ Blk H' r 41 [.int .i64 0, .slice none 0 0, .slice none 0 0] ∧ Own H' H.size 51 du.val (noB s.used B) ∧ SlS H' x.2.1.val x.2.2.1 ∧ SepL [fB c, fB e, fB r, fO du.val, fS x.2.1.val x.2.2.1] ∧ x.2.2.1.length ≤ s.free.length ∧ SI W (noB s.used B) x.2.2.1 x.2.2.2 ∧ (2 : Int) ^ x.1 ≤ x.2.2.2.size ∧ x.1 ≤ 31 ∧ mergeF 31 W s.free B = mergeF (31 - x.1) W x.2.2.1 x.2.2.2) (fun x => x.2.2.1.length) (0, hf, s.free, B) ?_ ?_ ?_
  · exact hold_
  · have hp := hSI.alb.pos
    exact ⟨hX, hB_c, hB_e, hB_r, o_u, sS, (sep_cons (sepa_cons (hs_hB_c_hB_e) (sepa_cons (hs_hB_c_hB_r) (sepa_cons (hs_hB_c_o_u) (sepa_cons (hs_hB_c_sS) sepa_nil)))) (sep_cons (sepa_cons (hs_hB_e_hB_r) (sepa_cons (hs_hB_e_o_u) (sepa_cons (hs_hB_e_sS) sepa_nil))) (sep_cons (sepa_cons (hs_hB_r_o_u) (sepa_cons (hs_hB_r_sS) sepa_nil)) (sep_cons (sepa_cons (hs_o_u_sS) sepa_nil) (sep_cons sepa_nil sep_nil))))), Nat.le_refl _, hSI, by simp; omega, by simp, rfl⟩
  · clear hX h1 h2 hB_c hB_e hB_r o_u sS hSI
    rintro u ⟨i, dfx, fl, b⟩ H' ⟨hX, hB_c, hB_e, hB_r, o_u, sS, hS, hfl, hSI, hpi, hi31, hmg⟩
    dsimp only at hX hB_c hB_e hB_r o_u sS hS hfl hSI hpi hi31 hmg ⊢
    have hXs := hX.size
    have hf_o_u : Frs H (fO du.val) := o_u.frs (Nat.le_refl _)
    obtain ⟨⟨hs_hB_c_hB_e, hs_hB_c_hB_r, hs_hB_c_o_u, hs_hB_c_sS, -⟩, ⟨⟨hs_hB_e_hB_r, hs_hB_e_o_u, hs_hB_e_sS, -⟩, ⟨⟨hs_hB_r_o_u, hs_hB_r_sS, -⟩, ⟨⟨hs_o_u_sS, -⟩, ⟨⟨-⟩, -⟩⟩⟩⟩⟩ := hS
    have hp := hSI.alb.pos
    refine go_ (hq := ?_)
    refine draw_ mixed (Q := _) 0 [0,1,2,3,4,5,6,7,8,9,10,11,12,13] (h := ?_)
    refine go_ (hq := ?_)
    rw [hsh]
    by_cases hlt : b.size < W
    · skip
      have hi30 : i ≤ 30 := pow_le_pow_iff.1 (show (2 : Int) ^ i ≤ 2 ^ 30 by omega)
      obtain ⟨rr, hrr⟩ : ∃ rr, 31 - i = rr + 1 := ⟨30 - i, by omega⟩
      have hgd : (decide (b.size < W) == true) = true := by rw [decide_eq_true hlt]; rfl
      refine callg_ hgd (hc := mateR_spec b (by omega) (by omega)) (h := ?_)
      rintro v9 H9 ⟨rfl, hE9⟩
      replace hX := hX.trans hE9
      replace hXs := hX.size
      replace hB_c := hB_c.ext hE9
      replace hB_e := hB_e.ext hE9
      replace hB_r := hB_r.ext hE9
      replace o_u := o_u.ext hE9
      replace sS := sS.ext hE9
      have sE : SlE _ dfx.val fl := sS
      refine go_ (hq := ?_)
      refine callg_ hgd (hc := findBlock_spec sE (mateR b)) (h := ?_)
      rintro v8 H8 ⟨rfl, hE8⟩
      replace hX := hX.trans hE8
      replace hXs := hX.size
      replace hB_c := hB_c.ext hE8
      replace hB_e := hB_e.ext hE8
      replace hB_r := hB_r.ext hE8
      replace o_u := o_u.ext hE8
      replace sS := sS.ext hE8
      clear sE
      obtain ⟨hi1, hi2⟩ := ixFrom_nn (mateR b) fl 0
      refine go_ (hq := ?_)
      refine if_ (ht := fun h5 => ?_) (hf := fun h5 => ?_)
      · skip
        have hmem : mateR b ∈ fl := hi1.1 h5.2
        have hSI2 := SI.merge hVS.hW hSI hlt hmem
        have hlenF := noB_length hSI.sf hmem
        refine go_ (hq := ?_)
        refine call_ (hc := mateR_spec b (by omega) (by omega)) (h := ?_)
        rintro v23 H23 ⟨rfl, hE23⟩
        replace hX := hX.trans hE23
        replace hXs := hX.size
        replace hB_c := hB_c.ext hE23
        replace hB_e := hB_e.ext hE23
        replace hB_r := hB_r.ext hE23
        replace o_u := o_u.ext hE23
        replace sS := sS.ext hE23
        simp only [put]
        refine go_ (hq := ?_)
        refine st_alloc fun g H25 hE25 hge_g hB_g => ?_
        have hs_hB_c_hB_g : Apt (fB c) (fB g) := Apt.new hB_c.old (Frs.blk hge_g)
        have hs_hB_e_hB_g : Apt (fB e) (fB g) := Apt.new hB_e.old (Frs.blk hge_g)
        have hs_hB_r_hB_g : Apt (fB r) (fB g) := Apt.new hB_r.old (Frs.blk hge_g)
        have hs_o_u_hB_g : Apt (fO du.val) (fB g) := Apt.new o_u.old (Frs.blk hge_g)
        have hs_sS_hB_g : Apt (fS dfx.val fl) (fB g) := Apt.new sS.old (Frs.blk hge_g)
        have hf_hB_g : Frs H (fB g) := Frs.mono (Frs.blk hge_g) hXs
        replace hX := hX.trans hE25
        replace hXs := hX.size
        replace hB_c := hB_c.ext hE25
        replace hB_e := hB_e.ext hE25
        replace hB_r := hB_r.ext hE25
        replace o_u := o_u.ext hE25
        replace sS := sS.ext hE25
        refine go_ (hq := ?_)
        refine store_ hB_g (h := fun H27 hM27 hsz27 hB_g => ?_)
        replace hX := hX.mut hM27 hf_hB_g
        replace hXs := hX.size
        replace hB_c := hB_c.mutF hM27 (hs_hB_c_hB_g.symm)
        replace hB_e := hB_e.mutF hM27 (hs_hB_e_hB_g.symm)
        replace hB_r := hB_r.mutF hM27 (hs_hB_r_hB_g.symm)
        replace o_u := o_u.mutF hM27 (hs_o_u_hB_g.symm)
        replace sS := sS.mutF hM27 (hs_sS_hB_g.symm)
        have sE : SlE _ dfx.val fl := sS
        refine go_ (hq := ?_)
        refine call_ (hc := noBlockO_spec sE (mateR b) (by omega)) (h := ?_)
        rintro vg H29 ⟨n_29, hE29⟩
        have hs_hB_c_o_g : Apt (fB c) (fO vg) := Apt.new hB_c.old (Own.frs n_29 (Nat.le_refl _))
        have hs_hB_e_o_g : Apt (fB e) (fO vg) := Apt.new hB_e.old (Own.frs n_29 (Nat.le_refl _))
        have hs_hB_r_o_g : Apt (fB r) (fO vg) := Apt.new hB_r.old (Own.frs n_29 (Nat.le_refl _))
        have hs_o_u_o_g : Apt (fO du.val) (fO vg) := Apt.new o_u.old (Own.frs n_29 (Nat.le_refl _))
        have hs_sS_o_g : Apt (fS dfx.val fl) (fO vg) := Apt.new sS.old (Own.frs n_29 (Nat.le_refl _))
        have hs_hB_g_o_g : Apt (fB g) (fO vg) := Apt.new hB_g.old (Own.frs n_29 (Nat.le_refl _))
        have hf_o_g : Frs H (fO vg) := Frs.mono (Own.frs n_29 (Nat.le_refl _)) hXs
        have o_g := n_29.mono hXs
        replace hX := hX.trans hE29
        replace hXs := hX.size
        replace hB_c := hB_c.ext hE29
        replace hB_e := hB_e.ext hE29
        replace hB_r := hB_r.ext hE29
        replace o_u := o_u.ext hE29
        replace sS := sS.ext hE29
        replace hB_g := hB_g.ext hE29
        simp only [put]
        clear sE
        obtain ⟨dg, rfl⟩ := o_g.sl.hdrOf
        refine go_ (hq := ?_)
        refine storef_ 2 hB_c (h := fun H32 hM32 hsz32 hB_c => ?_)
        replace hX := hX.mut hM32 hf_hB_c
        replace hXs := hX.size
        replace hB_e := hB_e.mutF hM32 hs_hB_c_hB_e
        replace hB_r := hB_r.mutF hM32 hs_hB_c_hB_r
        replace o_u := o_u.mutF hM32 hs_hB_c_o_u
        replace sS := sS.mutF hM32 hs_hB_c_sS
        replace hB_g := hB_g.mutF hM32 hs_hB_c_hB_g
        replace o_g := o_g.mutF hM32 hs_hB_c_o_g
        refine go_ (hq := ?_)
        refine if_ (ht := fun hlt2 => ?_) (hf := fun hlt2 => ?_)
        · skip
          refine go_ (hq := ?_)
          refine storef_ 0 hB_e (h := fun H36 hM36 hsz36 hB_e => ?_)
          replace hX := hX.mut hM36 hf_hB_e
          replace hXs := hX.size
          replace hB_c := hB_c.mutF hM36 (hs_hB_c_hB_e.symm)
          replace hB_r := hB_r.mutF hM36 hs_hB_e_hB_r
          replace o_u := o_u.mutF hM36 hs_hB_e_o_u
          replace sS := sS.mutF hM36 hs_hB_e_sS
          replace hB_g := hB_g.mutF hM36 hs_hB_e_hB_g
          replace o_g := o_g.mutF hM36 hs_hB_e_o_g
          refine go_ (hq := ?_)
          refine storef_ 1 hB_e (h := fun H38 hM38 hsz38 hB_e => ?_)
          replace hX := hX.mut hM38 hf_hB_e
          replace hXs := hX.size
          replace hB_c := hB_c.mutF hM38 (hs_hB_c_hB_e.symm)
          replace hB_r := hB_r.mutF hM38 hs_hB_e_hB_r
          replace o_u := o_u.mutF hM38 hs_hB_e_o_u
          replace sS := sS.mutF hM38 hs_hB_e_sS
          replace hB_g := hB_g.mutF hM38 hs_hB_e_hB_g
          replace o_g := o_g.mutF hM38 hs_hB_e_o_g
          refine go_ (hq := ?_)
          have e1 : par b = ⟨(mateR b).start, 2 * b.size⟩ := by rw [par]; simp only [BlockD.mk.injEq, and_true]; omega
          have sG : SlS _ dg.val (noB fl (mateR b)) := o_g.sl
          have hs_hB_c_sG : Apt (fB c) (fS dg.val (noB fl (mateR b))) := apt_fS hs_hB_c_o_g
          have hs_hB_e_sG : Apt (fB e) (fS dg.val (noB fl (mateR b))) := apt_fS hs_hB_e_o_g
          have hs_hB_r_sG : Apt (fB r) (fS dg.val (noB fl (mateR b))) := apt_fS hs_hB_r_o_g
          have hs_o_u_sG : Apt (fO du.val) (fS dg.val (noB fl (mateR b))) := apt_fS hs_o_u_o_g
          refine ⟨(i + 1, dg, noB fl (mateR b), par b), hold_, ⟨hX, hB_c, by rw [e1]; exact hB_e, hB_r, o_u, sG, (sep_cons (sepa_cons (hs_hB_c_hB_e) (sepa_cons (hs_hB_c_hB_r) (sepa_cons (hs_hB_c_o_u) (sepa_cons (hs_hB_c_sG) sepa_nil)))) (sep_cons (sepa_cons (hs_hB_e_hB_r) (sepa_cons (hs_hB_e_o_u) (sepa_cons (hs_hB_e_sG) sepa_nil))) (sep_cons (sepa_cons (hs_hB_r_o_u) (sepa_cons (hs_hB_r_sG) sepa_nil)) (sep_cons (sepa_cons (hs_o_u_sG) sepa_nil) (sep_cons sepa_nil sep_nil))))), by dsimp only; omega, hSI2, ?_, by dsimp only; omega, ?_⟩, by dsimp only; omega⟩
          · show (2 : Int) ^ (i + 1) ≤ 2 * b.size
            rw [Int.pow_succ]; omega
          · dsimp only
            rw [hmg, hrr, mergeF, if_pos ⟨hlt, hmem⟩, show 31 - (i + 1) = rr by omega]
        · skip
          refine go_ (hq := ?_)
          refine storef_ 1 hB_e (h := fun H42 hM42 hsz42 hB_e => ?_)
          replace hX := hX.mut hM42 hf_hB_e
          replace hXs := hX.size
          replace hB_c := hB_c.mutF hM42 (hs_hB_c_hB_e.symm)
          replace hB_r := hB_r.mutF hM42 hs_hB_e_hB_r
          replace o_u := o_u.mutF hM42 hs_hB_e_o_u
          replace sS := sS.mutF hM42 hs_hB_e_sS
          replace hB_g := hB_g.mutF hM42 hs_hB_e_hB_g
          replace o_g := o_g.mutF hM42 hs_hB_e_o_g
          refine go_ (hq := ?_)
          have e1 : par b = ⟨b.start, 2 * b.size⟩ := by rw [par]; simp only [BlockD.mk.injEq, and_true]; omega
          have sG : SlS _ dg.val (noB fl (mateR b)) := o_g.sl
          have hs_hB_c_sG : Apt (fB c) (fS dg.val (noB fl (mateR b))) := apt_fS hs_hB_c_o_g
          have hs_hB_e_sG : Apt (fB e) (fS dg.val (noB fl (mateR b))) := apt_fS hs_hB_e_o_g
          have hs_hB_r_sG : Apt (fB r) (fS dg.val (noB fl (mateR b))) := apt_fS hs_hB_r_o_g
          have hs_o_u_sG : Apt (fO du.val) (fS dg.val (noB fl (mateR b))) := apt_fS hs_o_u_o_g
          refine ⟨(i + 1, dg, noB fl (mateR b), par b), hold_, ⟨hX, hB_c, by rw [e1]; exact hB_e, hB_r, o_u, sG, (sep_cons (sepa_cons (hs_hB_c_hB_e) (sepa_cons (hs_hB_c_hB_r) (sepa_cons (hs_hB_c_o_u) (sepa_cons (hs_hB_c_sG) sepa_nil)))) (sep_cons (sepa_cons (hs_hB_e_hB_r) (sepa_cons (hs_hB_e_o_u) (sepa_cons (hs_hB_e_sG) sepa_nil))) (sep_cons (sepa_cons (hs_hB_r_o_u) (sepa_cons (hs_hB_r_sG) sepa_nil)) (sep_cons (sepa_cons (hs_o_u_sG) sepa_nil) (sep_cons sepa_nil sep_nil))))), by dsimp only; omega, hSI2, ?_, by dsimp only; omega, ?_⟩, by dsimp only; omega⟩
          · show (2 : Int) ^ (i + 1) ≤ 2 * b.size
            rw [Int.pow_succ]; omega
          · dsimp only
            rw [hmg, hrr, mergeF, if_pos ⟨hlt, hmem⟩, show 31 - (i + 1) = rr by omega]
      · skip
        have hnm : ¬ (b.size < W ∧ mateR b ∈ fl) := fun hh => h5 ⟨hlt, hi1.2 hh.2⟩
        rw [mergeF_stop hnm] at hmg
        refine go_ (hq := ?_)
        have sE : SlE _ dfx.val fl := sS
        refine call_ (hc := withBlockO_spec sE b (by omega)) (h := ?_)
        rintro vg H46 ⟨n_46, hE46⟩
        have hs_hB_c_o_g : Apt (fB c) (fO vg) := Apt.new hB_c.old (Own.frs n_46 (Nat.le_refl _))
        have hs_hB_e_o_g : Apt (fB e) (fO vg) := Apt.new hB_e.old (Own.frs n_46 (Nat.le_refl _))
        have hs_hB_r_o_g : Apt (fB r) (fO vg) := Apt.new hB_r.old (Own.frs n_46 (Nat.le_refl _))
        have hs_o_u_o_g : Apt (fO du.val) (fO vg) := Apt.new o_u.old (Own.frs n_46 (Nat.le_refl _))
        have hs_sS_o_g : Apt (fS dfx.val fl) (fO vg) := Apt.new sS.old (Own.frs n_46 (Nat.le_refl _))
        have hf_o_g : Frs H (fO vg) := Frs.mono (Own.frs n_46 (Nat.le_refl _)) hXs
        have o_g := n_46.mono hXs
        replace hX := hX.trans hE46
        replace hXs := hX.size
        replace hB_c := hB_c.ext hE46
        replace hB_e := hB_e.ext hE46
        replace hB_r := hB_r.ext hE46
        replace o_u := o_u.ext hE46
        replace sS := sS.ext hE46
        simp only [put]
        obtain ⟨dg, rfl⟩ := o_g.sl.hdrOf
        refine go_ (hq := ?_)
        refine storef_ 2 hB_c (h := fun H49 hM49 hsz49 hB_c => ?_)
        replace hX := hX.mut hM49 hf_hB_c
        replace hXs := hX.size
        replace hB_e := hB_e.mutF hM49 hs_hB_c_hB_e
        replace hB_r := hB_r.mutF hM49 hs_hB_c_hB_r
        replace o_u := o_u.mutF hM49 hs_hB_c_o_u
        replace sS := sS.mutF hM49 hs_hB_c_sS
        replace o_g := o_g.mutF hM49 hs_hB_c_o_g
        refine go_ (hq := ?_)
        refine store_ hB_r (h := fun H51 hM51 hsz51 hB_r => ?_)
        replace hX := hX.mut hM51 hf_hB_r
        replace hXs := hX.size
        replace hB_c := hB_c.mutF hM51 (hs_hB_c_hB_r.symm)
        replace hB_e := hB_e.mutF hM51 (hs_hB_e_hB_r.symm)
        replace o_u := o_u.mutF hM51 hs_hB_r_o_u
        replace sS := sS.mutF hM51 hs_hB_r_sS
        replace o_g := o_g.mutF hM51 hs_hB_r_o_g
        refine go_ (hq := ?_)
        refine retc_ hB_r (h := ?_)
        rw [hmg]
        exact ⟨⟨du, dg, rfl, o_u.sl, o_g.sl⟩, hX⟩
    · skip
      have hnm : ¬ (b.size < W ∧ mateR b ∈ fl) := fun hh => hlt hh.1
      rw [mergeF_stop hnm] at hmg
      have hgd : (decide (b.size < W) == true) = false := by rw [decide_eq_false hlt]; rfl
      refine skipg_ (mateR b).val hgd (h := ?_)
      refine go_ (hq := ?_)
      refine skipg_ (.int .i64 (-1)) hgd (h := ?_)
      refine go_ (hq := ?_)
      refine if_ (ht := fun h5 => ?_) (hf := fun h5 => ?_)
      · exact absurd h5.1 hlt
      · skip
        refine go_ (hq := ?_)
        have sE : SlE _ dfx.val fl := sS
        refine call_ (hc := withBlockO_spec sE b (by omega)) (h := ?_)
        rintro vg H57 ⟨n_57, hE57⟩
        have hs_hB_c_o_g : Apt (fB c) (fO vg) := Apt.new hB_c.old (Own.frs n_57 (Nat.le_refl _))
        have hs_hB_e_o_g : Apt (fB e) (fO vg) := Apt.new hB_e.old (Own.frs n_57 (Nat.le_refl _))
        have hs_hB_r_o_g : Apt (fB r) (fO vg) := Apt.new hB_r.old (Own.frs n_57 (Nat.le_refl _))
        have hs_o_u_o_g : Apt (fO du.val) (fO vg) := Apt.new o_u.old (Own.frs n_57 (Nat.le_refl _))
        have hs_sS_o_g : Apt (fS dfx.val fl) (fO vg) := Apt.new sS.old (Own.frs n_57 (Nat.le_refl _))
        have hf_o_g : Frs H (fO vg) := Frs.mono (Own.frs n_57 (Nat.le_refl _)) hXs
        have o_g := n_57.mono hXs
        replace hX := hX.trans hE57
        replace hXs := hX.size
        replace hB_c := hB_c.ext hE57
        replace hB_e := hB_e.ext hE57
        replace hB_r := hB_r.ext hE57
        replace o_u := o_u.ext hE57
        replace sS := sS.ext hE57
        simp only [put]
        obtain ⟨dg, rfl⟩ := o_g.sl.hdrOf
        refine go_ (hq := ?_)
        refine storef_ 2 hB_c (h := fun H60 hM60 hsz60 hB_c => ?_)
        replace hX := hX.mut hM60 hf_hB_c
        replace hXs := hX.size
        replace hB_e := hB_e.mutF hM60 hs_hB_c_hB_e
        replace hB_r := hB_r.mutF hM60 hs_hB_c_hB_r
        replace o_u := o_u.mutF hM60 hs_hB_c_o_u
        replace sS := sS.mutF hM60 hs_hB_c_sS
        replace o_g := o_g.mutF hM60 hs_hB_c_o_g
        refine go_ (hq := ?_)
        refine store_ hB_r (h := fun H62 hM62 hsz62 hB_r => ?_)
        replace hX := hX.mut hM62 hf_hB_r
        replace hXs := hX.size
        replace hB_c := hB_c.mutF hM62 (hs_hB_c_hB_r.symm)
        replace hB_e := hB_e.mutF hM62 (hs_hB_e_hB_r.symm)
        replace o_u := o_u.mutF hM62 hs_hB_r_o_u
        replace sS := sS.mutF hM62 hs_hB_r_sS
        replace o_g := o_g.mutF hM62 hs_hB_r_o_g
        refine go_ (hq := ?_)
        refine retc_ hB_r (h := ?_)
        rw [hmg]
        exact ⟨⟨du, dg, rfl, o_u.sl, o_g.sl⟩, hX⟩
end Go.Proofs.Ytpkigjlnbfgjcaa
