/- Give. -/
import Derived.Test.YtpkigjlnbfgjcaaUC
namespace Go.Proofs.Ytpkigjlnbfgjcaa
open Go.TM
open Go.TM.Cell (enc)
set_option maxRecDepth 20000
set_option maxHeartbeats 4000000
variable {H : Heap}
theorem low_ex {l : List BlockD} (h : Srt l) (st : Int) : ∃ lb, lb ≤ l.length ∧ ∀ i, i < l.length → ((l.getD i default).start < st ↔ i < lb) := by
  induction l with
  | nil => exact ⟨0, Nat.le_refl _, fun i hi => by simp at hi⟩
  | cons x l ih =>
    obtain ⟨h1, h2⟩ := List.pairwise_cons.1 h
    by_cases hlt : x.start < st
    · obtain ⟨lb, h3, h4⟩ := ih h2
      refine ⟨lb + 1, by simp; omega, fun i hi => ?_⟩
      cases i with
      | zero => simp; omega
      | succ i =>
        rw [List.getD_cons_succ, h4 i (by simpa using hi)]
        omega
    · refine ⟨0, Nat.zero_le _, fun i hi => ?_⟩
      cases i with
      | zero => simp; omega
      | succ i =>
        have hi' : i < l.length := by simpa using hi
        have hm : l.getD i default ∈ l := by rw [List.getD_eq_getElem?_getD, List.getElem?_eq_getElem hi']; exact List.getElem_mem _
        have := h1 _ hm
        rw [List.getD_cons_succ]
        omega
theorem mergeF_stop {W : Int} {f : List BlockD} {b : BlockD} (h : ¬ (b.size < W ∧ mateR b ∈ f)) : ∀ k, mergeF k W f b = (f, b)
  | 0 => rfl
  | k + 1 => by rw [mergeF, if_neg h]
theorem give_spec {hu hf : Hdr} {s : SpD} (st : Int) (h1 : SlE H hu.val s.used) (h2 : SlE H hf.val s.free) (hb : R64x s.bits) (hn : s.used.length ≤ 1000000 ∧ s.free.length ≤ 1000000) (hr : ∀ b ∈ s.used ++ s.free, BR b) :
    CallsH PG 27 #[SpV s.bits hu hf, .int .i64 st] H fun v H' => ∃ sv, v = .tuple #[sv, (giveV s st).2.val] ∧ SpOwn H' H.size sv (giveV s st).1 ∧ Ext H H' := by
  have h10 := h1
  have h20 := h2
  have hX := Ext.refl H
  have hXs := hX.size
  refine callsH_of_W (args := [SpV s.bits hu hf, .int .i64 st]) (ρ₀ := (upd (upd (fun _ => undef) 1 (.int .i64 st)) 0 (SpV s.bits hu hf))) rfl Try.func27 rfl (by kernel_rfl) ?_
  refine go_ (hq := ?_)
  refine box_ (h := fun c H2 hE2 hge_c hB_c => ?_)
  have hf_hB_c : Frs H (fB c) := Frs.mono (Frs.blk hge_c) hXs
  replace hX := hX.trans hE2
  replace hXs := hX.size
  replace h1 := h10.ext hX
  replace h2 := h20.ext hX
  refine go_ (hq := ?_)
  refine st_alloc fun r H4 hE4 hge_r hB_r => ?_
  have hs_hB_c_hB_r : Apt (fB c) (fB r) := Apt.new hB_c.old (Frs.blk hge_r)
  have hf_hB_r : Frs H (fB r) := Frs.mono (Frs.blk hge_r) hXs
  replace hX := hX.trans hE4
  replace hXs := hX.size
  replace h1 := h10.ext hX
  replace h2 := h20.ext hX
  replace hB_c := hB_c.ext hE4
  refine go_ (hq := ?_)
  refine st_alloc fun f H6 hE6 hge_f hB_f => ?_
  have hs_hB_c_hB_f : Apt (fB c) (fB f) := Apt.new hB_c.old (Frs.blk hge_f)
  have hs_hB_r_hB_f : Apt (fB r) (fB f) := Apt.new hB_r.old (Frs.blk hge_f)
  have hf_hB_f : Frs H (fB f) := Frs.mono (Frs.blk hge_f) hXs
  replace hX := hX.trans hE6
  replace hXs := hX.size
  replace h1 := h10.ext hX
  replace h2 := h20.ext hX
  replace hB_c := hB_c.ext hE6
  replace hB_r := hB_r.ext hE6
  refine go_ (hq := ?_)
  refine call_ (hc := bcheck_spec h1 h2 hb hn hr) (h := ?_)
  rintro v8 H8 ⟨rfl, hE8⟩
  replace hX := hX.trans hE8
  replace hXs := hX.size
  replace h1 := h10.ext hX
  replace h2 := h20.ext hX
  replace hB_c := hB_c.ext hE8
  replace hB_r := hB_r.ext hE8
  replace hB_f := hB_f.ext hE8
  simp only [put]
  refine go_ (hq := ?_)
  refine st_alloc fun g H10 hE10 hge_g hB_g => ?_
  have hs_hB_c_hB_g : Apt (fB c) (fB g) := Apt.new hB_c.old (Frs.blk hge_g)
  have hs_hB_r_hB_g : Apt (fB r) (fB g) := Apt.new hB_r.old (Frs.blk hge_g)
  have hs_hB_f_hB_g : Apt (fB f) (fB g) := Apt.new hB_f.old (Frs.blk hge_g)
  have hf_hB_g : Frs H (fB g) := Frs.mono (Frs.blk hge_g) hXs
  replace hX := hX.trans hE10
  replace hXs := hX.size
  replace h1 := h10.ext hX
  replace h2 := h20.ext hX
  replace hB_c := hB_c.ext hE10
  replace hB_r := hB_r.ext hE10
  replace hB_f := hB_f.ext hE10
  refine go_ (hq := ?_)
  refine store_ hB_g (h := fun H12 hM12 hsz12 hB_g => ?_)
  replace hX := hX.mut hM12 hf_hB_g
  replace hXs := hX.size
  replace h1 := h10.ext hX
  replace h2 := h20.ext hX
  replace hB_c := hB_c.mutF hM12 (hs_hB_c_hB_g.symm)
  replace hB_r := hB_r.mutF hM12 (hs_hB_r_hB_g.symm)
  replace hB_f := hB_f.mutF hM12 (hs_hB_f_hB_g.symm)
  refine go_ (hq := ?_)
  refine if_ (ht := fun h => ?_) (hf := fun h => ?_)
  · skip
    have hv : giveV s st = (sp0, faultR s) := by rw [giveV, if_pos h]
    refine go_ (hq := ?_)
    refine drawt_ mixed [2, 3] (.seg 0 [0] (.alt 1 (.seg 2 [2, 3] .nil) (.altw 2 (.seg 1 [1, 3] .nil) (.stop)))) (h := ?_)
    refine wseg_ (h := ?_)
    refine go_ (hq := ?_)
    refine walt_ (h := ?_) (hr := waltw_ (h := ?_) (hr := wstop_))
    · skip
      refine go_ (hq := ?_)
      refine wseg_ (h := ?_)
      refine go_ (hq := ?_)
      refine store_ hB_r (h := fun H19 hM19 hsz19 hB_r => ?_)
      replace hX := hX.mut hM19 hf_hB_r
      replace hXs := hX.size
      replace h1 := h10.ext hX
      replace h2 := h20.ext hX
      replace hB_c := hB_c.mutF hM19 (hs_hB_c_hB_r.symm)
      replace hB_f := hB_f.mutF hM19 hs_hB_r_hB_f
      replace hB_g := hB_g.mutF hM19 hs_hB_r_hB_g
      refine go_ (hq := ?_)
      refine store_ hB_f (h := fun H21 hM21 hsz21 hB_f => ?_)
      replace hX := hX.mut hM21 hf_hB_f
      replace hXs := hX.size
      replace h1 := h10.ext hX
      replace h2 := h20.ext hX
      replace hB_c := hB_c.mutF hM21 (hs_hB_c_hB_f.symm)
      replace hB_r := hB_r.mutF hM21 (hs_hB_r_hB_f.symm)
      replace hB_g := hB_g.mutF hM21 hs_hB_f_hB_g
      refine go_ (hq := ?_)
      refine wnil_ ?_
      refine go_ (hq := ?_)
      refine retQ_ret (.manyV (rs := [_, _]) (vs := [_, _]) rfl (by simp) (rvc_ hB_r (h := rvc_ hB_f (h := rvn_)))) ?_
      rw [hv]
      exact ⟨_, rfl, sp0_own _ _, hX⟩
    · skip
      refine store_ hB_r (h := fun H24 hM24 hsz24 hB_r => ?_)
      replace hX := hX.mut hM24 hf_hB_r
      replace hXs := hX.size
      replace h1 := h10.ext hX
      replace h2 := h20.ext hX
      replace hB_c := hB_c.mutF hM24 (hs_hB_c_hB_r.symm)
      replace hB_f := hB_f.mutF hM24 hs_hB_r_hB_f
      replace hB_g := hB_g.mutF hM24 hs_hB_r_hB_g
      refine go_ (hq := ?_)
      refine wseg_ (h := ?_)
      refine go_ (hq := ?_)
      refine store_ hB_f (h := fun H27 hM27 hsz27 hB_f => ?_)
      replace hX := hX.mut hM27 hf_hB_f
      replace hXs := hX.size
      replace h1 := h10.ext hX
      replace h2 := h20.ext hX
      replace hB_c := hB_c.mutF hM27 (hs_hB_c_hB_f.symm)
      replace hB_r := hB_r.mutF hM27 (hs_hB_r_hB_f.symm)
      replace hB_g := hB_g.mutF hM27 hs_hB_f_hB_g
      refine go_ (hq := ?_)
      refine wnil_ ?_
      refine go_ (hq := ?_)
      refine retQ_ret (.manyV (rs := [_, _]) (vs := [_, _]) rfl (by simp) (rvc_ hB_r (h := rvc_ hB_f (h := rvn_)))) ?_
      rw [hv]
      exact ⟨_, rfl, sp0_own _ _, hX⟩
  · skip
    obtain ⟨W, hVS⟩ : ∃ W, VS s W := ⟨_, (faultR_zero s).1 (Decidable.not_not.1 h)⟩
    obtain ⟨hw1, hw2⟩ := hVS.w
    have hbb := hVS.hb
    have hsh : shlI 1 s.bits = W := by rw [shlI_one (by omega), hVS.hW]
    have hlen := hVS.len
    obtain ⟨lb, hlb, hls⟩ := low_ex hVS.su st
    refine go_ (hq := ?_)
    refine call_ (hc := search_spec h1 (⟨st, 0⟩ : BlockD) lb hlb hls (by omega)) (h := ?_)
    rintro v31 H31 ⟨rfl, hE31⟩
    replace hX := hX.trans hE31
    replace hXs := hX.size
    replace h1 := h10.ext hX
    replace h2 := h20.ext hX
    replace hB_c := hB_c.ext hE31
    replace hB_r := hB_r.ext hE31
    replace hB_f := hB_f.ext hE31
    replace hB_g := hB_g.ext hE31
    simp only [put]
    refine go_ (hq := ?_)
    refine if_ (ht := fun hok => ?_) (hf := fun hok => ?_)
    · skip
      have hnone : ixS s.used st = none := ixS_none fun i hi he => by
        have h3 := hls i hi
        have h4 : ¬ i < lb := fun hh => by have := h3.2 hh; omega
        apply hok
        have h5 : lb < s.used.length := by omega
        refine ⟨h5, ?_⟩
        rcases Nat.lt_or_ge lb i with h6 | h6
        · have h7 := srt_getD hVS.su h6 hi
          have h8 := hls lb h5
          omega
        · have : i = lb := by omega
          rw [← this]; exact he
      have hv : giveV s st = (sp0, ⟨6, 0⟩) := by rw [giveV, if_neg h, hnone]
      refine go_ (hq := ?_)
      refine call_ (hc := bfault_spec _ _) (h := ?_)
      rintro v35 H35 ⟨rfl, hE35⟩
      replace hX := hX.trans hE35
      replace hXs := hX.size
      replace h1 := h10.ext hX
      replace h2 := h20.ext hX
      replace hB_c := hB_c.ext hE35
      replace hB_r := hB_r.ext hE35
      replace hB_f := hB_f.ext hE35
      replace hB_g := hB_g.ext hE35
      simp only [put]
      refine go_ (hq := ?_)
      refine store_ hB_r (h := fun H37 hM37 hsz37 hB_r => ?_)
      replace hX := hX.mut hM37 hf_hB_r
      replace hXs := hX.size
      replace h1 := h10.ext hX
      replace h2 := h20.ext hX
      replace hB_c := hB_c.mutF hM37 (hs_hB_c_hB_r.symm)
      replace hB_f := hB_f.mutF hM37 hs_hB_r_hB_f
      replace hB_g := hB_g.mutF hM37 hs_hB_r_hB_g
      refine go_ (hq := ?_)
      refine store_ hB_f (h := fun H39 hM39 hsz39 hB_f => ?_)
      replace hX := hX.mut hM39 hf_hB_f
      replace hXs := hX.size
      replace h1 := h10.ext hX
      replace h2 := h20.ext hX
      replace hB_c := hB_c.mutF hM39 (hs_hB_c_hB_f.symm)
      replace hB_r := hB_r.mutF hM39 (hs_hB_r_hB_f.symm)
      replace hB_g := hB_g.mutF hM39 hs_hB_f_hB_g
      refine go_ (hq := ?_)
      refine retQ_ret (.manyV (rs := [_, _]) (vs := [_, _]) rfl (by simp) (rvc_ hB_r (h := rvc_ hB_f (h := rvn_)))) ?_
      rw [hv]
      exact ⟨_, rfl, sp0_own _ _, hX⟩
    · skip
      have hok2 : lb < s.used.length ∧ (s.used.getD lb default).start = st := Decidable.not_not.1 hok
      obtain ⟨hlu, hst⟩ := hok2
      have hix := ixS_some hVS.su hlu hst
      obtain ⟨B, hB⟩ : ∃ B, B = s.used.getD lb default := ⟨_, rfl⟩
      have hBm : B ∈ s.used := by rw [hB, List.getD_eq_getElem?_getD, List.getElem?_eq_getElem hlu]; exact List.getElem_mem _
      have hv : giveV s st = (giveT s lb, ⟨0, 0⟩) := by rw [giveV, if_neg h, hix]
      have hT : giveT s lb = ⟨s.bits, noB s.used B, withB (mergeF 31 W s.free B).1 (mergeF 31 W s.free B).2⟩ := by rw [giveT, ← hB, ← hVS.hW]
      have hSI := SI.startU hVS hBm
      have hlenN := noB_length hVS.su hBm
      refine go_ (hq := ?_)
      refine call_ (hc := copied_spec h1 h2 hn) (h := ?_)
      rintro vc Hc ⟨du, df, rfl, nu, nf, hap, hEc⟩
      have hs_hB_c_o_u : Apt (fB c) (fO du.val) := Apt.new hB_c.old (Own.frs nu (Nat.le_refl _))
      have hs_hB_r_o_u : Apt (fB r) (fO du.val) := Apt.new hB_r.old (Own.frs nu (Nat.le_refl _))
      have hs_hB_f_o_u : Apt (fB f) (fO du.val) := Apt.new hB_f.old (Own.frs nu (Nat.le_refl _))
      have hs_hB_g_o_u : Apt (fB g) (fO du.val) := Apt.new hB_g.old (Own.frs nu (Nat.le_refl _))
      have hf_o_u : Frs H (fO du.val) := Frs.mono (Own.frs nu (Nat.le_refl _)) hXs
      have o_u := nu.mono hXs
      have hs_hB_c_o_f : Apt (fB c) (fO df.val) := Apt.new hB_c.old (Own.frs nf (Nat.le_refl _))
      have hs_hB_r_o_f : Apt (fB r) (fO df.val) := Apt.new hB_r.old (Own.frs nf (Nat.le_refl _))
      have hs_hB_f_o_f : Apt (fB f) (fO df.val) := Apt.new hB_f.old (Own.frs nf (Nat.le_refl _))
      have hs_hB_g_o_f : Apt (fB g) (fO df.val) := Apt.new hB_g.old (Own.frs nf (Nat.le_refl _))
      have hf_o_f : Frs H (fO df.val) := Frs.mono (Own.frs nf (Nat.le_refl _)) hXs
      have o_f := nf.mono hXs
      have hs_o_u_o_f := hap
      replace hX := hX.trans hEc
      replace hXs := hX.size
      replace h1 := h10.ext hX
      replace h2 := h20.ext hX
      replace hB_c := hB_c.ext hEc
      replace hB_r := hB_r.ext hEc
      replace hB_f := hB_f.ext hEc
      replace hB_g := hB_g.ext hEc
      simp only [put]
      refine go_ (hq := ?_)
      refine st_alloc fun d H46 hE46 hge_d hB_d => ?_
      have hs_hB_c_hB_d : Apt (fB c) (fB d) := Apt.new hB_c.old (Frs.blk hge_d)
      have hs_hB_r_hB_d : Apt (fB r) (fB d) := Apt.new hB_r.old (Frs.blk hge_d)
      have hs_hB_f_hB_d : Apt (fB f) (fB d) := Apt.new hB_f.old (Frs.blk hge_d)
      have hs_hB_g_hB_d : Apt (fB g) (fB d) := Apt.new hB_g.old (Frs.blk hge_d)
      have hs_o_u_hB_d : Apt (fO du.val) (fB d) := Apt.new o_u.old (Frs.blk hge_d)
      have hs_o_f_hB_d : Apt (fO df.val) (fB d) := Apt.new o_f.old (Frs.blk hge_d)
      have hf_hB_d : Frs H (fB d) := Frs.mono (Frs.blk hge_d) hXs
      replace hX := hX.trans hE46
      replace hXs := hX.size
      replace h1 := h10.ext hX
      replace h2 := h20.ext hX
      replace hB_c := hB_c.ext hE46
      replace hB_r := hB_r.ext hE46
      replace hB_f := hB_f.ext hE46
      replace hB_g := hB_g.ext hE46
      replace o_u := o_u.ext hE46
      replace o_f := o_f.ext hE46
      refine go_ (hq := ?_)
      refine store_ hB_d (h := fun H48 hM48 hsz48 hB_d => ?_)
      replace hX := hX.mut hM48 hf_hB_d
      replace hXs := hX.size
      replace h1 := h10.ext hX
      replace h2 := h20.ext hX
      replace hB_c := hB_c.mutF hM48 (hs_hB_c_hB_d.symm)
      replace hB_r := hB_r.mutF hM48 (hs_hB_r_hB_d.symm)
      replace hB_f := hB_f.mutF hM48 (hs_hB_f_hB_d.symm)
      replace hB_g := hB_g.mutF hM48 (hs_hB_g_hB_d.symm)
      replace o_u := o_u.mutF hM48 (hs_o_u_hB_d.symm)
      replace o_f := o_f.mutF hM48 (hs_o_f_hB_d.symm)
      refine go_ (hq := ?_)
      refine st_alloc fun e H50 hE50 hge_e hB_e => ?_
      have hs_hB_c_hB_e : Apt (fB c) (fB e) := Apt.new hB_c.old (Frs.blk hge_e)
      have hs_hB_r_hB_e : Apt (fB r) (fB e) := Apt.new hB_r.old (Frs.blk hge_e)
      have hs_hB_f_hB_e : Apt (fB f) (fB e) := Apt.new hB_f.old (Frs.blk hge_e)
      have hs_hB_g_hB_e : Apt (fB g) (fB e) := Apt.new hB_g.old (Frs.blk hge_e)
      have hs_o_u_hB_e : Apt (fO du.val) (fB e) := Apt.new o_u.old (Frs.blk hge_e)
      have hs_o_f_hB_e : Apt (fO df.val) (fB e) := Apt.new o_f.old (Frs.blk hge_e)
      have hs_hB_d_hB_e : Apt (fB d) (fB e) := Apt.new hB_d.old (Frs.blk hge_e)
      have hf_hB_e : Frs H (fB e) := Frs.mono (Frs.blk hge_e) hXs
      replace hX := hX.trans hE50
      replace hXs := hX.size
      replace h1 := h10.ext hX
      replace h2 := h20.ext hX
      replace hB_c := hB_c.ext hE50
      replace hB_r := hB_r.ext hE50
      replace hB_f := hB_f.ext hE50
      replace hB_g := hB_g.ext hE50
      replace o_u := o_u.ext hE50
      replace o_f := o_f.ext hE50
      replace hB_d := hB_d.ext hE50
      refine go_ (hq := ?_)
      refine store_ hB_e (h := fun H52 hM52 hsz52 hB_e => ?_)
      replace hX := hX.mut hM52 hf_hB_e
      replace hXs := hX.size
      replace h1 := h10.ext hX
      replace h2 := h20.ext hX
      replace hB_c := hB_c.mutF hM52 (hs_hB_c_hB_e.symm)
      replace hB_r := hB_r.mutF hM52 (hs_hB_r_hB_e.symm)
      replace hB_f := hB_f.mutF hM52 (hs_hB_f_hB_e.symm)
      replace hB_g := hB_g.mutF hM52 (hs_hB_g_hB_e.symm)
      replace o_u := o_u.mutF hM52 (hs_o_u_hB_e.symm)
      replace o_f := o_f.mutF hM52 (hs_o_f_hB_e.symm)
      replace hB_d := hB_d.mutF hM52 (hs_hB_d_hB_e.symm)
      refine go_ (hq := ?_)
      have hq_hB_c := hs_hB_c_o_u.symm
      have hq_hB_r := hs_hB_r_o_u.symm
      have hq_hB_f := hs_hB_f_o_u.symm
      have hq_hB_g := hs_hB_g_o_u.symm
      have hq_o_f := hs_o_u_o_f
      have hq_hB_d := hs_o_u_hB_d
      have hq_hB_e := hs_o_u_hB_e
      have hfq := hf_o_u
      refine call_ (hc := del_spec o_u hVS.su lb hlu (by omega)) (h := ?_)
      rintro w54 H54 ⟨n_54, hM54, hF54⟩
      obtain ⟨du1, rfl⟩ := n_54.sl.hdrOf
      replace hs_hB_c_o_u : Apt (fB c) (fO du1.val) := ((hs_hB_c_o_u.symm).app hF54 hB_c.old).symm
      replace hs_hB_r_o_u : Apt (fB r) (fO du1.val) := ((hs_hB_r_o_u.symm).app hF54 hB_r.old).symm
      replace hs_hB_f_o_u : Apt (fB f) (fO du1.val) := ((hs_hB_f_o_u.symm).app hF54 hB_f.old).symm
      replace hs_hB_g_o_u : Apt (fB g) (fO du1.val) := ((hs_hB_g_o_u.symm).app hF54 hB_g.old).symm
      replace hs_o_u_o_f : Apt (fO du1.val) (fO df.val) := Apt.app hs_o_u_o_f hF54 o_f.old
      replace hs_o_u_hB_d : Apt (fO du1.val) (fB d) := Apt.app hs_o_u_hB_d hF54 hB_d.old
      replace hs_o_u_hB_e : Apt (fO du1.val) (fB e) := Apt.app hs_o_u_hB_e hF54 hB_e.old
      replace hf_o_u : Frs H (fO du1.val) := Frs.app hf_o_u hF54 hXs
      replace hX := hX.mut hM54 hfq
      replace hXs := hX.size
      replace h1 := h10.ext hX
      replace h2 := h20.ext hX
      replace hB_c := hB_c.mutF hM54 hq_hB_c
      replace hB_r := hB_r.mutF hM54 hq_hB_r
      replace hB_f := hB_f.mutF hM54 hq_hB_f
      replace hB_g := hB_g.mutF hM54 hq_hB_g
      replace o_f := o_f.mutF hM54 hq_o_f
      replace hB_d := hB_d.mutF hM54 hq_hB_d
      replace hB_e := hB_e.mutF hM54 hq_hB_e
      replace o_u := n_54
      simp only [put]
      rw [← hB] at o_u
      refine go_ (hq := ?_)
      refine storef_ 1 hB_d (h := fun H56 hM56 hsz56 hB_d => ?_)
      replace hX := hX.mut hM56 hf_hB_d
      replace hXs := hX.size
      replace h1 := h10.ext hX
      replace h2 := h20.ext hX
      replace hB_c := hB_c.mutF hM56 (hs_hB_c_hB_d.symm)
      replace hB_r := hB_r.mutF hM56 (hs_hB_r_hB_d.symm)
      replace hB_f := hB_f.mutF hM56 (hs_hB_f_hB_d.symm)
      replace hB_g := hB_g.mutF hM56 (hs_hB_g_hB_d.symm)
      replace o_u := o_u.mutF hM56 (hs_o_u_hB_d.symm)
      replace o_f := o_f.mutF hM56 (hs_o_f_hB_d.symm)
      replace hB_e := hB_e.mutF hM56 hs_hB_d_hB_e
      refine go_ (hq := ?_)
      rw [← hB, show enc B = [Value.int .i64 B.start, .int .i64 B.size] from rfl] at hB_e
      refine W_loop (X := Nat × Hdr × List BlockD × BlockD) (fun x => [(2, .pointer (some ⟨c, 0, none⟩)), (4, .pointer (some ⟨r, 0, none⟩)), (5, .pointer (some ⟨f, 0, none⟩)), (9, .pointer (some ⟨d, 0, none⟩)), (10, .pointer (some ⟨e, 0, none⟩))])
        (fun x H' => Ext H H' ∧ Blk H' c 41 [.int .i64 s.bits, hu.val, hf.val] ∧ Blk H' r 41 [.int .i64 0, .slice none 0 0, .slice none 0 0] ∧ Blk H' f 28 [.int .i64 0, .int .i64 0] ∧ Blk H' d 41 [.int .i64 s.bits, du1.val, x.2.1.val] ∧ Blk H' e 51 [.int .i64 x.2.2.2.start, .int .i64 x.2.2.2.size] ∧ Own H' H.size 51 du1.val (noB s.used B) ∧ Own H' H.size 51 x.2.1.val x.2.2.1 ∧ SepL [fB c, fB r, fB f, fO du1.val, fO x.2.1.val, fB d, fB e] ∧ x.2.2.1.length ≤ s.free.length ∧ SI W (noB s.used B) x.2.2.1 x.2.2.2 ∧ (2 : Int) ^ x.1 ≤ x.2.2.2.size ∧ x.1 ≤ 31 ∧ mergeF 31 W s.free B = mergeF (31 - x.1) W x.2.2.1 x.2.2.2) (fun x => x.2.2.1.length) (0, df, s.free, B) ?_ ?_ ?_
      · exact hold_
      · have hp := hSI.alb.pos
        exact ⟨hX, hB_c, hB_r, hB_f, hB_d, hB_e, o_u, o_f, (sep_cons (sepa_cons (hs_hB_c_hB_r) (sepa_cons (hs_hB_c_hB_f) (sepa_cons (hs_hB_c_o_u) (sepa_cons (hs_hB_c_o_f) (sepa_cons (hs_hB_c_hB_d) (sepa_cons (hs_hB_c_hB_e) sepa_nil)))))) (sep_cons (sepa_cons (hs_hB_r_hB_f) (sepa_cons (hs_hB_r_o_u) (sepa_cons (hs_hB_r_o_f) (sepa_cons (hs_hB_r_hB_d) (sepa_cons (hs_hB_r_hB_e) sepa_nil))))) (sep_cons (sepa_cons (hs_hB_f_o_u) (sepa_cons (hs_hB_f_o_f) (sepa_cons (hs_hB_f_hB_d) (sepa_cons (hs_hB_f_hB_e) sepa_nil)))) (sep_cons (sepa_cons (hs_o_u_o_f) (sepa_cons (hs_o_u_hB_d) (sepa_cons (hs_o_u_hB_e) sepa_nil))) (sep_cons (sepa_cons (hs_o_f_hB_d) (sepa_cons (hs_o_f_hB_e) sepa_nil)) (sep_cons (sepa_cons (hs_hB_d_hB_e) sepa_nil) (sep_cons sepa_nil sep_nil))))))), Nat.le_refl _, hSI, by simp; omega, by simp, rfl⟩
      · clear hX h1 h2 hB_c hB_r hB_f hB_d hB_e o_u o_f hSI
        rintro u ⟨i, dfx, fl, b⟩ H' ⟨hX, hB_c, hB_r, hB_f, hB_d, hB_e, o_u, o_f, hS, hfl, hSI, hpi, hi31, hmg⟩
        dsimp only at hX hB_c hB_r hB_f hB_d hB_e o_u o_f hS hfl hSI hpi hi31 hmg ⊢
        have hXs := hX.size
        have hf_o_u : Frs H (fO du1.val) := o_u.frs (Nat.le_refl _)
        have hf_o_f : Frs H (fO dfx.val) := o_f.frs (Nat.le_refl _)
        obtain ⟨⟨hs_hB_c_hB_r, hs_hB_c_hB_f, hs_hB_c_o_u, hs_hB_c_o_f, hs_hB_c_hB_d, hs_hB_c_hB_e, -⟩, ⟨⟨hs_hB_r_hB_f, hs_hB_r_o_u, hs_hB_r_o_f, hs_hB_r_hB_d, hs_hB_r_hB_e, -⟩, ⟨⟨hs_hB_f_o_u, hs_hB_f_o_f, hs_hB_f_hB_d, hs_hB_f_hB_e, -⟩, ⟨⟨hs_o_u_o_f, hs_o_u_hB_d, hs_o_u_hB_e, -⟩, ⟨⟨hs_o_f_hB_d, hs_o_f_hB_e, -⟩, ⟨⟨hs_hB_d_hB_e, -⟩, ⟨⟨-⟩, -⟩⟩⟩⟩⟩⟩⟩ := hS
        have hp := hSI.alb.pos
        refine go_ (hq := ?_)
        refine draw_ mixed (Q := _) 0 [0,1,2,3,4,5] (h := ?_)
        refine go_ (hq := ?_)
        refine if_ (ht := fun hlt => ?_) (hf := fun hlt => ?_)
        · skip
          rw [hsh] at hlt
          have hi30 : i ≤ 30 := pow_le_pow_iff.1 (show (2 : Int) ^ i ≤ 2 ^ 30 by omega)
          obtain ⟨rr, hrr⟩ : ∃ rr, 31 - i = rr + 1 := ⟨30 - i, by omega⟩
          have hme : mateP b = mateR b := mate_eq hSI.alb hw2
          refine go_ (hq := ?_)
          refine draw_ mixed (Q := _) 0 [0,1,2,3,4,5] (h := ?_)
          refine go_ (hq := ?_)
          refine call_ (hc := mate_spec b) (h := ?_)
          rintro v65 H65 ⟨rfl, hE65⟩
          replace hX := hX.trans hE65
          replace hXs := hX.size
          replace hB_c := hB_c.ext hE65
          replace hB_r := hB_r.ext hE65
          replace hB_f := hB_f.ext hE65
          replace o_u := o_u.ext hE65
          replace o_f := o_f.ext hE65
          replace hB_d := hB_d.ext hE65
          replace hB_e := hB_e.ext hE65
          simp only [put]
          rw [hme]
          refine go_ (hq := ?_)
          refine call_ (hc := index_spec o_f.sl (mateR b)) (h := ?_)
          rintro v67 H67 ⟨rfl, hE67⟩
          replace hX := hX.trans hE67
          replace hXs := hX.size
          replace hB_c := hB_c.ext hE67
          replace hB_r := hB_r.ext hE67
          replace hB_f := hB_f.ext hE67
          replace o_u := o_u.ext hE67
          replace o_f := o_f.ext hE67
          replace hB_d := hB_d.ext hE67
          replace hB_e := hB_e.ext hE67
          simp only [put]
          obtain ⟨hi1, hi2⟩ := ixFrom_nn (mateR b) fl 0
          refine go_ (hq := ?_)
          refine if_ (ht := fun hneg => ?_) (hf := fun hneg => ?_)
          · skip
            have hnm : ¬ (b.size < W ∧ mateR b ∈ fl) := fun hh => by have := hi1.2 hh.2; omega
            rw [mergeF_stop hnm] at hmg
            refine go_ (hq := ?_)
            refine xq_ne (id := 1) (id' := 0) (by decide) ?_
            refine go_ (hq := ?_)
            have hq_hB_c := hs_hB_c_o_f.symm
            have hq_hB_r := hs_hB_r_o_f.symm
            have hq_hB_f := hs_hB_f_o_f.symm
            have hq_o_u := hs_o_u_o_f.symm
            have hq_hB_d := hs_o_f_hB_d
            have hq_hB_e := hs_o_f_hB_e
            have hfq := hf_o_f
            refine call_ (hc := putS_spec o_f hSI.sf b hSI.ne.1 (by omega) (by omega)) (h := ?_)
            rintro w72 H72 ⟨n_72, hM72, hF72⟩
            obtain ⟨df3, rfl⟩ := n_72.sl.hdrOf
            replace hs_hB_c_o_f : Apt (fB c) (fO df3.val) := ((hs_hB_c_o_f.symm).app hF72 hB_c.old).symm
            replace hs_hB_r_o_f : Apt (fB r) (fO df3.val) := ((hs_hB_r_o_f.symm).app hF72 hB_r.old).symm
            replace hs_hB_f_o_f : Apt (fB f) (fO df3.val) := ((hs_hB_f_o_f.symm).app hF72 hB_f.old).symm
            replace hs_o_u_o_f : Apt (fO du1.val) (fO df3.val) := ((hs_o_u_o_f.symm).app hF72 o_u.old).symm
            replace hs_o_f_hB_d : Apt (fO df3.val) (fB d) := Apt.app hs_o_f_hB_d hF72 hB_d.old
            replace hs_o_f_hB_e : Apt (fO df3.val) (fB e) := Apt.app hs_o_f_hB_e hF72 hB_e.old
            replace hf_o_f : Frs H (fO df3.val) := Frs.app hf_o_f hF72 hXs
            replace hX := hX.mut hM72 hfq
            replace hXs := hX.size
            replace hB_c := hB_c.mutF hM72 hq_hB_c
            replace hB_r := hB_r.mutF hM72 hq_hB_r
            replace hB_f := hB_f.mutF hM72 hq_hB_f
            replace o_u := o_u.mutF hM72 hq_o_u
            replace hB_d := hB_d.mutF hM72 hq_hB_d
            replace hB_e := hB_e.mutF hM72 hq_hB_e
            replace o_f := n_72
            simp only [put]
            refine go_ (hq := ?_)
            refine storef_ 2 hB_d (h := fun H74 hM74 hsz74 hB_d => ?_)
            replace hX := hX.mut hM74 hf_hB_d
            replace hXs := hX.size
            replace hB_c := hB_c.mutF hM74 (hs_hB_c_hB_d.symm)
            replace hB_r := hB_r.mutF hM74 (hs_hB_r_hB_d.symm)
            replace hB_f := hB_f.mutF hM74 (hs_hB_f_hB_d.symm)
            replace o_u := o_u.mutF hM74 (hs_o_u_hB_d.symm)
            replace o_f := o_f.mutF hM74 (hs_o_f_hB_d.symm)
            replace hB_e := hB_e.mutF hM74 hs_hB_d_hB_e
            refine go_ (hq := ?_)
            refine store_ hB_r (h := fun H76 hM76 hsz76 hB_r => ?_)
            replace hX := hX.mut hM76 hf_hB_r
            replace hXs := hX.size
            replace hB_c := hB_c.mutF hM76 (hs_hB_c_hB_r.symm)
            replace hB_f := hB_f.mutF hM76 hs_hB_r_hB_f
            replace o_u := o_u.mutF hM76 hs_hB_r_o_u
            replace o_f := o_f.mutF hM76 hs_hB_r_o_f
            replace hB_d := hB_d.mutF hM76 hs_hB_r_hB_d
            replace hB_e := hB_e.mutF hM76 hs_hB_r_hB_e
            refine go_ (hq := ?_)
            refine store_ hB_f (h := fun H78 hM78 hsz78 hB_f => ?_)
            replace hX := hX.mut hM78 hf_hB_f
            replace hXs := hX.size
            replace hB_c := hB_c.mutF hM78 (hs_hB_c_hB_f.symm)
            replace hB_r := hB_r.mutF hM78 (hs_hB_r_hB_f.symm)
            replace o_u := o_u.mutF hM78 hs_hB_f_o_u
            replace o_f := o_f.mutF hM78 hs_hB_f_o_f
            replace hB_d := hB_d.mutF hM78 hs_hB_f_hB_d
            replace hB_e := hB_e.mutF hM78 hs_hB_f_hB_e
            refine go_ (hq := ?_)
            refine retQ_ret (.manyV (rs := [_, _]) (vs := [_, _]) rfl (by simp) (rvc_ hB_r (h := rvc_ hB_f (h := rvn_)))) ?_
            rw [hv, hT, hmg]
            exact ⟨_, rfl, ⟨du1, df3, rfl, o_u, o_f⟩, hX⟩
          · skip
            obtain ⟨kk, hkk⟩ : ∃ kk : Nat, ixFrom (mateR b) 0 fl = kk := ⟨(ixFrom (mateR b) 0 fl).toNat, by omega⟩
            rw [hkk] at hi1 hi2 ⊢
            have hmem : mateR b ∈ fl := hi1.1 (by omega)
            have hkl : kk < fl.length ∧ fl.getD kk default = mateR b := by
              rcases hi2 with h9 | ⟨_, h9, h10⟩
              · omega
              · refine ⟨by omega, ?_⟩
                rw [show ((kk : Int) - ((0 : Nat) : Int)).toNat = kk by omega] at h10; exact h10
            have hSI2 := SI.merge hVS.hW hSI hlt hmem
            have hlenF := noB_length hSI.sf hmem
            refine go_ (hq := ?_)
            have hq_hB_c := hs_hB_c_o_f.symm
            have hq_hB_r := hs_hB_r_o_f.symm
            have hq_hB_f := hs_hB_f_o_f.symm
            have hq_o_u := hs_o_u_o_f.symm
            have hq_hB_d := hs_o_f_hB_d
            have hq_hB_e := hs_o_f_hB_e
            have hfq := hf_o_f
            refine call_ (hc := del_spec o_f hSI.sf kk hkl.1 (by omega)) (h := ?_)
            rintro w81 H81 ⟨n_81, hM81, hF81⟩
            obtain ⟨df2, rfl⟩ := n_81.sl.hdrOf
            replace hs_hB_c_o_f : Apt (fB c) (fO df2.val) := ((hs_hB_c_o_f.symm).app hF81 hB_c.old).symm
            replace hs_hB_r_o_f : Apt (fB r) (fO df2.val) := ((hs_hB_r_o_f.symm).app hF81 hB_r.old).symm
            replace hs_hB_f_o_f : Apt (fB f) (fO df2.val) := ((hs_hB_f_o_f.symm).app hF81 hB_f.old).symm
            replace hs_o_u_o_f : Apt (fO du1.val) (fO df2.val) := ((hs_o_u_o_f.symm).app hF81 o_u.old).symm
            replace hs_o_f_hB_d : Apt (fO df2.val) (fB d) := Apt.app hs_o_f_hB_d hF81 hB_d.old
            replace hs_o_f_hB_e : Apt (fO df2.val) (fB e) := Apt.app hs_o_f_hB_e hF81 hB_e.old
            replace hf_o_f : Frs H (fO df2.val) := Frs.app hf_o_f hF81 hXs
            replace hX := hX.mut hM81 hfq
            replace hXs := hX.size
            replace hB_c := hB_c.mutF hM81 hq_hB_c
            replace hB_r := hB_r.mutF hM81 hq_hB_r
            replace hB_f := hB_f.mutF hM81 hq_hB_f
            replace o_u := o_u.mutF hM81 hq_o_u
            replace hB_d := hB_d.mutF hM81 hq_hB_d
            replace hB_e := hB_e.mutF hM81 hq_hB_e
            replace o_f := n_81
            simp only [put]
            rw [hkl.2] at o_f
            refine go_ (hq := ?_)
            refine storef_ 2 hB_d (h := fun H83 hM83 hsz83 hB_d => ?_)
            replace hX := hX.mut hM83 hf_hB_d
            replace hXs := hX.size
            replace hB_c := hB_c.mutF hM83 (hs_hB_c_hB_d.symm)
            replace hB_r := hB_r.mutF hM83 (hs_hB_r_hB_d.symm)
            replace hB_f := hB_f.mutF hM83 (hs_hB_f_hB_d.symm)
            replace o_u := o_u.mutF hM83 (hs_o_u_hB_d.symm)
            replace o_f := o_f.mutF hM83 (hs_o_f_hB_d.symm)
            replace hB_e := hB_e.mutF hM83 hs_hB_d_hB_e
            refine go_ (hq := ?_)
            refine draw_ mixed (Q := _) 1 [0,1,2,6,7,8,3,4,5,9,10] (h := ?_)
            refine go_ (hq := ?_)
            refine call_ (hc := mate_spec b) (h := ?_)
            rintro v87 H87 ⟨rfl, hE87⟩
            replace hX := hX.trans hE87
            replace hXs := hX.size
            replace hB_c := hB_c.ext hE87
            replace hB_r := hB_r.ext hE87
            replace hB_f := hB_f.ext hE87
            replace o_u := o_u.ext hE87
            replace o_f := o_f.ext hE87
            replace hB_d := hB_d.ext hE87
            replace hB_e := hB_e.ext hE87
            simp only [put]
            rw [hme]
            refine go_ (hq := ?_)
            refine store_ hB_e (h := fun H89 hM89 hsz89 hB_e => ?_)
            replace hX := hX.mut hM89 hf_hB_e
            replace hXs := hX.size
            replace hB_c := hB_c.mutF hM89 (hs_hB_c_hB_e.symm)
            replace hB_r := hB_r.mutF hM89 (hs_hB_r_hB_e.symm)
            replace hB_f := hB_f.mutF hM89 (hs_hB_f_hB_e.symm)
            replace o_u := o_u.mutF hM89 (hs_o_u_hB_e.symm)
            replace o_f := o_f.mutF hM89 (hs_o_f_hB_e.symm)
            replace hB_d := hB_d.mutF hM89 (hs_hB_d_hB_e.symm)
            refine go_ (hq := ?_)
            refine ⟨(i + 1, df2, noB fl (mateR b), par b), hold_, ⟨hX, hB_c, hB_r, hB_f, hB_d, hB_e, o_u, o_f, (sep_cons (sepa_cons (hs_hB_c_hB_r) (sepa_cons (hs_hB_c_hB_f) (sepa_cons (hs_hB_c_o_u) (sepa_cons (hs_hB_c_o_f) (sepa_cons (hs_hB_c_hB_d) (sepa_cons (hs_hB_c_hB_e) sepa_nil)))))) (sep_cons (sepa_cons (hs_hB_r_hB_f) (sepa_cons (hs_hB_r_o_u) (sepa_cons (hs_hB_r_o_f) (sepa_cons (hs_hB_r_hB_d) (sepa_cons (hs_hB_r_hB_e) sepa_nil))))) (sep_cons (sepa_cons (hs_hB_f_o_u) (sepa_cons (hs_hB_f_o_f) (sepa_cons (hs_hB_f_hB_d) (sepa_cons (hs_hB_f_hB_e) sepa_nil)))) (sep_cons (sepa_cons (hs_o_u_o_f) (sepa_cons (hs_o_u_hB_d) (sepa_cons (hs_o_u_hB_e) sepa_nil))) (sep_cons (sepa_cons (hs_o_f_hB_d) (sepa_cons (hs_o_f_hB_e) sepa_nil)) (sep_cons (sepa_cons (hs_hB_d_hB_e) sepa_nil) (sep_cons sepa_nil sep_nil))))))), by dsimp only; omega, hSI2, ?_, by dsimp only; omega, ?_⟩, by dsimp only; omega⟩
            · show (2 : Int) ^ (i + 1) ≤ 2 * b.size
              rw [Int.pow_succ]; omega
            · dsimp only
              rw [hmg, hrr, mergeF, if_pos ⟨hlt, hmem⟩, show 31 - (i + 1) = rr by omega]
        · skip
          rw [hsh] at hlt
          have hnm : ¬ (b.size < W ∧ mateR b ∈ fl) := fun hh => hlt hh.1
          rw [mergeF_stop hnm] at hmg
          refine go_ (hq := ?_)
          have hq_hB_c := hs_hB_c_o_f.symm
          have hq_hB_r := hs_hB_r_o_f.symm
          have hq_hB_f := hs_hB_f_o_f.symm
          have hq_o_u := hs_o_u_o_f.symm
          have hq_hB_d := hs_o_f_hB_d
          have hq_hB_e := hs_o_f_hB_e
          have hfq := hf_o_f
          refine call_ (hc := putS_spec o_f hSI.sf b hSI.ne.1 (by omega) (by omega)) (h := ?_)
          rintro w92 H92 ⟨n_92, hM92, hF92⟩
          obtain ⟨df3, rfl⟩ := n_92.sl.hdrOf
          replace hs_hB_c_o_f : Apt (fB c) (fO df3.val) := ((hs_hB_c_o_f.symm).app hF92 hB_c.old).symm
          replace hs_hB_r_o_f : Apt (fB r) (fO df3.val) := ((hs_hB_r_o_f.symm).app hF92 hB_r.old).symm
          replace hs_hB_f_o_f : Apt (fB f) (fO df3.val) := ((hs_hB_f_o_f.symm).app hF92 hB_f.old).symm
          replace hs_o_u_o_f : Apt (fO du1.val) (fO df3.val) := ((hs_o_u_o_f.symm).app hF92 o_u.old).symm
          replace hs_o_f_hB_d : Apt (fO df3.val) (fB d) := Apt.app hs_o_f_hB_d hF92 hB_d.old
          replace hs_o_f_hB_e : Apt (fO df3.val) (fB e) := Apt.app hs_o_f_hB_e hF92 hB_e.old
          replace hf_o_f : Frs H (fO df3.val) := Frs.app hf_o_f hF92 hXs
          replace hX := hX.mut hM92 hfq
          replace hXs := hX.size
          replace hB_c := hB_c.mutF hM92 hq_hB_c
          replace hB_r := hB_r.mutF hM92 hq_hB_r
          replace hB_f := hB_f.mutF hM92 hq_hB_f
          replace o_u := o_u.mutF hM92 hq_o_u
          replace hB_d := hB_d.mutF hM92 hq_hB_d
          replace hB_e := hB_e.mutF hM92 hq_hB_e
          replace o_f := n_92
          simp only [put]
          refine go_ (hq := ?_)
          refine storef_ 2 hB_d (h := fun H94 hM94 hsz94 hB_d => ?_)
          replace hX := hX.mut hM94 hf_hB_d
          replace hXs := hX.size
          replace hB_c := hB_c.mutF hM94 (hs_hB_c_hB_d.symm)
          replace hB_r := hB_r.mutF hM94 (hs_hB_r_hB_d.symm)
          replace hB_f := hB_f.mutF hM94 (hs_hB_f_hB_d.symm)
          replace o_u := o_u.mutF hM94 (hs_o_u_hB_d.symm)
          replace o_f := o_f.mutF hM94 (hs_o_f_hB_d.symm)
          replace hB_e := hB_e.mutF hM94 hs_hB_d_hB_e
          refine go_ (hq := ?_)
          refine store_ hB_r (h := fun H96 hM96 hsz96 hB_r => ?_)
          replace hX := hX.mut hM96 hf_hB_r
          replace hXs := hX.size
          replace hB_c := hB_c.mutF hM96 (hs_hB_c_hB_r.symm)
          replace hB_f := hB_f.mutF hM96 hs_hB_r_hB_f
          replace o_u := o_u.mutF hM96 hs_hB_r_o_u
          replace o_f := o_f.mutF hM96 hs_hB_r_o_f
          replace hB_d := hB_d.mutF hM96 hs_hB_r_hB_d
          replace hB_e := hB_e.mutF hM96 hs_hB_r_hB_e
          refine go_ (hq := ?_)
          refine store_ hB_f (h := fun H98 hM98 hsz98 hB_f => ?_)
          replace hX := hX.mut hM98 hf_hB_f
          replace hXs := hX.size
          replace hB_c := hB_c.mutF hM98 (hs_hB_c_hB_f.symm)
          replace hB_r := hB_r.mutF hM98 (hs_hB_r_hB_f.symm)
          replace o_u := o_u.mutF hM98 hs_hB_f_o_u
          replace o_f := o_f.mutF hM98 hs_hB_f_o_f
          replace hB_d := hB_d.mutF hM98 hs_hB_f_hB_d
          replace hB_e := hB_e.mutF hM98 hs_hB_f_hB_e
          refine go_ (hq := ?_)
          refine retQ_ret (.manyV (rs := [_, _]) (vs := [_, _]) rfl (by simp) (rvc_ hB_r (h := rvc_ hB_f (h := rvn_)))) ?_
          rw [hv, hT, hmg]
          exact ⟨_, rfl, ⟨du1, df3, rfl, o_u, o_f⟩, hX⟩
end Go.Proofs.Ytpkigjlnbfgjcaa
