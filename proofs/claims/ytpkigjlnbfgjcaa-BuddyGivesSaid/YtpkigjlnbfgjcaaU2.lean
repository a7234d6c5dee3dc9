/- Blocks of a space: copies, looking for a block, a list with one more or one less. -/
import Derived.Test.YtpkigjlnbfgjcaaU1
import Derived.Test.YtpkigjlnbfgjcaaBaseB
namespace Go.Proofs.Ytpkigjlnbfgjcaa
open Go.TM
open Go.TM.Cell (enc)
set_option maxRecDepth 20000
set_option maxHeartbeats 4000000
variable {H : Heap}
theorem ownBlocks_spec {a : Value} {xs : List BlockD} (ha : SlE H a xs) (hn : xs.length ≤ 1000000) : CallsH PG 44 #[a] H fun v H' => Own H' H.size 51 v xs ∧ Ext H H' := by
  have ha0 := ha
  have hX := Ext.refl H
  have hXs := hX.size
  refine callsH_of_W (args := [a]) (ρ₀ := (upd (fun _ => undef) 0 a)) rfl Try.func44 rfl (by kernel_rfl) ?_
  have o_m : Own H H.size 51 (.slice none 0 0) ([] : List BlockD) := Own.nil _ _ _
  have hf_o_m : Frs H (fO (.slice none 0 0)) := Frs.nil
  refine go_ (hq := ?_)
  refine append_ o_m ha (h := fun v H3 n_3 hM3 hF3 hN3 => ?_)
  have hfq := hf_o_m
  replace hf_o_m : Frs H (fO v) := Frs.app hf_o_m hF3 hXs
  replace hX := hX.mut hM3 hfq
  replace hXs := hX.size
  replace ha := ha0.ext hX
  replace o_m := n_3
  refine go_ (hq := ?_)
  refine ret1_ (h := ?_)
  exact ⟨o_m, hX⟩
theorem cloneB_spec {a : Value} {xs : List BlockD} (ha : SlE H a xs) (hn : xs.length ≤ 1000000) : CallsH PG 77 #[a] H fun v H' => Own H' H.size 51 v xs ∧ Ext H H' := by
  have ha0 := ha
  have hX := Ext.refl H
  have hXs := hX.size
  refine callsH_of_W (args := [a]) (ρ₀ := (upd (fun _ => undef) 0 a)) rfl Try.func77 rfl (by kernel_rfl) ?_
  refine go_ (hq := ?_)
  refine if_ (ht := fun h => ?_) (hf := fun h => ?_)
  · skip
    refine go_ (hq := ?_)
    refine ret1_ (h := ?_)
    have hx : xs = [] := by
      rcases ha.2 with ⟨_, h0⟩ | ⟨ad, cap, rfl, _⟩
      · exact List.eq_nil_of_length_eq_zero h0
      · cases h
    subst hx
    exact ⟨Own.nil _ _ _, hX⟩
  · skip
    refine go_ (hq := ?_)
    refine lit_ ([] : List BlockD) (h := fun ve H5 n_5 hE5 hN5 => ?_)
    have hf_o_e : Frs H (fO ve) := Frs.mono (Own.frs n_5 (Nat.le_refl _)) hXs
    have o_e := n_5.mono hXs
    replace hX := hX.trans hE5
    replace hXs := hX.size
    replace ha := ha0.ext hX
    refine go_ (hq := ?_)
    refine append_ o_e ha (h := fun v H7 n_7 hM7 hF7 hN7 => ?_)
    have hfq := hf_o_e
    replace hf_o_e : Frs H (fO v) := Frs.app hf_o_e hF7 hXs
    replace hX := hX.mut hM7 hfq
    replace hXs := hX.size
    replace ha := ha0.ext hX
    replace o_e := n_7
    refine go_ (hq := ?_)
    refine ret1_ (h := ?_)
    exact ⟨o_e, hX⟩
theorem ownSpace_spec {hu hf : Hdr} {s : SpD} (h1 : SlE H hu.val s.used) (h2 : SlE H hf.val s.free) (hn : s.used.length ≤ 1000000 ∧ s.free.length ≤ 1000000) :
    CallsH PG 20 #[SpV s.bits hu hf] H fun v H' => SpIs H' v s ∧ Ext H H' := by
  have h10 := h1
  have h20 := h2
  have hX := Ext.refl H
  have hXs := hX.size
  refine callsH_of_W (args := [SpV s.bits hu hf]) (ρ₀ := (upd (fun _ => undef) 0 (SpV s.bits hu hf))) rfl Try.func20 rfl (by kernel_rfl) ?_
  refine go_ (hq := ?_)
  refine box_ (h := fun c H2 hE2 hge_c hB_c => ?_)
  have hf_hB_c : Frs H (fB c) := Frs.mono (Frs.blk hge_c) hXs
  replace hX := hX.trans hE2
  replace hXs := hX.size
  replace h1 := h10.ext hX
  replace h2 := h20.ext hX
  refine go_ (hq := ?_)
  refine st_alloc fun r H4 hE4 hge_r hB_r => ?_
  have hs_hB_c_hB_r : Apt (fB c) (fB r) := Apt.new hB_c.old (Frs.blk hge_r)
  have hf_hB_r : Frs H (fB r) := Frs.mono (Frs.blk hge_r) hXs
  replace hX := hX.trans hE4
  replace hXs := hX.size
  replace h1 := h10.ext hX
  replace h2 := h20.ext hX
  replace hB_c := hB_c.ext hE4
  refine go_ (hq := ?_)
  refine draw_ mixed (Q := _) 1 [0,1,2,3,5,6,4,7,8,9] (h := ?_)
  refine go_ (hq := ?_)
  refine call_ (hc := ownBlocks_spec h1 hn.1) (h := ?_)
  rintro vu H8 ⟨n_8, hE8⟩
  have hs_hB_c_o_u : Apt (fB c) (fO vu) := Apt.new hB_c.old (Own.frs n_8 (Nat.le_refl _))
  have hs_hB_r_o_u : Apt (fB r) (fO vu) := Apt.new hB_r.old (Own.frs n_8 (Nat.le_refl _))
  have hf_o_u : Frs H (fO vu) := Frs.mono (Own.frs n_8 (Nat.le_refl _)) hXs
  have o_u := n_8.mono hXs
  replace hX := hX.trans hE8
  replace hXs := hX.size
  replace h1 := h10.ext hX
  replace h2 := h20.ext hX
  replace hB_c := hB_c.ext hE8
  replace hB_r := hB_r.ext hE8
  simp only [put]
  refine go_ (hq := ?_)
  refine call_ (hc := ownBlocks_spec h2 hn.2) (h := ?_)
  rintro vf H10 ⟨n_10, hE10⟩
  have hs_hB_c_o_f : Apt (fB c) (fO vf) := Apt.new hB_c.old (Own.frs n_10 (Nat.le_refl _))
  have hs_hB_r_o_f : Apt (fB r) (fO vf) := Apt.new hB_r.old (Own.frs n_10 (Nat.le_refl _))
  have hs_o_u_o_f : Apt (fO vu) (fO vf) := Apt.new o_u.old (Own.frs n_10 (Nat.le_refl _))
  have hf_o_f : Frs H (fO vf) := Frs.mono (Own.frs n_10 (Nat.le_refl _)) hXs
  have o_f := n_10.mono hXs
  replace hX := hX.trans hE10
  replace hXs := hX.size
  replace h1 := h10.ext hX
  replace h2 := h20.ext hX
  replace hB_c := hB_c.ext hE10
  replace hB_r := hB_r.ext hE10
  replace o_u := o_u.ext hE10
  simp only [put]
  obtain ⟨du, rfl⟩ := o_u.sl.hdrOf
  obtain ⟨df, rfl⟩ := o_f.sl.hdrOf
  refine go_ (hq := ?_)
  refine store_ hB_r (h := fun H14 hM14 hsz14 hB_r => ?_)
  replace hX := hX.mut hM14 hf_hB_r
  replace hXs := hX.size
  replace h1 := h10.ext hX
  replace h2 := h20.ext hX
  replace hB_c := hB_c.mutF hM14 (hs_hB_c_hB_r.symm)
  replace o_u := o_u.mutF hM14 hs_hB_r_o_u
  replace o_f := o_f.mutF hM14 hs_hB_r_o_f
  refine go_ (hq := ?_)
  refine retc_ hB_r (h := ?_)
  exact ⟨⟨du, df, rfl, o_u.sl, o_f.sl⟩, hX⟩
theorem copied_spec {hu hf : Hdr} {s : SpD} (h1 : SlE H hu.val s.used) (h2 : SlE H hf.val s.free) (hn : s.used.length ≤ 1000000 ∧ s.free.length ≤ 1000000) :
    CallsH PG 55 #[SpV s.bits hu hf] H fun v H' => ∃ du df : Hdr, v = SpV s.bits du df ∧ Own H' H.size 51 du.val s.used ∧ Own H' H.size 51 df.val s.free ∧ Apt (fO du.val) (fO df.val) ∧ Ext H H' := by
  have h10 := h1
  have h20 := h2
  have hX := Ext.refl H
  have hXs := hX.size
  refine callsH_of_W (args := [SpV s.bits hu hf]) (ρ₀ := (upd (fun _ => undef) 0 (SpV s.bits hu hf))) rfl Try.func55 rfl (by kernel_rfl) ?_
  refine go_ (hq := ?_)
  refine box_ (h := fun c H2 hE2 hge_c hB_c => ?_)
  have hf_hB_c : Frs H (fB c) := Frs.mono (Frs.blk hge_c) hXs
  replace hX := hX.trans hE2
  replace hXs := hX.size
  replace h1 := h10.ext hX
  replace h2 := h20.ext hX
  refine go_ (hq := ?_)
  refine st_alloc fun r H4 hE4 hge_r hB_r => ?_
  have hs_hB_c_hB_r : Apt (fB c) (fB r) := Apt.new hB_c.old (Frs.blk hge_r)
  have hf_hB_r : Frs H (fB r) := Frs.mono (Frs.blk hge_r) hXs
  replace hX := hX.trans hE4
  replace hXs := hX.size
  replace h1 := h10.ext hX
  replace h2 := h20.ext hX
  replace hB_c := hB_c.ext hE4
  refine go_ (hq := ?_)
  refine draw_ mixed (Q := _) 1 [0,1,2,3,5,6,4,7,8,9] (h := ?_)
  refine go_ (hq := ?_)
  refine call_ (hc := cloneB_spec h1 hn.1) (h := ?_)
  rintro vu H8 ⟨n_8, hE8⟩
  have hs_hB_c_o_u : Apt (fB c) (fO vu) := Apt.new hB_c.old (Own.frs n_8 (Nat.le_refl _))
  have hs_hB_r_o_u : Apt (fB r) (fO vu) := Apt.new hB_r.old (Own.frs n_8 (Nat.le_refl _))
  have hf_o_u : Frs H (fO vu) := Frs.mono (Own.frs n_8 (Nat.le_refl _)) hXs
  have o_u := n_8.mono hXs
  replace hX := hX.trans hE8
  replace hXs := hX.size
  replace h1 := h10.ext hX
  replace h2 := h20.ext hX
  replace hB_c := hB_c.ext hE8
  replace hB_r := hB_r.ext hE8
  simp only [put]
  refine go_ (hq := ?_)
  refine call_ (hc := cloneB_spec h2 hn.2) (h := ?_)
  rintro vf H10 ⟨n_10, hE10⟩
  have hs_hB_c_o_f : Apt (fB c) (fO vf) := Apt.new hB_c.old (Own.frs n_10 (Nat.le_refl _))
  have hs_hB_r_o_f : Apt (fB r) (fO vf) := Apt.new hB_r.old (Own.frs n_10 (Nat.le_refl _))
  have hs_o_u_o_f : Apt (fO vu) (fO vf) := Apt.new o_u.old (Own.frs n_10 (Nat.le_refl _))
  have hf_o_f : Frs H (fO vf) := Frs.mono (Own.frs n_10 (Nat.le_refl _)) hXs
  have o_f := n_10.mono hXs
  replace hX := hX.trans hE10
  replace hXs := hX.size
  replace h1 := h10.ext hX
  replace h2 := h20.ext hX
  replace hB_c := hB_c.ext hE10
  replace hB_r := hB_r.ext hE10
  replace o_u := o_u.ext hE10
  simp only [put]
  obtain ⟨du, rfl⟩ := o_u.sl.hdrOf
  obtain ⟨df, rfl⟩ := o_f.sl.hdrOf
  refine go_ (hq := ?_)
  refine store_ hB_r (h := fun H14 hM14 hsz14 hB_r => ?_)
  replace hX := hX.mut hM14 hf_hB_r
  replace hXs := hX.size
  replace h1 := h10.ext hX
  replace h2 := h20.ext hX
  replace hB_c := hB_c.mutF hM14 (hs_hB_c_hB_r.symm)
  replace o_u := o_u.mutF hM14 hs_hB_r_o_u
  replace o_f := o_f.mutF hM14 hs_hB_r_o_f
  refine go_ (hq := ?_)
  refine retc_ hB_r (h := ?_)
  exact ⟨du, df, rfl, o_u, o_f, hs_o_u_o_f, hX⟩
theorem vastSpace_spec {hu hf : Hdr} {s : SpD} (h1 : SlE H hu.val s.used) (h2 : SlE H hf.val s.free) (hn : s.used.length ≤ 1000000000000000 ∧ s.free.length ≤ 1000000000000000) :
    CallsH PG 19 #[SpV s.bits hu hf] H fun v H' => v = .bool (decide (6000 < s.used.length + s.free.length)) ∧ Ext H H' := by
  have h10 := h1
  have h20 := h2
  have hX := Ext.refl H
  have hXs := hX.size
  refine callsH_of_W (args := [SpV s.bits hu hf]) (ρ₀ := (upd (fun _ => undef) 0 (SpV s.bits hu hf))) rfl Try.func19 rfl (by kernel_rfl) ?_
  refine go_ (hq := ?_)
  refine box_ (h := fun c H2 hE2 hge_c hB_c => ?_)
  have hf_hB_c : Frs H (fB c) := Frs.mono (Frs.blk hge_c) hXs
  replace hX := hX.trans hE2
  replace hXs := hX.size
  replace h1 := h10.ext hX
  replace h2 := h20.ext hX
  refine go_ (hq := ?_)
  refine ret1_ (h := ?_)
  refine ⟨?_, hX⟩
  congr 1
  rw [decide_eq_decide]; omega
def newS (bits : Int) : SpD := ⟨bits, [], [⟨0, 2 ^ bits.toNat⟩]⟩
def newP (bits : Int) : SpD × FaultD := if bits < 0 ∨ 30 < bits then (⟨0, [], []⟩, ⟨3, -1⟩) else (newS bits, ⟨0, 0⟩)
theorem new_spec (bits : Int) : CallsH PG 23 #[.int .i64 bits] H fun v H' => ∃ sv, v = .tuple #[sv, (newP bits).2.val] ∧ SpIs H' sv (newP bits).1 ∧ Ext H H' := by
  have hX := Ext.refl H
  have hXs := hX.size
  refine callsH_of_W (args := [.int .i64 bits]) (ρ₀ := (upd (fun _ => undef) 0 (.int .i64 bits))) rfl Try.func23 rfl (by kernel_rfl) ?_
  refine go_ (hq := ?_)
  refine st_alloc fun r H2 hE2 hge_r hB_r => ?_
  have hf_hB_r : Frs H (fB r) := Frs.mono (Frs.blk hge_r) hXs
  replace hX := hX.trans hE2
  replace hXs := hX.size
  refine go_ (hq := ?_)
  refine st_alloc fun f H4 hE4 hge_f hB_f => ?_
  have hs_hB_r_hB_f : Apt (fB r) (fB f) := Apt.new hB_r.old (Frs.blk hge_f)
  have hf_hB_f : Frs H (fB f) := Frs.mono (Frs.blk hge_f) hXs
  replace hX := hX.trans hE4
  replace hXs := hX.size
  replace hB_r := hB_r.ext hE4
  refine go_ (hq := ?_)
  refine if_ (ht := fun h => ?_) (hf := fun h => ?_)
  · skip
    refine go_ (hq := ?_)
    refine call_ (hc := bfault_spec _ _) (h := ?_)
    rintro v8 H8 ⟨rfl, hE8⟩
    replace hX := hX.trans hE8
    replace hXs := hX.size
    replace hB_r := hB_r.ext hE8
    replace hB_f := hB_f.ext hE8
    simp only [put]
    refine go_ (hq := ?_)
    refine store_ hB_r (h := fun H10 hM10 hsz10 hB_r => ?_)
    replace hX := hX.mut hM10 hf_hB_r
    replace hXs := hX.size
    replace hB_f := hB_f.mutF hM10 hs_hB_r_hB_f
    refine go_ (hq := ?_)
    refine store_ hB_f (h := fun H12 hM12 hsz12 hB_f => ?_)
    replace hX := hX.mut hM12 hf_hB_f
    replace hXs := hX.size
    replace hB_r := hB_r.mutF hM12 (hs_hB_r_hB_f.symm)
    refine go_ (hq := ?_)
    refine retQ_ret (.manyV (rs := [_, _]) (vs := [_, _]) rfl (by simp) (rvc_ hB_r (h := rvc_ hB_f (h := rvn_)))) ?_
    have e : newP bits = (⟨0, [], []⟩, ⟨3, -1⟩) := by rw [newP, if_pos h]
    rw [e]
    exact ⟨_, rfl, ⟨⟨none, 0, 0⟩, ⟨none, 0, 0⟩, rfl, SlE.nil _, SlE.nil _⟩, hX⟩
  · skip
    have e : newP bits = (newS bits, ⟨0, 0⟩) := by rw [newP, if_neg h]
    rw [e]
    refine go_ (hq := ?_)
    rw [shlI_one (by omega)]
    refine lit_ [(⟨0, 2 ^ bits.toNat⟩ : BlockD)] (h := fun lv H15 n_15 hE15 hN15 => ?_)
    have hs_hB_r_o_l : Apt (fB r) (fO lv) := Apt.new hB_r.old (Own.frs n_15 (Nat.le_refl _))
    have hs_hB_f_o_l : Apt (fB f) (fO lv) := Apt.new hB_f.old (Own.frs n_15 (Nat.le_refl _))
    have hf_o_l : Frs H (fO lv) := Frs.mono (Own.frs n_15 (Nat.le_refl _)) hXs
    have o_l := n_15.mono hXs
    replace hX := hX.trans hE15
    replace hXs := hX.size
    replace hB_r := hB_r.ext hE15
    replace hB_f := hB_f.ext hE15
    obtain ⟨dl, rfl⟩ := o_l.sl.hdrOf
    refine go_ (hq := ?_)
    refine store_ hB_r (h := fun H18 hM18 hsz18 hB_r => ?_)
    replace hX := hX.mut hM18 hf_hB_r
    replace hXs := hX.size
    replace hB_f := hB_f.mutF hM18 hs_hB_r_hB_f
    replace o_l := o_l.mutF hM18 hs_hB_r_o_l
    refine go_ (hq := ?_)
    refine store_ hB_f (h := fun H20 hM20 hsz20 hB_f => ?_)
    replace hX := hX.mut hM20 hf_hB_f
    replace hXs := hX.size
    replace hB_r := hB_r.mutF hM20 (hs_hB_r_hB_f.symm)
    replace o_l := o_l.mutF hM20 hs_hB_f_o_l
    refine go_ (hq := ?_)
    refine retQ_ret (.manyV (rs := [_, _]) (vs := [_, _]) rfl (by simp) (rvc_ hB_r (h := rvc_ hB_f (h := rvn_)))) ?_
    exact ⟨_, rfl, ⟨⟨none, 0, 0⟩, dl, rfl, SlE.nil _, o_l.sl⟩, hX⟩
/-! ### Where a block is -/
def ixFrom (b : BlockD) : Nat → List BlockD → Int
  | _, [] => -1
  | k, x :: l => if x = b then k else ixFrom b (k + 1) l
theorem ixFrom_drop (b : BlockD) (l : List BlockD) (k : Nat) (hk : k < l.length) : ixFrom b k (l.drop k) = if l.getD k default = b then (k : Int) else ixFrom b (k + 1) (l.drop (k + 1)) := by
  rw [drop_getD default l k hk]; rfl
theorem findBlock_spec {a : Value} {l : List BlockD} (ha : SlE H a l) (b : BlockD) : CallsH PG 59 #[a, b.val] H fun v H' => v = .int .i64 (ixFrom b 0 l) ∧ Ext H H' := by
  have la := ha.len_le
  unfold maxLen at la
  have ha0 := ha
  have hX := Ext.refl H
  have hXs := hX.size
  refine callsH_of_W (args := [a, b.val]) (ρ₀ := (upd (upd (fun _ => undef) 1 (b.val)) 0 a)) rfl Try.func59 rfl (by kernel_rfl) ?_
  refine go_ (hq := ?_)
  refine box_ (h := fun c H2 hE2 hge_c hB_c => ?_)
  have hf_hB_c : Frs H (fB c) := Frs.mono (Frs.blk hge_c) hXs
  replace hX := hX.trans hE2
  replace hXs := hX.size
  replace ha := ha0.ext hX
  refine go_ (hq := ?_)
  refine W_loop (X := Nat) (fun k => [(0, a), (3, .pointer (some ⟨c, 0, none⟩)), (5, .int .i64 k)]) (fun k H' => Ext H H' ∧ Blk H' c 51 [.int .i64 b.start, .int .i64 b.size] ∧ k ≤ l.length ∧ ixFrom b 0 l = ixFrom b k (l.drop k)) (fun k => l.length - k) 0 ?_ ?_ ?_
  · exact hold_
  · exact ⟨hX, hB_c, Nat.zero_le _, rfl⟩
  · clear hX hB_c ha
    rintro u k H' ⟨hX, hB_c, hk, hall⟩
    have hXs := hX.size
    have ha := ha0.ext hX
    refine go_ (hq := ?_)
    refine if_ (ht := fun h2 => ?_) (hf := fun h2 => ?_)
    · skip
      rw [ixFrom_drop b l k (by omega)] at hall
      refine go_ (hq := ?_)
      refine draw_ mixed (Q := _) 0 [0,1,2,3,4,5] (h := ?_)
      refine go_ (hq := ?_)
      refine if_ (ht := fun h3 => ?_) (hf := fun h3 => ?_)
      · skip
        refine go_ (hq := ?_)
        refine ret1_ (h := ?_)
        try simp only [Int.toNat_natCast] at h3
        exact ⟨by rw [hall, if_pos (blk_ext h3.1 h3.2)], hX⟩
      · skip
        refine go_ (hq := ?_)
        try simp only [Int.toNat_natCast] at h3
        exact ⟨k + 1, hold_, ⟨hX, hB_c, by omega, by rw [hall, if_neg (fun e => h3 (by rw [e]; exact ⟨rfl, rfl⟩))]⟩, by omega⟩
    · skip
      refine go_ (hq := ?_)
      refine ret1_ (h := ?_)
      exact ⟨by rw [hall, List.drop_of_length_le (by omega)]; rfl, hX⟩
theorem index_spec {a : Value} {l : List BlockD} (ha : SlE H a l) (b : BlockD) : CallsH PG 64 #[a, b.val] H fun v H' => v = .int .i64 (ixFrom b 0 l) ∧ Ext H H' := by
  have la := ha.len_le
  unfold maxLen at la
  have ha0 := ha
  have hX := Ext.refl H
  have hXs := hX.size
  refine callsH_of_W (args := [a, b.val]) (ρ₀ := (upd (upd (fun _ => undef) 1 (b.val)) 0 a)) rfl Try.func64 rfl (by kernel_rfl) ?_
  refine go_ (hq := ?_)
  refine box_ (h := fun c H2 hE2 hge_c hB_c => ?_)
  have hf_hB_c : Frs H (fB c) := Frs.mono (Frs.blk hge_c) hXs
  replace hX := hX.trans hE2
  replace hXs := hX.size
  replace ha := ha0.ext hX
  refine go_ (hq := ?_)
  refine W_loop (X := Nat) (fun k => [(0, a), (3, .pointer (some ⟨c, 0, none⟩)), (7, .int .i64 l.length), (8, .int .i64 k)]) (fun k H' => Ext H H' ∧ Blk H' c 51 [.int .i64 b.start, .int .i64 b.size] ∧ k ≤ l.length ∧ ixFrom b 0 l = ixFrom b k (l.drop k)) (fun k => l.length - k) 0 ?_ ?_ ?_
  · exact hold_
  · exact ⟨hX, hB_c, Nat.zero_le _, rfl⟩
  · clear hX hB_c ha
    rintro u k H' ⟨hX, hB_c, hk, hall⟩
    have hXs := hX.size
    have ha := ha0.ext hX
    refine go_ (hq := ?_)
    refine if_ (ht := fun h2 => ?_) (hf := fun h2 => ?_)
    · skip
      rw [ixFrom_drop b l k (by omega)] at hall
      refine go_ (hq := ?_)
      refine draw_ mixed (Q := _) 0 [0,1,2,3,4,5] (h := ?_)
      refine go_ (hq := ?_)
      refine if_ (ht := fun h3 => ?_) (hf := fun h3 => ?_)
      · skip
        refine go_ (hq := ?_)
        refine ret1_ (h := ?_)
        try simp only [Int.toNat_natCast] at h3
        exact ⟨by rw [hall, if_pos (blk_ext h3.1.symm h3.2.symm)], hX⟩
      · skip
        refine go_ (hq := ?_)
        try simp only [Int.toNat_natCast] at h3
        exact ⟨k + 1, hold_, ⟨hX, hB_c, by omega, by rw [hall, if_neg (fun e => h3 (by rw [e]; exact ⟨rfl, rfl⟩))]⟩, by omega⟩
    · skip
      refine go_ (hq := ?_)
      refine ret1_ (h := ?_)
      exact ⟨by rw [hall, List.drop_of_length_le (by omega)]; rfl, hX⟩
theorem ixFrom_nn (b : BlockD) (l : List BlockD) : ∀ k : Nat, (0 ≤ ixFrom b k l ↔ b ∈ l) ∧ (ixFrom b k l = -1 ∨ ((k : Int) ≤ ixFrom b k l ∧ ixFrom b k l < k + l.length ∧ l.getD (ixFrom b k l - k).toNat default = b)) := by
  induction l with
  | nil => intro k; simp [ixFrom]
  | cons x l ih =>
    intro k
    simp only [ixFrom]
    by_cases h : x = b
    · rw [if_pos h]
      refine ⟨⟨fun _ => by simp [h], fun _ => by omega⟩, .inr ⟨by omega, by simp; omega, ?_⟩⟩
      simp [h]
    · rw [if_neg h]
      obtain ⟨h1, h2⟩ := ih (k + 1)
      refine ⟨by rw [h1]; simp [Ne.symm h], ?_⟩
      rcases h2 with h2 | ⟨h2, h3, h4⟩
      · exact .inl h2
      · refine .inr ⟨by omega, by simp only [List.length_cons]; omega, ?_⟩
        have e : (ixFrom b (k + 1) l - (k : Int)).toNat = (ixFrom b (k + 1) l - ((k + 1 : Nat) : Int)).toNat + 1 := by omega
        rw [e, List.getD_cons_succ, h4]
theorem contains_spec {a : Value} {l : List BlockD} (ha : SlE H a l) (b : BlockD) : CallsH PG 53 #[a, b.val] H fun v H' => v = .bool (decide (b ∈ l)) ∧ Ext H H' := by
  have ha0 := ha
  have hX := Ext.refl H
  have hXs := hX.size
  refine callsH_of_W (args := [a, b.val]) (ρ₀ := (upd (upd (fun _ => undef) 1 (b.val)) 0 a)) rfl Try.func53 rfl (by kernel_rfl) ?_
  refine go_ (hq := ?_)
  refine box_ (h := fun c H2 hE2 hge_c hB_c => ?_)
  have hf_hB_c : Frs H (fB c) := Frs.mono (Frs.blk hge_c) hXs
  replace hX := hX.trans hE2
  replace hXs := hX.size
  replace ha := ha0.ext hX
  refine go_ (hq := ?_)
  refine call_ (hc := index_spec ha b) (h := ?_)
  rintro v4 H4 ⟨rfl, hE4⟩
  replace hX := hX.trans hE4
  replace hXs := hX.size
  replace ha := ha0.ext hX
  replace hB_c := hB_c.ext hE4
  simp only [put]
  refine go_ (hq := ?_)
  refine ret1_ (h := ?_)
  refine ⟨?_, hX⟩
  congr 1
  rw [decide_eq_decide]
  exact (ixFrom_nn b l 0).1
/-! ### With one less, with one more -/
def noB (l : List BlockD) (b : BlockD) : List BlockD := l.filter fun x => decide (x ≠ b)
theorem noB_cons (x : BlockD) (l : List BlockD) (b : BlockD) : noB (x :: l) b = if x = b then noB l b else x :: noB l b := by
  unfold noB
  by_cases h : x = b <;> simp [h]
theorem noB_len (l : List BlockD) (b : BlockD) : (noB l b).length ≤ l.length := List.length_filter_le _ _
theorem noBlock_spec {a : Value} {l : List BlockD} (ha : SlE H a l) (b : BlockD) (hn : l.length ≤ 1000000) : CallsH PG 61 #[a, b.val] H fun v H' => SlE H' v (noB l b) ∧ Ext H H' := by
  have ha0 := ha
  have hX := Ext.refl H
  have hXs := hX.size
  refine callsH_of_W (args := [a, b.val]) (ρ₀ := (upd (upd (fun _ => undef) 1 (b.val)) 0 a)) rfl Try.func61 rfl (by kernel_rfl) ?_
  refine go_ (hq := ?_)
  refine box_ (h := fun c H2 hE2 hge_c hB_c => ?_)
  have hf_hB_c : Frs H (fB c) := Frs.mono (Frs.blk hge_c) hXs
  replace hX := hX.trans hE2
  replace hXs := hX.size
  replace ha := ha0.ext hX
  refine go_ (hq := ?_)
  have o_out : Own H2 H.size 51 (.slice none 0 0) ([] : List BlockD) := Own.nil _ _ _
  have hs_hB_c_o_out : Apt (fB c) (fO (.slice none 0 0)) := (Apt.nil _).symm
  have hf_o_out : Frs H (fO (.slice none 0 0)) := Frs.nil
  refine W_loop (X := Nat × Value × List BlockD) (fun x => [(0, a), (3, .pointer (some ⟨c, 0, none⟩)), (5, x.2.1), (6, .int .i64 x.1)]) (fun x H' => Ext H H' ∧ Blk H' c 51 [.int .i64 b.start, .int .i64 b.size] ∧ Own H' H.size 51 x.2.1 x.2.2 ∧ SepL [fB c, fO x.2.1] ∧ x.1 ≤ l.length ∧ x.2.2.length ≤ x.1 ∧ noB l b = x.2.2 ++ noB (l.drop x.1) b) (fun x => l.length - x.1) (0, .slice none 0 0, []) ?_ ?_ ?_
  · exact hold_
  · exact ⟨hX, hB_c, o_out, (sep_cons (sepa_cons (hs_hB_c_o_out) sepa_nil) (sep_cons sepa_nil sep_nil)), Nat.zero_le _, Nat.le_refl _, rfl⟩
  · clear hX hB_c ha o_out
    rintro u ⟨k, vo, out⟩ H' ⟨hX, hB_c, o_out, hS, hk, hol, hall⟩
    dsimp only at hX hB_c o_out hS hk hol hall ⊢
    have hXs := hX.size
    have ha := ha0.ext hX
    have hf_o_out : Frs H (fO vo) := o_out.frs (Nat.le_refl _)
    obtain ⟨⟨hs_hB_c_o_out, -⟩, ⟨⟨-⟩, -⟩⟩ := hS
    refine go_ (hq := ?_)
    refine if_ (ht := fun h2 => ?_) (hf := fun h2 => ?_)
    · skip
      rw [drop_getD default l k (by omega), noB_cons] at hall
      refine go_ (hq := ?_)
      refine draw_ mixed (Q := _) 0 [0,1,2,3,4,5] (h := ?_)
      refine go_ (hq := ?_)
      refine if_ (ht := fun h3 => ?_) (hf := fun h3 => ?_)
      · skip
        try simp only [Int.toNat_natCast] at h3
        rw [if_neg (fun e => h3 (by rw [e]; exact ⟨rfl, rfl⟩))] at hall
        refine go_ (hq := ?_)
        refine lit_ [l.getD k default] (h := fun vl H12 n_12 hE12 hN12 => ?_)
        have hs_hB_c_o_l : Apt (fB c) (fO vl) := Apt.new hB_c.old (Own.frs n_12 (Nat.le_refl _))
        have hs_o_out_o_l : Apt (fO vo) (fO vl) := Apt.new o_out.old (Own.frs n_12 (Nat.le_refl _))
        have hf_o_l : Frs H (fO vl) := Frs.mono (Own.frs n_12 (Nat.le_refl _)) hXs
        have o_l := n_12.mono hXs
        replace hX := hX.trans hE12
        replace hXs := hX.size
        replace ha := ha0.ext hX
        replace hB_c := hB_c.ext hE12
        replace o_out := o_out.ext hE12
        refine go_ (hq := ?_)
        refine append_ o_out o_l.sl (h := fun vo' H14 n_14 hM14 hF14 hN14 => ?_)
        have hq_hB_c := hs_hB_c_o_out.symm
        have hq_o_l := hs_o_out_o_l
        have hfq := hf_o_out
        replace hs_hB_c_o_out : Apt (fB c) (fO vo') := ((hs_hB_c_o_out.symm).app hF14 hB_c.old).symm
        replace hs_o_out_o_l : Apt (fO vo') (fO vl) := Apt.app hs_o_out_o_l hF14 o_l.old
        replace hf_o_out : Frs H (fO vo') := Frs.app hf_o_out hF14 hXs
        replace hX := hX.mut hM14 hfq
        replace hXs := hX.size
        replace ha := ha0.ext hX
        replace hB_c := hB_c.mutF hM14 hq_hB_c
        replace o_l := o_l.mutF hM14 hq_o_l
        replace o_out := n_14
        refine go_ (hq := ?_)
        exact ⟨(k + 1, vo', out ++ [l.getD k default]), hold_, ⟨hX, hB_c, o_out, (sep_cons (sepa_cons (hs_hB_c_o_out) sepa_nil) (sep_cons sepa_nil sep_nil)), by dsimp only; omega, by simp; omega, by rw [hall]; simp⟩, by dsimp only; omega⟩
      · skip
        try simp only [Int.toNat_natCast] at h3
        have h4 := Decidable.not_not.1 h3
        rw [if_pos (blk_ext h4.1 h4.2)] at hall
        refine go_ (hq := ?_)
        exact ⟨(k + 1, vo, out), hold_, ⟨hX, hB_c, o_out, (sep_cons (sepa_cons (hs_hB_c_o_out) sepa_nil) (sep_cons sepa_nil sep_nil)), by dsimp only; omega, by dsimp only; omega, hall⟩, by dsimp only; omega⟩
    · skip
      refine go_ (hq := ?_)
      refine ret1_ (h := ?_)
      rw [List.drop_of_length_le (by omega)] at hall
      have : noB l b = out := by rw [hall]; simp [noB]
      rw [this]
      exact ⟨o_out.sl, hX⟩
def withB : List BlockD → BlockD → List BlockD
  | [], b => [b]
  | x :: l, b => if b.start < x.start then b :: x :: l else x :: withB l b
theorem withBlock_spec {a : Value} {l : List BlockD} (ha : SlE H a l) (b : BlockD) (hn : l.length ≤ 1000000) : CallsH PG 62 #[a, b.val] H fun v H' => SlE H' v (withB l b) ∧ Ext H H' := by
  have ha0 := ha
  have hX := Ext.refl H
  have hXs := hX.size
  refine callsH_of_W (args := [a, b.val]) (ρ₀ := (upd (upd (fun _ => undef) 1 (b.val)) 0 a)) rfl Try.func62 rfl (by kernel_rfl) ?_
  refine go_ (hq := ?_)
  refine box_ (h := fun c H2 hE2 hge_c hB_c => ?_)
  have hf_hB_c : Frs H (fB c) := Frs.mono (Frs.blk hge_c) hXs
  replace hX := hX.trans hE2
  replace hXs := hX.size
  replace ha := ha0.ext hX
  refine go_ (hq := ?_)
  have o_out : Own H2 H.size 51 (.slice none 0 0) ([] : List BlockD) := Own.nil _ _ _
  have hs_hB_c_o_out : Apt (fB c) (fO (.slice none 0 0)) := (Apt.nil _).symm
  have hf_o_out : Frs H (fO (.slice none 0 0)) := Frs.nil
  refine W_loop (X := Nat × Value × List BlockD × Bool) (fun x => [(0, a), (3, .pointer (some ⟨c, 0, none⟩)), (5, x.2.1), (6, .bool x.2.2.2), (7, .int .i64 x.1)]) (fun x H' => Ext H H' ∧ Blk H' c 51 [.int .i64 b.start, .int .i64 b.size] ∧ Own H' H.size 51 x.2.1 x.2.2.1 ∧ SepL [fB c, fO x.2.1] ∧ x.1 ≤ l.length ∧ x.2.2.1.length = x.1 + (if x.2.2.2 then 1 else 0) ∧ withB l b = x.2.2.1 ++ (if x.2.2.2 then l.drop x.1 else withB (l.drop x.1) b)) (fun x => l.length - x.1) (0, .slice none 0 0, [], false) ?_ ?_ ?_
  · exact hold_
  · exact ⟨hX, hB_c, o_out, (sep_cons (sepa_cons (hs_hB_c_o_out) sepa_nil) (sep_cons sepa_nil sep_nil)), Nat.zero_le _, rfl, rfl⟩
  · clear hX hB_c ha o_out
    rintro u ⟨k, vo, out, pt⟩ H' ⟨hX, hB_c, o_out, hS, hk, hol, hall⟩
    dsimp only at hX hB_c o_out hS hk hol hall ⊢
    have hob : out.length ≤ k + 1 := by rw [hol]; split <;> omega
    have hXs := hX.size
    have ha := ha0.ext hX
    have hf_o_out : Frs H (fO vo) := o_out.frs (Nat.le_refl _)
    obtain ⟨⟨hs_hB_c_o_out, -⟩, ⟨⟨-⟩, -⟩⟩ := hS
    refine go_ (hq := ?_)
    refine if_ (ht := fun h2 => ?_) (hf := fun h2 => ?_)
    · skip
      have hdr := drop_getD default l k (by omega)
      rw [hdr] at hall
      refine go_ (hq := ?_)
      refine draw_ mixed (Q := _) 0 [0,1,2,3,4,5,6,7,8,9,10,11] (h := ?_)
      refine go_ (hq := ?_)
      refine if_ (ht := fun h3 => ?_) (hf := fun h3 => ?_)
      · skip
        obtain ⟨h4, h5⟩ := h3
        have hpt : pt = false := by simpa using h4
        subst hpt
        try simp only [Int.toNat_natCast] at h5
        simp only [Bool.false_eq_true, if_false, withB, if_pos h5] at hall
        refine go_ (hq := ?_)
        refine lit_ [b] (h := fun vl H12 n_12 hE12 hN12 => ?_)
        have hs_hB_c_o_l : Apt (fB c) (fO vl) := Apt.new hB_c.old (Own.frs n_12 (Nat.le_refl _))
        have hs_o_out_o_l : Apt (fO vo) (fO vl) := Apt.new o_out.old (Own.frs n_12 (Nat.le_refl _))
        have hf_o_l : Frs H (fO vl) := Frs.mono (Own.frs n_12 (Nat.le_refl _)) hXs
        have o_l := n_12.mono hXs
        replace hX := hX.trans hE12
        replace hXs := hX.size
        replace ha := ha0.ext hX
        replace hB_c := hB_c.ext hE12
        replace o_out := o_out.ext hE12
        refine go_ (hq := ?_)
        refine append_ o_out o_l.sl (h := fun vo1 H14 n_14 hM14 hF14 hN14 => ?_)
        have hq_hB_c := hs_hB_c_o_out.symm
        have hq_o_l := hs_o_out_o_l
        have hfq := hf_o_out
        replace hs_hB_c_o_out : Apt (fB c) (fO vo1) := ((hs_hB_c_o_out.symm).app hF14 hB_c.old).symm
        replace hs_o_out_o_l : Apt (fO vo1) (fO vl) := Apt.app hs_o_out_o_l hF14 o_l.old
        replace hf_o_out : Frs H (fO vo1) := Frs.app hf_o_out hF14 hXs
        replace hX := hX.mut hM14 hfq
        replace hXs := hX.size
        replace ha := ha0.ext hX
        replace hB_c := hB_c.mutF hM14 hq_hB_c
        replace o_l := o_l.mutF hM14 hq_o_l
        replace o_out := n_14
        refine go_ (hq := ?_)
        refine lit_ [l.getD k default] (h := fun vm H16 n_16 hE16 hN16 => ?_)
        have hs_hB_c_o_m : Apt (fB c) (fO vm) := Apt.new hB_c.old (Own.frs n_16 (Nat.le_refl _))
        have hs_o_out_o_m : Apt (fO vo1) (fO vm) := Apt.new o_out.old (Own.frs n_16 (Nat.le_refl _))
        have hs_o_l_o_m : Apt (fO vl) (fO vm) := Apt.new o_l.old (Own.frs n_16 (Nat.le_refl _))
        have hf_o_m : Frs H (fO vm) := Frs.mono (Own.frs n_16 (Nat.le_refl _)) hXs
        have o_m := n_16.mono hXs
        replace hX := hX.trans hE16
        replace hXs := hX.size
        replace ha := ha0.ext hX
        replace hB_c := hB_c.ext hE16
        replace o_out := o_out.ext hE16
        replace o_l := o_l.ext hE16
        refine go_ (hq := ?_)
        refine append_ o_out o_m.sl (h := fun vo2 H18 n_18 hM18 hF18 hN18 => ?_)
        have hq_hB_c := hs_hB_c_o_out.symm
        have hq_o_l := hs_o_out_o_l
        have hq_o_m := hs_o_out_o_m
        have hfq := hf_o_out
        replace hs_hB_c_o_out : Apt (fB c) (fO vo2) := ((hs_hB_c_o_out.symm).app hF18 hB_c.old).symm
        replace hs_o_out_o_l : Apt (fO vo2) (fO vl) := Apt.app hs_o_out_o_l hF18 o_l.old
        replace hs_o_out_o_m : Apt (fO vo2) (fO vm) := Apt.app hs_o_out_o_m hF18 o_m.old
        replace hf_o_out : Frs H (fO vo2) := Frs.app hf_o_out hF18 hXs
        replace hX := hX.mut hM18 hfq
        replace hXs := hX.size
        replace ha := ha0.ext hX
        replace hB_c := hB_c.mutF hM18 hq_hB_c
        replace o_l := o_l.mutF hM18 hq_o_l
        replace o_m := o_m.mutF hM18 hq_o_m
        replace o_out := n_18
        refine go_ (hq := ?_)
        exact ⟨(k + 1, vo2, out ++ [b] ++ [l.getD k default], true), hold_, ⟨hX, hB_c, o_out, (sep_cons (sepa_cons (hs_hB_c_o_out) sepa_nil) (sep_cons sepa_nil sep_nil)), by dsimp only; omega, by simp at hol ⊢; omega, by rw [hall]; simp⟩, by dsimp only; omega⟩
      · skip
        refine go_ (hq := ?_)
        refine lit_ [l.getD k default] (h := fun vm H21 n_21 hE21 hN21 => ?_)
        have hs_hB_c_o_m : Apt (fB c) (fO vm) := Apt.new hB_c.old (Own.frs n_21 (Nat.le_refl _))
        have hs_o_out_o_m : Apt (fO vo) (fO vm) := Apt.new o_out.old (Own.frs n_21 (Nat.le_refl _))
        have hf_o_m : Frs H (fO vm) := Frs.mono (Own.frs n_21 (Nat.le_refl _)) hXs
        have o_m := n_21.mono hXs
        replace hX := hX.trans hE21
        replace hXs := hX.size
        replace ha := ha0.ext hX
        replace hB_c := hB_c.ext hE21
        replace o_out := o_out.ext hE21
        refine go_ (hq := ?_)
        refine append_ o_out o_m.sl (h := fun vo2 H23 n_23 hM23 hF23 hN23 => ?_)
        have hq_hB_c := hs_hB_c_o_out.symm
        have hq_o_m := hs_o_out_o_m
        have hfq := hf_o_out
        replace hs_hB_c_o_out : Apt (fB c) (fO vo2) := ((hs_hB_c_o_out.symm).app hF23 hB_c.old).symm
        replace hs_o_out_o_m : Apt (fO vo2) (fO vm) := Apt.app hs_o_out_o_m hF23 o_m.old
        replace hf_o_out : Frs H (fO vo2) := Frs.app hf_o_out hF23 hXs
        replace hX := hX.mut hM23 hfq
        replace hXs := hX.size
        replace ha := ha0.ext hX
        replace hB_c := hB_c.mutF hM23 hq_hB_c
        replace o_m := o_m.mutF hM23 hq_o_m
        replace o_out := n_23
        refine go_ (hq := ?_)
        refine ⟨(k + 1, vo2, out ++ [l.getD k default], pt), hold_, ⟨hX, hB_c, o_out, (sep_cons (sepa_cons (hs_hB_c_o_out) sepa_nil) (sep_cons sepa_nil sep_nil)), by dsimp only; omega, by simp [hol]; omega, ?_⟩, by dsimp only; omega⟩
        rw [hall]
        cases pt with
        | true => simp
        | false =>
          have h5 : ¬ b.start < (l.getD k default).start := fun h => h3 ⟨by simp, h⟩
          simp only [Bool.false_eq_true, if_false, withB, if_neg h5]
          simp
    · skip
      rw [List.drop_of_length_le (by omega)] at hall
      refine go_ (hq := ?_)
      refine if_ (ht := fun h3 => ?_) (hf := fun h3 => ?_)
      · skip
        have hpt : pt = false := by simpa using h3
        subst hpt
        refine go_ (hq := ?_)
        refine lit_ [b] (h := fun vl H28 n_28 hE28 hN28 => ?_)
        have hs_hB_c_o_l : Apt (fB c) (fO vl) := Apt.new hB_c.old (Own.frs n_28 (Nat.le_refl _))
        have hs_o_out_o_l : Apt (fO vo) (fO vl) := Apt.new o_out.old (Own.frs n_28 (Nat.le_refl _))
        have hf_o_l : Frs H (fO vl) := Frs.mono (Own.frs n_28 (Nat.le_refl _)) hXs
        have o_l := n_28.mono hXs
        replace hX := hX.trans hE28
        replace hXs := hX.size
        replace ha := ha0.ext hX
        replace hB_c := hB_c.ext hE28
        replace o_out := o_out.ext hE28
        refine go_ (hq := ?_)
        refine append_ o_out o_l.sl (h := fun vo1 H30 n_30 hM30 hF30 hN30 => ?_)
        have hq_hB_c := hs_hB_c_o_out.symm
        have hq_o_l := hs_o_out_o_l
        have hfq := hf_o_out
        replace hs_hB_c_o_out : Apt (fB c) (fO vo1) := ((hs_hB_c_o_out.symm).app hF30 hB_c.old).symm
        replace hs_o_out_o_l : Apt (fO vo1) (fO vl) := Apt.app hs_o_out_o_l hF30 o_l.old
        replace hf_o_out : Frs H (fO vo1) := Frs.app hf_o_out hF30 hXs
        replace hX := hX.mut hM30 hfq
        replace hXs := hX.size
        replace ha := ha0.ext hX
        replace hB_c := hB_c.mutF hM30 hq_hB_c
        replace o_l := o_l.mutF hM30 hq_o_l
        replace o_out := n_30
        refine go_ (hq := ?_)
        refine ret1_ (h := ?_)
        have : withB l b = out ++ [b] := by rw [hall]; rfl
        rw [this]
        exact ⟨o_out.sl, hX⟩
      · skip
        have hpt : pt = true := by simpa using h3
        subst hpt
        refine go_ (hq := ?_)
        refine ret1_ (h := ?_)
        have : withB l b = out := by rw [hall]; simp
        rw [this]
        exact ⟨o_out.sl, hX⟩
end Go.Proofs.Ytpkigjlnbfgjcaa
