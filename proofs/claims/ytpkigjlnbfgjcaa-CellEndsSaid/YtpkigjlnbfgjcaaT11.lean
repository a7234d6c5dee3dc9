/- The walk of cell.Ends, over the sort's contract. -/
import Derived.Test.YtpkigjlnbfgjcaaT10
namespace Go.Proofs.Ytpkigjlnbfgjcaa
open Go.TM
open Go.TM.Cell (enc)
set_option maxRecDepth 20000
set_option maxHeartbeats 4000000
variable {H H' H₀ : Heap}
theorem _root_.Go.TM.Apt.ne {a b : Nat} (h : Apt (fB a) (fB b)) : a ≠ b := fun e => h a rfl e
theorem sumLen_map {α : Type} (xss : List (List α)) : (xss.map fun l => (l.length : Int)).sum = (sumLen xss : Nat) := by
  induction xss with
  | nil => rfl
  | cons x l ih => simp only [List.map_cons, List.sum_cons, ih, sumLen]; omega
/-- What is asked of slices.SortFunc. -/
def SortOK : Prop := ∀ (H : Heap) (B B' : Nat) (vo : Value) (hs : List Hdr) (ms : List (List Int)), B ≤ H.size → Own H B 22 vo hs → ROwn H B' 3 hs ms → Apt (fR hs) (fO vo) → ms.length ≤ 10000000000 →
  CallsH PG 35 #[vo, .func (.func 36) #[] #[]] H fun v H' => v = .tuple #[] ∧ ∃ (hs' : List Hdr) (ms' : List (List Int)), Own H' B 22 vo hs' ∧ ROwn H' B' 3 hs' ms' ∧ ms'.Perm ms ∧ (ms'.Pairwise fun a b => cmpL a b ≤ 0) ∧ Mut (fO vo) H H' ∧ (∀ k, fR hs' k → fR hs k)
def endsFault (n : Nat) (xss : List (List OpD)) : FaultD :=
  if 4 < xss.length then ⟨2, 0⟩ else if (tasksFault n xss).code ≠ 0 then tasksFault n xss else if 12 < sumLen xss then ⟨2, 0⟩ else ⟨0, 0⟩
def endsOf (xs : List Int) (xss : List (List OpD)) : List (List Int) := (play xss 13 xs (List.replicate xss.length 0) ([], [])).2
/-- What Ends hands back. -/
def EndsQ (H : Heap) (xs : List Int) (xss : List (List OpD)) (v : Value) (H' : Heap) : Prop :=
  ∃ ev, v = .tuple #[ev, (endsFault xs.length xss).val] ∧ Ext H H' ∧
    (((endsFault xs.length xss).code ≠ 0 ∧ ev = .slice none 0 0) ∨ ((endsFault xs.length xss).code = 0 ∧ ∃ (hs : List Hdr) (ms : List (List Int)), Sl2 H' ev hs ms ∧ ms.Perm (endsOf xs xss) ∧ ms.Pairwise fun a b => cmpL a b ≤ 0))
theorem ends_spec (hsort : SortOK) {mv tv : Value} {xs : List Int} {thd : List Hdr} {xss : List (List OpD)} (hm : SlE H mv xs) (hmb : xs.length ≤ 17592186044000) (ht : Sl2 H tv thd xss)
    (hnd : ∀ ms : List (List Int), ms.Perm (endsOf xs xss) → (ms.Pairwise fun a b => cmpL a b ≤ 0) → ∀ i, i + 1 < ms.length → ms.getD (i + 1) [] ≠ ms.getD i []) :
    CallsH PG 10 #[mv, tv] H (EndsQ H xs xss) := by
  obtain ⟨ht, hr⟩ := ht
  obtain ⟨htd, rfl⟩ := ht.hdrOf
  have lt := ht.len_le; have er := hr.len
  unfold maxLen at lt
  have hm0 := hm
  have ht0 := ht
  have hr0 := hr
  have hX := Ext.refl H
  have hXs := hX.size
  refine callsH_of_W (args := [mv, htd.val]) (ρ₀ := (upd (upd (fun _ => undef) 1 (htd.val)) 0 mv)) rfl Try.func10 rfl (by kernel_rfl) ?_
  refine go_ (hq := ?_)
  refine box_ (h := fun bt H2 hE2 hge_bt hB_bt => ?_)
  have hf_hB_bt : Frs H (fB bt) := Frs.mono (Frs.blk hge_bt) hXs
  replace hX := hX.trans hE2
  replace hXs := hX.size
  replace hm := hm0.ext hX
  replace ht := ht0.ext hX
  replace hr := hr0.ext hX
  refine go_ (hq := ?_)
  refine st_alloc fun bf H4 hE4 hge_bf hB_bf => ?_
  have hs_hB_bt_hB_bf : Apt (fB bt) (fB bf) := Apt.new hB_bt.old (Frs.blk hge_bf)
  have hf_hB_bf : Frs H (fB bf) := Frs.mono (Frs.blk hge_bf) hXs
  replace hX := hX.trans hE4
  replace hXs := hX.size
  replace hm := hm0.ext hX
  replace ht := ht0.ext hX
  replace hr := hr0.ext hX
  replace hB_bt := hB_bt.ext hE4
  refine go_ (hq := ?_)
  refine if_ (ht := fun h => ?_) (hf := fun h => ?_)
  · skip
    refine go_ (hq := ?_)
    refine call_ (hc := cellFault_spec _ _) (h := ?_)
    rintro v8 H8 ⟨rfl, hE8⟩
    replace hX := hX.trans hE8
    replace hXs := hX.size
    replace hm := hm0.ext hX
    replace ht := ht0.ext hX
    replace hr := hr0.ext hX
    replace hB_bt := hB_bt.ext hE8
    replace hB_bf := hB_bf.ext hE8
    simp only [put]
    refine go_ (hq := ?_)
    refine store_ hB_bf (h := fun H10 hM10 hsz10 hB_bf => ?_)
    replace hX := hX.mut hM10 hf_hB_bf
    replace hXs := hX.size
    replace hm := hm0.ext hX
    replace ht := ht0.ext hX
    replace hr := hr0.ext hX
    replace hB_bt := hB_bt.mutF hM10 (hs_hB_bt_hB_bf.symm)
    refine go_ (hq := ?_)
    refine retQ_ret (.manyV (rs := [_, _]) (vs := [_, _]) rfl (by simp) (rvt_ (h := rvc_ hB_bf (h := rvn_)))) ?_
    have hf : endsFault xs.length xss = ⟨2, 0⟩ := by rw [endsFault, if_pos (by omega)]
    exact ⟨_, by rw [hf], hX, .inl ⟨by rw [hf]; decide, rfl⟩⟩
  · skip
    have h4 : xss.length ≤ 4 := by omega
    refine go_ (hq := ?_)
    refine W_loop (X := Nat) (fun k => [(0, mv), (3, .pointer (some ⟨bt, 0, none⟩)), (4, .slice none 0 0), (5, .pointer (some ⟨bf, 0, none⟩)), (6, .int .i64 (sumLen (xss.take k) : Nat)), (17, htd.val), (18, .int .i64 thd.length), (19, .int .i64 k)])
      (fun k H' => Ext H H' ∧ Blk H' bt 23 [htd.val] ∧ Blk H' bf 28 [.int .i64 0, .int .i64 0] ∧ SepL [fB bt, fB bf] ∧ k ≤ xss.length ∧ tasksFault xs.length xss = tasksFault xs.length (xss.drop k) ∧ sumLen (xss.take k) ≤ k * 5000) (fun k => xss.length - k) 0 ?_ ?_ ?_
    · exact hold_
    · exact ⟨hX, hB_bt, hB_bf, (sep_cons (sepa_cons (hs_hB_bt_hB_bf) sepa_nil) (sep_cons sepa_nil sep_nil)), Nat.zero_le _, rfl, Nat.zero_le _⟩
    · clear hX hm ht hr hB_bt hB_bf hs_hB_bt_hB_bf
      rintro u k H' ⟨hX, hB_bt, hB_bf, hS, hk, hall, hsum⟩
      have hXs := hX.size
      have hm := hm0.ext hX
      have ht := ht0.ext hX
      have hr := hr0.ext hX
      obtain ⟨⟨hs_hB_bt_hB_bf, -⟩, ⟨⟨-⟩, -⟩⟩ := hS
      refine go_ (hq := ?_)
      refine if_ (ht := fun h2 => ?_) (hf := fun h2 => ?_)
      · skip
        have hk' : k < xss.length := by omega
        have hrow := hr.at_ k hk'
        have hst := sumLen_take xss k hk'
        rw [drop_getD [] xss k hk'] at hall
        simp only [tasksFault] at hall
        refine go_ (hq := ?_)
        refine call_ (hc := check_spec hm hrow) (h := ?_)
        rintro v16 H16 ⟨rfl, hE16⟩
        replace hX := hX.trans hE16
        replace hXs := hX.size
        replace hm := hm0.ext hX
        replace ht := ht0.ext hX
        replace hr := hr0.ext hX
        replace hB_bt := hB_bt.ext hE16
        replace hB_bf := hB_bf.ext hE16
        simp only [put]
        refine go_ (hq := ?_)
        refine st_alloc fun bg H18 hE18 hge_bg hB_bg => ?_
        have hs_hB_bt_hB_bg : Apt (fB bt) (fB bg) := Apt.new hB_bt.old (Frs.blk hge_bg)
        have hs_hB_bf_hB_bg : Apt (fB bf) (fB bg) := Apt.new hB_bf.old (Frs.blk hge_bg)
        have hf_hB_bg : Frs H (fB bg) := Frs.mono (Frs.blk hge_bg) hXs
        replace hX := hX.trans hE18
        replace hXs := hX.size
        replace hm := hm0.ext hX
        replace ht := ht0.ext hX
        replace hr := hr0.ext hX
        replace hB_bt := hB_bt.ext hE18
        replace hB_bf := hB_bf.ext hE18
        refine go_ (hq := ?_)
        refine store_ hB_bg (h := fun H20 hM20 hsz20 hB_bg => ?_)
        replace hX := hX.mut hM20 hf_hB_bg
        replace hXs := hX.size
        replace hm := hm0.ext hX
        replace ht := ht0.ext hX
        replace hr := hr0.ext hX
        replace hB_bt := hB_bt.mutF hM20 (hs_hB_bt_hB_bg.symm)
        replace hB_bf := hB_bf.mutF hM20 (hs_hB_bf_hB_bg.symm)
        refine go_ (hq := ?_)
        refine if_ (ht := fun h3 => ?_) (hf := fun h3 => ?_)
        · skip
          rw [if_pos h3] at hall
          refine go_ (hq := ?_)
          refine draw_ mixed (Q := _) 1 [0,1,2] (h := ?_)
          refine go_ (hq := ?_)
          refine store_ hB_bf (h := fun H26 hM26 hsz26 hB_bf => ?_)
          replace hX := hX.mut hM26 hf_hB_bf
          replace hXs := hX.size
          replace hm := hm0.ext hX
          replace ht := ht0.ext hX
          replace hr := hr0.ext hX
          replace hB_bt := hB_bt.mutF hM26 (hs_hB_bt_hB_bf.symm)
          replace hB_bg := hB_bg.mutF hM26 hs_hB_bf_hB_bg
          refine go_ (hq := ?_)
          refine retQ_ret (.manyV (rs := [_, _]) (vs := [_, _]) rfl (by simp) (rvt_ (h := rvc_ hB_bf (h := rvn_)))) ?_
          have hf : endsFault xs.length xss = opsFault xs.length (xss.getD k []) := by rw [endsFault, if_neg (by omega), hall, if_pos h3]
          exact ⟨_, by rw [hf], hX, .inl ⟨by rw [hf]; exact h3, rfl⟩⟩
        · skip
          rw [if_neg h3] at hall
          have hz := opsFault_zero (Decidable.not_not.1 h3)
          replace hrow := hr.at_ k hk'
          refine go_ (hq := ?_)
          refine ⟨k + 1, ?_, ⟨hX, hB_bt, hB_bf, (sep_cons (sepa_cons (hs_hB_bt_hB_bf) sepa_nil) (sep_cons sepa_nil sep_nil)), hk', hall, by omega⟩, by omega⟩
          have e1 : ((sumLen (xss.take (k + 1)) : Nat) : Int) = (sumLen (xss.take k) : Nat) + ((xss.getD k []).length : Nat) := by omega
          rw [e1]
          exact hold_
      · skip
        have hke : k = xss.length := by omega
        subst hke
        rw [List.drop_length] at hall
        simp only [List.take_length] at hsum ⊢
        have hcode : (tasksFault xs.length xss).code = 0 := by rw [hall]; rfl
        have hfine := fine_of hmb h4 hcode
        refine go_ (hq := ?_)
        refine if_ (ht := fun h5 => ?_) (hf := fun h5 => ?_)
        · skip
          refine go_ (hq := ?_)
          refine call_ (hc := cellFault_spec _ _) (h := ?_)
          rintro v32 H32 ⟨rfl, hE32⟩
          replace hX := hX.trans hE32
          replace hXs := hX.size
          replace hm := hm0.ext hX
          replace ht := ht0.ext hX
          replace hr := hr0.ext hX
          replace hB_bt := hB_bt.ext hE32
          replace hB_bf := hB_bf.ext hE32
          simp only [put]
          refine go_ (hq := ?_)
          refine store_ hB_bf (h := fun H34 hM34 hsz34 hB_bf => ?_)
          replace hX := hX.mut hM34 hf_hB_bf
          replace hXs := hX.size
          replace hm := hm0.ext hX
          replace ht := ht0.ext hX
          replace hr := hr0.ext hX
          replace hB_bt := hB_bt.mutF hM34 (hs_hB_bt_hB_bf.symm)
          refine go_ (hq := ?_)
          refine retQ_ret (.manyV (rs := [_, _]) (vs := [_, _]) rfl (by simp) (rvt_ (h := rvc_ hB_bf (h := rvn_)))) ?_
          have hf : endsFault xs.length xss = ⟨2, 0⟩ := by rw [endsFault, if_neg (by omega), if_neg (by rw [hcode]; decide), if_pos (by omega)]
          exact ⟨_, by rw [hf], hX, .inl ⟨by rw [hf]; decide, rfl⟩⟩
        · skip
          have hf : endsFault xs.length xss = ⟨0, 0⟩ := by rw [endsFault, if_neg (by omega), if_neg (by rw [hcode]; decide), if_neg (by omega)]
          refine go_ (hq := ?_)
          refine st_makeMap (κ := StrK) fun r H37 hE37 hge_r m_r => ?_
          have hs_hB_bt_m_r : Apt (fB bt) (fB r) := Apt.new hB_bt.old (Frs.blk hge_r)
          have hs_hB_bf_m_r : Apt (fB bf) (fB r) := Apt.new hB_bf.old (Frs.blk hge_r)
          have hf_m_r : Frs H (fB r) := Frs.mono (Frs.blk hge_r) hXs
          replace hX := hX.trans hE37
          replace hXs := hX.size
          replace hm := hm0.ext hX
          replace ht := ht0.ext hX
          replace hr := hr0.ext hX
          replace hB_bt := hB_bt.ext hE37
          replace hB_bf := hB_bf.ext hE37
          refine go_ (hq := ?_)
          refine st_alloc fun bh H39 hE39 hge_bh hB_bh => ?_
          have hs_hB_bt_hB_bh : Apt (fB bt) (fB bh) := Apt.new hB_bt.old (Frs.blk hge_bh)
          have hs_hB_bf_hB_bh : Apt (fB bf) (fB bh) := Apt.new hB_bf.old (Frs.blk hge_bh)
          have hs_m_r_hB_bh : Apt (fB r) (fB bh) := Apt.new m_r.old (Frs.blk hge_bh)
          have hf_hB_bh : Frs H (fB bh) := Frs.mono (Frs.blk hge_bh) hXs
          replace hX := hX.trans hE39
          replace hXs := hX.size
          replace hm := hm0.ext hX
          replace ht := ht0.ext hX
          replace hr := hr0.ext hX
          replace hB_bt := hB_bt.ext hE39
          replace hB_bf := hB_bf.ext hE39
          replace m_r := m_r.ext hE39
          refine go_ (hq := ?_)
          refine store_ hB_bh (h := fun H41 hM41 hsz41 hB_bh => ?_)
          replace hX := hX.mut hM41 hf_hB_bh
          replace hXs := hX.size
          replace hm := hm0.ext hX
          replace ht := ht0.ext hX
          replace hr := hr0.ext hX
          replace hB_bt := hB_bt.mutF hM41 (hs_hB_bt_hB_bh.symm)
          replace hB_bf := hB_bf.mutF hM41 (hs_hB_bf_hB_bh.symm)
          replace m_r := m_r.mutF hM41 (hs_m_r_hB_bh.symm)
          refine go_ (hq := ?_)
          refine st_alloc fun bo H43 hE43 hge_bo hB_bo => ?_
          have hs_hB_bt_hB_bo : Apt (fB bt) (fB bo) := Apt.new hB_bt.old (Frs.blk hge_bo)
          have hs_hB_bf_hB_bo : Apt (fB bf) (fB bo) := Apt.new hB_bf.old (Frs.blk hge_bo)
          have hs_m_r_hB_bo : Apt (fB r) (fB bo) := Apt.new m_r.old (Frs.blk hge_bo)
          have hs_hB_bh_hB_bo : Apt (fB bh) (fB bo) := Apt.new hB_bh.old (Frs.blk hge_bo)
          have hf_hB_bo : Frs H (fB bo) := Frs.mono (Frs.blk hge_bo) hXs
          replace hX := hX.trans hE43
          replace hXs := hX.size
          replace hm := hm0.ext hX
          replace ht := ht0.ext hX
          replace hr := hr0.ext hX
          replace hB_bt := hB_bt.ext hE43
          replace hB_bf := hB_bf.ext hE43
          replace m_r := m_r.ext hE43
          replace hB_bh := hB_bh.ext hE43
          refine go_ (hq := ?_)
          refine st_alloc fun bp H45 hE45 hge_bp hB_bp => ?_
          have hs_hB_bt_hB_bp : Apt (fB bt) (fB bp) := Apt.new hB_bt.old (Frs.blk hge_bp)
          have hs_hB_bf_hB_bp : Apt (fB bf) (fB bp) := Apt.new hB_bf.old (Frs.blk hge_bp)
          have hs_m_r_hB_bp : Apt (fB r) (fB bp) := Apt.new m_r.old (Frs.blk hge_bp)
          have hs_hB_bh_hB_bp : Apt (fB bh) (fB bp) := Apt.new hB_bh.old (Frs.blk hge_bp)
          have hs_hB_bo_hB_bp : Apt (fB bo) (fB bp) := Apt.new hB_bo.old (Frs.blk hge_bp)
          have hf_hB_bp : Frs H (fB bp) := Frs.mono (Frs.blk hge_bp) hXs
          replace hX := hX.trans hE45
          replace hXs := hX.size
          replace hm := hm0.ext hX
          replace ht := ht0.ext hX
          replace hr := hr0.ext hX
          replace hB_bt := hB_bt.ext hE45
          replace hB_bf := hB_bf.ext hE45
          replace m_r := m_r.ext hE45
          replace hB_bh := hB_bh.ext hE45
          replace hB_bo := hB_bo.ext hE45
          refine go_ (hq := ?_)
          refine store_ hB_bp (h := fun H47 hM47 hsz47 hB_bp => ?_)
          replace hX := hX.mut hM47 hf_hB_bp
          replace hXs := hX.size
          replace hm := hm0.ext hX
          replace ht := ht0.ext hX
          replace hr := hr0.ext hX
          replace hB_bt := hB_bt.mutF hM47 (hs_hB_bt_hB_bp.symm)
          replace hB_bf := hB_bf.mutF hM47 (hs_hB_bf_hB_bp.symm)
          replace m_r := m_r.mutF hM47 (hs_m_r_hB_bp.symm)
          replace hB_bh := hB_bh.mutF hM47 (hs_hB_bh_hB_bp.symm)
          replace hB_bo := hB_bo.mutF hM47 (hs_hB_bo_hB_bp.symm)
          refine go_ (hq := ?_)
          have hnone : (fun _ : StrK => (none : Option Value)) = fV [] := by funext k; simp [fV]
          rw [hnone] at m_r
          have hP : PI H _ bh bt bp bo r htd.val (.slice none 0 0) [] [] [] := ⟨hX, hf_m_r.ge, hf_hB_bo.ge, hB_bh, m_r, hB_bt, hB_bp, hB_bo, Own.nil _ _ _, ROwn.nil,
            ⟨hs_m_r_hB_bh.ne.symm, hs_hB_bt_m_r.ne, hs_m_r_hB_bp.ne.symm, hs_m_r_hB_bo.ne.symm, hs_hB_bh_hB_bo.ne, hs_hB_bt_hB_bo.ne, hs_hB_bo_hB_bp.ne.symm⟩, Apt.nil _, Apt.rnil _, Apt.rnil _⟩
          have hfit : Fit xss xs.length xs (List.replicate xss.length 0) := ⟨rfl, by simp, fun p hp => by simp [List.getD, hp]⟩
          have hrem : remOf xss (List.replicate xss.length 0) < (13 : Nat) := by
            have e1 : (xss.map fun l => (l.length : Int)).sum = (sumLen xss : Nat) := sumLen_map xss
            have e2 : (List.replicate xss.length (0 : Int)).sum = 0 := by simp
            unfold remOf; omega
          have hbf1 := hs_hB_bf_m_r.ne
          have hbf2 := hs_hB_bf_hB_bo.ne
          refine W_cutQ (X := Value × List Hdr) (fun x => [(5, .pointer (some ⟨bf, 0, none⟩)), (11, .pointer (some ⟨bo, 0, none⟩))])
            (fun x H' => PI H H' bh bt bp bo r htd.val x.1 x.2 (endsOf xs xss) (play xss 13 xs (List.replicate xss.length 0) ([], [])).1 ∧ Blk H' bf 28 [.int .i64 0, .int .i64 0] ∧ ¬ fO x.1 bf ∧ ¬ fR x.2 bf) ?_ ?_
          · skip
            have hP0 := hP
            have hB_bf0 := hB_bf
            have hm0 := hm
            have hB_bp0 := hB_bp
            have hB_bt0 := hB_bt
            have hX := Ext.refl H47
            have hXs := hX.size
            refine drawt_ mixed [6] (.seg 0 [0, 1, 3, 4] (.alt 2 (.seg 1 [5, 6] .nil) (.alt 5 (.seg 1 [2, 6] .nil) .stop))) (h := ?_)
            refine wseg_ (h := ?_)
            refine go_ (hq := ?_)
            refine walt_ (h := ?_) (hr := walt_ (h := ?_) (hr := wstop_))
            · skip
              refine call_ (hc := clone_spec hm (by omega)) (h := ?_)
              rintro w H50 ⟨n_50, hE50⟩
              have hf_o_w : Frs H47 (fO w) := Frs.mono (Own.frs n_50 (Nat.le_refl _)) hXs
              have o_w := n_50.mono hXs
              replace hX := hX.trans hE50
              replace hXs := hX.size
              replace hP := hP0.ext hX
              replace hB_bf := hB_bf0.ext hX
              replace hm := hm0.ext hX
              replace hB_bp := hB_bp0.ext hX
              replace hB_bt := hB_bt0.ext hX
              simp only [put]
              refine go_ (hq := ?_)
              refine wseg_ (h := ?_)
              refine make_ (0 : Int) (h := fun kv H52 n_52 hE52 hN52 => ?_)
              have hs_o_w_o_k : Apt (fO w) (fO kv) := Apt.new o_w.old (Own.frs n_52 (Nat.le_refl _))
              have hf_o_k : Frs H47 (fO kv) := Frs.mono (Own.frs n_52 (Nat.le_refl _)) hXs
              have o_k := n_52.mono hXs
              replace hX := hX.trans hE52
              replace hXs := hX.size
              replace hP := hP0.ext hX
              replace hB_bf := hB_bf0.ext hX
              replace hm := hm0.ext hX
              replace hB_bp := hB_bp0.ext hX
              replace hB_bt := hB_bt0.ext hX
              replace o_w := o_w.ext hE52
              rw [Int.toNat_natCast, er] at o_k
              refine callv_ (hc := play_walk ht0 hr0 hfine 13 xs (List.replicate xss.length 0) w kv ([], []) _ _ [] hP (o_w.mono hP0.xe.size) (o_k.mono hP0.xe.size) (Apt.new hP0.oldFX hf_o_w).symm (Apt.new hP0.oldFX hf_o_k).symm (Apt.nil _).symm (Apt.nil _).symm hfit hrem (by simp)) (h := ?_)
              rintro v9 H9 ⟨rfl, vo2, hs2, hP2, hM2, hvo2, hhs2⟩
              simp only [put]
              refine go_ (hq := ?_)
              have hblt0 := hB_bf0.lt
              have hblt := hB_bf.lt
              refine wnil_ (nq_then ⟨(vo2, hs2), hold_, hP2, hB_bf.mut hM2 ?_, fun hv => by (rcases hvo2 bf hv with h | h; (cases h); omega), fun hv => by (rcases hhs2 bf hv with h | h | h; (exact absurd h (Apt.rnil (fB bf) bf · rfl)); (have := hf_o_w bf h; omega); omega)⟩)
              rintro (h | h | h)
              · exact hbf1 h
              · exact hbf2 h
              · cases h
            · skip
              refine make_ (0 : Int) (h := fun kv H54 n_54 hE54 hN54 => ?_)
              have hf_o_k : Frs H47 (fO kv) := Frs.mono (Own.frs n_54 (Nat.le_refl _)) hXs
              have o_k := n_54.mono hXs
              replace hX := hX.trans hE54
              replace hXs := hX.size
              replace hP := hP0.ext hX
              replace hB_bf := hB_bf0.ext hX
              replace hm := hm0.ext hX
              replace hB_bp := hB_bp0.ext hX
              replace hB_bt := hB_bt0.ext hX
              rw [Int.toNat_natCast, er] at o_k
              refine go_ (hq := ?_)
              refine wseg_ (h := ?_)
              refine call_ (hc := clone_spec hm (by omega)) (h := ?_)
              rintro w H56 ⟨n_56, hE56⟩
              have hs_o_k_o_w : Apt (fO kv) (fO w) := Apt.new o_k.old (Own.frs n_56 (Nat.le_refl _))
              have hf_o_w : Frs H47 (fO w) := Frs.mono (Own.frs n_56 (Nat.le_refl _)) hXs
              have o_w := n_56.mono hXs
              replace hX := hX.trans hE56
              replace hXs := hX.size
              replace hP := hP0.ext hX
              replace hB_bf := hB_bf0.ext hX
              replace hm := hm0.ext hX
              replace hB_bp := hB_bp0.ext hX
              replace hB_bt := hB_bt0.ext hX
              replace o_k := o_k.ext hE56
              simp only [put]
              refine callv_ (hc := play_walk ht0 hr0 hfine 13 xs (List.replicate xss.length 0) w kv ([], []) _ _ [] hP (o_w.mono hP0.xe.size) (o_k.mono hP0.xe.size) (Apt.new hP0.oldFX hf_o_w).symm (Apt.new hP0.oldFX hf_o_k).symm (Apt.nil _).symm (Apt.nil _).symm hfit hrem (by simp)) (h := ?_)
              rintro v9 H9 ⟨rfl, vo2, hs2, hP2, hM2, hvo2, hhs2⟩
              simp only [put]
              refine go_ (hq := ?_)
              have hblt0 := hB_bf0.lt
              have hblt := hB_bf.lt
              refine wnil_ (nq_then ⟨(vo2, hs2), hold_, hP2, hB_bf.mut hM2 ?_, fun hv => by (rcases hvo2 bf hv with h | h; (cases h); omega), fun hv => by (rcases hhs2 bf hv with h | h | h; (exact absurd h (Apt.rnil (fB bf) bf · rfl)); (have := hf_o_w bf h; omega); omega)⟩)
              rintro (h | h | h)
              · exact hbf1 h
              · exact hbf2 h
              · cases h
          · clear hP hB_bf hm ht hr hB_bt hB_bh hB_bo hB_bp m_r hX hXs
            rintro u ⟨vo, hs⟩ H8 ⟨hP, hB_bf, hbv, hbh⟩
            dsimp only at hP hbv hbh ⊢
            have xbo := hP.xbo
            have hlen : (endsOf xs xss).length ≤ 10000000000 := Nat.le_trans (play_len h4 13 xs (List.replicate xss.length 0) ([], [])) (by simp)
            refine go_ (hq := ?_)
            refine call_ (hc := hsort H8 _ _ vo hs _ hP.xe.size hP.ov hP.rw_ hP.srv hlen) (h := ?_)
            rintro v9 H9 ⟨rfl, hs', ms', n_o, n_r, hperm, hsorted, hM, hsub⟩
            simp only [put]
            replace xbo := hP.xbo.mut hM (fun hv => hP.sv bo hv (.inr (.inr (.inr (.inl rfl)))))
            replace hB_bf := hB_bf.mut hM hbv
            have hX9 := hP.xe.mut hM (hP.ov.frs (Nat.le_refl _))
            refine go_ (hq := ?_)
            have hB_bf0 := hB_bf
            have n_o0 := n_o
            have n_r0 := n_r
            have hX := Ext.refl H9
            have hXs := hX.size
            refine call_ (hc := compact_spec ⟨n_o.sl, n_r.rows⟩ (hnd ms' hperm hsorted)) (h := ?_)
            rintro v60 H60 ⟨rfl, hE60⟩
            replace hX := hX.trans hE60
            replace hXs := hX.size
            replace hB_bf := hB_bf0.ext hX
            replace n_o := n_o0.ext hX
            replace n_r := n_r0.ext hX
            simp only [put]
            refine go_ (hq := ?_)
            refine store_ hB_bf (h := fun H10 hM10 hsz10 hB_10 => ?_)
            refine go_ (hq := ?_)
            refine retQ_ret (.manyV (rs := [_, _]) (vs := [_, _]) rfl (by simp) (rvt_ (h := rvc_ hB_10 (h := rvn_)))) ?_
            refine ⟨_, by rw [hf], (hX9.trans hX).mut hM10 (fun k hk => by rw [show k = bf from hk]; exact hf_hB_bf.ge), .inr ⟨by rw [hf], hs', ms', ⟨(n_o.mut hM10 (fun k hk hb => hbv ?_)).sl, (n_r.mutF hM10 ?_).rows⟩, hperm, hsorted⟩⟩
            · rw [show k = bf from hb] at hk; exact hk
            · intro k hk hr
              rw [show k = bf from hk] at hr
              exact hbh (hsub bf hr)
end Go.Proofs.Ytpkigjlnbfgjcaa
