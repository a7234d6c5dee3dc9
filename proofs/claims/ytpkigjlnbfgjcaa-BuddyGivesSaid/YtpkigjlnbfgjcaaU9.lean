/- A space's fault: what it is, and Check. -/
import Derived.Test.YtpkigjlnbfgjcaaU8
namespace Go.Proofs.Ytpkigjlnbfgjcaa
open Go.TM
open Go.TM.Cell (enc)
set_option maxRecDepth 20000
set_option maxHeartbeats 4000000
variable {H : Heap}
abbrev badW (pw : Int → Bool) (whole : Int) (b : BlockD) : Prop := (((((¬ pw b.size = true) ∨ b.start < 0) ∨ b.start % b.size ≠ 0) ∨ whole < b.size) ∨ whole - b.size < b.start)
def lf (pw : Int → Bool) (whole k : Int) : Option BlockD → List BlockD → FaultD
  | _, [] => ⟨0, 0⟩
  | none, b :: r => if badW pw whole b then ⟨3, k⟩ else lf pw whole k (some b) r
  | some q, b :: r => if badW pw whole b then ⟨3, k⟩ else if b.start ≤ q.start then ⟨5, k⟩ else lf pw whole k (some b) r
def prevAt (l : List BlockD) (i : Nat) : Option BlockD := match i with | 0 => none | i + 1 => some (l.getD i default)
theorem lf_step (pw : Int → Bool) (whole k : Int) (l : List BlockD) (i : Nat) (hi : i < l.length) : lf pw whole k (prevAt l i) (l.drop i) =
    if badW pw whole (l.getD i default) then ⟨3, k⟩ else if 0 < (i : Int) ∧ (l.getD i default).start ≤ (l.getD (i - 1) default).start then ⟨5, k⟩ else lf pw whole k (prevAt l (i + 1)) (l.drop (i + 1)) := by
  rw [drop_getD default l i hi]
  cases i with
  | zero => simp [prevAt, lf]
  | succ i =>
    have h0 : (0 : Int) < ((i + 1 : Nat) : Int) := by omega
    simp only [prevAt, lf, h0, true_and, Nat.add_sub_cancel]
def chainP : Int → List BlockD → Option Int
  | at_, [] => some at_
  | at_, b :: r => if b.start = at_ then chainP (at_ + b.size) r else none
/-- Check, where l' is all blocks, sorted. -/
def checkP (s : SpD) (l' : List BlockD) : FaultD :=
  if s.bits < 0 ∨ 30 < s.bits ∨ 5000 < s.used.length + s.free.length then ⟨2, 0⟩
  else if (lf powP (2 ^ s.bits.toNat) 0 none s.used).code ≠ 0 then lf powP (2 ^ s.bits.toNat) 0 none s.used
  else if (lf powP (2 ^ s.bits.toNat) 1 none s.free).code ≠ 0 then lf powP (2 ^ s.bits.toNat) 1 none s.free
  else if chainP 0 l' ≠ some (2 ^ s.bits.toNat) then ⟨8, 0⟩
  else if s.free.any (mated s.bits s.free) then ⟨11, 0⟩ else ⟨0, 0⟩
theorem lf_good (pw : Int → Bool) (whole k : Int) (l : List BlockD) : ∀ p, (lf pw whole k p l).code = 0 → ∀ b ∈ l, ¬ badW pw whole b := by
  induction l with
  | nil => intro p _ b hb; cases hb
  | cons x l ih =>
    intro p h b hb
    have key : ¬ badW pw whole x ∧ ∃ p', (lf pw whole k p' l).code = 0 := by
      cases p with
      | none =>
        simp only [lf] at h
        split at h
        · cases h
        · rename_i hx; exact ⟨hx, _, h⟩
      | some q =>
        simp only [lf] at h
        split at h
        · cases h
        · rename_i hx
          split at h
          · cases h
          · exact ⟨hx, _, h⟩
    obtain ⟨h1, p', h2⟩ := key
    rcases List.mem_cons.1 hb with rfl | hb
    · exact h1
    · exact ih p' h2 b hb
theorem lf_zero (pw : Int → Bool) (whole k : Int) (l : List BlockD) : ∀ p, (lf pw whole k p l).code = 0 → lf pw whole k p l = ⟨0, 0⟩ := by
  induction l with
  | nil => intro p _; cases p <;> rfl
  | cons x l ih =>
    intro p h
    cases p with
    | none =>
      simp only [lf] at h ⊢
      split at h
      · cases h
      · rename_i hx; rw [if_neg hx]; exact ih _ h
    | some q =>
      simp only [lf] at h ⊢
      split at h
      · cases h
      · rename_i hx
        rw [if_neg hx]
        split at h
        · cases h
        · rename_i hy; rw [if_neg hy]; exact ih _ h
theorem powP_pos (n : Int) (h : powP n = true) : 0 < n := by
  simp only [powP, Bool.and_eq_true, decide_eq_true_eq] at h; exact h.1
theorem remG {x y : Int} {p : Bool} (hp : p = true → 0 < y) (hg : ((!p || decide (x < 0)) == false) = true) : 0 ≤ x ∧ 0 < y := by
  cases p with
  | false => simp at hg
  | true => simp at hg; exact ⟨hg, hp rfl⟩
theorem bad_iff {pw : Int → Bool} (hpw : ∀ n, pw n = true → 0 < n) {W : Int} (h1 : 1 ≤ W) (h2 : W ≤ 1073741824) {b : BlockD} (hs : -9223372036854775808 ≤ b.start) :
    (((((¬ pw b.size = true) ∨ b.start < 0) ∨ b.start % b.size ≠ 0) ∨ W < b.size) ∨ IntKind.i64.wrap (W - b.size) < b.start) ↔ badW pw W b := by
  unfold badW
  by_cases h : ((((¬ pw b.size = true) ∨ b.start < 0) ∨ b.start % b.size ≠ 0) ∨ W < b.size)
  · exact ⟨fun _ => .inl h, fun _ => .inl h⟩
  · have hp : pw b.size = true := Decidable.byContradiction fun hn => h (.inl (.inl (.inl hn)))
    have := hpw _ hp
    have hw : ¬ W < b.size := fun hn => h (.inr hn)
    rw [wrap64_id (by omega)]
theorem sorted_ex (l : List BlockD) : ∃ l' : List BlockD, l'.Perm l ∧ l'.Pairwise (fun a b => a.start ≤ b.start) := by
  refine ⟨_, List.mergeSort_perm l (fun a b => decide (a.start ≤ b.start)), ?_⟩
  have := List.pairwise_mergeSort (le := fun a b : BlockD => decide (a.start ≤ b.start)) (by intro a b c h1 h2; simp at h1 h2 ⊢; omega) (by intro a b; simp; omega) l
  exact this.imp fun h => by simpa using h
theorem check_walk {hu hf : Hdr} {s : SpD} (h1 : SlE H hu.val s.used) (h2 : SlE H hf.val s.free) (hb : R64x s.bits) (hn : s.used.length ≤ 1000000 ∧ s.free.length ≤ 1000000) (hr : ∀ b ∈ s.used ++ s.free, BR b) :
    CallsH PG 21 #[SpV s.bits hu hf] H fun v H' => (∃ l' : List BlockD, l'.Perm (s.used ++ s.free) ∧ l'.Pairwise (fun a b => a.start ≤ b.start) ∧ v = (checkP s l').val) ∧ Ext H H' := by
  have lu := h1.len_le; have lfr := h2.len_le
  unfold maxLen at lu lfr
  have h10 := h1
  have h20 := h2
  have hX := Ext.refl H
  have hXs := hX.size
  refine callsH_of_W (args := [SpV s.bits hu hf]) (ρ₀ := (upd (fun _ => undef) 0 (SpV s.bits hu hf))) rfl Try.func21 rfl (by kernel_rfl) ?_
  refine go_ (hq := ?_)
  refine box_ (h := fun c H2 hE2 hge_c hB_c => ?_)
  have hf_hB_c : Frs H (fB c) := Frs.mono (Frs.blk hge_c) hXs
  replace hX := hX.trans hE2
  replace hXs := hX.size
  replace h1 := h10.ext hX
  replace h2 := h20.ext hX
  refine go_ (hq := ?_)
  refine st_alloc fun r H4 hE4 hge_r hB_r => ?_
  have hs_hB_c_hB_r : Apt (fB c) (fB r) := Apt.new hB_c.old (Frs.blk hge_r)
  have hf_hB_r : Frs H (fB r) := Frs.mono (Frs.blk hge_r) hXs
  replace hX := hX.trans hE4
  replace hXs := hX.size
  replace h1 := h10.ext hX
  replace h2 := h20.ext hX
  replace hB_c := hB_c.ext hE4
  refine go_ (hq := ?_)
  refine if_ (ht := fun h => ?_) (hf := fun h => ?_)
  · skip
    refine go_ (hq := ?_)
    refine call_ (hc := bfault_spec _ _) (h := ?_)
    rintro v8 H8 ⟨rfl, hE8⟩
    replace hX := hX.trans hE8
    replace hXs := hX.size
    replace h1 := h10.ext hX
    replace h2 := h20.ext hX
    replace hB_c := hB_c.ext hE8
    replace hB_r := hB_r.ext hE8
    simp only [put]
    refine go_ (hq := ?_)
    refine store_ hB_r (h := fun H10 hM10 hsz10 hB_r => ?_)
    replace hX := hX.mut hM10 hf_hB_r
    replace hXs := hX.size
    replace h1 := h10.ext hX
    replace h2 := h20.ext hX
    replace hB_c := hB_c.mutF hM10 (hs_hB_c_hB_r.symm)
    refine go_ (hq := ?_)
    refine retc_ hB_r (h := ?_)
    obtain ⟨l', p1, p2⟩ := sorted_ex (s.used ++ s.free)
    exact ⟨⟨l', p1, p2, by rw [checkP, if_pos (by omega)]⟩, hX⟩
  · skip
    have hb30 : 0 ≤ s.bits ∧ s.bits ≤ 30 := by omega
    have hl5 : s.used.length + s.free.length ≤ 5000 := by omega
    have hW : shlI 1 s.bits = 2 ^ s.bits.toNat := shlI_one (by omega)
    obtain ⟨W, hWd⟩ : ∃ W : Int, W = 2 ^ s.bits.toNat := ⟨_, rfl⟩
    have hW1 : 1 ≤ W := by rw [hWd]; exact Int.pow_pos (by omega)
    have hW30 : W ≤ 1073741824 := by
      rw [hWd]
      have : (2 : Int) ^ s.bits.toNat ≤ 2 ^ 30 := by exact_mod_cast Nat.pow_le_pow_right (by omega) (show s.bits.toNat ≤ 30 by omega)
      omega
    refine go_ (hq := ?_)
    refine lit_ [hu, hf] (h := fun vl H13 n_13 hE13 hN13 => ?_)
    have hs_hB_c_o_l : Apt (fB c) (fO vl) := Apt.new hB_c.old (Own.frs n_13 (Nat.le_refl _))
    have hs_hB_r_o_l : Apt (fB r) (fO vl) := Apt.new hB_r.old (Own.frs n_13 (Nat.le_refl _))
    have hf_o_l : Frs H (fO vl) := Frs.mono (Own.frs n_13 (Nat.le_refl _)) hXs
    have o_l := n_13.mono hXs
    replace hX := hX.trans hE13
    replace hXs := hX.size
    replace h1 := h10.ext hX
    replace h2 := h20.ext hX
    replace hB_c := hB_c.ext hE13
    replace hB_r := hB_r.ext hE13
    refine go_ (hq := ?_)
    refine W_loop (X := Nat) (fun k => [(1, .pointer (some ⟨c, 0, none⟩)), (2, .pointer (some ⟨r, 0, none⟩)), (34, vl), (35, .int .i64 2), (36, .int .i64 k)])
      (fun k H' => Ext H H' ∧ Blk H' c 41 [.int .i64 s.bits, hu.val, hf.val] ∧ Blk H' r 28 [.int .i64 0, .int .i64 0] ∧ TM.Own H' H.size 39 vl [hu, hf] ∧ SepL [fB c, fB r, fO vl] ∧ k ≤ 2 ∧ (∀ j, j < k → (lf powP W j none ([s.used, s.free].getD j [])).code = 0)) (fun k => 2 - k) 0 ?_ ?_ ?_
    · exact hold_
    · exact ⟨hX, hB_c, hB_r, o_l, (sep_cons (sepa_cons (hs_hB_c_hB_r) (sepa_cons (hs_hB_c_o_l) sepa_nil)) (sep_cons (sepa_cons (hs_hB_r_o_l) sepa_nil) (sep_cons sepa_nil sep_nil))), by omega, fun j hj => by omega⟩
    · clear hX h1 h2 hB_c hB_r o_l hs_hB_c_hB_r hs_hB_c_o_l hs_hB_r_o_l
      rintro u k H' ⟨hX, hB_c, hB_r, o_l, hS, hk, hall⟩
      have hXs := hX.size
      have h1 := h10.ext hX
      have h2 := h20.ext hX
      have hf_o_l : Frs H (fO vl) := o_l.frs (Nat.le_refl _)
      obtain ⟨⟨hs_hB_c_hB_r, hs_hB_c_o_l, -⟩, ⟨⟨hs_hB_r_o_l, -⟩, ⟨⟨-⟩, -⟩⟩⟩ := hS
      refine go_ (hq := ?_)
      refine if_ (ht := fun hk2 => ?_) (hf := fun hk2 => ?_)
      · skip
        have hl2 : ([hu, hf] : List Hdr).length = 2 := rfl
        have hrows : TM.Rows H' [hu, hf] [s.used, s.free] := Rows.cons h1 (Rows.cons h2 Rows.nil)
        have hrow := hrows.at_ k (by simp; omega)
        obtain ⟨hd, hhd⟩ : ∃ hd, hd = [hu, hf].getD k default := ⟨_, rfl⟩
        obtain ⟨xk, hxk⟩ : ∃ xk, xk = [s.used, s.free].getD k [] := ⟨_, rfl⟩
        have hrow0 := (Rows.cons h10 (Rows.cons h20 Rows.nil)).at_ k (by simp; omega)
        rw [← hhd, ← hxk] at hrow hrow0
        have hk2' : k < 2 := by omega
        have hgx : ∀ b ∈ xk, BR b := fun b hb => hr b (by
          rw [hxk] at hb
          match k, hk2', hb with
          | 0, _, hb => exact List.mem_append.2 (.inl hb)
          | 1, _, hb => exact List.mem_append.2 (.inr hb))
        have hlx : xk.length ≤ 5000 := by
          rw [hxk]
          match k, hk2' with
          | 0, _ => show s.used.length ≤ 5000; omega
          | 1, _ => show s.free.length ≤ 5000; omega
        have hfin : lf powP W k none xk ≠ ⟨0, 0⟩ → ∀ l', checkP s l' = lf powP W k none xk := by
          intro hne l'
          have hcode : (lf powP W k none xk).code ≠ 0 := fun hc => hne (lf_zero _ _ _ _ _ hc)
          rw [checkP, if_neg (by omega), ← hWd]
          match k, hk2', hxk, hall, hcode with
          | 0, _, hxk, _, hcode => subst hxk; exact if_pos hcode
          | 1, _, hxk, hall, hcode =>
            subst hxk
            rw [if_neg (by have := hall 0 (by omega); exact fun h => h this)]
            exact if_pos hcode
        refine go_ (hq := ?_)
        rw [← hhd]
        refine go_ (hq := ?_)
        refine W_loop (X := Nat) (fun i => [(1, .pointer (some ⟨c, 0, none⟩)), (2, .pointer (some ⟨r, 0, none⟩)), (3, .int .i64 k), (34, vl), (35, .int .i64 2), (36, .int .i64 k), (4, hd.val), (41, hd.val), (42, .int .i64 xk.length), (43, .int .i64 i)])
          (fun i H' => Ext H H' ∧ Blk H' c 41 [.int .i64 s.bits, hu.val, hf.val] ∧ Blk H' r 28 [.int .i64 0, .int .i64 0] ∧ TM.Own H' H.size 39 vl [hu, hf] ∧ SepL [fB c, fB r, fO vl] ∧ i ≤ xk.length ∧ lf powP W k none xk = lf powP W k (prevAt xk i) (xk.drop i)) (fun i => xk.length - i) 0 ?_ ?_ ?_
        · exact hold_
        · exact ⟨hX, hB_c, hB_r, o_l, (sep_cons (sepa_cons (hs_hB_c_hB_r) (sepa_cons (hs_hB_c_o_l) sepa_nil)) (sep_cons (sepa_cons (hs_hB_r_o_l) sepa_nil) (sep_cons sepa_nil sep_nil))), by omega, rfl⟩
        · clear hX h1 h2 hB_c hB_r o_l hs_hB_c_hB_r hs_hB_c_o_l hs_hB_r_o_l hrow hrows u
          rintro u i H' ⟨hX, hB_c, hB_r, o_l, hS, hi, hlf⟩
          have hXs := hX.size
          have h1 := h10.ext hX
          have h2 := h20.ext hX
          have hrow := hrow0.ext hX
          have hf_o_l : Frs H (fO vl) := o_l.frs (Nat.le_refl _)
          obtain ⟨⟨hs_hB_c_hB_r, hs_hB_c_o_l, -⟩, ⟨⟨hs_hB_r_o_l, -⟩, ⟨⟨-⟩, -⟩⟩⟩ := hS
          refine go_ (hq := ?_)
          refine if_ (ht := fun hi2 => ?_) (hf := fun hi2 => ?_)
          · skip
            have hi' : i < xk.length := by omega
            have hbr := hgx (xk.getD i default) (by rw [List.getD_eq_getElem?_getD, List.getElem?_eq_getElem hi']; exact List.getElem_mem _)
            obtain ⟨⟨hbs1, hbs2⟩, hbz1, hbz2⟩ := hbr
            refine go_ (hq := ?_)
            refine st_alloc fun b H22 hE22 hge_b hB_b => ?_
            have hs_hB_c_hB_b : Apt (fB c) (fB b) := Apt.new hB_c.old (Frs.blk hge_b)
            have hs_hB_r_hB_b : Apt (fB r) (fB b) := Apt.new hB_r.old (Frs.blk hge_b)
            have hs_o_l_hB_b : Apt (fO vl) (fB b) := Apt.new o_l.old (Frs.blk hge_b)
            have hf_hB_b : Frs H (fB b) := Frs.mono (Frs.blk hge_b) hXs
            replace hX := hX.trans hE22
            replace hXs := hX.size
            replace h1 := h10.ext hX
            replace h2 := h20.ext hX
            replace hrow := hrow0.ext hX
            replace hB_c := hB_c.ext hE22
            replace hB_r := hB_r.ext hE22
            replace o_l := o_l.ext hE22
            refine go_ (hq := ?_)
            refine store_ hB_b (h := fun H24 hM24 hsz24 hB_b => ?_)
            replace hX := hX.mut hM24 hf_hB_b
            replace hXs := hX.size
            replace h1 := h10.ext hX
            replace h2 := h20.ext hX
            replace hrow := hrow0.ext hX
            replace hB_c := hB_c.mutF hM24 (hs_hB_c_hB_b.symm)
            replace hB_r := hB_r.mutF hM24 (hs_hB_r_hB_b.symm)
            replace o_l := o_l.mutF hM24 (hs_o_l_hB_b.symm)
            refine go_ (hq := ?_)
            refine draw_ mixed (Q := _) 0 [0,1,2,3,4,5,6,7,8,9,10,11,12,13,14,15,16,17,18,19,20,21,22,23,24,25,26,27,28,29,30,31,32,33,34,35] (h := ?_)
            refine go_ (hq := ?_)
            refine call_ (hc := power_spec _ hbz2) (h := ?_)
            rintro v28 H28 ⟨rfl, hE28⟩
            replace hX := hX.trans hE28
            replace hXs := hX.size
            replace h1 := h10.ext hX
            replace h2 := h20.ext hX
            replace hrow := hrow0.ext hX
            replace hB_c := hB_c.ext hE28
            replace hB_r := hB_r.ext hE28
            replace o_l := o_l.ext hE28
            replace hB_b := hB_b.ext hE28
            simp only [put]
            refine go_ (hq := ?_)
            refine st_g0 rfl at_ (fun hg => q_rem lg_ lg_ (remG (powP_pos _) hg)) ?_
            refine go_ (hq := ?_)
            refine if_ (ht := fun h3 => ?_) (hf := fun h3 => ?_)
            · skip
              rw [hW, ← hWd, bad_iff powP_pos hW1 hW30 hbs1] at h3
              refine go_ (hq := ?_)
              refine call_ (hc := bfault_spec _ _) (h := ?_)
              rintro v33 H33 ⟨rfl, hE33⟩
              replace hX := hX.trans hE33
              replace hXs := hX.size
              replace h1 := h10.ext hX
              replace h2 := h20.ext hX
              replace hrow := hrow0.ext hX
              replace hB_c := hB_c.ext hE33
              replace hB_r := hB_r.ext hE33
              replace o_l := o_l.ext hE33
              replace hB_b := hB_b.ext hE33
              simp only [put]
              refine go_ (hq := ?_)
              refine store_ hB_r (h := fun H35 hM35 hsz35 hB_r => ?_)
              replace hX := hX.mut hM35 hf_hB_r
              replace hXs := hX.size
              replace h1 := h10.ext hX
              replace h2 := h20.ext hX
              replace hrow := hrow0.ext hX
              replace hB_c := hB_c.mutF hM35 (hs_hB_c_hB_r.symm)
              replace o_l := o_l.mutF hM35 hs_hB_r_o_l
              replace hB_b := hB_b.mutF hM35 hs_hB_r_hB_b
              refine go_ (hq := ?_)
              refine retc_ hB_r (h := ?_)
              have e1 : lf powP W k none xk = ⟨3, k⟩ := by rw [hlf, lf_step _ _ _ _ _ hi', if_pos h3]
              have e2 := hfin (by rw [e1]; simp)
              rw [e1] at e2
              refine ⟨?_, hX⟩
              obtain ⟨l', p1, p2⟩ := sorted_ex (s.used ++ s.free)
              exact ⟨l', p1, p2, by rw [e2 l']⟩
            · skip
              rw [hW, ← hWd, bad_iff powP_pos hW1 hW30 hbs1] at h3
              refine go_ (hq := ?_)
              refine draw_ mixed (Q := _) 0 [0,1,2,3,4,5,6,7,8,9,10,11,12] (h := ?_)
              refine go_ (hq := ?_)
              refine if_ (ht := fun h4 => ?_) (hf := fun h4 => ?_)
              · skip
                refine go_ (hq := ?_)
                refine call_ (hc := bfault_spec _ _) (h := ?_)
                rintro v42 H42 ⟨rfl, hE42⟩
                replace hX := hX.trans hE42
                replace hXs := hX.size
                replace h1 := h10.ext hX
                replace h2 := h20.ext hX
                replace hrow := hrow0.ext hX
                replace hB_c := hB_c.ext hE42
                replace hB_r := hB_r.ext hE42
                replace o_l := o_l.ext hE42
                replace hB_b := hB_b.ext hE42
                simp only [put]
                refine go_ (hq := ?_)
                refine store_ hB_r (h := fun H44 hM44 hsz44 hB_r => ?_)
                replace hX := hX.mut hM44 hf_hB_r
                replace hXs := hX.size
                replace h1 := h10.ext hX
                replace h2 := h20.ext hX
                replace hrow := hrow0.ext hX
                replace hB_c := hB_c.mutF hM44 (hs_hB_c_hB_r.symm)
                replace o_l := o_l.mutF hM44 hs_hB_r_o_l
                replace hB_b := hB_b.mutF hM44 hs_hB_r_hB_b
                refine go_ (hq := ?_)
                refine retc_ hB_r (h := ?_)
                have e1 : lf powP W k none xk = ⟨5, k⟩ := by rw [hlf, lf_step _ _ _ _ _ hi', if_neg h3, if_pos (by rwa [show (i : Int) - 1 = ((i - 1 : Nat) : Int) by omega, Int.toNat_natCast] at h4)]
                have e2 := hfin (by rw [e1]; simp)
                rw [e1] at e2
                refine ⟨?_, hX⟩
                obtain ⟨l', p1, p2⟩ := sorted_ex (s.used ++ s.free)
                exact ⟨l', p1, p2, by rw [e2 l']⟩
              · skip
                refine go_ (hq := ?_)
                refine ⟨i + 1, hold_, ⟨hX, hB_c, hB_r, o_l, (sep_cons (sepa_cons (hs_hB_c_hB_r) (sepa_cons (hs_hB_c_o_l) sepa_nil)) (sep_cons (sepa_cons (hs_hB_r_o_l) sepa_nil) (sep_cons sepa_nil sep_nil))), by omega, ?_⟩, by omega⟩
                rw [hlf, lf_step _ _ _ _ _ hi', if_neg h3, if_neg]
                intro h5
                apply h4
                rwa [show (i : Int) - 1 = ((i - 1 : Nat) : Int) by omega, Int.toNat_natCast]
          · skip
            have hie : i = xk.length := by omega
            subst hie
            rw [List.drop_length] at hlf
            have hz : lf powP W k none xk = ⟨0, 0⟩ := by
              rw [hlf]; cases prevAt xk xk.length <;> rfl
            refine go_ (hq := ?_)
            refine ⟨k + 1, hold_, ⟨hX, hB_c, hB_r, o_l, (sep_cons (sepa_cons (hs_hB_c_hB_r) (sepa_cons (hs_hB_c_o_l) sepa_nil)) (sep_cons (sepa_cons (hs_hB_r_o_l) sepa_nil) (sep_cons sepa_nil sep_nil))), by omega, ?_⟩, by omega⟩
            intro j hj
            by_cases hjk : j = k
            · subst hjk
              rw [← hxk, hz]
            · exact hall j (by omega)
      · skip
        have hk' : k = 2 := by omega
        subst hk'
        have z0 : (lf powP W 0 none s.used).code = 0 := hall 0 (by omega)
        have z1 : (lf powP W 1 none s.free).code = 0 := hall 1 (by omega)
        have hgood : ∀ b ∈ s.used ++ s.free, 0 < b.size ∧ b.size ≤ W := by
          intro b hb
          have hnb : ¬ badW powP W b := by
            rcases List.mem_append.1 hb with hb | hb
            · exact lf_good _ _ _ _ _ z0 b hb
            · exact lf_good _ _ _ _ _ z1 b hb
          have hp : powP b.size = true := Decidable.byContradiction fun hn => hnb (.inl (.inl (.inl (.inl hn))))
          have hs : ¬ W < b.size := fun hn => hnb (.inl (.inr hn))
          exact ⟨powP_pos _ hp, by omega⟩
        have hck : ∀ l', checkP s l' = if chainP 0 l' ≠ some W then ⟨8, 0⟩ else if s.free.any (mated s.bits s.free) then ⟨11, 0⟩ else ⟨0, 0⟩ := by
          intro l'
          rw [checkP, if_neg (by omega), ← hWd, if_neg (fun h => h z0), if_neg (fun h => h z1)]
        refine go_ (hq := ?_)
        refine lit_ [hu, hf] (h := fun vm H49 n_49 hE49 hN49 => ?_)
        have hs_hB_c_o_m : Apt (fB c) (fO vm) := Apt.new hB_c.old (Own.frs n_49 (Nat.le_refl _))
        have hs_hB_r_o_m : Apt (fB r) (fO vm) := Apt.new hB_r.old (Own.frs n_49 (Nat.le_refl _))
        have hs_o_l_o_m : Apt (fO vl) (fO vm) := Apt.new o_l.old (Own.frs n_49 (Nat.le_refl _))
        have hf_o_m : Frs H (fO vm) := Frs.mono (Own.frs n_49 (Nat.le_refl _)) hXs
        have o_m := n_49.mono hXs
        replace hX := hX.trans hE49
        replace hXs := hX.size
        replace h1 := h10.ext hX
        replace h2 := h20.ext hX
        replace hB_c := hB_c.ext hE49
        replace hB_r := hB_r.ext hE49
        replace o_l := o_l.ext hE49
        refine go_ (hq := ?_)
        refine call_ (hc := concatB_spec (hs := [hu, hf]) (xss := [s.used, s.free]) ⟨o_m.sl, Rows.cons h1 (Rows.cons h2 Rows.nil)⟩ (by simp [sumLen]; omega) (by simp)) (h := ?_)
        rintro va H51 ⟨n_51, hE51⟩
        have hs_hB_c_o_a : Apt (fB c) (fO va) := Apt.new hB_c.old (Own.frs n_51 (Nat.le_refl _))
        have hs_hB_r_o_a : Apt (fB r) (fO va) := Apt.new hB_r.old (Own.frs n_51 (Nat.le_refl _))
        have hs_o_l_o_a : Apt (fO vl) (fO va) := Apt.new o_l.old (Own.frs n_51 (Nat.le_refl _))
        have hs_o_m_o_a : Apt (fO vm) (fO va) := Apt.new o_m.old (Own.frs n_51 (Nat.le_refl _))
        have hf_o_a : Frs H (fO va) := Frs.mono (Own.frs n_51 (Nat.le_refl _)) hXs
        have o_a := n_51.mono hXs
        replace hX := hX.trans hE51
        replace hXs := hX.size
        replace h1 := h10.ext hX
        replace h2 := h20.ext hX
        replace hB_c := hB_c.ext hE51
        replace hB_r := hB_r.ext hE51
        replace o_l := o_l.ext hE51
        replace o_m := o_m.ext hE51
        simp only [put]
        have efl : [s.used, s.free].flatten = s.used ++ s.free := by simp
        rw [efl] at o_a
        refine go_ (hq := ?_)
        refine call_ (hc := values_spec o_a.sl) (h := ?_)
        rintro v53 H53 ⟨⟨bv, rfl, hbv⟩, hE53⟩
        replace hX := hX.trans hE53
        replace hXs := hX.size
        replace h1 := h10.ext hX
        replace h2 := h20.ext hX
        replace hB_c := hB_c.ext hE53
        replace hB_r := hB_r.ext hE53
        replace o_l := o_l.ext hE53
        replace o_m := o_m.ext hE53
        replace o_a := o_a.ext hE53
        simp only [put]
        refine go_ (hq := ?_)
        refine call_ (hc := sorted_spec hbv o_a.sl (by rw [List.length_append]; omega)) (h := ?_)
        rintro vs H55 ⟨⟨l', n_55, hperm, hsort⟩, hE55⟩
        have hs_hB_c_o_s : Apt (fB c) (fO vs) := Apt.new hB_c.old (Own.frs n_55 (Nat.le_refl _))
        have hs_hB_r_o_s : Apt (fB r) (fO vs) := Apt.new hB_r.old (Own.frs n_55 (Nat.le_refl _))
        have hs_o_l_o_s : Apt (fO vl) (fO vs) := Apt.new o_l.old (Own.frs n_55 (Nat.le_refl _))
        have hs_o_m_o_s : Apt (fO vm) (fO vs) := Apt.new o_m.old (Own.frs n_55 (Nat.le_refl _))
        have hs_o_a_o_s : Apt (fO va) (fO vs) := Apt.new o_a.old (Own.frs n_55 (Nat.le_refl _))
        have hf_o_s : Frs H (fO vs) := Frs.mono (Own.frs n_55 (Nat.le_refl _)) hXs
        have o_s := n_55.mono hXs
        replace hX := hX.trans hE55
        replace hXs := hX.size
        replace h1 := h10.ext hX
        replace h2 := h20.ext hX
        replace hB_c := hB_c.ext hE55
        replace hB_r := hB_r.ext hE55
        replace o_l := o_l.ext hE55
        replace o_m := o_m.ext hE55
        replace o_a := o_a.ext hE55
        simp only [put]
        clear hbv
        have hll : l'.length = s.used.length + s.free.length := by rw [hperm.length_eq, List.length_append]
        have hgood' : ∀ i, i < l'.length → 0 < (l'.getD i default).size ∧ (l'.getD i default).size ≤ W := fun i hi => hgood _ (hperm.mem_iff.1 (by rw [List.getD_eq_getElem?_getD, List.getElem?_eq_getElem hi]; exact List.getElem_mem _))
        have hbr' : ∀ i, i < l'.length → BR (l'.getD i default) := fun i hi => hr _ (hperm.mem_iff.1 (by rw [List.getD_eq_getElem?_getD, List.getElem?_eq_getElem hi]; exact List.getElem_mem _))
        refine go_ (hq := ?_)
        refine W_loop (X := Nat × Int) (fun x => [(1, .pointer (some ⟨c, 0, none⟩)), (2, .pointer (some ⟨r, 0, none⟩)), (8, .int .i64 x.2), (111, vs), (112, .int .i64 l'.length), (113, .int .i64 x.1)])
          (fun x H' => Ext H H' ∧ Blk H' c 41 [.int .i64 s.bits, hu.val, hf.val] ∧ Blk H' r 28 [.int .i64 0, .int .i64 0] ∧ TM.Own H' H.size 51 vs l' ∧ SepL [fB c, fB r, fO vs] ∧ x.1 ≤ l'.length ∧ chainP 0 l' = chainP x.2 (l'.drop x.1) ∧ 0 ≤ x.2 ∧ x.2 ≤ x.1 * 1073741824) (fun x => l'.length - x.1) (0, 0) ?_ ?_ ?_
        · exact hold_
        · exact ⟨hX, hB_c, hB_r, o_s, (sep_cons (sepa_cons (hs_hB_c_hB_r) (sepa_cons (hs_hB_c_o_s) sepa_nil)) (sep_cons (sepa_cons (hs_hB_r_o_s) sepa_nil) (sep_cons sepa_nil sep_nil))), by dsimp only; omega, rfl, by dsimp only; omega, by dsimp only; omega⟩
        · clear hX h1 h2 hB_c hB_r o_l o_m o_a o_s hs_hB_c_hB_r hs_hB_c_o_s hs_hB_r_o_s u
          rintro u ⟨i, at_⟩ H' ⟨hX, hB_c, hB_r, o_s, hS, hi, hch, ha0, ha1⟩
          dsimp only at hi hch ha0 ha1 ⊢
          have hXs := hX.size
          have h1 := h10.ext hX
          have h2 := h20.ext hX
          have hf_o_s : Frs H (fO vs) := o_s.frs (Nat.le_refl _)
          obtain ⟨⟨hs_hB_c_hB_r, hs_hB_c_o_s, -⟩, ⟨⟨hs_hB_r_o_s, -⟩, ⟨⟨-⟩, -⟩⟩⟩ := hS
          refine go_ (hq := ?_)
          refine if_ (ht := fun hi2 => ?_) (hf := fun hi2 => ?_)
          · skip
            have hi' : i < l'.length := by omega
            obtain ⟨hg1, hg2⟩ := hgood' i hi'
            rw [drop_getD default l' i hi', chainP] at hch
            refine go_ (hq := ?_)
            refine st_alloc fun b H60 hE60 hge_b hB_b => ?_
            have hs_hB_c_hB_b : Apt (fB c) (fB b) := Apt.new hB_c.old (Frs.blk hge_b)
            have hs_hB_r_hB_b : Apt (fB r) (fB b) := Apt.new hB_r.old (Frs.blk hge_b)
            have hs_o_s_hB_b : Apt (fO vs) (fB b) := Apt.new o_s.old (Frs.blk hge_b)
            have hf_hB_b : Frs H (fB b) := Frs.mono (Frs.blk hge_b) hXs
            replace hX := hX.trans hE60
            replace hXs := hX.size
            replace h1 := h10.ext hX
            replace h2 := h20.ext hX
            replace hB_c := hB_c.ext hE60
            replace hB_r := hB_r.ext hE60
            replace o_s := o_s.ext hE60
            refine go_ (hq := ?_)
            refine store_ hB_b (h := fun H62 hM62 hsz62 hB_b => ?_)
            replace hX := hX.mut hM62 hf_hB_b
            replace hXs := hX.size
            replace h1 := h10.ext hX
            replace h2 := h20.ext hX
            replace hB_c := hB_c.mutF hM62 (hs_hB_c_hB_b.symm)
            replace hB_r := hB_r.mutF hM62 (hs_hB_r_hB_b.symm)
            replace o_s := o_s.mutF hM62 (hs_o_s_hB_b.symm)
            refine go_ (hq := ?_)
            refine if_ (ht := fun h3 => ?_) (hf := fun h3 => ?_)
            · skip
              refine go_ (hq := ?_)
              refine call_ (hc := bfault_spec _ _) (h := ?_)
              rintro v66 H66 ⟨rfl, hE66⟩
              replace hX := hX.trans hE66
              replace hXs := hX.size
              replace h1 := h10.ext hX
              replace h2 := h20.ext hX
              replace hB_c := hB_c.ext hE66
              replace hB_r := hB_r.ext hE66
              replace o_s := o_s.ext hE66
              replace hB_b := hB_b.ext hE66
              simp only [put]
              refine go_ (hq := ?_)
              refine store_ hB_r (h := fun H68 hM68 hsz68 hB_r => ?_)
              replace hX := hX.mut hM68 hf_hB_r
              replace hXs := hX.size
              replace h1 := h10.ext hX
              replace h2 := h20.ext hX
              replace hB_c := hB_c.mutF hM68 (hs_hB_c_hB_r.symm)
              replace o_s := o_s.mutF hM68 hs_hB_r_o_s
              replace hB_b := hB_b.mutF hM68 hs_hB_r_hB_b
              refine go_ (hq := ?_)
              refine retc_ hB_r (h := ?_)
              exact ⟨⟨l', hperm, hsort, by rw [hck, if_pos (by rw [hch, if_neg h3]; simp)]⟩, hX⟩
            · skip
              refine go_ (hq := ?_)
              refine ⟨(i + 1, at_ + (l'.getD i default).size), hold_, ⟨hX, hB_c, hB_r, o_s, (sep_cons (sepa_cons (hs_hB_c_hB_r) (sepa_cons (hs_hB_c_o_s) sepa_nil)) (sep_cons (sepa_cons (hs_hB_r_o_s) sepa_nil) (sep_cons sepa_nil sep_nil))), by dsimp only; omega, ?_, by dsimp only; omega, by dsimp only; omega⟩, by dsimp only; omega⟩
              dsimp only
              rw [hch, if_pos (by omega)]
          · skip
            have hie : i = l'.length := by omega
            subst hie
            rw [List.drop_length, chainP] at hch
            refine go_ (hq := ?_)
            refine if_ (ht := fun h3 => ?_) (hf := fun h3 => ?_)
            · skip
              rw [hW, ← hWd] at h3
              refine go_ (hq := ?_)
              refine call_ (hc := bfault_spec _ _) (h := ?_)
              rintro v74 H74 ⟨rfl, hE74⟩
              replace hX := hX.trans hE74
              replace hXs := hX.size
              replace h1 := h10.ext hX
              replace h2 := h20.ext hX
              replace hB_c := hB_c.ext hE74
              replace hB_r := hB_r.ext hE74
              replace o_s := o_s.ext hE74
              simp only [put]
              refine go_ (hq := ?_)
              refine store_ hB_r (h := fun H76 hM76 hsz76 hB_r => ?_)
              replace hX := hX.mut hM76 hf_hB_r
              replace hXs := hX.size
              replace h1 := h10.ext hX
              replace h2 := h20.ext hX
              replace hB_c := hB_c.mutF hM76 (hs_hB_c_hB_r.symm)
              replace o_s := o_s.mutF hM76 hs_hB_r_o_s
              refine go_ (hq := ?_)
              refine retc_ hB_r (h := ?_)
              exact ⟨⟨l', hperm, hsort, by rw [hck, if_pos (by rw [hch]; intro h; cases h; exact h3 rfl)]⟩, hX⟩
            · skip
              rw [hW, ← hWd] at h3
              have hck2 : checkP s l' = if s.free.any (mated s.bits s.free) then ⟨11, 0⟩ else ⟨0, 0⟩ := by rw [hck, if_neg (by rw [hch]; intro h; exact h (by rw [Decidable.not_not.1 h3]))]
              refine go_ (hq := ?_)
              refine call_ (hc := containsFunc_spec (p := mated s.bits s.free) (f := 52) (cap := [.pointer (some ⟨c, 0, none⟩)]) h2 (fun H' x hE hx => checkFn_spec (hB_c.ext hE) (h2.ext hE) hb30.1 x)) (h := ?_)
              rintro v79 H79 ⟨rfl, hE79⟩
              replace hX := hX.trans hE79
              replace hXs := hX.size
              replace h1 := h10.ext hX
              replace h2 := h20.ext hX
              replace hB_c := hB_c.ext hE79
              replace hB_r := hB_r.ext hE79
              replace o_s := o_s.ext hE79
              simp only [put]
              refine go_ (hq := ?_)
              refine if_ (ht := fun h4 => ?_) (hf := fun h4 => ?_)
              · skip
                refine go_ (hq := ?_)
                refine call_ (hc := bfault_spec _ _) (h := ?_)
                rintro v83 H83 ⟨rfl, hE83⟩
                replace hX := hX.trans hE83
                replace hXs := hX.size
                replace h1 := h10.ext hX
                replace h2 := h20.ext hX
                replace hB_c := hB_c.ext hE83
                replace hB_r := hB_r.ext hE83
                replace o_s := o_s.ext hE83
                simp only [put]
                refine go_ (hq := ?_)
                refine store_ hB_r (h := fun H85 hM85 hsz85 hB_r => ?_)
                replace hX := hX.mut hM85 hf_hB_r
                replace hXs := hX.size
                replace h1 := h10.ext hX
                replace h2 := h20.ext hX
                replace hB_c := hB_c.mutF hM85 (hs_hB_c_hB_r.symm)
                replace o_s := o_s.mutF hM85 hs_hB_r_o_s
                refine go_ (hq := ?_)
                refine retc_ hB_r (h := ?_)
                exact ⟨⟨l', hperm, hsort, by rw [hck2, if_pos h4]⟩, hX⟩
              · skip
                refine go_ (hq := ?_)
                refine store_ hB_r (h := fun H88 hM88 hsz88 hB_r => ?_)
                replace hX := hX.mut hM88 hf_hB_r
                replace hXs := hX.size
                replace h1 := h10.ext hX
                replace h2 := h20.ext hX
                replace hB_c := hB_c.mutF hM88 (hs_hB_c_hB_r.symm)
                replace o_s := o_s.mutF hM88 hs_hB_r_o_s
                refine go_ (hq := ?_)
                refine retc_ hB_r (h := ?_)
                exact ⟨⟨l', hperm, hsort, by rw [hck2, if_neg h4]⟩, hX⟩
end Go.Proofs.Ytpkigjlnbfgjcaa
