/- A space's fault, as the document has it. -/
import Derived.Test.YtpkigjlnbfgjcaaU9
namespace Go.Proofs.Ytpkigjlnbfgjcaa
open Go.TM
open Go.TM.Cell (enc)
set_option maxRecDepth 20000
set_option maxHeartbeats 4000000
variable {H : Heap}
def hdAt (at_ : Int) : List BlockD → Bool
  | [] => false
  | x :: _ => decide (x.start = at_)
def mergeR : Nat → Int → List BlockD → List BlockD → Option Int
  | 0, at_, _, _ => some at_
  | n + 1, at_, u, f => if hdAt at_ u then mergeR n (at_ + (u.headD default).size) u.tail f else if hdAt at_ f then mergeR n (at_ + (f.headD default).size) u f.tail else none
def matedR (W : Int) (l : List BlockD) (b : BlockD) : Bool := decide (b.size < W) && decide (0 ≤ ixFrom (mateR b) 0 l)
def faultR (s : SpD) : FaultD :=
  if s.bits < 0 ∨ 30 < s.bits ∨ 5000 < s.used.length + s.free.length then ⟨2, 0⟩
  else if (lf powR (2 ^ s.bits.toNat) 0 none s.used).code ≠ 0 then lf powR (2 ^ s.bits.toNat) 0 none s.used
  else if (lf powR (2 ^ s.bits.toNat) 1 none s.free).code ≠ 0 then lf powR (2 ^ s.bits.toNat) 1 none s.free
  else if mergeR (s.used.length + s.free.length) 0 s.used s.free ≠ some (2 ^ s.bits.toNat) then ⟨8, 0⟩
  else if s.free.any (matedR (2 ^ s.bits.toNat) s.free) then ⟨11, 0⟩ else ⟨0, 0⟩
theorem powR_pos (n : Int) (h : powR n = true) : 0 < n := by
  simp only [powR, List.any_eq_true, decide_eq_true_eq] at h
  obtain ⟨i, _, rfl⟩ := h
  exact Int.pow_pos (by omega)
theorem hdAt_drop (at_ : Int) (l : List BlockD) (i : Nat) : hdAt at_ (l.drop i) = (decide (i < l.length) && decide ((l.getD i default).start = at_)) := by
  by_cases h : i < l.length
  · rw [drop_getD default l i h, hdAt, decide_eq_true h, Bool.true_and]
  · rw [List.drop_of_length_le (by omega), hdAt, decide_eq_false h, Bool.false_and]
theorem spaceFault_walk {hu hf : Hdr} {s : SpD} (h1 : SlE H hu.val s.used) (h2 : SlE H hf.val s.free) (hb : R64x s.bits) (hn : s.used.length ≤ 1000000 ∧ s.free.length ≤ 1000000) (hr : ∀ b ∈ s.used ++ s.free, BR b) :
    CallsH PG 24 #[SpV s.bits hu hf] H fun v H' => v = (faultR s).val ∧ Ext H H' := by
  have lu := h1.len_le; have lfr := h2.len_le
  unfold maxLen at lu lfr
  have h10 := h1
  have h20 := h2
  have hX := Ext.refl H
  have hXs := hX.size
  refine callsH_of_W (args := [SpV s.bits hu hf]) (ρ₀ := (upd (fun _ => undef) 0 (SpV s.bits hu hf))) rfl Try.func24 rfl (by kernel_rfl) ?_
  refine go_ (hq := ?_)
  refine box_ (h := fun c H2 hE2 hge_c hB_c => ?_)
  have hf_hB_c : Frs H (fB c) := Frs.mono (Frs.blk hge_c) hXs
  replace hX := hX.trans hE2
  replace hXs := hX.size
  replace h1 := h10.ext hX
  replace h2 := h20.ext hX
  refine go_ (hq := ?_)
  refine st_alloc fun r H4 hE4 hge_r hB_r => ?_
  have hs_hB_c_hB_r : Apt (fB c) (fB r) := Apt.new hB_c.old (Frs.blk hge_r)
  have hf_hB_r : Frs H (fB r) := Frs.mono (Frs.blk hge_r) hXs
  replace hX := hX.trans hE4
  replace hXs := hX.size
  replace h1 := h10.ext hX
  replace h2 := h20.ext hX
  replace hB_c := hB_c.ext hE4
  refine go_ (hq := ?_)
  refine if_ (ht := fun h => ?_) (hf := fun h => ?_)
  · skip
    refine go_ (hq := ?_)
    refine call_ (hc := F_spec _ _) (h := ?_)
    rintro v8 H8 ⟨rfl, hE8⟩
    replace hX := hX.trans hE8
    replace hXs := hX.size
    replace h1 := h10.ext hX
    replace h2 := h20.ext hX
    replace hB_c := hB_c.ext hE8
    replace hB_r := hB_r.ext hE8
    simp only [put]
    refine go_ (hq := ?_)
    refine store_ hB_r (h := fun H10 hM10 hsz10 hB_r => ?_)
    replace hX := hX.mut hM10 hf_hB_r
    replace hXs := hX.size
    replace h1 := h10.ext hX
    replace h2 := h20.ext hX
    replace hB_c := hB_c.mutF hM10 (hs_hB_c_hB_r.symm)
    refine go_ (hq := ?_)
    refine retc_ hB_r (h := ?_)
    exact ⟨by rw [faultR, if_pos (by omega)], hX⟩
  · skip
    have hb30 : 0 ≤ s.bits ∧ s.bits ≤ 30 := by omega
    have hl5 : s.used.length + s.free.length ≤ 5000 := by omega
    have hW : shlI 1 s.bits = 2 ^ s.bits.toNat := shlI_one (by omega)
    obtain ⟨W, hWd⟩ : ∃ W : Int, W = 2 ^ s.bits.toNat := ⟨_, rfl⟩
    have hW1 : 1 ≤ W := by rw [hWd]; exact Int.pow_pos (by omega)
    have hW30 : W ≤ 1073741824 := by
      rw [hWd]
      have : (2 : Int) ^ s.bits.toNat ≤ 2 ^ 30 := by exact_mod_cast Nat.pow_le_pow_right (by omega) (show s.bits.toNat ≤ 30 by omega)
      omega
    refine go_ (hq := ?_)
    rw [hW, ← hWd]
    refine W_loop (X := Nat) (fun k => [(1, .pointer (some ⟨c, 0, none⟩)), (2, .pointer (some ⟨r, 0, none⟩)), (3, .int .i64 W), (4, .int .i64 k)])
      (fun k H' => Ext H H' ∧ Blk H' c 41 [.int .i64 s.bits, hu.val, hf.val] ∧ Blk H' r 28 [.int .i64 0, .int .i64 0] ∧ SepL [fB c, fB r] ∧ k ≤ 2 ∧ (∀ j, j < k → (lf powR W j none ([s.used, s.free].getD j [])).code = 0)) (fun k => 2 - k) 0 ?_ ?_ ?_
    · exact hold_
    · exact ⟨hX, hB_c, hB_r, (sep_cons (sepa_cons (hs_hB_c_hB_r) sepa_nil) (sep_cons sepa_nil sep_nil)), by omega, fun j hj => by omega⟩
    · clear hX h1 h2 hB_c hB_r hs_hB_c_hB_r
      rintro u k H' ⟨hX, hB_c, hB_r, hS, hk, hall⟩
      have hXs := hX.size
      have h1 := h10.ext hX
      have h2 := h20.ext hX
      obtain ⟨⟨hs_hB_c_hB_r, -⟩, ⟨⟨-⟩, -⟩⟩ := hS
      refine go_ (hq := ?_)
      refine if_ (ht := fun hk2 => ?_) (hf := fun hk2 => ?_)
      · skip
        obtain ⟨hd, hhd⟩ : ∃ hd, hd = [hu, hf].getD k default := ⟨_, rfl⟩
        obtain ⟨xk, hxk⟩ : ∃ xk, xk = [s.used, s.free].getD k [] := ⟨_, rfl⟩
        have hrow0 := (Rows.cons h10 (Rows.cons h20 Rows.nil)).at_ k (by simp; omega)
        rw [← hhd, ← hxk] at hrow0
        have hk2' : k < 2 := by omega
        have hgx : ∀ b ∈ xk, BR b := fun b hb => hr b (by
          rw [hxk] at hb
          match k, hk2', hb with
          | 0, _, hb => exact List.mem_append.2 (.inl hb)
          | 1, _, hb => exact List.mem_append.2 (.inr hb))
        have hlx : xk.length ≤ 5000 := by
          rw [hxk]
          match k, hk2' with
          | 0, _ => show s.used.length ≤ 5000; omega
          | 1, _ => show s.free.length ≤ 5000; omega
        have hfin : lf powR W k none xk ≠ ⟨0, 0⟩ → faultR s = lf powR W k none xk := by
          intro hne
          have hcode : (lf powR W k none xk).code ≠ 0 := fun hc => hne (lf_zero _ _ _ _ _ hc)
          rw [faultR, if_neg (by omega), ← hWd]
          match k, hk2', hxk, hall, hcode with
          | 0, _, hxk, _, hcode => subst hxk; exact if_pos hcode
          | 1, _, hxk, hall, hcode =>
            subst hxk
            rw [if_neg (by have := hall 0 (by omega); exact fun h => h this)]
            exact if_pos hcode
        refine go_ (hq := ?_)
        refine W_cutQ (X := Unit) (fun _ => [(1, .pointer (some ⟨c, 0, none⟩)), (2, .pointer (some ⟨r, 0, none⟩)), (3, .int .i64 W), (4, .int .i64 k), (5, hd.val)]) (fun _ H2 => H2 = H') ?_ ?_
        · skip
          refine if_ (ht := fun hk1 => ?_) (hf := fun hk1 => ?_)
          · skip
            have e1 : hd = hf := by rw [hhd, show k = 1 by omega]; rfl
            refine go_ (hq := ?_)
            exact ⟨(), by rw [e1]; exact hold_, rfl⟩
          · skip
            have e1 : hd = hu := by rw [hhd, show k = 0 by omega]; rfl
            refine go_ (hq := ?_)
            exact ⟨(), by rw [e1]; exact hold_, rfl⟩
        clear u
        rintro u _ H2 rfl
        refine go_ (hq := ?_)
        refine W_loop (X := Nat) (fun i => [(1, .pointer (some ⟨c, 0, none⟩)), (2, .pointer (some ⟨r, 0, none⟩)), (3, .int .i64 W), (4, .int .i64 k), (5, hd.val), (6, .int .i64 i)])
          (fun i H' => Ext H H' ∧ Blk H' c 41 [.int .i64 s.bits, hu.val, hf.val] ∧ Blk H' r 28 [.int .i64 0, .int .i64 0] ∧ SepL [fB c, fB r] ∧ i ≤ xk.length ∧ lf powR W k none xk = lf powR W k (prevAt xk i) (xk.drop i)) (fun i => xk.length - i) 0 ?_ ?_ ?_
        · exact hold_
        · exact ⟨hX, hB_c, hB_r, (sep_cons (sepa_cons (hs_hB_c_hB_r) sepa_nil) (sep_cons sepa_nil sep_nil)), by omega, rfl⟩
        · clear hX h1 h2 hB_c hB_r hs_hB_c_hB_r u
          rintro u i H' ⟨hX, hB_c, hB_r, hS, hi, hlf⟩
          have hXs := hX.size
          have h1 := h10.ext hX
          have h2 := h20.ext hX
          have hrow := hrow0.ext hX
          obtain ⟨⟨hs_hB_c_hB_r, -⟩, ⟨⟨-⟩, -⟩⟩ := hS
          refine go_ (hq := ?_)
          refine if_ (ht := fun hi2 => ?_) (hf := fun hi2 => ?_)
          · skip
            have hi' : i < xk.length := by omega
            have hbr := hgx (xk.getD i default) (by rw [List.getD_eq_getElem?_getD, List.getElem?_eq_getElem hi']; exact List.getElem_mem _)
            obtain ⟨⟨hbs1, hbs2⟩, hbz1, hbz2⟩ := hbr
            refine go_ (hq := ?_)
            refine st_alloc fun b H23 hE23 hge_b hB_b => ?_
            have hs_hB_c_hB_b : Apt (fB c) (fB b) := Apt.new hB_c.old (Frs.blk hge_b)
            have hs_hB_r_hB_b : Apt (fB r) (fB b) := Apt.new hB_r.old (Frs.blk hge_b)
            have hf_hB_b : Frs H (fB b) := Frs.mono (Frs.blk hge_b) hXs
            replace hX := hX.trans hE23
            replace hXs := hX.size
            replace h1 := h10.ext hX
            replace h2 := h20.ext hX
            replace hrow := hrow0.ext hX
            replace hB_c := hB_c.ext hE23
            replace hB_r := hB_r.ext hE23
            refine go_ (hq := ?_)
            refine store_ hB_b (h := fun H25 hM25 hsz25 hB_b => ?_)
            replace hX := hX.mut hM25 hf_hB_b
            replace hXs := hX.size
            replace h1 := h10.ext hX
            replace h2 := h20.ext hX
            replace hrow := hrow0.ext hX
            replace hB_c := hB_c.mutF hM25 (hs_hB_c_hB_b.symm)
            replace hB_r := hB_r.mutF hM25 (hs_hB_r_hB_b.symm)
            refine go_ (hq := ?_)
            refine call_ (hc := isPower_spec _) (h := ?_)
            rintro v27 H27 ⟨rfl, hE27⟩
            replace hX := hX.trans hE27
            replace hXs := hX.size
            replace h1 := h10.ext hX
            replace h2 := h20.ext hX
            replace hrow := hrow0.ext hX
            replace hB_c := hB_c.ext hE27
            replace hB_r := hB_r.ext hE27
            replace hB_b := hB_b.ext hE27
            simp only [put]
            refine go_ (hq := ?_)
            refine st_g0 rfl at_ (fun hg => q_rem lg_ lg_ (remG (powR_pos _) hg)) ?_
            refine go_ (hq := ?_)
            refine if_ (ht := fun h3 => ?_) (hf := fun h3 => ?_)
            · skip
              rw [bad_iff powR_pos hW1 hW30 hbs1] at h3
              refine go_ (hq := ?_)
              refine call_ (hc := F_spec _ _) (h := ?_)
              rintro v32 H32 ⟨rfl, hE32⟩
              replace hX := hX.trans hE32
              replace hXs := hX.size
              replace h1 := h10.ext hX
              replace h2 := h20.ext hX
              replace hrow := hrow0.ext hX
              replace hB_c := hB_c.ext hE32
              replace hB_r := hB_r.ext hE32
              replace hB_b := hB_b.ext hE32
              simp only [put]
              refine go_ (hq := ?_)
              refine store_ hB_r (h := fun H34 hM34 hsz34 hB_r => ?_)
              replace hX := hX.mut hM34 hf_hB_r
              replace hXs := hX.size
              replace h1 := h10.ext hX
              replace h2 := h20.ext hX
              replace hrow := hrow0.ext hX
              replace hB_c := hB_c.mutF hM34 (hs_hB_c_hB_r.symm)
              replace hB_b := hB_b.mutF hM34 hs_hB_r_hB_b
              refine go_ (hq := ?_)
              refine retc_ hB_r (h := ?_)
              have e1 : lf powR W k none xk = ⟨3, k⟩ := by rw [hlf, lf_step _ _ _ _ _ hi', if_pos h3]
              have e2 := hfin (by rw [e1]; simp)
              rw [e1] at e2
              exact ⟨by rw [e2], hX⟩
            · skip
              rw [bad_iff powR_pos hW1 hW30 hbs1] at h3
              refine go_ (hq := ?_)
              refine draw_ mixed (Q := _) 0 [0,1,2,3,4,5,6,7,8,9,10,11,12] (h := ?_)
              refine go_ (hq := ?_)
              refine if_ (ht := fun h4 => ?_) (hf := fun h4 => ?_)
              · skip
                refine go_ (hq := ?_)
                refine call_ (hc := F_spec _ _) (h := ?_)
                rintro v41 H41 ⟨rfl, hE41⟩
                replace hX := hX.trans hE41
                replace hXs := hX.size
                replace h1 := h10.ext hX
                replace h2 := h20.ext hX
                replace hrow := hrow0.ext hX
                replace hB_c := hB_c.ext hE41
                replace hB_r := hB_r.ext hE41
                replace hB_b := hB_b.ext hE41
                simp only [put]
                refine go_ (hq := ?_)
                refine store_ hB_r (h := fun H43 hM43 hsz43 hB_r => ?_)
                replace hX := hX.mut hM43 hf_hB_r
                replace hXs := hX.size
                replace h1 := h10.ext hX
                replace h2 := h20.ext hX
                replace hrow := hrow0.ext hX
                replace hB_c := hB_c.mutF hM43 (hs_hB_c_hB_r.symm)
                replace hB_b := hB_b.mutF hM43 hs_hB_r_hB_b
                refine go_ (hq := ?_)
                refine retc_ hB_r (h := ?_)
                have e1 : lf powR W k none xk = ⟨5, k⟩ := by rw [hlf, lf_step _ _ _ _ _ hi', if_neg h3, if_pos (by rwa [show (i : Int) - 1 = ((i - 1 : Nat) : Int) by omega, Int.toNat_natCast] at h4)]
                have e2 := hfin (by rw [e1]; simp)
                rw [e1] at e2
                exact ⟨by rw [e2], hX⟩
              · skip
                refine go_ (hq := ?_)
                refine ⟨i + 1, hold_, ⟨hX, hB_c, hB_r, (sep_cons (sepa_cons (hs_hB_c_hB_r) sepa_nil) (sep_cons sepa_nil sep_nil)), by omega, ?_⟩, by omega⟩
                rw [hlf, lf_step _ _ _ _ _ hi', if_neg h3, if_neg]
                intro h5
                apply h4
                rwa [show (i : Int) - 1 = ((i - 1 : Nat) : Int) by omega, Int.toNat_natCast]
          · skip
            have hie : i = xk.length := by omega
            subst hie
            rw [List.drop_length] at hlf
            have hz : lf powR W k none xk = ⟨0, 0⟩ := by
              rw [hlf]; cases prevAt xk xk.length <;> rfl
            refine go_ (hq := ?_)
            refine ⟨k + 1, hold_, ⟨hX, hB_c, hB_r, (sep_cons (sepa_cons (hs_hB_c_hB_r) sepa_nil) (sep_cons sepa_nil sep_nil)), by omega, ?_⟩, by omega⟩
            intro j hj
            by_cases hjk : j = k
            · subst hjk
              rw [← hxk, hz]
            · exact hall j (by omega)
      · skip
        have hk' : k = 2 := by omega
        subst hk'
        have z0 : (lf powR W 0 none s.used).code = 0 := hall 0 (by omega)
        have z1 : (lf powR W 1 none s.free).code = 0 := hall 1 (by omega)
        have hgood : ∀ b ∈ s.used ++ s.free, ¬ badW powR W b := by
          intro b hb
          rcases List.mem_append.1 hb with hb | hb
          · exact lf_good _ _ _ _ _ z0 b hb
          · exact lf_good _ _ _ _ _ z1 b hb
        have hgs : ∀ b ∈ s.used ++ s.free, 0 < b.size ∧ b.size ≤ W ∧ 0 ≤ b.start ∧ b.start ≤ W := by
          intro b hb
          have hnb := hgood b hb
          have hp : powR b.size = true := Decidable.byContradiction fun hn => hnb (.inl (.inl (.inl (.inl hn))))
          have hs : ¬ W < b.size := fun hn => hnb (.inl (.inr hn))
          have h0 : ¬ b.start < 0 := fun hn => hnb (.inl (.inl (.inl (.inr hn))))
          have h9 : ¬ W - b.size < b.start := fun hn => hnb (.inr hn)
          have := powR_pos _ hp
          omega
        have hck : faultR s = if mergeR (s.used.length + s.free.length) 0 s.used s.free ≠ some W then ⟨8, 0⟩ else if s.free.any (matedR W s.free) then ⟨11, 0⟩ else ⟨0, 0⟩ := by
          rw [faultR, if_neg (by omega), ← hWd, if_neg (fun h => h z0), if_neg (fun h => h z1)]
        have gu : ∀ i, i < s.used.length → 0 < (s.used.getD i default).size ∧ (s.used.getD i default).size ≤ W := fun i hi => by
          have := hgs (s.used.getD i default) (List.mem_append.2 (.inl (by rw [List.getD_eq_getElem?_getD, List.getElem?_eq_getElem hi]; exact List.getElem_mem _)))
          omega
        have gf : ∀ i, i < s.free.length → 0 < (s.free.getD i default).size ∧ (s.free.getD i default).size ≤ W ∧ 0 ≤ (s.free.getD i default).start ∧ (s.free.getD i default).start ≤ W := fun i hi => 
          hgs (s.free.getD i default) (List.mem_append.2 (.inr (by rw [List.getD_eq_getElem?_getD, List.getElem?_eq_getElem hi]; exact List.getElem_mem _)))
        refine go_ (hq := ?_)
        refine W_loop (X := Nat × Nat × Int) (fun x => [(1, .pointer (some ⟨c, 0, none⟩)), (2, .pointer (some ⟨r, 0, none⟩)), (3, .int .i64 W), (8, .int .i64 x.2.2), (9, .int .i64 x.1), (10, .int .i64 x.2.1)])
          (fun x H' => Ext H H' ∧ Blk H' c 41 [.int .i64 s.bits, hu.val, hf.val] ∧ Blk H' r 28 [.int .i64 0, .int .i64 0] ∧ SepL [fB c, fB r] ∧ x.1 ≤ s.used.length ∧ x.2.1 ≤ s.free.length ∧ mergeR (s.used.length + s.free.length) 0 s.used s.free = mergeR (s.used.length - x.1 + (s.free.length - x.2.1)) x.2.2 (s.used.drop x.1) (s.free.drop x.2.1) ∧ 0 ≤ x.2.2 ∧ x.2.2 ≤ (x.1 + x.2.1) * 1073741824) (fun x => (s.used.length - x.1) + (s.free.length - x.2.1)) (0, 0, 0) ?_ ?_ ?_
        · exact hold_
        · exact ⟨hX, hB_c, hB_r, (sep_cons (sepa_cons (hs_hB_c_hB_r) sepa_nil) (sep_cons sepa_nil sep_nil)), by dsimp only; omega, by dsimp only; omega, rfl, by dsimp only; omega, by dsimp only; omega⟩
        · clear hX h1 h2 hB_c hB_r hs_hB_c_hB_r u
          rintro u ⟨i, j, at_⟩ H' ⟨hX, hB_c, hB_r, hS, hi, hj, hmg, ha0, ha1⟩
          dsimp only at hi hj hmg ha0 ha1 ⊢
          have hXs := hX.size
          have h1 := h10.ext hX
          have h2 := h20.ext hX
          obtain ⟨⟨hs_hB_c_hB_r, -⟩, ⟨⟨-⟩, -⟩⟩ := hS
          refine go_ (hq := ?_)
          refine if_ (ht := fun hij => ?_) (hf := fun hij => ?_)
          · skip
            have hm1 : s.used.length - i + (s.free.length - j) = (s.used.length - i + (s.free.length - j) - 1) + 1 := by omega
            rw [hm1, mergeR, hdAt_drop, hdAt_drop] at hmg
            refine go_ (hq := ?_)
            refine if_ (ht := fun h3 => ?_) (hf := fun h3 => ?_)
            · skip
              have hi' : i < s.used.length := by omega
              have := gu i hi'
              rw [if_pos (by simpa using ⟨hi', h3.2⟩), drop_getD default s.used i hi', List.headD_cons, List.tail_cons] at hmg
              refine go_ (hq := ?_)
              refine ⟨(i + 1, j, at_ + (s.used.getD i default).size), hold_, ⟨hX, hB_c, hB_r, (sep_cons (sepa_cons (hs_hB_c_hB_r) sepa_nil) (sep_cons sepa_nil sep_nil)), by dsimp only; omega, by dsimp only; omega, ?_, by dsimp only; omega, by dsimp only; omega⟩, by dsimp only; omega⟩
              dsimp only
              rw [hmg]
              congr 1
              omega
            · skip
              rw [if_neg (by intro h; apply h3; simp at h; exact ⟨by omega, h.2⟩)] at hmg
              refine go_ (hq := ?_)
              refine if_ (ht := fun h4 => ?_) (hf := fun h4 => ?_)
              · skip
                have hj' : j < s.free.length := by omega
                have := gf j hj'
                rw [if_pos (by simpa using ⟨hj', h4.2⟩), drop_getD default s.free j hj', List.headD_cons, List.tail_cons] at hmg
                refine go_ (hq := ?_)
                refine ⟨(i, j + 1, at_ + (s.free.getD j default).size), hold_, ⟨hX, hB_c, hB_r, (sep_cons (sepa_cons (hs_hB_c_hB_r) sepa_nil) (sep_cons sepa_nil sep_nil)), by dsimp only; omega, by dsimp only; omega, ?_, by dsimp only; omega, by dsimp only; omega⟩, by dsimp only; omega⟩
                dsimp only
                rw [hmg]
                congr 1
                omega
              · skip
                rw [if_neg (by intro h; apply h4; simp at h; exact ⟨by omega, h.2⟩)] at hmg
                refine go_ (hq := ?_)
                refine call_ (hc := F_spec _ _) (h := ?_)
                rintro v57 H57 ⟨rfl, hE57⟩
                replace hX := hX.trans hE57
                replace hXs := hX.size
                replace h1 := h10.ext hX
                replace h2 := h20.ext hX
                replace hB_c := hB_c.ext hE57
                replace hB_r := hB_r.ext hE57
                simp only [put]
                refine go_ (hq := ?_)
                refine store_ hB_r (h := fun H59 hM59 hsz59 hB_r => ?_)
                replace hX := hX.mut hM59 hf_hB_r
                replace hXs := hX.size
                replace h1 := h10.ext hX
                replace h2 := h20.ext hX
                replace hB_c := hB_c.mutF hM59 (hs_hB_c_hB_r.symm)
                refine go_ (hq := ?_)
                refine retc_ hB_r (h := ?_)
                exact ⟨by rw [hck, if_pos (by rw [hmg]; simp)], hX⟩
          · skip
            have hm0 : s.used.length - i + (s.free.length - j) = 0 := by omega
            rw [hm0, mergeR] at hmg
            refine go_ (hq := ?_)
            refine if_ (ht := fun h3 => ?_) (hf := fun h3 => ?_)
            · skip
              refine go_ (hq := ?_)
              refine call_ (hc := F_spec _ _) (h := ?_)
              rintro v64 H64 ⟨rfl, hE64⟩
              replace hX := hX.trans hE64
              replace hXs := hX.size
              replace h1 := h10.ext hX
              replace h2 := h20.ext hX
              replace hB_c := hB_c.ext hE64
              replace hB_r := hB_r.ext hE64
              simp only [put]
              refine go_ (hq := ?_)
              refine store_ hB_r (h := fun H66 hM66 hsz66 hB_r => ?_)
              replace hX := hX.mut hM66 hf_hB_r
              replace hXs := hX.size
              replace h1 := h10.ext hX
              replace h2 := h20.ext hX
              replace hB_c := hB_c.mutF hM66 (hs_hB_c_hB_r.symm)
              refine go_ (hq := ?_)
              refine retc_ hB_r (h := ?_)
              exact ⟨by rw [hck, if_pos (by rw [hmg]; intro h; cases h; exact h3 rfl)], hX⟩
            · skip
              have hck2 : faultR s = if s.free.any (matedR W s.free) then ⟨11, 0⟩ else ⟨0, 0⟩ := by rw [hck, if_neg (by rw [hmg]; intro h; exact h (by rw [Decidable.not_not.1 h3]))]
              refine go_ (hq := ?_)
              refine W_loop (X := Nat) (fun i => [(1, .pointer (some ⟨c, 0, none⟩)), (2, .pointer (some ⟨r, 0, none⟩)), (3, .int .i64 W), (11, .int .i64 i)])
                (fun i H' => Ext H H' ∧ Blk H' c 41 [.int .i64 s.bits, hu.val, hf.val] ∧ Blk H' r 28 [.int .i64 0, .int .i64 0] ∧ SepL [fB c, fB r] ∧ i ≤ s.free.length ∧ s.free.any (matedR W s.free) = (s.free.drop i).any (matedR W s.free)) (fun i => s.free.length - i) 0 ?_ ?_ ?_
              · exact hold_
              · exact ⟨hX, hB_c, hB_r, (sep_cons (sepa_cons (hs_hB_c_hB_r) sepa_nil) (sep_cons sepa_nil sep_nil)), by omega, rfl⟩
              · clear hX h1 h2 hB_c hB_r hs_hB_c_hB_r u hi hmg h3 hij hm0
                rintro u i H' ⟨hX, hB_c, hB_r, hS, hi, hany⟩
                have hXs := hX.size
                have h1 := h10.ext hX
                have h2 := h20.ext hX
                obtain ⟨⟨hs_hB_c_hB_r, -⟩, ⟨⟨-⟩, -⟩⟩ := hS
                refine go_ (hq := ?_)
                refine if_ (ht := fun hi2 => ?_) (hf := fun hi2 => ?_)
                · skip
                  have hi' : i < s.free.length := by omega
                  have hg := gf i hi'
                  rw [drop_getD default s.free i hi', List.any_cons] at hany
                  refine go_ (hq := ?_)
                  refine draw_ mixed (Q := _) 0 [0,1,2,3,4,5,6,7,8,9,10,11,12,13,14,15,16,17,18,19] (h := ?_)
                  refine go_ (hq := ?_)
                  by_cases hlt : (s.free.getD i default).size < W
                  · skip
                    have hgd : (decide ((s.free.getD i default).size < W) == true) = true := by rw [decide_eq_true hlt]; rfl
                    rw [show Value.agg (enc (s.free.getD i default)).toArray = (s.free.getD i default).val from rfl]
                    refine callg_ hgd (hc := mateR_spec (s.free.getD i default) (by omega) (by omega)) (h := ?_)
                    rintro v9 H9 ⟨rfl, hE9⟩
                    replace hX := hX.trans hE9
                    replace hXs := hX.size
                    replace h1 := h10.ext hX
                    replace h2 := h20.ext hX
                    replace hB_c := hB_c.ext hE9
                    replace hB_r := hB_r.ext hE9
                    refine go_ (hq := ?_)
                    refine callg_ hgd (hc := findBlock_spec h2 (mateR (s.free.getD i default))) (h := ?_)
                    rintro v8 H8 ⟨rfl, hE8⟩
                    replace hX := hX.trans hE8
                    replace hXs := hX.size
                    replace h1 := h10.ext hX
                    replace h2 := h20.ext hX
                    replace hB_c := hB_c.ext hE8
                    replace hB_r := hB_r.ext hE8
                    refine go_ (hq := ?_)
                    refine if_ (ht := fun h5 => ?_) (hf := fun h5 => ?_)
                    · skip
                      refine go_ (hq := ?_)
                      refine call_ (hc := F_spec _ _) (h := ?_)
                      rintro v80 H80 ⟨rfl, hE80⟩
                      replace hX := hX.trans hE80
                      replace hXs := hX.size
                      replace h1 := h10.ext hX
                      replace h2 := h20.ext hX
                      replace hB_c := hB_c.ext hE80
                      replace hB_r := hB_r.ext hE80
                      simp only [put]
                      refine go_ (hq := ?_)
                      refine store_ hB_r (h := fun H82 hM82 hsz82 hB_r => ?_)
                      replace hX := hX.mut hM82 hf_hB_r
                      replace hXs := hX.size
                      replace h1 := h10.ext hX
                      replace h2 := h20.ext hX
                      replace hB_c := hB_c.mutF hM82 (hs_hB_c_hB_r.symm)
                      refine go_ (hq := ?_)
                      refine retc_ hB_r (h := ?_)
                      have hm : matedR W s.free (s.free.getD i default) = true := by rw [matedR, decide_eq_true h5.1, decide_eq_true h5.2]; rfl
                      exact ⟨by rw [hck2, hany, hm]; rfl, hX⟩
                    · skip
                      have hm : matedR W s.free (s.free.getD i default) = false := by
                        cases hmm : matedR W s.free (s.free.getD i default) with
                        | false => rfl
                        | true => rw [matedR, Bool.and_eq_true, decide_eq_true_eq, decide_eq_true_eq] at hmm; exact absurd hmm h5
                      refine go_ (hq := ?_)
                      exact ⟨i + 1, hold_, ⟨hX, hB_c, hB_r, (sep_cons (sepa_cons (hs_hB_c_hB_r) sepa_nil) (sep_cons sepa_nil sep_nil)), by omega, by rw [hany, hm]; rfl⟩, by omega⟩
                  · skip
                    have hgd : (decide ((s.free.getD i default).size < W) == true) = false := by rw [decide_eq_false hlt]; rfl
                    have hm : matedR W s.free (s.free.getD i default) = false := by rw [matedR, decide_eq_false hlt, Bool.false_and]
                    refine skipg_ (mateR (s.free.getD i default)).val hgd (h := ?_)
                    refine go_ (hq := ?_)
                    refine skipg_ (.int .i64 (-1)) hgd (h := ?_)
                    refine go_ (hq := ?_)
                    refine if_ (ht := fun h5 => ?_) (hf := fun h5 => ?_)
                    · exact absurd h5.1 hlt
                    · skip
                      refine go_ (hq := ?_)
                      exact ⟨i + 1, hold_, ⟨hX, hB_c, hB_r, (sep_cons (sepa_cons (hs_hB_c_hB_r) sepa_nil) (sep_cons sepa_nil sep_nil)), by omega, by rw [hany, hm]; rfl⟩, by omega⟩
                · skip
                  rw [List.drop_of_length_le (by omega)] at hany
                  refine go_ (hq := ?_)
                  refine store_ hB_r (h := fun H90 hM90 hsz90 hB_r => ?_)
                  replace hX := hX.mut hM90 hf_hB_r
                  replace hXs := hX.size
                  replace h1 := h10.ext hX
                  replace h2 := h20.ext hX
                  replace hB_c := hB_c.mutF hM90 (hs_hB_c_hB_r.symm)
                  refine go_ (hq := ?_)
                  refine retc_ hB_r (h := ?_)
                  exact ⟨by rw [hck2, hany]; rfl, hX⟩
end Go.Proofs.Ytpkigjlnbfgjcaa
