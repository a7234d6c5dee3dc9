/- Take. -/
import Derived.Test.YtpkigjlnbfgjcaaUB
namespace Go.Proofs.Ytpkigjlnbfgjcaa
open Go.TM
open Go.TM.Cell (enc)
set_option maxRecDepth 20000
set_option maxHeartbeats 4000000
variable {H : Heap}
theorem sp0_is (H : Heap) : SpIs H (.agg #[.int .i64 0, .slice none 0 0, .slice none 0 0]) sp0 := ⟨⟨none, 0, 0⟩, ⟨none, 0, 0⟩, rfl, SlE.nil _, SlE.nil _⟩
/-- A space whose rows are fresh since a heap of B blocks. -/
def SpOwn (H : Heap) (B : Nat) (v : Value) (s : SpD) : Prop := ∃ hu hf : Hdr, v = SpV s.bits hu hf ∧ Own H B 51 hu.val s.used ∧ Own H B 51 hf.val s.free
theorem sp0_own (H : Heap) (B : Nat) : SpOwn H B (.agg #[.int .i64 0, .slice none 0 0, .slice none 0 0]) sp0 := ⟨⟨none, 0, 0⟩, ⟨none, 0, 0⟩, rfl, Own.nil _ _ _, Own.nil _ _ _⟩
theorem take_spec {hu hf : Hdr} {s : SpD} (n : Int) (h1 : SlE H hu.val s.used) (h2 : SlE H hf.val s.free) (hb : R64x s.bits) (hn : s.used.length ≤ 1000000 ∧ s.free.length ≤ 1000000) (hr : ∀ b ∈ s.used ++ s.free, BR b) :
    CallsH PG 22 #[SpV s.bits hu hf, .int .i64 n] H fun v H' => ∃ sv, v = .tuple #[sv, .int .i64 (takeV s n).2.1, (takeV s n).2.2.val] ∧ SpOwn H' H.size sv (takeV s n).1 ∧ Ext H H' := by
  have h10 := h1
  have h20 := h2
  have hX := Ext.refl H
  have hXs := hX.size
  refine callsH_of_W (args := [SpV s.bits hu hf, .int .i64 n]) (ρ₀ := (upd (upd (fun _ => undef) 1 (.int .i64 n)) 0 (SpV s.bits hu hf))) rfl Try.func22 rfl (by kernel_rfl) ?_
  refine go_ (hq := ?_)
  refine box_ (h := fun c H2 hE2 hge_c hB_c => ?_)
  have hf_hB_c : Frs H (fB c) := Frs.mono (Frs.blk hge_c) hXs
  replace hX := hX.trans hE2
  replace hXs := hX.size
  replace h1 := h10.ext hX
  replace h2 := h20.ext hX
  refine go_ (hq := ?_)
  refine st_alloc fun r H4 hE4 hge_r hB_r => ?_
  have hs_hB_c_hB_r : Apt (fB c) (fB r) := Apt.new hB_c.old (Frs.blk hge_r)
  have hf_hB_r : Frs H (fB r) := Frs.mono (Frs.blk hge_r) hXs
  replace hX := hX.trans hE4
  replace hXs := hX.size
  replace h1 := h10.ext hX
  replace h2 := h20.ext hX
  replace hB_c := hB_c.ext hE4
  refine go_ (hq := ?_)
  refine st_alloc fun f H6 hE6 hge_f hB_f => ?_
  have hs_hB_c_hB_f : Apt (fB c) (fB f) := Apt.new hB_c.old (Frs.blk hge_f)
  have hs_hB_r_hB_f : Apt (fB r) (fB f) := Apt.new hB_r.old (Frs.blk hge_f)
  have hf_hB_f : Frs H (fB f) := Frs.mono (Frs.blk hge_f) hXs
  replace hX := hX.trans hE6
  replace hXs := hX.size
  replace h1 := h10.ext hX
  replace h2 := h20.ext hX
  replace hB_c := hB_c.ext hE6
  replace hB_r := hB_r.ext hE6
  refine go_ (hq := ?_)
  refine call_ (hc := bcheck_spec h1 h2 hb hn hr) (h := ?_)
  rintro v8 H8 ⟨rfl, hE8⟩
  replace hX := hX.trans hE8
  replace hXs := hX.size
  replace h1 := h10.ext hX
  replace h2 := h20.ext hX
  replace hB_c := hB_c.ext hE8
  replace hB_r := hB_r.ext hE8
  replace hB_f := hB_f.ext hE8
  simp only [put]
  refine go_ (hq := ?_)
  refine st_alloc fun g H10 hE10 hge_g hB_g => ?_
  have hs_hB_c_hB_g : Apt (fB c) (fB g) := Apt.new hB_c.old (Frs.blk hge_g)
  have hs_hB_r_hB_g : Apt (fB r) (fB g) := Apt.new hB_r.old (Frs.blk hge_g)
  have hs_hB_f_hB_g : Apt (fB f) (fB g) := Apt.new hB_f.old (Frs.blk hge_g)
  have hf_hB_g : Frs H (fB g) := Frs.mono (Frs.blk hge_g) hXs
  replace hX := hX.trans hE10
  replace hXs := hX.size
  replace h1 := h10.ext hX
  replace h2 := h20.ext hX
  replace hB_c := hB_c.ext hE10
  replace hB_r := hB_r.ext hE10
  replace hB_f := hB_f.ext hE10
  refine go_ (hq := ?_)
  refine store_ hB_g (h := fun H12 hM12 hsz12 hB_g => ?_)
  replace hX := hX.mut hM12 hf_hB_g
  replace hXs := hX.size
  replace h1 := h10.ext hX
  replace h2 := h20.ext hX
  replace hB_c := hB_c.mutF hM12 (hs_hB_c_hB_g.symm)
  replace hB_r := hB_r.mutF hM12 (hs_hB_r_hB_g.symm)
  replace hB_f := hB_f.mutF hM12 (hs_hB_f_hB_g.symm)
  refine go_ (hq := ?_)
  refine if_ (ht := fun h => ?_) (hf := fun h => ?_)
  · skip
    have hv : takeV s n = (sp0, 0, faultR s) := by rw [takeV, if_pos h]
    refine go_ (hq := ?_)
    refine drawt_ mixed [2, 4] (.seg 0 [0] (.alt 1 (.seg 2 [2, 3, 4] .nil) (.altw 2 (.seg 1 [1, 3, 4] .nil) (.stop)))) (h := ?_)
    refine wseg_ (h := ?_)
    refine go_ (hq := ?_)
    refine walt_ (h := ?_) (hr := waltw_ (h := ?_) (hr := wstop_))
    · skip
      refine go_ (hq := ?_)
      refine wseg_ (h := ?_)
      refine go_ (hq := ?_)
      refine store_ hB_r (h := fun H19 hM19 hsz19 hB_r => ?_)
      replace hX := hX.mut hM19 hf_hB_r
      replace hXs := hX.size
      replace h1 := h10.ext hX
      replace h2 := h20.ext hX
      replace hB_c := hB_c.mutF hM19 (hs_hB_c_hB_r.symm)
      replace hB_f := hB_f.mutF hM19 hs_hB_r_hB_f
      replace hB_g := hB_g.mutF hM19 hs_hB_r_hB_g
      refine go_ (hq := ?_)
      refine store_ hB_f (h := fun H21 hM21 hsz21 hB_f => ?_)
      replace hX := hX.mut hM21 hf_hB_f
      replace hXs := hX.size
      replace h1 := h10.ext hX
      replace h2 := h20.ext hX
      replace hB_c := hB_c.mutF hM21 (hs_hB_c_hB_f.symm)
      replace hB_r := hB_r.mutF hM21 (hs_hB_r_hB_f.symm)
      replace hB_g := hB_g.mutF hM21 hs_hB_f_hB_g
      refine go_ (hq := ?_)
      refine wnil_ ?_
      refine go_ (hq := ?_)
      refine retQ_ret (.manyV (rs := [_, _, _]) (vs := [_, _, _]) rfl (by simp) (rvc_ hB_r (h := rvt_ (h := rvc_ hB_f (h := rvn_))))) ?_
      rw [hv]
      exact ⟨_, rfl, sp0_own _ _, hX⟩
    · skip
      refine store_ hB_r (h := fun H24 hM24 hsz24 hB_r => ?_)
      replace hX := hX.mut hM24 hf_hB_r
      replace hXs := hX.size
      replace h1 := h10.ext hX
      replace h2 := h20.ext hX
      replace hB_c := hB_c.mutF hM24 (hs_hB_c_hB_r.symm)
      replace hB_f := hB_f.mutF hM24 hs_hB_r_hB_f
      replace hB_g := hB_g.mutF hM24 hs_hB_r_hB_g
      refine go_ (hq := ?_)
      refine wseg_ (h := ?_)
      refine go_ (hq := ?_)
      refine store_ hB_f (h := fun H27 hM27 hsz27 hB_f => ?_)
      replace hX := hX.mut hM27 hf_hB_f
      replace hXs := hX.size
      replace h1 := h10.ext hX
      replace h2 := h20.ext hX
      replace hB_c := hB_c.mutF hM27 (hs_hB_c_hB_f.symm)
      replace hB_r := hB_r.mutF hM27 (hs_hB_r_hB_f.symm)
      replace hB_g := hB_g.mutF hM27 hs_hB_f_hB_g
      refine go_ (hq := ?_)
      refine wnil_ ?_
      refine go_ (hq := ?_)
      refine retQ_ret (.manyV (rs := [_, _, _]) (vs := [_, _, _]) rfl (by simp) (rvc_ hB_r (h := rvt_ (h := rvc_ hB_f (h := rvn_))))) ?_
      rw [hv]
      exact ⟨_, rfl, sp0_own _ _, hX⟩
  · skip
    obtain ⟨W, hVS⟩ : ∃ W, VS s W := ⟨_, (faultR_zero s).1 (Decidable.not_not.1 h)⟩
    obtain ⟨hw1, hw2⟩ := hVS.w
    have hlen := hVS.len
    refine go_ (hq := ?_)
    refine if_ (ht := fun hr2 => ?_) (hf := fun hr2 => ?_)
    · skip
      have hv : takeV s n = (sp0, 0, ⟨3, -1⟩) := by rw [takeV, if_neg h, if_pos (by omega)]
      refine go_ (hq := ?_)
      refine call_ (hc := bfault_spec _ _) (h := ?_)
      rintro v33 H33 ⟨rfl, hE33⟩
      replace hX := hX.trans hE33
      replace hXs := hX.size
      replace h1 := h10.ext hX
      replace h2 := h20.ext hX
      replace hB_c := hB_c.ext hE33
      replace hB_r := hB_r.ext hE33
      replace hB_f := hB_f.ext hE33
      replace hB_g := hB_g.ext hE33
      simp only [put]
      refine go_ (hq := ?_)
      refine store_ hB_r (h := fun H35 hM35 hsz35 hB_r => ?_)
      replace hX := hX.mut hM35 hf_hB_r
      replace hXs := hX.size
      replace h1 := h10.ext hX
      replace h2 := h20.ext hX
      replace hB_c := hB_c.mutF hM35 (hs_hB_c_hB_r.symm)
      replace hB_f := hB_f.mutF hM35 hs_hB_r_hB_f
      replace hB_g := hB_g.mutF hM35 hs_hB_r_hB_g
      refine go_ (hq := ?_)
      refine store_ hB_f (h := fun H37 hM37 hsz37 hB_f => ?_)
      replace hX := hX.mut hM37 hf_hB_f
      replace hXs := hX.size
      replace h1 := h10.ext hX
      replace h2 := h20.ext hX
      replace hB_c := hB_c.mutF hM37 (hs_hB_c_hB_f.symm)
      replace hB_r := hB_r.mutF hM37 (hs_hB_r_hB_f.symm)
      replace hB_g := hB_g.mutF hM37 hs_hB_f_hB_g
      refine go_ (hq := ?_)
      refine retQ_ret (.manyV (rs := [_, _, _]) (vs := [_, _, _]) rfl (by simp) (rvc_ hB_r (h := rvt_ (h := rvc_ hB_f (h := rvn_))))) ?_
      rw [hv]
      exact ⟨_, rfl, sp0_own _ _, hX⟩
    · skip
      have hn1 : 1 ≤ n ∧ n ≤ 1073741824 := by omega
      obtain ⟨m, hm, hm30⟩ := IsSz.ex hn1.2
      have hzle : ∀ k, k ≤ 30 → (1 : Int) ≤ 2 ^ k ∧ (2 : Int) ^ k ≤ 1073741824 := fun k hk => by
        have h1 := pow_pos' k
        have h2 : (2 : Int) ^ k ≤ 2 ^ 30 := pow_le_pow_iff.2 hk
        omega
      have hz := hzle m hm30
      refine go_ (hq := ?_)
      refine W_loop (X := Nat) (fun k => [(1, .int .i64 n), (2, .pointer (some ⟨c, 0, none⟩)), (4, .pointer (some ⟨r, 0, none⟩)), (5, .int .i64 0), (6, .pointer (some ⟨f, 0, none⟩)), (8, .int .i64 (2 ^ k))])
        (fun k H' => Ext H H' ∧ Blk H' c 41 [.int .i64 s.bits, hu.val, hf.val] ∧ Blk H' r 41 [.int .i64 0, .slice none 0 0, .slice none 0 0] ∧ Blk H' f 28 [.int .i64 0, .int .i64 0] ∧ SepL [fB c, fB r, fB f] ∧ k ≤ m) (fun k => m - k) 0 ?_ ?_ ?_
      · exact hold_
      · exact ⟨hX, hB_c, hB_r, hB_f, (sep_cons (sepa_cons (hs_hB_c_hB_r) (sepa_cons (hs_hB_c_hB_f) sepa_nil)) (sep_cons (sepa_cons (hs_hB_r_hB_f) sepa_nil) (sep_cons sepa_nil sep_nil))), by omega⟩
      · clear hX h1 h2 hB_c hB_r hB_f hB_g hs_hB_c_hB_r hs_hB_c_hB_f hs_hB_r_hB_f hs_hB_c_hB_g hs_hB_r_hB_g hs_hB_f_hB_g
        rintro u k H' ⟨hX, hB_c, hB_r, hB_f, hS, hk⟩
        have hXs := hX.size
        have h1 := h10.ext hX
        have h2 := h20.ext hX
        obtain ⟨⟨hs_hB_c_hB_r, hs_hB_c_hB_f, -⟩, ⟨⟨hs_hB_r_hB_f, -⟩, ⟨⟨-⟩, -⟩⟩⟩ := hS
        have hzk := hzle k (by omega)
        refine go_ (hq := ?_)
        refine if_ (ht := fun hk2 => ?_) (hf := fun hk2 => ?_)
        · skip
          refine go_ (hq := ?_)
          have hkm : k < m := by
            rcases Nat.lt_or_ge k m with h9 | h9
            · exact h9
            · have : k = m := by omega
              subst this
              have := hm.1; omega
          refine ⟨k + 1, ?_, ⟨hX, hB_c, hB_r, hB_f, (sep_cons (sepa_cons (hs_hB_c_hB_r) (sepa_cons (hs_hB_c_hB_f) sepa_nil)) (sep_cons (sepa_cons (hs_hB_r_hB_f) sepa_nil) (sep_cons sepa_nil sep_nil))), hkm⟩, by omega⟩
          rw [← Int.pow_succ]
          exact hold_
        · skip
          have hkm : k = m := by
            rcases Nat.lt_or_ge k m with h9 | h9
            · have := hm.2 k h9; omega
            · omega
          subst hkm
          refine go_ (hq := ?_)
          refine W_loop (X := Nat × Int) (fun x => [(2, .pointer (some ⟨c, 0, none⟩)), (4, .pointer (some ⟨r, 0, none⟩)), (5, .int .i64 0), (6, .pointer (some ⟨f, 0, none⟩)), (8, .int .i64 (2 ^ k)), (9, .int .i64 x.2), (35, hf.val), (36, .int .i64 s.free.length), (37, .int .i64 x.1)])
            (fun x H' => Ext H H' ∧ Blk H' c 41 [.int .i64 s.bits, hu.val, hf.val] ∧ Blk H' r 41 [.int .i64 0, .slice none 0 0, .slice none 0 0] ∧ Blk H' f 28 [.int .i64 0, .int .i64 0] ∧ SepL [fB c, fB r, fB f] ∧ x.1 ≤ s.free.length ∧ BestUp s.free (2 ^ k) x.1 x.2) (fun x => s.free.length - x.1) (0, -1) ?_ ?_ ?_
          · exact hold_
          · exact ⟨hX, hB_c, hB_r, hB_f, (sep_cons (sepa_cons (hs_hB_c_hB_r) (sepa_cons (hs_hB_c_hB_f) sepa_nil)) (sep_cons (sepa_cons (hs_hB_r_hB_f) sepa_nil) (sep_cons sepa_nil sep_nil))), by dsimp only; omega, .inl ⟨rfl, fun j hj => by omega⟩⟩
          · clear hX h1 h2 hB_c hB_r hB_f hs_hB_c_hB_r hs_hB_c_hB_f hs_hB_r_hB_f u
            rintro u ⟨i, bv⟩ H' ⟨hX, hB_c, hB_r, hB_f, hS, hi, hbu⟩
            dsimp only at hi hbu ⊢
            have hXs := hX.size
            have h1 := h10.ext hX
            have h2 := h20.ext hX
            obtain ⟨⟨hs_hB_c_hB_r, hs_hB_c_hB_f, -⟩, ⟨⟨hs_hB_r_hB_f, -⟩, ⟨⟨-⟩, -⟩⟩⟩ := hS
            have hbr := hbu.rng
            refine go_ (hq := ?_)
            refine if_ (ht := fun hi2 => ?_) (hf := fun hi2 => ?_)
            · skip
              have hi' : i < s.free.length := by omega
              refine go_ (hq := ?_)
              refine st_alloc fun b H47 hE47 hge_b hB_b => ?_
              have hs_hB_c_hB_b : Apt (fB c) (fB b) := Apt.new hB_c.old (Frs.blk hge_b)
              have hs_hB_r_hB_b : Apt (fB r) (fB b) := Apt.new hB_r.old (Frs.blk hge_b)
              have hs_hB_f_hB_b : Apt (fB f) (fB b) := Apt.new hB_f.old (Frs.blk hge_b)
              have hf_hB_b : Frs H (fB b) := Frs.mono (Frs.blk hge_b) hXs
              replace hX := hX.trans hE47
              replace hXs := hX.size
              replace h1 := h10.ext hX
              replace h2 := h20.ext hX
              replace hB_c := hB_c.ext hE47
              replace hB_r := hB_r.ext hE47
              replace hB_f := hB_f.ext hE47
              refine go_ (hq := ?_)
              refine store_ hB_b (h := fun H49 hM49 hsz49 hB_b => ?_)
              replace hX := hX.mut hM49 hf_hB_b
              replace hXs := hX.size
              replace h1 := h10.ext hX
              replace h2 := h20.ext hX
              replace hB_c := hB_c.mutF hM49 (hs_hB_c_hB_b.symm)
              replace hB_r := hB_r.mutF hM49 (hs_hB_r_hB_b.symm)
              replace hB_f := hB_f.mutF hM49 (hs_hB_f_hB_b.symm)
              refine go_ (hq := ?_)
              refine draw_ mixed (Q := _) 0 [0,1,2,3,4,5,6,7,8,9,10,11,12,13,14,15,16,17,18] (h := ?_)
              refine go_ (hq := ?_)
              have hst := hbu.step
              refine if_ (ht := fun hc => ?_) (hf := fun hc => ?_)
              · skip
                rw [if_pos hc] at hst
                refine go_ (hq := ?_)
                exact ⟨(i + 1, (i : Int)), hold_, ⟨hX, hB_c, hB_r, hB_f, (sep_cons (sepa_cons (hs_hB_c_hB_r) (sepa_cons (hs_hB_c_hB_f) sepa_nil)) (sep_cons (sepa_cons (hs_hB_r_hB_f) sepa_nil) (sep_cons sepa_nil sep_nil))), by dsimp only; omega, hst⟩, by dsimp only; omega⟩
              · skip
                rw [if_neg hc] at hst
                refine go_ (hq := ?_)
                exact ⟨(i + 1, bv), hold_, ⟨hX, hB_c, hB_r, hB_f, (sep_cons (sepa_cons (hs_hB_c_hB_r) (sepa_cons (hs_hB_c_hB_f) sepa_nil)) (sep_cons (sepa_cons (hs_hB_r_hB_f) sepa_nil) (sep_cons sepa_nil sep_nil))), by dsimp only; omega, hst⟩, by dsimp only; omega⟩
            · skip
              have hie : i = s.free.length := by omega
              subst hie
              have hpw : ∀ b ∈ s.free, ∃ k : Nat, b.size = 2 ^ k := fun b hb => by
                obtain ⟨q, h9, _⟩ := hVS.al b (List.mem_append.2 (.inr hb)); exact ⟨q, h9⟩
              have hbest := BestUp.best hm hpw hbu
              refine go_ (hq := ?_)
              refine if_ (ht := fun h6 => ?_) (hf := fun h6 => ?_)
              · skip
                have hbn : bestI s.free n = none := by
                  rcases hbest with ⟨_, h9⟩ | ⟨q, h9, _⟩
                  · exact h9
                  · omega
                have hv : takeV s n = (sp0, 0, ⟨6, 0⟩) := by rw [takeV, if_neg h, if_neg (by omega), hbn]
                refine go_ (hq := ?_)
                refine call_ (hc := bfault_spec _ _) (h := ?_)
                rintro v59 H59 ⟨rfl, hE59⟩
                replace hX := hX.trans hE59
                replace hXs := hX.size
                replace h1 := h10.ext hX
                replace h2 := h20.ext hX
                replace hB_c := hB_c.ext hE59
                replace hB_r := hB_r.ext hE59
                replace hB_f := hB_f.ext hE59
                simp only [put]
                refine go_ (hq := ?_)
                refine store_ hB_r (h := fun H61 hM61 hsz61 hB_r => ?_)
                replace hX := hX.mut hM61 hf_hB_r
                replace hXs := hX.size
                replace h1 := h10.ext hX
                replace h2 := h20.ext hX
                replace hB_c := hB_c.mutF hM61 (hs_hB_c_hB_r.symm)
                replace hB_f := hB_f.mutF hM61 hs_hB_r_hB_f
                refine go_ (hq := ?_)
                refine store_ hB_f (h := fun H63 hM63 hsz63 hB_f => ?_)
                replace hX := hX.mut hM63 hf_hB_f
                replace hXs := hX.size
                replace h1 := h10.ext hX
                replace h2 := h20.ext hX
                replace hB_c := hB_c.mutF hM63 (hs_hB_c_hB_f.symm)
                replace hB_r := hB_r.mutF hM63 (hs_hB_r_hB_f.symm)
                refine go_ (hq := ?_)
                refine retQ_ret (.manyV (rs := [_, _, _]) (vs := [_, _, _]) rfl (by simp) (rvc_ hB_r (h := rvt_ (h := rvc_ hB_f (h := rvn_))))) ?_
                rw [hv]
                exact ⟨_, rfl, sp0_own _ _, hX⟩
              · skip
                obtain ⟨q, rfl, hq⟩ : ∃ q : Nat, bv = q ∧ IsBest s.free n q := by
                  rcases hbest with ⟨h9, _⟩ | h9
                  · omega
                  · exact h9
                have hqs := bestI_some hq
                have hql := hq.1
                obtain ⟨B, hB⟩ : ∃ B, B = s.free.getD q default := ⟨_, rfl⟩
                have hBm : B ∈ s.free := by rw [hB, List.getD_eq_getElem?_getD, List.getElem?_eq_getElem hql]; exact List.getElem_mem _
                obtain ⟨K, hK⟩ := hpw B hBm
                have hmk : mOf n = k := mOf_eq hm
                have hkK : k ≤ K := by have h9 := hq.2.1; rw [← hB, hK] at h9; exact hm.fit.1 h9
                have hBa := hVS.al B (List.mem_append.2 (.inr hBm))
                have hT : takeT s n q = ⟨s.bits, withB s.used ⟨B.start, 2 ^ k⟩, splitL k B.start (K - k) (noB s.free B)⟩ := by rw [takeT, ← hB, hmk, hK, expOf_pow]
                have hv : takeV s n = if 5000 < (takeT s n q).used.length + (takeT s n q).free.length then (sp0, 0, ⟨9, 0⟩) else (takeT s n q, B.start, ⟨0, 0⟩) := by rw [takeV, if_neg h, if_neg (by omega), hqs, hB]
                have hSI := SI.start hVS hBm
                have hlenN := noB_length hVS.sf hBm
                refine go_ (hq := ?_)
                refine call_ (hc := copied_spec h1 h2 hn) (h := ?_)
                rintro vc Hc ⟨du, df, rfl, nu, nf, hap, hEc⟩
                have hs_hB_c_o_u : Apt (fB c) (fO du.val) := Apt.new hB_c.old (Own.frs nu (Nat.le_refl _))
                have hs_hB_r_o_u : Apt (fB r) (fO du.val) := Apt.new hB_r.old (Own.frs nu (Nat.le_refl _))
                have hs_hB_f_o_u : Apt (fB f) (fO du.val) := Apt.new hB_f.old (Own.frs nu (Nat.le_refl _))
                have hf_o_u : Frs H (fO du.val) := Frs.mono (Own.frs nu (Nat.le_refl _)) hXs
                have o_u := nu.mono hXs
                have hs_hB_c_o_f : Apt (fB c) (fO df.val) := Apt.new hB_c.old (Own.frs nf (Nat.le_refl _))
                have hs_hB_r_o_f : Apt (fB r) (fO df.val) := Apt.new hB_r.old (Own.frs nf (Nat.le_refl _))
                have hs_hB_f_o_f : Apt (fB f) (fO df.val) := Apt.new hB_f.old (Own.frs nf (Nat.le_refl _))
                have hf_o_f : Frs H (fO df.val) := Frs.mono (Own.frs nf (Nat.le_refl _)) hXs
                have o_f := nf.mono hXs
                have hs_o_u_o_f := hap
                replace hX := hX.trans hEc
                replace hXs := hX.size
                replace h1 := h10.ext hX
                replace h2 := h20.ext hX
                replace hB_c := hB_c.ext hEc
                replace hB_r := hB_r.ext hEc
                replace hB_f := hB_f.ext hEc
                simp only [put]
                refine go_ (hq := ?_)
                refine st_alloc fun d H70 hE70 hge_d hB_d => ?_
                have hs_hB_c_hB_d : Apt (fB c) (fB d) := Apt.new hB_c.old (Frs.blk hge_d)
                have hs_hB_r_hB_d : Apt (fB r) (fB d) := Apt.new hB_r.old (Frs.blk hge_d)
                have hs_hB_f_hB_d : Apt (fB f) (fB d) := Apt.new hB_f.old (Frs.blk hge_d)
                have hs_o_u_hB_d : Apt (fO du.val) (fB d) := Apt.new o_u.old (Frs.blk hge_d)
                have hs_o_f_hB_d : Apt (fO df.val) (fB d) := Apt.new o_f.old (Frs.blk hge_d)
                have hf_hB_d : Frs H (fB d) := Frs.mono (Frs.blk hge_d) hXs
                replace hX := hX.trans hE70
                replace hXs := hX.size
                replace h1 := h10.ext hX
                replace h2 := h20.ext hX
                replace hB_c := hB_c.ext hE70
                replace hB_r := hB_r.ext hE70
                replace hB_f := hB_f.ext hE70
                replace o_u := o_u.ext hE70
                replace o_f := o_f.ext hE70
                refine go_ (hq := ?_)
                refine store_ hB_d (h := fun H72 hM72 hsz72 hB_d => ?_)
                replace hX := hX.mut hM72 hf_hB_d
                replace hXs := hX.size
                replace h1 := h10.ext hX
                replace h2 := h20.ext hX
                replace hB_c := hB_c.mutF hM72 (hs_hB_c_hB_d.symm)
                replace hB_r := hB_r.mutF hM72 (hs_hB_r_hB_d.symm)
                replace hB_f := hB_f.mutF hM72 (hs_hB_f_hB_d.symm)
                replace o_u := o_u.mutF hM72 (hs_o_u_hB_d.symm)
                replace o_f := o_f.mutF hM72 (hs_o_f_hB_d.symm)
                refine go_ (hq := ?_)
                refine st_alloc fun e H74 hE74 hge_e hB_e => ?_
                have hs_hB_c_hB_e : Apt (fB c) (fB e) := Apt.new hB_c.old (Frs.blk hge_e)
                have hs_hB_r_hB_e : Apt (fB r) (fB e) := Apt.new hB_r.old (Frs.blk hge_e)
                have hs_hB_f_hB_e : Apt (fB f) (fB e) := Apt.new hB_f.old (Frs.blk hge_e)
                have hs_o_u_hB_e : Apt (fO du.val) (fB e) := Apt.new o_u.old (Frs.blk hge_e)
                have hs_o_f_hB_e : Apt (fO df.val) (fB e) := Apt.new o_f.old (Frs.blk hge_e)
                have hs_hB_d_hB_e : Apt (fB d) (fB e) := Apt.new hB_d.old (Frs.blk hge_e)
                have hf_hB_e : Frs H (fB e) := Frs.mono (Frs.blk hge_e) hXs
                replace hX := hX.trans hE74
                replace hXs := hX.size
                replace h1 := h10.ext hX
                replace h2 := h20.ext hX
                replace hB_c := hB_c.ext hE74
                replace hB_r := hB_r.ext hE74
                replace hB_f := hB_f.ext hE74
                replace o_u := o_u.ext hE74
                replace o_f := o_f.ext hE74
                replace hB_d := hB_d.ext hE74
                refine go_ (hq := ?_)
                refine store_ hB_e (h := fun H76 hM76 hsz76 hB_e => ?_)
                replace hX := hX.mut hM76 hf_hB_e
                replace hXs := hX.size
                replace h1 := h10.ext hX
                replace h2 := h20.ext hX
                replace hB_c := hB_c.mutF hM76 (hs_hB_c_hB_e.symm)
                replace hB_r := hB_r.mutF hM76 (hs_hB_r_hB_e.symm)
                replace hB_f := hB_f.mutF hM76 (hs_hB_f_hB_e.symm)
                replace o_u := o_u.mutF hM76 (hs_o_u_hB_e.symm)
                replace o_f := o_f.mutF hM76 (hs_o_f_hB_e.symm)
                replace hB_d := hB_d.mutF hM76 (hs_hB_d_hB_e.symm)
                refine go_ (hq := ?_)
                have hq_hB_c := hs_hB_c_o_f.symm
                have hq_hB_r := hs_hB_r_o_f.symm
                have hq_hB_f := hs_hB_f_o_f.symm
                have hq_o_u := hs_o_u_o_f.symm
                have hq_hB_d := hs_o_f_hB_d
                have hq_hB_e := hs_o_f_hB_e
                have hfq := hf_o_f
                refine call_ (hc := del_spec o_f hVS.sf q hql (by omega)) (h := ?_)
                rintro w78 H78 ⟨n_78, hM78, hF78⟩
                obtain ⟨df1, rfl⟩ := n_78.sl.hdrOf
                replace hs_hB_c_o_f : Apt (fB c) (fO df1.val) := ((hs_hB_c_o_f.symm).app hF78 hB_c.old).symm
                replace hs_hB_r_o_f : Apt (fB r) (fO df1.val) := ((hs_hB_r_o_f.symm).app hF78 hB_r.old).symm
                replace hs_hB_f_o_f : Apt (fB f) (fO df1.val) := ((hs_hB_f_o_f.symm).app hF78 hB_f.old).symm
                replace hs_o_u_o_f : Apt (fO du.val) (fO df1.val) := ((hs_o_u_o_f.symm).app hF78 o_u.old).symm
                replace hs_o_f_hB_d : Apt (fO df1.val) (fB d) := Apt.app hs_o_f_hB_d hF78 hB_d.old
                replace hs_o_f_hB_e : Apt (fO df1.val) (fB e) := Apt.app hs_o_f_hB_e hF78 hB_e.old
                replace hf_o_f : Frs H (fO df1.val) := Frs.app hf_o_f hF78 hXs
                replace hX := hX.mut hM78 hfq
                replace hXs := hX.size
                replace h1 := h10.ext hX
                replace h2 := h20.ext hX
                replace hB_c := hB_c.mutF hM78 hq_hB_c
                replace hB_r := hB_r.mutF hM78 hq_hB_r
                replace hB_f := hB_f.mutF hM78 hq_hB_f
                replace o_u := o_u.mutF hM78 hq_o_u
                replace hB_d := hB_d.mutF hM78 hq_hB_d
                replace hB_e := hB_e.mutF hM78 hq_hB_e
                replace o_f := n_78
                simp only [put]
                rw [← hB] at o_f
                refine go_ (hq := ?_)
                refine storef_ 2 hB_d (h := fun H80 hM80 hsz80 hB_d => ?_)
                replace hX := hX.mut hM80 hf_hB_d
                replace hXs := hX.size
                replace h1 := h10.ext hX
                replace h2 := h20.ext hX
                replace hB_c := hB_c.mutF hM80 (hs_hB_c_hB_d.symm)
                replace hB_r := hB_r.mutF hM80 (hs_hB_r_hB_d.symm)
                replace hB_f := hB_f.mutF hM80 (hs_hB_f_hB_d.symm)
                replace o_u := o_u.mutF hM80 (hs_o_u_hB_d.symm)
                replace o_f := o_f.mutF hM80 (hs_o_f_hB_d.symm)
                replace hB_e := hB_e.mutF hM80 hs_hB_d_hB_e
                refine go_ (hq := ?_)
                have eB : B = ⟨B.start, 2 ^ (k + (K - k))⟩ := by cases B; simp only at hK; rw [show k + (K - k) = K by omega, ← hK]
                have hKb : K ≤ 30 := by
                  have h9 := hBa.pos
                  rw [hK] at h9
                  exact pow_le_pow_iff.1 (by show (2 : Int) ^ K ≤ 2 ^ 30; omega)
                refine W_loop (X := Nat × Hdr × List BlockD) (fun x => [(4, .pointer (some ⟨r, 0, none⟩)), (5, .int .i64 0), (6, .pointer (some ⟨f, 0, none⟩)), (8, .int .i64 (2 ^ k)), (12, .pointer (some ⟨d, 0, none⟩)), (13, .pointer (some ⟨e, 0, none⟩))])
                  (fun x H' => Ext H H' ∧ Blk H' r 41 [.int .i64 0, .slice none 0 0, .slice none 0 0] ∧ Blk H' f 28 [.int .i64 0, .int .i64 0] ∧ Blk H' d 41 [.int .i64 s.bits, du.val, x.2.1.val] ∧ Blk H' e 51 [.int .i64 B.start, .int .i64 (2 ^ (k + x.1))] ∧ Own H' H.size 51 du.val s.used ∧ Own H' H.size 51 x.2.1.val x.2.2 ∧ SepL [fB r, fB f, fO du.val, fO x.2.1.val, fB d, fB e] ∧ x.1 ≤ K - k ∧ x.2.2.length + x.1 + 1 = s.free.length + (K - k) ∧ SI W s.used x.2.2 ⟨B.start, 2 ^ (k + x.1)⟩ ∧ splitL k B.start x.1 x.2.2 = splitL k B.start (K - k) (noB s.free B)) (fun x => x.1) (K - k, df1, noB s.free B) ?_ ?_ ?_
                · exact hold_
                · refine ⟨hX, hB_r, hB_f, hB_d, ?_, o_u, o_f, (sep_cons (sepa_cons (hs_hB_r_hB_f) (sepa_cons (hs_hB_r_o_u) (sepa_cons (hs_hB_r_o_f) (sepa_cons (hs_hB_r_hB_d) (sepa_cons (hs_hB_r_hB_e) sepa_nil))))) (sep_cons (sepa_cons (hs_hB_f_o_u) (sepa_cons (hs_hB_f_o_f) (sepa_cons (hs_hB_f_hB_d) (sepa_cons (hs_hB_f_hB_e) sepa_nil)))) (sep_cons (sepa_cons (hs_o_u_o_f) (sepa_cons (hs_o_u_hB_d) (sepa_cons (hs_o_u_hB_e) sepa_nil))) (sep_cons (sepa_cons (hs_o_f_hB_d) (sepa_cons (hs_o_f_hB_e) sepa_nil)) (sep_cons (sepa_cons (hs_hB_d_hB_e) sepa_nil) (sep_cons sepa_nil sep_nil)))))), Nat.le_refl _, by dsimp only; omega, ?_, rfl⟩
                  · rw [← hB, show enc B = [Value.int .i64 B.start, .int .i64 B.size] from rfl, hK] at hB_e
                    dsimp only
                    rw [show k + (K - k) = K by omega]
                    exact hB_e
                  · dsimp only; rw [← eB]; exact hSI
                · clear hX h1 h2 hB_c hB_r hB_f hB_d hB_e o_u o_f hSI u
                  rintro u ⟨j, dfx, fl⟩ H' ⟨hX, hB_r, hB_f, hB_d, hB_e, o_u, o_f, hS, hj, hln, hSI, hsp⟩
                  dsimp only at hX hB_r hB_f hB_d hB_e o_u o_f hS hj hln hSI hsp ⊢
                  have hXs := hX.size
                  have hf_o_u : Frs H (fO du.val) := o_u.frs (Nat.le_refl _)
                  have hf_o_f : Frs H (fO dfx.val) := o_f.frs (Nat.le_refl _)
                  obtain ⟨⟨hs_hB_r_hB_f, hs_hB_r_o_u, hs_hB_r_o_f, hs_hB_r_hB_d, hs_hB_r_hB_e, -⟩, ⟨⟨hs_hB_f_o_u, hs_hB_f_o_f, hs_hB_f_hB_d, hs_hB_f_hB_e, -⟩, ⟨⟨hs_o_u_o_f, hs_o_u_hB_d, hs_o_u_hB_e, -⟩, ⟨⟨hs_o_f_hB_d, hs_o_f_hB_e, -⟩, ⟨⟨hs_hB_d_hB_e, -⟩, ⟨⟨-⟩, -⟩⟩⟩⟩⟩⟩ := hS
                  have hzj := hzle (k + j) (by omega)
                  refine go_ (hq := ?_)
                  refine if_ (ht := fun hlt => ?_) (hf := fun hlt => ?_)
                  · skip
                    obtain ⟨j, rfl⟩ : ∃ j', j = j' + 1 := by
                      cases j with
                      | zero => simp at hlt
                      | succ j => exact ⟨j, rfl⟩
                    have hz2 : (2 : Int) ^ (k + (j + 1)) = 2 * 2 ^ (k + j) := by rw [← Nat.add_assoc, Int.pow_succ, Int.mul_comm]
                    have hzj' := hzle (k + j) (by omega)
                    rw [hz2] at hSI hB_e ⊢
                    obtain ⟨hne, hSI2⟩ := hSI.split (k := k + j) rfl
                    obtain ⟨hml, _, _⟩ := mateR_left (k := k + j) rfl hSI.alb
                    have hmp : mateP ⟨B.start, 2 ^ (k + j)⟩ = ⟨B.start + 2 ^ (k + j), 2 ^ (k + j)⟩ := by rw [mate_eq hSI2.alb hw2, hml]
                    refine go_ (hq := ?_)
                    rw [show (2 * (2 : Int) ^ (k + j)) / 2 = 2 ^ (k + j) by omega]
                    refine storef_ 1 hB_e (h := fun H85 hM85 hsz85 hB_e => ?_)
                    replace hX := hX.mut hM85 hf_hB_e
                    replace hXs := hX.size
                    replace hB_r := hB_r.mutF hM85 (hs_hB_r_hB_e.symm)
                    replace hB_f := hB_f.mutF hM85 (hs_hB_f_hB_e.symm)
                    replace o_u := o_u.mutF hM85 (hs_o_u_hB_e.symm)
                    replace o_f := o_f.mutF hM85 (hs_o_f_hB_e.symm)
                    replace hB_d := hB_d.mutF hM85 (hs_hB_d_hB_e.symm)
                    refine go_ (hq := ?_)
                    refine draw_ mixed (Q := _) 2 [0,1,2,3,4,5,6] (h := ?_)
                    refine go_ (hq := ?_)
                    refine call_ (hc := mate_spec ⟨B.start, 2 ^ (k + j)⟩) (h := ?_)
                    rintro v89 H89 ⟨rfl, hE89⟩
                    replace hX := hX.trans hE89
                    replace hXs := hX.size
                    replace hB_r := hB_r.ext hE89
                    replace hB_f := hB_f.ext hE89
                    replace o_u := o_u.ext hE89
                    replace o_f := o_f.ext hE89
                    replace hB_d := hB_d.ext hE89
                    replace hB_e := hB_e.ext hE89
                    simp only [put]
                    rw [hmp]
                    refine go_ (hq := ?_)
                    have hq_hB_r := hs_hB_r_o_f.symm
                    have hq_hB_f := hs_hB_f_o_f.symm
                    have hq_o_u := hs_o_u_o_f.symm
                    have hq_hB_d := hs_o_f_hB_d
                    have hq_hB_e := hs_o_f_hB_e
                    have hfq := hf_o_f
                    refine call_ (hc := putS_spec o_f hSI.sf ⟨B.start + 2 ^ (k + j), 2 ^ (k + j)⟩ hne (by omega) (by omega)) (h := ?_)
                    rintro w91 H91 ⟨n_91, hM91, hF91⟩
                    obtain ⟨df2, rfl⟩ := n_91.sl.hdrOf
                    replace hs_hB_r_o_f : Apt (fB r) (fO df2.val) := ((hs_hB_r_o_f.symm).app hF91 hB_r.old).symm
                    replace hs_hB_f_o_f : Apt (fB f) (fO df2.val) := ((hs_hB_f_o_f.symm).app hF91 hB_f.old).symm
                    replace hs_o_u_o_f : Apt (fO du.val) (fO df2.val) := ((hs_o_u_o_f.symm).app hF91 o_u.old).symm
                    replace hs_o_f_hB_d : Apt (fO df2.val) (fB d) := Apt.app hs_o_f_hB_d hF91 hB_d.old
                    replace hs_o_f_hB_e : Apt (fO df2.val) (fB e) := Apt.app hs_o_f_hB_e hF91 hB_e.old
                    replace hf_o_f : Frs H (fO df2.val) := Frs.app hf_o_f hF91 hXs
                    replace hX := hX.mut hM91 hfq
                    replace hXs := hX.size
                    replace hB_r := hB_r.mutF hM91 hq_hB_r
                    replace hB_f := hB_f.mutF hM91 hq_hB_f
                    replace o_u := o_u.mutF hM91 hq_o_u
                    replace hB_d := hB_d.mutF hM91 hq_hB_d
                    replace hB_e := hB_e.mutF hM91 hq_hB_e
                    replace o_f := n_91
                    simp only [put]
                    refine go_ (hq := ?_)
                    refine storef_ 2 hB_d (h := fun H93 hM93 hsz93 hB_d => ?_)
                    replace hX := hX.mut hM93 hf_hB_d
                    replace hXs := hX.size
                    replace hB_r := hB_r.mutF hM93 (hs_hB_r_hB_d.symm)
                    replace hB_f := hB_f.mutF hM93 (hs_hB_f_hB_d.symm)
                    replace o_u := o_u.mutF hM93 (hs_o_u_hB_d.symm)
                    replace o_f := o_f.mutF hM93 (hs_o_f_hB_d.symm)
                    replace hB_e := hB_e.mutF hM93 hs_hB_d_hB_e
                    refine go_ (hq := ?_)
                    refine ⟨(j, df2, withB fl ⟨B.start + 2 ^ (k + j), 2 ^ (k + j)⟩), hold_, ⟨hX, hB_r, hB_f, hB_d, hB_e, o_u, o_f, (sep_cons (sepa_cons (hs_hB_r_hB_f) (sepa_cons (hs_hB_r_o_u) (sepa_cons (hs_hB_r_o_f) (sepa_cons (hs_hB_r_hB_d) (sepa_cons (hs_hB_r_hB_e) sepa_nil))))) (sep_cons (sepa_cons (hs_hB_f_o_u) (sepa_cons (hs_hB_f_o_f) (sepa_cons (hs_hB_f_hB_d) (sepa_cons (hs_hB_f_hB_e) sepa_nil)))) (sep_cons (sepa_cons (hs_o_u_o_f) (sepa_cons (hs_o_u_hB_d) (sepa_cons (hs_o_u_hB_e) sepa_nil))) (sep_cons (sepa_cons (hs_o_f_hB_d) (sepa_cons (hs_o_f_hB_e) sepa_nil)) (sep_cons (sepa_cons (hs_hB_d_hB_e) sepa_nil) (sep_cons sepa_nil sep_nil)))))), by dsimp only; omega, ?_, hSI2, hsp⟩, by dsimp only; omega⟩
                    dsimp only
                    rw [withB_len]; omega
                  · skip
                    have hj0 : j = 0 := by
                      cases j with
                      | zero => rfl
                      | succ j =>
                        exfalso
                        apply hlt
                        have hz2 : (2 : Int) ^ (k + (j + 1)) = 2 * 2 ^ (k + j) := by rw [← Nat.add_assoc, Int.pow_succ, Int.mul_comm]
                        have h9 := pow_le_pow_iff.2 (show k ≤ k + j by omega)
                        have := pow_pos' k
                        omega
                    subst hj0
                    rw [Nat.add_zero] at hB_e hSI
                    rw [splitL] at hsp
                    subst hsp
                    refine go_ (hq := ?_)
                    have hq_hB_r := hs_hB_r_o_u.symm
                    have hq_hB_f := hs_hB_f_o_u.symm
                    have hq_o_f := hs_o_u_o_f
                    have hq_hB_d := hs_o_u_hB_d
                    have hq_hB_e := hs_o_u_hB_e
                    have hfq := hf_o_u
                    refine call_ (hc := putS_spec o_u hVS.su ⟨B.start, 2 ^ k⟩ hSI.ne.2 (by omega) (by omega)) (h := ?_)
                    rintro w96 H96 ⟨n_96, hM96, hF96⟩
                    obtain ⟨du1, rfl⟩ := n_96.sl.hdrOf
                    replace hs_hB_r_o_u : Apt (fB r) (fO du1.val) := ((hs_hB_r_o_u.symm).app hF96 hB_r.old).symm
                    replace hs_hB_f_o_u : Apt (fB f) (fO du1.val) := ((hs_hB_f_o_u.symm).app hF96 hB_f.old).symm
                    replace hs_o_u_o_f : Apt (fO du1.val) (fO dfx.val) := Apt.app hs_o_u_o_f hF96 o_f.old
                    replace hs_o_u_hB_d : Apt (fO du1.val) (fB d) := Apt.app hs_o_u_hB_d hF96 hB_d.old
                    replace hs_o_u_hB_e : Apt (fO du1.val) (fB e) := Apt.app hs_o_u_hB_e hF96 hB_e.old
                    replace hf_o_u : Frs H (fO du1.val) := Frs.app hf_o_u hF96 hXs
                    replace hX := hX.mut hM96 hfq
                    replace hXs := hX.size
                    replace hB_r := hB_r.mutF hM96 hq_hB_r
                    replace hB_f := hB_f.mutF hM96 hq_hB_f
                    replace o_f := o_f.mutF hM96 hq_o_f
                    replace hB_d := hB_d.mutF hM96 hq_hB_d
                    replace hB_e := hB_e.mutF hM96 hq_hB_e
                    replace o_u := n_96
                    simp only [put]
                    refine go_ (hq := ?_)
                    refine storef_ 1 hB_d (h := fun H98 hM98 hsz98 hB_d => ?_)
                    replace hX := hX.mut hM98 hf_hB_d
                    replace hXs := hX.size
                    replace hB_r := hB_r.mutF hM98 (hs_hB_r_hB_d.symm)
                    replace hB_f := hB_f.mutF hM98 (hs_hB_f_hB_d.symm)
                    replace o_u := o_u.mutF hM98 (hs_o_u_hB_d.symm)
                    replace o_f := o_f.mutF hM98 (hs_o_f_hB_d.symm)
                    replace hB_e := hB_e.mutF hM98 hs_hB_d_hB_e
                    have hwl : (withB s.used ⟨B.start, 2 ^ k⟩).length = s.used.length + 1 := withB_len _ _
                    have hlT : (takeT s n q).used.length + (takeT s n q).free.length = (withB s.used ⟨B.start, 2 ^ k⟩).length + (splitL k B.start (K - k) (noB s.free B)).length := by rw [hT]
                    refine go_ (hq := ?_)
                    refine if_ (ht := fun h5 => ?_) (hf := fun h5 => ?_)
                    · skip
                      have hv2 : takeV s n = (sp0, 0, ⟨9, 0⟩) := by rw [hv, if_pos (by omega)]
                      refine go_ (hq := ?_)
                      refine call_ (hc := bfault_spec _ _) (h := ?_)
                      rintro v102 H102 ⟨rfl, hE102⟩
                      replace hX := hX.trans hE102
                      replace hXs := hX.size
                      replace hB_r := hB_r.ext hE102
                      replace hB_f := hB_f.ext hE102
                      replace o_u := o_u.ext hE102
                      replace o_f := o_f.ext hE102
                      replace hB_d := hB_d.ext hE102
                      replace hB_e := hB_e.ext hE102
                      simp only [put]
                      refine go_ (hq := ?_)
                      refine store_ hB_r (h := fun H104 hM104 hsz104 hB_r => ?_)
                      replace hX := hX.mut hM104 hf_hB_r
                      replace hXs := hX.size
                      replace hB_f := hB_f.mutF hM104 hs_hB_r_hB_f
                      replace o_u := o_u.mutF hM104 hs_hB_r_o_u
                      replace o_f := o_f.mutF hM104 hs_hB_r_o_f
                      replace hB_d := hB_d.mutF hM104 hs_hB_r_hB_d
                      replace hB_e := hB_e.mutF hM104 hs_hB_r_hB_e
                      refine go_ (hq := ?_)
                      refine store_ hB_f (h := fun H106 hM106 hsz106 hB_f => ?_)
                      replace hX := hX.mut hM106 hf_hB_f
                      replace hXs := hX.size
                      replace hB_r := hB_r.mutF hM106 (hs_hB_r_hB_f.symm)
                      replace o_u := o_u.mutF hM106 hs_hB_f_o_u
                      replace o_f := o_f.mutF hM106 hs_hB_f_o_f
                      replace hB_d := hB_d.mutF hM106 hs_hB_f_hB_d
                      replace hB_e := hB_e.mutF hM106 hs_hB_f_hB_e
                      refine go_ (hq := ?_)
                      refine retQ_ret (.manyV (rs := [_, _, _]) (vs := [_, _, _]) rfl (by simp) (rvc_ hB_r (h := rvt_ (h := rvc_ hB_f (h := rvn_))))) ?_
                      rw [hv2]
                      exact ⟨_, rfl, sp0_own _ _, hX⟩
                    · skip
                      have hv2 : takeV s n = (takeT s n q, B.start, ⟨0, 0⟩) := by rw [hv, if_neg (by omega)]
                      refine go_ (hq := ?_)
                      refine drawt_ mixed [4, 6] (.seg 0 [0] (.alt 1 (.alt 2 (.alt 3 (.seg 2 [4, 5, 6] .nil) (.altw 4 (.seg 1 [3, 5, 6] .nil) (.stop))) (.alt 3 (.alt 2 (.seg 2 [4, 5, 6] .nil) (.altw 4 (.seg 1 [2, 5, 6] .nil) (.stop))) (.altw 4 (.seg 1 [2, 3, 5, 6] .nil) (.stop)))) (.alt 3 (.alt 1 (.alt 2 (.seg 2 [4, 5, 6] .nil) (.altw 4 (.seg 1 [2, 5, 6] .nil) (.stop))) (.altw 4 (.seg 1 [1, 2, 5, 6] .nil) (.stop))) (.altw 4 (.seg 1 [1, 2, 3, 5, 6] .nil) (.stop))))) (h := ?_)
                      refine wseg_ (h := ?_)
                      refine go_ (hq := ?_)
                      refine walt_ (h := ?_) (hr := walt_ (h := ?_) (hr := waltw_ (h := ?_) (hr := wstop_)))
                      · skip
                        refine go_ (hq := ?_)
                        refine walt_ (h := ?_) (hr := walt_ (h := ?_) (hr := waltw_ (h := ?_) (hr := wstop_)))
                        · skip
                          refine go_ (hq := ?_)
                          refine walt_ (h := ?_) (hr := waltw_ (h := ?_) (hr := wstop_))
                          · skip
                            refine go_ (hq := ?_)
                            refine wseg_ (h := ?_)
                            refine go_ (hq := ?_)
                            refine store_ hB_r (h := fun H114 hM114 hsz114 hB_r => ?_)
                            replace hX := hX.mut hM114 hf_hB_r
                            replace hXs := hX.size
                            replace hB_f := hB_f.mutF hM114 hs_hB_r_hB_f
                            replace o_u := o_u.mutF hM114 hs_hB_r_o_u
                            replace o_f := o_f.mutF hM114 hs_hB_r_o_f
                            replace hB_d := hB_d.mutF hM114 hs_hB_r_hB_d
                            replace hB_e := hB_e.mutF hM114 hs_hB_r_hB_e
                            refine go_ (hq := ?_)
                            refine store_ hB_f (h := fun H116 hM116 hsz116 hB_f => ?_)
                            replace hX := hX.mut hM116 hf_hB_f
                            replace hXs := hX.size
                            replace hB_r := hB_r.mutF hM116 (hs_hB_r_hB_f.symm)
                            replace o_u := o_u.mutF hM116 hs_hB_f_o_u
                            replace o_f := o_f.mutF hM116 hs_hB_f_o_f
                            replace hB_d := hB_d.mutF hM116 hs_hB_f_hB_d
                            replace hB_e := hB_e.mutF hM116 hs_hB_f_hB_e
                            refine go_ (hq := ?_)
                            refine wnil_ ?_
                            refine go_ (hq := ?_)
                            refine retQ_ret (.manyV (rs := [_, _, _]) (vs := [_, _, _]) rfl (by simp) (rvc_ hB_r (h := rvt_ (h := rvc_ hB_f (h := rvn_))))) ?_
                            rw [hv2, hT]
                            exact ⟨_, rfl, ⟨du1, dfx, rfl, o_u, o_f⟩, hX⟩
                          · skip
                            refine store_ hB_r (h := fun H119 hM119 hsz119 hB_r => ?_)
                            replace hX := hX.mut hM119 hf_hB_r
                            replace hXs := hX.size
                            replace hB_f := hB_f.mutF hM119 hs_hB_r_hB_f
                            replace o_u := o_u.mutF hM119 hs_hB_r_o_u
                            replace o_f := o_f.mutF hM119 hs_hB_r_o_f
                            replace hB_d := hB_d.mutF hM119 hs_hB_r_hB_d
                            replace hB_e := hB_e.mutF hM119 hs_hB_r_hB_e
                            refine go_ (hq := ?_)
                            refine wseg_ (h := ?_)
                            refine go_ (hq := ?_)
                            refine store_ hB_f (h := fun H122 hM122 hsz122 hB_f => ?_)
                            replace hX := hX.mut hM122 hf_hB_f
                            replace hXs := hX.size
                            replace hB_r := hB_r.mutF hM122 (hs_hB_r_hB_f.symm)
                            replace o_u := o_u.mutF hM122 hs_hB_f_o_u
                            replace o_f := o_f.mutF hM122 hs_hB_f_o_f
                            replace hB_d := hB_d.mutF hM122 hs_hB_f_hB_d
                            replace hB_e := hB_e.mutF hM122 hs_hB_f_hB_e
                            refine go_ (hq := ?_)
                            refine wnil_ ?_
                            refine go_ (hq := ?_)
                            refine retQ_ret (.manyV (rs := [_, _, _]) (vs := [_, _, _]) rfl (by simp) (rvc_ hB_r (h := rvt_ (h := rvc_ hB_f (h := rvn_))))) ?_
                            rw [hv2, hT]
                            exact ⟨_, rfl, ⟨du1, dfx, rfl, o_u, o_f⟩, hX⟩
                        · skip
                          refine go_ (hq := ?_)
                          refine walt_ (h := ?_) (hr := waltw_ (h := ?_) (hr := wstop_))
                          · skip
                            refine go_ (hq := ?_)
                            refine wseg_ (h := ?_)
                            refine go_ (hq := ?_)
                            refine store_ hB_r (h := fun H128 hM128 hsz128 hB_r => ?_)
                            replace hX := hX.mut hM128 hf_hB_r
                            replace hXs := hX.size
                            replace hB_f := hB_f.mutF hM128 hs_hB_r_hB_f
                            replace o_u := o_u.mutF hM128 hs_hB_r_o_u
                            replace o_f := o_f.mutF hM128 hs_hB_r_o_f
                            replace hB_d := hB_d.mutF hM128 hs_hB_r_hB_d
                            replace hB_e := hB_e.mutF hM128 hs_hB_r_hB_e
                            refine go_ (hq := ?_)
                            refine store_ hB_f (h := fun H130 hM130 hsz130 hB_f => ?_)
                            replace hX := hX.mut hM130 hf_hB_f
                            replace hXs := hX.size
                            replace hB_r := hB_r.mutF hM130 (hs_hB_r_hB_f.symm)
                            replace o_u := o_u.mutF hM130 hs_hB_f_o_u
                            replace o_f := o_f.mutF hM130 hs_hB_f_o_f
                            replace hB_d := hB_d.mutF hM130 hs_hB_f_hB_d
                            replace hB_e := hB_e.mutF hM130 hs_hB_f_hB_e
                            refine go_ (hq := ?_)
                            refine wnil_ ?_
                            refine go_ (hq := ?_)
                            refine retQ_ret (.manyV (rs := [_, _, _]) (vs := [_, _, _]) rfl (by simp) (rvc_ hB_r (h := rvt_ (h := rvc_ hB_f (h := rvn_))))) ?_
                            rw [hv2, hT]
                            exact ⟨_, rfl, ⟨du1, dfx, rfl, o_u, o_f⟩, hX⟩
                          · skip
                            refine store_ hB_r (h := fun H133 hM133 hsz133 hB_r => ?_)
                            replace hX := hX.mut hM133 hf_hB_r
                            replace hXs := hX.size
                            replace hB_f := hB_f.mutF hM133 hs_hB_r_hB_f
                            replace o_u := o_u.mutF hM133 hs_hB_r_o_u
                            replace o_f := o_f.mutF hM133 hs_hB_r_o_f
                            replace hB_d := hB_d.mutF hM133 hs_hB_r_hB_d
                            replace hB_e := hB_e.mutF hM133 hs_hB_r_hB_e
                            refine go_ (hq := ?_)
                            refine wseg_ (h := ?_)
                            refine go_ (hq := ?_)
                            refine store_ hB_f (h := fun H136 hM136 hsz136 hB_f => ?_)
                            replace hX := hX.mut hM136 hf_hB_f
                            replace hXs := hX.size
                            replace hB_r := hB_r.mutF hM136 (hs_hB_r_hB_f.symm)
                            replace o_u := o_u.mutF hM136 hs_hB_f_o_u
                            replace o_f := o_f.mutF hM136 hs_hB_f_o_f
                            replace hB_d := hB_d.mutF hM136 hs_hB_f_hB_d
                            replace hB_e := hB_e.mutF hM136 hs_hB_f_hB_e
                            refine go_ (hq := ?_)
                            refine wnil_ ?_
                            refine go_ (hq := ?_)
                            refine retQ_ret (.manyV (rs := [_, _, _]) (vs := [_, _, _]) rfl (by simp) (rvc_ hB_r (h := rvt_ (h := rvc_ hB_f (h := rvn_))))) ?_
                            rw [hv2, hT]
                            exact ⟨_, rfl, ⟨du1, dfx, rfl, o_u, o_f⟩, hX⟩
                        · skip
                          refine store_ hB_r (h := fun H139 hM139 hsz139 hB_r => ?_)
                          replace hX := hX.mut hM139 hf_hB_r
                          replace hXs := hX.size
                          replace hB_f := hB_f.mutF hM139 hs_hB_r_hB_f
                          replace o_u := o_u.mutF hM139 hs_hB_r_o_u
                          replace o_f := o_f.mutF hM139 hs_hB_r_o_f
                          replace hB_d := hB_d.mutF hM139 hs_hB_r_hB_d
                          replace hB_e := hB_e.mutF hM139 hs_hB_r_hB_e
                          refine go_ (hq := ?_)
                          refine wseg_ (h := ?_)
                          refine go_ (hq := ?_)
                          refine store_ hB_f (h := fun H142 hM142 hsz142 hB_f => ?_)
                          replace hX := hX.mut hM142 hf_hB_f
                          replace hXs := hX.size
                          replace hB_r := hB_r.mutF hM142 (hs_hB_r_hB_f.symm)
                          replace o_u := o_u.mutF hM142 hs_hB_f_o_u
                          replace o_f := o_f.mutF hM142 hs_hB_f_o_f
                          replace hB_d := hB_d.mutF hM142 hs_hB_f_hB_d
                          replace hB_e := hB_e.mutF hM142 hs_hB_f_hB_e
                          refine go_ (hq := ?_)
                          refine wnil_ ?_
                          refine go_ (hq := ?_)
                          refine retQ_ret (.manyV (rs := [_, _, _]) (vs := [_, _, _]) rfl (by simp) (rvc_ hB_r (h := rvt_ (h := rvc_ hB_f (h := rvn_))))) ?_
                          rw [hv2, hT]
                          exact ⟨_, rfl, ⟨du1, dfx, rfl, o_u, o_f⟩, hX⟩
                      · skip
                        refine go_ (hq := ?_)
                        refine walt_ (h := ?_) (hr := waltw_ (h := ?_) (hr := wstop_))
                        · skip
                          refine go_ (hq := ?_)
                          refine walt_ (h := ?_) (hr := waltw_ (h := ?_) (hr := wstop_))
                          · skip
                            refine go_ (hq := ?_)
                            refine wseg_ (h := ?_)
                            refine go_ (hq := ?_)
                            refine store_ hB_r (h := fun H149 hM149 hsz149 hB_r => ?_)
                            replace hX := hX.mut hM149 hf_hB_r
                            replace hXs := hX.size
                            replace hB_f := hB_f.mutF hM149 hs_hB_r_hB_f
                            replace o_u := o_u.mutF hM149 hs_hB_r_o_u
                            replace o_f := o_f.mutF hM149 hs_hB_r_o_f
                            replace hB_d := hB_d.mutF hM149 hs_hB_r_hB_d
                            replace hB_e := hB_e.mutF hM149 hs_hB_r_hB_e
                            refine go_ (hq := ?_)
                            refine store_ hB_f (h := fun H151 hM151 hsz151 hB_f => ?_)
                            replace hX := hX.mut hM151 hf_hB_f
                            replace hXs := hX.size
                            replace hB_r := hB_r.mutF hM151 (hs_hB_r_hB_f.symm)
                            replace o_u := o_u.mutF hM151 hs_hB_f_o_u
                            replace o_f := o_f.mutF hM151 hs_hB_f_o_f
                            replace hB_d := hB_d.mutF hM151 hs_hB_f_hB_d
                            replace hB_e := hB_e.mutF hM151 hs_hB_f_hB_e
                            refine go_ (hq := ?_)
                            refine wnil_ ?_
                            refine go_ (hq := ?_)
                            refine retQ_ret (.manyV (rs := [_, _, _]) (vs := [_, _, _]) rfl (by simp) (rvc_ hB_r (h := rvt_ (h := rvc_ hB_f (h := rvn_))))) ?_
                            rw [hv2, hT]
                            exact ⟨_, rfl, ⟨du1, dfx, rfl, o_u, o_f⟩, hX⟩
                          · skip
                            refine store_ hB_r (h := fun H154 hM154 hsz154 hB_r => ?_)
                            replace hX := hX.mut hM154 hf_hB_r
                            replace hXs := hX.size
                            replace hB_f := hB_f.mutF hM154 hs_hB_r_hB_f
                            replace o_u := o_u.mutF hM154 hs_hB_r_o_u
                            replace o_f := o_f.mutF hM154 hs_hB_r_o_f
                            replace hB_d := hB_d.mutF hM154 hs_hB_r_hB_d
                            replace hB_e := hB_e.mutF hM154 hs_hB_r_hB_e
                            refine go_ (hq := ?_)
                            refine wseg_ (h := ?_)
                            refine go_ (hq := ?_)
                            refine store_ hB_f (h := fun H157 hM157 hsz157 hB_f => ?_)
                            replace hX := hX.mut hM157 hf_hB_f
                            replace hXs := hX.size
                            replace hB_r := hB_r.mutF hM157 (hs_hB_r_hB_f.symm)
                            replace o_u := o_u.mutF hM157 hs_hB_f_o_u
                            replace o_f := o_f.mutF hM157 hs_hB_f_o_f
                            replace hB_d := hB_d.mutF hM157 hs_hB_f_hB_d
                            replace hB_e := hB_e.mutF hM157 hs_hB_f_hB_e
                            refine go_ (hq := ?_)
                            refine wnil_ ?_
                            refine go_ (hq := ?_)
                            refine retQ_ret (.manyV (rs := [_, _, _]) (vs := [_, _, _]) rfl (by simp) (rvc_ hB_r (h := rvt_ (h := rvc_ hB_f (h := rvn_))))) ?_
                            rw [hv2, hT]
                            exact ⟨_, rfl, ⟨du1, dfx, rfl, o_u, o_f⟩, hX⟩
                        · skip
                          refine store_ hB_r (h := fun H160 hM160 hsz160 hB_r => ?_)
                          replace hX := hX.mut hM160 hf_hB_r
                          replace hXs := hX.size
                          replace hB_f := hB_f.mutF hM160 hs_hB_r_hB_f
                          replace o_u := o_u.mutF hM160 hs_hB_r_o_u
                          replace o_f := o_f.mutF hM160 hs_hB_r_o_f
                          replace hB_d := hB_d.mutF hM160 hs_hB_r_hB_d
                          replace hB_e := hB_e.mutF hM160 hs_hB_r_hB_e
                          refine go_ (hq := ?_)
                          refine wseg_ (h := ?_)
                          refine go_ (hq := ?_)
                          refine store_ hB_f (h := fun H163 hM163 hsz163 hB_f => ?_)
                          replace hX := hX.mut hM163 hf_hB_f
                          replace hXs := hX.size
                          replace hB_r := hB_r.mutF hM163 (hs_hB_r_hB_f.symm)
                          replace o_u := o_u.mutF hM163 hs_hB_f_o_u
                          replace o_f := o_f.mutF hM163 hs_hB_f_o_f
                          replace hB_d := hB_d.mutF hM163 hs_hB_f_hB_d
                          replace hB_e := hB_e.mutF hM163 hs_hB_f_hB_e
                          refine go_ (hq := ?_)
                          refine wnil_ ?_
                          refine go_ (hq := ?_)
                          refine retQ_ret (.manyV (rs := [_, _, _]) (vs := [_, _, _]) rfl (by simp) (rvc_ hB_r (h := rvt_ (h := rvc_ hB_f (h := rvn_))))) ?_
                          rw [hv2, hT]
                          exact ⟨_, rfl, ⟨du1, dfx, rfl, o_u, o_f⟩, hX⟩
                      · skip
                        refine store_ hB_r (h := fun H166 hM166 hsz166 hB_r => ?_)
                        replace hX := hX.mut hM166 hf_hB_r
                        replace hXs := hX.size
                        replace hB_f := hB_f.mutF hM166 hs_hB_r_hB_f
                        replace o_u := o_u.mutF hM166 hs_hB_r_o_u
                        replace o_f := o_f.mutF hM166 hs_hB_r_o_f
                        replace hB_d := hB_d.mutF hM166 hs_hB_r_hB_d
                        replace hB_e := hB_e.mutF hM166 hs_hB_r_hB_e
                        refine go_ (hq := ?_)
                        refine wseg_ (h := ?_)
                        refine go_ (hq := ?_)
                        refine store_ hB_f (h := fun H169 hM169 hsz169 hB_f => ?_)
                        replace hX := hX.mut hM169 hf_hB_f
                        replace hXs := hX.size
                        replace hB_r := hB_r.mutF hM169 (hs_hB_r_hB_f.symm)
                        replace o_u := o_u.mutF hM169 hs_hB_f_o_u
                        replace o_f := o_f.mutF hM169 hs_hB_f_o_f
                        replace hB_d := hB_d.mutF hM169 hs_hB_f_hB_d
                        replace hB_e := hB_e.mutF hM169 hs_hB_f_hB_e
                        refine go_ (hq := ?_)
                        refine wnil_ ?_
                        refine go_ (hq := ?_)
                        refine retQ_ret (.manyV (rs := [_, _, _]) (vs := [_, _, _]) rfl (by simp) (rvc_ hB_r (h := rvt_ (h := rvc_ hB_f (h := rvn_))))) ?_
                        rw [hv2, hT]
                        exact ⟨_, rfl, ⟨du1, dfx, rfl, o_u, o_f⟩, hX⟩
end Go.Proofs.Ytpkigjlnbfgjcaa
