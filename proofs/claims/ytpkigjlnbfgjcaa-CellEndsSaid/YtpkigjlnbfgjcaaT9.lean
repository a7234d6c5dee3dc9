/- The walk of cell.Ends' inner function. -/
import Derived.Test.YtpkigjlnbfgjcaaT8
namespace Go.Proofs.Ytpkigjlnbfgjcaa
open Go.TM
open Go.TM.Cell (enc)
set_option maxRecDepth 20000
set_option maxHeartbeats 4000000
variable {H H' H₀ : Heap} {bh bt bp bo r : Nat} {tv : Value} {thd : List Hdr} {xss : List (List OpD)} {M : Nat}
theorem foldl_len {f : St → Nat → St} {c : Nat} (hf : ∀ s p, (f s p).2.length ≤ s.2.length + c) (l : List Nat) : ∀ s, (l.foldl f s).2.length ≤ s.2.length + l.length * c := by
  induction l with
  | nil => intro s; simp
  | cons p l ih =>
    intro s
    have h1 := ih (f s p)
    have h2 := hf s p
    simp only [List.foldl_cons, List.length_cons, Nat.succ_mul]; omega
theorem play_len (hx : xss.length ≤ 4) (n : Nat) : ∀ m a s, (play xss n m a s).2.length ≤ s.2.length + 5 ^ n := by
  induction n with
  | zero => intro m a s; simp [play]
  | succ n ih =>
    intro m a s
    rw [play_succ]
    split
    · exact Nat.le_add_right _ _
    · have hs : ∀ s p, (playStep xss n m a s p).2.length ≤ s.2.length + 5 ^ n := fun s p => by
        unfold playStep; split
        · exact Nat.le_add_right _ _
        · exact ih _ _ _
      have := foldl_len hs (List.range xss.length) (keyS m a :: s.1, s.2)
      simp only [List.length_range] at this
      have h4 : xss.length * 5 ^ n ≤ 4 * 5 ^ n := Nat.mul_le_mul_right _ hx
      have h1 : 1 ≤ 5 ^ n := Nat.one_le_pow _ _ (by omega)
      rw [Nat.pow_succ]
      dsimp only
      split
      · simp only [List.length_append, List.length_singleton]; omega
      · omega
theorem range_all_succ (f : Nat → Bool) (k : Nat) : (List.range (k + 1)).all f = ((List.range k).all f && f k) := by
  rw [List.range_succ, List.all_append]; simp
theorem range_foldl_succ {σ : Type} (f : σ → Nat → σ) (s : σ) (k : Nat) : (List.range (k + 1)).foldl f s = f ((List.range k).foldl f s) k := by
  rw [List.range_succ, List.foldl_append]; rfl
theorem play_walk (hT0 : SlE H₀ tv thd) (hR0 : TM.Rows H₀ thd xss) (hF : Fine xss M) (n : Nat) : ∀ (m a : List Int) (mv av : Value) (s : St) (H : Heap) (vo : Value) (hs : List Hdr),
    PI H₀ H bh bt bp bo r tv vo hs s.2 s.1 → Own H H₀.size 3 mv m → Own H H₀.size 3 av a → Apt (fO mv) (FX bh bt bp bo r) → Apt (fO av) (FX bh bt bp bo r) → Apt (fO mv) (fO vo) → Apt (fO av) (fO vo) →
    Fit xss M m a → remOf xss a < n → s.2.length + 5 ^ n ≤ 10000000000 →
    CallsH PG 31 #[mv, av, .pointer (some ⟨bh, 0, none⟩), .pointer (some ⟨bt, 0, none⟩), .pointer (some ⟨bp, 0, none⟩), .pointer (some ⟨bo, 0, none⟩)] H (PQ H₀ H bh bt bp bo r tv vo mv hs (play xss n m a s)) := by
  induction n with
  | zero =>
    intro m a mv av s H vo hs hP o_m o_a am aa amv aav hfit hrem hlen
    exfalso
    have h1 : ∀ (xss : List (List OpD)) (a : List Int), a.length = xss.length → (∀ p, p < xss.length → 0 ≤ a.getD p 0 ∧ a.getD p 0 ≤ ((xss.getD p []).length : Int)) → 0 ≤ remOf xss a := by
      intro xss
      induction xss with
      | nil => intro a ha _; have : a = [] := List.eq_nil_of_length_eq_zero ha; subst this; simp [remOf]
      | cons x l ih =>
        intro a ha h
        cases a with
        | nil => simp at ha
        | cons y a =>
          have h2 := ih a (by simpa using ha) (fun p hp => by have := h (p + 1) (by simp; omega); simpa using this)
          have h3 := h 0 (by simp)
          simp only [remOf, List.map_cons, List.sum_cons, List.getD_cons_zero] at h2 h3 ⊢; omega
    have := h1 xss a hfit.fa hfit.at_
    omega
  | succ n ih =>
    intro m a mv av s H vo hs hP o_m o_a am aa amv aav hfit hrem hlen
    have hfm := hfit.fm
    have hfa := hfit.fa
    have hnum := hF.num
    have hbig := hF.big
    have hrl := hR0.len
    rw [play_succ]
    have hPH := hP
    have hP0 := hP
    have o_m0 := o_m
    have o_a0 := o_a
    have hX := Ext.refl H
    have hXs := hX.size
    refine callsH_of_W (args := [mv, av, .pointer (some ⟨bh, 0, none⟩), .pointer (some ⟨bt, 0, none⟩), .pointer (some ⟨bp, 0, none⟩), .pointer (some ⟨bo, 0, none⟩)]) (ρ₀ := (upd (upd (upd (upd (upd (upd (fun _ => undef) 5 (.pointer (some ⟨bo, 0, none⟩))) 4 (.pointer (some ⟨bp, 0, none⟩))) 3 (.pointer (some ⟨bt, 0, none⟩))) 2 (.pointer (some ⟨bh, 0, none⟩))) 1 av) 0 mv)) rfl Try.func31 rfl (by kernel_rfl) ?_
    refine go_ (hq := ?_)
    refine call_ (hc := state_spec o_m.sl o_a.sl (by omega)) (h := ?_)
    rintro v2 H2 ⟨rfl, hE2⟩
    replace hX := hX.trans hE2
    replace hXs := hX.size
    replace hP := hP0.ext hX
    replace o_m := o_m0.ext hX
    replace o_a := o_a0.ext hX
    simp only [put]
    have xbh := hP.xbh; have m_r := hP.mp
    have hlk : ((fV s.1) ⟨keyOf m a⟩).getD (.int .i64 0) = .int .i64 (if keyS m a ∈ s.1 then 1 else 0) := by
      unfold fV keyS; split <;> rfl
    refine go_ (hq := ?_)
    refine if_ (ht := fun h => ?_) (hf := fun h => ?_)
    · skip
      have hin : keyS m a ∈ s.1 := by
        by_cases hh : keyS m a ∈ s.1
        · exact hh
        · rw [if_neg hh] at h; omega
      rw [if_pos hin]
      refine go_ (hq := ?_)
      refine ret0_ (h := ?_)
      exact ⟨rfl, vo, hs, hP, Mut.of_ext hX, fun k hk => .inl hk, fun k hk => .inl hk⟩
    · skip
      have hin : ¬ keyS m a ∈ s.1 := by
        intro hh; rw [if_pos hh] at h; omega
      rw [if_neg hin]
      refine go_ (hq := ?_)
      refine mapsetS_ m_r (h := fun H9 hM9 hsz9 m_r9 => ?_)
      rw [fV_cons] at m_r9
      have hP9 := hP.put hM9 m_r9
      have o_m9 := o_m.mutF hM9 (fun k hk hv => am k hv (.inr (.inr (.inr (.inr hk)))))
      have o_a9 := o_a.mutF hM9 (fun k hk hv => aa k hv (.inr (.inr (.inr (.inr hk)))))
      have hMut9 : Mut (SX bo r vo) H H9 := (Mut.of_ext hX).trans (hM9.mono fun k _ hk => .inl hk)
      clear hP o_m o_a hX hXs xbh m_r
      have xbt := hP9.xbt
      have hT9 := hT0.ext hP9.xe
      refine go_ (hq := ?_)
      have hkey : (⟨keyOf m a⟩ : StrK) = keyS m a := rfl
      rw [hkey] at hP9
      refine W_loop (X := Nat × Bool × Value × List Hdr × St)
        (fun x => [(0, mv), (1, av), (2, .pointer (some ⟨bh, 0, none⟩)), (3, .pointer (some ⟨bt, 0, none⟩)), (4, .pointer (some ⟨bp, 0, none⟩)), (5, .pointer (some ⟨bo, 0, none⟩)), (9, .bool x.2.1), (23, tv), (24, .int .i64 thd.length), (25, .int .i64 x.1)])
        (fun x H' => PI H₀ H' bh bt bp bo r tv x.2.2.1 x.2.2.2.1 x.2.2.2.2.2 x.2.2.2.2.1 ∧ Own H' H₀.size 3 mv m ∧ Own H' H₀.size 3 av a ∧ Apt (fO mv) (fO x.2.2.1) ∧ Apt (fO av) (fO x.2.2.1) ∧ Mut (SX bo r vo) H H' ∧
          (∀ k, fO x.2.2.1 k → fO vo k ∨ H.size ≤ k) ∧ (∀ k, fR x.2.2.2.1 k → fR hs k ∨ fO mv k ∨ H.size ≤ k) ∧ x.1 ≤ xss.length ∧ x.2.1 = (List.range x.1).all (atEnd xss a) ∧
          x.2.2.2.2 = (List.range x.1).foldl (playStep xss n m a) (keyS m a :: s.1, s.2) ∧ x.2.2.2.2.2.length ≤ s.2.length + x.1 * 5 ^ n)
        (fun x => xss.length - x.1) (0, true, vo, hs, (keyS m a :: s.1, s.2)) ?_ ?_ ?_
      · exact hold_
      · exact ⟨hP9, o_m9, o_a9, amv, aav, hMut9, fun k hk => .inl hk, fun k hk => .inl hk, Nat.zero_le _, rfl, rfl, by simp⟩
      · clear hP9 o_m9 o_a9 xbt hT9 m_r9
        rintro u ⟨k, dn, vo1, hs1, s1⟩ H1 ⟨hP, o_m, o_a, amv1, aav1, hMut, hvo1, hhs1, hk, hdn, hs1e, hlen1⟩
        dsimp only at hP o_m o_a amv1 aav1 hMut hvo1 hhs1 hk hdn hs1e hlen1 ⊢
        have hT1 := hT0.ext hP.xe
        have hR1 := hR0.ext hP.xe
        have h5 : 1 ≤ 5 ^ n := Nat.one_le_pow _ _ (by omega)
        rw [Nat.pow_succ] at hlen
        have hP0 := hP
        have o_m0 := o_m
        have o_a0 := o_a
        have hT10 := hT1
        have hR10 := hR1
        have hX := Ext.refl H1
        have hXs := hX.size
        refine go_ (hq := ?_)
        refine if_ (ht := fun h2 => ?_) (hf := fun h2 => ?_)
        · skip
          have hk' : k < xss.length := by omega
          have hrow := hR1.at_ k hk'
          have hfk := hfit.at_ k hk'
          have hbk := hF.len k hk'
          refine go_ (hq := ?_)
          refine if_ (ht := fun h3 => ?_) (hf := fun h3 => ?_)
          · skip
            have he : atEnd xss a k = true := by simp [atEnd]; exact h3
            refine go_ (hq := ?_)
            refine ⟨(k + 1, dn, vo1, hs1, s1), hold_, ⟨hP, o_m, o_a, amv1, aav1, hMut, hvo1, hhs1, by omega, ?_, ?_, ?_⟩, by dsimp only; omega⟩
            · dsimp only; rw [range_all_succ, he, Bool.and_true, hdn]
            · dsimp only; rw [range_foldl_succ, ← hs1e, playStep, if_pos he]
            · dsimp only; rw [Nat.succ_mul]; omega
          · skip
            have he : atEnd xss a k = false := by simp [atEnd]; exact h3
            refine go_ (hq := ?_)
            refine call_ (hc := clone_spec o_m.sl (by omega)) (h := ?_)
            rintro w H14 ⟨n_14, hE14⟩
            have hf_o_w : Frs H1 (fO w) := Frs.mono (Own.frs n_14 (Nat.le_refl _)) hXs
            have o_w := n_14.mono hXs
            replace hX := hX.trans hE14
            replace hXs := hX.size
            replace hP := hP0.ext hX
            replace o_m := o_m0.ext hX
            replace o_a := o_a0.ext hX
            replace hT1 := hT10.ext hX
            replace hR1 := hR10.ext hX
            simp only [put]
            refine go_ (hq := ?_)
            refine call_ (hc := clone_spec o_a.sl (by omega)) (h := ?_)
            rintro kv H16 ⟨n_16, hE16⟩
            have hs_o_w_o_k : Apt (fO w) (fO kv) := Apt.new o_w.old (Own.frs n_16 (Nat.le_refl _))
            have hf_o_k : Frs H1 (fO kv) := Frs.mono (Own.frs n_16 (Nat.le_refl _)) hXs
            have o_k := n_16.mono hXs
            replace hX := hX.trans hE16
            replace hXs := hX.size
            replace hP := hP0.ext hX
            replace o_m := o_m0.ext hX
            replace o_a := o_a0.ext hX
            replace hT1 := hT10.ext hX
            replace hR1 := hR10.ext hX
            replace o_w := o_w.ext hE16
            simp only [put]
            replace hrow := hR1.at_ k hk'
            refine go_ (hq := ?_)
            have hop := hF.op k hk' (a.getD k 0).toNat (by omega)
            refine call_ (hc := do_spec o_w hop.1 (by rw [hfm]; exact hop.2)) (h := ?_)
            rintro v18 H18 ⟨rfl, n_o, hM18⟩
            replace hX := hX.mut hM18 hf_o_w
            replace hXs := hX.size
            replace hP := hP0.ext hX
            replace o_m := o_m0.ext hX
            replace o_a := o_a0.ext hX
            replace hT1 := hT10.ext hX
            replace hR1 := hR10.ext hX
            replace o_k := o_k.mutF hM18 hs_o_w_o_k
            simp only [put]
            replace o_w := n_o
            have haN : (a.set k (a.getD k 0 + 1)) = nextA a k := rfl
            refine go_ (hq := ?_)
            refine storee_ o_k ((a.getD k 0 + 1)) (h := fun H20 hM20 hsz20 o_k => ?_)
            replace hX := hX.mut hM20 hf_o_k
            replace hXs := hX.size
            replace hP := hP0.ext hX
            replace o_m := o_m0.ext hX
            replace o_a := o_a0.ext hX
            replace hT1 := hT10.ext hX
            replace hR1 := hR10.ext hX
            replace o_w := o_w.mutF hM20 (hs_o_w_o_k.symm)
            try simp only [Int.toNat_natCast] at o_k
            rw [haN] at o_k
            have xbp := hP.xbp
            refine go_ (hq := ?_)
            have hs0 : H₀.size ≤ H1.size := hP0.xe.size
            have hfw := hfit.next k hk' he
            have hrem' := remOf_next hfit k hk'
            have hkk : k * 5 ^ n + 5 ^ n ≤ 4 * 5 ^ n := by rw [← Nat.succ_mul]; exact Nat.mul_le_mul_right _ (by omega)
            refine callv_ (hc := ih (nextM xss m a k) (nextA a k) w kv s1 _ vo1 hs1 hP (o_w.mono hs0) (o_k.mono hs0) (Apt.new hP0.oldFX hf_o_w).symm (Apt.new hP0.oldFX hf_o_k).symm (Apt.new hP0.ov.old hf_o_w).symm (Apt.new hP0.ov.old hf_o_k).symm hfw (by omega) (by omega)) (h := ?_)
            rintro v9 H9 ⟨rfl, vo2, hs2, hP2, hM2, hvo2, hhs2⟩
            simp only [put]
            refine go_ (hq := ?_)
            have hsz := hMut.size
            have hMs := hM2.size
            refine ⟨(k + 1, false, vo2, hs2, play xss n (nextM xss m a k) (nextA a k) s1), hold_, ⟨hP2, o_m.mutF hM2 ?_, o_a.mutF hM2 ?_, ?_, ?_, ?_, ?_, ?_, by omega, ?_, ?_, ?_⟩, by dsimp only; omega⟩
            · intro j hj hv
              rcases hj with h | h | h
              · exact am j hv (.inr (.inr (.inr (.inr h))))
              · exact am j hv (.inr (.inr (.inr (.inl h))))
              · exact amv1 j hv h
            · intro j hj hv
              rcases hj with h | h | h
              · exact aa j hv (.inr (.inr (.inr (.inr h))))
              · exact aa j hv (.inr (.inr (.inr (.inl h))))
              · exact aav1 j hv h
            · exact (Apt.app amv1.symm hvo2 o_m.old).symm
            · exact (Apt.app aav1.symm hvo2 o_a.old).symm
            · refine Mut.trans' (Mut.trans' hMut (Mut.of_ext (S := fun _ => False) hX) (fun _ _ h => h.elim)) hM2 ?_
              intro j hj hx
              rcases hx with h | h | h
              · exact .inl h
              · exact .inr (.inl h)
              · rcases hvo1 j h with h | h
                · exact .inr (.inr h)
                · omega
            · intro j hj
              rcases hvo2 j hj with h | h
              · exact hvo1 j h
              · exact .inr (by omega)
            · intro j hj
              rcases hhs2 j hj with h | h | h
              · exact hhs1 j h
              · have := hf_o_w j h; exact .inr (.inr (by omega))
              · exact .inr (.inr (by omega))
            · dsimp only; rw [range_all_succ, he, Bool.and_false]
            · dsimp only; rw [range_foldl_succ, ← hs1e, playStep, if_neg (by rw [he]; decide)]
            · have := play_len hnum n (nextM xss m a k) (nextA a k) s1
              dsimp only; rw [Nat.succ_mul]; omega
        · skip
          have hke : k = xss.length := by omega
          subst hke
          refine go_ (hq := ?_)
          refine if_ (ht := fun hd => ?_) (hf := fun hd => ?_)
          · skip
            rw [hd] at hdn
            have hkk : xss.length * 5 ^ n ≤ 4 * 5 ^ n := Nat.mul_le_mul_right _ hnum
            have xbo := hP.xbo
            have hrl2 := hP.rw_.len
            have hxs := hP.xe.size
            obtain ⟨hdm, rfl⟩ := o_m.sl.hdrOf
            refine go_ (hq := ?_)
            refine lit_ [hdm] (h := fun vl H26 n_26 hE26 hN26 => ?_)
            have hf_o_l : Frs H1 (fO vl) := Frs.mono (Own.frs n_26 (Nat.le_refl _)) hXs
            have o_l := n_26.mono hXs
            replace hX := hX.trans hE26
            replace hXs := hX.size
            replace hP := hP0.ext hX
            replace o_m := o_m0.ext hX
            replace o_a := o_a0.ext hX
            replace hT1 := hT10.ext hX
            replace hR1 := hR10.ext hX
            have hov := hP.ov
            have hxs' := hP.xe.size
            refine go_ (hq := ?_)
            refine append_ hov o_l.sl (h := fun v2 H5 n5 hM5 hF5 hN5 => ?_)
            obtain ⟨hd2, rfl⟩ := n5.sl.hdrOf
            have xbo5 := hP.xbo.mut hM5 (fun hv => hP.sv bo hv (.inr (.inr (.inr (.inl rfl)))))
            refine go_ (hq := ?_)
            refine store_ xbo5 (h := fun H6 hM6 hsz6 xbo6 => ?_)
            have hP6 := hP.push hM5 n5 hF5 hM6 xbo6 o_m am amv1
            refine go_ (hq := ?_)
            refine end0_ (h := ?_)
            rw [if_pos hdn.symm, ← hs1e]
            have hsz := hMut.size
            refine ⟨rfl, hd2.val, hs1 ++ [hdm], hP6, ?_, ?_, ?_⟩
            · refine Mut.trans' (Mut.trans' (Mut.trans' hMut (Mut.of_ext (S := fun _ => False) hX) (fun _ _ h => h.elim)) hM5 ?_) hM6 (fun j _ h => .inr (.inl h))
              intro j hj hx
              rcases hvo1 j hx with h | h
              · exact .inr (.inr h)
              · omega
            · intro j hj
              rcases hF5 j hj with h | h
              · exact hvo1 j h
              · exact .inr (by omega)
            · rintro j ⟨x, hx, hj⟩
              rcases List.mem_append.1 hx with h | h
              · exact hhs1 j ⟨x, h, hj⟩
              · rw [List.mem_singleton] at h; subst h; exact .inr (.inl hj)
          · skip
            refine go_ (hq := ?_)
            refine end0_ (h := ?_)
            have hd' : (List.range xss.length).all (atEnd xss a) = false := by rw [← hdn]; simpa using hd
            rw [if_neg (by rw [hd']; decide), ← hs1e]
            exact ⟨rfl, vo1, hs1, hP, hMut, hvo1, hhs1⟩
end Go.Proofs.Ytpkigjlnbfgjcaa
