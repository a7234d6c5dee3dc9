/- The walk of AllEnds' inner function. -/
import Derived.Test.YtpkigjlnbfgjcaaT12
namespace Go.Proofs.Ytpkigjlnbfgjcaa
open Go.TM
open Go.TM.Cell (enc)
set_option maxRecDepth 20000
set_option maxHeartbeats 4000000
variable {H H' H₀ : Heap} {bt ba bn bo : Nat} {tv av : Value} {thd : List Hdr} {xss : List (List OpD)} {M : Nat}
theorem set_back (a : List Int) (k : Nat) (hk : k < a.length) : ((nextA a k).set k ((nextA a k).getD k 0 - 1)) = a := by
  unfold nextA
  have : (a.set k (a.getD k 0 + 1)).getD k 0 = a.getD k 0 + 1 := by
    rw [List.getD_eq_getElem?_getD, List.getElem?_set_self hk]; rfl
  rw [this, List.set_set, show a.getD k 0 + 1 - 1 = a.getD k 0 by omega]
  simp [List.getD, hk]
theorem one_op (l : List OpD) (i : Nat) (hi : i < l.length) : (l.take (i + 1)).drop i = [l.getD i default] := by
  rw [List.take_succ_eq_append_getElem hi, List.drop_append_of_le_length (by simp; omega), List.drop_of_length_le (by simp; omega)]
  simp [List.getD, hi]
theorem all_walk (hT0 : SlE H₀ tv thd) (hR0 : TM.Rows H₀ thd xss) (hF : Fine xss M) (n : Nat) : ∀ (m a : List Int) (mv : Value) (out : List (List Int)) (H : Heap) (vo : Value) (hs : List Hdr),
    PJ H₀ H bt ba bn bo tv av vo a hs out → Own H H₀.size 3 mv m → Apt (fO mv) (FY bt ba bn bo) → Apt (fO mv) (fO vo) → Apt (fO mv) (fO av) →
    Fit xss M m a → remOf xss a < n → out.length + 5 ^ n ≤ 10000000000 → (∀ x ∈ out, x.length = M) →
    CallsH PG 41 #[mv, .pointer (some ⟨bt, 0, none⟩), .pointer (some ⟨ba, 0, none⟩), .pointer (some ⟨bn, 0, none⟩), .pointer (some ⟨bo, 0, none⟩)] H (QJ H₀ H bt ba bn bo tv av vo mv a hs (allE xss n m a out)) := by
  induction n with
  | zero =>
    intro m a mv out H vo hs hP o_m am amv ama hfit hrem hlen hin
    exfalso
    have h1 : ∀ (xss : List (List OpD)) (a : List Int), a.length = xss.length → (∀ p, p < xss.length → 0 ≤ a.getD p 0 ∧ a.getD p 0 ≤ ((xss.getD p []).length : Int)) → 0 ≤ remOf xss a := by
      intro xss
      induction xss with
      | nil => intro a ha _; have : a = [] := List.eq_nil_of_length_eq_zero ha; subst this; simp [remOf]
      | cons x l ih =>
        intro a ha h
        cases a with
        | nil => simp at ha
        | cons y a =>
          have h2 := ih a (by simpa using ha) (fun p hp => by have := h (p + 1) (by simp; omega); simpa using this)
          have h3 := h 0 (by simp)
          simp only [remOf, List.map_cons, List.sum_cons, List.getD_cons_zero] at h2 h3 ⊢; omega
    have := h1 xss a hfit.fa hfit.at_
    omega
  | succ n ih =>
    intro m a mv out H vo hs hP o_m am amv ama hfit hrem hlen hinn
    have hfm := hfit.fm
    have hfa := hfit.fa
    have hnum := hF.num
    have hbig := hF.big
    have hrl := hR0.len
    rw [allE_succ]
    have hT := hT0.ext hP.xe
    have xbt := hP.xbt
    have hP0 := hP
    have o_m0 := o_m
    have hX := Ext.refl H
    have hXs := hX.size
    refine callsH_of_W (args := [mv, .pointer (some ⟨bt, 0, none⟩), .pointer (some ⟨ba, 0, none⟩), .pointer (some ⟨bn, 0, none⟩), .pointer (some ⟨bo, 0, none⟩)]) (ρ₀ := (upd (upd (upd (upd (upd (fun _ => undef) 4 (.pointer (some ⟨bo, 0, none⟩))) 3 (.pointer (some ⟨bn, 0, none⟩))) 2 (.pointer (some ⟨ba, 0, none⟩))) 1 (.pointer (some ⟨bt, 0, none⟩))) 0 mv)) rfl Try.func41 rfl (by kernel_rfl) ?_
    refine go_ (hq := ?_)
    refine W_loop (X := Nat × Bool × Value × List Hdr × List (List Int))
      (fun x => [(0, mv), (1, .pointer (some ⟨bt, 0, none⟩)), (2, .pointer (some ⟨ba, 0, none⟩)), (3, .pointer (some ⟨bn, 0, none⟩)), (4, .pointer (some ⟨bo, 0, none⟩)), (6, .bool x.2.1), (7, .int .i64 x.1)])
      (fun x H' => PJ H₀ H' bt ba bn bo tv av x.2.2.1 a x.2.2.2.1 x.2.2.2.2 ∧ Own H' H₀.size 3 mv m ∧ Apt (fO mv) (fO x.2.2.1) ∧ Mut (SY bo av vo) H H' ∧
        (∀ k, fO x.2.2.1 k → fO vo k ∨ H.size ≤ k) ∧ (∀ k, fR x.2.2.2.1 k → fR hs k ∨ fO mv k ∨ H.size ≤ k) ∧ x.1 ≤ xss.length ∧ x.2.1 = (List.range x.1).all (atEnd xss a) ∧
        x.2.2.2.2 = (List.range x.1).foldl (allStep xss n m a) out ∧ x.2.2.2.2.length ≤ out.length + x.1 * 5 ^ n ∧ (∀ y ∈ x.2.2.2.2, y.length = M))
      (fun x => xss.length - x.1) (0, true, vo, hs, out) ?_ ?_ ?_
    · exact hold_
    · exact ⟨hP, o_m, amv, Mut.refl _ _, fun k hk => .inl hk, fun k hk => .inl hk, Nat.zero_le _, rfl, rfl, by simp, hinn⟩
    · clear hP o_m xbt hT hX hXs
      rintro u ⟨k, dn, vo1, hs1, s1⟩ H1 ⟨hP, o_m, amv1, hMut, hvo1, hhs1, hk, hdn, hs1e, hlen1, hin1⟩
      dsimp only at hP o_m amv1 hMut hvo1 hhs1 hk hdn hs1e hlen1 hin1 ⊢
      have hT1 := hT0.ext hP.xe
      have hR1 := hR0.ext hP.xe
      have h5 : 1 ≤ 5 ^ n := Nat.one_le_pow _ _ (by omega)
      rw [Nat.pow_succ] at hlen
      have har := hP.ar
      have xbt := hP.xbt
      have xba := hP.xba
      have hP0 := hP
      have o_m0 := o_m
      have hT10 := hT1
      have hR10 := hR1
      have hX := Ext.refl H1
      have hXs := hX.size
      refine go_ (hq := ?_)
      refine if_ (ht := fun h2 => ?_) (hf := fun h2 => ?_)
      · skip
        have hk' : k < xss.length := by omega
        have hrow := hR1.at_ k hk'
        have hfk := hfit.at_ k hk'
        have hbk := hF.len k hk'
        refine go_ (hq := ?_)
        refine draw_ mixed (Q := _) 0 [0,1,2,3,4,5,6,7,8,9] (h := ?_)
        refine go_ (hq := ?_)
        refine if_ (ht := fun h3 => ?_) (hf := fun h3 => ?_)
        · skip
          have he : atEnd xss a k = true := by simp [atEnd]; exact h3
          refine go_ (hq := ?_)
          refine ⟨(k + 1, dn, vo1, hs1, s1), hold_, ⟨hP, o_m, amv1, hMut, hvo1, hhs1, by omega, ?_, ?_, ?_, hin1⟩, by dsimp only; omega⟩
          · dsimp only; rw [range_all_succ, he, Bool.and_true, hdn]
          · dsimp only; rw [range_foldl_succ, ← hs1e, allStep, if_pos he]
          · dsimp only; rw [Nat.succ_mul]; omega
        · skip
          have he : atEnd xss a k = false := by simp [atEnd]; exact h3
          have hop := hF.op k hk' (a.getD k 0).toNat (by omega)
          have hl1 : (((xss.getD k []).take (a.getD k 0 + 1).toNat).drop (a.getD k 0).toNat) = [(xss.getD k []).getD (a.getD k 0).toNat default] := by
            rw [show (a.getD k 0 + 1).toNat = (a.getD k 0).toNat + 1 by omega]; exact one_op _ _ (by omega)
          have hsub := hrow.resl (a.getD k 0).toNat (a.getD k 0 + 1).toNat (by omega) (by omega)
          rw [hl1] at hsub
          refine go_ (hq := ?_)
          refine draw_ mixed (Q := _) 0 [0,1,2,3,4,5,6,7,8,9,10,11,12,13,14,15,16,17,18,19,20] (h := ?_)
          refine go_ (hq := ?_)
          refine call_ (hc := ran_spec o_m.sl hsub (by omega) (by simp) (by intro x hx; rw [List.mem_singleton] at hx; subst hx; rw [hfm]; exact hop.2)) (h := ?_)
          rintro v9 H9 ⟨vm, vo9, rfl, o_w, -, hE⟩
          have hf_w : Frs H1 (fO vm) := o_w.frs (Nat.le_refl _)
          have hnx : (ranL m [(xss.getD k []).getD (a.getD k 0).toNat default]).1 = nextM xss m a k := rfl
          rw [hnx] at o_w
          simp only [put]
          replace hX := hX.trans hE
          replace hXs := hX.size
          replace hP := hP0.ext hX
          replace o_m := o_m0.ext hX
          replace hT1 := hT10.ext hX
          replace hR1 := hR10.ext hX
          have xba := hP.xba
          have har := hP.ar
          refine go_ (hq := ?_)
          refine storee_ har (a.getD k 0 + 1) (h := fun H10 hM10 hsz10 har10 => ?_)
          simp only [Int.toNat_natCast] at har10
          have hP10 := hP.at_ hM10 har10
          have o_m10 := o_m.mutF hM10 ama.symm
          have hwa : Apt (fO vm) (fO av) := (Apt.new hP0.ar.old hf_w).symm
          have o_w10 := (o_w.mono (hP0.xe.size)).mutF hM10 hwa.symm
          have xbn := hP10.xbn
          have hs0 : H₀.size ≤ H1.size := hP0.xe.size
          have hfw := hfit.next k hk' he
          have hrem' := remOf_next hfit k hk'
          have hkk : k * 5 ^ n + 5 ^ n ≤ 4 * 5 ^ n := by rw [← Nat.succ_mul]; exact Nat.mul_le_mul_right _ (by omega)
          refine go_ (hq := ?_)
          refine callv_ (hc := ih (nextM xss m a k) (nextA a k) vm s1 _ vo1 hs1 hP10 o_w10 (Apt.new hP0.oldFY hf_w).symm (Apt.new hP0.ov.old hf_w).symm hwa hfw (by omega) (by omega) hin1) (h := ?_)
          rintro v11 H11 ⟨rfl, vo2, hs2, hP2, hM2, hvo2, hhs2⟩
          simp only [put]
          have xba := hP2.xba
          have har2 := hP2.ar
          have hla : (nextA a k).length = xss.length := by simp [nextA, hfa]
          have hgn : (nextA a k).getD k 0 = a.getD k 0 + 1 := by
            unfold nextA; rw [List.getD_eq_getElem?_getD, List.getElem?_set_self (by omega)]; rfl
          refine go_ (hq := ?_)
          refine storee_ har2 ((nextA a k).getD k 0 - 1) (h := fun H12 hM12 hsz12 har12 => ?_)
          simp only [Int.toNat_natCast] at har12
          rw [set_back a k (by omega)] at har12
          have hP12 := hP2.at_ hM12 har12
          have hMs := hM2.size
          have hsz := hMut.size
          refine go_ (hq := ?_)
          refine ⟨(k + 1, false, vo2, hs2, allE xss n (nextM xss m a k) (nextA a k) s1), hold_, ⟨hP12, (o_m10.mutF hM2 ?_).mutF hM12 ama.symm, ?_, ?_, ?_, ?_, by omega, ?_, ?_, ?_, ?_⟩, by dsimp only; omega⟩
          · intro j hj hv
            rcases hj with h | h | h
            · exact ama j hv h
            · exact am j hv (.inr (.inr (.inr h)))
            · exact amv1 j hv h
          · exact (Apt.app amv1.symm hvo2 o_m10.old).symm
          · refine Mut.trans' (Mut.trans' (Mut.trans' (Mut.trans' hMut (Mut.of_ext (S := fun _ => False) hX) (fun _ _ h => h.elim)) hM10 (fun j _ h => .inl h)) hM2 ?_) hM12 (fun j _ h => .inl h)
            intro j hj hx
            rcases hx with h | h | h
            · exact .inl h
            · exact .inr (.inl h)
            · rcases hvo1 j h with h | h
              · exact .inr (.inr h)
              · omega
          · intro j hj
            rcases hvo2 j hj with h | h
            · exact hvo1 j h
            · exact .inr (by omega)
          · intro j hj
            rcases hhs2 j hj with h | h | h
            · exact hhs1 j h
            · have := hf_w j h; exact .inr (.inr (by omega))
            · exact .inr (.inr (by omega))
          · dsimp only; rw [range_all_succ, he, Bool.and_false]
          · dsimp only; rw [range_foldl_succ, ← hs1e, allStep, if_neg (by rw [he]; decide)]
          · have := allE_len xss hnum n (nextM xss m a k) (nextA a k) s1
            dsimp only; rw [Nat.succ_mul]; omega
          · exact allE_inner xss M n _ _ _ hfw.fm hin1
      · skip
        have hke : k = xss.length := by omega
        subst hke
        have xbo := hP.xbo
        have hkk : xss.length * 5 ^ n ≤ 4 * 5 ^ n := Nat.mul_le_mul_right _ hnum
        have hrl2 := hP.rw_.len
        refine go_ (hq := ?_)
        refine if_ (ht := fun hd => ?_) (hf := fun hd => ?_)
        · skip
          refine go_ (hq := ?_)
          refine ret0_ (h := ?_)
          have hd' : (List.range xss.length).all (atEnd xss a) = false := by rw [← hdn]; simpa using hd
          rw [if_neg (by rw [hd']; decide), ← hs1e]
          exact ⟨rfl, vo1, hs1, hP, hMut, hvo1, hhs1⟩
        · skip
          have hd2 : dn = true := by cases dn <;> simp_all
          rw [hd2] at hdn
          obtain ⟨hdm, rfl⟩ := o_m.sl.hdrOf
          refine go_ (hq := ?_)
          refine W_loop (X := Nat) (fun k => [(0, hdm.val), (4, .pointer (some ⟨bo, 0, none⟩)), (10, .int .i64 k)]) (fun k H' => Ext H1 H' ∧ k ≤ hs1.length ∧ ∀ i, i < k → lessL (s1.getD i []) m = true) (fun k => hs1.length - k) 0 ?_ ?_ ?_
          · exact hold_
          · exact ⟨hX, Nat.zero_le _, fun i hi => absurd hi (Nat.not_lt_zero _)⟩
          · clear hP o_m xbo har xbt xba hT1 hR1 hX hXs
            rintro u k2 H2 ⟨hX, hk2, hall⟩
            have hXs := hX.size
            have hP := hP0.ext hX
            have o_m := o_m0.ext hX
            have xbo := hP.xbo
            have hov := hP.ov
            refine go_ (hq := ?_)
            by_cases hkl : k2 < hs1.length
            · skip
              have hb : (decide ((k2 : Int) < (hs1.length : Int)) == true) = true := by simp; omega
              have hrk := (hP.rw_.at_ k2 (by omega)).sl
              have hmk : s1.getD k2 [] ∈ s1 := by rw [List.getD_eq_getElem?_getD, List.getElem?_eq_getElem (by omega)]; exact List.getElem_mem _
              refine callg_ hb (hc := less_spec hrk o_m.sl (by rw [hin1 _ hmk, hfm])) (h := ?_)
              rintro v9 H9 ⟨rfl, hE⟩
              replace hX := hX.trans hE
              replace hXs := hX.size
              replace hP := hP0.ext hX
              replace o_m := o_m0.ext hX
              replace hT1 := hT10.ext hX
              replace hR1 := hR10.ext hX
              replace hrk := hrk.ext hE
              have xbo := hP.xbo
              have hov := hP.ov
              refine go_ (hq := ?_)
              refine if_ (ht := fun h3 => ?_) (hf := fun h3 => ?_)
              · skip
                refine go_ (hq := ?_)
                refine ⟨k2 + 1, hold_, ⟨hX, hkl, fun i hi => ?_⟩, by omega⟩
                rcases Nat.lt_succ_iff_lt_or_eq.1 hi with hi | rfl
                · exact hall i hi
                · exact h3.2
              · skip
                have hlf : lessL (s1.getD k2 []) m = false := by
                  cases hl : lessL (s1.getD k2 []) m with
                  | false => rfl
                  | true => exact absurd ⟨by omega, hl⟩ h3
                have hins := insAt_spec s1 m k2 (by omega) hall (.inr hlf)
                refine go_ (hq := ?_)
                have hb2 : (decide ((k2 : Int) = (hs1.length : Int)) == false) = true := by simp; omega
                refine callg_ hb2 (hc := ints_spec hrk o_m.sl) (h := ?_)
                rintro v10 H10 ⟨rfl, hE10⟩
                replace hX := hX.trans hE10
                replace hXs := hX.size
                replace hP := hP0.ext hX
                replace o_m := o_m0.ext hX
                replace hT1 := hT10.ext hX
                replace hR1 := hR10.ext hX
                have xbo := hP.xbo
                have hov := hP.ov
                refine go_ (hq := ?_)
                refine if_ (ht := fun h4 => ?_) (hf := fun h4 => ?_)
                · skip
                  have hcond : k2 = s1.length ∨ s1.getD k2 [] ≠ m := by
                    rcases h4 with h4 | h4
                    · omega
                    · exact .inr (by simpa using h4)
                  refine go_ (hq := ?_)
                  refine draw_ mixed (Q := _) 2 [0,1,2,3,5,6,7,4,8,9,10] (h := ?_)
                  have hxe := hP.xe.size
                  have hovt := hP.ov.take k2 hk2
                  have hov2 := hP.ov.sl.resl k2 hs1.length hk2 (Nat.le_refl _)
                  rw [List.take_length] at hov2
                  refine go_ (hq := ?_)
                  refine litc_ [hdm] (h := fun vl H5 hvl o_l hE => ?_)
                  subst hvl
                  have hEs := hE.size
                  replace hX := hX.trans hE
                  replace hXs := hX.size
                  replace hP := hP0.ext hX
                  replace o_m := o_m0.ext hX
                  replace hT1 := hT10.ext hX
                  replace hR1 := hR10.ext hX
                  replace hovt := hovt.ext hE
                  replace hov2 := hov2.ext hE
                  have hxe := hP.xe.size
                  refine go_ (hq := ?_)
                  refine appendf_ o_l hov2 (h := fun v98 H6 n98 hE6 hF6 => ?_)
                  replace hX := hX.trans hE6
                  replace hXs := hX.size
                  replace hP := hP0.ext hX
                  replace o_m := o_m0.ext hX
                  replace hT1 := hT10.ext hX
                  replace hR1 := hR10.ext hX
                  replace hovt := hovt.ext hE6
                  have hxe := hP.xe.size
                  refine go_ (hq := ?_)
                  have hl9 : (hs1.take k2).length + ([hdm] ++ hs1.drop k2).length = hs1.length + 1 := by simp; omega
                  refine append_ hovt n98.sl (hb := by rw [hl9]; omega) (hlen := by rw [hl9]; omega) (h := fun v99 H7 n99 hM7 hF7 hN7 => ?_)
                  have hM7' : Mut (fO vo1) _ H7 := hM7.mono (fun _ _ h => fO_resl h)
                  have hF7' : ∀ j, v99.ownBlock = some j → vo1.ownBlock = some j ∨ _ ≤ j := fun j hj => (hF7 j hj).imp fO_resl id
                  obtain ⟨hd2, rfl⟩ := n99.sl.hdrOf
                  have xbo7 := hP.xbo.mut hM7' (fun hv => hP.sv bo hv (.inr (.inr (.inr rfl))))
                  refine go_ (hq := ?_)
                  refine store_ xbo7 (h := fun H8 hM8 hsz8 xbo8 => ?_)
                  have hP8 := hP.ins (k := k2) (m := m) hM7' (by simpa using n99) hF7' hM8 xbo8 o_m am amv1 ama
                  refine go_ (hq := ?_)
                  refine end0_ (h := ?_)
                  rw [if_pos hdn.symm, ← hs1e, insertL, hins, if_pos hcond]
                  have hsz := hMut.size
                  refine ⟨rfl, _, _, hP8, ?_, ?_, ?_⟩
                  · refine Mut.trans' (Mut.trans' (Mut.trans' hMut (Mut.of_ext (S := fun _ => False) hX) (fun _ _ h => h.elim)) hM7' ?_) hM8 (fun j _ h => .inr (.inl h))
                    intro j hj hx
                    rcases hvo1 j hx with h | h
                    · exact .inr (.inr h)
                    · omega
                  · intro j hj
                    rcases hF7' j hj with h | h
                    · exact hvo1 j h
                    · exact .inr (by omega)
                  · rintro j ⟨x, hx, hj⟩
                    rcases List.mem_append.1 hx with h | h
                    · exact hhs1 j ⟨x, List.mem_of_mem_take h, hj⟩
                    · rcases List.mem_cons.1 h with h | h
                      · subst h; exact .inr (.inl hj)
                      · exact hhs1 j ⟨x, List.mem_of_mem_drop h, hj⟩
                · skip
                  refine go_ (hq := ?_)
                  refine end0_ (h := ?_)
                  have hcond : ¬ (k2 = s1.length ∨ s1.getD k2 [] ≠ m) := by
                    rintro (h | h)
                    · omega
                    · exact h4 (.inr (by simpa using h))
                  rw [if_pos hdn.symm, ← hs1e, insertL, hins, if_neg hcond]
                  exact ⟨rfl, vo1, hs1, hP, Mut.trans' hMut (Mut.of_ext (S := fun _ => False) hX) (fun _ _ h => h.elim), hvo1, hhs1⟩
            · skip
              have hb : (decide ((k2 : Int) < (hs1.length : Int)) == true) = false := by simp; omega
              have hke2 : k2 = s1.length := by omega
              have hins := insAt_spec s1 m k2 (by omega) hall (.inl hke2)
              have hcond : k2 = s1.length ∨ s1.getD k2 [] ≠ m := .inl hke2
              refine skipg_ (.bool false) hb (h := ?_)
              refine go_ (hq := ?_)
              refine if_ (ht := fun h3 => ?_) (hf := fun h3 => ?_)
              · exact absurd h3.2 (by simp)
              · skip
                refine go_ (hq := ?_)
                have hb2 : (decide ((k2 : Int) = (hs1.length : Int)) == false) = false := by simp; omega
                refine skipg_ (.bool false) hb2 (h := ?_)
                refine go_ (hq := ?_)
                refine if_ (ht := fun h4 => ?_) (hf := fun h4 => ?_)
                · skip
                  refine go_ (hq := ?_)
                  refine draw_ mixed (Q := _) 2 [0,1,2,3,5,6,7,4,8,9,10] (h := ?_)
                  have hxe := hP.xe.size
                  have hovt := hP.ov.take k2 hk2
                  have hov2 := hP.ov.sl.resl k2 hs1.length hk2 (Nat.le_refl _)
                  rw [List.take_length] at hov2
                  refine go_ (hq := ?_)
                  refine litc_ [hdm] (h := fun vl H5 hvl o_l hE => ?_)
                  subst hvl
                  have hEs := hE.size
                  replace hX := hX.trans hE
                  replace hXs := hX.size
                  replace hP := hP0.ext hX
                  replace o_m := o_m0.ext hX
                  replace hT1 := hT10.ext hX
                  replace hR1 := hR10.ext hX
                  replace hovt := hovt.ext hE
                  replace hov2 := hov2.ext hE
                  have hxe := hP.xe.size
                  refine go_ (hq := ?_)
                  refine appendf_ o_l hov2 (h := fun v98 H6 n98 hE6 hF6 => ?_)
                  replace hX := hX.trans hE6
                  replace hXs := hX.size
                  replace hP := hP0.ext hX
                  replace o_m := o_m0.ext hX
                  replace hT1 := hT10.ext hX
                  replace hR1 := hR10.ext hX
                  replace hovt := hovt.ext hE6
                  have hxe := hP.xe.size
                  refine go_ (hq := ?_)
                  have hl9 : (hs1.take k2).length + ([hdm] ++ hs1.drop k2).length = hs1.length + 1 := by simp; omega
                  refine append_ hovt n98.sl (hb := by rw [hl9]; omega) (hlen := by rw [hl9]; omega) (h := fun v99 H7 n99 hM7 hF7 hN7 => ?_)
                  have hM7' : Mut (fO vo1) _ H7 := hM7.mono (fun _ _ h => fO_resl h)
                  have hF7' : ∀ j, v99.ownBlock = some j → vo1.ownBlock = some j ∨ _ ≤ j := fun j hj => (hF7 j hj).imp fO_resl id
                  obtain ⟨hd2, rfl⟩ := n99.sl.hdrOf
                  have xbo7 := hP.xbo.mut hM7' (fun hv => hP.sv bo hv (.inr (.inr (.inr rfl))))
                  refine go_ (hq := ?_)
                  refine store_ xbo7 (h := fun H8 hM8 hsz8 xbo8 => ?_)
                  have hP8 := hP.ins (k := k2) (m := m) hM7' (by simpa using n99) hF7' hM8 xbo8 o_m am amv1 ama
                  refine go_ (hq := ?_)
                  refine end0_ (h := ?_)
                  rw [if_pos hdn.symm, ← hs1e, insertL, hins, if_pos hcond]
                  have hsz := hMut.size
                  refine ⟨rfl, _, _, hP8, ?_, ?_, ?_⟩
                  · refine Mut.trans' (Mut.trans' (Mut.trans' hMut (Mut.of_ext (S := fun _ => False) hX) (fun _ _ h => h.elim)) hM7' ?_) hM8 (fun j _ h => .inr (.inl h))
                    intro j hj hx
                    rcases hvo1 j hx with h | h
                    · exact .inr (.inr h)
                    · omega
                  · intro j hj
                    rcases hF7' j hj with h | h
                    · exact hvo1 j h
                    · exact .inr (by omega)
                  · rintro j ⟨x, hx, hj⟩
                    rcases List.mem_append.1 hx with h | h
                    · exact hhs1 j ⟨x, List.mem_of_mem_take h, hj⟩
                    · rcases List.mem_cons.1 h with h | h
                      · subst h; exact .inr (.inl hj)
                      · exact hhs1 j ⟨x, List.mem_of_mem_drop h, hj⟩
                · skip
                  exact absurd (.inl (by omega)) h4
end Go.Proofs.Ytpkigjlnbfgjcaa
