/- taskmillref's lists of numbers; what the law itself makes. -/
import Derived.Test.YtpkigjlnbfgjcaaT2
namespace Go.Proofs.Ytpkigjlnbfgjcaa
open Go.TM
open Go.TM.Cell (enc)
set_option maxRecDepth 20000
variable {H : Heap}
theorem ints_spec {a b : Value} {xs ys : List Int} (ha : SlE H a xs) (hb : SlE H b ys) : CallsH PG 40 #[a, b] H fun v H' => v = .bool (decide (xs = ys)) ∧ Ext H H' := by
  have la := ha.len_le; have lb := hb.len_le
  unfold maxLen at la lb
  have ha0 := ha
  have hb0 := hb
  have hX := Ext.refl H
  have hXs := hX.size
  refine callsH_of_W (args := [a, b]) (ρ₀ := (upd (upd (fun _ => undef) 1 b) 0 a)) rfl Try.func40 rfl (by kernel_rfl) ?_
  refine go_ (hq := ?_)
  refine if_ (ht := fun h => ?_) (hf := fun h => ?_)
  · skip
    refine go_ (hq := ?_)
    refine ret1_ (h := ?_)
    exact ⟨by rw [decide_eq_false fun e => h (by rw [e])], hX⟩
  · skip
    refine go_ (hq := ?_)
    refine W_loop (X := Nat) (fun k => [(0, a), (1, b), (5, .int .i64 k)]) (fun k H' => Ext H H' ∧ k ≤ xs.length ∧ ∀ i, i < k → xs.getD i 0 = ys.getD i 0) (fun k => xs.length - k) 0 ?_ ?_ ?_
    · exact hold_
    · exact ⟨hX, Nat.zero_le _, fun i hi => absurd hi (Nat.not_lt_zero _)⟩
    · clear hX ha hb
      rintro u k H' ⟨hX, hk, hall⟩
      have hXs := hX.size
      have ha := ha0.ext hX
      have hb := hb0.ext hX
      refine go_ (hq := ?_)
      refine if_ (ht := fun h2 => ?_) (hf := fun h2 => ?_)
      · skip
        refine go_ (hq := ?_)
        refine draw_ mixed (Q := _) 1 [0,1,2,3,4,5,6,7,8] (h := ?_)
        refine go_ (hq := ?_)
        refine if_ (ht := fun h3 => ?_) (hf := fun h3 => ?_)
        · skip
          refine go_ (hq := ?_)
          refine ret1_ (h := ?_)
          refine ⟨by rw [decide_eq_false fun e => h3 (by rw [e])], hX⟩
        · skip
          refine go_ (hq := ?_)
          refine ⟨k + 1, hold_, ⟨hX, by omega, ?_⟩, by omega⟩
          intro i hi
          rcases Nat.lt_succ_iff_lt_or_eq.1 hi with hi | rfl
          · exact hall i hi
          · simpa using h3
      · skip
        refine go_ (hq := ?_)
        refine ret1_ (h := ?_)
        refine ⟨?_, hX⟩
        rw [decide_eq_true]
        apply List.ext_getElem (by omega)
        intro i h1 h2
        have := hall i (by omega)
        simpa [List.getD, h1, h2] using this
/-- Less. -/
def lessL : List Int → List Int → Bool
  | x :: xs, y :: ys => if x ≠ y then decide (x < y) else lessL xs ys
  | _, _ => false
theorem lessL_drop (xs ys : List Int) (k : Nat) (h1 : k < xs.length) (h2 : k < ys.length) : lessL (xs.drop k) (ys.drop k) = if xs.getD k 0 ≠ ys.getD k 0 then decide (xs.getD k 0 < ys.getD k 0) else lessL (xs.drop (k + 1)) (ys.drop (k + 1)) := by
  rw [List.drop_eq_getElem_cons h1, List.drop_eq_getElem_cons h2]
  simp only [lessL]
  simp [List.getD, h1, h2]
theorem less_spec {a b : Value} {xs ys : List Int} (ha : SlE H a xs) (hb : SlE H b ys) (hl : xs.length = ys.length) : CallsH PG 15 #[a, b] H fun v H' => v = .bool (lessL xs ys) ∧ Ext H H' := by
  have la := ha.len_le; have lb := hb.len_le
  unfold maxLen at la lb
  have ha0 := ha
  have hb0 := hb
  have hX := Ext.refl H
  have hXs := hX.size
  refine callsH_of_W (args := [a, b]) (ρ₀ := (upd (upd (fun _ => undef) 1 b) 0 a)) rfl Try.func15 rfl (by kernel_rfl) ?_
  refine go_ (hq := ?_)
  refine W_loop (X := Nat) (fun k => [(0, a), (1, b), (5, .int .i64 k)]) (fun k H' => Ext H H' ∧ k ≤ xs.length ∧ lessL xs ys = lessL (xs.drop k) (ys.drop k)) (fun k => xs.length - k) 0 ?_ ?_ ?_
  · exact hold_
  · exact ⟨hX, Nat.zero_le _, rfl⟩
  · clear hX ha hb
    rintro u k H' ⟨hX, hk, hall⟩
    have hXs := hX.size
    have ha := ha0.ext hX
    have hb := hb0.ext hX
    refine go_ (hq := ?_)
    refine if_ (ht := fun h2 => ?_) (hf := fun h2 => ?_)
    · skip
      refine go_ (hq := ?_)
      rw [lessL_drop xs ys k (by omega) (by omega)] at hall
      refine draw_ mixed (Q := _) 1 [0,1,2,3,4,5,6,7,8] (h := ?_)
      refine go_ (hq := ?_)
      refine if_ (ht := fun h3 => ?_) (hf := fun h3 => ?_)
      · skip
        refine go_ (hq := ?_)
        refine draw_ mixed (Q := _) 1 [0,1,2,3,4,5,6,7,8,9] (h := ?_)
        refine go_ (hq := ?_)
        refine ret1_ (h := ?_)
        refine ⟨by rw [hall, if_pos (by simpa using h3)], hX⟩
      · skip
        refine go_ (hq := ?_)
        refine ⟨k + 1, hold_, ⟨hX, by omega, ?_⟩, by omega⟩
        rw [hall, if_neg (by simpa using h3)]
    · skip
      refine go_ (hq := ?_)
      refine ret1_ (h := ?_)
      refine ⟨?_, hX⟩
      rw [hall, List.drop_of_length_le (by omega)]; rfl
theorem lists_spec {a b : Value} {hs ht : List Hdr} {xss yss : List (List Int)} (ha : Sl2 H a hs xss) (hb : Sl2 H b ht yss) : CallsH PG 16 #[a, b] H fun v H' => v = .bool (decide (xss = yss)) ∧ Ext H H' := by
  obtain ⟨ha, hra⟩ := ha; obtain ⟨hb, hrb⟩ := hb
  have la := ha.len_le; have lb := hb.len_le
  have ea := hra.len; have eb := hrb.len
  unfold maxLen at la lb
  have ha0 := ha
  have hb0 := hb
  have hra0 := hra
  have hrb0 := hrb
  have hX := Ext.refl H
  have hXs := hX.size
  refine callsH_of_W (args := [a, b]) (ρ₀ := (upd (upd (fun _ => undef) 1 b) 0 a)) rfl Try.func16 rfl (by kernel_rfl) ?_
  refine go_ (hq := ?_)
  refine if_ (ht := fun h => ?_) (hf := fun h => ?_)
  · skip
    refine go_ (hq := ?_)
    refine ret1_ (h := ?_)
    exact ⟨by rw [decide_eq_false fun e => h (by rw [ea, eb, e])], hX⟩
  · skip
    refine go_ (hq := ?_)
    refine W_loop (X := Nat) (fun k => [(0, a), (1, b), (5, .int .i64 k)]) (fun k H' => Ext H H' ∧ k ≤ xss.length ∧ ∀ i, i < k → xss.getD i [] = yss.getD i []) (fun k => xss.length - k) 0 ?_ ?_ ?_
    · exact hold_
    · exact ⟨hX, Nat.zero_le _, fun i hi => absurd hi (Nat.not_lt_zero _)⟩
    · clear hX ha hb hra hrb
      rintro u k H' ⟨hX, hk, hall⟩
      have hXs := hX.size
      have ha := ha0.ext hX
      have hb := hb0.ext hX
      have hra := hra0.ext hX
      have hrb := hrb0.ext hX
      refine go_ (hq := ?_)
      refine if_ (ht := fun h2 => ?_) (hf := fun h2 => ?_)
      · skip
        refine go_ (hq := ?_)
        refine draw_ mixed (Q := _) 0 [0,1,2,3,4,5,6,7,8,9] (h := ?_)
        refine go_ (hq := ?_)
        refine call_ (hc := ints_spec (hra.at_ k (by omega)) (hrb.at_ k (by omega))) (h := ?_)
        rintro v10 H10 ⟨rfl, hE10⟩
        replace hX := hX.trans hE10
        replace hXs := hX.size
        replace ha := ha0.ext hX
        replace hb := hb0.ext hX
        replace hra := hra0.ext hX
        replace hrb := hrb0.ext hX
        simp only [put]
        refine go_ (hq := ?_)
        refine if_ (ht := fun h3 => ?_) (hf := fun h3 => ?_)
        · skip
          refine go_ (hq := ?_)
          refine ret1_ (h := ?_)
          refine ⟨by rw [decide_eq_false fun e => h3 (by rw [e])], hX⟩
        · skip
          refine go_ (hq := ?_)
          refine ⟨k + 1, hold_, ⟨hX, by omega, ?_⟩, by omega⟩
          intro i hi
          rcases Nat.lt_succ_iff_lt_or_eq.1 hi with hi | rfl
          · exact hall i hi
          · simpa using h3
      · skip
        refine go_ (hq := ?_)
        refine ret1_ (h := ?_)
        refine ⟨?_, hX⟩
        rw [decide_eq_true]
        apply List.ext_getElem (by omega)
        intro i h1 h2
        have := hall i (by omega)
        simpa [List.getD, h1, h2] using this
theorem own_spec {a : Value} {xs : List Int} (ha : SlE H a xs) (hn : xs.length * 8 ≤ 140737488355328) : CallsH PG 11 #[a] H fun v H' => Own H' H.size 3 v xs ∧ Ext H H' := by
  have ha0 := ha
  have hX := Ext.refl H
  have hXs := hX.size
  refine callsH_of_W (args := [a]) (ρ₀ := (upd (fun _ => undef) 0 a)) rfl Try.func11 rfl (by kernel_rfl) ?_
  have o_m : Own H H.size 3 (.slice none 0 0) ([] : List Int) := Own.nil _ _ _
  have hf_o_m : Frs H (fO (.slice none 0 0)) := Frs.nil
  refine go_ (hq := ?_)
  refine append_ o_m ha (h := fun v H3 n_3 hM3 hF3 hN3 => ?_)
  have hfq := hf_o_m
  replace hf_o_m : Frs H (fO v) := Frs.app hf_o_m hF3 hXs
  replace hX := hX.mut hM3 hfq
  replace hXs := hX.size
  replace ha := ha0.ext hX
  replace o_m := n_3
  refine go_ (hq := ?_)
  refine ret1_ (h := ?_)
  exact ⟨o_m, hX⟩
end Go.Proofs.Ytpkigjlnbfgjcaa
