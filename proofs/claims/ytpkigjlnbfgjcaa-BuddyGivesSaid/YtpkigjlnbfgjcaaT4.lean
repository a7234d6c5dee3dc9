/- Comparisons; lists of lists counted. -/
import Derived.Test.YtpkigjlnbfgjcaaT3
namespace Go.Proofs.Ytpkigjlnbfgjcaa
open Go.TM
open Go.TM.Cell (enc)
set_option maxRecDepth 20000
variable {H : Heap}
theorem isNaN_spec (a : Int) : CallsH PG 95 #[.int .i64 a] H fun v H' => v = .bool false ∧ Ext H H' := by
  have hX := Ext.refl H
  have hXs := hX.size
  refine callsH_of_W (args := [.int .i64 a]) (ρ₀ := (upd (fun _ => undef) 0 (.int .i64 a))) rfl Try.func95 rfl (by kernel_rfl) ?_
  refine go_ (hq := ?_)
  refine ret1_ (h := ?_)
  exact ⟨by simp, hX⟩
def cmpI (a b : Int) : Int := if a < b then -1 else if b < a then 1 else 0
theorem compareI_spec (a b : Int) : CallsH PG 70 #[.int .i64 a, .int .i64 b] H fun v H' => v = .int .i64 (cmpI a b) ∧ Ext H H' := by
  have hX := Ext.refl H
  have hXs := hX.size
  refine callsH_of_W (args := [.int .i64 a, .int .i64 b]) (ρ₀ := (upd (upd (fun _ => undef) 1 (.int .i64 b)) 0 (.int .i64 a))) rfl Try.func70 rfl (by kernel_rfl) ?_
  refine go_ (hq := ?_)
  refine call_ (hc := isNaN_spec _) (h := ?_)
  rintro v2 H2 ⟨rfl, hE2⟩
  replace hX := hX.trans hE2
  replace hXs := hX.size
  simp only [put]
  refine go_ (hq := ?_)
  refine call_ (hc := isNaN_spec _) (h := ?_)
  rintro v4 H4 ⟨rfl, hE4⟩
  replace hX := hX.trans hE4
  replace hXs := hX.size
  simp only [put]
  refine go_ (hq := ?_)
  refine if_ (ht := fun h1 => ?_) (hf := fun h1 => ?_)
  · cases h1
  · skip
    refine go_ (hq := ?_)
    refine if_ (ht := fun h2 => ?_) (hf := fun h2 => ?_)
    · cases h2
    · skip
      refine go_ (hq := ?_)
      refine if_ (ht := fun h3 => ?_) (hf := fun h3 => ?_)
      · skip
        refine go_ (hq := ?_)
        refine ret1_ (h := ?_)
        exact ⟨by rw [cmpI, if_pos h3], hX⟩
      · skip
        refine go_ (hq := ?_)
        refine if_ (ht := fun h4 => ?_) (hf := fun h4 => ?_)
        · skip
          refine go_ (hq := ?_)
          refine ret1_ (h := ?_)
          exact ⟨by rw [cmpI, if_neg h3, if_pos h4], hX⟩
        · skip
          refine go_ (hq := ?_)
          refine ret1_ (h := ?_)
          exact ⟨by rw [cmpI, if_neg h3, if_neg h4], hX⟩
def cmpL : List Int → List Int → Int
  | [], [] => 0
  | [], _ :: _ => -1
  | _ :: _, [] => 1
  | x :: xs, y :: ys => if cmpI x y ≠ 0 then cmpI x y else cmpL xs ys
theorem drop_getD {α : Type} [Inhabited α] (d : α) (xs : List α) (k : Nat) (h : k < xs.length) : xs.drop k = xs.getD k d :: xs.drop (k + 1) := by
  rw [List.drop_eq_getElem_cons h]; simp [List.getD, h]
theorem compareL_spec {a b : Value} {xs ys : List Int} (ha : SlE H a xs) (hb : SlE H b ys) : CallsH PG 36 #[a, b] H fun v H' => v = .int .i64 (cmpL xs ys) ∧ Ext H H' := by
  have la := ha.len_le; have lb := hb.len_le
  unfold maxLen at la lb
  have ha0 := ha
  have hb0 := hb
  have hX := Ext.refl H
  have hXs := hX.size
  refine callsH_of_W (args := [a, b]) (ρ₀ := (upd (upd (fun _ => undef) 1 b) 0 a)) rfl Try.func36 rfl (by kernel_rfl) ?_
  refine go_ (hq := ?_)
  refine W_loop (X := Nat) (fun k => [(0, a), (1, b), (9, a), (10, .int .i64 xs.length), (11, .int .i64 k)]) (fun k H' => Ext H H' ∧ k ≤ xs.length ∧ k ≤ ys.length ∧ cmpL xs ys = cmpL (xs.drop k) (ys.drop k)) (fun k => xs.length - k) 0 ?_ ?_ ?_
  · exact hold_
  · exact ⟨hX, Nat.zero_le _, Nat.zero_le _, rfl⟩
  · clear hX ha hb
    rintro u k H' ⟨hX, hk, hk2, hall⟩
    have hXs := hX.size
    have ha := ha0.ext hX
    have hb := hb0.ext hX
    refine go_ (hq := ?_)
    refine if_ (ht := fun h2 => ?_) (hf := fun h2 => ?_)
    · skip
      refine go_ (hq := ?_)
      rw [drop_getD 0 xs k (by omega)] at hall
      refine if_ (ht := fun h3 => ?_) (hf := fun h3 => ?_)
      · skip
        refine go_ (hq := ?_)
        refine ret1_ (h := ?_)
        refine ⟨?_, hX⟩
        have hye : ys.drop k = [] := List.drop_of_length_le (by omega)
        rw [hall, hye]; rfl
      · skip
        refine go_ (hq := ?_)
        rw [drop_getD 0 ys k (by omega)] at hall
        simp only [cmpL] at hall
        refine call_ (hc := compareI_spec _ _) (h := ?_)
        rintro v8 H8 ⟨rfl, hE8⟩
        replace hX := hX.trans hE8
        replace hXs := hX.size
        replace ha := ha0.ext hX
        replace hb := hb0.ext hX
        simp only [put]
        refine go_ (hq := ?_)
        refine if_ (ht := fun h4 => ?_) (hf := fun h4 => ?_)
        · skip
          refine go_ (hq := ?_)
          refine ret1_ (h := ?_)
          refine ⟨?_, hX⟩
          rw [hall, if_pos (by simpa using h4)]
        · skip
          refine go_ (hq := ?_)
          refine ⟨k + 1, hold_, ⟨hX, by omega, by omega, ?_⟩, by omega⟩
          rw [hall, if_neg (by simpa using h4)]
    · skip
      refine go_ (hq := ?_)
      have hxe : xs.drop k = [] := List.drop_of_length_le (by omega)
      rw [hxe] at hall
      refine if_ (ht := fun h5 => ?_) (hf := fun h5 => ?_)
      · skip
        refine go_ (hq := ?_)
        refine ret1_ (h := ?_)
        refine ⟨?_, hX⟩
        rw [hall, drop_getD 0 ys k (by omega)]; rfl
      · skip
        refine go_ (hq := ?_)
        refine ret1_ (h := ?_)
        refine ⟨?_, hX⟩
        rw [hall, List.drop_of_length_le (by omega)]; rfl
theorem equalL_spec {a b : Value} {xs ys : List Int} (ha : SlE H a xs) (hb : SlE H b ys) : CallsH PG 38 #[a, b] H fun v H' => v = .bool (decide (xs = ys)) ∧ Ext H H' := by
  have la := ha.len_le; have lb := hb.len_le
  unfold maxLen at la lb
  have ha0 := ha
  have hb0 := hb
  have hX := Ext.refl H
  have hXs := hX.size
  refine callsH_of_W (args := [a, b]) (ρ₀ := (upd (upd (fun _ => undef) 1 b) 0 a)) rfl Try.func38 rfl (by kernel_rfl) ?_
  refine go_ (hq := ?_)
  refine if_ (ht := fun h => ?_) (hf := fun h => ?_)
  · skip
    refine go_ (hq := ?_)
    refine ret1_ (h := ?_)
    exact ⟨by rw [decide_eq_false fun e => h (by rw [e])], hX⟩
  · skip
    refine go_ (hq := ?_)
    refine W_loop (X := Nat) (fun k => [(0, a), (1, b), (12, .int .i64 xs.length), (13, .int .i64 k)]) (fun k H' => Ext H H' ∧ k ≤ xs.length ∧ ∀ i, i < k → xs.getD i 0 = ys.getD i 0) (fun k => xs.length - k) 0 ?_ ?_ ?_
    · exact hold_
    · exact ⟨hX, Nat.zero_le _, fun i hi => absurd hi (Nat.not_lt_zero _)⟩
    · clear hX ha hb
      rintro u k H' ⟨hX, hk, hall⟩
      have hXs := hX.size
      have ha := ha0.ext hX
      have hb := hb0.ext hX
      refine go_ (hq := ?_)
      refine if_ (ht := fun h2 => ?_) (hf := fun h2 => ?_)
      · skip
        refine go_ (hq := ?_)
        refine draw_ mixed (Q := _) 1 [0,1,2,3,4,5,6,7,8] (h := ?_)
        refine go_ (hq := ?_)
        refine if_ (ht := fun h3 => ?_) (hf := fun h3 => ?_)
        · skip
          refine go_ (hq := ?_)
          refine ret1_ (h := ?_)
          refine ⟨by rw [decide_eq_false fun e => h3 (by rw [e])], hX⟩
        · skip
          refine go_ (hq := ?_)
          refine ⟨k + 1, hold_, ⟨hX, by omega, ?_⟩, by omega⟩
          intro i hi
          rcases Nat.lt_succ_iff_lt_or_eq.1 hi with hi | rfl
          · exact hall i hi
          · simpa using h3
      · skip
        refine go_ (hq := ?_)
        refine ret1_ (h := ?_)
        refine ⟨?_, hX⟩
        rw [decide_eq_true]
        apply List.ext_getElem (by omega)
        intro i h1 h2
        have := hall i (by omega)
        simpa [List.getD, h1, h2] using this
/-! ### lists of lists -/
def vastB {α : Type} (xss : List (List α)) : Bool := decide (1000 < xss.length) || xss.any fun xs => decide (10000 < xs.length)
theorem vastTasks_spec {t : Value} {hs : List Hdr} {xss : List (List OpD)} (ht : Sl2 H t hs xss) : CallsH PG 9 #[t] H fun v H' => v = .bool (vastB xss) ∧ Ext H H' := by
  obtain ⟨ht, hr⟩ := ht
  have lt := ht.len_le; have er := hr.len
  unfold maxLen at lt
  have ht0 := ht
  have hr0 := hr
  have hX := Ext.refl H
  have hXs := hX.size
  refine callsH_of_W (args := [t]) (ρ₀ := (upd (fun _ => undef) 0 t)) rfl Try.func9 rfl (by kernel_rfl) ?_
  refine go_ (hq := ?_)
  refine if_ (ht := fun h => ?_) (hf := fun h => ?_)
  · skip
    refine go_ (hq := ?_)
    refine ret1_ (h := ?_)
    exact ⟨by simp [vastB]; left; omega, hX⟩
  · skip
    refine go_ (hq := ?_)
    refine W_loop (X := Nat) (fun k => [(0, t), (3, .int .i64 k)]) (fun k H' => Ext H H' ∧ k ≤ hs.length ∧ vastB xss = (xss.drop k).any fun xs => decide (10000 < xs.length)) (fun k => hs.length - k) 0 ?_ ?_ ?_
    · exact hold_
    · refine ⟨hX, Nat.zero_le _, ?_⟩
      simp only [vastB, List.drop_zero]
      rw [decide_eq_false (by omega)]; simp
    · clear hX ht hr
      rintro u k H' ⟨hX, hk, hall⟩
      have hXs := hX.size
      have ht := ht0.ext hX
      have hr := hr0.ext hX
      refine go_ (hq := ?_)
      refine if_ (ht := fun h2 => ?_) (hf := fun h2 => ?_)
      · skip
        have hrk := hr.at_ k (by omega)
        rw [drop_getD [] xss k (by omega)] at hall
        simp only [List.any_cons] at hall
        refine go_ (hq := ?_)
        refine if_ (ht := fun h3 => ?_) (hf := fun h3 => ?_)
        · skip
          refine go_ (hq := ?_)
          refine ret1_ (h := ?_)
          exact ⟨by rw [hall, decide_eq_true (by omega)]; rfl, hX⟩
        · skip
          refine go_ (hq := ?_)
          refine ⟨k + 1, hold_, ⟨hX, by omega, ?_⟩, by omega⟩
          rw [hall, decide_eq_false (by omega)]; rfl
      · skip
        refine go_ (hq := ?_)
        refine ret1_ (h := ?_)
        refine ⟨?_, hX⟩
        rw [hall, List.drop_of_length_le (by omega)]; rfl
def sumLen {α : Type} : List (List α) → Nat
  | [] => 0
  | x :: l => x.length + sumLen l
theorem sumLen_le {α : Type} (xss : List (List α)) (c : Nat) (h : ∀ x ∈ xss, x.length ≤ c) : sumLen xss ≤ xss.length * c := by
  induction xss with
  | nil => simp [sumLen]
  | cons x l ih =>
    have := ih fun y hy => h y (by simp [hy])
    have := h x (by simp)
    simp only [sumLen, List.length_cons, Nat.succ_mul]; omega
theorem sumLen_app {α : Type} (a b : List (List α)) : sumLen (a ++ b) = sumLen a + sumLen b := by
  induction a with
  | nil => simp [sumLen]
  | cons x l ih => simp only [List.cons_append, sumLen, ih]; omega
theorem sumLen_take {α : Type} (xss : List (List α)) (k : Nat) (h : k < xss.length) : sumLen (xss.take (k + 1)) = sumLen (xss.take k) + (xss.getD k []).length := by
  rw [List.take_succ_eq_append_getElem h, sumLen_app]
  simp [sumLen, List.getD, h]
theorem sumLen_take_le {α : Type} (xss : List (List α)) (k : Nat) : sumLen (xss.take k) ≤ sumLen xss := by
  have := sumLen_app (xss.take k) (xss.drop k)
  rw [List.take_append_drop] at this; omega
theorem opsOf_spec {t : Value} {hs : List Hdr} {xss : List (List OpD)} (ht : Sl2 H t hs xss) (hb : sumLen xss ≤ 1000000000) : CallsH PG 14 #[t] H fun v H' => v = .int .i64 (sumLen xss) ∧ Ext H H' := by
  obtain ⟨ht, hr⟩ := ht
  have lt := ht.len_le; have er := hr.len
  unfold maxLen at lt
  have ht0 := ht
  have hr0 := hr
  have hX := Ext.refl H
  have hXs := hX.size
  refine callsH_of_W (args := [t]) (ρ₀ := (upd (fun _ => undef) 0 t)) rfl Try.func14 rfl (by kernel_rfl) ?_
  refine go_ (hq := ?_)
  refine W_loop (X := Nat) (fun k => [(0, t), (3, .int .i64 (sumLen (xss.take k) : Nat)), (4, .int .i64 k)]) (fun k H' => Ext H H' ∧ k ≤ hs.length) (fun k => hs.length - k) 0 ?_ ?_ ?_
  · exact hold_
  · exact ⟨hX, Nat.zero_le _⟩
  · clear hX ht hr
    rintro u k H' ⟨hX, hk⟩
    have hXs := hX.size
    have ht := ht0.ext hX
    have hr := hr0.ext hX
    refine go_ (hq := ?_)
    refine if_ (ht := fun h2 => ?_) (hf := fun h2 => ?_)
    · skip
      have hrk := hr.at_ k (by omega)
      have hst := sumLen_take xss k (by omega)
      have hsl := sumLen_take_le xss (k + 1)
      refine go_ (hq := ?_)
      refine ⟨k + 1, ?_, ⟨hX, by omega⟩, by omega⟩
      have e1 : ((sumLen (xss.take (k + 1)) : Nat) : Int) = (sumLen (xss.take k) : Nat) + ((xss.getD k []).length : Nat) := by omega
      rw [e1]
      exact hold_
    · skip
      refine go_ (hq := ?_)
      refine ret1_ (h := ?_)
      refine ⟨?_, hX⟩
      rw [List.take_of_length_le (by omega)]
def tasksFault (n : Nat) : List (List OpD) → FaultD
  | [] => ⟨0, 0⟩
  | l :: r => if (opsFault n l).code ≠ 0 then opsFault n l else tasksFault n r
theorem tasksFault_spec {m t : Value} {hs : List Hdr} {xs : List Int} {xss : List (List OpD)} (hm : SlE H m xs) (ht : Sl2 H t hs xss) : CallsH PG 13 #[m, t] H fun v H' => v = (tasksFault xs.length xss).val ∧ Ext H H' := by
  obtain ⟨ht, hr⟩ := ht
  have lm := hm.len_le
  have lt := ht.len_le; have er := hr.len
  unfold maxLen at lt lm
  have hm0 := hm
  have ht0 := ht
  have hr0 := hr
  have hX := Ext.refl H
  have hXs := hX.size
  refine callsH_of_W (args := [m, t]) (ρ₀ := (upd (upd (fun _ => undef) 1 t) 0 m)) rfl Try.func13 rfl (by kernel_rfl) ?_
  refine go_ (hq := ?_)
  refine st_alloc fun b H2 hE2 hge_b hB_b => ?_
  have hf_hB_b : Frs H (fB b) := Frs.mono (Frs.blk hge_b) hXs
  replace hX := hX.trans hE2
  replace hXs := hX.size
  replace hm := hm0.ext hX
  replace ht := ht0.ext hX
  replace hr := hr0.ext hX
  refine go_ (hq := ?_)
  refine W_loop (X := Nat) (fun k => [(0, m), (1, t), (4, .pointer (some ⟨b, 0, none⟩)), (5, .int .i64 k)]) (fun k H' => Ext H H' ∧ Blk H' b 28 [.int .i64 0, .int .i64 0] ∧ k ≤ hs.length ∧ tasksFault xs.length xss = tasksFault xs.length (xss.drop k)) (fun k => hs.length - k) 0 ?_ ?_ ?_
  · exact hold_
  · exact ⟨hX, hB_b, Nat.zero_le _, rfl⟩
  · clear hX hB_b hm ht hr
    rintro u k H' ⟨hX, hB_b, hk, hall⟩
    have hXs := hX.size
    have hm := hm0.ext hX
    have ht := ht0.ext hX
    have hr := hr0.ext hX
    refine go_ (hq := ?_)
    refine if_ (ht := fun h2 => ?_) (hf := fun h2 => ?_)
    · skip
      have hrk := hr.at_ k (by omega)
      rw [drop_getD [] xss k (by omega)] at hall
      simp only [tasksFault] at hall
      refine go_ (hq := ?_)
      refine call_ (hc := opsFault_spec hm hrk) (h := ?_)
      rintro v7 H7 ⟨rfl, hE7⟩
      replace hX := hX.trans hE7
      replace hXs := hX.size
      replace hm := hm0.ext hX
      replace ht := ht0.ext hX
      replace hr := hr0.ext hX
      replace hB_b := hB_b.ext hE7
      simp only [put]
      refine go_ (hq := ?_)
      refine st_alloc fun c H9 hE9 hge_c hB_c => ?_
      have hs_hB_b_hB_c : Apt (fB b) (fB c) := Apt.new hB_b.old (Frs.blk hge_c)
      have hf_hB_c : Frs H (fB c) := Frs.mono (Frs.blk hge_c) hXs
      replace hX := hX.trans hE9
      replace hXs := hX.size
      replace hm := hm0.ext hX
      replace ht := ht0.ext hX
      replace hr := hr0.ext hX
      replace hB_b := hB_b.ext hE9
      refine go_ (hq := ?_)
      refine store_ hB_c (h := fun H11 hM11 hsz11 hB_c => ?_)
      replace hX := hX.mut hM11 hf_hB_c
      replace hXs := hX.size
      replace hm := hm0.ext hX
      replace ht := ht0.ext hX
      replace hr := hr0.ext hX
      replace hB_b := hB_b.mutF hM11 (hs_hB_b_hB_c.symm)
      refine go_ (hq := ?_)
      refine if_ (ht := fun h3 => ?_) (hf := fun h3 => ?_)
      · skip
        refine go_ (hq := ?_)
        refine store_ hB_b (h := fun H15 hM15 hsz15 hB_b => ?_)
        replace hX := hX.mut hM15 hf_hB_b
        replace hXs := hX.size
        replace hm := hm0.ext hX
        replace ht := ht0.ext hX
        replace hr := hr0.ext hX
        replace hB_c := hB_c.mutF hM15 hs_hB_b_hB_c
        refine go_ (hq := ?_)
        refine retc_ hB_b (h := ?_)
        refine ⟨?_, hX⟩
        rw [hall, if_pos h3]
      · skip
        refine go_ (hq := ?_)
        refine ⟨k + 1, hold_, ⟨hX, hB_b, by omega, ?_⟩, by omega⟩
        rw [hall, if_neg h3]
    · skip
      refine go_ (hq := ?_)
      refine store_ hB_b (h := fun H19 hM19 hsz19 hB_b => ?_)
      replace hX := hX.mut hM19 hf_hB_b
      replace hXs := hX.size
      replace hm := hm0.ext hX
      replace ht := ht0.ext hX
      replace hr := hr0.ext hX
      refine go_ (hq := ?_)
      refine retc_ hB_b (h := ?_)
      refine ⟨?_, hX⟩
      rw [hall, List.drop_of_length_le (by omega)]; rfl
end Go.Proofs.Ytpkigjlnbfgjcaa
