/- Blocks of a space: searching, whether some are so. -/
import Derived.Test.YtpkigjlnbfgjcaaU2
namespace Go.Proofs.Ytpkigjlnbfgjcaa
open Go.TM
open Go.TM.Cell (enc)
set_option maxRecDepth 20000
set_option maxHeartbeats 4000000
variable {H : Heap}
theorem half_eq {n : Int} (h : 0 ≤ n ∧ n ≤ 4611686018427387904) : IntKind.i64.wrap ((IntKind.u64.wrap n).fdiv (2 ^ (min (1 : Int).toNat IntKind.u64.bits))) = n / 2 := by
  have e1 : IntKind.u64.wrap n = n := by simp [IntKind.wrap, IntKind.bits, IntKind.signed]; omega
  have e2 : (2 : Int) ^ (min (1 : Int).toNat IntKind.u64.bits) = 2 := by decide
  rw [e1, e2, Int.fdiv_eq_ediv_of_nonneg _ (by omega), wrap64_id (by omega)]
theorem cmpI_lt (a b : Int) : cmpI a b < 0 ↔ a < b := by unfold cmpI; split <;> (try split) <;> omega
theorem cmpI_eq (a b : Int) : cmpI a b = 0 ↔ a = b := by unfold cmpI; split <;> (try split) <;> omega
theorem search_spec {a : Value} {l : List BlockD} (ha : SlE H a l) (b : BlockD) (lb : Nat) (hlb : lb ≤ l.length) (hs : ∀ i, i < l.length → ((l.getD i default).start < b.start ↔ i < lb)) (hn : l.length ≤ 1000000000) :
    CallsH PG 63 #[a, b.val, .func (.func 50) #[] #[]] H fun v H' => v = .tuple #[.int .i64 lb, .bool (decide (lb < l.length) && decide ((l.getD lb default).start = b.start))] ∧ Ext H H' := by
  have ha0 := ha
  have hX := Ext.refl H
  have hXs := hX.size
  refine callsH_of_W (args := [a, b.val, .func (.func 50) #[] #[]]) (ρ₀ := (upd (upd (upd (fun _ => undef) 2 (.func (.func 50) #[] #[])) 1 (b.val)) 0 a)) rfl Try.func63 rfl (by kernel_rfl) ?_
  refine go_ (hq := ?_)
  refine box_ (h := fun c H2 hE2 hge_c hB_c => ?_)
  have hf_hB_c : Frs H (fB c) := Frs.mono (Frs.blk hge_c) hXs
  replace hX := hX.trans hE2
  replace hXs := hX.size
  replace ha := ha0.ext hX
  refine go_ (hq := ?_)
  refine W_loop (X := Nat × Nat) (fun x => [(0, a), (2, .func (.func 50) #[] #[]), (4, .pointer (some ⟨c, 0, none⟩)), (8, .int .i64 l.length), (9, .int .i64 x.1), (10, .int .i64 x.2)]) (fun x H' => Ext H H' ∧ Blk H' c 51 [.int .i64 b.start, .int .i64 b.size] ∧ x.1 ≤ lb ∧ lb ≤ x.2 ∧ x.2 ≤ l.length) (fun x => x.2 - x.1) (0, l.length) ?_ ?_ ?_
  · exact hold_
  · exact ⟨hX, hB_c, Nat.zero_le _, hlb, Nat.le_refl _⟩
  · clear hX hB_c ha
    rintro u ⟨i, j⟩ H' ⟨hX, hB_c, h1, h2, h3⟩
    dsimp only at hX hB_c h1 h2 h3 ⊢
    have hXs := hX.size
    have ha := ha0.ext hX
    refine go_ (hq := ?_)
    refine if_ (ht := fun h4 => ?_) (hf := fun h4 => ?_)
    · skip
      refine go_ (hq := ?_)
      rw [half_eq (by omega)]
      obtain ⟨m, hm, hm1, hm2⟩ : ∃ m : Nat, ((i : Int) + j) / 2 = m ∧ i ≤ m ∧ m < j := ⟨(((i : Int) + j) / 2).toNat, by omega, by omega, by omega⟩
      rw [hm]
      have hsm := hs m (by omega)
      refine go_ (hq := ?_)
      refine draw_ mixed (Q := _) 0 [0,1,2,3,4,5,6,7] (h := ?_)
      refine go_ (hq := ?_)
      try simp only [Int.toNat_natCast]
      refine callv_ (cap := []) (hc := byStart_spec (l.getD m default) b) (h := ?_)
      rintro v9 H9 ⟨rfl, hE9⟩
      simp only [put]
      replace hX := hX.trans hE9
      replace hXs := hX.size
      replace ha := ha0.ext hX
      replace hB_c := hB_c.ext hE9
      refine go_ (hq := ?_)
      refine if_ (ht := fun h5 => ?_) (hf := fun h5 => ?_)
      · skip
        rw [cmpI_lt, hsm] at h5
        refine go_ (hq := ?_)
        exact ⟨(m + 1, j), hold_, ⟨hX, hB_c, by dsimp only; omega, h2, h3⟩, by dsimp only; omega⟩
      · skip
        rw [cmpI_lt, hsm] at h5
        refine go_ (hq := ?_)
        exact ⟨(i, m), hold_, ⟨hX, hB_c, h1, by dsimp only; omega, by dsimp only; omega⟩, by dsimp only; omega⟩
    · skip
      have hi : i = lb := by omega
      subst hi
      refine go_ (hq := ?_)
      refine draw_ mixed (Q := _) 0 [0,1,2,3,4,5,6,7,8,9,10,11,12,13,14,15] (h := ?_)
      refine go_ (hq := ?_)
      by_cases hil : i < l.length
      · skip
        have hg : (decide ((i : Int) < l.length) == true) = true := by simp; omega
        refine ung_ hg (h := ?_)
        try simp only [Int.toNat_natCast]
        refine callv_ (cap := []) (hx := lg_) (ha := avg_) (hc := byStart_spec (l.getD i default) b) (h := ?_)
        rintro v9 H9 ⟨rfl, hE9⟩
        simp only [put]
        replace hX := hX.trans hE9
        replace hXs := hX.size
        replace ha := ha0.ext hX
        replace hB_c := hB_c.ext hE9
        refine go_ (hq := ?_)
        refine ret2_ (h := ?_)
        refine ⟨?_, hX⟩
        have e1 : decide ((i : Int) < l.length) = decide (i < l.length) := by rw [decide_eq_decide]; omega
        have e2 : decide (cmpI (l.getD i default).start b.start = 0) = decide ((l.getD i default).start = b.start) := by rw [decide_eq_decide]; exact cmpI_eq _ _
        rw [e1, e2]
      · skip
        have hg : (decide ((i : Int) < l.length) == true) = false := by simp; omega
        refine skipg_ (.int .i64 0) hg (h := ?_)
        refine go_ (hq := ?_)
        refine ret2_ (h := ?_)
        refine ⟨?_, hX⟩
        simp [hil]
/-! ### Whether one is so -/
def ixP (p : BlockD → Bool) : Nat → List BlockD → Int
  | _, [] => -1
  | k, x :: l => if p x = true then k else ixP p (k + 1) l
theorem ixP_nn (p : BlockD → Bool) (l : List BlockD) : ∀ k : Nat, (0 ≤ ixP p k l ↔ l.any p = true) := by
  induction l with
  | nil => intro k; simp [ixP]
  | cons x l ih =>
    intro k
    simp only [ixP, List.any_cons, Bool.or_eq_true]
    by_cases h : p x = true
    · rw [if_pos h]; exact ⟨fun _ => .inl h, fun _ => by omega⟩
    · rw [if_neg h, ih]; exact ⟨fun h' => .inr h', fun h' => h'.resolve_left h⟩
theorem indexFunc_spec {a : Value} {l : List BlockD} (ha : SlE H a l) {p : BlockD → Bool} {f : FuncId} [TFunc PG f] {cap : List Value} (hp : ∀ (H' : Heap) (x : BlockD), Ext H H' → x ∈ l → CallsH PG f ([x.val] ++ cap).toArray H' fun v H'' => v = .bool (p x) ∧ Ext H' H'') :
    CallsH PG 76 #[a, .func (.func f) #[] cap.toArray] H fun v H' => v = .int .i64 (ixP p 0 l) ∧ Ext H H' := by
  have la := ha.len_le
  unfold maxLen at la
  have ha0 := ha
  have hX := Ext.refl H
  have hXs := hX.size
  refine callsH_of_W (args := [a, .func (.func f) #[] cap.toArray]) (ρ₀ := (upd (upd (fun _ => undef) 1 (.func (.func f) #[] cap.toArray)) 0 a)) rfl Try.func76 rfl (by kernel_rfl) ?_
  refine go_ (hq := ?_)
  refine W_loop (X := Nat) (fun k => [(0, a), (1, .func (.func f) #[] cap.toArray), (7, .int .i64 l.length), (8, .int .i64 k)]) (fun k H' => Ext H H' ∧ k ≤ l.length ∧ ixP p 0 l = ixP p k (l.drop k)) (fun k => l.length - k) 0 ?_ ?_ ?_
  · exact hold_
  · exact ⟨hX, Nat.zero_le _, rfl⟩
  · clear hX ha
    rintro u k H' ⟨hX, hk, hall⟩
    have hXs := hX.size
    have ha := ha0.ext hX
    refine go_ (hq := ?_)
    refine if_ (ht := fun h2 => ?_) (hf := fun h2 => ?_)
    · skip
      rw [drop_getD default l k (by omega)] at hall
      simp only [ixP] at hall
      have hmem : l.getD k default ∈ l := by rw [List.getD_eq_getElem?_getD, List.getElem?_eq_getElem (by omega)]; exact List.getElem_mem _
      refine go_ (hq := ?_)
      try simp only [Int.toNat_natCast]
      refine callv_ (cap := cap) (hc := hp _ (l.getD k default) hX hmem) (h := ?_)
      rintro v9 H9 ⟨rfl, hE9⟩
      simp only [put]
      replace hX := hX.trans hE9
      replace hXs := hX.size
      replace ha := ha0.ext hX
      refine go_ (hq := ?_)
      refine if_ (ht := fun h3 => ?_) (hf := fun h3 => ?_)
      · skip
        refine go_ (hq := ?_)
        refine ret1_ (h := ?_)
        exact ⟨by rw [hall, if_pos h3], hX⟩
      · skip
        refine go_ (hq := ?_)
        exact ⟨k + 1, hold_, ⟨hX, by omega, by rw [hall, if_neg h3]⟩, by omega⟩
    · skip
      refine go_ (hq := ?_)
      refine ret1_ (h := ?_)
      exact ⟨by rw [hall, List.drop_of_length_le (by omega)]; rfl, hX⟩
theorem containsFunc_spec {a : Value} {l : List BlockD} (ha : SlE H a l) {p : BlockD → Bool} {f : FuncId} [TFunc PG f] {cap : List Value} (hp : ∀ (H' : Heap) (x : BlockD), Ext H H' → x ∈ l → CallsH PG f ([x.val] ++ cap).toArray H' fun v H'' => v = .bool (p x) ∧ Ext H' H'') :
    CallsH PG 51 #[a, .func (.func f) #[] cap.toArray] H fun v H' => v = .bool (l.any p) ∧ Ext H H' := by
  have ha0 := ha
  have hX := Ext.refl H
  have hXs := hX.size
  refine callsH_of_W (args := [a, .func (.func f) #[] cap.toArray]) (ρ₀ := (upd (upd (fun _ => undef) 1 (.func (.func f) #[] cap.toArray)) 0 a)) rfl Try.func51 rfl (by kernel_rfl) ?_
  refine go_ (hq := ?_)
  refine call_ (hc := indexFunc_spec ha hp) (h := ?_)
  rintro v2 H2 ⟨rfl, hE2⟩
  replace hX := hX.trans hE2
  replace hXs := hX.size
  replace ha := ha0.ext hX
  simp only [put]
  refine go_ (hq := ?_)
  refine ret1_ (h := ?_)
  refine ⟨?_, hX⟩
  congr 1
  cases h : l.any p with
  | true => rw [decide_eq_true_eq]; exact (ixP_nn p l 0).2 h
  | false => rw [decide_eq_false_iff_not]; intro h'; rw [(ixP_nn p l 0).1 h'] at h; cases h
/-- Has a free block its mate free, too? -/
def mated (bits : Int) (l : List BlockD) (b : BlockD) : Bool := decide (b.size < shlI 1 bits) && decide (mateP b ∈ l)
theorem checkFn_spec {c : Nat} {bits : Int} {hu hf : Hdr} {l : List BlockD} (hb : Blk H c 41 [.int .i64 bits, hu.val, hf.val]) (hl : SlE H hf.val l) (h0 : 0 ≤ bits) (b : BlockD) :
    CallsH PG 52 #[b.val, .pointer (some ⟨c, 0, none⟩)] H fun v H' => v = .bool (mated bits l b) ∧ Ext H H' := by
  have hb0 := hb
  have hl0 := hl
  have hX := Ext.refl H
  have hXs := hX.size
  refine callsH_of_W (args := [b.val, .pointer (some ⟨c, 0, none⟩)]) (ρ₀ := (upd (upd (fun _ => undef) 1 (.pointer (some ⟨c, 0, none⟩))) 0 (b.val))) rfl Try.func52 rfl (by kernel_rfl) ?_
  refine go_ (hq := ?_)
  refine box_ (h := fun d H2 hE2 hge_d hB_d => ?_)
  have hf_hB_d : Frs H (fB d) := Frs.mono (Frs.blk hge_d) hXs
  replace hX := hX.trans hE2
  replace hXs := hX.size
  replace hb := hb0.ext hX
  replace hl := hl0.ext hX
  refine go_ (hq := ?_)
  refine draw_ mixed (Q := _) 0 [0,1,2,3,4,5,6,7,8,9,10,11,12,13] (h := ?_)
  refine go_ (hq := ?_)
  by_cases h : b.size < shlI 1 bits
  · skip
    have hg : (decide (b.size < shlI 1 bits) == true) = true := by simp [h]
    refine callg_ hg (hc := mate_spec b) (h := ?_)
    rintro v9 H9 ⟨rfl, hE9⟩
    replace hX := hX.trans hE9
    replace hXs := hX.size
    replace hb := hb0.ext hX
    replace hl := hl0.ext hX
    replace hB_d := hB_d.ext hE9
    refine go_ (hq := ?_)
    refine callg_ hg (hc := contains_spec hl (mateP b)) (h := ?_)
    rintro v8 H8 ⟨rfl, hE8⟩
    replace hX := hX.trans hE8
    replace hXs := hX.size
    replace hb := hb0.ext hX
    replace hl := hl0.ext hX
    replace hB_d := hB_d.ext hE8
    refine go_ (hq := ?_)
    refine ret1_ (h := ?_)
    exact ⟨rfl, hX⟩
  · skip
    have hg : (decide (b.size < shlI 1 bits) == true) = false := by simp [h]
    refine skipg_ (mateP b).val hg (h := ?_)
    refine go_ (hq := ?_)
    refine skipg_ (.bool false) hg (h := ?_)
    refine go_ (hq := ?_)
    refine ret1_ (h := ?_)
    exact ⟨by simp [mated, h], hX⟩
end Go.Proofs.Ytpkigjlnbfgjcaa
