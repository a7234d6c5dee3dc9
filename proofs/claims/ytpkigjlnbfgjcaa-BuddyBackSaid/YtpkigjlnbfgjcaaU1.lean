/- Blocks of a space: the small functions. -/
import Derived.Test.YtpkigjlnbfgjcaaT4
namespace Go.Proofs.Ytpkigjlnbfgjcaa
open Go.TM
open Go.TM.Cell (enc)
set_option maxRecDepth 20000
set_option maxHeartbeats 4000000
variable {H : Heap}
/-- api.Space -/
structure SpD where
  bits : Int
  used : List BlockD
  free : List BlockD
deriving Inhabited, DecidableEq
@[reducible] def SpV (bits : Int) (hu hf : Hdr) : Value := .agg #[.int .i64 bits, hu.val, hf.val]
/-- The value reads as this space. -/
def SpIs (H : Heap) (v : Value) (s : SpD) : Prop := ∃ hu hf : Hdr, v = SpV s.bits hu hf ∧ SlE H hu.val s.used ∧ SlE H hf.val s.free
theorem SpIs.ext {H H' : Heap} {v : Value} {s : SpD} (h : SpIs H v s) (he : Ext H H') : SpIs H' v s := by
  obtain ⟨hu, hf, h1, h2, h3⟩ := h; exact ⟨hu, hf, h1, h2.ext he, h3.ext he⟩
def R64x (n : Int) : Prop := -9223372036854775808 ≤ n ∧ n ≤ 9223372036854775807
theorem blk_ext {a b : BlockD} (h1 : a.start = b.start) (h2 : a.size = b.size) : a = b := by cases a; cases b; simp_all
def BR (b : BlockD) : Prop := R64x b.start ∧ R64x b.size
theorem bfault_spec (c a : Int) : CallsH PG 45 #[.int .i64 c, .int .i64 a] H fun v H' => v = FaultD.val ⟨c, a⟩ ∧ Ext H H' := by
  have hX := Ext.refl H
  have hXs := hX.size
  refine callsH_of_W (args := [.int .i64 c, .int .i64 a]) (ρ₀ := (upd (upd (fun _ => undef) 1 (.int .i64 a)) 0 (.int .i64 c))) rfl Try.func45 rfl (by kernel_rfl) ?_
  refine go_ (hq := ?_)
  refine st_alloc fun b H2 hE2 hge_b hB_b => ?_
  have hf_hB_b : Frs H (fB b) := Frs.mono (Frs.blk hge_b) hXs
  replace hX := hX.trans hE2
  replace hXs := hX.size
  refine go_ (hq := ?_)
  refine store_ hB_b (h := fun H4 hM4 hsz4 hB_b => ?_)
  replace hX := hX.mut hM4 hf_hB_b
  replace hXs := hX.size
  refine go_ (hq := ?_)
  refine retc_ hB_b (h := ?_)
  exact ⟨rfl, hX⟩
def mateP (b : BlockD) : BlockD := ⟨xorI b.start b.size, b.size⟩
theorem mate_spec (b : BlockD) : CallsH PG 54 #[b.val] H fun v H' => v = (mateP b).val ∧ Ext H H' := by
  have hX := Ext.refl H
  have hXs := hX.size
  refine callsH_of_W (args := [b.val]) (ρ₀ := (upd (fun _ => undef) 0 (b.val))) rfl Try.func54 rfl (by kernel_rfl) ?_
  refine go_ (hq := ?_)
  refine box_ (h := fun c H2 hE2 hge_c hB_c => ?_)
  have hf_hB_c : Frs H (fB c) := Frs.mono (Frs.blk hge_c) hXs
  replace hX := hX.trans hE2
  replace hXs := hX.size
  refine go_ (hq := ?_)
  refine st_alloc fun r H4 hE4 hge_r hB_r => ?_
  have hs_hB_c_hB_r : Apt (fB c) (fB r) := Apt.new hB_c.old (Frs.blk hge_r)
  have hf_hB_r : Frs H (fB r) := Frs.mono (Frs.blk hge_r) hXs
  replace hX := hX.trans hE4
  replace hXs := hX.size
  replace hB_c := hB_c.ext hE4
  refine go_ (hq := ?_)
  refine store_ hB_r (h := fun H6 hM6 hsz6 hB_r => ?_)
  replace hX := hX.mut hM6 hf_hB_r
  replace hXs := hX.size
  replace hB_c := hB_c.mutF hM6 (hs_hB_c_hB_r.symm)
  refine go_ (hq := ?_)
  refine retc_ hB_r (h := ?_)
  exact ⟨rfl, hX⟩
def mateR (b : BlockD) : BlockD := if b.start / b.size % 2 = 0 then ⟨b.start + b.size, b.size⟩ else ⟨b.start - b.size, b.size⟩
theorem mateR_spec (b : BlockD) (h0 : 0 ≤ b.start ∧ b.start ≤ 1073741824) (h1 : 0 < b.size ∧ b.size ≤ 1073741824) : CallsH PG 60 #[b.val] H fun v H' => v = (mateR b).val ∧ Ext H H' := by
  have hq : 0 ≤ b.start / b.size := Int.ediv_nonneg h0.1 (by omega)
  have hX := Ext.refl H
  have hXs := hX.size
  refine callsH_of_W (args := [b.val]) (ρ₀ := (upd (fun _ => undef) 0 (b.val))) rfl Try.func60 rfl (by kernel_rfl) ?_
  refine go_ (hq := ?_)
  refine box_ (h := fun c H2 hE2 hge_c hB_c => ?_)
  have hf_hB_c : Frs H (fB c) := Frs.mono (Frs.blk hge_c) hXs
  replace hX := hX.trans hE2
  replace hXs := hX.size
  refine go_ (hq := ?_)
  refine st_alloc fun r H4 hE4 hge_r hB_r => ?_
  have hs_hB_c_hB_r : Apt (fB c) (fB r) := Apt.new hB_c.old (Frs.blk hge_r)
  have hf_hB_r : Frs H (fB r) := Frs.mono (Frs.blk hge_r) hXs
  replace hX := hX.trans hE4
  replace hXs := hX.size
  replace hB_c := hB_c.ext hE4
  refine go_ (hq := ?_)
  refine if_ (ht := fun h => ?_) (hf := fun h => ?_)
  · skip
    refine go_ (hq := ?_)
    refine store_ hB_r (h := fun H8 hM8 hsz8 hB_r => ?_)
    replace hX := hX.mut hM8 hf_hB_r
    replace hXs := hX.size
    replace hB_c := hB_c.mutF hM8 (hs_hB_c_hB_r.symm)
    refine go_ (hq := ?_)
    refine retc_ hB_r (h := ?_)
    exact ⟨by rw [mateR, if_pos h], hX⟩
  · skip
    refine go_ (hq := ?_)
    refine store_ hB_r (h := fun H11 hM11 hsz11 hB_r => ?_)
    replace hX := hX.mut hM11 hf_hB_r
    replace hXs := hX.size
    replace hB_c := hB_c.mutF hM11 (hs_hB_c_hB_r.symm)
    refine go_ (hq := ?_)
    refine retc_ hB_r (h := ?_)
    exact ⟨by rw [mateR, if_neg h], hX⟩
def powP (n : Int) : Bool := decide (0 < n) && decide (andI n (n - 1) = 0)
theorem power_spec (n : Int) (hn : n ≤ 9223372036854775807) : CallsH PG 46 #[.int .i64 n] H fun v H' => v = .bool (powP n) ∧ Ext H H' := by
  have hX := Ext.refl H
  have hXs := hX.size
  refine callsH_of_W (args := [.int .i64 n]) (ρ₀ := (upd (fun _ => undef) 0 (.int .i64 n))) rfl Try.func46 rfl (by kernel_rfl) ?_
  refine go_ (hq := ?_)
  refine ret1_ (h := ?_)
  exact ⟨rfl, hX⟩
def powR (n : Int) : Bool := (List.range 63).any fun i => decide ((2 : Int) ^ i = n)
def pk (i : Nat) : Int := IntKind.i64.wrap (2 ^ i)
theorem pk_le (i : Nat) (h : i ≤ 62) : pk i = 2 ^ i := by
  have h1 := pow_le_62 i h
  have h2 : (0 : Int) < 2 ^ i := Int.pow_pos (by omega)
  exact wrap64_id (by omega)
theorem pk_63 : pk 63 = -9223372036854775808 := by decide
theorem pk_succ (i : Nat) (h : i ≤ 62) : IntKind.i64.wrap (pk i * 2) = pk (i + 1) := by
  rw [pk_le i h, pk, Int.pow_succ]
theorem isPower_spec (n : Int) : CallsH PG 58 #[.int .i64 n] H fun v H' => v = .bool (powR n) ∧ Ext H H' := by
  have hX := Ext.refl H
  have hXs := hX.size
  refine callsH_of_W (args := [.int .i64 n]) (ρ₀ := (upd (fun _ => undef) 0 (.int .i64 n))) rfl Try.func58 rfl (by kernel_rfl) ?_
  refine go_ (hq := ?_)
  refine W_loop (X := Nat) (fun i => [(0, .int .i64 n), (3, .int .i64 (pk i))]) (fun i H' => Ext H H' ∧ i ≤ 63 ∧ powR n = (List.range' i (63 - i)).any fun i => decide ((2 : Int) ^ i = n)) (fun i => 63 - i) 0 ?_ ?_ ?_
  · exact hold_
  · exact ⟨hX, by omega, by rw [powR, List.range_eq_range']⟩
  · clear hX
    rintro u i H' ⟨hX, hi, hall⟩
    have hXs := hX.size
    refine go_ (hq := ?_)
    refine if_ (ht := fun h2 => ?_) (hf := fun h2 => ?_)
    · skip
      have hi62 : i ≤ 62 := by
        rcases Nat.lt_or_ge 62 i with h | h
        · have : i = 63 := by omega
          subst this
          rw [pk_63] at h2; omega
        · exact h
      have hr : List.range' i (63 - i) = i :: List.range' (i + 1) (63 - (i + 1)) := by
        rw [show 63 - i = (63 - (i + 1)) + 1 by omega, List.range'_succ]
      rw [hr, List.any_cons] at hall
      refine go_ (hq := ?_)
      refine if_ (ht := fun h3 => ?_) (hf := fun h3 => ?_)
      · skip
        refine go_ (hq := ?_)
        refine ret1_ (h := ?_)
        refine ⟨?_, hX⟩
        rw [hall, decide_eq_true (by rw [← pk_le i hi62]; exact h3)]; rfl
      · skip
        refine go_ (hq := ?_)
        rw [pk_succ i hi62]
        exact ⟨i + 1, hold_, ⟨hX, by omega, by rw [hall, decide_eq_false (by rw [← pk_le i hi62]; exact h3)]; rfl⟩, by omega⟩
    · skip
      have hi63 : i = 63 := by
        rcases Nat.lt_or_ge 62 i with h | h
        · omega
        · exfalso
          rw [pk_le i h] at h2
          have : (0 : Int) < 2 ^ i := Int.pow_pos (by omega)
          omega
      subst hi63
      refine go_ (hq := ?_)
      refine ret1_ (h := ?_)
      exact ⟨by rw [hall]; rfl, hX⟩
theorem byStart_spec (a b : BlockD) : CallsH PG 50 #[a.val, b.val] H fun v H' => v = .int .i64 (cmpI a.start b.start) ∧ Ext H H' := by
  have hX := Ext.refl H
  have hXs := hX.size
  refine callsH_of_W (args := [a.val, b.val]) (ρ₀ := (upd (upd (fun _ => undef) 1 (b.val)) 0 (a.val))) rfl Try.func50 rfl (by kernel_rfl) ?_
  refine go_ (hq := ?_)
  refine box_ (h := fun c H2 hE2 hge_c hB_c => ?_)
  have hf_hB_c : Frs H (fB c) := Frs.mono (Frs.blk hge_c) hXs
  replace hX := hX.trans hE2
  replace hXs := hX.size
  refine go_ (hq := ?_)
  refine box_ (h := fun d H4 hE4 hge_d hB_d => ?_)
  have hs_hB_c_hB_d : Apt (fB c) (fB d) := Apt.new hB_c.old (Frs.blk hge_d)
  have hf_hB_d : Frs H (fB d) := Frs.mono (Frs.blk hge_d) hXs
  replace hX := hX.trans hE4
  replace hXs := hX.size
  replace hB_c := hB_c.ext hE4
  refine go_ (hq := ?_)
  refine call_ (hc := compareI_spec _ _) (h := ?_)
  rintro v6 H6 ⟨rfl, hE6⟩
  replace hX := hX.trans hE6
  replace hXs := hX.size
  replace hB_c := hB_c.ext hE6
  replace hB_d := hB_d.ext hE6
  simp only [put]
  refine go_ (hq := ?_)
  refine ret1_ (h := ?_)
  exact ⟨rfl, hX⟩
theorem sameBlocks_spec {a b : Value} {xs ys : List BlockD} (ha : SlE H a xs) (hb : SlE H b ys) : CallsH PG 43 #[a, b] H fun v H' => v = .bool (decide (xs = ys)) ∧ Ext H H' := by
  have la := ha.len_le; have lb := hb.len_le
  unfold maxLen at la lb
  have ha0 := ha
  have hb0 := hb
  have hX := Ext.refl H
  have hXs := hX.size
  refine callsH_of_W (args := [a, b]) (ρ₀ := (upd (upd (fun _ => undef) 1 b) 0 a)) rfl Try.func43 rfl (by kernel_rfl) ?_
  refine go_ (hq := ?_)
  refine if_ (ht := fun h => ?_) (hf := fun h => ?_)
  · skip
    refine go_ (hq := ?_)
    refine ret1_ (h := ?_)
    exact ⟨by rw [decide_eq_false fun e => h (by rw [e])], hX⟩
  · skip
    refine go_ (hq := ?_)
    refine W_loop (X := Nat) (fun k => [(0, a), (1, b), (5, .int .i64 k)]) (fun k H' => Ext H H' ∧ k ≤ xs.length ∧ ∀ i, i < k → xs.getD i default = ys.getD i default) (fun k => xs.length - k) 0 ?_ ?_ ?_
    · exact hold_
    · exact ⟨hX, Nat.zero_le _, fun i hi => absurd hi (Nat.not_lt_zero _)⟩
    · clear hX ha hb
      rintro u k H' ⟨hX, hk, hall⟩
      have hXs := hX.size
      have ha := ha0.ext hX
      have hb := hb0.ext hX
      refine go_ (hq := ?_)
      refine if_ (ht := fun h2 => ?_) (hf := fun h2 => ?_)
      · skip
        refine go_ (hq := ?_)
        refine draw_ mixed (Q := _) 0 [0,1,2,3,4,5,6,7,8] (h := ?_)
        refine go_ (hq := ?_)
        refine if_ (ht := fun h3 => ?_) (hf := fun h3 => ?_)
        · skip
          refine go_ (hq := ?_)
          refine ret1_ (h := ?_)
          exact ⟨by rw [decide_eq_false fun e => h3 (by rw [e]; exact ⟨rfl, rfl⟩)], hX⟩
        · skip
          refine go_ (hq := ?_)
          refine ⟨k + 1, hold_, ⟨hX, by omega, ?_⟩, by omega⟩
          intro i hi
          rcases Nat.lt_succ_iff_lt_or_eq.1 hi with hi | rfl
          · exact hall i hi
          · have h4 := Decidable.not_not.1 h3
            try simp only [Int.toNat_natCast] at h4
            exact blk_ext h4.1 h4.2
      · skip
        refine go_ (hq := ?_)
        refine ret1_ (h := ?_)
        refine ⟨?_, hX⟩
        rw [decide_eq_true]
        apply List.ext_getElem (by omega)
        intro i h1 h2
        have := hall i (by omega)
        simpa [List.getD, h1, h2] using this
theorem sameSpace_spec {hu hf hu' hf' : Hdr} {s s' : SpD} (h1 : SlE H hu.val s.used) (h2 : SlE H hf.val s.free) (h3 : SlE H hu'.val s'.used) (h4 : SlE H hf'.val s'.free) :
    CallsH PG 25 #[SpV s.bits hu hf, SpV s'.bits hu' hf'] H fun v H' => v = .bool (decide (s = s')) ∧ Ext H H' := by
  obtain ⟨bi, us, fr⟩ := s
  obtain ⟨bi', us', fr'⟩ := s'
  dsimp only at h1 h2 h3 h4 ⊢
  have h10 := h1
  have h20 := h2
  have h30 := h3
  have h40 := h4
  have hX := Ext.refl H
  have hXs := hX.size
  refine callsH_of_W (args := [SpV bi hu hf, SpV bi' hu' hf']) (ρ₀ := (upd (upd (fun _ => undef) 1 (SpV bi' hu' hf')) 0 (SpV bi hu hf))) rfl Try.func25 rfl (by kernel_rfl) ?_
  refine go_ (hq := ?_)
  refine box_ (h := fun c H2 hE2 hge_c hB_c => ?_)
  have hf_hB_c : Frs H (fB c) := Frs.mono (Frs.blk hge_c) hXs
  replace hX := hX.trans hE2
  replace hXs := hX.size
  replace h1 := h10.ext hX
  replace h2 := h20.ext hX
  replace h3 := h30.ext hX
  replace h4 := h40.ext hX
  refine go_ (hq := ?_)
  refine box_ (h := fun d H4 hE4 hge_d hB_d => ?_)
  have hs_hB_c_hB_d : Apt (fB c) (fB d) := Apt.new hB_c.old (Frs.blk hge_d)
  have hf_hB_d : Frs H (fB d) := Frs.mono (Frs.blk hge_d) hXs
  replace hX := hX.trans hE4
  replace hXs := hX.size
  replace h1 := h10.ext hX
  replace h2 := h20.ext hX
  replace h3 := h30.ext hX
  replace h4 := h40.ext hX
  replace hB_c := hB_c.ext hE4
  refine go_ (hq := ?_)
  by_cases hb : bi = bi'
  · skip
    have g1 : (decide (bi = bi') == true) = true := by simp [hb]
    refine callg_ g1 (hc := sameBlocks_spec h1 h3) (h := ?_)
    rintro v9 H9 ⟨rfl, hE9⟩
    replace hX := hX.trans hE9
    replace hXs := hX.size
    replace h1 := h10.ext hX
    replace h2 := h20.ext hX
    replace h3 := h30.ext hX
    replace h4 := h40.ext hX
    replace hB_c := hB_c.ext hE9
    replace hB_d := hB_d.ext hE9
    refine go_ (hq := ?_)
    by_cases hus : us = us'
    · skip
      have g2 : ((decide (bi = bi') && decide (us = us')) == true) = true := by simp [hb, hus]
      refine callg_ g2 (hc := sameBlocks_spec h2 h4) (h := ?_)
      rintro v8 H8 ⟨rfl, hE8⟩
      replace hX := hX.trans hE8
      replace hXs := hX.size
      replace h1 := h10.ext hX
      replace h2 := h20.ext hX
      replace h3 := h30.ext hX
      replace h4 := h40.ext hX
      replace hB_c := hB_c.ext hE8
      replace hB_d := hB_d.ext hE8
      refine go_ (hq := ?_)
      refine ret1_ (h := ?_)
      refine ⟨?_, hX⟩
      subst hb hus
      simp
    · skip
      have g2 : ((decide (bi = bi') && decide (us = us')) == true) = false := by simp [hus]
      refine skipg_ (.bool false) g2 (h := ?_)
      refine go_ (hq := ?_)
      refine ret1_ (h := ?_)
      refine ⟨?_, hX⟩
      simp [hus]
  · skip
    have g1 : (decide (bi = bi') == true) = false := by simp [hb]
    refine skipg_ (.bool false) g1 (h := ?_)
    refine go_ (hq := ?_)
    have g2 : ((decide (bi = bi') && false) == true) = false := by simp
    refine skipg_ (.bool false) g2 (h := ?_)
    refine go_ (hq := ?_)
    refine ret1_ (h := ?_)
    refine ⟨?_, hX⟩
    simp [hb]
end Go.Proofs.Ytpkigjlnbfgjcaa
