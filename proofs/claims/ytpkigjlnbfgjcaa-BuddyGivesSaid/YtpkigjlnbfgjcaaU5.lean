/- Blocks of a space: Grow, Concat; the iterator; Collect. -/
import Derived.Test.YtpkigjlnbfgjcaaU4
import Derived.Test.YtpkigjlnbfgjcaaBaseC
namespace Go.Proofs.Ytpkigjlnbfgjcaa
open Go.TM
open Go.TM.Cell (enc)
set_option maxRecDepth 20000
variable {H : Heap}
theorem growB_spec (n : Int) (hn : 0 ≤ n ∧ n ≤ 8796093022208) : CallsH PG 75 #[.slice none 0 0, .int .i64 n] H fun v H' => Own H' H.size 51 v ([] : List BlockD) ∧ Ext H H' := by
  have hX := Ext.refl H
  have hXs := hX.size
  have hnil : LenIs (.slice none 0 0) 0 := ⟨none, 0, rfl, by simp⟩
  have hcap : ∀ a m c, Value.slice none 0 0 = .slice a m c → 0 ≤ c := fun _ _ _ _ => Nat.zero_le _
  refine callsH_of_W (args := [.slice none 0 0, .int .i64 n]) (ρ₀ := (upd (upd (fun _ => undef) 1 (.int .i64 n)) 0 (.slice none 0 0))) rfl Try.func75 rfl (by kernel_rfl) ?_
  refine go_ (hq := ?_)
  refine if_ (ht := fun h => ?_) (hf := fun h => ?_)
  · omega
  · skip
    refine go_ (hq := ?_)
    refine if_ (ht := fun h2 => ?_) (hf := fun h2 => ?_)
    · skip
      refine go_ (hq := ?_)
      refine appendz_ BlockD (h := fun v1 H1 hR hE => ?_)
      replace hX := hX.trans hE
      have hcap2 := hR.capIs
      refine go_ (hq := ?_)
      refine ret1_ (h := ?_)
      exact ⟨hR.zero, hX⟩
    · skip
      refine go_ (hq := ?_)
      refine ret1_ (h := ?_)
      exact ⟨Own.nil _ _ _, hX⟩
theorem flattenB_len (l : List (List BlockD)) : l.flatten.length = sumLen l := by
  induction l with
  | nil => rfl
  | cons x l ih => simp only [List.flatten_cons, List.length_append, sumLen, ih]
theorem concatB_spec {a : Value} {hs : List Hdr} {xss : List (List BlockD)} (ha : Sl2 H a hs xss) (hb : sumLen xss ≤ 1000000) (hc : xss.length ≤ 1000) :
    CallsH PG 49 #[a] H fun v H' => Own H' H.size 51 v xss.flatten ∧ Ext H H' := by
  obtain ⟨ht, hr⟩ := ha
  have er := hr.len
  have ht0 := ht
  have hr0 := hr
  have hX := Ext.refl H
  have hXs := hX.size
  refine callsH_of_W (args := [a]) (ρ₀ := (upd (fun _ => undef) 0 a)) rfl Try.func49 rfl (by kernel_rfl) ?_
  refine go_ (hq := ?_)
  refine W_loop (X := Nat) (fun k => [(0, a), (9, a), (10, .int .i64 hs.length), (3, .int .i64 (sumLen (xss.take k) : Nat)), (11, .int .i64 k)]) (fun k H' => Ext H H' ∧ k ≤ hs.length) (fun k => hs.length - k) 0 ?_ ?_ ?_
  · exact hold_
  · exact ⟨hX, Nat.zero_le _⟩
  · clear hX ht hr
    rintro u k H' ⟨hX, hk⟩
    have hXs := hX.size
    have ht := ht0.ext hX
    have hr := hr0.ext hX
    refine go_ (hq := ?_)
    refine if_ (ht := fun h2 => ?_) (hf := fun h2 => ?_)
    · skip
      have hrk := hr.at_ k (by omega)
      have hst := sumLen_take xss k (by omega)
      have hsl := sumLen_take_le xss (k + 1)
      refine go_ (hq := ?_)
      refine if_ (ht := fun h3 => ?_) (hf := fun h3 => ?_)
      · omega
      · skip
        refine go_ (hq := ?_)
        refine ⟨k + 1, ?_, ⟨hX, by omega⟩, by omega⟩
        have e1 : ((sumLen (xss.take (k + 1)) : Nat) : Int) = (sumLen (xss.take k) : Nat) + ((xss.getD k []).length : Nat) := by omega
        rw [e1]
        exact hold_
    · skip
      rw [List.take_of_length_le (by omega)]
      refine go_ (hq := ?_)
      refine call_ (hc := growB_spec _ (by omega)) (h := ?_)
      rintro vn H8 ⟨n_8, hE8⟩
      have hf_o_n : Frs H (fO vn) := Frs.mono (Own.frs n_8 (Nat.le_refl _)) hXs
      have o_n := n_8.mono hXs
      replace hX := hX.trans hE8
      replace hXs := hX.size
      replace ht := ht0.ext hX
      replace hr := hr0.ext hX
      simp only [put]
      refine go_ (hq := ?_)
      refine W_loop (X := Nat × Value) (fun x => [(0, a), (25, a), (26, .int .i64 hs.length), (6, x.2), (27, .int .i64 x.1)]) (fun x H' => Ext H H' ∧ Own H' H.size 51 x.2 (xss.take x.1).flatten ∧ x.1 ≤ hs.length) (fun x => hs.length - x.1) (0, vn) ?_ ?_ ?_
      · exact hold_
      · exact ⟨hX, o_n, Nat.zero_le _⟩
      · clear hX ht hr o_n hk h2 u
        rintro u ⟨k, v⟩ H' ⟨hX, o_n, hk⟩
        dsimp only at hX o_n hk ⊢
        have hXs := hX.size
        have ht := ht0.ext hX
        have hr := hr0.ext hX
        have hf_o_n : Frs H (fO v) := o_n.frs (Nat.le_refl _)
        refine go_ (hq := ?_)
        refine if_ (ht := fun h2 => ?_) (hf := fun h2 => ?_)
        · skip
          have hrk := hr.at_ k (by omega)
          have hst := sumLen_take xss k (by omega)
          have hsl := sumLen_take_le xss (k + 1)
          have hf1 := flattenB_len (xss.take k)
          refine go_ (hq := ?_)
          refine append_ o_n hrk (h := fun v2 H13 n_13 hM13 hF13 hN13 => ?_)
          have hfq := hf_o_n
          replace hf_o_n : Frs H (fO v2) := Frs.app hf_o_n hF13 hXs
          replace hX := hX.mut hM13 hfq
          replace hXs := hX.size
          replace ht := ht0.ext hX
          replace hr := hr0.ext hX
          replace o_n := n_13
          refine go_ (hq := ?_)
          refine ⟨(k + 1, v2), hold_, ⟨hX, ?_, by dsimp only; omega⟩, by dsimp only; omega⟩
          dsimp only
          rw [List.take_succ_eq_append_getElem (by omega), List.flatten_append]
          simpa [List.getD, show k < xss.length by omega] using o_n
        · skip
          refine go_ (hq := ?_)
          refine ret1_ (h := ?_)
          rw [List.take_of_length_le (by omega)] at o_n
          exact ⟨o_n, hX⟩
/-- The iterator. -/
theorem values1_spec {L bs : Nat} {a : Value} {l : List BlockD} (J : List BlockD → Heap → Prop)
    (hJ : ∀ s H', J s H' → Blk H' bs 39 [a] ∧ SlE H' a l)
    (hE : ∀ s H' H'', J s H' → Ext H' H'' → J s H'') (hn : l.length ≤ 1000000)
    (hY : ∀ s x H', J s H' → s.length < l.length → YieldH PG L #[x.val] H' (fun v H'' => v = .bool true ∧ J (s ++ [x]) H''))
    (h0 : J [] H) :
    CallsH PG 74 #[.func (.yield L) #[] #[], .pointer (some ⟨bs, 0, none⟩)] H fun _ H' => J l H' := by
  obtain ⟨hbs, hsl⟩ := hJ _ _ h0
  have hsl0 := hsl
  have hX := Ext.refl H
  have hXs := hX.size
  refine callsH_of_W (args := [.func (.yield L) #[] #[], .pointer (some ⟨bs, 0, none⟩)]) (ρ₀ := (upd (upd (fun _ => undef) 1 (.pointer (some ⟨bs, 0, none⟩))) 0 (.func (.yield L) #[] #[]))) rfl Try.func74 rfl (by kernel_rfl) ?_
  refine go_ (hq := ?_)
  refine W_loop (X := Nat) (fun k => [(1, .pointer (some ⟨bs, 0, none⟩)), (0, .func (.yield L) #[] #[]), (5, a), (6, .int .i64 l.length), (7, .int .i64 k)]) (fun k H' => J (l.take k) H' ∧ k ≤ l.length) (fun k => l.length - k) 0 ?_ ?_ ?_
  · exact hold_
  · exact ⟨h0, Nat.zero_le _⟩
  · clear hX hXs hsl hsl0 hbs
    rintro u k H' ⟨hj, hk⟩
    obtain ⟨_, hsl⟩ := hJ _ _ hj
    have hsl0 := hsl
    have hX := Ext.refl H'
    have hXs := hX.size
    refine go_ (hq := ?_)
    refine if_ (ht := fun h => ?_) (hf := fun h => ?_)
    · skip
      refine W_skip (nq_then (W_seq (W_block (W_cut (X := Nat) (fun b => [(1, .pointer (some ⟨bs, 0, none⟩)), (0, .func (.yield L) #[] #[]), (5, a), (6, .int .i64 l.length), (7, .int .i64 k), (4, .pointer (some ⟨b, 0, none⟩))])
        (fun b H'' => Ext H' H'' ∧ Blk H'' b 51 [.int .i64 (l.getD k default).start, .int .i64 (l.getD k default).size]) ?_ ?_))))
      · skip
        refine go_ (hq := ?_)
        refine st_alloc fun b H5 hE5 hge_b hB_b => ?_
        have hf_hB_b : Frs H' (fB b) := Frs.mono (Frs.blk hge_b) hXs
        replace hX := hX.trans hE5
        replace hXs := hX.size
        replace hsl := hsl0.ext hX
        refine go_ (hq := ?_)
        refine store_ hB_b (h := fun H7 hM7 hsz7 hB_b => ?_)
        replace hX := hX.mut hM7 hf_hB_b
        replace hXs := hX.size
        replace hsl := hsl0.ext hX
        refine go_ (hq := ?_)
        exact ⟨b, hold_, hX, hB_b⟩
      · clear hX hXs hsl hsl0 u
        rintro u b H2 ⟨hX, hB⟩
        have hj2 := hE _ _ _ hj hX
        refine W_seq (W_regionY 2 (L := L) (vs := [(l.getD k default).val]) rfl rfl ?_)
        simp only [List.take_succ_cons, List.take_zero, List.drop_succ_cons, List.drop_zero]
        refine go_ (hq := ?_)
        refine ⟨lg_, avg_, ?_⟩
        refine (hY _ (l.getD k default) _ hj2 (by rw [List.length_take]; omega)).mono ?_
        rintro v H3 ⟨rfl, hj3⟩
        simp only [put]
        refine go_ (hq := ?_)
        refine if_ (ht := fun h2 => ?_) (hf := fun h2 => ?_)
        · exact absurd trivial h2
        · skip
          refine go_ (hq := ?_)
          refine ⟨k + 1, hold_, ⟨?_, by omega⟩, by omega⟩
          rw [List.take_succ_eq_append_getElem (by omega)]
          simpa [List.getD, show k < l.length by omega] using hj3
    · skip
      refine go_ (hq := ?_)
      rw [List.take_of_length_le (by omega)] at hj
      exact end0_ (h := hj)
end Go.Proofs.Ytpkigjlnbfgjcaa
