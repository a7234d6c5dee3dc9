/- Copies; the key of a state. -/
import Derived.Test.YtpkigjlnbfgjcaaT6
namespace Go.Proofs.Ytpkigjlnbfgjcaa
open Go.TM
open Go.TM.Cell (enc)
set_option maxRecDepth 20000
variable {H : Heap}
theorem clone_spec {a : Value} {xs : List Int} (ha : SlE H a xs) (hn : xs.length * 8 ≤ 140737488355328) : CallsH PG 33 #[a] H fun v H' => Own H' H.size 3 v xs ∧ Ext H H' := by
  have ha0 := ha
  have hX := Ext.refl H
  have hXs := hX.size
  refine callsH_of_W (args := [a]) (ρ₀ := (upd (fun _ => undef) 0 a)) rfl Try.func33 rfl (by kernel_rfl) ?_
  refine go_ (hq := ?_)
  refine if_ (ht := fun h => ?_) (hf := fun h => ?_)
  · skip
    refine go_ (hq := ?_)
    refine ret1_ (h := ?_)
    have hx : xs = [] := by
      rcases ha.2 with ⟨_, h0⟩ | ⟨ad, cap, rfl, _⟩
      · exact List.eq_nil_of_length_eq_zero h0
      · cases h
    subst hx
    exact ⟨Own.nil _ _ _, hX⟩
  · skip
    refine go_ (hq := ?_)
    refine lit_ ([] : List Int) (h := fun ve H5 n_5 hE5 hN5 => ?_)
    have hf_o_e : Frs H (fO ve) := Frs.mono (Own.frs n_5 (Nat.le_refl _)) hXs
    have o_e := n_5.mono hXs
    replace hX := hX.trans hE5
    replace hXs := hX.size
    replace ha := ha0.ext hX
    refine go_ (hq := ?_)
    refine append_ o_e ha (h := fun v H7 n_7 hM7 hF7 hN7 => ?_)
    have hfq := hf_o_e
    replace hf_o_e : Frs H (fO v) := Frs.app hf_o_e hF7 hXs
    replace hX := hX.mut hM7 hfq
    replace hXs := hX.size
    replace ha := ha0.ext hX
    replace o_e := n_7
    refine go_ (hq := ?_)
    refine ret1_ (h := ?_)
    exact ⟨o_e, hX⟩
theorem grow_spec (n : Int) (hn : 0 ≤ n ∧ n ≤ 17592186044416) : CallsH PG 79 #[.slice none 0 0, .int .i64 n] H fun v H' => Own H' H.size 3 v ([] : List Int) ∧ Ext H H' := by
  have hX := Ext.refl H
  have hXs := hX.size
  have hnil : LenIs (.slice none 0 0) 0 := ⟨none, 0, rfl, by simp⟩
  have hcap : ∀ a m c, Value.slice none 0 0 = .slice a m c → 0 ≤ c := fun _ _ _ _ => Nat.zero_le _
  refine callsH_of_W (args := [.slice none 0 0, .int .i64 n]) (ρ₀ := (upd (upd (fun _ => undef) 1 (.int .i64 n)) 0 (.slice none 0 0))) rfl Try.func79 rfl (by kernel_rfl) ?_
  refine go_ (hq := ?_)
  refine if_ (ht := fun h => ?_) (hf := fun h => ?_)
  · omega
  · skip
    refine go_ (hq := ?_)
    refine if_ (ht := fun h2 => ?_) (hf := fun h2 => ?_)
    · skip
      refine go_ (hq := ?_)
      refine appendz_ Int (h := fun v1 H1 hR hE => ?_)
      replace hX := hX.trans hE
      have hcap2 := hR.capIs
      refine go_ (hq := ?_)
      refine ret1_ (h := ?_)
      exact ⟨hR.zero, hX⟩
    · skip
      refine go_ (hq := ?_)
      refine ret1_ (h := ?_)
      exact ⟨Own.nil _ _ _, hX⟩
theorem flatten_len (l : List (List Int)) : l.flatten.length = sumLen l := by
  induction l with
  | nil => rfl
  | cons x l ih => simp only [List.flatten_cons, List.length_append, sumLen, ih]
theorem concat_spec {a : Value} {hs : List Hdr} {xss : List (List Int)} (ha : Sl2 H a hs xss) (hb : sumLen xss ≤ 17592186044416) (hc : xss.length ≤ 1000) :
    CallsH PG 66 #[a] H fun v H' => Own H' H.size 3 v xss.flatten ∧ Ext H H' := by
  obtain ⟨ht, hr⟩ := ha
  have er := hr.len
  have ht0 := ht
  have hr0 := hr
  have hX := Ext.refl H
  have hXs := hX.size
  refine callsH_of_W (args := [a]) (ρ₀ := (upd (fun _ => undef) 0 a)) rfl Try.func66 rfl (by kernel_rfl) ?_
  refine go_ (hq := ?_)
  refine W_loop (X := Nat) (fun k => [(0, a), (9, a), (10, .int .i64 hs.length), (3, .int .i64 (sumLen (xss.take k) : Nat)), (11, .int .i64 k)]) (fun k H' => Ext H H' ∧ k ≤ hs.length) (fun k => hs.length - k) 0 ?_ ?_ ?_
  · exact hold_
  · exact ⟨hX, Nat.zero_le _⟩
  · clear hX ht hr
    rintro u k H' ⟨hX, hk⟩
    have hXs := hX.size
    have ht := ht0.ext hX
    have hr := hr0.ext hX
    refine go_ (hq := ?_)
    refine if_ (ht := fun h2 => ?_) (hf := fun h2 => ?_)
    · skip
      have hrk := hr.at_ k (by omega)
      have hst := sumLen_take xss k (by omega)
      have hsl := sumLen_take_le xss (k + 1)
      refine go_ (hq := ?_)
      refine if_ (ht := fun h3 => ?_) (hf := fun h3 => ?_)
      · omega
      · skip
        refine go_ (hq := ?_)
        refine ⟨k + 1, ?_, ⟨hX, by omega⟩, by omega⟩
        have e1 : ((sumLen (xss.take (k + 1)) : Nat) : Int) = (sumLen (xss.take k) : Nat) + ((xss.getD k []).length : Nat) := by omega
        rw [e1]
        exact hold_
    · skip
      rw [List.take_of_length_le (by omega)]
      refine go_ (hq := ?_)
      refine call_ (hc := grow_spec _ (by omega)) (h := ?_)
      rintro vn H8 ⟨n_8, hE8⟩
      have hf_o_n : Frs H (fO vn) := Frs.mono (Own.frs n_8 (Nat.le_refl _)) hXs
      have o_n := n_8.mono hXs
      replace hX := hX.trans hE8
      replace hXs := hX.size
      replace ht := ht0.ext hX
      replace hr := hr0.ext hX
      simp only [put]
      refine go_ (hq := ?_)
      refine W_loop (X := Nat × Value) (fun x => [(0, a), (25, a), (26, .int .i64 hs.length), (6, x.2), (27, .int .i64 x.1)]) (fun x H' => Ext H H' ∧ Own H' H.size 3 x.2 (xss.take x.1).flatten ∧ x.1 ≤ hs.length) (fun x => hs.length - x.1) (0, vn) ?_ ?_ ?_
      · exact hold_
      · exact ⟨hX, o_n, Nat.zero_le _⟩
      · clear hX ht hr o_n hk h2 u
        rintro u ⟨k, v⟩ H' ⟨hX, o_n, hk⟩
        dsimp only at hX o_n hk ⊢
        have hXs := hX.size
        have ht := ht0.ext hX
        have hr := hr0.ext hX
        have hf_o_n : Frs H (fO v) := o_n.frs (Nat.le_refl _)
        refine go_ (hq := ?_)
        refine if_ (ht := fun h2 => ?_) (hf := fun h2 => ?_)
        · skip
          have hrk := hr.at_ k (by omega)
          have hst := sumLen_take xss k (by omega)
          have hsl := sumLen_take_le xss (k + 1)
          have hf1 := flatten_len (xss.take k)
          refine go_ (hq := ?_)
          refine append_ o_n hrk (h := fun v2 H13 n_13 hM13 hF13 hN13 => ?_)
          have hfq := hf_o_n
          replace hf_o_n : Frs H (fO v2) := Frs.app hf_o_n hF13 hXs
          replace hX := hX.mut hM13 hfq
          replace hXs := hX.size
          replace ht := ht0.ext hX
          replace hr := hr0.ext hX
          replace o_n := n_13
          refine go_ (hq := ?_)
          refine ⟨(k + 1, v2), hold_, ⟨hX, ?_, by dsimp only; omega⟩, by dsimp only; omega⟩
          dsimp only
          rw [List.take_succ_eq_append_getElem (by omega), List.flatten_append]
          simpa [List.getD, show k < xss.length by omega] using o_n
        · skip
          refine go_ (hq := ?_)
          refine ret1_ (h := ?_)
          rw [List.take_of_length_le (by omega)] at o_n
          exact ⟨o_n, hX⟩
def byteOf (x : Int) : UInt8 := UInt8.ofNat (x % 256).toNat
theorem wrap_u8 (x : Int) : IntKind.u8.wrap x = ((byteOf x).toNat : Int) := by
  have h : ((byteOf x).toNat : Int) = x % 256 := by
    unfold byteOf
    rw [UInt8.toNat_ofNat']
    omega
  rw [h]
  simp [IntKind.wrap, IntKind.signed, IntKind.bits]
def bytesOf : Nat → Int → List UInt8
  | 0, _ => []
  | n + 1, x => byteOf x :: bytesOf n (x.fdiv 256)
theorem bytesOf_length (n : Nat) : ∀ x, (bytesOf n x).length = n := by
  induction n with
  | zero => intro x; rfl
  | succ n ih => intro x; simp [bytesOf, ih]
def keyOf (xs ys : List Int) : ByteArray := ⟨((xs ++ ys).flatMap (bytesOf 8)).toArray⟩
theorem state_spec {m a : Value} {xs ys : List Int} (hm : SlE H m xs) (ha : SlE H a ys) (hb : xs.length + ys.length ≤ 17592186044416) :
    CallsH PG 32 #[m, a] H fun v H' => v = .string (keyOf xs ys) ∧ Ext H H' := by
  unfold keyOf
  have hm0 := hm
  have ha0 := ha
  have hX := Ext.refl H
  have hXs := hX.size
  refine callsH_of_W (args := [m, a]) (ρ₀ := (upd (upd (fun _ => undef) 1 a) 0 m)) rfl Try.func32 rfl (by kernel_rfl) ?_
  refine go_ (hq := ?_)
  refine makecap_ (α := UInt8) (h := fun vb H1 o_b hE hN => ?_)
  replace hX := hX.trans hE; replace hm := hm.ext hE; replace ha := ha.ext hE
  replace hXs := hX.size
  have hf_o_b : Frs H (fO vb) := o_b.frs (Nat.le_refl _)
  refine go_ (hq := ?_)
  obtain ⟨hdm, em⟩ := hm.hdrOf
  obtain ⟨hda, ea⟩ := ha.hdrOf
  subst em ea
  refine lit_ [hdm, hda] (h := fun vl H4 n_4 hE4 hN4 => ?_)
  have hs_o_b_o_l : Apt (fO vb) (fO vl) := Apt.new o_b.old (Own.frs n_4 (Nat.le_refl _))
  have hf_o_l : Frs H (fO vl) := Frs.mono (Own.frs n_4 (Nat.le_refl _)) hXs
  have o_l := n_4.mono hXs
  replace hX := hX.trans hE4
  replace hXs := hX.size
  replace hm := hm0.ext hX
  replace ha := ha0.ext hX
  replace o_b := o_b.ext hE4
  refine go_ (hq := ?_)
  refine call_ (hc := concat_spec (hs := [hdm, hda]) (xss := [xs, ys]) ⟨o_l.sl, Rows.cons hm (Rows.cons ha Rows.nil)⟩ (by simp [sumLen]; omega) (by simp)) (h := ?_)
  rintro vc H6 ⟨n_6, hE6⟩
  have hs_o_b_o_c : Apt (fO vb) (fO vc) := Apt.new o_b.old (Own.frs n_6 (Nat.le_refl _))
  have hs_o_l_o_c : Apt (fO vl) (fO vc) := Apt.new o_l.old (Own.frs n_6 (Nat.le_refl _))
  have hf_o_c : Frs H (fO vc) := Frs.mono (Own.frs n_6 (Nat.le_refl _)) hXs
  have o_c := n_6.mono hXs
  replace hX := hX.trans hE6
  replace hXs := hX.size
  replace hm := hm0.ext hX
  replace ha := ha0.ext hX
  replace o_b := o_b.ext hE6
  replace o_l := o_l.ext hE6
  simp only [put]
  refine go_ (hq := ?_)
  have hfe : [xs, ys].flatten = xs ++ ys := by simp
  rw [hfe] at o_c
  simp only [hfe]
  have hlen : (xs ++ ys).length = xs.length + ys.length := by simp
  generalize xs ++ ys = zs at o_c hlen ⊢
  refine W_loop (X := Nat × Value × List UInt8) (fun x => [(5, x.2.1), (18, vc), (19, .int .i64 zs.length), (20, .int .i64 x.1)])
    (fun x H' => Ext H H' ∧ Own H' H.size 5 x.2.1 x.2.2 ∧ Own H' H.size 3 vc zs ∧ SepL [fO x.2.1, fO vc] ∧ x.1 ≤ zs.length ∧ x.2.2.length = 8 * x.1 ∧ zs.flatMap (bytesOf 8) = x.2.2 ++ (zs.drop x.1).flatMap (bytesOf 8)) (fun x => zs.length - x.1) (0, vb, []) ?_ ?_ ?_
  · exact hold_
  · exact ⟨hX, o_b, o_c, (sep_cons (sepa_cons (hs_o_b_o_c) sepa_nil) (sep_cons sepa_nil sep_nil)), Nat.zero_le _, rfl, rfl⟩
  · clear hX hm ha o_b o_c o_l
    rintro u ⟨k, vb, bs⟩ H' ⟨hX, o_b, o_c, hS, hk, hbl, hall⟩
    dsimp only at hX o_b o_c hS hk hbl hall ⊢
    have hXs := hX.size
    have hf_o_b : Frs H (fO vb) := o_b.frs (Nat.le_refl _)
    have hf_o_c : Frs H (fO vc) := o_c.frs (Nat.le_refl _)
    obtain ⟨⟨hs_o_b_o_c, -⟩, ⟨⟨-⟩, -⟩⟩ := hS
    refine go_ (hq := ?_)
    refine if_ (ht := fun h2 => ?_) (hf := fun h2 => ?_)
    · skip
      rw [drop_getD 0 zs k (by omega), List.flatMap_cons] at hall
      refine go_ (hq := ?_)
      refine W_loop (X := Nat × Int × Value × List UInt8) (fun x => [(5, x.2.2.1), (7, .int .i64 x.2.1), (18, vc), (19, .int .i64 zs.length), (20, .int .i64 k), (24, .int .i64 x.1)])
        (fun x H' => Ext H H' ∧ Own H' H.size 5 x.2.2.1 x.2.2.2 ∧ Own H' H.size 3 vc zs ∧ SepL [fO x.2.2.1, fO vc] ∧ x.1 ≤ 8 ∧ x.2.2.2.length = 8 * k + x.1 ∧ bs ++ bytesOf 8 (zs.getD k 0) = x.2.2.2 ++ bytesOf (8 - x.1) x.2.1) (fun x => 8 - x.1) (0, zs.getD k 0, vb, bs) ?_ ?_ ?_
      · exact hold_
      · exact ⟨hX, o_b, o_c, (sep_cons (sepa_cons (hs_o_b_o_c) sepa_nil) (sep_cons sepa_nil sep_nil)), by omega, by simpa using hbl, rfl⟩
      · clear hX o_b o_c
        rintro u ⟨j, x, vb, bs'⟩ H' ⟨hX, o_b, o_c, hS, hj, hbl', hall'⟩
        dsimp only at hX o_b o_c hS hj hbl' hall' ⊢
        have hXs := hX.size
        have hf_o_b : Frs H (fO vb) := o_b.frs (Nat.le_refl _)
        have hf_o_c : Frs H (fO vc) := o_c.frs (Nat.le_refl _)
        obtain ⟨⟨hs_o_b_o_c, -⟩, ⟨⟨-⟩, -⟩⟩ := hS
        refine go_ (hq := ?_)
        refine if_ (ht := fun h3 => ?_) (hf := fun h3 => ?_)
        · skip
          refine go_ (hq := ?_)
          rw [wrap_u8]
          refine lit_ [byteOf x] (h := fun vl H14 n_14 hE14 hN14 => ?_)
          have hs_o_b_o_l : Apt (fO vb) (fO vl) := Apt.new o_b.old (Own.frs n_14 (Nat.le_refl _))
          have hs_o_c_o_l : Apt (fO vc) (fO vl) := Apt.new o_c.old (Own.frs n_14 (Nat.le_refl _))
          have hf_o_l : Frs H (fO vl) := Frs.mono (Own.frs n_14 (Nat.le_refl _)) hXs
          have o_l := n_14.mono hXs
          replace hX := hX.trans hE14
          replace hXs := hX.size
          replace o_b := o_b.ext hE14
          replace o_c := o_c.ext hE14
          refine go_ (hq := ?_)
          refine append_ o_b o_l.sl (h := fun vb' H16 n_16 hM16 hF16 hN16 => ?_)
          have hq_o_c := hs_o_b_o_c
          have hq_o_l := hs_o_b_o_l
          have hfq := hf_o_b
          replace hs_o_b_o_c : Apt (fO vb') (fO vc) := Apt.app hs_o_b_o_c hF16 o_c.old
          replace hs_o_b_o_l : Apt (fO vb') (fO vl) := Apt.app hs_o_b_o_l hF16 o_l.old
          replace hf_o_b : Frs H (fO vb') := Frs.app hf_o_b hF16 hXs
          replace hX := hX.mut hM16 hfq
          replace hXs := hX.size
          replace o_c := o_c.mutF hM16 hq_o_c
          replace o_l := o_l.mutF hM16 hq_o_l
          replace o_b := n_16
          refine go_ (hq := ?_)
          refine ⟨(j + 1, x.fdiv 256, vb', bs' ++ [byteOf x]), hold_, ⟨hX, o_b, o_c, (sep_cons (sepa_cons (hs_o_b_o_c) sepa_nil) (sep_cons sepa_nil sep_nil)), by omega, by simp; omega, ?_⟩, by dsimp only; omega⟩
          dsimp only
          rw [hall', show 8 - j = (8 - (j + 1)) + 1 by omega]
          simp [bytesOf]
        · skip
          refine go_ (hq := ?_)
          refine ⟨(k + 1, vb, bs'), hold_, ⟨hX, o_b, o_c, (sep_cons (sepa_cons (hs_o_b_o_c) sepa_nil) (sep_cons sepa_nil sep_nil)), by omega, by dsimp only; omega, ?_⟩, by dsimp only; omega⟩
          dsimp only
          have : 8 - j = 0 := by omega
          have h0 : bytesOf 0 x = [] := rfl
          rw [this, h0, List.append_nil] at hall'
          rw [hall, ← hall', List.append_assoc]
    · skip
      refine go_ (hq := ?_)
      refine ret1_ (h := ?_)
      refine ⟨?_, hX⟩
      rw [List.drop_of_length_le (by omega)] at hall
      simp only [List.flatMap_nil, List.append_nil] at hall
      rw [hall]
end Go.Proofs.Ytpkigjlnbfgjcaa
