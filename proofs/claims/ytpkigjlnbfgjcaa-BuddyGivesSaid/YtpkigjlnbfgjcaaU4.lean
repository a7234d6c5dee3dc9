/- Blocks of a space: a row with one element less, or one more, in place. -/
import Derived.Test.YtpkigjlnbfgjcaaU3
import Derived.Lib.Overlaps
namespace Go.Proofs.Ytpkigjlnbfgjcaa
open Go.TM
open Go.TM.Cell (enc)
set_option maxRecDepth 20000
set_option maxHeartbeats 4000000
variable {H : Heap}
theorem erase_cells {cs : List Value} {l : List BlockD} {i : Nat} (hi : i < l.length) (h : l.length * 2 ≤ cs.length) (ht : cs.take (l.length * 2) = l.flatMap enc) :
    (setAt cs (i * 2) ((l.drop (i + 1)).flatMap enc)).take ((l.length - 1) * 2) = (l.eraseIdx i).flatMap enc := by
  have e1 : ((l.drop (i + 1)).flatMap enc).length = (l.length - (i + 1)) * 2 := by
    have := flat_length (l.drop (i + 1)); rw [List.length_drop] at this; exact this
  rw [take_setAt _ _ _ _ (by rw [e1]; omega), setAt_tail _ _ _ (by rw [e1, List.length_take]; omega), List.take_take, Nat.min_eq_left (by omega)]
  have e2 : cs.take (i * 2) = (l.take i).flatMap enc := by
    have := flat_take l i
    rw [this, ← ht, List.take_take]
    congr 1
    show i * 2 = min (i * 2) (l.length * 2)
    omega
  rw [e2, ← List.flatMap_append, List.eraseIdx_eq_take_drop_succ]
theorem delete_spec {B : Nat} {v : Value} {l : List BlockD} (o : Own H B 51 v l) (i : Nat) (hi : i < l.length) (hn : l.length ≤ 1000000) :
    CallsH PG 56 #[v, .int .i64 i, .int .i64 (i + 1)] H fun r H' => Own H' B 51 r (l.eraseIdx i) ∧ Mut (fO v) H H' ∧ (∀ k, fO r k → fO v k) := by
  obtain ⟨gg, cap, cs, rfl, hB, hb, hc, hm, hl, ht⟩ := o.blk (by
    intro h0; subst h0
    rcases o.2 with ⟨_, h⟩ | ⟨_, _, _, h, _⟩
    · omega
    · cases h)
  have hz : Cell.sz BlockD = 2 := rfl
  rw [hz] at hl ht
  have hsl := o.sl
  have hlen : LenIs (.slice (some ⟨gg, 0, none⟩) l.length cap) l.length := hsl.lenIs
  have hcap := hsl.capIs
  have hsl0 := hsl
  have hX := Ext.refl H
  have hXs := hX.size
  refine callsH_of_W (args := [.slice (some ⟨gg, 0, none⟩) l.length cap, .int .i64 i, .int .i64 (i + 1)]) (ρ₀ := (upd (upd (upd (fun _ => undef) 2 (.int .i64 (i + 1))) 1 (.int .i64 i)) 0 (.slice (some ⟨gg, 0, none⟩) l.length cap))) rfl Try.func56 rfl (by kernel_rfl) ?_
  refine go_ (hq := ?_)
  refine st_q (q_slice3 lg_ lg_ lg_ lg_ (by omega)) ?_
  refine go_ (hq := ?_)
  refine if_ (ht := fun h => ?_) (hf := fun h => ?_)
  · omega
  · skip
    refine go_ (hq := ?_)
    refine draw_ mixed (Q := _) 1 [0,1,2,3,4,5,6,7] (h := ?_)
    refine go_ (hq := ?_)
    rw [resl_0]
    have hsrc := SlE.resl hsl (i + 1) l.length (by omega) (Nat.le_refl _)
    rw [hz, List.take_length] at hsrc
    have ei : (i : Int).toNat = i := by omega
    have ei1 : ((i : Int) + 1).toNat = i + 1 := by omega
    rw [ei, ei1]
    refine st_appendR (hx := lg_) (hy := lg_) hb hsrc (by simp; omega) (by rw [hl, hz]) (by intro m hm; cases hm; decide) (h := fun H1 hM1 hs1 hb1 => ?_)
    have en : i + (l.drop (i + 1)).length = l.length - 1 := by simp; omega
    rw [en]
    have hlen2 : LenIs (.slice (some ⟨gg, 0, none⟩) (l.length - 1) cap) (l.length - 1) := ⟨_, _, rfl, fun _ => rfl⟩
    have hcl : l.length * 2 ≤ cs.length := by rw [hl]; omega
    have hec := erase_cells hi hcl ht
    have hle : (l.eraseIdx i).length = l.length - 1 := by rw [List.length_eraseIdx, if_pos hi]
    refine go_ (hq := ?_)
    refine st_q (q_sliceC (hx := lg_) (.some lg_ (by omega)) (.some lg_ (by omega)) (by omega)) ?_
    simp only [Int.toNat_natCast]
    rw [resl_j (lo := l.length - 1) (cap := cap) (by omega), Nat.zero_add]
    refine go_ (hq := ?_)
    refine st_clear (n := l.length - (l.length - 1)) (hx := lg_) (hv := .inr ⟨_, rfl⟩) hb1 (by rw [setAt_length]; simp; omega) (by decide) (by intro m hm; cases hm) (h := fun H2 hM2 hs2 hb2 => ?_)
    refine go_ (hq := ?_)
    refine ret1_ (h := ?_)
    have key : ∃ cs2, Blk H2 gg 51 cs2 ∧ cs2.length = cap * 2 ∧ cs2.take ((l.length - 1) * 2) = (l.eraseIdx i).flatMap enc := by
      rcases hb2 with rfl | hb2
      · exact ⟨_, hb1, by rw [setAt_length, hl], hec⟩
      · exact ⟨_, hb2, by rw [setAt_length, setAt_length, hl], by rw [setAt_take_ge _ _ _ _ (Nat.le_refl _)]; exact hec⟩
    obtain ⟨cs2, k1, k2, k3⟩ := key
    refine ⟨Own.of_blk hB k1 hle.symm (by omega) hm (by rw [k2, hz]) (by rw [hle, hz]; exact k3), (hM1.mono fun k _ hk => by rw [show k = gg from hk]; rfl).trans (hM2.mono fun k _ hk => by rw [show k = gg from hk]; rfl), fun k hk => hk⟩
/-! ### One more -/
def insB (l : List BlockD) (i : Nat) (b : BlockD) : List BlockD := l.take i ++ b :: l.drop i
theorem overlaps_run {wb : Nat} {o gg : Nat} {cs ws : List Value} {m c m' c' : Nat} (hb : Blk H gg 51 cs) (hw : Blk H wb 51 ws) (hne : wb ≠ gg) (h0 : cs.length ≠ 0) :
    ∀ w : World, w.heap = H → (callFunc 98 #[.slice (some ⟨wb, 0, none⟩) m c, .slice (some ⟨gg, o, none⟩) m' c']).run PG w = .ok (.value (.bool false)) w := by
  intro w hw'
  subst hw'
  rw [run_callFunc_extern Try.func98 (by kernel_rfl) (by kernel_rfl) (by kernel_rfl) (e := Extern.SlicesOverlaps.overlaps #[39, 39] #[4]) (by kernel_rfl),
    Lib.run_overlaps_apart w 39 4 51 Try.underlying39 2 Try.sizeOf51 ⟨wb, 0, none⟩ ⟨gg, o, none⟩ m c m' c' hne _ _ _ _ hw.shape hb.shape h0 hw.frozen hw.frozen]
  rfl
theorem insert_spec {B wb wc : Nat} {v : Value} {l : List BlockD} {b : BlockD} {ws : List Value} (o : Own H B 51 v l) (hB : B ≤ H.size) (hws : Blk H wb 51 ws) (hw : SlE H (.slice (some ⟨wb, 0, none⟩) 1 wc) [b]) (hap : ¬ fO v wb) (i : Nat) (hi : i ≤ l.length) (hn : l.length ≤ 1000000) :
    CallsH PG 78 #[v, .int .i64 i, .slice (some ⟨wb, 0, none⟩) 1 wc] H fun r H' => Own H' B 51 r (insB l i b) ∧ Mut (fO v) H H' ∧ (∀ k, fO r k → fO v k ∨ H.size ≤ k) := by
  have hsl := o.sl
  have hlenv : LenIs v l.length := hsl.lenIs
  have hcapv := hsl.capIs
  have hlw : LenIs (.slice (some ⟨wb, 0, none⟩) 1 wc) 1 := ⟨_, _, rfl, fun _ => rfl⟩
  have hsl0 := hsl
  have hX := Ext.refl H
  have hXs := hX.size
  refine callsH_of_W (args := [v, .int .i64 i, .slice (some ⟨wb, 0, none⟩) 1 wc]) (ρ₀ := (upd (upd (upd (fun _ => undef) 2 (.slice (some ⟨wb, 0, none⟩) 1 wc)) 1 (.int .i64 i)) 0 v)) rfl Try.func78 rfl (by kernel_rfl) ?_
  refine go_ (hq := ?_)
  refine if_ (ht := fun h => ?_) (hf := fun h => ?_)
  · omega
  · skip
    refine go_ (hq := ?_)
    refine if_ (ht := fun h2 => ?_) (hf := fun h2 => ?_)
    · skip
      refine go_ (hq := ?_)
      refine append_ o hw (h := fun v' H1 n1 hM1 hF1 _ => ?_)
      refine go_ (hq := ?_)
      refine ret1_ (h := ?_)
      have hil : i = l.length := by omega
      have e : insB l i b = l ++ [b] := by rw [insB, hil, List.take_length, List.drop_length]
      rw [e]
      exact ⟨n1, hM1, hF1⟩
    · skip
      have hil : i < l.length := by omega
      obtain ⟨gg, cap, cs, rfl, hBg, hb, hc, hm, hl, ht⟩ := o.blk (by
        intro h0; subst h0
        rcases o.2 with ⟨_, h⟩ | ⟨_, _, _, h, _⟩
        · omega
        · cases h)
      have hz : Cell.sz BlockD = 2 := rfl
      rw [hz] at hl ht
      have hne : wb ≠ gg := fun e => hap (by rw [e]; rfl)
      have ecs : (l.take i).flatMap enc = cs.take (i * 2) := by
        rw [flat_take, ← ht, List.take_take]
        congr 1
        show min (i * 2) (l.length * 2) = i * 2
        omega
      have el1 : (insB l i b).length = l.length + 1 := by simp [insB]; omega
      have eD : ((l.drop i).flatMap enc).length = (l.length - i) * 2 := by
        have := flat_length (l.drop i); rw [List.length_drop] at this; exact this
      have efl : (insB l i b).flatMap enc = cs.take (i * 2) ++ enc b ++ (l.drop i).flatMap enc := by
        rw [insB, List.flatMap_append, List.flatMap_cons, ecs, List.append_assoc]
      have ei : (i : Int).toNat = i := by omega
      refine go_ (hq := ?_)
      refine if_ (ht := fun h3 => ?_) (hf := fun h3 => ?_)
      · skip
        refine go_ (hq := ?_)
        rw [resl_0, ei]
        have elt : (l.take i).length = i := by simp; omega
        have otk : Own H B 51 (.slice (some ⟨gg, 0, none⟩) (l.take i).length cap) (l.take i) := by
          have := o.take i hi
          rw [hz, resl_0] at this
          rwa [elt]
        refine st_appendG (α := BlockD) (default : BlockD) rfl otk (by rw [elt]; exact lg_) lg_ (by omega) (by rw [elt]; omega) (by rw [elt]; omega) (by rw [elt]; omega) (h := fun v2 H1 o2 hE1 hv2 => ?_)
        obtain ⟨g2, cap2, cs2, rfl, hB2, hb2, hc2, hm2, hl2, ht2⟩ := o2.blk (by obtain ⟨c, rfl⟩ := hv2; simp)
        have ex : (l.take i ++ List.replicate ((l.length : Int) + ((1 : Nat) : Int) - i).toNat (default : BlockD)).length = l.length + 1 := by simp; omega
        rw [ex] at hc2 ht2 ⊢
        rw [hz] at hl2 ht2
        have hglt := hb.lt
        have hwlt := hws.lt
        have e2 : cs2.take (i * 2) = cs.take (i * 2) := by
          have e3 := congrArg (List.take (i * 2)) ht2
          rw [List.take_take, Nat.min_eq_left (by omega), List.flatMap_append, List.take_append_of_le_length (by rw [ecs]; simp; omega), ecs, List.take_take, Nat.min_self] at e3
          exact e3
        have hlv2 : LenIs (.slice (some ⟨g2, 0, none⟩) (l.length + 1) cap2) (l.length + 1) := ⟨_, _, rfl, fun _ => rfl⟩
        have hcv2 : ∀ a m c, Value.slice (some ⟨g2, 0, none⟩) (l.length + 1) cap2 = .slice a m c → l.length + 1 ≤ c := fun _ _ _ h => by cases h; exact hc2
        refine go_ (hq := ?_)
        rw [ei, resl_j (lo := i) (cap := cap2) (by omega), Nat.zero_add]
        have hw1 := hw.ext hE1
        refine st_copy (α := BlockD) (n := 1) lg_ lg_ hb2 hw1 (by simp; omega) (by rw [hz]; omega) (by intro m hm; cases hm) (h := fun H2 hM2 hs2 hb3 => ?_)
        have eb : ([b].take 1).flatMap enc = enc b := by simp
        rw [eb] at hb3
        have hsl2 : SlE H2 (.slice (some ⟨gg, 0, none⟩) l.length cap) l := (hsl.ext hE1).mut hM2 (fun k hk e => by
          have h9 : some gg = some k := hk
          simp only [Option.some.injEq] at h9
          omega)
        have hsrc := SlE.resl hsl2 i l.length (by omega) (Nat.le_refl _)
        rw [hz, List.take_length] at hsrc
        refine go_ (hq := ?_)
        refine draw_ mixed (Q := _) 1 [0,1,2,3,4,5,6,7,8] (h := ?_)
        refine go_ (hq := ?_)
        have ei2 : ((i : Int) + ((1 : Nat) : Int)).toNat = i + 1 := by omega
        rw [ei2, ei, resl_j (lo := i + 1) (cap := cap2) (by omega), Nat.zero_add]
        refine st_copy (α := BlockD) (n := l.length - i) lg_ lg_ hb3 hsrc (by rw [List.length_drop]; omega) (by rw [hz, setAt_length]; omega) (by intro m hm; cases hm; decide) (h := fun H3 hM3 hs3 hb4 => ?_)
        have ed : ((l.drop i).take (l.length - i)).flatMap enc = (l.drop i).flatMap enc := by rw [List.take_of_length_le (by simp)]
        rw [ed] at hb4
        refine go_ (hq := ?_)
        refine ret1_ (h := ?_)
        have hts := (two_sets (cs := cs2) (E := enc b) (D := (l.drop i).flatMap enc) (p := i * 2) (q := (i + 1) * 2) (m := (l.length + 1) * 2) (by show (i + 1) * 2 = i * 2 + 2; omega) (by rw [eD]; omega) (by omega)).2
        rw [e2, ← efl] at hts
        refine ⟨Own.of_blk (Nat.le_trans hB hB2) hb4 el1.symm (by omega) hm2 (by rw [setAt_length, setAt_length, hl2, hz]) (by rw [el1, hz]; exact hts), ⟨by have := hE1.size; omega, fun k hk hn => ?_⟩, fun k hk => .inr ?_⟩
        · rw [hM3.block k (by have := hE1.size; omega) (by intro e; omega), hM2.block k (by have := hE1.size; omega) (by intro e; omega), hE1.block k hk]
        · have h9 : some g2 = some k := hk
          simp only [Option.some.injEq] at h9
          omega
      · skip
        refine go_ (hq := ?_)
        refine st_q (q_sliceC (hx := lg_) .none (.some lg_ (by omega)) (by omega)) ?_
        have ei2 : ((i : Int) + ((1 : Nat) : Int)).toNat = i + 1 := by omega
        have en2 : ((l.length : Int) + ((1 : Nat) : Int)).toNat = l.length + 1 := by omega
        rw [resl_0, en2]
        have hlv2 : LenIs (.slice (some ⟨gg, 0, none⟩) (l.length + 1) cap) (l.length + 1) := ⟨_, _, rfl, fun _ => rfl⟩
        have hcv2 : ∀ a m c, Value.slice (some ⟨gg, 0, none⟩) (l.length + 1) cap = .slice a m c → l.length + 1 ≤ c := fun _ _ _ h => by cases h; omega
        refine go_ (hq := ?_)
        rw [ei2, resl_j (lo := i + 1) (cap := cap) (hi := l.length + 1) (n := l.length + 1) (by omega), Nat.zero_add]
        refine st_extern (ha := avg_) (overlaps_run hb hws hne (by omega)) ?_
        refine go_ (hq := ?_)
        refine if_ (ht := fun h4 => ?_) (hf := fun h4 => ?_)
        · skip
          refine go_ (hq := ?_)
          refine draw_ mixed (Q := _) 1 [0,1,2,3,4,5,6,7,8] (h := ?_)
          refine go_ (hq := ?_)
          rw [ei2, ei, resl_j (lo := i + 1) (cap := cap) (hi := l.length + 1) (n := l.length + 1) (by omega), resl_j (lo := i) (cap := cap) (hi := l.length + 1) (n := l.length + 1) (by omega), Nat.zero_add, Nat.zero_add]
          have hcells : Cells H ⟨gg, i * 2, none⟩ ((l.drop i).flatMap enc) := hb.cellsAt (by
            have e9 := flat_drop l i
            rw [hz] at e9
            rw [eD, e9, ← ht, List.drop_take]
            congr 1
            omega) (by rw [eD]; omega)
          refine st_copyC (n := l.length - i) (sz := 2) lg_ lg_ hb hcells eD (by
            intro v hv
            obtain ⟨z, _, hz⟩ := List.mem_flatMap.1 hv
            exact Cell.one z v hz) (by omega) (by omega) (by intro m hm; cases hm; decide) (h := fun H2 hM2 hs2 hb2 => ?_)
          refine go_ (hq := ?_)
          rw [ei, resl_j (lo := i) (cap := cap) (hi := l.length + 1) (n := l.length + 1) (by omega), Nat.zero_add]
          have hw2 : SlE H2 (.slice (some ⟨wb, 0, none⟩) 1 wc) [b] := hw.mut hM2 (fun k hk e => by
            have h9 : some wb = some k := hk
            simp only [Option.some.injEq] at h9
            exact hne (by rw [h9]; exact e))
          refine st_copy (α := BlockD) (n := 1) lg_ lg_ hb2 hw2 (by simp; omega) (by rw [hz, setAt_length]; omega) (by intro m hm; cases hm) (h := fun H3 hM3 hs3 hb3 => ?_)
          have eb : ([b].take 1).flatMap enc = enc b := by simp
          rw [eb] at hb3
          refine go_ (hq := ?_)
          refine ret1_ (h := ?_)
          have hts := (two_sets (cs := cs) (E := enc b) (D := (l.drop i).flatMap enc) (p := i * 2) (q := (i + 1) * 2) (m := (l.length + 1) * 2) (by show (i + 1) * 2 = i * 2 + 2; omega) (by rw [eD]; omega) (by omega)).1
          rw [← efl] at hts
          have hM : Mut (fO (.slice (some ⟨gg, 0, none⟩) l.length cap)) H H3 := (hM2.mono fun k _ hk => by rw [show k = gg from hk]; rfl).trans (hM3.mono fun k _ hk => by rw [show k = gg from hk]; rfl)
          exact ⟨Own.of_blk hBg hb3 el1.symm (by omega) hm (by rw [setAt_length, setAt_length, hl, hz]) (by rw [el1, hz]; exact hts), hM, fun k hk => .inl hk⟩
        · exact absurd (by simp) h4
/-! ### A block in its place -/
theorem put_spec {B : Nat} {v : Value} {l : List BlockD} (o : Own H B 51 v l) (hB : B ≤ H.size) (b : BlockD) (lb : Nat) (hlb : lb ≤ l.length) (hs : ∀ i, i < l.length → ((l.getD i default).start < b.start ↔ i < lb)) (hn : l.length ≤ 1000000) :
    CallsH PG 57 #[v, b.val] H fun r H' => Own H' B 51 r (insB l lb b) ∧ Mut (fO v) H H' ∧ (∀ k, fO r k → fO v k ∨ H.size ≤ k) := by
  have hsl := o.sl
  have hsl0 := hsl
  have hX := Ext.refl H
  have hXs := hX.size
  refine callsH_of_W (args := [v, b.val]) (ρ₀ := (upd (upd (fun _ => undef) 1 (b.val)) 0 v)) rfl Try.func57 rfl (by kernel_rfl) ?_
  refine go_ (hq := ?_)
  refine box_ (h := fun c H3 hE3 hge_c hB_c => ?_)
  have hs_o_hB_c : Apt (fO v) (fB c) := Apt.new o.old (Frs.blk hge_c)
  have hf_hB_c : Frs H (fB c) := Frs.mono (Frs.blk hge_c) hXs
  replace hX := hX.trans hE3
  replace hXs := hX.size
  replace hsl := hsl0.ext hX
  replace o := o.ext hE3
  refine go_ (hq := ?_)
  refine call_ (hc := search_spec hsl b lb hlb hs (by omega)) (h := ?_)
  rintro v5 H5 ⟨rfl, hE5⟩
  replace hX := hX.trans hE5
  replace hXs := hX.size
  replace hsl := hsl0.ext hX
  replace o := o.ext hE5
  replace hB_c := hB_c.ext hE5
  simp only [put]
  refine go_ (hq := ?_)
  refine st_litc [b] rfl rfl rfl (by decide) (by decide) (by repeat (first | exact PV.nil | (apply PV.cons; (focus (exact lg_))))) rfl (h := fun vl H9 hvl o9 hE9 => ?_)
  have hold := o.old
  have hX9 := hX.trans hE9
  have hXs9 := hX9.size
  obtain ⟨wb, wc, ws, e1, hwB, hwb, _⟩ := o9.blk (by rw [hvl]; simp)
  subst e1
  simp only [List.length_singleton] at hvl
  have o9s := o9.sl
  have ox := o.ext hE9
  refine go_ (hq := ?_)
  refine call_ (hc := insert_spec ox (by omega) hwb o9s (fun hv => by have := hold wb hv; omega) lb hlb hn) (h := ?_)
  rintro r H10 ⟨n1, hM1, hF1⟩
  simp only [put]
  refine go_ (hq := ?_)
  refine ret1_ (h := ?_)
  refine ⟨n1, ⟨by have := hM1.size; omega, fun k hk hn => ?_⟩, fun k hk => ?_⟩
  · rw [hM1.block k (by omega) hn, hX9.block k hk]
  · rcases hF1 k hk with h | h
    · exact .inl h
    · exact .inr (by omega)
end Go.Proofs.Ytpkigjlnbfgjcaa
