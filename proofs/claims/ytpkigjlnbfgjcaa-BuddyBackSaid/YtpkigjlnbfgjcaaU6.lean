/- AppendSeq over a row's iterator. -/
import Derived.Test.YtpkigjlnbfgjcaaU5
namespace Go.Proofs.Ytpkigjlnbfgjcaa
open Go.TM
open Go.TM.Cell (enc)
set_option maxRecDepth 20000
variable {H : Heap}
theorem appendSeq_spec {bs : Nat} {a : Value} {l : List BlockD} (hbs : Blk H bs 39 [a]) (hsl : SlE H a l) (hn : l.length ≤ 1000000) :
    CallsH PG 96 #[.slice none 0 0, .func (.func 74) #[] #[.pointer (some ⟨bs, 0, none⟩)]] H fun v H' => Own H' H.size 51 v l ∧ Ext H H' := by
  refine callsH_of_marks (args := [.slice none 0 0, .func (.func 74) #[] #[.pointer (some ⟨bs, 0, none⟩)]]) rfl Try.func96 rfl ?_
  intro a0 w0 hag0 hd0 hw0
  obtain ⟨Qf, hQf⟩ : ∃ Qf, Qf = (bodyPostM (Wide none) 1 PG Try.f96 fun e w' => ∃ v, e = .returned v ∧ Like w0 w' ∧ (Own w'.heap H.size 51 v l ∧ Ext H w'.heap)) := ⟨_, rfl⟩
  rw [← hQf]
  refine wpIn_seq (region_in (r := none) (N := 13) (K := fun ρ' H' => ∃ b, holds [(0, .slice none 0 0), (1, .func (.func 74) #[] #[.pointer (some ⟨bs, 0, none⟩)]), (2, .pointer (some ⟨b, 0, none⟩)), (4, .slice none 0 0)] ρ' ∧ Ext H H' ∧ H.size ≤ b ∧ Blk H' b 39 [.slice none 0 0]) rfl rfl hag0 ?_ ?_)
  · rw [hw0]
    have hX := Ext.refl H
    have hXs := hX.size
    simp only [initF]
    refine box_ (h := fun b H1 hE1 hge_b hB_b => ?_)
    have hf_hB_b : Frs H (fB b) := Frs.mono (Frs.blk hge_b) hXs
    replace hX := hX.trans hE1
    replace hXs := hX.size
    refine go_ (hq := ?_)
    exact ⟨b, hold_, hX, hge_b, hB_b⟩
  rintro ρ1 a1 w1 hag1 hd1 hl1 ⟨b, hs1, hX1, hgb, hB1⟩
  have hd1' : a1.defers = [] := hd1.trans hd0
  refine wpIn_seq (wpIn_seq (region_in (r := none) (N := 13) (K := fun ρ' H' => holds [(0, .slice none 0 0), (1, .func (.func 74) #[] #[.pointer (some ⟨bs, 0, none⟩)]), (2, .pointer (some ⟨b, 0, none⟩)), (4, .slice none 0 0), (6, .func (.func 74) #[] #[.pointer (some ⟨bs, 0, none⟩)])] ρ' ∧ H' = w1.heap) rfl rfl hag1 ?_ ?_))
  · rw [← over_eq _ _ hs1]
    refine go_ (hq := ?_)
    exact ⟨hold_, rfl⟩
  rintro ρ2 a2 w2 hag2 hd2 hl2 ⟨hs2, hw2⟩
  rw [← hw2] at hX1 hB1
  replace hd2 := hd2.trans hd1'
  have hlt1 := hB1.lt
  obtain ⟨D, hD⟩ : ∃ D, D = w2.heap.size := ⟨_, rfl⟩
  refine wpIn_block (wpIn_rangeH (f := 74) (cap := #[.pointer (some ⟨bs, 0, none⟩)]) (by rw [hag2.eval, ← over_eq _ _ hs2]; exact lg_)
    (fun _ pe H' => pe = none ∧ Ext H H' ∧ H'[D]? = some (.deferred (some [])) ∧ ∃ v, Blk H' b 39 [v] ∧ Own H' H.size 51 v l ∧ ¬ fO v b ∧ ¬ fO v (D + 1) ∧ ¬ fO v D) ?_ ?_)
  · intro fn
    rw [← hD] at hlt1 ⊢
    generalize hrec : (recOf fn a2.tmps _ _ _ D) = rec
    obtain ⟨H3, hH3⟩ : ∃ H3, H3 = (w2.heap.push (.deferred (some []))).push (.loop (rec .ready none)) := ⟨_, rfl⟩
    obtain ⟨hs3, hX3, hD3, hL3⟩ := push2 w2.heap (.deferred (some [])) (.loop (rec .ready none))
    rw [← hH3, ← hD] at hs3 hD3 hL3
    rw [← hH3] at hX3
    rw [← hH3]
    refine (values1_spec (bs := bs) (a := a) (l := l) (L := D + 1) (fun s H' => Ext H H' ∧ H'[D + 1]? = some (.loop (rec .ready none)) ∧ H'[D]? = some (.deferred (some [])) ∧ ∃ v, Blk H' b 39 [v] ∧ Own H' H.size 51 v s ∧ ¬ fO v b ∧ ¬ fO v (D + 1) ∧ ¬ fO v D) ?_ ?_ hn ?_ ?_).mono ?_
    · rintro s H' ⟨hX, _⟩
      exact ⟨hbs.ext hX, hsl.ext hX⟩
    · rintro s H' H'' ⟨hX, h1, h2, v, h3, h4, h5⟩ hE
      exact ⟨hX.trans hE, hE.some h1, hE.some h2, v, h3.ext hE, h4.ext hE, h5⟩
    · rintro s x H' ⟨hX, h1, h2, v, h3, h4, h5, h6, h7⟩ hlen
      refine yield_in h1 (by rw [← hrec]; rfl) (by rw [← hrec]; rfl) (by rw [← hrec]; rfl) ?_
      intro w hw
      rw [← hrec]
      simp only [recOf]
      obtain ⟨ρ3, hρ3⟩ : ∃ ρ3, ρ3 = upd (over [(0, .slice none 0 0), (1, .func (.func 74) #[] #[.pointer (some ⟨bs, 0, none⟩)]), (2, .pointer (some ⟨b, 0, none⟩)), (4, .slice none 0 0), (6, .func (.func 74) #[] #[.pointer (some ⟨bs, 0, none⟩)])] ρ2) 7 x.val := ⟨_, rfl⟩
      have hag3 : AgD 13 ρ3 { tmps := (#[7].zip #[x.val]).foldl (fun tmps (t, a) => tmps.setIfInBounds t a) a2.tmps, defers := [] } := by
        have := (show AgD 13 ρ2 { tmps := a2.tmps, defers := [] } from hag2).put (v := x.val) (d := some 7) (fun i hi => by cases hi; decide)
        rw [hρ3, over_eq _ _ hs2]
        simpa [Act.put, put] using this
      refine region_in (r := some (D + 1)) (N := 13) (K := fun ρ' H'' => ∃ bv, holds [(2, .pointer (some ⟨b, 0, none⟩)), (5, .pointer (some ⟨bv, 0, none⟩))] ρ' ∧ Ext H' H'' ∧ H'.size ≤ bv ∧ Blk H'' bv 51 [.int .i64 x.start, .int .i64 x.size]) rfl rfl hag3 ?_ ?_
      · rw [hw, hρ3]
        have hX := Ext.refl H'
        have hXs := hX.size
        refine go_ (hq := ?_)
        refine st_alloc fun bv H5 hE5 hge_bv hB_bv => ?_
        have hf_hB_bv : Frs H' (fB bv) := Frs.mono (Frs.blk hge_bv) hXs
        replace hX := hX.trans hE5
        replace hXs := hX.size
        refine go_ (hq := ?_)
        refine store_ hB_bv (h := fun H7 hM7 hsz7 hB_bv => ?_)
        replace hX := hX.mut hM7 hf_hB_bv
        replace hXs := hX.size
        refine go_ (hq := ?_)
        exact ⟨bv, hold_, hX, hge_bv, hB_bv⟩
      · rintro ρ4 a4 w4 hag4 hd4 hl4 ⟨bv, hs4, hX4, hge4, hB4⟩
        have hL4 := hX4.some h1
        refine ⟨rfl, by rw [← hrec] at hL4; exact hL4, hl4, ?_⟩
        have hDlt : D + 1 < H'.size := (Array.getElem?_eq_some_iff.1 h1).1
        have hXb := hX1.size
        rw [← hD] at hXb
        generalize hbz : (Obj.loop _) = bz
        have hM5 := mut_putObj w4 (D + 1) bz
        have hl5 := like_putObj w4 (D + 1) bz
        have hL5 : (w4.putObj (D + 1) bz).heap[D + 1]? = some bz := World.putObj_heap_same (by have := hX4.size; omega)
        generalize (w4.putObj (D + 1) bz) = w5 at hM5 hl5 hL5 ⊢
        have hB5 : Blk w5.heap bv 51 [.int .i64 x.start, .int .i64 x.size] := hB4.mut hM5 (fun e => by have e : bv = D + 1 := e; omega)
        have hb5 : Blk w5.heap b 39 [v] := (h3.ext hX4).mut hM5 (fun e => by have e : b = D + 1 := e; omega)
        have ho5 : Own w5.heap H.size 51 v s := (h4.ext hX4).mut hM5 (fun k hk e => h6 (by have e : k = D + 1 := e; rw [← e]; exact hk))
        have hD5 := hM5.some (hX4.some h2) (fun e => by have e : D = D + 1 := e; omega)
        have hX5 := hM5.exts (hX.trans hX4) (fun k e => by have e : k = D + 1 := e; omega)
        refine wpIn_block (region_in (r := some (D + 1)) (N := 13) (K := fun ρ' H'' => Ext H H'' ∧ H''[D + 1]? = some bz ∧ H''[D]? = some (.deferred (some [])) ∧ ∃ v', Blk H'' b 39 [v'] ∧ Own H'' H.size 51 v' (s ++ [x]) ∧ ¬ fO v' b ∧ ¬ fO v' (D + 1) ∧ ¬ fO v' D) rfl rfl hag4 ?_ ?_)
        · rw [← over_eq _ _ hs4]
          refine go_ (hq := ?_)
          refine lit_ [x] (h := fun v1 H6 n6 hE6 hN6 => ?_)
          have hs6 := hE6.size
          have hs5 := hX5.size
          have hlt5 := hb5.lt
          have hlt6 : D + 1 < w5.heap.size := (Array.getElem?_eq_some_iff.1 hL5).1
          refine go_ (hq := ?_)
          refine append_ (ho5.ext hE6) n6.sl (h := fun v7 H7 n7 hM7 hF7 hN7 => ?_)
          have hb7 := (hb5.ext hE6).mut hM7 h5
          refine go_ (hq := ?_)
          obtain ⟨x7, m7, c7, e7⟩ : ∃ a m c, v7 = .slice a m c := by
            rcases n7.2 with ⟨e, _⟩ | ⟨g, c, _, e, _⟩
            · exact ⟨_, _, _, e⟩
            · exact ⟨_, _, _, e⟩
          subst e7
          refine store_ hb7 (h := fun H8 hM8 hsz8 hB8 => ?_)
          refine go_ (hq := ?_)
          have k1 : ∀ k, k < w5.heap.size → ¬ fO v k → ¬ fO (.slice x7 m7 c7) k := fun k hk hn h => (hF7 k h).elim hn (fun h => by omega)
          have hb8 : ¬ fO (.slice x7 m7 c7) b := k1 b hlt5 h5
          refine ⟨hM8.exts (hM7.exts (hX5.trans hE6) (fun k hk => (ho5.lt k hk).1)) (fun k e => by have e : k = b := e; omega), hM8.some (hM7.some (hE6.some hL5) h6) (fun e => by have e : D + 1 = b := e; omega), hM8.some (hM7.some (hE6.some hD5) h7) (fun e => by have e : D = b := e; omega), .slice x7 m7 c7, hB8, n7.mut hM8 (fun k hk e => hb8 (by have e : k = b := e; rw [← e]; exact hk)), hb8, k1 _ hlt6 h6, k1 _ (by omega) h7⟩
        · rintro ρ5 a5 w6 hag5 hd5 hl6 ⟨q1, q2, q3, v', q4, q5, q6, q7, q8⟩
          have hM9 := mut_set w6.heap (D + 1) (.loop (rec .ready none))
          refine ⟨rfl, (hl4.trans hl5).trans hl6, by rw [q2, ← hbz], ?_⟩
          rw [show ({ state := LoopState.ready, pending := none, fn := fn, tmps := a2.tmps, params := _, assign := _, body := _, defers := D } : Loop) = rec .ready none from by rw [← hrec]; rfl]
          exact ⟨trivial, hM9.exts q1 (fun k e => by have e : k = D + 1 := e; omega), by simp [(Array.getElem?_eq_some_iff.1 q2).1], hM9.some q3 (fun e => by have e : D = D + 1 := e; omega), v', q4.mut hM9 (fun e => by have e : b = D + 1 := e; omega), q5.mut hM9 (fun k hk e => q7 (by have e : k = D + 1 := e; rw [← e]; exact hk)), q6, q7, q8⟩
    · exact ⟨hX1.trans hX3, hL3, hD3, _, hB1.ext hX3, Own.nil _ _ _, (fun h => by cases h), (fun h => by cases h), (fun h => by cases h)⟩
    · rintro _ H' ⟨hX, h1, h2, h3⟩
      exact ⟨.ready, none, by simp, h1, rfl, hX, h2, h3⟩
  · rintro fn pe st w' ⟨rfl, hX, h2, v, h3, h4, h5, h6, h7⟩ hL hlk
    dsimp only
    have hDlt : D + 1 < w'.heap.size := by rw [← hD] at hL; exact (Array.getElem?_eq_some_iff.1 hL).1
    have hXb := hX1.size
    rw [← hD] at hXb ⊢
    generalize hbz : (Obj.loop _) = bz
    have hM5 := mut_putObj w' (D + 1) bz
    have hl5 := like_putObj w' (D + 1) bz
    generalize (w'.putObj (D + 1) bz) = w5 at hM5 hl5 ⊢
    have hb5 : Blk w5.heap b 39 [v] := h3.mut hM5 (fun e => by have e : b = D + 1 := e; omega)
    have ho5 : Own w5.heap H.size 51 v l := h4.mut hM5 (fun k hk e => h6 (by have e : k = D + 1 := e; rw [← e]; exact hk))
    have hD5 := hM5.some h2 (fun e => by have e : D = D + 1 := e; omega)
    have hX5 := hM5.exts hX (fun k e => by have e : k = D + 1 := e; omega)
    show Code.wpIn _ _ _ _ _ _ _
    refine wpIn_seq (region_in (r := none) (N := 13) (K := fun ρ' H'' => ρ' 4 = v ∧ H'' = w5.heap) rfl rfl (ρ := ρ2) (a := { tmps := a2.tmps, defers := _ }) hag2 ?_ ?_)
    · rw [← over_eq _ _ hs2]
      refine go_ (hq := ?_)
      exact ⟨at_, rfl⟩
    · rintro ρ6 a6 w6 hag6 hd6 hl6 ⟨r1, r2⟩
      refine wpIn_ret ?_
      rw [hQf]
      show LeavesInM _ _ _ _ _ _ a6.defers _ _
      rw [hd6]
      show LeavesInM _ _ _ _ _ _ ({ target := .collected D, args := #[] } :: a2.defers) _ _
      rw [hd2]
      have hD6 : w6.heap[D]? = some (.deferred (some [])) := by rw [r2]; exact hD5
      refine ⟨by simp, .inl ⟨_, _, rfl, run_takeDeferred hD6, v, ?_, v, rfl, ?_, ?_⟩⟩
      · rw [results_tmp rfl]
        rw [← r1, ← hag6.at_ 4]
      · exact (((hl1.trans hl2).trans hlk).trans (hl5.trans hl6)).trans (like_putObj _ _ _)
      · have hM7 := mut_putObj w6 D (.deferred none)
        rw [r2] at hM7
        exact ⟨ho5.mut hM7 (fun k hk e => h7 (by have e : k = D := e; rw [← e]; exact hk)), hM7.exts hX5 (fun k e => by have e : k = D := e; omega)⟩
end Go.Proofs.Ytpkigjlnbfgjcaa
