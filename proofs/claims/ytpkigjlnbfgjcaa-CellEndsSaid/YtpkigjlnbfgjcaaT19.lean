/- What the walk asks of slices.SortFunc, out of the library's contract. -/
import Derived.Test.YtpkigjlnbfgjcaaT11
import Derived.Shelf.SlSortCmp.Whole1
import Derived.Test.YtpkigjlnbfgjcaaLaid
namespace Go.Proofs.Ytpkigjlnbfgjcaa
open Go.TM Go.Sort Go.Shelf
open Go.TM.Cell (enc)
set_option maxRecDepth 20000
/-! ### An order of lists -/
theorem cmpI_cases (x y : Int) : (x < y ∧ cmpI x y = -1) ∨ (x = y ∧ cmpI x y = 0) ∨ (y < x ∧ cmpI x y = 1) := by
  unfold cmpI
  by_cases h1 : x < y
  · rw [if_pos h1]; exact .inl ⟨h1, rfl⟩
  · by_cases h2 : y < x
    · rw [if_neg h1, if_pos h2]; exact .inr (.inr ⟨h2, rfl⟩)
    · rw [if_neg h1, if_neg h2]; exact .inr (.inl ⟨by omega, rfl⟩)
theorem cmpL_cons (x y : Int) (a b : List Int) : (x < y ∧ cmpL (x :: a) (y :: b) = -1) ∨ (x = y ∧ cmpL (x :: a) (y :: b) = cmpL a b) ∨ (y < x ∧ cmpL (x :: a) (y :: b) = 1) := by
  simp only [cmpL]
  rcases cmpI_cases x y with ⟨h, e⟩ | ⟨h, e⟩ | ⟨h, e⟩
  · exact .inl ⟨h, by rw [e]; simp⟩
  · exact .inr (.inl ⟨h, by rw [e]; simp⟩)
  · exact .inr (.inr ⟨h, by rw [e]; simp⟩)
theorem cmpL_neg (a : List Int) : ∀ b, cmpL b a = - cmpL a b := by
  induction a with
  | nil => intro b; cases b <;> rfl
  | cons x a ih =>
    intro b
    cases b with
    | nil => rfl
    | cons y b =>
      rcases cmpL_cons x y a b with ⟨h, e⟩ | ⟨h, e⟩ | ⟨h, e⟩ <;> rcases cmpL_cons y x b a with ⟨h', e'⟩ | ⟨h', e'⟩ | ⟨h', e'⟩ <;> first | (exfalso; omega) | (rw [e, e', ih]; done) | (rw [e, e']; done) | (rw [e, e']; rfl)
theorem cmpL_zero (a : List Int) : ∀ b, cmpL a b = 0 → a = b := by
  induction a with
  | nil => intro b h; cases b with | nil => rfl | cons y b => simp [cmpL] at h
  | cons x a ih =>
    intro b h
    cases b with
    | nil => simp [cmpL] at h
    | cons y b =>
      rcases cmpL_cons x y a b with ⟨h1, e⟩ | ⟨h1, e⟩ | ⟨h1, e⟩
      · omega
      · rw [e] at h; rw [h1, ih b h]
      · omega
theorem cmpL_refl (a : List Int) : cmpL a a = 0 := by have := cmpL_neg a a; omega
theorem cmpL_le (a : List Int) : ∀ b c, cmpL a b ≤ 0 → cmpL b c ≤ 0 → cmpL a c ≤ 0 := by
  induction a with
  | nil => intro b c _ _; cases c <;> simp [cmpL]
  | cons x a ih =>
    intro b c h1 h2
    cases b with
    | nil => simp [cmpL] at h1
    | cons y b =>
      cases c with
      | nil => simp [cmpL] at h2
      | cons z c =>
        rcases cmpL_cons x y a b with ⟨h, e⟩ | ⟨h, e⟩ | ⟨h, e⟩ <;> rcases cmpL_cons y z b c with ⟨h', e'⟩ | ⟨h', e'⟩ | ⟨h', e'⟩ <;> rcases cmpL_cons x z a c with ⟨h3, e3⟩ | ⟨h3, e3⟩ | ⟨h3, e3⟩ <;>
          first | (exfalso; omega) | (rw [e3]; omega) | (rw [e3]; exact ih b c (by omega) (by omega))
theorem cmpL_lt (a b c : List Int) (h1 : cmpL a b < 0) (h2 : cmpL b c < 0) : cmpL a c < 0 := by
  have h := cmpL_le a b c (by omega) (by omega)
  rcases Int.lt_or_eq_of_le h with h3 | h3
  · exact h3
  · have := cmpL_zero a c h3
    subst this
    have := cmpL_neg a b
    omega
/-! ### The heap behind the sort -/
theorem like_world {w w' : World} (l : Like w w') (h : Ext w.heap w'.heap) : ∃ q os', w' = grow (w.drewN q) os' := by
  obtain ⟨heap, tape, drawn, os, output⟩ := w
  obtain ⟨heap', tape', drawn', os', output'⟩ := w'
  obtain ⟨h1, h2, h3, h4⟩ := l
  dsimp only at h1 h2 h3 h4 h
  subst h1 h2 h3
  refine ⟨drawn' - drawn, heap'.extract heap.size heap'.size, ?_⟩
  have e1 : heap' = heap ++ heap'.extract heap.size heap'.size := by
    apply Array.ext_getElem?
    intro i
    rw [Array.getElem?_append]
    split
    · rename_i hi; exact h.block i hi
    · rename_i hi
      rw [Array.getElem?_extract]
      split
      · congr 1; omega
      · rw [Array.getElem?_eq_none]; omega
  have e2 : drawn + (drawn' - drawn) = drawn' := by omega
  simp only [grow, World.drewN, World.mk.injEq, e2, and_true, true_and]
  exact e1
variable {α : Type} [Inhabited α]
theorem sort_block {enc : α → Value} {w : World} {g m : Nat} {d : Array α} {os : Array Obj} {cur : Array Value} {el : TypeId} {fr : Nat × Nat} (hg : w.heap[g]? = some (.cells cur el fr)) :
    (sortWorld enc w g 0 m d os).heap[g]? = some (.cells (putCells enc 0 d cur) el fr) := by
  have hlt : g < w.heap.size := (Array.getElem?_eq_some_iff.1 hg).1
  simp only [sortWorld, grow, putRow, mapBlock, heap_ahead]
  rw [Array.getElem?_append_left (by simpa using hlt), Array.getElem?_modify, if_pos rfl, hg]
  rfl
theorem sort_mut {enc : α → Value} {w : World} {g m : Nat} {d : Array α} {os : Array Obj} : Mut (fB g) w.heap (sortWorld enc w g 0 m d os).heap := by
  simp only [sortWorld, grow, putRow, mapBlock, heap_ahead]
  refine ⟨by simp, fun k hk hn => ?_⟩
  rw [Array.getElem?_append_left (by simpa using hk), Array.getElem?_modify, if_neg (fun e => hn e.symm)]
theorem sort_like {enc : α → Value} {w : World} {g m : Nat} {d : Array α} {os : Array Obj} : Like w (sortWorld enc w g 0 m d os) := by
  simp only [sortWorld, grow, putRow, mapBlock, ahead]
  exact ⟨rfl, rfl, rfl, by simp⟩
theorem rows_any {H : Heap} {hs : List Hdr} {ms : List (List Int)} (h : TM.Rows H hs ms) (x : Nat) : SlE H (hs.getD x default).val (ms.getD x []) := by
  by_cases hx : x < ms.length
  · exact h.at_ x hx
  · have h1 : hs.getD x default = default := by rw [List.getD_eq_getElem?_getD, List.getElem?_eq_none (by rw [h.len]; omega)]; rfl
    have h2 : ms.getD x [] = [] := by rw [List.getD_eq_getElem?_getD, List.getElem?_eq_none (by omega)]; rfl
    rw [h1, h2]; exact SlE.nil _
theorem getD_map {β γ : Type} (f : β → γ) (l : List β) (i : Nat) (d : γ) (db : β) (h : i < l.length) : (l.map f).getD i d = f (l.getD i db) := by
  simp [List.getD, h]
theorem flat_hdr (hs : List Hdr) : hs.flatMap enc = hs.map Hdr.val := by
  induction hs with
  | nil => rfl
  | cons h l ih => rw [List.flatMap_cons, ih]; rfl
theorem sort_ok : SortOK := by
  intro H B B' vo hs ms hB o_v o_r hapt hlen
  rcases o_v.2 with ⟨rfl, h0⟩ | ⟨g, cap, cur, rfl, hBg, hg, hnc, hcm, hcs, htake⟩
  · have hh : hs = [] := List.eq_nil_of_length_eq_zero h0
    subst hh
    have hm : ms = [] := List.eq_nil_of_length_eq_zero (by have := o_r.len; simpa using this.symm)
    subst hm
    intro w hw
    subst hw
    refine (Try.slices_SortFunc_none (α := Nat) none 0 _ w).mono ?_
    rintro e w' ⟨rfl, rfl⟩
    exact ⟨_, rfl, Like.refl _, rfl, [], [], o_v, o_r, List.Perm.refl _, List.Pairwise.nil, Mut.refl _ _, fun k h => h⟩
  · intro w hw
    subst hw
    have er : hs.length = ms.length := o_r.len
    have hsz : Cell.sz Hdr = 1 := rfl
    rw [hsz, Nat.mul_one] at hcs htake
    let en : Nat → Value := fun i => (hs.getD i default).val
    let cf : Nat → Nat → Int := fun i j => cmpL (ms.getD i []) (ms.getD j [])
    let d : Array Nat := Array.range hs.length
    have hd : d.size = hs.length := by simp [d]
    have hglt : g < w.heap.size := (Array.getElem?_eq_some_iff.1 hg).1
    have hsep : ∀ k, fR hs k → ¬ fB g k := fun k hk e => hapt k hk (by rw [show k = g from e]; rfl)
    have hO : SWO (ltOf cf) := ⟨fun x => by simp [ltOf, cf, cmpL_refl], fun x y z h1 h2 => by
      simp only [ltOf, cf, decide_eq_true_eq] at h1 h2 ⊢; exact cmpL_lt _ _ _ h1 h2, fun x y z h1 h2 => by
      simp only [ltOf, cf, decide_eq_false_iff_not, Int.not_lt] at h1 h2 ⊢
      have n1 := cmpL_neg (ms.getD x []) (ms.getD y [])
      have n2 := cmpL_neg (ms.getD y []) (ms.getD z [])
      have n3 := cmpL_neg (ms.getD x []) (ms.getD z [])
      have := cmpL_le (ms.getD z []) (ms.getD y []) (ms.getD x []) (by omega) (by omega)
      omega⟩
    have hrows : ∀ H', Mut (fB g) w.heap H' → ROwn H' B' 3 hs ms := fun H' hm => o_r.mutF hm (fun k hk hr => hsep k hr hk)
    have hcmp : CmpLays1 PG 36 #[] en cf g 0 d.size w := by
      intro m os dk _ x y
      have hR := (hrows _ (sort_mut (enc := en) (w := w) (g := g) (m := m) (d := dk) (os := os))).rows
      have hc := compareL_spec (rows_any hR x) (rows_any hR y)
      refine (hc _ rfl).mono ?_
      rintro e w' ⟨v, rfl, l, rfl, hE⟩
      obtain ⟨q, os', he⟩ := like_world l hE
      exact ⟨rfl, q, os', he⟩
    have hH : Holds en w g 0 d := by
      intro j hj
      rw [hd] at hj
      have hjc : j < cur.size := by omega
      have h1 : cur[j]? = some (en j) := by
        have h2 : (cur.toList.take hs.length)[j]? = (hs.flatMap enc)[j]? := by rw [htake]
        rw [List.getElem?_take_of_lt hj] at h2
        have h3 : (hs.flatMap enc)[j]? = some (en j) := by
          rw [flat_hdr]
          simp [en, List.getD, hj]
        rw [h3] at h2
        simpa using h2
      have h4 : d[j]! = j := by simp [d, hj]
      rw [h4]
      refine ⟨?_, ?_⟩
      · simp [World.cell?, hg, h1]
      · simp [World.frozen?, hg]
    have hmain := Any.slices_SortFunc Try.laysSlF6_f35 en (fun x => rfl) cf hO 36 #[] g 0 cap d w (fun args w => TFunc.run (P := PG) (f := 36) args w) hcmp hH hglt (by rw [hd]; omega)
    rw [hd] at hmain
    refine hmain.mono ?_
    rintro e w' ⟨rfl, d', n, os, hperm, hsorted, rfl⟩
    obtain ⟨hps, _, hpm⟩ := hperm
    have hds : d'.size = hs.length := by rw [hps, hd]
    have hpl : d'.toList.Perm (List.range hs.length) := by
      have e1 : d'.extract 0 hs.length = d' := by rw [← hds]; exact Array.extract_size
      have e2 : d.extract 0 hs.length = d := by rw [← hd]; exact Array.extract_size
      rw [e1, e2] at hpm
      simpa [d] using hpm
    have hdl : d'.toList.length = hs.length := by simpa using hds
    have hlt : ∀ i, (h : i < d'.toList.length) → d'.toList[i] < hs.length := fun i h => by
      have := hpl.mem_iff.1 (List.getElem_mem h)
      simpa using this
    have hbang : ∀ i, (h : i < hs.length) → d'[i]! = d'.toList[i]'(by omega) := fun i h => by
      rw [getElem!_pos d' i (by omega)]; simp
    have hms : (List.range hs.length).map (fun j => ms.getD j []) = ms := by
      apply List.ext_getElem?
      intro i
      by_cases hi : i < ms.length
      · simp [List.getD, hi, show i < hs.length by omega]
      · rw [List.getElem?_eq_none (by rw [List.length_map, List.length_range]; omega), List.getElem?_eq_none (by omega)]
    have hblk := sort_block (enc := en) (m := n) (d := d') (os := os) hg
    have hmut : Mut (fB g) w.heap (sortWorld en w g 0 n d' os).heap := sort_mut
    have hro := hrows _ hmut
    refine ⟨_, rfl, sort_like, rfl, d'.toList.map (fun j => hs.getD j default), d'.toList.map (fun j => ms.getD j []), ?_, ?_, ?_, ?_, ?_, ?_⟩
    · refine ⟨flat_length _, .inr ⟨g, cap, putCells en 0 d' cur, by rw [List.length_map, hdl], hBg, hblk, by rw [List.length_map, hdl]; exact hnc, hcm, ?_, ?_⟩⟩
      · rw [hsz, Nat.mul_one]; simpa [putCells] using hcs
      · rw [hsz, Nat.mul_one, flat_hdr]
        apply List.ext_getElem?
        intro i
        by_cases hi : i < hs.length
        · rw [List.getElem?_take_of_lt (by rw [List.length_map, hdl]; exact hi)]
          have hic : i < cur.size := by omega
          have hid : i < d'.size := by omega
          simp [putCells, hic, hid, en, List.getD]
        · rw [List.getElem?_eq_none (by simp; omega), List.getElem?_eq_none (by simp; omega)]
    · refine ⟨by simp, fun i hi => ?_⟩
      have hi' : i < d'.toList.length := by simpa using hi
      rw [getD_map _ _ i _ 0 hi', getD_map _ _ i _ 0 hi']
      have hj := hlt i hi'
      have e : d'.toList.getD i 0 = d'.toList[i] := by rw [List.getD_eq_getElem?_getD, List.getElem?_eq_getElem hi']; rfl
      rw [e]
      exact hro.at_ _ (by omega)
    · have := hpl.map (fun j => ms.getD j [])
      rwa [hms] at this
    · rw [List.pairwise_iff_getElem]
      intro i j hi hj hij
      simp only [List.length_map] at hi hj
      have h1 := hsorted i j (Nat.zero_le _) hij (by omega)
      rw [hbang i (by omega), hbang j (by omega)] at h1
      simp only [ltOf, cf, decide_eq_false_iff_not, Int.not_lt] at h1
      rw [List.getElem_map, List.getElem_map]
      have := cmpL_neg (ms.getD (d'.toList[i]) []) (ms.getD (d'.toList[j]) [])
      omega
    · exact hmut.mono fun k _ hk => by rw [show k = g from hk]; rfl
    · rintro k ⟨h, hm, hk⟩
      obtain ⟨j, hj, rfl⟩ := List.mem_map.1 hm
      have hj' : j < hs.length := by have := hpl.mem_iff.1 hj; simpa using this
      refine ⟨_, ?_, hk⟩
      rw [List.getD_eq_getElem?_getD, List.getElem?_eq_getElem hj']
      exact List.getElem_mem _
end Go.Proofs.Ytpkigjlnbfgjcaa
