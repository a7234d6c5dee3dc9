/- Blocks of a space, sorted. -/
import Derived.Test.YtpkigjlnbfgjcaaU6
import Derived.Shelf.SlSortCmp.WholeK
import Derived.Test.YtpkigjlnbfgjcaaLaidB
namespace Go.Proofs.Ytpkigjlnbfgjcaa
open Go.TM Go.Sort Go.Shelf
open Go.TM.Cell (enc)
set_option maxRecDepth 20000
theorem like_worldB {w w' : World} (l : Like w w') (h : Ext w.heap w'.heap) : ∃ q os', w' = grow (w.drewN q) os' := by
  obtain ⟨heap, tape, drawn, os, output⟩ := w
  obtain ⟨heap', tape', drawn', os', output'⟩ := w'
  obtain ⟨h1, h2, h3, h4⟩ := l
  dsimp only at h1 h2 h3 h4 h
  subst h1 h2 h3
  refine ⟨drawn' - drawn, heap'.extract heap.size heap'.size, ?_⟩
  have e1 : heap' = heap ++ heap'.extract heap.size heap'.size := by
    apply Array.ext_getElem?
    intro i
    rw [Array.getElem?_append]
    split
    · rename_i hi; exact h.block i hi
    · rename_i hi
      rw [Array.getElem?_extract]
      split
      · congr 1; omega
      · rw [Array.getElem?_eq_none]; omega
  have e2 : drawn + (drawn' - drawn) = drawn' := by omega
  simp only [grow, World.drewN, World.mk.injEq, e2, and_true, true_and]
  exact e1
variable {α : Type} [Inhabited α]
theorem sortK_block {w : World} {g m : Nat} {d : Array Value} {os : Array Obj} {cur : Array Value} {el : TypeId} {fr : Nat × Nat} (hg : w.heap[g]? = some (.cells cur el fr)) :
    (grow (putRow id (Sort.ahead w m) g 0 d) os).heap[g]? = some (.cells (putCells id 0 d cur) el fr) := by
  have hlt : g < w.heap.size := (Array.getElem?_eq_some_iff.1 hg).1
  simp only [grow, putRow, mapBlock, heap_ahead]
  rw [Array.getElem?_append_left (by simpa using hlt), Array.getElem?_modify, if_pos rfl, hg]
  rfl
theorem sortK_mut {w : World} {g m : Nat} {d : Array Value} {os : Array Obj} : Mut (fB g) w.heap (grow (putRow id (Sort.ahead w m) g 0 d) os).heap := by
  simp only [grow, putRow, mapBlock, heap_ahead]
  refine ⟨by simp, fun k hk hn => ?_⟩
  rw [Array.getElem?_append_left (by simpa using hk), Array.getElem?_modify, if_neg (fun e => hn e.symm)]
theorem sortK_like {w : World} {g m : Nat} {d : Array Value} {os : Array Obj} : Like w (grow (putRow id (Sort.ahead w m) g 0 d) os) := by
  simp only [grow, putRow, mapBlock, Sort.ahead]
  exact ⟨rfl, rfl, rfl, by simp⟩
theorem flat2_get (l : List BlockD) : ∀ t, t < l.length * 2 → (l.flatMap enc)[t]? = (enc (l.getD (t / 2) default))[t % 2]? := by
  induction l with
  | nil => intro t h; simp at h
  | cons x l ih =>
    intro t h
    rw [List.flatMap_cons, show enc x = [.int .i64 x.start, .int .i64 x.size] from rfl]
    match t, h with
    | 0, _ => rfl
    | 1, _ => rfl
    | t + 2, h =>
      have := ih t (by simp at h; omega)
      rw [show (t + 2) / 2 = t / 2 + 1 by omega, show (t + 2) % 2 = t % 2 by omega]
      simpa using this
theorem flat2_flatK (l : List BlockD) : (flatK enc 2 l.toArray).toList = l.flatMap enc := by
  apply List.ext_getElem?
  intro t
  by_cases ht : t < l.length * 2
  · rw [flat2_get l t ht]
    have h1 := get_flatK enc 2 l.toArray t (by simpa using ht)
    have hs : t < (flatK enc 2 l.toArray).size := by simpa using ht
    rw [getElem!_pos _ t hs] at h1
    have e1 : (flatK enc 2 l.toArray).toList[t]? = some ((flatK enc 2 l.toArray)[t]) := by simp [hs]
    rw [e1, h1]
    have hx : l.toArray[t / 2]! = l.getD (t / 2) default := by
      rw [getElem!_pos _ _ (by simp; omega)]
      simp [List.getD, show t / 2 < l.length by omega]
    rw [hx]
    have hl : t % 2 < (enc (l.getD (t / 2) default) : List Value).length := by
      show t % 2 < 2
      omega
    rw [getElem!_pos (enc (l.getD (t / 2) default) : List Value) (t % 2) hl, List.getElem?_eq_getElem hl]
  · have hl : (l.flatMap enc).length ≤ t := by have := flat_length l; rw [this]; show l.length * 2 ≤ t; omega
    rw [List.getElem?_eq_none hl, List.getElem?_eq_none (by simp; omega)]
theorem sortB_spec {H : Heap} {B : Nat} {v : Value} {l : List BlockD} (o : TM.Own H B 51 v l) (hn : l.length ≤ 1000000) :
    CallsH PG 73 #[v, .func (.func 50) #[] #[]] H fun r H' => r = .tuple #[] ∧ ∃ l' : List BlockD, TM.Own H' B 51 v l' ∧ l'.Perm l ∧ l'.Pairwise (fun a b => a.start ≤ b.start) ∧ Mut (fO v) H H' := by
  rcases o.2 with ⟨rfl, h0⟩ | ⟨g, cap, cur, rfl, hBg, hg, hnc, hcm, hcs, htake⟩
  · have hh : l = [] := List.eq_nil_of_length_eq_zero h0
    subst hh
    intro w hw
    subst hw
    refine (Try.slices_SortFunc_none_f73 (α := Nat) none 0 _ w).mono ?_
    rintro e w' ⟨rfl, rfl⟩
    exact ⟨_, rfl, Like.refl _, rfl, [], o, List.Perm.refl _, List.Pairwise.nil, Mut.refl _ _⟩
  · intro w hw
    subst hw
    have hsz : Cell.sz BlockD = 2 := rfl
    rw [hsz] at hcs htake
    let cf : BlockD → BlockD → Int := fun x y => cmpI x.start y.start
    have hd : l.toArray.size = l.length := by simp
    have hglt : g < w.heap.size := (Array.getElem?_eq_some_iff.1 hg).1
    have hO : SWO (ltOf cf) := ⟨fun x => by simp only [ltOf, cf, cmpI_lt, decide_eq_false_iff_not]; omega, fun x y z h1 h2 => by
      simp only [ltOf, cf, decide_eq_true_eq, cmpI_lt] at h1 h2 ⊢; omega, fun x y z h1 h2 => by
      simp only [ltOf, cf, decide_eq_false_iff_not, cmpI_lt] at h1 h2 ⊢; omega⟩
    have hcmp : CmpLays PG 50 #[] enc 2 cf g 0 l.toArray.size w := by
      intro m os dk _ x y
      refine (byStart_spec x y _ rfl).mono ?_
      rintro e w' ⟨v, rfl, l, rfl, hE⟩
      obtain ⟨q, os', he⟩ := like_worldB l hE
      exact ⟨rfl, q, os', he⟩
    have hH : HoldsK enc 2 w g 0 l.toArray := by
      intro j hj
      rw [size_flatK, hd] at hj
      have hjc : j < cur.size := by have : l.length * 2 ≤ cap * 2 := by omega
                                    omega
      have h1 : cur[j]? = some (flatK enc 2 l.toArray)[j]! := by
        have h2 : (cur.toList.take (l.length * 2))[j]? = (l.flatMap enc)[j]? := by rw [htake]
        rw [List.getElem?_take_of_lt hj, ← flat2_flatK] at h2
        have hs : j < (flatK enc 2 l.toArray).size := by simpa using hj
        rw [getElem!_pos _ j hs]
        simp only [Array.getElem?_toList] at h2
        rw [h2, Array.getElem?_eq_getElem hs]
      refine ⟨?_, ?_⟩
      · simp [World.cell?, hg, h1]
      · simp [World.frozen?, hg]
    have hmain := Try.slices_SortFunc_f73 2 (fun w => rfl) (fun w => rfl) enc (fun x => rfl) (fun x => Cell.one x) cf hO 50 #[] g 0 cap l.toArray w (fun args w => TFunc.run (P := PG) (f := 50) args w) hcmp hH hglt (by rw [hd]; omega)
    rw [hd] at hmain
    refine hmain.mono ?_
    rintro e w' ⟨rfl, d', n, os, hperm, hsorted, rfl⟩
    obtain ⟨hps, _, hpm⟩ := hperm
    have hds : d'.size = l.length := by rw [hps, hd]
    have hpl : d'.toList.Perm l := by
      have e1 : d'.extract 0 l.length = d' := by rw [← hds]; exact Array.extract_size
      have e2 : l.toArray.extract 0 l.length = l.toArray := by rw [← hd]; exact Array.extract_size
      rw [e1, e2] at hpm
      simpa using hpm
    have hdl : d'.toList.length = l.length := by simpa using hds
    have hbang : ∀ i, (h : i < l.length) → d'[i]! = d'.toList[i]'(by omega) := fun i h => by
      rw [getElem!_pos d' i (by omega)]; simp
    have hfl := flat2_flatK d'.toList
    rw [Array.toArray_toList] at hfl
    refine ⟨_, rfl, sortK_like, rfl, d'.toList, ?_, hpl, ?_, sortK_mut.mono fun k _ hk => by rw [show k = g from hk]; rfl⟩
    · refine ⟨flat_length _, .inr ⟨g, cap, putCells id 0 (flatK enc 2 d') cur, by rw [hdl], hBg, sortK_block hg, by rw [hdl]; exact hnc, hcm, ?_, ?_⟩⟩
      · rw [hsz]; simpa [putCells] using hcs
      · rw [hsz, hdl, ← hfl]
        apply List.ext_getElem?
        intro i
        by_cases hi : i < l.length * 2
        · rw [List.getElem?_take_of_lt hi]
          have hic : i < cur.size := by have : l.length * 2 ≤ cap * 2 := by omega
                                        omega
          have hid : i < (flatK enc 2 d').size := by rw [size_flatK, hds]; exact hi
          simp only [putCells, Array.toList_mapIdx, List.getElem?_mapIdx, Nat.zero_le, Nat.zero_add, true_and, hid, if_true, Nat.sub_zero, id]
          rw [getElem!_pos _ i hid]
          simp [hic, hid]
        · rw [List.getElem?_eq_none (by simp; omega), List.getElem?_eq_none (by simp; omega)]
    · rw [List.pairwise_iff_getElem]
      intro i j hi hj hij
      have h1 := hsorted i j (Nat.zero_le _) hij (by omega)
      rw [hbang i (by omega), hbang j (by omega)] at h1
      simp only [ltOf, cf, decide_eq_false_iff_not, cmpI_lt] at h1
      omega
end Go.Proofs.Ytpkigjlnbfgjcaa
