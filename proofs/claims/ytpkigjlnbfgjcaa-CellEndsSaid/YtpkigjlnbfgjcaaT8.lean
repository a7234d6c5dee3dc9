/- cell.Ends' inner function. -/
import Derived.Test.YtpkigjlnbfgjcaaT7
namespace Go.Proofs.Ytpkigjlnbfgjcaa
open Go.TM
open Go.TM.Cell (enc)
set_option maxRecDepth 20000
variable {H H' H₀ : Heap}
def nextM (xss : List (List OpD)) (m at_ : List Int) (p : Nat) : List Int :=
  let o := (xss.getD p []).getD (at_.getD p 0).toNat default
  m.set o.at_.toNat (opDone (m.getD o.at_.toNat 0) o).1
def nextA (at_ : List Int) (p : Nat) : List Int := at_.set p (at_.getD p 0 + 1)
def atEnd (xss : List (List OpD)) (at_ : List Int) (p : Nat) : Bool := decide (at_.getD p 0 = ((xss.getD p []).length : Int))
abbrev St := List StrK × List (List Int)
def keyS (m a : List Int) : StrK := ⟨keyOf m a⟩
/-- Runs from a state on, each state once. -/
def play (xss : List (List OpD)) : Nat → List Int → List Int → St → St
  | 0, _, _, s => s
  | n + 1, m, a, s => if keyS m a ∈ s.1 then s else
      let s' := (List.range xss.length).foldl (fun s p => if atEnd xss a p then s else play xss n (nextM xss m a p) (nextA a p) s) (keyS m a :: s.1, s.2)
      if (List.range xss.length).all (atEnd xss a) then (s'.1, s'.2 ++ [m]) else s'
def playStep (xss : List (List OpD)) (n : Nat) (m a : List Int) (s : St) (p : Nat) : St := if atEnd xss a p then s else play xss n (nextM xss m a p) (nextA a p) s
theorem play_succ (xss : List (List OpD)) (n : Nat) (m a : List Int) (s : St) : play xss (n + 1) m a s = if keyS m a ∈ s.1 then s else
      let s' := (List.range xss.length).foldl (playStep xss n m a) (keyS m a :: s.1, s.2)
      if (List.range xss.length).all (atEnd xss a) then (s'.1, s'.2 ++ [m]) else s' := rfl
/-- How many ops are left. -/
def remOf (xss : List (List OpD)) (a : List Int) : Int := (xss.map fun l => (l.length : Int)).sum - a.sum
/-- A place that ops may be at. -/
structure Fit (xss : List (List OpD)) (M : Nat) (m a : List Int) : Prop where
  fm : m.length = M
  fa : a.length = xss.length
  at_ : ∀ p, p < xss.length → 0 ≤ a.getD p 0 ∧ a.getD p 0 ≤ ((xss.getD p []).length : Int)
structure Fine (xss : List (List OpD)) (M : Nat) : Prop where
  num : xss.length ≤ 4
  big : M ≤ 17592186044000
  len : ∀ p, p < xss.length → (xss.getD p []).length ≤ 5000
  op : ∀ p, p < xss.length → ∀ i, i < (xss.getD p []).length → let o := (xss.getD p []).getD i default; (1 ≤ o.kind ∧ o.kind ≤ 5) ∧ 0 ≤ o.at_ ∧ o.at_ < M
theorem sum_set (l : List Int) (i : Nat) (x : Int) (h : i < l.length) : (l.set i x).sum = l.sum - l.getD i 0 + x := by
  induction l generalizing i with
  | nil => simp at h
  | cons y l ih =>
    cases i with
    | zero => simp; omega
    | succ i => simp at h; have := ih i h; simp only [List.set_cons_succ, List.sum_cons, List.getD_cons_succ, this]; omega
theorem remOf_next {xss : List (List OpD)} {M : Nat} {m a : List Int} (h : Fit xss M m a) (p : Nat) (hp : p < xss.length) : remOf xss (nextA a p) = remOf xss a - 1 := by
  unfold remOf nextA
  rw [sum_set _ _ _ (by rw [h.fa]; exact hp)]; omega
theorem Fit.next {xss : List (List OpD)} {M : Nat} {m a : List Int} (h : Fit xss M m a) (p : Nat) (hp : p < xss.length) (hn : atEnd xss a p = false) : Fit xss M (nextM xss m a p) (nextA a p) := by
  refine ⟨by simp [nextM, h.fm], by simp [nextA, h.fa], fun q hq => ?_⟩
  have h1 := h.at_ q hq
  have h2 := h.at_ p hp
  simp only [atEnd, decide_eq_false_iff_not] at hn
  unfold nextA
  by_cases hpq : p = q
  · subst hpq
    have : (a.set p (a.getD p 0 + 1)).getD p 0 = a.getD p 0 + 1 := by
      rw [List.getD_eq_getElem?_getD, List.getElem?_set_self (by rw [h.fa]; exact hp)]; rfl
    rw [this]; omega
  · have : (a.set p (a.getD p 0 + 1)).getD q 0 = a.getD q 0 := by
      rw [List.getD_eq_getElem?_getD, List.getElem?_set_ne hpq, List.getD_eq_getElem?_getD]
    rw [this]; exact h1
/-- The map of what was had. -/
def fV (V : List StrK) : StrK → Option Value := fun k => if k ∈ V then some (.int .i64 1) else none
theorem fV_cons (V : List StrK) (s : StrK) : (fun k' : StrK => if k' = s then some (.int .i64 1) else fV V k') = fV (s :: V) := by
  funext k
  simp only [fV, List.mem_cons]
  by_cases h : k = s <;> simp [h]
/-- The five blocks that stay. -/
def FX (bh bt bp bo r : Nat) : Nat → Prop := fun k => k = bh ∨ k = bt ∨ k = bp ∨ k = bo ∨ k = r
structure PI (H₀ H : Heap) (bh bt bp bo r : Nat) (tv vo : Value) (hs : List Hdr) (ms : List (List Int)) (V : List StrK) : Prop where
  xe : Ext H₀ H
  frr : H₀.size ≤ r
  fro : H₀.size ≤ bo
  xbh : Blk H bh 63 [.map (some r)]
  mp : MapF H r (fV V)
  xbt : Blk H bt 23 [tv]
  xbp : Blk H bp 64 [.func (.func 31) #[] #[.pointer (some ⟨bh, 0, none⟩), .pointer (some ⟨bt, 0, none⟩), .pointer (some ⟨bp, 0, none⟩), .pointer (some ⟨bo, 0, none⟩)]]
  xbo : Blk H bo 26 [vo]
  ov : Own H H₀.size 22 vo hs
  rw_ : ROwn H H₀.size 3 hs ms
  d1 : bh ≠ r ∧ bt ≠ r ∧ bp ≠ r ∧ bo ≠ r ∧ bh ≠ bo ∧ bt ≠ bo ∧ bp ≠ bo
  sv : Apt (fO vo) (FX bh bt bp bo r)
  sr : Apt (fR hs) (FX bh bt bp bo r)
  srv : Apt (fR hs) (fO vo)
variable {bh bt bp bo r : Nat} {tv vo : Value} {hs : List Hdr} {ms : List (List Int)} {V : List StrK}
theorem PI.ext (h : PI H₀ H bh bt bp bo r tv vo hs ms V) (he : Ext H H') : PI H₀ H' bh bt bp bo r tv vo hs ms V :=
  ⟨h.xe.trans he, h.frr, h.fro, h.xbh.ext he, h.mp.ext he, h.xbt.ext he, h.xbp.ext he, h.xbo.ext he, h.ov.ext he, h.rw_.ext he, h.d1, h.sv, h.sr, h.srv⟩
theorem PI.oldFX (h : PI H₀ H bh bt bp bo r tv vo hs ms V) : Old H (FX bh bt bp bo r) := fun k hk => by
  rcases hk with rfl | rfl | rfl | rfl | rfl
  · exact h.xbh.lt
  · exact h.xbt.lt
  · exact h.xbp.lt
  · exact h.xbo.lt
  · exact h.mp.lt
theorem PI.put (h : PI H₀ H bh bt bp bo r tv vo hs ms V) {V' : List StrK} (hm : Mut (fB r) H H') (hp : MapF H' r (fV V')) : PI H₀ H' bh bt bp bo r tv vo hs ms V' := by
  obtain ⟨h1, h2, h3, h4, h5, h6, h7⟩ := h.d1
  have hne : ∀ b, b ≠ r → ¬ fB r b := fun b hb e => hb e
  refine ⟨h.xe.mut hm (fun k hk => by rw [show k = r from hk]; exact h.frr), h.frr, h.fro, h.xbh.mut hm (hne _ h1), hp, h.xbt.mut hm (hne _ h2), h.xbp.mut hm (hne _ h3), h.xbo.mut hm (hne _ h4),
    h.ov.mutF hm (fun k hk hv => h.sv k hv (.inr (.inr (.inr (.inr hk))))), h.rw_.mutF hm (fun k hk hv => h.sr k hv (.inr (.inr (.inr (.inr hk))))), h.d1, h.sv, h.sr, h.srv⟩
theorem Mut.trans' {S S1 : Nat → Prop} {A B C : Heap} (h : Mut S A B) (k : Mut S1 B C) (hs : ∀ i, i < A.size → S1 i → S i) : Mut S A C :=
  ⟨Nat.le_trans h.size k.size, fun i hi hn => (k.block i (Nat.lt_of_lt_of_le hi h.size) fun h1 => hn (hs i hi h1)).trans (h.block i hi hn)⟩
theorem PI.push {H5 H6 : Heap} {v2 : Value} {hdm : Hdr} {m : List Int} (h : PI H₀ H bh bt bp bo r tv vo hs ms V) (hm5 : Mut (fO vo) H H5) (n5 : Own H5 H₀.size 22 v2 (hs ++ [hdm])) (hF5 : ∀ k, v2.ownBlock = some k → vo.ownBlock = some k ∨ H.size ≤ k)
    (hm6 : Mut (fB bo) H5 H6) (xbo6 : Blk H6 bo 26 [v2]) (om : Own H H₀.size 3 hdm.val m) (am : Apt (fO hdm.val) (FX bh bt bp bo r)) (amv : Apt (fO hdm.val) (fO vo)) : PI H₀ H6 bh bt bp bo r tv v2 (hs ++ [hdm]) (ms ++ [m]) V := by
  obtain ⟨h1, h2, h3, h4, h5, h6, h7⟩ := h.d1
  have nv : ∀ b, FX bh bt bp bo r b → ¬ fO vo b := fun b hb hv => h.sv b hv hb
  have nb : ∀ b, b ≠ bo → ¬ fB bo b := fun b hb e => hb e
  have sv2 : Apt (fO v2) (FX bh bt bp bo r) := h.sv.app hF5 h.oldFX
  have hfr : ∀ k, fR (hs ++ [hdm]) k → fR hs k ∨ fO hdm.val k := by
    rintro k ⟨x, hx, hk⟩
    rcases List.mem_append.1 hx with h | h
    · exact .inl ⟨x, h, hk⟩
    · rw [List.mem_singleton] at h; subst h; exact .inr hk
  refine ⟨(h.xe.mut hm5 (h.ov.frs (Nat.le_refl _))).mut hm6 (fun k hk => by rw [show k = bo from hk]; exact h.fro), h.frr, h.fro, (h.xbh.mut hm5 (nv _ (.inl rfl))).mut hm6 (nb _ h5), (h.mp.mut hm5 (nv _ (.inr (.inr (.inr (.inr rfl)))))).mut hm6 (nb _ (Ne.symm h4)),
    (h.xbt.mut hm5 (nv _ (.inr (.inl rfl)))).mut hm6 (nb _ h6), (h.xbp.mut hm5 (nv _ (.inr (.inr (.inl rfl))))).mut hm6 (nb _ h7), xbo6,
    n5.mutF hm6 (fun k hk hv => sv2 k hv (.inr (.inr (.inr (.inl hk))))), ?_, h.d1, sv2, ?_, ?_⟩
  · refine ROwn.append ((h.rw_.mutF hm5 h.srv.symm).mutF hm6 (fun k hk hv => h.sr k hv (.inr (.inr (.inr (.inl hk)))))) (ROwn.one ((om.mutF hm5 amv.symm).mutF hm6 (fun k hk hv => am k hv (.inr (.inr (.inr (.inl hk)))))))
  · intro k hk hx
    rcases hfr k hk with h1 | h1
    · exact h.sr k h1 hx
    · exact am k h1 hx
  · intro k hk hx
    rcases hF5 k hx with hv | hv
    · rcases hfr k hk with h1 | h1
      · exact h.srv k h1 hv
      · exact amv k h1 hv
    · rcases hfr k hk with h1 | h1
      · have := h.rw_.old k h1; omega
      · have := om.old k h1; omega
/-- What a run of it may turn. -/
def SX (bo r : Nat) (vo : Value) : Nat → Prop := fun k => k = r ∨ k = bo ∨ fO vo k
/-- What a call leaves. -/
def PQ (H₀ H : Heap) (bh bt bp bo r : Nat) (tv vo mv : Value) (hs : List Hdr) (s : St) (v : Value) (H' : Heap) : Prop :=
  v = .tuple #[] ∧ ∃ vo' hs', PI H₀ H' bh bt bp bo r tv vo' hs' s.2 s.1 ∧ Mut (SX bo r vo) H H' ∧ (∀ k, fO vo' k → fO vo k ∨ H.size ≤ k) ∧ (∀ k, fR hs' k → fR hs k ∨ fO mv k ∨ H.size ≤ k)
end Go.Proofs.Ytpkigjlnbfgjcaa
