/- Blocks of a space: Values, Collect, SortedFunc. -/
import Derived.Test.YtpkigjlnbfgjcaaU7
namespace Go.Proofs.Ytpkigjlnbfgjcaa
open Go.TM
open Go.TM.Cell (enc)
set_option maxRecDepth 20000
variable {H : Heap}
theorem SlE.form {α : Type} [Cell α] {v : Value} {xs : List α} (h : SlE H v xs) : ∃ a m c, v = .slice a m c := by
  rcases h.2 with ⟨⟨c, rfl⟩, h0⟩ | ⟨ad, cap, rfl, _⟩
  · exact ⟨_, _, _, rfl⟩
  · exact ⟨_, _, _, rfl⟩
theorem values_spec {a : Value} {l : List BlockD} (hsl : SlE H a l) :
    CallsH PG 48 #[a] H fun v H' => (∃ b, v = .func (.func 74) #[] #[.pointer (some ⟨b, 0, none⟩)] ∧ Blk H' b 39 [a]) ∧ Ext H H' := by
  obtain ⟨aa, m, c, rfl⟩ := SlE.form hsl
  have hsl0 := hsl
  have hX := Ext.refl H
  have hXs := hX.size
  refine callsH_of_W (args := [.slice aa m c]) (ρ₀ := (upd (fun _ => undef) 0 (.slice aa m c))) rfl Try.func48 rfl (by kernel_rfl) ?_
  refine go_ (hq := ?_)
  refine box_ (h := fun b H2 hE2 hge_b hB_b => ?_)
  have hf_hB_b : Frs H (fB b) := Frs.mono (Frs.blk hge_b) hXs
  replace hX := hX.trans hE2
  replace hXs := hX.size
  replace hsl := hsl0.ext hX
  refine go_ (hq := ?_)
  refine ret1_ (h := ?_)
  exact ⟨⟨b, rfl, hB_b⟩, hX⟩
theorem collect_spec {bs : Nat} {a : Value} {l : List BlockD} (hbs : Blk H bs 39 [a]) (hsl : SlE H a l) (hn : l.length ≤ 1000000) :
    CallsH PG 72 #[.func (.func 74) #[] #[.pointer (some ⟨bs, 0, none⟩)]] H fun v H' => TM.Own H' H.size 51 v l ∧ Ext H H' := by
  have hsl0 := hsl
  have hbs0 := hbs
  have hX := Ext.refl H
  have hXs := hX.size
  refine callsH_of_W (args := [.func (.func 74) #[] #[.pointer (some ⟨bs, 0, none⟩)]]) (ρ₀ := (upd (fun _ => undef) 0 (.func (.func 74) #[] #[.pointer (some ⟨bs, 0, none⟩)]))) rfl Try.func72 rfl (by kernel_rfl) ?_
  refine go_ (hq := ?_)
  refine call_ (hc := appendSeq_spec hbs hsl hn) (h := ?_)
  rintro v H2 ⟨n_2, hE2⟩
  have hf_o : Frs H (fO v) := Frs.mono (Own.frs n_2 (Nat.le_refl _)) hXs
  have o := n_2.mono hXs
  replace hX := hX.trans hE2
  replace hXs := hX.size
  replace hsl := hsl0.ext hX
  replace hbs := hbs0.ext hX
  simp only [put]
  refine go_ (hq := ?_)
  refine ret1_ (h := ?_)
  exact ⟨o, hX⟩
theorem sorted_spec {bs : Nat} {a : Value} {l : List BlockD} (hbs : Blk H bs 39 [a]) (hsl : SlE H a l) (hn : l.length ≤ 1000000) :
    CallsH PG 47 #[.func (.func 74) #[] #[.pointer (some ⟨bs, 0, none⟩)], .func (.func 50) #[] #[]] H
      fun v H' => (∃ l' : List BlockD, TM.Own H' H.size 51 v l' ∧ l'.Perm l ∧ l'.Pairwise (fun a b => a.start ≤ b.start)) ∧ Ext H H' := by
  have hsl0 := hsl
  have hbs0 := hbs
  have hX := Ext.refl H
  have hXs := hX.size
  refine callsH_of_W (args := [.func (.func 74) #[] #[.pointer (some ⟨bs, 0, none⟩)], .func (.func 50) #[] #[]]) (ρ₀ := (upd (upd (fun _ => undef) 1 (.func (.func 50) #[] #[])) 0 (.func (.func 74) #[] #[.pointer (some ⟨bs, 0, none⟩)]))) rfl Try.func47 rfl (by kernel_rfl) ?_
  refine go_ (hq := ?_)
  refine call_ (hc := collect_spec hbs hsl hn) (h := ?_)
  rintro v H2 ⟨n_2, hE2⟩
  have hf_o : Frs H (fO v) := Frs.mono (Own.frs n_2 (Nat.le_refl _)) hXs
  have o := n_2.mono hXs
  replace hX := hX.trans hE2
  replace hXs := hX.size
  replace hsl := hsl0.ext hX
  replace hbs := hbs0.ext hX
  simp only [put]
  refine go_ (hq := ?_)
  refine call_ (hc := sortB_spec o hn) (h := ?_)
  rintro r H9 ⟨rfl, l', o', hp, hs, hM⟩
  simp only [put]
  refine go_ (hq := ?_)
  refine ret1_ (h := ?_)
  exact ⟨⟨l', o', hp, hs⟩, hX.mut hM hf_o⟩
end Go.Proofs.Ytpkigjlnbfgjcaa
