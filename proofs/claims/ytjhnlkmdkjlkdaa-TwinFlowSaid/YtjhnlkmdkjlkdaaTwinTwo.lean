/- Plain: two carries and two follows. -/
import Derived.Test.YtjhnlkmdkjlkdaaTwinEnd
namespace Go.Proofs.Ytjhnlkmdkjlkdaa.TwinLaw
open NetLaw BellLaw FlowLaw
open Go.Proofs.Ytjhnlkmdkjlkdaa.Net (tl)
set_option linter.unusedSimpArgs false
set_option linter.unusedVariables false
section
variable {n : Nat} {l : List E} {s t : Int} {D P : List Int} {ks : List Nat}
abbrev u00 (l : List E) : List Bool := List.replicate l.length false
theorem hp_first (hg : NetLaw.Good n l) (hc : ∀ e ∈ l, 1 ≤ e.2.2) (s0 : 0 ≤ s) (s1 : s < n) : Hp0 n l (u00 l) s (fun _ => 0) :=
  ⟨Slk.zero fun e he => by have := hc e he; omega, rfl, fun _ _ _ => ⟨Int.le_refl _, by decide⟩, s0, s1, by have := hg.hi; omega, hg.ends, fun e he => ⟨hc e he, (hg.cost e he).2⟩⟩
theorem first_no (h : TB n l (u00 l) s (fun _ => 0) D P) (h0 : Hp0 n l (u00 l) s (fun _ => 0)) (hf : Fin l (u00 l) D) (t0 : 0 ≤ t) (t1 : t < n) (ht : dg D t = far) : ¬ ∃ u, BF l s t u 2 := fun ⟨u, hu⟩ => by
  have := h.none h0 hf t0 t1 ht (BF.zero l s t) hu
  omega
/-- what the first carry leaves -/
structure One (n : Nat) (l : List E) (s t : Int) (u : List Bool) (π : Int → Int) : Prop where
  bf : BF l s t u 1
  hp : Hp0 n l u s π
  bk : Bk l u t
theorem first_yes (h : TB n l (u00 l) s (fun _ => 0) D P) (h0 : Hp0 n l (u00 l) s (fun _ => 0)) (hf : Fin l (u00 l) D) (t0 : 0 ≤ t) (t1 : t < n) (ht : dg D t < far) (hc : Chn l (u00 l) P s t ks) : One n l s t (flips (u00 l) ks) (dg D) :=
  ⟨by have := (BF.zero l s t).push hc; simpa using this, h.next h0 hf t0 t1 ht (by simp) hc (fun i _ hu => by rw [ub_rep] at hu; cases hu), Bk.first hc⟩
theorem second_no {u : List Bool} {π : Int → Int} (ho : One n l s t u π) (h : TB n l u s π D P) (hf : Fin l u D) (t0 : 0 ≤ t) (t1 : t < n) (ht : dg D t = far) : ¬ ∃ u, BF l s t u 2 := fun ⟨u', hu⟩ => by
  have := h.none ho.hp hf t0 t1 ht ho.bf hu
  omega
theorem second_yes {u : List Bool} {π : Int → Int} (ho : One n l s t u π) (h : TB n l u s π D P) (hf : Fin l u D) (t0 : 0 ≤ t) (t1 : t < n) (ht : dg D t < far) (hc : Chn l u P s t ks) :
    BF l s t (flips u ks) 2 ∧ ∀ u', BF l s t u' 2 → cst l (flips u ks) ≤ cst l u' := by
  have h1 := h.next ho.hp hf t0 t1 ht ho.bf.len hc (h.used ho.hp hf ho.bk t0 t1 ht)
  have h2 : BF l s t (flips u ks) 2 := by have := ho.bf.push hc; simpa using this
  exact ⟨h2, fun u' hu' => h1.slk.least h2 hu'⟩
theorem two_done {u2 u3 u4 : List Bool} {a b : Int} (hc : ∀ e ∈ l, 1 ≤ e.2.2 ∧ e.2.2 ≤ 10000) (h2 : BF l s t u2 2) (hm : ∀ u', BF l s t u' 2 → cst l u2 ≤ cst l u') (f1 : Fol l s t 2 u2 u3 t a) (f2 : Fol l s t 1 u3 u4 t b) : Two l s t (a + b) := by
  have h4 : BF l s t u4 0 := by have := f2.done; simpa using this
  have hz := rest_zero hc h2 h4 (fun i hi => f1.sub i (f2.sub i hi)) hm
  have e1 := f1.cost
  have e2 := f2.cost
  have e : a + b = cst l u2 := by omega
  exact ⟨⟨u2, h2, e.symm⟩, fun u hu => by rw [e]; exact hm u hu⟩
theorem fol_one {u2 u3 : List Bool} {a : Int} (f1 : Fol l s t 2 u2 u3 t a) : BF l s t u3 1 := by have := f1.done; simpa using this
end
end Go.Proofs.Ytjhnlkmdkjlkdaa.TwinLaw
