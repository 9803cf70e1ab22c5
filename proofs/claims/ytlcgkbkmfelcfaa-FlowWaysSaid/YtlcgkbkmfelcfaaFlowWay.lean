/- Plain: no less goes through than along one way, and no more than leaves the first place, or comes to the last. No Go in sight. -/
import Derived.Test.YtlcgkbkmfelcfaaFlowLaw
import Derived.Test.YtlcgkbkmfelcfaaHeurBound
namespace Go.Proofs.Ytlcgkbkmfelcfaa.FlowWay
open NetLaw BellLaw DijkLaw FlowLaw Go.Proofs.Ytlcgkbkmfelcfaa.Net
set_option linter.unusedSimpArgs false
set_option linter.unusedVariables false
section
variable {l : List E} {s t v : Int}
def so (l : List E) (s : Int) (k : Nat) : Int := rsum k fun i => if fr l i = s then cpt l i else 0
def si (l : List E) (t : Int) (k : Nat) : Int := rsum k fun i => if en l i = t then cpt l i else 0
/-- all edges between two places -/
def wd (l : List E) (u v : Int) (k : Nat) : Int := rsum k fun i => if fr l i = u ∧ en l i = v then cpt l i else 0
theorem bd_sum (f : Nat → Int) (h : ∀ i, 0 ≤ f i ∧ f i ≤ 10000) (k : Nat) : 0 ≤ rsum k f ∧ rsum k f ≤ 10000 * k := by
  induction k with
  | zero => exact ⟨Int.le_refl _, Int.le_refl _⟩
  | succ k ih => rw [rsum]; have := h k; omega
theorem cpt_bd {n : Int} (hg : NetLaw.Good n l) (hc : ∀ e ∈ l, 1 ≤ e.2.2) (i : Nat) : 0 ≤ cpt l i ∧ cpt l i ≤ 10000 := by
  by_cases hi : i < l.length
  · have := hc _ (ed_mem hi)
    have := (hg.cost _ (ed_mem hi)).2
    unfold cpt
    omega
  · have : ed l i = (0, 0, 0) := by unfold ed; rw [List.getD_eq_getElem?_getD, List.getElem?_eq_none (by omega)]; rfl
    unfold cpt
    rw [this]
    decide
theorem le_so (hp : ∀ i, 0 ≤ cpt l i) (h : Mx l s t v) (hst : s ≠ t) : v ≤ so l s l.length := by
  obtain ⟨F, hF⟩ := h.1
  refine Int.le_trans (hF.le_cut (S := fun x => decide (x = s)) (by simp) (by simp; exact fun e => hst e.symm)) (rsum_le _ fun i hi => ?_)
  have := hp i
  by_cases e : fr l i = s
  · rw [if_pos e]; split <;> omega
  · rw [if_neg e, if_neg (by simp [e])]; exact Int.le_refl _
theorem le_si (hp : ∀ i, 0 ≤ cpt l i) (h : Mx l s t v) (hst : s ≠ t) : v ≤ si l t l.length := by
  obtain ⟨F, hF⟩ := h.1
  refine Int.le_trans (hF.le_cut (S := fun x => decide (x ≠ t)) (by simp; exact hst) (by simp)) (rsum_le _ fun i hi => ?_)
  have := hp i
  by_cases e : en l i = t
  · rw [if_pos e]; split <;> omega
  · rw [if_neg e, if_neg (by simp [e])]; exact Int.le_refl _
/-- a step of a walk is cut -/
theorem step_cut (S : Int → Bool) : ∀ (p : List Int) (x y : Int), p.head? = some x → p.getLast? = some y → S x = true → S y = false → ∃ j, ∃ h : j + 1 < p.length, S p[j] = true ∧ S p[j + 1] = false := by
  intro p
  induction p with
  | nil => intro x y h; cases h
  | cons a r ih =>
    intro x y hx hy hs ht
    have ha : a = x := by simpa using hx
    subst ha
    cases r with
    | nil =>
      have : a = y := by simpa using hy
      subst this
      rw [hs] at ht; cases ht
    | cons b q =>
      cases hb : S b with
      | false => exact ⟨0, by simp, hs, hb⟩
      | true =>
        obtain ⟨j, hj, h1, h2⟩ := ih b y rfl (by simpa using hy) hb ht
        exact ⟨j + 1, by simp at hj ⊢; omega, h1, h2⟩
/-- the least of the first k steps -/
def lst (l : List E) (p : List Int) : Nat → Int
  | 0 => 1099511627776
  | k + 1 => min (lst l p k) (wd l (p.getD k 0) (p.getD (k + 1) 0) l.length)
theorem lst_le (l : List E) (p : List Int) (k : Nat) : ∀ j, j < k → lst l p k ≤ wd l (p.getD j 0) (p.getD (j + 1) 0) l.length := by
  induction k with
  | zero => intro j hj; exact absurd hj (Nat.not_lt_zero _)
  | succ k ih =>
    intro j hj
    rw [lst]
    rcases Nat.lt_or_ge j k with h | h
    · have := ih j h; omega
    · obtain rfl : j = k := by omega
      omega
theorem lst_bd (hp : ∀ i, 0 ≤ cpt l i ∧ cpt l i ≤ 10000) (p : List Int) (k : Nat) : 0 ≤ lst l p k ∧ lst l p k ≤ 1099511627776 := by
  induction k with
  | zero => exact ⟨by rw [lst]; decide, by rw [lst]; decide⟩
  | succ k ih =>
    have := bd_sum (fun i => if fr l i = p.getD k 0 ∧ en l i = p.getD (k + 1) 0 then cpt l i else 0) (fun i => by have := hp i; split <;> omega) l.length
    rw [lst, wd]
    omega
theorem ge_lst (hp : ∀ i, 0 ≤ cpt l i) (h : Mx l s t v) {p : List Int} (h1 : p.head? = some s) (h2 : p.getLast? = some t) : lst l p (p.length - 1) ≤ v := by
  obtain ⟨_, S, hs, ht, hC⟩ := h
  obtain ⟨j, hj, h3, h4⟩ := step_cut S p s t h1 h2 hs ht
  have a := lst_le l p (p.length - 1) j (by omega)
  refine Int.le_trans a ?_
  rw [← hC]
  have e1 : p.getD j 0 = p[j] := by rw [List.getD_eq_getElem?_getD, List.getElem?_eq_getElem (by omega)]; rfl
  have e2 : p.getD (j + 1) 0 = p[j + 1] := by rw [List.getD_eq_getElem?_getD, List.getElem?_eq_getElem hj]; rfl
  rw [e1, e2]
  refine rsum_le _ fun i hi => ?_
  have := hp i
  split
  · rename_i e
    rw [if_pos (by rw [e.1, e.2]; exact ⟨h3, h4⟩)]
    exact Int.le_refl _
  · split <;> omega
/-- where no way is, nothing goes through -/
theorem no_way {n fr0 : Nat} {D : List Int} (hg : NetLaw.Good n l) (hc : ∀ e ∈ l, 1 ≤ e.2.2) (hD : Sh n fr0 l D) (hf : fr0 < n) (ht : ¬ dg D t < far) (h : Mx l fr0 t v) : v = 0 := by
  obtain ⟨⟨F, hF⟩, S, hs, hts, hC⟩ := h
  have a := hF.le_cut (S := fun x => decide (dg D x < far)) (by simp [hD.st]; decide) (by simp; simpa using ht)
  have b : C l (fun x => decide (dg D x < far)) = 0 := by
    have h0 : ∀ k, rsum k (fun _ => (0 : Int)) = 0 := fun k => by induction k with | zero => rfl | succ k ih => rw [rsum, ih]; rfl
    rw [← h0 l.length]
    refine rsum_congr _ fun i hi => ?_
    rw [if_neg]
    rintro ⟨h1, h2⟩
    have h1 := of_decide_eq_true h1
    have h2 := of_decide_eq_false h2
    obtain ⟨e0, e1, _, _⟩ := hg.ends _ (ed_mem hi)
    have h3 := HeurLaw.sh_bd hD hg hc ⟨e0, e1⟩ h1
    have h4 := hD.still _ (ed_mem hi) h1
    have h5 := (hg.cost _ (ed_mem hi)).2
    have h6 : dg D (ed l i).2.1 < far := by unfold far; omega
    exact h2 h6
  have c : 0 ≤ v := by
    rw [← hC]
    have h0 : ∀ k, rsum k (fun _ => (0 : Int)) = 0 := fun k => by induction k with | zero => rfl | succ k ih => rw [rsum, ih]; rfl
    rw [← h0 l.length]
    refine rsum_le _ fun i hi => ?_
    have : 1 ≤ cpt l i := hc _ (ed_mem hi)
    split <;> omega
  omega
end
end Go.Proofs.Ytlcgkbkmfelcfaa.FlowWay
