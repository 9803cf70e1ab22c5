/- Plain facts on taking walks off what flows: no Go in sight. -/
import Derived.Test.YtjhnlkmdkjlkdaaTwinBel
namespace Go.Proofs.Ytjhnlkmdkjlkdaa.TwinLaw
open NetLaw BellLaw FlowLaw
open Go.Proofs.Ytjhnlkmdkjlkdaa.Net (tl)
set_option linter.unusedSimpArgs false
set_option linter.unusedVariables false
/-- a walk from s is at a place: what is left of v ways -/
structure Fol (l : List E) (s t : Int) (v : Int) (u0 u : List Bool) (at' co : Int) : Prop where
  len : u.length = l.length
  cons : ∀ φ : Int → Int, Wb l u φ = (v - 1) * (φ s - φ t) + (φ at' - φ t)
  sub : ∀ i, ub u i = true → ub u0 i = true
  cost : co + cst l u = cst l u0
section
variable {l : List E} {s t v at' co : Int} {u0 u : List Bool}
theorem Fol.start (h : BF l s t u v) : Fol l s t v u u s 0 := ⟨h.len, fun φ => by rw [h.cons, Int.sub_mul]; omega, fun _ h => h, by omega⟩
theorem Fol.next (h : Fol l s t v u0 u at' co) (hv : 1 ≤ v) (hne : at' ≠ t) : ∃ i, i < l.length ∧ ub u i = true ∧ fr l i = at' := by
  have h1 := h.cons fun x => if x = at' then 1 else 0
  simp only [if_true, if_neg (fun e : t = at' => hne e.symm)] at h1
  have h2 : 0 ≤ (v - 1) * ((if s = at' then (1 : Int) else 0) - 0) := Int.mul_nonneg (by omega) (by split <;> omega)
  obtain ⟨i, hi, hp⟩ := rsum_pos l.length (show 0 < Wb l u (fun x => if x = at' then 1 else 0) by omega)
  refine ⟨i, hi, ?_⟩
  cases hb : ub u i with
  | false => rw [hb] at hp; simp at hp
  | true =>
    rw [hb] at hp
    simp only [if_true] at hp
    refine ⟨rfl, ?_⟩
    refine Classical.byContradiction fun hc => ?_
    rw [if_neg hc] at hp
    split at hp <;> omega
theorem cst_off {i : Nat} (hi : i < l.length) (hl : u.length = l.length) (hb : ub u i = true) : cst l (u.set i false) = cst l u - cpt l i := by
  unfold cst
  rw [rsum_upd (f := fun i => if ub u i = true then cpt l i else 0) l.length i hi fun j _ hj => by rw [ub_set (by omega), if_neg hj]]
  rw [ub_set (by omega), if_pos rfl, hb]
  simp
  omega
theorem Wb_off {i : Nat} (hi : i < l.length) (hl : u.length = l.length) (hb : ub u i = true) (φ : Int → Int) : Wb l (u.set i false) φ = Wb l u φ - (φ (fr l i) - φ (en l i)) := by
  unfold Wb
  rw [rsum_upd (f := fun i => if ub u i = true then φ (fr l i) - φ (en l i) else 0) l.length i hi fun j _ hj => by rw [ub_set (by omega), if_neg hj]]
  rw [ub_set (by omega), if_pos rfl, hb]
  simp
  omega
theorem Fol.step (h : Fol l s t v u0 u at' co) {i : Nat} (hi : i < l.length) (hb : ub u i = true) (hf : fr l i = at') : Fol l s t v u0 (u.set i false) (en l i) (co + cpt l i) := by
  refine ⟨by rw [List.length_set]; exact h.len, fun φ => ?_, fun j hj => ?_, ?_⟩
  · rw [Wb_off hi h.len hb, h.cons, hf]; omega
  · rw [ub_set (by rw [h.len]; exact hi)] at hj
    split at hj
    · cases hj
    · exact h.sub j hj
  · rw [cst_off hi h.len hb]
    have := h.cost
    omega
theorem Fol.done (h : Fol l s t v u0 u t co) : BF l s t u (v - 1) := ⟨h.len, fun φ => by rw [h.cons]; omega⟩
theorem cst_nonneg (hc : ∀ e ∈ l, 1 ≤ e.2.2 ∧ e.2.2 ≤ 10000) (u : List Bool) : 0 ≤ cst l u ∧ cst l u ≤ 10000 * l.length := by
  have key : ∀ k, k ≤ l.length → 0 ≤ rsum k (fun i => if ub u i = true then cpt l i else 0) ∧ rsum k (fun i => if ub u i = true then cpt l i else 0) ≤ 10000 * k := by
    intro k
    induction k with
    | zero => intro _; exact ⟨Int.le_refl _, Int.le_refl _⟩
    | succ k ih =>
      intro hk
      obtain ⟨a, b⟩ := ih (by omega)
      have := hc _ (ed_mem (show k < l.length by omega))
      rw [rsum]
      unfold cpt
      unfold cpt at a b
      split <;> omega
  exact key l.length (Nat.le_refl _)
/-- one set of edges without another within it -/
def off (u r : List Bool) : List Bool := (List.range u.length).map fun i => ub u i && !ub r i
theorem off_ub (u r : List Bool) (i : Nat) : ub (off u r) i = (ub u i && !ub r i) := by
  by_cases hi : i < u.length
  · unfold ub off
    rw [List.getD_eq_getElem?_getD, List.getElem?_map, List.getElem?_range hi]
    rfl
  · have h1 : ub u i = false := by unfold ub; rw [List.getD_eq_getElem?_getD, List.getElem?_eq_none (by omega)]; rfl
    have h2 : ub (off u r) i = false := by unfold ub off; rw [List.getD_eq_getElem?_getD, List.getElem?_eq_none (by simp; omega)]; rfl
    rw [h1, h2]; rfl
/-- what no walk took costs nothing, where all cost least -/
theorem rest_zero {r : List Bool} {w : Int} (hc : ∀ e ∈ l, 1 ≤ e.2.2 ∧ e.2.2 ≤ 10000) (hu : BF l s t u w) (hr : BF l s t r 0) (hs : ∀ i, ub r i = true → ub u i = true) (hmin : ∀ u', BF l s t u' w → cst l u ≤ cst l u') : cst l r = 0 := by
  have e1 : ∀ φ, Wb l u φ = Wb l (off u r) φ + Wb l r φ := fun φ => rsum_add _ fun i _ => by
    rw [off_ub]
    cases h1 : ub r i with
    | true => rw [hs i h1]; simp
    | false => cases ub u i <;> simp
  have e2 : cst l u = cst l (off u r) + cst l r := rsum_add _ fun i _ => by
    rw [off_ub]
    cases h1 : ub r i with
    | true => rw [hs i h1]; simp
    | false => cases ub u i <;> simp
  have h := hmin (off u r) ⟨by unfold off; simp; exact hu.len, fun φ => by
    have h1 := e1 φ
    rw [hu.cons, hr.cons] at h1
    omega⟩
  have := (cst_nonneg hc r).1
  omega
end
/-- two ways at once, at the least cost -/
structure Two (l : List E) (s t : Int) (co : Int) : Prop where
  is : ∃ u, BF l s t u 2 ∧ cst l u = co
  least : ∀ u, BF l s t u 2 → co ≤ cst l u
theorem Two.turn {l : List E} {s t a b : Int} (h : Two l s t a) (h' : Two (tl l) t s b) : a = b := by
  obtain ⟨u, hu, he⟩ := h.is
  obtain ⟨u', hu', he'⟩ := h'.is
  have h1 := h'.least u hu.turn
  rw [cst_turn, he] at h1
  have h2 : BF l s t u' 2 := by
    have := hu'.turn
    rwa [FlowLaw.tl_tl] at this
  have h3 := h.least u' h2
  rw [← cst_turn, he'] at h3
  omega
end Go.Proofs.Ytjhnlkmdkjlkdaa.TwinLaw
