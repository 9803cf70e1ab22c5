/- Plain facts on heights: no Go in sight. -/
import Derived.Test.YtamphgcpfncenaaVWayLaw
namespace Go.Proofs.Ytamphgcpfncenaa.JohnLaw
open Go.Proofs.Ytamphgcpfncenaa.NetLaw Go.Proofs.Ytamphgcpfncenaa.WalkLaw
set_option linter.unusedSimpArgs false
set_option linter.unusedVariables false
/-- a height -/
def ht (h : List Int) (v : Int) : Int := h.getD v.toNat 0
/-- an edge with heights -/
def flc (h : List Int) (e : E) : E := (e.1, e.2.1, e.2.2 + ht h e.1 - ht h e.2.1)
def flt (h : List Int) (l : List E) : List E := l.map (flc h)
/-- the first fault of the costs -/
def flE : List E → Int
  | [] => 0
  | e :: r => if e.2.2 < 0 then 4 else if 10000 < e.2.2 then 2 else flE r
def farOut (x : Int) : Bool := decide (x < -1000000) || decide (1000000 < x)
/-- what Flat tells -/
def ferr (N : Int) (l : List E) (h : List Int) : Int :=
  if chk N l ≠ 0 then chk N l else if (h.length : Int) ≠ N then 1 else if h.any farOut then 1 else flE (flt h l)
theorem flE_drop (l : List E) (k : Nat) (h : k < l.length) : flE (l.drop k) = if l[k].2.2 < 0 then 4 else if 10000 < l[k].2.2 then 2 else flE (l.drop (k + 1)) := by
  rw [List.drop_eq_getElem_cons h]; rfl
theorem flE_zero {l : List E} (h : flE l = 0) : ∀ e ∈ l, 0 ≤ e.2.2 ∧ e.2.2 ≤ 10000 := by
  induction l with
  | nil => simp
  | cons e r ih =>
    rw [flE] at h
    split at h
    · omega
    · split at h
      · omega
      · intro x hx
        rcases List.mem_cons.1 hx with rfl | hx
        · omega
        · exact ih h x hx
structure FGood (N : Int) (l : List E) (h : List Int) : Prop where
  good : NetLaw.Good N l
  len : (h.length : Int) = N
  lift : ∀ x ∈ h, -1000000 ≤ x ∧ x ≤ 1000000
theorem ferr_good {N : Int} {l : List E} {h : List Int} (hz : ferr N l h = 0) : FGood N l h ∧ flE (flt h l) = 0 := by
  unfold ferr at hz
  split at hz
  · rename_i h1; exact absurd hz h1
  · rename_i h1
    split at hz
    · omega
    · rename_i h2
      split at hz
      · omega
      · rename_i h3
        refine ⟨⟨chk_zero.1 (by simpa using h1), by omega, fun x hx => ?_⟩, hz⟩
        have := h3
        simp only [List.any_eq_true, not_exists, not_and, Bool.not_eq_true] at this
        have h4 := this x hx
        simp only [farOut, Bool.or_eq_false_iff, decide_eq_false_iff_not] at h4
        omega
theorem good_flt {N : Int} {l : List E} {h : List Int} (hz : ferr N l h = 0) : NetLaw.Good N (flt h l) := by
  obtain ⟨hf, h0⟩ := ferr_good hz
  have hc := flE_zero h0
  refine ⟨hf.good.lo, hf.good.hi, by rw [flt, List.length_map]; exact hf.good.len, fun e he => ?_, fun e he => ?_⟩
  · rw [flt, List.mem_map] at he
    obtain ⟨x, hx, rfl⟩ := he
    exact hf.good.ends x hx
  · have := hc e he
    omega
theorem eg_flt (h : List Int) (l : List E) (a b : Int) : eg (flt h l) a b = if (eg l a b).2 then ((eg l a b).1 + ht h a - ht h b, true) else (0, false) := by
  have key : ∀ (l : List E) (s s' : Int × Bool), s'.2 = s.2 → (s.2 = true → s'.1 = s.1 + ht h a - ht h b) → (s.2 = false → s'.1 = 0) →
      ((flt h l).foldl (egS a b) s').2 = (l.foldl (egS a b) s).2 ∧ ((l.foldl (egS a b) s).2 = true → ((flt h l).foldl (egS a b) s').1 = (l.foldl (egS a b) s).1 + ht h a - ht h b) ∧ ((l.foldl (egS a b) s).2 = false → ((flt h l).foldl (egS a b) s').1 = 0) := by
    intro l
    induction l with
    | nil => intro s s' h1 h2 h3; exact ⟨h1, h2, h3⟩
    | cons e r ih =>
      intro s s' h1 h2 h3
      have e1 : flt h (e :: r) = flc h e :: flt h r := rfl
      rw [e1, List.foldl_cons, List.foldl_cons]
      by_cases hc : e.1 = a ∧ e.2.1 = b ∧ (s.2 = false ∨ e.2.2 < s.1)
      · have hc' : (flc h e).1 = a ∧ (flc h e).2.1 = b ∧ (s'.2 = false ∨ (flc h e).2.2 < s'.1) := by
          refine ⟨hc.1, hc.2.1, ?_⟩
          rcases hc.2.2 with h4 | h4
          · exact .inl (h1.trans h4)
          · cases hs : s.2 with
            | false => exact .inl (h1.trans hs)
            | true =>
              right
              rw [h2 hs]
              simp only [flc, hc.1, hc.2.1]
              omega
        rw [egS, egS, if_pos hc, if_pos hc']
        refine ih _ _ rfl (fun _ => ?_) (fun h => by cases h)
        simp only [flc, hc.1, hc.2.1]
      · have hc' : ¬ ((flc h e).1 = a ∧ (flc h e).2.1 = b ∧ (s'.2 = false ∨ (flc h e).2.2 < s'.1)) := by
          rintro ⟨h4, h5, h6⟩
          refine hc ⟨h4, h5, ?_⟩
          rcases h6 with h6 | h6
          · exact .inl (h1.symm.trans h6)
          · cases hs : s.2 with
            | false => exact .inl rfl
            | true =>
              right
              rw [h2 hs] at h6
              have h4' : e.1 = a := h4
              have h5' : e.2.1 = b := h5
              simp only [flc, h4', h5'] at h6
              omega
        rw [egS, egS, if_neg hc, if_neg hc']
        exact ih _ _ h1 h2 h3
  obtain ⟨k1, k2, k3⟩ := key l (0, false) (0, false) rfl (fun h => by cases h) (fun _ => rfl)
  unfold eg
  cases hs : (l.foldl (egS a b) (0, false)).2 with
  | true => rw [if_pos rfl]; exact Prod.ext (k2 hs) (k1.trans hs)
  | false => rw [if_neg (by decide)]; exact Prod.ext (k3 hs) (k1.trans hs)
theorem okP_flt (h : List Int) (l : List E) (ps : List (Int × Int)) : okP (flt h l) ps = okP l ps := by
  unfold okP
  congr 1
  funext p
  rw [eg_flt]
  cases (eg l p.1 p.2).2 <;> rfl
theorem sum_flt (h : List Int) (l : List E) (x : Int) (r : List Int) (hk : okP l (prs (x :: r)) = true) : sumP (flt h l) (prs (x :: r)) = sumP l (prs (x :: r)) + ht h x - ht h ((x :: r).getLast (by simp)) := by
  induction r generalizing x with
  | nil => simp [prs, sumP]
  | cons y r ih =>
    rw [prs_cons] at hk ⊢
    have e : ∀ (l : List E) (p : Int × Int) (q : List (Int × Int)), sumP l (p :: q) = (eg l p.1 p.2).1 + sumP l q := fun l p q => by simp [sumP]
    have hk' : (eg l x y).2 = true ∧ okP l (prs (y :: r)) = true := by simpa [okP] using hk
    have hl : (x :: y :: r).getLast (by simp) = (y :: r).getLast (by simp) := List.getLast_cons (by simp)
    rw [e, e, ih y hk'.2, eg_flt, if_pos hk'.1, hl]
    simp only
    omega
theorem cost_flt {N : Int} {l : List E} {h : List Int} (hz : ferr N l h = 0) (p : List Int) : (cost N (flt h l) p).2 = (cost N l p).2 := by
  have h1 := chk_zero.2 (good_flt hz)
  have h2 := chk_zero.2 (ferr_good hz).1.good
  unfold cost
  rw [h1, h2, okP_flt]
  repeat' split
  all_goals rfl
theorem cost_flt_val {N : Int} {l : List E} {h : List Int} (hz : ferr N l h = 0) (p : List Int) (hc : (cost N l p).2 = 0) : ∃ hp : p ≠ [], (cost N (flt h l) p).1 = (cost N l p).1 + ht h (p.head hp) - ht h (p.getLast hp) := by
  have hc' := (cost_flt hz p).trans hc
  rw [cost_val, cost_val, if_pos hc, if_pos hc']
  obtain ⟨_, h1, _, _, h5⟩ := cost_zero.1 hc
  cases p with
  | nil => exact absurd rfl h1
  | cons x r => exact ⟨by simp, sum_flt h l x r h5⟩
end Go.Proofs.Ytamphgcpfncenaa.JohnLaw
