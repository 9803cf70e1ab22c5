/- Plain facts on walks without their loops: no Go in sight. -/
import Derived.Test.YtdpjbjgecmnmnaaWalkLaw
namespace Go.Proofs.Ytdpjbjgecmnmnaa.CutLaw
open Go.Proofs.Ytdpjbjgecmnmnaa.NetLaw Go.Proofs.Ytdpjbjgecmnmnaa.WalkLaw
set_option linter.unusedSimpArgs false
set_option linter.unusedVariables false
/-- what is left behind the last x; all, if there is none -/
def al (x : Int) : List Int → List Int
  | [] => []
  | y :: r => if x ∈ r then al x r else if y = x then r else y :: r
theorem al_not {x : Int} {l : List Int} (h : x ∉ l) : al x l = l := by
  cases l with
  | nil => rfl
  | cons y r =>
    rw [List.mem_cons, not_or] at h
    rw [al, if_neg h.2, if_neg (fun e => h.1 e.symm)]
theorem al_mem {x : Int} {l : List Int} (h : x ∈ l) : ∃ s, l = s ++ x :: al x l := by
  induction l with
  | nil => cases h
  | cons y r ih =>
    rw [al]
    by_cases hr : x ∈ r
    · rw [if_pos hr]
      obtain ⟨s, hs⟩ := ih hr
      exact ⟨y :: s, by rw [List.cons_append, ← hs]⟩
    · rw [if_neg hr]
      rcases List.mem_cons.1 h with rfl | h
      · rw [if_pos rfl]; exact ⟨[], rfl⟩
      · exact absurd h hr
theorem al_free {x : Int} {l : List Int} : x ∉ al x l := by
  induction l with
  | nil => simp [al]
  | cons y r ih =>
    rw [al]
    by_cases hr : x ∈ r
    · rw [if_pos hr]; exact ih
    · rw [if_neg hr]
      by_cases hy : y = x
      · rw [if_pos hy]; exact hr
      · rw [if_neg hy, List.mem_cons, not_or]
        exact ⟨fun e => hy e.symm, hr⟩
theorem al_sub {x y : Int} {l : List Int} (h : y ∈ al x l) : y ∈ l := by
  by_cases hx : x ∈ l
  · obtain ⟨s, hs⟩ := al_mem hx
    rw [hs]
    simp [h]
  · rwa [al_not hx] at h
theorem al_len (x : Int) (l : List Int) : (al x l).length ≤ l.length := by
  by_cases hx : x ∈ l
  · obtain ⟨s, hs⟩ := al_mem hx
    have := congrArg List.length hs
    simp at this
    omega
  · rw [al_not hx]; exact Nat.le_refl _
/-- by the place of the last x -/
theorem al_at {x : Int} {l : List Int} {j : Nat} (hj : l[j]? = some x) (hl : ∀ k, j < k → l[k]? ≠ some x) : al x l = l.drop (j + 1) := by
  induction l generalizing j with
  | nil => simp at hj
  | cons y r ih =>
    rw [al]
    cases j with
    | zero =>
      have hy : y = x := by simpa using hj
      have hr : x ∉ r := fun h => by
        obtain ⟨k, hk⟩ := List.mem_iff_getElem?.1 h
        exact hl (k + 1) (by omega) (by simpa using hk)
      rw [if_neg hr, if_pos hy]
      rfl
    | succ j =>
      have hj' : r[j]? = some x := by simpa using hj
      rw [if_pos (List.mem_iff_getElem?.2 ⟨j, hj'⟩)]
      rw [ih hj' (fun k hk => by have := hl (k + 1) (by omega); simpa using this)]
      rfl
/-- from the i-th place on: behind the last of it -/
theorem al_drop {p : List Int} {x : Int} {i j : Nat} (hi : p[i]? = some x) (hij : i ≤ j) (hj : p[j]? = some x) (hl : ∀ k, j < k → p[k]? ≠ some x) : al x (p.drop (i + 1)) = p.drop (j + 1) := by
  by_cases e : i = j
  · subst e
    refine al_not fun h => ?_
    obtain ⟨k, hk⟩ := List.mem_iff_getElem?.1 h
    rw [List.getElem?_drop] at hk
    exact hl _ (by omega) hk
  · rw [al_at (j := j - (i + 1)) (by rw [List.getElem?_drop, ← hj]; congr 1; omega) (fun k hk => by rw [List.getElem?_drop]; exact hl _ (by omega)), List.drop_drop]
    congr 1; omega
/-- without its loops -/
def cutN : Nat → List Int → List Int
  | 0, _ => []
  | _ + 1, [] => []
  | n + 1, x :: r => x :: cutN n (al x r)
def cut (p : List Int) : List Int := cutN p.length p
theorem cutN_more {n m : Nat} {p : List Int} (hn : p.length ≤ n) (hm : p.length ≤ m) : cutN n p = cutN m p := by
  induction n generalizing m p with
  | zero =>
    have : p = [] := List.eq_nil_of_length_eq_zero (by omega)
    subst this
    cases m <;> rfl
  | succ n ih =>
    cases p with
    | nil => cases m <;> rfl
    | cons x r =>
      cases m with
      | zero => simp at hm
      | succ m =>
        simp only [List.length_cons] at hn hm
        have := al_len x r
        rw [cutN, cutN, ih (m := m) (by omega) (by omega)]
theorem cut_nil : cut [] = [] := rfl
theorem cut_cons (x : Int) (r : List Int) : cut (x :: r) = x :: cut (al x r) := by
  show cutN (r.length + 1) (x :: r) = _
  rw [cutN, cut, cutN_more (al_len x r) (Nat.le_refl _)]
/-- from the i-th place -/
theorem cut_drop {p : List Int} {x : Int} {i j : Nat} (hi : p[i]? = some x) (hij : i ≤ j) (hj : p[j]? = some x) (hl : ∀ k, j < k → p[k]? ≠ some x) : cut (p.drop i) = x :: cut (p.drop (j + 1)) := by
  obtain ⟨hlt, hx⟩ := List.getElem?_eq_some_iff.1 hi
  rw [List.drop_eq_getElem_cons hlt, hx, cut_cons, al_drop hi hij hj hl]
/-- an induction over cutting -/
theorem cut_ind {P : List Int → Prop} (h0 : P []) (h1 : ∀ x r, P (al x r) → P (x :: r)) (p : List Int) : P p := by
  have key : ∀ n p, p.length ≤ n → P p := by
    intro n
    induction n with
    | zero =>
      intro p hp
      have : p = [] := List.eq_nil_of_length_eq_zero (by omega)
      subst this; exact h0
    | succ n ih =>
      intro p hp
      cases p with
      | nil => exact h0
      | cons x r =>
        simp only [List.length_cons] at hp
        have := al_len x r
        exact h1 x r (ih _ (by omega))
  exact key _ p (Nat.le_refl _)
theorem cut_sub {p : List Int} {y : Int} : y ∈ cut p → y ∈ p := by
  refine cut_ind (P := fun p => y ∈ cut p → y ∈ p) (by simp [cut_nil]) (fun x r ih h => ?_) p
  rw [cut_cons] at h
  rcases List.mem_cons.1 h with rfl | h
  · exact List.mem_cons_self ..
  · exact List.mem_cons_of_mem _ (al_sub (ih h))
theorem cut_len (p : List Int) : (cut p).length ≤ p.length := by
  refine cut_ind (P := fun p => (cut p).length ≤ p.length) (by simp [cut_nil]) (fun x r ih => ?_) p
  rw [cut_cons]
  have := al_len x r
  simp only [List.length_cons]
  omega
theorem cut_nodup (p : List Int) : (cut p).Nodup := by
  refine cut_ind (P := fun p => (cut p).Nodup) (by simp [cut_nil]) (fun x r ih => ?_) p
  rw [cut_cons, List.nodup_cons]
  exact ⟨fun h => al_free (cut_sub h), ih⟩
theorem cut_same {p : List Int} : p.Nodup → cut p = p := by
  refine cut_ind (P := fun p => p.Nodup → cut p = p) (fun _ => rfl) (fun x r ih h => ?_) p
  rw [List.nodup_cons] at h
  rw [al_not h.1] at ih
  rw [cut_cons, al_not h.1, ih h.2]
theorem cut_ne {p : List Int} (h : p ≠ []) : cut p ≠ [] := by
  cases p with
  | nil => exact absurd rfl h
  | cons x r => rw [cut_cons]; simp
theorem cut_head (p : List Int) : (cut p).head? = p.head? := by
  cases p with
  | nil => rfl
  | cons x r => rw [cut_cons]; rfl
theorem al_last (x : Int) (r : List Int) : (x :: al x r).getLast? = (x :: r).getLast? := by
  by_cases hx : x ∈ r
  · obtain ⟨s, hs⟩ := al_mem hx
    conv => rhs; rw [hs]
    rw [← List.cons_append, List.getLast?_append]
    simp [List.getLast?_cons]
  · rw [al_not hx]
theorem cut_last (p : List Int) : (cut p).getLast? = p.getLast? := by
  refine cut_ind (P := fun p => (cut p).getLast? = p.getLast?) rfl (fun x r ih => ?_) p
  rw [cut_cons, ← al_last x r, List.getLast?_cons, List.getLast?_cons, ih]
/-- costs -/
theorem al_cost {l : List E} {x : Int} {r : List Int} (h : okP l (prs (x :: r)) = true) : okP l (prs (x :: al x r)) = true ∧ ((∀ q : Int × Int, 0 ≤ (eg l q.1 q.2).1) → sumP l (prs (x :: al x r)) ≤ sumP l (prs (x :: r))) := by
  by_cases hx : x ∈ r
  · obtain ⟨s, hs⟩ := al_mem hx
    generalize al x r = a at hs ⊢
    subst hs
    rw [← List.cons_append, prs_join, okP_append, Bool.and_eq_true] at h
    refine ⟨h.2, fun hc => ?_⟩
    rw [← List.cons_append, prs_join, sumP_append]
    have : 0 ≤ sumP l (prs (x :: s ++ [x])) := by
      generalize prs (x :: s ++ [x]) = ps
      induction ps with
      | nil => simp [sumP]
      | cons q ps ih =>
        have e : sumP l (q :: ps) = (eg l q.1 q.2).1 + sumP l ps := by simp [sumP]
        have := hc q
        omega
    omega
  · rw [al_not hx]
    exact ⟨h, fun _ => Int.le_refl _⟩
theorem cut_cost {l : List E} {p : List Int} : okP l (prs p) = true → okP l (prs (cut p)) = true ∧ ((∀ q : Int × Int, 0 ≤ (eg l q.1 q.2).1) → sumP l (prs (cut p)) ≤ sumP l (prs p)) := by
  refine cut_ind (P := fun p => okP l (prs p) = true → okP l (prs (cut p)) = true ∧ ((∀ q : Int × Int, 0 ≤ (eg l q.1 q.2).1) → sumP l (prs (cut p)) ≤ sumP l (prs p))) (fun h => ⟨h, fun _ => Int.le_refl _⟩) (fun x r ih h => ?_) p
  obtain ⟨h1, h2⟩ := al_cost h
  rw [cut_cons]
  generalize al x r = a at *
  cases a with
  | nil => exact ⟨h1, h2⟩
  | cons y b =>
    have hcc : cut (y :: b) = y :: cut (al y b) := cut_cons y b
    have e1 : okP l (prs (x :: y :: b)) = ((eg l x y).2 && okP l (prs (y :: b))) := by rw [prs_cons]; simp [okP]
    rw [e1, Bool.and_eq_true] at h1
    obtain ⟨i1, i2⟩ := ih h1.2
    rw [hcc] at i1 i2 ⊢
    have e2 : okP l (prs (x :: y :: cut (al y b))) = ((eg l x y).2 && okP l (prs (y :: cut (al y b)))) := by rw [prs_cons]; simp [okP]
    have e3 : sumP l (prs (x :: y :: cut (al y b))) = (eg l x y).1 + sumP l (prs (y :: cut (al y b))) := by rw [prs_cons]; simp [sumP]
    have e4 : sumP l (prs (x :: y :: b)) = (eg l x y).1 + sumP l (prs (y :: b)) := by rw [prs_cons]; simp [sumP]
    refine ⟨by rw [e2, h1.1, i1]; rfl, fun hc => ?_⟩
    have := h2 hc
    have := i2 hc
    omega
theorem eg_nonneg {l : List E} (h : ∀ e ∈ l, 0 ≤ e.2.2) (a b : Int) : 0 ≤ (eg l a b).1 := by
  have key : ∀ (l : List E) (s : Int × Bool), (∀ e ∈ l, 0 ≤ e.2.2) → 0 ≤ s.1 → 0 ≤ (l.foldl (egS a b) s).1 := by
    intro l
    induction l with
    | nil => intro s _ hs; exact hs
    | cons e r ih =>
      intro s hl hs
      refine ih _ (fun e' he' => hl e' (List.mem_cons_of_mem _ he')) ?_
      unfold egS
      split
      · exact hl e (List.mem_cons_self)
      · exact hs
  exact key l _ h (Int.le_refl _)
/-- what Cost says of what is cut -/
theorem cost_cut {N : Int} {l : List E} {p : List Int} (h : (cost N l p).2 = 0) : (cost N l (cut p)).2 = 0 ∧ ((∀ e ∈ l, 0 ≤ e.2.2) → (cost N l (cut p)).1 ≤ (cost N l p).1) := by
  obtain ⟨h1, h2, h3, h4, h5⟩ := cost_zero.1 h
  obtain ⟨c1, c2⟩ := cut_cost h5
  have hz : (cost N l (cut p)).2 = 0 := by
    refine cost_zero.2 ⟨h1, fun e => ?_, Nat.le_trans (cut_len p) h3, ?_, c1⟩
    · have hp : p ≠ [] := fun e => h2 (by rw [e]; rfl)
      exact cut_ne hp (List.eq_nil_of_length_eq_zero e)
    · rw [List.any_eq_false] at h4 ⊢
      exact fun x hx => h4 x (cut_sub hx)
  refine ⟨hz, fun hc => ?_⟩
  rw [cost_val, if_pos hz, cost_val, if_pos h]
  exact c2 fun q => eg_nonneg hc q.1 q.2
end Go.Proofs.Ytdpjbjgecmnmnaa.CutLaw
