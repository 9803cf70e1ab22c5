/- Plain facts on walks through a net: no Go in sight. -/
import Derived.Test.YtjhnlkmdkjlkdaaVNetLaw
namespace Go.Proofs.Ytjhnlkmdkjlkdaa.WalkLaw
open Go.Proofs.Ytjhnlkmdkjlkdaa.NetLaw
/-- the least cost of an edge between two places, over the edges from the first on; and whether there is one -/
def egS (a b : Int) (s : Int × Bool) (e : E) : Int × Bool := if e.1 = a ∧ e.2.1 = b ∧ (s.2 = false ∨ e.2.2 < s.1) then (e.2.2, true) else s
def eg (l : List E) (a b : Int) : Int × Bool := l.foldl (egS a b) (0, false)
theorem eg_succ (l : List E) (a b : Int) (k : Nat) (h : k < l.length) : eg (l.take (k + 1)) a b = egS a b (eg (l.take k) a b) l[k] := by
  unfold eg
  rw [List.take_succ_eq_append_getElem h, List.foldl_append]
  rfl
theorem eg_bd {l : List E} (h : ∀ e ∈ l, -10000 ≤ e.2.2 ∧ e.2.2 ≤ 10000) (a b : Int) : -10000 ≤ (eg l a b).1 ∧ (eg l a b).1 ≤ 10000 := by
  have key : ∀ (l : List E) (s : Int × Bool), (∀ e ∈ l, -10000 ≤ e.2.2 ∧ e.2.2 ≤ 10000) → (-10000 ≤ s.1 ∧ s.1 ≤ 10000) → (-10000 ≤ (l.foldl (egS a b) s).1 ∧ (l.foldl (egS a b) s).1 ≤ 10000) := by
    intro l
    induction l with
    | nil => intro s _ hs; exact hs
    | cons e r ih =>
      intro s hl hs
      refine ih _ (fun e' he' => hl e' (List.mem_cons_of_mem _ he')) ?_
      unfold egS
      split
      · exact hl e (List.mem_cons_self)
      · exact hs
  exact key l _ h (by simp)
/-- the steps of a walk -/
def prs (p : List Int) : List (Int × Int) := p.zip p.tail
theorem prs_len (p : List Int) : (prs p).length = p.length - 1 := by simp [prs]
theorem prs_get {p : List Int} {k : Nat} (h : k + 1 < p.length) : (prs p)[k]? = some (p[k], p[k + 1]) := by
  unfold prs
  rw [List.getElem?_zip_eq_some]
  exact ⟨List.getElem?_eq_getElem (by omega), by rw [List.getElem?_tail]; exact List.getElem?_eq_getElem h⟩
def sumP (l : List E) (ps : List (Int × Int)) : Int := (ps.map fun p => (eg l p.1 p.2).1).sum
def okP (l : List E) (ps : List (Int × Int)) : Bool := ps.all fun p => (eg l p.1 p.2).2
theorem sumP_snoc (l : List E) (ps : List (Int × Int)) (p : Int × Int) : sumP l (ps ++ [p]) = sumP l ps + (eg l p.1 p.2).1 := by simp [sumP]
theorem okP_snoc (l : List E) (ps : List (Int × Int)) (p : Int × Int) : okP l (ps ++ [p]) = (okP l ps && (eg l p.1 p.2).2) := by simp [okP]
theorem sumP_bd {l : List E} (h : ∀ e ∈ l, -10000 ≤ e.2.2 ∧ e.2.2 ≤ 10000) (ps : List (Int × Int)) : -10000 * (ps.length : Int) ≤ sumP l ps ∧ sumP l ps ≤ 10000 * (ps.length : Int) := by
  induction ps with
  | nil => simp [sumP]
  | cons p r ih =>
    have e : sumP l (p :: r) = (eg l p.1 p.2).1 + sumP l r := by simp [sumP]
    have := eg_bd h p.1 p.2
    rw [e]
    simp only [List.length_cons]
    omega
/-- a place of the walk that is none of the net's -/
def outB (N v : Int) : Bool := decide (v < 0) || decide (N ≤ v)
/-- what Cost answers: the cost, the error -/
def cost (N : Int) (l : List E) (p : List Int) : Int × Int :=
  if chk N l ≠ 0 then (0, chk N l) else if p.length = 0 then (0, 1) else if 100 < p.length then (0, 2) else if p.any (outB N) then (0, 1) else if okP l (prs p) then (sumP l (prs p), 0) else (0, 5)

theorem prs_cons (x y : Int) (r : List Int) : prs (x :: y :: r) = (x, y) :: prs (y :: r) := rfl
theorem prs_join (a' : List Int) (x : Int) (b' : List Int) : prs (a' ++ x :: b') = prs (a' ++ [x]) ++ prs (x :: b') := by
  induction a' with
  | nil => simp [prs]
  | cons y r ih =>
    cases r with
    | nil =>
      show prs (y :: x :: b') = prs [y, x] ++ prs (x :: b')
      rw [prs_cons]
      simp [prs]
    | cons z r =>
      show prs (y :: z :: (r ++ x :: b')) = prs (y :: z :: (r ++ [x])) ++ prs (x :: b')
      rw [prs_cons, prs_cons, List.cons_append]
      congr 1
theorem sumP_append (l : List E) (p q : List (Int × Int)) : sumP l (p ++ q) = sumP l p + sumP l q := by simp [sumP]
theorem okP_append (l : List E) (p q : List (Int × Int)) : okP l (p ++ q) = (okP l p && okP l q) := by simp [okP]
theorem cost_zero {N : Int} {l : List E} {p : List Int} : (cost N l p).2 = 0 ↔ chk N l = 0 ∧ p.length ≠ 0 ∧ p.length ≤ 100 ∧ p.any (outB N) = false ∧ okP l (prs p) = true := by
  unfold cost
  by_cases h1 : chk N l = 0
  · rw [if_neg (by simp [h1])]
    by_cases h2 : p.length = 0
    · rw [if_pos h2]; simp [h2]
    · rw [if_neg h2]
      by_cases h3 : 100 < p.length
      · rw [if_pos h3]; simp; omega
      · rw [if_neg h3]
        cases h4 : p.any (outB N)
        · cases h5 : okP l (prs p)
          · simp
          · simp [h1]; exact ⟨fun h => h2 (by rw [h]; rfl), by omega⟩
        · simp
  · rw [if_pos h1]; simp [h1]
theorem cost_val {N : Int} {l : List E} {p : List Int} : (cost N l p).1 = if (cost N l p).2 = 0 then sumP l (prs p) else 0 := by
  unfold cost
  repeat' split
  all_goals simp_all
theorem cost_bd {N : Int} {l : List E} {p : List Int} : -1000000 ≤ (cost N l p).1 ∧ (cost N l p).1 ≤ 1000000 := by
  rw [cost_val]
  split
  · rename_i h
    obtain ⟨h1, h2, h3, _⟩ := cost_zero.1 h
    have := sumP_bd (chk_zero.1 h1).cost (prs p)
    have h4 := prs_len p
    omega
  · omega
/-- a walk joined of two -/
theorem cost_join {N : Int} {l : List E} (a' : List Int) (x : Int) (b' : List Int) (h : (a' ++ x :: b').length ≤ 100) :
    ((cost N l (a' ++ x :: b')).2 = 0 ↔ (cost N l (a' ++ [x])).2 = 0 ∧ (cost N l (x :: b')).2 = 0) ∧ ((cost N l (a' ++ x :: b')).2 = 0 → (cost N l (a' ++ x :: b')).1 = (cost N l (a' ++ [x])).1 + (cost N l (x :: b')).1) := by
  have e1 : (cost N l (a' ++ x :: b')).2 = 0 ↔ (cost N l (a' ++ [x])).2 = 0 ∧ (cost N l (x :: b')).2 = 0 := by
    rw [cost_zero, cost_zero, cost_zero, prs_join, okP_append]
    simp only [List.length_append, List.length_cons, List.length_nil, List.any_append, List.any_cons, List.any_nil, Bool.or_false, Bool.or_eq_false_iff, Bool.and_eq_true] at h ⊢
    constructor
    · rintro ⟨h1, h2, h3, ⟨h4, h5, h6⟩, h7, h8⟩
      exact ⟨⟨h1, by omega, by omega, ⟨h4, h5⟩, h7⟩, h1, by omega, by omega, ⟨h5, h6⟩, h8⟩
    · rintro ⟨⟨h1, _, _, ⟨h4, h5⟩, h7⟩, _, _, _, ⟨_, h6⟩, h8⟩
      exact ⟨h1, by omega, by omega, ⟨h4, h5, h6⟩, h7, h8⟩
  refine ⟨e1, fun h0 => ?_⟩
  obtain ⟨ha, hb⟩ := e1.1 h0
  rw [cost_val, if_pos h0, cost_val (p := a' ++ [x]), if_pos ha, cost_val (p := x :: b'), if_pos hb, prs_join, sumP_append]
theorem cost_long {N : Int} {l : List E} {p : List Int} (h : 100 < p.length) : (cost N l p).2 ≠ 0 := fun h0 => by
  have := (cost_zero.1 h0).2.2.1
  omega
end Go.Proofs.Ytjhnlkmdkjlkdaa.WalkLaw
