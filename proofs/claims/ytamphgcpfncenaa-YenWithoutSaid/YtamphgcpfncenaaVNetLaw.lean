/- Plain facts on nets: no Go in sight. -/
import Derived.RowKit
namespace Go.Proofs.Ytamphgcpfncenaa.NetLaw
set_option linter.unusedSimpArgs false
set_option linter.unusedVariables false
/-- an edge: from, to, cost -/
abbrev E := Int × Int × Int
def endsBad (N : Int) (e : E) : Prop := e.1 < 0 ∨ N ≤ e.1 ∨ e.2.1 < 0 ∨ N ≤ e.2.1
def costBad (e : E) : Prop := e.2.2 < -10000 ∨ 10000 < e.2.2
instance (N : Int) (e : E) : Decidable (endsBad N e) := by unfold endsBad; infer_instance
instance (e : E) : Decidable (costBad e) := by unfold costBad; infer_instance
/-- the first fault of the edges -/
def chkE (N : Int) : List E → Int
  | [] => 0
  | e :: r => if endsBad N e then 1 else if costBad e then 4 else chkE N r
/-- what Check answers -/
def chk (N : Int) (l : List E) : Int := if N < 1 ∨ 64 < N then 1 else if 600 < l.length then 2 else chkE N l
theorem chkE_drop (N : Int) (l : List E) (k : Nat) (h : k < l.length) : chkE N (l.drop k) = if endsBad N l[k] then 1 else if costBad l[k] then 4 else chkE N (l.drop (k + 1)) := by
  rw [List.drop_eq_getElem_cons h]; rfl
theorem chkE_zero {N : Int} {l : List E} : chkE N l = 0 ↔ ∀ e ∈ l, ¬ endsBad N e ∧ ¬ costBad e := by
  induction l with
  | nil => simp [chkE]
  | cons e r ih =>
    unfold chkE
    by_cases h1 : endsBad N e
    · simp [h1]
    · by_cases h2 : costBad e
      · simp [h1, h2]
      · rw [if_neg h1, if_neg h2, ih]; simp [h1, h2]
/-- a right net -/
structure Good (N : Int) (l : List E) : Prop where
  lo : 1 ≤ N
  hi : N ≤ 64
  len : l.length ≤ 600
  ends : ∀ e ∈ l, 0 ≤ e.1 ∧ e.1 < N ∧ 0 ≤ e.2.1 ∧ e.2.1 < N
  cost : ∀ e ∈ l, -10000 ≤ e.2.2 ∧ e.2.2 ≤ 10000
theorem chk_zero {N : Int} {l : List E} : chk N l = 0 ↔ Good N l := by
  unfold chk
  constructor
  · intro h
    split at h
    · omega
    · split at h
      · omega
      · rw [chkE_zero] at h
        refine ⟨by omega, by omega, by omega, fun e he => ?_, fun e he => ?_⟩
        · have := (h e he).1; unfold endsBad at this; omega
        · have := (h e he).2; unfold costBad at this; omega
  · intro h
    have h1 := h.lo
    have h2 := h.hi
    have h3 := h.len
    rw [if_neg (by omega), if_neg (by omega), chkE_zero]
    intro e he
    have a := h.ends e he
    have b := h.cost e he
    unfold endsBad costBad
    omega
end Go.Proofs.Ytamphgcpfncenaa.NetLaw
