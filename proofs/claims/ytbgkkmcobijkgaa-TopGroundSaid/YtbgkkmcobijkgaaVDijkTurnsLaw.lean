/- Plain facts on the net turned round: no Go in sight. -/
import Derived.Test.YtbgkkmcobijkgaaVDijkMoreLaw
namespace Go.Proofs.Ytbgkkmcobijkgaa.DijkTurnsPlain
open NetLaw BellLaw DijkLaw DijkMorePlain
set_option linter.unusedSimpArgs false
set_option linter.unusedVariables false
def turned (l : List E) : List E := l.map fun e => (e.2.1, e.1, e.2.2)
theorem turned_turned (l : List E) : turned (turned l) = l := by
  induction l with
  | nil => rfl
  | cons e r ih => exact congrArg (e :: ·) ih
theorem wk_cons {l : List E} {e : E} {v d : Int} (he : e ∈ l) (h : Wk l e.2.1 v d) : Wk l e.1 v (e.2.2 + d) := by
  have h1 : Wk l e.1 e.2.1 (0 + e.2.2) := Wk.step Wk.here he rfl
  have h2 := wk_join h1 h
  rwa [Int.zero_add] at h2
theorem wk_turn {l : List E} {a v d : Int} (h : Wk l a v d) : Wk (turned l) v a d := by
  induction h with
  | here => exact Wk.here
  | @step u d e hu he hf ih =>
    have hm : ((e.2.1, e.1, e.2.2) : E) ∈ turned l := by unfold turned; rw [List.mem_map]; exact ⟨e, he, rfl⟩
    subst hf
    have h1 := wk_cons (e := (e.2.1, e.1, e.2.2)) hm ih
    rw [Int.add_comm] at h1
    exact h1
theorem turns {N a b : Int} {l : List E} {D M : List Int} (hD : Sh N a l D) (hM : Sh N b (turned l) M) (hends : ∀ e ∈ l, 0 ≤ e.1 ∧ e.1 < N ∧ 0 ≤ e.2.1 ∧ e.2.1 < N) (hc : ∀ e ∈ l, 0 ≤ e.2.2) (ha : 0 ≤ a ∧ a < N) (hb : 0 ≤ b ∧ b < N) : dg D b = dg M a := by
  have hends' : ∀ e ∈ turned l, 0 ≤ e.1 ∧ e.1 < N ∧ 0 ≤ e.2.1 ∧ e.2.1 < N := fun e he => by
    unfold turned at he
    rw [List.mem_map] at he
    obtain ⟨x, hx, rfl⟩ := he
    have := hends x hx
    exact ⟨this.2.2.1, this.2.2.2, this.1, this.2.1⟩
  have hc' : ∀ e ∈ turned l, 0 ≤ e.2.2 := fun e he => by
    unfold turned at he
    rw [List.mem_map] at he
    obtain ⟨x, hx, rfl⟩ := he
    exact hc x hx
  have l1 := hD.lo b hb.1 hb.2
  have l2 := hM.lo a ha.1 ha.2
  have h1 : dg D b ≤ dg M a := by
    by_cases h : dg M a < far
    · have w := wk_turn (hM.wk a ha.1 ha.2 h)
      rw [turned_turned] at w
      exact hD.walk_le hends w h hc
    · omega
  have h2 : dg M a ≤ dg D b := by
    by_cases h : dg D b < far
    · exact hM.walk_le hends' (wk_turn (hD.wk b hb.1 hb.2 h)) h hc'
    · omega
  omega
end Go.Proofs.Ytbgkkmcobijkgaa.DijkTurnsPlain
