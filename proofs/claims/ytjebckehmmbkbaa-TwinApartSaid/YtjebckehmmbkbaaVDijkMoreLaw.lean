/- Plain facts on one edge more: no Go in sight. -/
import Derived.Test.YtjebckehmmbkbaaVDijkLaw
namespace Go.Proofs.Ytjebckehmmbkbaa.DijkMorePlain
open NetLaw BellLaw DijkLaw
set_option linter.unusedSimpArgs false
set_option linter.unusedVariables false
theorem wk_mono {l m : List E} {fr v d : Int} (h : Wk l fr v d) (hs : ∀ e ∈ l, e ∈ m) : Wk m fr v d := by
  induction h with
  | here => exact Wk.here
  | step _ he hf ih => exact Wk.step ih (hs _ he) hf
theorem wk_join {l : List E} {a u v d d' : Int} (h : Wk l a u d) (h' : Wk l u v d') : Wk l a v (d + d') := by
  induction h' with
  | here => rw [Int.add_zero]; exact h
  | step _ he hf ih => rw [← Int.add_assoc]; exact Wk.step ih he hf
/-- what it costs over the edge x -/
def over (D T : List Int) (x : E) (v : Int) : Int := if dg D x.1 < far ∧ dg T v < far then dg D x.1 + x.2.2 + dg T v else far
theorem more {N fr : Int} {l : List E} {x : E} {D M T : List Int} (hD : Sh N fr l D) (hM : Sh N fr (l ++ [x]) M) (hT : Sh N x.2.1 l T)
    (hends : ∀ e ∈ l ++ [x], 0 ≤ e.1 ∧ e.1 < N ∧ 0 ≤ e.2.1 ∧ e.2.1 < N) (hc : ∀ e ∈ l ++ [x], 0 ≤ e.2.2) (v : Int) (v0 : 0 ≤ v) (v1 : v < N) : dg M v = min (dg D v) (over D T x v) := by
  have hx : x ∈ l ++ [x] := by simp
  obtain ⟨a0, a1, b0, b1⟩ := hends x hx
  have hcx := hc x hx
  have hin : ∀ e ∈ l, e ∈ l ++ [x] := fun e he => List.mem_append_left _ he
  have key : ∀ v d, Wk (l ++ [x]) fr v d → d < far → dg D v ≤ d ∨ (dg D x.1 < far ∧ dg T v < far ∧ dg D x.1 + x.2.2 + dg T v ≤ d) := by
    intro v d hw
    induction hw with
    | here => intro _; left; rw [hD.st]; exact Int.le_refl _
    | step hu he hf ih =>
      intro hd
      have hce := hc _ he
      have ih := ih (by omega)
      subst hf
      rcases List.mem_append.1 he with hl | hl
      · rcases ih with h | ⟨h1, h2, h3⟩
        · left
          have := hD.still _ hl (by omega)
          omega
        · right
          have h4 := hT.still _ hl h2
          have h5 := (hD.lo x.1 a0 a1).1
          exact ⟨h1, by omega, by omega⟩
      · rw [List.mem_singleton] at hl
        subst hl
        have hst := hT.st
        have hT0 := (hT.lo _ a0 a1).1
        have hfar : (0 : Int) < far := by unfold far; omega
        right
        rcases ih with h | ⟨h1, h2, h3⟩
        · exact ⟨by omega, by omega, by omega⟩
        · exact ⟨h1, by omega, by omega⟩
  have lM := hM.lo v v0 v1
  have lD := hD.lo v v0 v1
  have lT := hT.lo v v0 v1
  have h1 : dg M v ≤ dg D v := by
    by_cases h : dg D v < far
    · exact hM.walk_le hends (wk_mono (hD.wk v v0 v1 h) hin) h hc
    · omega
  have h2 : dg M v ≤ over D T x v := by
    unfold over
    split
    · rename_i h
      by_cases hw : dg D x.1 + x.2.2 + dg T v < far
      · have w1 := wk_mono (hD.wk x.1 a0 a1 h.1) hin
        have w2 := Wk.step w1 hx rfl
        have w3 := wk_mono (hT.wk v v0 v1 h.2) hin
        exact hM.walk_le hends (wk_join w2 w3) hw hc
      · omega
    · omega
  have h3 : dg D v ≤ dg M v ∨ over D T x v ≤ dg M v := by
    by_cases h : dg M v < far
    · rcases key v _ (hM.wk v v0 v1 h) h with k | ⟨k1, k2, k3⟩
      · exact .inl k
      · right
        unfold over
        rw [if_pos ⟨k1, k2⟩]
        exact k3
    · left; omega
  omega
end Go.Proofs.Ytjebckehmmbkbaa.DijkMorePlain
