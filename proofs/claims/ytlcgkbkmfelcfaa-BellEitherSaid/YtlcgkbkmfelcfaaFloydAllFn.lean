/- What floyd.All answers. -/
import Derived.Test.YtlcgkbkmfelcfaaFloydAll
import Derived.Test.YtlcgkbkmfelcfaaRowsInt
import Derived.Laws.EntriesVeiled
namespace Go.Proofs.Ytlcgkbkmfelcfaa.FloydAll
open Go.RowKit Go.Proofs.Ytlcgkbkmfelcfaa NetLaw BellLaw FloydLaw Go.Proofs.Ytlcgkbkmfelcfaa.Net Go.Proofs.Ytlcgkbkmfelcfaa.Std Go.Proofs.Ytlcgkbkmfelcfaa.Mat Go.Proofs.Ytlcgkbkmfelcfaa.RowsInt
set_option linter.unusedSimpArgs false
set_option linter.unusedVariables false
/-- does some place cost less than 0 from itself? -/
def neg (n : Nat) (M : Mx Int) : Bool := (List.range n).any fun i => decide (M i i < 0)
theorem neg_false {n : Nat} {M : Mx Int} (h : neg n M = false) (i : Nat) (hi : i < n) : 0 ≤ M i i := by
  rw [neg, List.any_eq_false] at h
  have := h i (List.mem_range.2 hi)
  simp at this
  omega
theorem neg_true {n : Nat} {M : Mx Int} {i : Nat} (hi : i < n) (h : M i i < 0) : neg n M = true := by
  rw [neg, List.any_eq_true]
  exact ⟨i, List.mem_range.2 hi, by simpa using h⟩
/-- the fault that All tells -/
def aerr (N : Int) (l : List E) : Int := if chk N l ≠ 0 then chk N l else if neg N.toNat (all N.toNat l) = true then 6 else 0
/-- what All answers -/
def Says (N : Int) (l : List E) (w : World) (e : Ending) (w' : World) : Prop :=
  (aerr N l ≠ 0 → e = .returned (.tuple #[.slice none 0 0, .int .i64 (aerr N l)])) ∧
  (aerr N l = 0 → ∃ S F, e = .returned (.tuple #[.slice (some ⟨S, 0, none⟩) N.toNat N.toNat, .int .i64 0]) ∧ Mt w' 25 3 q w.heap.size S N.toNat N.toNat F (all N.toNat l)) ∧ Below w.heap.size w w'
theorem two_e : aerr 2 [(0, 1, 5)] = 0 := by decide +kernel
theorem two_v : rows 2 (all 2 [(0, 1, 5)]) = [[0, 5], [far, 0]] := by decide +kernel
end Go.Proofs.Ytlcgkbkmfelcfaa.FloydAll
