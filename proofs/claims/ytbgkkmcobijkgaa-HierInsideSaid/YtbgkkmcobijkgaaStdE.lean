/- Go's own slices package at []Edge: what Equal, Index and Contains answer. -/
import Derived.Test.YtbgkkmcobijkgaaStdI
import Derived.Laws.StructEq
namespace Go.Proofs.Ytbgkkmcobijkgaa.Std
open Go.RowKit Go.Proofs.Ytbgkkmcobijkgaa
set_option linter.unusedSimpArgs false
set_option linter.unusedVariables false
abbrev E3 := Int × Int × Int

theorem eqInE (w : World) (a b c x y z : Int) : (Op.equalIn 10000 37 (.agg #[.int .i64 a, .int .i64 b, .int .i64 c]) (.agg #[.int .i64 x, .int .i64 y, .int .i64 z])).run Try.prog w = .ok (decide ((a, b, c) = (x, y, z))) w := by
  rw [run_equalIn_agg w 9999 _ _ _ (by kernel_rfl) (by kernel_rfl)]
  by_cases h1 : a = x
  · by_cases h2 : b = y
    · by_cases h3 : c = z
      · simp [Program.fieldsOf, Try.underlying37, Op.eqFields, part, Try.underlying3, go_sem, h1, h2, h3]
      · simp [Program.fieldsOf, Try.underlying37, Op.eqFields, part, Try.underlying3, go_sem, h1, h2, h3]
    · simp [Program.fieldsOf, Try.underlying37, Op.eqFields, part, Try.underlying3, go_sem, h1, h2]
  · simp [Program.fieldsOf, Try.underlying37, Op.eqFields, part, Try.underlying3, go_sem, h1]
theorem eqlE (w : World) (a b c x y z : Int) : (binOp .eql 37 (.agg #[.int .i64 a, .int .i64 b, .int .i64 c]) (.agg #[.int .i64 x, .int .i64 y, .int .i64 z])).run Try.prog w = .ok (.bool (decide ((a, b, c) = (x, y, z)))) w := by
  rw [run_eql_struct, eqInE]; rfl
theorem neqE (w : World) (a b c x y z : Int) : (binOp .neq 37 (.agg #[.int .i64 a, .int .i64 b, .int .i64 c]) (.agg #[.int .i64 x, .int .i64 y, .int .i64 z])).run Try.prog w = .ok (.bool (!decide ((a, b, c) = (x, y, z)))) w := by
  rw [run_neq_struct, eqInE]; rfl

/-- what Index answers, and Contains -/
def IndexSays (l : List E3) (v : E3) (w : World) (e : Ending) (w' : World) : Prop :=
  ∃ i : Int, e = .returned (.int .i64 i) ∧ decide (0 ≤ i) = decide (v ∈ l) ∧ Below w.heap.size w w'
end Go.Proofs.Ytbgkkmcobijkgaa.Std
