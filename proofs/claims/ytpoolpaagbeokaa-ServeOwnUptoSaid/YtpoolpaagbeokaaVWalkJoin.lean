/- The walk of walk.Join: what it answers. -/
import Derived.Test.YtpoolpaagbeokaaVSlice
namespace Go.Proofs.Ytpoolpaagbeokaa.Walk
open Go.RowKit Go.Proofs.Ytpoolpaagbeokaa
set_option linter.unusedSimpArgs false
set_option linter.unusedVariables false

theorem infoInt : (Try.prog.info? 3).map (fun i => (i.zero, i.size, i.bytes)) = some (some (.int .i64 0), 1, 8) := by kernel_rfl
/-- the two walks fit -/
def fit (a b : List Int) : Prop := a ≠ [] ∧ b ≠ [] ∧ a.getLast? = b.head?
/-- what Join answers where they fit: a list of the call's own -/
def SomeJoin (l : List Int) (w : World) (e : Ending) (w' : World) : Prop :=
  ∃ A c, e = .returned (.tuple #[.slice A l.length c, .int .i64 0]) ∧ Own w' w.heap.size 3 1 ci (.slice A l.length c) l ∧ Below w.heap.size w w'

end Go.Proofs.Ytpoolpaagbeokaa.Walk
