/- The array of steps round a place: grid.steps. -/
import Derived.Test.YtbgkkmcobijkgaaGridWalks
namespace Go.Proofs.Ytbgkkmcobijkgaa.Grid
open Go.RowKit Go.Proofs.Ytbgkkmcobijkgaa GridLaw
set_option linter.unusedSimpArgs false
set_option linter.unusedVariables false

/-- the array of steps -/
def stV : Value := .agg #[.int .i64 0, .int .i64 (-1), .int .i64 1, .int .i64 (-1), .int .i64 1, .int .i64 0, .int .i64 1, .int .i64 1, .int .i64 0, .int .i64 1, .int .i64 (-1), .int .i64 1, .int .i64 (-1), .int .i64 0, .int .i64 (-1), .int .i64 (-1)]
set_option maxHeartbeats 1000000 in
theorem steps_any (w : World) :
    Calls Try.prog 73 #[] w fun e w' => e = .returned stV ∧ Below w.heap.size w w' := by
  go_enter Try.func73, Try.ntmps73
  go_wp2
  refine bodyPost_ret (v := stV) (by simp [results, Try.results73, go_sem, stV]) rfl ⟨rfl, (Below.refl _ _).alloc (Nat.le_refl _) _⟩
theorem st_idx (k : Nat) (h : k < 8) : ∃ sx sy : Int, st[k]? = some (sx, sy) ∧ (-1 ≤ sx ∧ sx ≤ 1) ∧ (-1 ≤ sy ∧ sy ≤ 1) ∧ ∀ w : World, (Instr.index 120 stV (.int .i64 (k : Int))).run Try.prog w = .ok (.agg #[.int .i64 sx, .int .i64 sy]) w := by
  match k, h with
  | 0, _ => exact ⟨0, -1, rfl, by decide, by decide, fun _ => by kernel_rfl⟩
  | 1, _ => exact ⟨1, -1, rfl, by decide, by decide, fun _ => by kernel_rfl⟩
  | 2, _ => exact ⟨1, 0, rfl, by decide, by decide, fun _ => by kernel_rfl⟩
  | 3, _ => exact ⟨1, 1, rfl, by decide, by decide, fun _ => by kernel_rfl⟩
  | 4, _ => exact ⟨0, 1, rfl, by decide, by decide, fun _ => by kernel_rfl⟩
  | 5, _ => exact ⟨-1, 1, rfl, by decide, by decide, fun _ => by kernel_rfl⟩
  | 6, _ => exact ⟨-1, 0, rfl, by decide, by decide, fun _ => by kernel_rfl⟩
  | 7, _ => exact ⟨-1, -1, rfl, by decide, by decide, fun _ => by kernel_rfl⟩
end Go.Proofs.Ytbgkkmcobijkgaa.Grid
