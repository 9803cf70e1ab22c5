/- The walks of the laws' own small helpers: two, SameNet. -/
import Derived.Test.YtbgkkmcobijkgaaNetTurn
import Derived.Test.YtbgkkmcobijkgaaRowSet
import Derived.Test.YtbgkkmcobijkgaaStdE
import Derived.Test.YtbgkkmcobijkgaaStdI
import Derived.BigRegion
import Derived.BigQuiet
namespace Go.Proofs.Ytbgkkmcobijkgaa.Refs
open Go.RowKit Go.Proofs.Ytbgkkmcobijkgaa NetLaw Go.Proofs.Ytbgkkmcobijkgaa.Net Go.Proofs.Ytbgkkmcobijkgaa.Std
set_option linter.unusedSimpArgs false
set_option linter.unusedVariables false

theorem two_any (w : World) : Calls Try.prog 24 #[] w fun e w' => ∃ g, e = .returned (.agg #[.int .i64 2, .slice (some ⟨g, 0, none⟩) 1 1]) ∧ Own w' w.heap.size 37 3 ce (.slice (some ⟨g, 0, none⟩) 1 1) [(0, 1, 5)] ∧ Below w.heap.size w w' := by
  have hR := heap_alloc_new w (.cells #[.int .i64 0, .slice none 0 0] 32)
  have hR1 := blk_alloc hR (.cells #[.int .i64 0, .int .i64 1, .int .i64 5] 37)
  have h0 := blk_cell hR1 0
  have h1 := blk_cell hR1 1
  have f0 := blk_free hR1 0
  have f1 := blk_free hR1 1
  simp only [List.getElem?_toArray, List.getElem?_cons_zero, List.getElem?_cons_succ] at h0 h1
  go_enter Try.func24, Try.ntmps24
  go_wp2
  refine bodyPost_ret (v := .agg #[.int .i64 2, .slice (some ⟨w.heap.size + 1, 0, none⟩) 1 1]) (by simp [results, Try.results24, go_sem, h0, h1]) rfl ⟨w.heap.size + 1, rfl, ?_, ?_⟩
  · exact own_new' (w.alloc (.cells #[.int .i64 2, .slice (some ⟨w.heap.size + 1, 0, none⟩) 1 1] 32)) _ _ (by simp) rfl (by simp) (by decide) rfl
  · exact ((Below.refl _ _).alloc (Nat.le_refl _) _).alloc (by simp) _
end Go.Proofs.Ytbgkkmcobijkgaa.Refs
