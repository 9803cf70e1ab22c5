/- What the laws of squares share: a grid's box, the small ground, its doors. -/
import Derived.Test.YtbgkkmcobijkgaaHierDoorsW
import Derived.Test.YtbgkkmcobijkgaaStdOnce
namespace Go.Proofs.Ytbgkkmcobijkgaa.Hier
open Go.RowKit Go.Proofs.Ytbgkkmcobijkgaa GridLaw GroundLaw HierLaw Go.Proofs.Ytbgkkmcobijkgaa.Grid Go.Proofs.Ytbgkkmcobijkgaa.Net Go.Proofs.Ytbgkkmcobijkgaa.NetOf Go.Proofs.Ytbgkkmcobijkgaa.Flow Go.Proofs.Ytbgkkmcobijkgaa.Std
set_option linter.unusedSimpArgs false
set_option linter.unusedVariables false
theorem own_caps {α : Type} {w : World} {b : Nat} {e : TypeId} {sz : Nat} {cell : α → Nat → Value} {A : Option Addr} {n c : Nat} {l : List α} (h : Own w b e sz cell (.slice A n c) l) : n ≤ c ∧ c ≤ 9223372036854775807 := by
  rcases h.2 with ⟨h1, h2⟩ | ⟨g', cap, cur, h1, _, _, hc, hm, _⟩
  · injection h1 with _ h3 h4
    omega
  · injection h1 with _ h3 h4
    unfold maxLen at hm
    have := h.1
    have h5 := h.sl.1
    omega
/-- a grid's box stays -/
theorem gbox {w X : World} {W H : Int} {A : Option Addr} {c : Nat} {l : List Int} (hl : Sl w w.heap.size 1 ci A l) (hX : Below (w.heap.size + 1) (w.alloc (.cells #[.int .i64 W, .int .i64 H, .slice A l.length c] 24)) X) :
    (X.cell? ⟨w.heap.size, 0, none⟩ = some (.int .i64 W) ∧ X.cell? ⟨w.heap.size, 1, none⟩ = some (.int .i64 H) ∧ X.cell? ⟨w.heap.size, 2, none⟩ = some (.slice A l.length c)) ∧ Sl X X.heap.size 1 ci A l ∧ Below w.heap.size w X ∧ w.heap.size + 1 ≤ X.heap.size := by
  have h0 := blk_below (heap_alloc_new w (.cells #[.int .i64 W, .int .i64 H, .slice A l.length c] 24)) hX (Nat.lt_succ_self _)
  have hB : Below w.heap.size w X := ((Below.refl _ _).alloc (Nat.le_refl _) _).trans (hX.mono (Nat.le_succ _))
  exact ⟨⟨blk_cell h0 0, blk_cell h0 1, blk_cell h0 2⟩, (hl.keep hB (Nat.le_refl _)).more hB.size, hB, lt_of_block h0⟩
set_option maxHeartbeats 1000000 in
theorem ground_k (w : World) : Calls Try.prog 16 #[] w fun e w' => ∃ S, e = .returned (.agg #[.int .i64 2, .int .i64 1, .slice (some ⟨S, 0, none⟩) 2 2]) ∧ Sl w' w'.heap.size 1 ci (some ⟨S, 0, none⟩) [1, 2] ∧ Below w.heap.size w w' := by
  go_enter Try.func16, Try.ntmps16
  go_wp2
  refine bodyPost_ret (v := .agg #[.int .i64 2, .int .i64 1, .slice (some ⟨w.heap.size + 1, 0, none⟩) 2 2]) (by simp [results, Try.results16, go_sem]) rfl ⟨w.heap.size + 1, rfl, ?_, ?_⟩
  · exact sl_new' (by decide) _ #[.int .i64 1, .int .i64 2] _ _ (by simp) rfl
  · exact ((Below.refl _ _).alloc (Nat.le_refl _) _).alloc (by simp) _
theorem good12 : GGood 2 1 [1, 2] := gchk_zero.1 (by decide +kernel)
theorem drs12 : drs (btw 2 1 (allM 2 1 [1, 2] 2)) 2 = [0, 1] := by decide +kernel
theorem doors_one (S : Nat) (w : World) (hl : Sl w w.heap.size 1 ci (some ⟨S, 0, none⟩) [1, 2]) :
    Calls Try.prog 15 #[.agg #[.int .i64 2, .int .i64 1, .slice (some ⟨S, 0, none⟩) 2 2], .int .i64 1] w fun e w' => ∃ A c, e = .returned (.tuple #[.slice A 2 c, .int .i64 0]) ∧ Sl w' w'.heap.size 1 ci A [0, 1] ∧ Below w.heap.size w w' := by
  refine (Doors_yes 2 1 1 (some ⟨S, 0, none⟩) 2 2 [1, 2] w rfl hl good12 (by decide) (by decide)).mono ?_
  rintro e w' ⟨A, p, c, rfl, hp, hown, hB⟩
  rw [drs12] at hp hown
  obtain rfl : p = 2 := hp.symm
  exact ⟨A, c, rfl, hown.sl.2, hB⟩
end Go.Proofs.Ytbgkkmcobijkgaa.Hier
