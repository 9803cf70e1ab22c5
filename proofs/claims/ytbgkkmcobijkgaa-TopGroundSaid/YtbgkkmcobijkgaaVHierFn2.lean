/- What the laws of squares share: a grid's box, the small ground, its doors. -/
/- hier.Dist and hier.Between of the small ground; dijk.Dist of a ground's net. -/
import Derived.Test.YtbgkkmcobijkgaaVHierDoorsW
import Derived.Test.YtbgkkmcobijkgaaVStdOnce
import Derived.Test.YtbgkkmcobijkgaaVHierDist
import Derived.Test.YtbgkkmcobijkgaaVDijkTwo
namespace Go.Proofs.Ytbgkkmcobijkgaa.Hier
open Go.RowKit Go.Proofs.Ytbgkkmcobijkgaa GridLaw GroundLaw HierLaw Go.Proofs.Ytbgkkmcobijkgaa.Grid Go.Proofs.Ytbgkkmcobijkgaa.Net Go.Proofs.Ytbgkkmcobijkgaa.NetOf Go.Proofs.Ytbgkkmcobijkgaa.Flow Go.Proofs.Ytbgkkmcobijkgaa.Std
set_option linter.unusedSimpArgs false
set_option linter.unusedVariables false
theorem own_caps {α : Type} {w : World} {b : Nat} {e : TypeId} {sz : Nat} {cell : α → Nat → Value} {A : Option Addr} {n c : Nat} {l : List α} (h : Own w b e sz cell (.slice A n c) l) : n ≤ c ∧ c ≤ 9223372036854775807 := by
  rcases h.2 with ⟨h1, h2⟩ | ⟨g', cap, cur, h1, _, _, hc, hm, _⟩
  · injection h1 with _ h3 h4
    omega
  · injection h1 with _ h3 h4
    unfold maxLen at hm
    have := h.1
    have h5 := h.sl.1
    omega
/-- a grid's box stays -/
theorem gbox {w X : World} {W H : Int} {A : Option Addr} {c : Nat} {l : List Int} (hl : Sl w w.heap.size 1 ci A l) (hX : Below (w.heap.size + 1) (w.alloc (.cells #[.int .i64 W, .int .i64 H, .slice A l.length c] 24)) X) :
    (X.cell? ⟨w.heap.size, 0, none⟩ = some (.int .i64 W) ∧ X.cell? ⟨w.heap.size, 1, none⟩ = some (.int .i64 H) ∧ X.cell? ⟨w.heap.size, 2, none⟩ = some (.slice A l.length c)) ∧ Sl X X.heap.size 1 ci A l ∧ Below w.heap.size w X ∧ w.heap.size + 1 ≤ X.heap.size := by
  have h0 := blk_below (heap_alloc_new w (.cells #[.int .i64 W, .int .i64 H, .slice A l.length c] 24)) hX (Nat.lt_succ_self _)
  have hB : Below w.heap.size w X := ((Below.refl _ _).alloc (Nat.le_refl _) _).trans (hX.mono (Nat.le_succ _))
  exact ⟨⟨blk_cell h0 0, blk_cell h0 1, blk_cell h0 2⟩, (hl.keep hB (Nat.le_refl _)).more hB.size, hB, lt_of_block h0⟩
set_option maxHeartbeats 1000000 in
theorem ground_k (w : World) : Calls Try.prog 16 #[] w fun e w' => ∃ S, e = .returned (.agg #[.int .i64 2, .int .i64 1, .slice (some ⟨S, 0, none⟩) 2 2]) ∧ Sl w' w'.heap.size 1 ci (some ⟨S, 0, none⟩) [1, 2] ∧ Below w.heap.size w w' := by
  go_enter Try.func16, Try.ntmps16
  go_wp2
  refine bodyPost_ret (v := .agg #[.int .i64 2, .int .i64 1, .slice (some ⟨w.heap.size + 1, 0, none⟩) 2 2]) (by simp [results, Try.results16, go_sem]) rfl ⟨w.heap.size + 1, rfl, ?_, ?_⟩
  · exact sl_new' (by decide) _ #[.int .i64 1, .int .i64 2] _ _ (by simp) rfl
  · exact ((Below.refl _ _).alloc (Nat.le_refl _) _).alloc (by simp) _
theorem good12 : GGood 2 1 [1, 2] := gchk_zero.1 (by decide +kernel)
theorem drs12 : drs (btw 2 1 (allM 2 1 [1, 2] 2)) 2 = [0, 1] := by decide +kernel
theorem doors_one (S : Nat) (w : World) (hl : Sl w w.heap.size 1 ci (some ⟨S, 0, none⟩) [1, 2]) :
    Calls Try.prog 15 #[.agg #[.int .i64 2, .int .i64 1, .slice (some ⟨S, 0, none⟩) 2 2], .int .i64 1] w fun e w' => ∃ A c, e = .returned (.tuple #[.slice A 2 c, .int .i64 0]) ∧ Sl w' w'.heap.size 1 ci A [0, 1] ∧ Below w.heap.size w w' := by
  refine (Doors_yes 2 1 1 (some ⟨S, 0, none⟩) 2 2 [1, 2] w rfl hl good12 (by decide) (by decide)).mono ?_
  rintro e w' ⟨A, p, c, rfl, hp, hown, hB⟩
  rw [drs12] at hp hown
  obtain rfl : p = 2 := hp.symm
  exact ⟨A, c, rfl, hown.sl.2, hB⟩
end Go.Proofs.Ytbgkkmcobijkgaa.Hier

namespace Go.Proofs.Ytbgkkmcobijkgaa.Hier
open NetLaw hiding E
open Go.RowKit Go.Proofs.Ytbgkkmcobijkgaa BellLaw DijkLaw GridLaw GroundLaw HierLaw Go.Proofs.Ytbgkkmcobijkgaa.Grid Go.Proofs.Ytbgkkmcobijkgaa.Net Go.Proofs.Ytbgkkmcobijkgaa.NetOf Go.Proofs.Ytbgkkmcobijkgaa.Flow Go.Proofs.Ytbgkkmcobijkgaa.Std
set_option linter.unusedSimpArgs false
set_option linter.unusedVariables false
theorem all12 : allM 2 1 [1, 2] 2 = [(0, 1, 15), (1, 0, 15)] := by decide +kernel
theorem inn12 : inn 2 1 [(0, 1, 15), (1, 0, 15)] = [] := by decide +kernel
theorem sh12 : Sh ((2 : Nat) : Int) ((0 : Nat) : Int) [(0, 1, 15), (1, 0, 15)] [0, 15] := by
  refine ⟨rfl, fun v v0 v1 => ?_, rfl, fun v v0 v1 h => ?_, fun e he h => ?_⟩
  · rcases (show v = 0 ∨ v = 1 by omega) with rfl | rfl <;> decide
  · rcases (show v = 0 ∨ v = 1 by omega) with rfl | rfl
    · exact Wk.here
    · exact Wk.step (e := (0, 1, 15)) Wk.here (by simp) rfl
  · simp only [List.mem_cons, List.not_mem_nil, or_false] at he
    rcases he with rfl | rfl <;> decide
theorem dist_one (S : Nat) (w : World) (hl : Sl w w.heap.size 1 ci (some ⟨S, 0, none⟩) [1, 2]) :
    Calls Try.prog 32 #[.agg #[.int .i64 2, .int .i64 1, .slice (some ⟨S, 0, none⟩) 2 2], .int .i64 1, .int .i64 0, .int .i64 1] w fun e w' => e = .returned (.tuple #[.int .i64 15, .int .i64 0]) ∧ Below w.heap.size w w' := by
  refine (dist_yes 2 1 1 0 1 (some ⟨S, 0, none⟩) 2 2 [1, 2] w rfl hl good12 (by decide) (by decide) (by decide) (by decide)).mono ?_
  rintro e w' ⟨x, HX, h0, hb, h⟩
  have hx := HX.out.1
  rw [all12] at hx
  have h15 : x = 15 := (hx _ sh12).symm
  subst h15
  rcases h with ⟨h, _⟩ | ⟨_, h⟩
  · exact absurd h (by decide)
  · exact ⟨h, hb.out⟩
theorem between_one (S : Nat) (w : World) (hl : Sl w w.heap.size 1 ci (some ⟨S, 0, none⟩) [1, 2]) :
    Calls Try.prog 31 #[.agg #[.int .i64 2, .int .i64 1, .slice (some ⟨S, 0, none⟩) 2 2], .int .i64 1, .int .i64 0, .int .i64 1] w fun e w' => e = .returned (.tuple #[.int .i64 0, .int .i64 5]) ∧ Below w.heap.size w w' := by
  refine (between_yes 2 1 1 0 1 (some ⟨S, 0, none⟩) 2 2 [1, 2] w rfl hl good12 (by decide) (by decide) (by decide) (by decide)).mono ?_
  rintro e w' ⟨x, HX, h0, hb, h⟩
  obtain ⟨D, hD, hx⟩ := HX.out
  rw [all12, inn12] at hD
  rcases h with ⟨_, h⟩ | ⟨h1, h⟩
  · exact ⟨h, hb.out⟩
  · have hw := hD.wk 1 (by decide) (by decide) (by show dg D ((1 : Nat) : Int) < far; rw [hx]; exact h1)
    exfalso
    have : ∀ v c, Wk [] ((0 : Nat) : Int) v c → v = 0 := fun v c h => by
      induction h with
      | here => rfl
      | step _ he _ _ => cases he
    have := this _ _ hw
    exact absurd this (by decide)
theorem lk_k {W H k : Int} {l : List Int} (hg : gchk W H l = 0) (hk : ¬ (1 ≤ k ∧ k ≤ 8)) : lk W H l k = 1 := by
  unfold lk
  rw [if_neg (by simp [hg]), if_pos (by omega)]
theorem lk_g {W H k : Int} {l : List Int} (hg : gchk W H l ≠ 0) : lk W H l k = gchk W H l := by
  unfold lk
  rw [if_pos hg]
theorem pos_ground {N : Int} {l : List E} (hg : NetLaw.Good N l) (hc : ∀ e ∈ l, 1 ≤ e.2.2) : Dijk.pos N l = 0 := by
  have h0 : Dijk.posE l = 0 := by
    clear hg
    induction l with
    | nil => rfl
    | cons e r ih =>
      have := hc e (by simp)
      rw [Dijk.posE, if_neg (by omega)]
      exact ih fun x hx => hc x (by simp [hx])
  rw [Dijk.pos, if_neg (by simpa using chk_zero.2 hg)]
  exact h0
theorem look_ground {N a : Int} {l : List E} (hg : NetLaw.Good N l) (hc : ∀ e ∈ l, 1 ≤ e.2.2) : Dijk.look N l [a] = if a < 0 ∨ N ≤ a then 1 else 0 := by
  rw [Dijk.look, if_neg (by simp [pos_ground hg hc])]
  rfl
end Go.Proofs.Ytbgkkmcobijkgaa.Hier
