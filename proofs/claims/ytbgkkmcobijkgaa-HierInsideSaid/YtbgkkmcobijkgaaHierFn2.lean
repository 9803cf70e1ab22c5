/- hier.Dist and hier.Between of the small ground; dijk.Dist of a ground's net. -/
import Derived.Test.YtbgkkmcobijkgaaHierDist
import Derived.Test.YtbgkkmcobijkgaaHierFn
import Derived.Test.YtbgkkmcobijkgaaDijkTwo
namespace Go.Proofs.Ytbgkkmcobijkgaa.Hier
open NetLaw hiding E
open Go.RowKit Go.Proofs.Ytbgkkmcobijkgaa BellLaw DijkLaw GridLaw GroundLaw HierLaw Go.Proofs.Ytbgkkmcobijkgaa.Grid Go.Proofs.Ytbgkkmcobijkgaa.Net Go.Proofs.Ytbgkkmcobijkgaa.NetOf Go.Proofs.Ytbgkkmcobijkgaa.Flow Go.Proofs.Ytbgkkmcobijkgaa.Std
set_option linter.unusedSimpArgs false
set_option linter.unusedVariables false
theorem all12 : allM 2 1 [1, 2] 2 = [(0, 1, 15), (1, 0, 15)] := by decide +kernel
theorem inn12 : inn 2 1 [(0, 1, 15), (1, 0, 15)] = [] := by decide +kernel
theorem sh12 : Sh ((2 : Nat) : Int) ((0 : Nat) : Int) [(0, 1, 15), (1, 0, 15)] [0, 15] := by
  refine ⟨rfl, fun v v0 v1 => ?_, rfl, fun v v0 v1 h => ?_, fun e he h => ?_⟩
  · rcases (show v = 0 ∨ v = 1 by omega) with rfl | rfl <;> decide
  · rcases (show v = 0 ∨ v = 1 by omega) with rfl | rfl
    · exact Wk.here
    · exact Wk.step (e := (0, 1, 15)) Wk.here (by simp) rfl
  · simp only [List.mem_cons, List.not_mem_nil, or_false] at he
    rcases he with rfl | rfl <;> decide
theorem dist_one (S : Nat) (w : World) (hl : Sl w w.heap.size 1 ci (some ⟨S, 0, none⟩) [1, 2]) :
    Calls Try.prog 32 #[.agg #[.int .i64 2, .int .i64 1, .slice (some ⟨S, 0, none⟩) 2 2], .int .i64 1, .int .i64 0, .int .i64 1] w fun e w' => e = .returned (.tuple #[.int .i64 15, .int .i64 0]) ∧ Below w.heap.size w w' := by
  refine (dist_yes 2 1 1 0 1 (some ⟨S, 0, none⟩) 2 2 [1, 2] w rfl hl good12 (by decide) (by decide) (by decide) (by decide)).mono ?_
  rintro e w' ⟨x, HX, h0, hb, h⟩
  have hx := HX.out.1
  rw [all12] at hx
  have h15 : x = 15 := (hx _ sh12).symm
  subst h15
  rcases h with ⟨h, _⟩ | ⟨_, h⟩
  · exact absurd h (by decide)
  · exact ⟨h, hb.out⟩
theorem between_one (S : Nat) (w : World) (hl : Sl w w.heap.size 1 ci (some ⟨S, 0, none⟩) [1, 2]) :
    Calls Try.prog 31 #[.agg #[.int .i64 2, .int .i64 1, .slice (some ⟨S, 0, none⟩) 2 2], .int .i64 1, .int .i64 0, .int .i64 1] w fun e w' => e = .returned (.tuple #[.int .i64 0, .int .i64 5]) ∧ Below w.heap.size w w' := by
  refine (between_yes 2 1 1 0 1 (some ⟨S, 0, none⟩) 2 2 [1, 2] w rfl hl good12 (by decide) (by decide) (by decide) (by decide)).mono ?_
  rintro e w' ⟨x, HX, h0, hb, h⟩
  obtain ⟨D, hD, hx⟩ := HX.out
  rw [all12, inn12] at hD
  rcases h with ⟨_, h⟩ | ⟨h1, h⟩
  · exact ⟨h, hb.out⟩
  · have hw := hD.wk 1 (by decide) (by decide) (by show dg D ((1 : Nat) : Int) < far; rw [hx]; exact h1)
    exfalso
    have : ∀ v c, Wk [] ((0 : Nat) : Int) v c → v = 0 := fun v c h => by
      induction h with
      | here => rfl
      | step _ he _ _ => cases he
    have := this _ _ hw
    exact absurd this (by decide)
theorem lk_k {W H k : Int} {l : List Int} (hg : gchk W H l = 0) (hk : ¬ (1 ≤ k ∧ k ≤ 8)) : lk W H l k = 1 := by
  unfold lk
  rw [if_neg (by simp [hg]), if_pos (by omega)]
theorem lk_g {W H k : Int} {l : List Int} (hg : gchk W H l ≠ 0) : lk W H l k = gchk W H l := by
  unfold lk
  rw [if_pos hg]
theorem pos_ground {N : Int} {l : List E} (hg : NetLaw.Good N l) (hc : ∀ e ∈ l, 1 ≤ e.2.2) : Dijk.pos N l = 0 := by
  have h0 : Dijk.posE l = 0 := by
    clear hg
    induction l with
    | nil => rfl
    | cons e r ih =>
      have := hc e (by simp)
      rw [Dijk.posE, if_neg (by omega)]
      exact ih fun x hx => hc x (by simp [hx])
  rw [Dijk.pos, if_neg (by simpa using chk_zero.2 hg)]
  exact h0
theorem look_ground {N a : Int} {l : List E} (hg : NetLaw.Good N l) (hc : ∀ e ∈ l, 1 ≤ e.2.2) : Dijk.look N l [a] = if a < 0 ∨ N ≤ a then 1 else 0 := by
  rw [Dijk.look, if_neg (by simp [pos_ground hg hc])]
  rfl
end Go.Proofs.Ytbgkkmcobijkgaa.Hier
