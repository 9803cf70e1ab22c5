/- The walk of grid.Moves where it refuses. -/
import Derived.Test.YthlhlglmkcbgaaaGridSteps
namespace Go.Proofs.Ythlhlglmkcbgaaa.Grid
open Go.RowKit Go.Proofs.Ythlhlglmkcbgaaa GridLaw
set_option linter.unusedSimpArgs false
set_option linter.unusedVariables false
/-- what Moves answers where it refuses -/
def NoMoves (w : World) (e : Ending) (w' : World) : Prop := ∃ x : Int, x ≠ 0 ∧ e = .returned (.tuple #[.slice none 0 0, .int .i64 x]) ∧ Below w.heap.size w w'
set_option maxRecDepth 100000 in
set_option maxHeartbeats 1000000 in
theorem moves_no (W H a : Int) (A : Option Addr) (c : Nat) (l : List Int) (w : World) (hl : Sl w w.heap.size 1 ci A l) (hlen : l.length ≤ 9223372036854775807) (hno : ¬ (GGood W H l ∧ 0 ≤ a ∧ a < l.length)) :
    Calls Try.prog 39 #[.agg #[.int .i64 W, .int .i64 H, .slice A l.length c], .int .i64 a] w fun e w' => NoMoves w e w' := by
  have hw0 : Below w.heap.size w (w.alloc (.cells #[.int .i64 W, .int .i64 H, .slice A l.length c] 70)) := (Below.refl _ _).alloc (Nat.le_refl _) _
  have kc := fun W' hs => check_any W H A c l W' hs hlen
  by_cases hg : GGood W H l
  · rw [gchk_zero.2 hg] at kc
    have KC := Lib.hid kc
    clear kc
    have hcs : a < 0 ∨ (0 ≤ a ∧ (l.length : Int) ≤ a) := by
      rcases (show a < 0 ∨ 0 ≤ a from by omega) with h | h
      · exact .inl h
      · right
        refine ⟨h, ?_⟩
        rcases (show (l.length : Int) ≤ a ∨ a < l.length from by omega) with h' | h'
        · exact h'
        · exact absurd ⟨hg, h, h'⟩ hno
    clear hno hg
    rcases hcs with h | ⟨h, h'⟩
    all_goals
      go_enter Try.func39, Try.ntmps39
      go_wp2_with fail
      refine (KC.out _ ((hl.keep hw0 (Nat.le_refl _)).more (by simp))).mono ?_
      rintro e v1 ⟨rfl, hb1⟩
      have B1 : Below (w.heap.size + 1) (w.alloc (.cells #[.int .i64 W, .int .i64 H, .slice A l.length c] 70)) v1 := hb1.mono (by simp)
      have Z1 : w.heap.size + 1 ≤ v1.heap.size := by have := hb1.size; simp at this; omega
      have z1 : w.heap.size < v1.heap.size := by omega
      have H1 : Below w.heap.size w v1 := hw0.trans (B1.mono (Nat.le_succ _))
      obtain ⟨cc1, ff1⟩ := keepAt B1 (Nat.lt_succ_self _)
      clear hb1 hl
      go_wp2
      go_ret2
      exact ⟨1, by decide, rfl, H1⟩
  · have hz : gchk W H l ≠ 0 := fun h => hg (gchk_zero.1 h)
    generalize gchk W H l = x at hz kc
    have hz1 : (x != 0) = true := by rw [bne_iff_ne]; exact hz
    have HZ := Lib.hid hz
    have KC := Lib.hid kc
    clear kc hz hg hno
    go_enter Try.func39, Try.ntmps39
    go_wp2_with fail
    refine (KC.out _ ((hl.keep hw0 (Nat.le_refl _)).more (by simp))).mono ?_
    rintro e v1 ⟨rfl, hb1⟩
    have H1 : Below w.heap.size w v1 := hw0.trans (hb1.mono (by simp))
    clear hb1 hl
    go_wp2
    go_ret2
    exact ⟨x, HZ.out, rfl, H1⟩
end Go.Proofs.Ythlhlglmkcbgaaa.Grid
