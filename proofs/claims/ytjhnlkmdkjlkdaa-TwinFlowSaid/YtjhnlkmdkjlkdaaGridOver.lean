/- The walk of GridTurns' closure: a place turned over. -/
import Derived.Test.YtjhnlkmdkjlkdaaSlice
import Derived.Test.YtjhnlkmdkjlkdaaGridTurnsLaw
import Derived.Test.YtjhnlkmdkjlkdaaStdR
import Derived.Deep.OwnRows
namespace Go.Proofs.Ytjhnlkmdkjlkdaa.Grid
open Go.RowKit Go.Proofs.Ytjhnlkmdkjlkdaa GridLaw
set_option linter.unusedSimpArgs false
set_option linter.unusedVariables false
theorem made_list (n : Nat) : (madeCells #[.int .i64 0] n).toList = fl 1 ci (List.replicate n 0) := by
  rw [fl_map]
  refine List.ext_getElem (by simp [madeCells]) fun i h1 h2 => ?_
  simp [madeCells, ci, Nat.mod_one]
/-- a list that 'make' has laid -/
theorem own_made (n base : Nat) (w : World) (hb : base ≤ w.heap.size) (hn : n ≤ 64) {g : Nat} (hg : w.heap.size = g) : Own (w.alloc (.cells (madeCells #[.int .i64 0] n) 3)) base 3 1 ci (.slice (some ⟨g, 0, none⟩) n n) (List.replicate n 0) := by
  subst hg
  obtain ⟨i, hi, hzz⟩ := Option.map_eq_some_iff.1 (show (Try.prog.info? 3).map (fun i => (i.zero, i.size, i.bytes)) = some (some (.int .i64 0), 1, 8) by kernel_rfl)
  simp only [Prod.mk.injEq] at hzz
  obtain ⟨hz, hs, hby⟩ := hzz
  obtain ⟨w', hr, ho, _⟩ := run_make_full (P := Try.prog) w base 25 3 i (.int .i64 0) 1 Try.underlying25 hi hz hs .i64 .i64 n (by rw [hby]; omega) (by unfold maxLen; omega) hb
  rw [run_make_row' (P := Try.prog) 25 3 (.int .i64 0) 8 Try.underlying25 (by kernel_rfl) rfl .i64 .i64 n (by omega) (by omega)] at hr
  injection hr with _ hw
  subst hw
  unfold Own
  rw [List.length_replicate, ← made_list]
  have e : n * 1 = n := Nat.mul_one n
  rw [e] at ho
  exact ho
theorem own_tail {w : World} {base : Nat} {A : Option Addr} {n c : Nat} {l : List Int} (h : Own w base 3 1 ci (.slice A n c) l) : Sl w w.heap.size 1 ci A l := h.sl.2
end Go.Proofs.Ytjhnlkmdkjlkdaa.Grid
