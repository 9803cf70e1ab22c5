/- The walk of GridTurns' closure: a place turned over. -/
import Derived.Test.YthlhlglmkcbgaaaSlice
import Derived.Test.YthlhlglmkcbgaaaGridTurnsLaw
import Derived.Test.YthlhlglmkcbgaaaStdR
import Derived.Deep.OwnRows
namespace Go.Proofs.Ythlhlglmkcbgaaa.Grid
open Go.RowKit Go.Proofs.Ythlhlglmkcbgaaa GridLaw
set_option linter.unusedSimpArgs false
set_option linter.unusedVariables false
set_option maxHeartbeats 1000000 in
theorem over_any (W : Int) (v : Int) (g : Nat) (w : World) (hW : 1 ≤ W) (hW8 : W ≤ 8) (hv : 0 ≤ v) (hv2 : v < 64) (j : Int) (hj : ov W v = j) (hc : w.cell? ⟨g, 0, none⟩ = some (.int .i64 W)) :
    Calls Try.prog 42 #[.int .i64 v, .pointer (some ⟨g, 0, none⟩)] w fun e w' => e = .returned (.int .i64 j) ∧ w' = w.drew := by
  have t1 : v.tmod W = v % W := Int.tmod_eq_emod_of_nonneg hv
  have t2 : v.tdiv W = v / W := Int.tdiv_eq_ediv_of_nonneg hv
  have t3 : (W == 0) = false := beq_eq_false_iff_ne.2 (by omega)
  have x0 : 0 ≤ v % W := Int.emod_nonneg _ (by omega)
  have x1 : v % W < W := Int.emod_lt_of_pos _ (by omega)
  have y0 : 0 ≤ v / W := Int.ediv_nonneg hv (by omega)
  have hxy : v / W * W + v % W = v := Int.ediv_mul_add_emod v W
  have y2 : 0 ≤ v / W * W := Int.mul_nonneg y0 (by omega)
  have y1 : v / W < 64 := Int.lt_of_le_of_lt (Int.ediv_le_self _ hv) hv2
  have y3 : v / W * W < 64 := by omega
  unfold ov at hj
  generalize v % W = x at *
  generalize v / W = y at *
  have HJ := Lib.hid hj
  clear hxy hj
  go_enter Try.func42, Try.ntmps42
  go_wp2
  go_region
  go_wp2
  go_ret
  exact ⟨ret_int HJ.out, rfl⟩
theorem made_list (n : Nat) : (madeCells #[.int .i64 0] n).toList = fl 1 ci (List.replicate n 0) := by
  rw [fl_map]
  refine List.ext_getElem (by simp [madeCells]) fun i h1 h2 => ?_
  simp [madeCells, ci, Nat.mod_one]
/-- a list that 'make' has laid -/
theorem own_made (n base : Nat) (w : World) (hb : base ≤ w.heap.size) (hn : n ≤ 64) {g : Nat} (hg : w.heap.size = g) : Own (w.alloc (.cells (madeCells #[.int .i64 0] n) 3)) base 3 1 ci (.slice (some ⟨g, 0, none⟩) n n) (List.replicate n 0) := by
  subst hg
  obtain ⟨i, hi, hzz⟩ := Option.map_eq_some_iff.1 (show (Try.prog.info? 3).map (fun i => (i.zero, i.size, i.bytes)) = some (some (.int .i64 0), 1, 8) by kernel_rfl)
  simp only [Prod.mk.injEq] at hzz
  obtain ⟨hz, hs, hby⟩ := hzz
  obtain ⟨w', hr, ho, _⟩ := run_make_full (P := Try.prog) w base 32 3 i (.int .i64 0) 1 Try.underlying32 hi hz hs .i64 .i64 n (by rw [hby]; omega) (by unfold maxLen; omega) hb
  rw [run_make_row' (P := Try.prog) 32 3 (.int .i64 0) 8 Try.underlying32 (by kernel_rfl) rfl .i64 .i64 n (by omega) (by omega)] at hr
  injection hr with _ hw
  subst hw
  unfold Own
  rw [List.length_replicate, ← made_list]
  have e : n * 1 = n := Nat.mul_one n
  rw [e] at ho
  exact ho
theorem own_tail {w : World} {base : Nat} {A : Option Addr} {n c : Nat} {l : List Int} (h : Own w base 3 1 ci (.slice A n c) l) : Sl w w.heap.size 1 ci A l := h.sl.2
end Go.Proofs.Ythlhlglmkcbgaaa.Grid
