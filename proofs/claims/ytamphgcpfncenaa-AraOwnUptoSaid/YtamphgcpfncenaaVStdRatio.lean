/- Go's slices.Clone at []Edge. -/
/- Go's slices.Clone at []Ratio. -/
import Derived.Test.YtamphgcpfncenaaVStdI
namespace Go.Proofs.Ytamphgcpfncenaa.Std
open Go.RowKit Go.Proofs.Ytamphgcpfncenaa
set_option linter.unusedSimpArgs false
set_option linter.unusedVariables false
theorem infoEdgeC : (Try.prog.info? 27).map (fun i => (i.zero, i.size, i.bytes)) = some (some (.agg #[.int .i64 0, .int .i64 0, .int .i64 0]), 3, 24) := by kernel_rfl
set_option maxHeartbeats 1000000 in
theorem clone_edge (A : Option Addr) (c : Nat) (l : List (Int × Int × Int)) (B : Nat) (w : World) (hl : Sl w B 3 ce A l) (hB : B ≤ w.heap.size) (hA : A = none → l.length = 0 ∧ c = 0) (hlen : l.length * 24 ≤ 140737488355328) :
    Calls Try.prog 13 #[.slice A l.length c] w fun e w' => SomeClone 27 3 ce l w e w' := by
  have qT : ∀ (w : World) (a : Option Addr) (n c n' c' : Nat), (binOp .eql 22 (.slice a n c) (.slice none n' c')).run Try.prog w = .ok (.bool a.isNone) w := fun w a n c n' c' => Lib.run_eql_slice_nil w 22 27 a n c n' c' Try.underlying22
  match A, hA with
  | none, hA =>
    obtain ⟨h0, rfl⟩ := hA rfl
    have hl0 : l = [] := List.eq_nil_of_length_eq_zero h0
    subst hl0
    go_enter Try.func13, Try.ntmps13
    go_wp2
    go_ret
    exact ⟨none, 0, rfl, Own.nil_, Below.refl _ _⟩
  | some ad, hA =>
    obtain ⟨i0, hi, hz0, hz1, hz2⟩ := info_parts infoEdgeC
    have hmade : Own (w.alloc (.cells #[] 27)) w.heap.size 27 3 ce (.slice (some ⟨w.heap.size, 0, none⟩) 0 0) [] := World.ownsRow_made w #[] 0 (Nat.le_refl _) (Nat.zero_le _) rfl
    go_enter Try.func13, Try.ntmps13
    go_wp2_with (at_builtin; refine wpList_pushAll _ rfl (.tmp 5) (.tmp 6) _ rfl w.heap.size 27 i0 _ 3 24 ce Try.underlying22 hi hz0 hz1 hz2 rfl (by decide) _ [] 0 rfl rfl hmade w.heap.size (some ad) _ _ l rfl rfl hA ((hl.more hB).keep ((Below.refl _ _).alloc (Nat.le_refl _) _) (Nat.le_refl _)) one_ce (by omega) (by omega) (by simp) ?_; intro A1 c1 w1 hown1 hgrow1 hat1)
    simp only [Nat.zero_add, List.nil_append] at hown1
    go_ret
    exact ⟨A1, c1, by simp, hown1, ((Below.refl _ _).alloc (Nat.le_refl _) _).grown hgrow1 (by simp) (hmade.lo)⟩
end Go.Proofs.Ytamphgcpfncenaa.Std

namespace Go.Proofs.Ytamphgcpfncenaa.Std
open Go.RowKit Go.Proofs.Ytamphgcpfncenaa
set_option linter.unusedSimpArgs false
set_option linter.unusedVariables false
theorem infoRatioC : (Try.prog.info? 66).map (fun i => (i.zero, i.size, i.bytes)) = some (some (.agg #[.int .i64 0, .int .i64 0]), 2, 16) := by kernel_rfl
set_option maxHeartbeats 1000000 in
theorem clone_ratio (A : Option Addr) (c : Nat) (l : List (Int × Int)) (B : Nat) (w : World) (hl : Sl w B 2 cp A l) (hB : B ≤ w.heap.size) (hA : A = none → l.length = 0 ∧ c = 0) (hlen : l.length * 16 ≤ 140737488355328) :
    Calls Try.prog 46 #[.slice A l.length c] w fun e w' => SomeClone 66 2 cp l w e w' := by
  have qT : ∀ (w : World) (a : Option Addr) (n c n' c' : Nat), (binOp .eql 61 (.slice a n c) (.slice none n' c')).run Try.prog w = .ok (.bool a.isNone) w := fun w a n c n' c' => Lib.run_eql_slice_nil w 61 66 a n c n' c' Try.underlying61
  match A, hA with
  | none, hA =>
    obtain ⟨h0, rfl⟩ := hA rfl
    have hl0 : l = [] := List.eq_nil_of_length_eq_zero h0
    subst hl0
    go_enter Try.func46, Try.ntmps46
    go_wp2
    go_ret
    exact ⟨none, 0, rfl, Own.nil_, Below.refl _ _⟩
  | some ad, hA =>
    obtain ⟨i0, hi, hz0, hz1, hz2⟩ := info_parts infoRatioC
    have hmade : Own (w.alloc (.cells #[] 66)) w.heap.size 66 2 cp (.slice (some ⟨w.heap.size, 0, none⟩) 0 0) [] := World.ownsRow_made w #[] 0 (Nat.le_refl _) (Nat.zero_le _) rfl
    go_enter Try.func46, Try.ntmps46
    go_wp2_with (at_builtin; refine wpList_pushAll _ rfl (.tmp 5) (.tmp 6) _ rfl w.heap.size 66 i0 _ 2 16 cp Try.underlying61 hi hz0 hz1 hz2 rfl (by decide) _ [] 0 rfl rfl hmade w.heap.size (some ad) _ _ l rfl rfl hA ((hl.more hB).keep ((Below.refl _ _).alloc (Nat.le_refl _) _) (Nat.le_refl _)) one_cp (by omega) (by omega) (by simp) ?_; intro A1 c1 w1 hown1 hgrow1 hat1)
    simp only [Nat.zero_add, List.nil_append] at hown1
    go_ret
    exact ⟨A1, c1, by simp, hown1, ((Below.refl _ _).alloc (Nat.le_refl _) _).grown hgrow1 (by simp) (hmade.lo)⟩
end Go.Proofs.Ytamphgcpfncenaa.Std
