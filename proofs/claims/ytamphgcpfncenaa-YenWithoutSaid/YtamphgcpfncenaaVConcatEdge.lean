/- The walks of slices.Grow at nil and slices.Concat of two, at []api.Edge. -/
import Derived.Test.YtamphgcpfncenaaVDijkTwo
import Derived.Test.YtamphgcpfncenaaVNetTurn
import Derived.Lib.AppendZerosOnto
import Derived.BigRegion
import Derived.BigQuiet
namespace Go.Proofs.Ytamphgcpfncenaa.Std
open Go.RowKit Go.Proofs.Ytamphgcpfncenaa Go.Proofs.Ytamphgcpfncenaa.Net
set_option linter.unusedSimpArgs false
set_option linter.unusedVariables false
theorem infoEdgeS : (Try.prog.info? 27).map (fun i => (i.zero, i.size, i.bytes)) = some (some (.agg #[.int .i64 0, .int .i64 0, .int .i64 0]), 3, 24) := by kernel_rfl
/-- a row with nothing in it yet -/
def SomeRoomE (w : World) (e : Ending) (w' : World) : Prop :=
  ∃ A c, e = .returned (.slice A 0 c) ∧ Own w' w.heap.size 27 3 ce (.slice A 0 c) ([] : List (Int × Int × Int)) ∧ Below w.heap.size w w'

set_option maxRecDepth 100000 in
set_option maxHeartbeats 1000000 in
theorem grow_nilE (n : Nat) (w : World) (hn : n * 24 ≤ 140737488355328) :
    Calls Try.prog 72 #[.slice none 0 0, .int .i64 (n : Int)] w fun e w' => SomeRoomE w e w' := by
  obtain ⟨i0, hi, hz0, hz1, hz2⟩ := info_parts infoEdgeS
  by_cases h0 : n = 0
  · subst h0
    go_enter Try.func72, Try.ntmps72
    go_wp2
    go_ret
    exact ⟨none, 0, rfl, Own.nil_, Below.refl _ _⟩
  · have hrz : ∀ ty, (Builtin.append_ #[22, 3] ty #[.slice none 0 0, .int .i64 (n : Int)]).run Try.prog w =
        .ok (.slice (some ⟨w.heap.size, 0, none⟩) n (grownCap w n 0 27)) (w.drew.alloc (.cells ((#[] : Array Value) ++ Builtin.zeroCells (Value.agg #[.int .i64 0, .int .i64 0, .int .i64 0]).cells n ++ Builtin.zeroCells (Value.agg #[.int .i64 0, .int .i64 0, .int .i64 0]).cells (grownCap w n 0 27 - n)) 27)) := fun ty => by
      have h := Lib.run_append_grow_zeros (P := Try.prog) w 22 3 ty 27 i0 _ .i64 .i64 Try.underlying22 Try.underlying3 hi hz0 none 0 0 [] (run_firstCells_none w.drew i0.size 0 0 0) n (by omega) (by rw [hz1]; decide) (by omega) (by omega) (by rw [hz2]; omega) (by rw [hz2]; exact growslice_fits (by omega) (by omega))
      rw [Nat.zero_add] at h
      exact h
    have hGn : n ≤ grownCap w n 0 27 := grownCap_ge w _ _ _
    have hGm : grownCap w n 0 27 ≤ maxLen := grownCap_le_maxLen w n 0 27 (by unfold maxLen; omega)
    obtain ⟨G, hG⟩ : ∃ G, G = grownCap w n 0 27 := ⟨_, rfl⟩
    rw [← hG] at hrz hGn hGm
    have hG63 : G ≤ 9223372036854775807 := by unfold maxLen at hGm; omega
    have hown : Own (w.alloc (.cells (Builtin.zeroCells #[.int .i64 0, .int .i64 0, .int .i64 0] n ++ Builtin.zeroCells #[.int .i64 0, .int .i64 0, .int .i64 0] (G - n)) 27)) w.heap.size 27 3 ce (.slice (some ⟨w.heap.size, 0, none⟩) 0 G) ([] : List (Int × Int × Int)) :=
      World.ownsRow_made w _ G (Nat.le_refl _) hGm (by simp [Builtin.zeroCells, Value.cells]; omega)
    have hB : Below w.heap.size w (w.alloc (.cells (Builtin.zeroCells #[.int .i64 0, .int .i64 0, .int .i64 0] n ++ Builtin.zeroCells #[.int .i64 0, .int .i64 0, .int .i64 0] (G - n)) 27)) := (Below.refl _ _).alloc (Nat.le_refl _) _
    have HOWN := Lib.hid hown
    have HB := Lib.hid hB
    have HRZ := Lib.hid hrz
    have hn1 : ¬ ((n : Int) < 0) := by omega
    have hn2 : (0 : Int) < n := by omega
    clear hG hown hB hrz h0
    go_enter Try.func72, Try.ntmps72
    go_wp2_with (at_builtin; refine Lib.wpList_append_run _ rfl _ _ _ _ rfl _ _ rfl rfl _ _ (HRZ.out _) ?_)
    all_goals
      go_wp2
      go_ret
      exact ⟨_, G, rfl, HOWN.out.drewN 1, HB.out.drew⟩

set_option maxRecDepth 100000 in
set_option maxHeartbeats 2000000 in
theorem concat2E (g c : Nat) (A A' : Option Addr) (n m c1 c2 : Nat) (l r : List (Int × Int × Int)) (w : World) (h0 : w.cell? ⟨g, 0, none⟩ = some (.slice A n c1)) (h1 : w.cell? ⟨g, 1, none⟩ = some (.slice A' m c2)) (hg : g < w.heap.size)
    (hl : Sl w w.heap.size 3 ce A l) (hr : Sl w w.heap.size 3 ce A' r) (hln : l.length = n) (hrm : r.length = m) (hA : A = none → n = 0 ∧ c1 = 0) (hA' : A' = none → m = 0 ∧ c2 = 0) (hsz : (n + m) * 24 ≤ 140737488355328) :
    Calls Try.prog 33 #[.slice (some ⟨g, 0, none⟩) 2 c] w fun e w' => ∃ A5 c5, e = .returned (.slice A5 (n + m) c5) ∧ Own w' w.heap.size 27 3 ce (.slice A5 (n + m) c5) (l ++ r) ∧ Below w.heap.size w w' := by
  obtain ⟨i0, hi, hz0, hz1, hz2⟩ := info_parts infoEdgeS
  have kg := fun W => grow_nilE (n + m) W (by omega)
  have hcast : ((n + m : Nat) : Int) = (n : Int) + m := by omega
  rw [hcast] at kg
  have KG := Lib.hid kg
  have HLN := Lib.hid hln
  have HRM := Lib.hid hrm
  have HA := Lib.hid hA
  have HA' := Lib.hid hA'
  have hn0 : (0 : Int) ≤ n := by omega
  have hn1 : (0 : Int) ≤ (n : Int) + m := by omega
  have hn2 : ¬ ((n : Int) + m < 0) := by omega
  have hn3 : ¬ ((n : Int) < 0) := by omega
  clear kg hcast hln hrm hA hA'
  go_enter Try.func33, Try.ntmps33
  go_wp2
  go_loopw [3, 11] (fun s3 i wr => w = wr ∧ ((i = .int .i64 0 ∧ s3 = .int .i64 0) ∨ (i = .int .i64 1 ∧ s3 = .int .i64 n) ∨ (i = .int .i64 2 ∧ s3 = .int .i64 ((n : Int) + m)))) (fun _ i _ => 2 - (intOf i).toNat)
  case atStart => exact ⟨rfl, .inl ⟨rfl, rfl⟩⟩
  case round =>
    obtain ⟨rfl, ⟨rfl, rfl⟩ | ⟨rfl, rfl⟩ | ⟨rfl, rfl⟩⟩ := hrel
    · go_wp2
      go_roundw
      case rel => exact ⟨by trivial, .inr (.inl ⟨rfl, by simp⟩)⟩
      case measure => simp [intOf]
    · go_wp2
      go_roundw
      case rel => exact ⟨by trivial, .inr (.inr ⟨rfl, rfl⟩)⟩
      case measure => simp [intOf]
    · go_wp2_with fail
      refine (KG.out _).mono ?_
      rintro e w1 ⟨A3, c3, rfl, own3, hB3⟩
      have OWN3 := Lib.hid own3
      clear own3
      go_wp2
      go_loopw [6, 27] (fun s6 i wr => Below w.heap.size w wr ∧ ∃ A6 c6, ((i = .int .i64 0 ∧ s6 = .slice A6 0 c6 ∧ Own wr w.heap.size 27 3 ce (.slice A6 0 c6) ([] : List (Int × Int × Int))) ∨ (i = .int .i64 1 ∧ s6 = .slice A6 n c6 ∧ Own wr w.heap.size 27 3 ce (.slice A6 n c6) l) ∨ (i = .int .i64 2 ∧ s6 = .slice A6 (n + m) c6 ∧ Own wr w.heap.size 27 3 ce (.slice A6 (n + m) c6) (l ++ r)))) (fun _ i _ => 2 - (intOf i).toNat)
      case atStart => exact ⟨hB3, A3, c3, .inl ⟨rfl, rfl, OWN3.out⟩⟩
      case round =>
        clear OWN3
        obtain ⟨hB, A6, c6, ⟨rfl, rfl, own⟩ | ⟨rfl, rfl, own⟩ | ⟨rfl, rfl, own⟩⟩ := hrel
        · have hz := hB.size
          obtain ⟨cc, _⟩ := keepAt hB hg
          have q0 := (cc 0).trans h0
          have slx := hl.keep hB (Nat.le_refl _)
          clear cc
          go_wp2_with (at_builtin; refine wpList_pushAll _ rfl (.tmp 31) (.tmp 32) _ rfl w.heap.size 27 i0 _ 3 24 ce Try.underlying22 hi hz0 hz1 hz2 rfl (by decide) _ ([] : List (Int × Int × Int)) 0 rfl rfl own w.heap.size A n c1 l HLN.out rfl HA.out slx one_ce (by omega) (by omega) (by omega) ?_; intro A7 c7 w7 hown7 hgrow7 hat7; simp only [Nat.zero_add, List.nil_append] at hown7)
          have hB7 := hB.grown hgrow7 hz own.lo
          clear hgrow7 hat7 q0 slx
          go_wp2
          go_roundw
          case rel => exact ⟨hB7, A7, c7, .inr (.inl ⟨rfl, by simp, hown7⟩)⟩
          case measure => simp [intOf]
        · have hz := hB.size
          obtain ⟨cc, _⟩ := keepAt hB hg
          have q1 := (cc 1).trans h1
          have slx := hr.keep hB (Nat.le_refl _)
          clear cc
          go_wp2_with (at_builtin; refine wpList_pushAll _ rfl (.tmp 31) (.tmp 32) _ rfl w.heap.size 27 i0 _ 3 24 ce Try.underlying22 hi hz0 hz1 hz2 rfl (by decide) _ l n HLN.out rfl own w.heap.size A' m c2 r HRM.out rfl HA'.out slx one_ce (by omega) (by omega) (by omega) ?_; intro A7 c7 w7 hown7 hgrow7 hat7)
          have hB7 := hB.grown hgrow7 hz own.lo
          clear hgrow7 hat7 q1 slx
          go_wp2
          go_roundw
          case rel => exact ⟨hB7, A7, c7, .inr (.inr ⟨rfl, rfl, hown7⟩)⟩
          case measure => simp [intOf]
        · clear hl hr
          go_wp2
          go_ret
          exact ⟨A6, c6, rfl, own, hB⟩
end Go.Proofs.Ytamphgcpfncenaa.Std
