/- Go's own slices package at []Edge: what Equal, Index and Contains answer. -/
/- The walks of the laws' own small helpers: two, SameNet. -/
/- What Dijkstra answers at the laws' own small net. -/
import Derived.Test.YtpoolpaagbeokaaVStdI
import Derived.Laws.StructEq
import Derived.Test.YtpoolpaagbeokaaVNetTurn
import Derived.Test.YtpoolpaagbeokaaVRowSet
import Derived.BigRegion
import Derived.BigQuiet
import Derived.Test.YtpoolpaagbeokaaVDijkWalks
namespace Go.Proofs.Ytpoolpaagbeokaa.Std
open Go.RowKit Go.Proofs.Ytpoolpaagbeokaa
set_option linter.unusedSimpArgs false
set_option linter.unusedVariables false
abbrev E3 := Int × Int × Int

theorem eqInE (w : World) (a b c x y z : Int) : (Op.equalIn 10000 110 (.agg #[.int .i64 a, .int .i64 b, .int .i64 c]) (.agg #[.int .i64 x, .int .i64 y, .int .i64 z])).run Try.prog w = .ok (decide ((a, b, c) = (x, y, z))) w := by
  rw [run_equalIn_agg w 9999 _ _ _ (by kernel_rfl) (by kernel_rfl)]
  by_cases h1 : a = x
  · by_cases h2 : b = y
    · by_cases h3 : c = z
      · simp [Program.fieldsOf, Try.underlying110, Op.eqFields, part, Try.underlying3, go_sem, h1, h2, h3]
      · simp [Program.fieldsOf, Try.underlying110, Op.eqFields, part, Try.underlying3, go_sem, h1, h2, h3]
    · simp [Program.fieldsOf, Try.underlying110, Op.eqFields, part, Try.underlying3, go_sem, h1, h2]
  · simp [Program.fieldsOf, Try.underlying110, Op.eqFields, part, Try.underlying3, go_sem, h1]
theorem eqlE (w : World) (a b c x y z : Int) : (binOp .eql 110 (.agg #[.int .i64 a, .int .i64 b, .int .i64 c]) (.agg #[.int .i64 x, .int .i64 y, .int .i64 z])).run Try.prog w = .ok (.bool (decide ((a, b, c) = (x, y, z)))) w := by
  rw [run_eql_struct, eqInE]; rfl
theorem neqE (w : World) (a b c x y z : Int) : (binOp .neq 110 (.agg #[.int .i64 a, .int .i64 b, .int .i64 c]) (.agg #[.int .i64 x, .int .i64 y, .int .i64 z])).run Try.prog w = .ok (.bool (!decide ((a, b, c) = (x, y, z)))) w := by
  rw [run_neq_struct, eqInE]; rfl

/-- what Index answers, and Contains -/
def IndexSays (l : List E3) (v : E3) (w : World) (e : Ending) (w' : World) : Prop :=
  ∃ i : Int, e = .returned (.int .i64 i) ∧ decide (0 ≤ i) = decide (v ∈ l) ∧ Below w.heap.size w w'
end Go.Proofs.Ytpoolpaagbeokaa.Std

namespace Go.Proofs.Ytpoolpaagbeokaa.Refs
open Go.RowKit Go.Proofs.Ytpoolpaagbeokaa NetLaw Go.Proofs.Ytpoolpaagbeokaa.Net Go.Proofs.Ytpoolpaagbeokaa.Std
set_option linter.unusedSimpArgs false
set_option linter.unusedVariables false

end Go.Proofs.Ytpoolpaagbeokaa.Refs

namespace Go.Proofs.Ytpoolpaagbeokaa.DijkTwo
open Go.RowKit Go.Proofs.Ytpoolpaagbeokaa NetLaw BellLaw DijkLaw Go.Proofs.Ytpoolpaagbeokaa.Net Go.Proofs.Ytpoolpaagbeokaa.Dijk Go.Proofs.Ytpoolpaagbeokaa.Refs Go.Proofs.Ytpoolpaagbeokaa.Std
set_option linter.unusedSimpArgs false
set_option linter.unusedVariables false

theorem sh0 : Sh 2 0 [(0, 1, 5)] [0, 5] := by
  refine ⟨rfl, fun v v0 v1 => ?_, rfl, fun v v0 v1 h => ?_, fun e he h => ?_⟩
  · rcases (show v = 0 ∨ v = 1 by omega) with rfl | rfl <;> decide
  · rcases (show v = 0 ∨ v = 1 by omega) with rfl | rfl
    · exact Wk.here
    · exact Wk.step (e := (0, 1, 5)) Wk.here (by simp) rfl
  · simp at he; subst he; decide
theorem sh1 : Sh 2 1 [(0, 1, 5)] [far, 0] := by
  refine ⟨rfl, fun v v0 v1 => ?_, rfl, fun v v0 v1 h => ?_, fun e he h => ?_⟩
  · rcases (show v = 0 ∨ v = 1 by omega) with rfl | rfl <;> decide
  · rcases (show v = 0 ∨ v = 1 by omega) with rfl | rfl
    · exact absurd h (by decide)
    · exact Wk.here
  · simp at he; subst he; exact absurd h (by decide)
theorem look0 : Dijk.look 2 [(0, 1, 5)] [0] = 0 := by decide +kernel
theorem look1 : Dijk.look 2 [(0, 1, 5)] [1] = 0 := by decide +kernel
theorem two_ends : ∀ e ∈ ([(0, 1, 5)] : List E), 0 ≤ e.1 ∧ e.1 < 2 ∧ 0 ≤ e.2.1 ∧ e.2.1 < 2 := by decide
theorem two_cost : ∀ e ∈ ([(0, 1, 5)] : List E), 0 ≤ e.2.2 := by decide
theorem dist_two {fr : Int} {D0 : List Int} (hs : Sh 2 fr [(0, 1, 5)] D0) (hk : Dijk.look 2 [(0, 1, 5)] [fr] = 0) (W : World) (g : Nat) (h : Sl W W.heap.size 3 ce (some ⟨g, 0, none⟩) [(0, 1, 5)]) :
    Calls Try.prog 46 #[.agg #[.int .i64 2, .slice (some ⟨g, 0, none⟩) 1 1], .int .i64 fr] W fun e w' => ∃ S, e = .returned (.tuple #[.slice (some ⟨S, 0, none⟩) 2 2, .int .i64 0]) ∧ Own w' W.heap.size 3 1 ci (.slice (some ⟨S, 0, none⟩) 2 2) D0 ∧ Below W.heap.size W w' := by
  refine (Dijk.dist_any 2 (some ⟨g, 0, none⟩) 1 [(0, 1, 5)] fr W h (by decide)).mono ?_
  rintro e w' ⟨_, k2, k3⟩
  obtain ⟨S, D, k4, k5, k6⟩ := k2 hk
  have e := hs.unique k6 two_ends two_cost
  subst e
  exact ⟨S, k4, k5, k3⟩
theorem eq_two (D0 : List Int) (hD : D0.length = 2) (W : World) (A A' : Option Addr) (c c' B B' : Nat) (h : Sl W B 1 ci A D0) (h' : Sl W B' 1 ci A' D0) : Calls Try.prog 49 #[.slice A 2 c, .slice A' 2 c'] W fun e w' => e = .returned (.bool true) ∧ ∃ k, w' = W.drewN k :=
  equal_int' A A' 2 2 c c' D0 D0 B B' W h h' hD hD (by decide) true (by simp)
/-- Dist of any net and place -/
theorem dist_yes (N : Int) (A : Option Addr) (c : Nat) (l : List E) (fr : Int) (hll : l.length ≤ 9223372036854775807) (hk : Dijk.look N l [fr] = 0) (W : World) (h : Sl W W.heap.size 3 ce A l) :
    Calls Try.prog 46 #[.agg #[.int .i64 N, .slice A l.length c], .int .i64 fr] W fun e w' => ∃ S D, e = .returned (.tuple #[.slice (some ⟨S, 0, none⟩) N.toNat N.toNat, .int .i64 0]) ∧ Own w' W.heap.size 3 1 ci (.slice (some ⟨S, 0, none⟩) N.toNat N.toNat) D ∧ Below W.heap.size W w' ∧ Hid (Sh N fr l D) := by
  refine (Dijk.dist_any N A c l fr W h hll).mono ?_
  rintro e w' ⟨_, k2, k3⟩
  obtain ⟨S, D, k4, k5, k6⟩ := k2 hk
  exact ⟨S, D, k4, k5, k3, Lib.hid k6⟩
theorem dist_no (N : Int) (A : Option Addr) (c : Nat) (l : List E) (fr : Int) (hll : l.length ≤ 9223372036854775807) (hk : Dijk.look N l [fr] ≠ 0) (W : World) (h : Sl W W.heap.size 3 ce A l) :
    Calls Try.prog 46 #[.agg #[.int .i64 N, .slice A l.length c], .int .i64 fr] W fun e w' => e = .returned (.tuple #[.slice none 0 0, .int .i64 (Dijk.look N l [fr])]) ∧ Below W.heap.size W w' := by
  refine (Dijk.dist_any N A c l fr W h hll).mono ?_
  rintro e w' ⟨k1, _, k3⟩
  exact ⟨k1 hk, k3⟩
end Go.Proofs.Ytpoolpaagbeokaa.DijkTwo
