/- The walk of Within. -/
import Derived.Test.YtamphgcpfncenaaVKit
import Derived.IntWalk
namespace Go.Proofs.Ytamphgcpfncenaa.Within
open Go.RowKit Go.Proofs.Ytamphgcpfncenaa
set_option linter.unusedSimpArgs false
set_option linter.unusedVariables false
/-- a number from 0 to n - 1 -/
def wi (k : Int) (n : Nat) : Nat := (wrap64 ((IntKind.u64.wrap k).tmod n)).toNat
theorem wi_spec (k : Int) (n : Nat) (h1 : 1 ≤ n) (h2 : n ≤ 1000000) : wrap64 ((IntKind.u64.wrap k).tmod n) = (wi k n : Int) ∧ wi k n < n := by
  have h0 : 0 ≤ IntKind.u64.wrap k := by
    simp [IntKind.wrap, IntKind.bits, IntKind.signed]
    omega
  have a := Int.tmod_nonneg (n : Int) h0
  have b := Int.tmod_lt_of_pos (IntKind.u64.wrap k) (show (0 : Int) < n by omega)
  have e : wrap64 ((IntKind.u64.wrap k).tmod n) = (IntKind.u64.wrap k).tmod n := by
    generalize (IntKind.u64.wrap k).tmod n = z at *
    unfold wrap64
    omega
  unfold wi
  rw [e]
  omega
theorem within_any (k : Int) (n : Nat) (h1 : 1 ≤ n) (h2 : n ≤ 1000000) (w : World) : Calls Try.prog 29 #[.int .i64 k, .int .i64 n] w fun e w' => e = .returned (.int .i64 (wi k n)) ∧ w' = w := by
  have hw := (wi_spec k n h1 h2).1
  have HW := Lib.hid hw
  clear hw
  go_enter Try.func29, Try.ntmps29
  go_wp2
  go_ret
  exact ⟨ret_int HW.out, rfl⟩
end Go.Proofs.Ytamphgcpfncenaa.Within
