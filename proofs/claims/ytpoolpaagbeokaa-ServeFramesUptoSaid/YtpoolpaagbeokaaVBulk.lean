/- The walk of Within. -/
/- What the bound of the narrowed statements gives: lengths. -/
import Derived.Test.YtpoolpaagbeokaaVKit
import Derived.IntWalk
import Derived.Test.YtpoolpaagbeokaaRows
import Derived.Test.YtpoolpaagbeokaaVOpen
namespace Go.Proofs.Ytpoolpaagbeokaa.Within
open Go.RowKit Go.Proofs.Ytpoolpaagbeokaa
set_option linter.unusedSimpArgs false
set_option linter.unusedVariables false
/-- a number from 0 to n - 1 -/
def wi (k : Int) (n : Nat) : Nat := (wrap64 ((IntKind.u64.wrap k).tmod n)).toNat
theorem wi_spec (k : Int) (n : Nat) (h1 : 1 ≤ n) (h2 : n ≤ 1000000) : wrap64 ((IntKind.u64.wrap k).tmod n) = (wi k n : Int) ∧ wi k n < n := by
  have h0 : 0 ≤ IntKind.u64.wrap k := by
    simp [IntKind.wrap, IntKind.bits, IntKind.signed]
    omega
  have a := Int.tmod_nonneg (n : Int) h0
  have b := Int.tmod_lt_of_pos (IntKind.u64.wrap k) (show (0 : Int) < n by omega)
  have e : wrap64 ((IntKind.u64.wrap k).tmod n) = (IntKind.u64.wrap k).tmod n := by
    generalize (IntKind.u64.wrap k).tmod n = z at *
    unfold wrap64
    omega
  unfold wi
  rw [e]
  omega
theorem within_any (k : Int) (n : Nat) (h1 : 1 ≤ n) (h2 : n ≤ 1000000) (w : World) : Calls Try.prog 12 #[.int .i64 k, .int .i64 n] w fun e w' => e = .returned (.int .i64 (wi k n)) ∧ w' = w := by
  have hw := (wi_spec k n h1 h2).1
  have HW := Lib.hid hw
  clear hw
  go_enter Try.func12, Try.ntmps12
  go_wp2
  go_ret
  exact ⟨ret_int HW.out, rfl⟩
end Go.Proofs.Ytpoolpaagbeokaa.Within

namespace Go.Proofs.Ytpoolpaagbeokaa
set_option linter.unusedSimpArgs false
set_option linter.unusedVariables false
theorem bulk_one {H : Type} (d : DataW H) : 1 ≤ Rows.uptoBulk d := by
  cases d with
  | lit l => cases l <;> simp [Rows.uptoBulk]
  | _ => simp [Rows.uptoBulk]
theorem bulk_length {H : Type} (l : List (DataW H)) : l.length ≤ Rows.uptoBulkAll l := by
  induction l with
  | nil => simp
  | cons x r ih => have := bulk_one x; simp only [Rows.uptoBulkAll, List.length_cons]; omega
theorem bulk_len {H : Type} {d : DataW H} {n : Nat} (h : LenD d n) : n ≤ Rows.uptoBulk d := by
  rcases h with ⟨rfl, rfl⟩ | ⟨elems, spare, rfl, rfl⟩
  · omega
  · have := bulk_length elems
    simp only [Rows.uptoBulk]
    omega
theorem bulk_agg2 {H : Type} {x : DataW H} {d : DataW H} {n : Nat} (h : LenD d n) : n ≤ Rows.uptoBulk (.agg [x, d]) := by
  have := bulk_len h
  simp only [Rows.uptoBulk, Rows.uptoBulkAll]
  omega
theorem bulk_agg3 {H : Type} {x y : DataW H} {d : DataW H} {n : Nat} (h : LenD d n) : n ≤ Rows.uptoBulk (.agg [x, y, d]) := by
  have := bulk_len h
  simp only [Rows.uptoBulk, Rows.uptoBulkAll]
  omega
theorem bulk_bound {H : Type} {l : List (DataW H)} (hk : Rows.uptoSmall H l = true) : Rows.uptoBulkAll l ≤ 1048576 := of_decide_eq_true hk
end Go.Proofs.Ytpoolpaagbeokaa
