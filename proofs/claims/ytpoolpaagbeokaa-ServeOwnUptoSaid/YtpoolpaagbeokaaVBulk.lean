/- What the bound of the narrowed statements gives: lengths. -/
import Derived.Test.YtpoolpaagbeokaaRows
import Derived.Test.YtpoolpaagbeokaaVOpen
namespace Go.Proofs.Ytpoolpaagbeokaa
set_option linter.unusedSimpArgs false
set_option linter.unusedVariables false
theorem bulk_one {H : Type} (d : DataW H) : 1 ≤ Rows.uptoBulk d := by
  cases d with
  | lit l => cases l <;> simp [Rows.uptoBulk]
  | _ => simp [Rows.uptoBulk]
theorem bulk_length {H : Type} (l : List (DataW H)) : l.length ≤ Rows.uptoBulkAll l := by
  induction l with
  | nil => simp
  | cons x r ih => have := bulk_one x; simp only [Rows.uptoBulkAll, List.length_cons]; omega
theorem bulk_len {H : Type} {d : DataW H} {n : Nat} (h : LenD d n) : n ≤ Rows.uptoBulk d := by
  rcases h with ⟨rfl, rfl⟩ | ⟨elems, spare, rfl, rfl⟩
  · omega
  · have := bulk_length elems
    simp only [Rows.uptoBulk]
    omega
theorem bulk_agg2 {H : Type} {x : DataW H} {d : DataW H} {n : Nat} (h : LenD d n) : n ≤ Rows.uptoBulk (.agg [x, d]) := by
  have := bulk_len h
  simp only [Rows.uptoBulk, Rows.uptoBulkAll]
  omega
theorem bulk_agg3 {H : Type} {x y : DataW H} {d : DataW H} {n : Nat} (h : LenD d n) : n ≤ Rows.uptoBulk (.agg [x, y, d]) := by
  have := bulk_len h
  simp only [Rows.uptoBulk, Rows.uptoBulkAll]
  omega
theorem bulk_bound {H : Type} {l : List (DataW H)} (hk : Rows.uptoSmall H l = true) : Rows.uptoBulkAll l ≤ 1048576 := of_decide_eq_true hk
end Go.Proofs.Ytpoolpaagbeokaa
