/- heap.Less, heap.New, Heap.Len at api.Pop. -/
import Derived.Test.YtjhnlkmdkjlkdaaHeapWalks
import Derived.Test.YtjhnlkmdkjlkdaaStdI
namespace Go.Proofs.Ytjhnlkmdkjlkdaa.Heap
open Go.RowKit Go.Proofs.Ytjhnlkmdkjlkdaa HeapLaw Go.Proofs.Ytjhnlkmdkjlkdaa.Net
set_option linter.unusedSimpArgs false
set_option linter.unusedVariables false

/-- the order of keys, then of numbers -/
def ltP (a b : Pop) : Bool := decide (a.1 < b.1 ∨ a.1 = b.1 ∧ a.2 < b.2)
theorem ltP_ord : HeapLaw.Ord ltP := ⟨fun {a b} h => by simp only [ltP, decide_eq_true_eq, decide_eq_false_iff_not] at h ⊢; omega, fun {a b c} h1 h2 => by simp only [ltP, decide_eq_false_iff_not] at h1 h2 ⊢; omega⟩
theorem ltP_anti {a b : Pop} (h1 : ltP a b = false) (h2 : ltP b a = false) : a = b := by
  simp only [ltP, decide_eq_false_iff_not] at h1 h2
  exact Prod.ext (by omega) (by omega)

set_option maxHeartbeats 1000000 in
theorem less_any : LessOk 95 ltP := by
  intro W a b x y
  have hB : Below W.heap.size W ((W.alloc (.cells #[.int .i64 a, .int .i64 b] 140)).alloc (.cells #[.int .i64 x, .int .i64 y] 140)) := ((Below.refl _ _).alloc (Nat.le_refl _) _).alloc (by simp) _
  by_cases h1 : a < x
  · have hf : ltP (a, b) (x, y) = true := by simp only [ltP, decide_eq_true_eq]; omega
    rw [hf]
    go_enter Try.func95, Try.ntmps95
    go_wp2
    go_ret
    exact ⟨by first | trivial | rfl, hB⟩
  · have hd : decide (a < x) = false := by simp; omega
    by_cases h2 : a = x
    · subst h2
      have hf : ltP (a, b) (a, y) = decide (b < y) := by simp [ltP]
      rw [hf]
      clear h1
      go_enter Try.func95, Try.ntmps95
      go_wp2
      go_ret
      exact ⟨by first | trivial | simp, hB⟩
    · have hd2 : (a == x) = false := by rw [beq_eq_false_iff_ne]; exact h2
      have hf : ltP (a, b) (x, y) = false := by simp only [ltP, decide_eq_false_iff_not]; omega
      rw [hf]
      clear h1 h2
      go_enter Try.func95, Try.ntmps95
      go_wp2
      go_ret
      exact ⟨by first | trivial | rfl, hB⟩
theorem new_any (k : FuncId) (w : World) : Calls Try.prog 94 #[fnOf k] w fun e w' => ∃ H, e = .returned (.pointer (some ⟨H, 0, none⟩)) ∧ HeapAt w' w.heap.size H (fnOf k) none 0 0 [] ∧ Below w.heap.size w w' := by
  unfold fnOf
  go_enter Try.func94, Try.ntmps94
  go_wp2
  refine bodyPost_ret (v := .pointer (some ⟨w.heap.size, 0, none⟩)) (by simp [results, Try.results94, go_sem]) rfl ?_
  exact ⟨w.heap.size, rfl, ⟨Nat.le_refl _, heap_alloc_new _ _, Own.nil_, rfl⟩, (Below.refl _ _).alloc (Nat.le_refl _) _⟩
theorem len_any {base H : Nat} {fn : Value} {A : Option Addr} {n c : Nat} {L : List Pop} (w : World) (h : HeapAt w base H fn A n c L) : Calls Try.prog 97 #[.pointer (some ⟨H, 0, none⟩)] w fun e w' => e = .returned (.int .i64 n) ∧ w' = w := by
  have c1 := blk_cell h.blk 1
  simp only [List.getElem?_toArray, List.getElem?_cons_zero, List.getElem?_cons_succ] at c1
  clear h
  go_enter Try.func97, Try.ntmps97
  go_wp2
  exact bodyPost_ret (v := .int .i64 n) (by simp [results, Try.results97, go_sem]) rfl ⟨rfl, rfl⟩
end Go.Proofs.Ytjhnlkmdkjlkdaa.Heap
