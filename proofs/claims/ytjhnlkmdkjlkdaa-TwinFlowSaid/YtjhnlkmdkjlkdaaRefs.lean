/- The walks of the laws' own small helpers: two, SameNet. -/
import Derived.Test.YtjhnlkmdkjlkdaaNetTurn
import Derived.Test.YtjhnlkmdkjlkdaaRowSet
import Derived.Test.YtjhnlkmdkjlkdaaStdE
import Derived.Test.YtjhnlkmdkjlkdaaStdI
import Derived.BigRegion
import Derived.BigQuiet
namespace Go.Proofs.Ytjhnlkmdkjlkdaa.Refs
open Go.RowKit Go.Proofs.Ytjhnlkmdkjlkdaa NetLaw Go.Proofs.Ytjhnlkmdkjlkdaa.Net Go.Proofs.Ytjhnlkmdkjlkdaa.Std
set_option linter.unusedSimpArgs false
set_option linter.unusedVariables false

theorem two_any (w : World) : Calls Try.prog 21 #[] w fun e w' => ∃ g, e = .returned (.agg #[.int .i64 2, .slice (some ⟨g, 0, none⟩) 1 1]) ∧ Own w' w.heap.size 30 3 ce (.slice (some ⟨g, 0, none⟩) 1 1) [(0, 1, 5)] ∧ Below w.heap.size w w' := by
  have hR := heap_alloc_new w (.cells #[.int .i64 0, .slice none 0 0] 24)
  have hR1 := blk_alloc hR (.cells #[.int .i64 0, .int .i64 1, .int .i64 5] 30)
  have h0 := blk_cell hR1 0
  have h1 := blk_cell hR1 1
  have f0 := blk_free hR1 0
  have f1 := blk_free hR1 1
  simp only [List.getElem?_toArray, List.getElem?_cons_zero, List.getElem?_cons_succ] at h0 h1
  go_enter Try.func21, Try.ntmps21
  go_wp2
  refine bodyPost_ret (v := .agg #[.int .i64 2, .slice (some ⟨w.heap.size + 1, 0, none⟩) 1 1]) (by simp [results, Try.results21, go_sem, h0, h1]) rfl ⟨w.heap.size + 1, rfl, ?_, ?_⟩
  · exact own_new' (w.alloc (.cells #[.int .i64 2, .slice (some ⟨w.heap.size + 1, 0, none⟩) 1 1] 24)) _ _ (by simp) rfl (by simp) (by decide) rfl
  · exact ((Below.refl _ _).alloc (Nat.le_refl _) _).alloc (by simp) _
set_option maxHeartbeats 1000000 in
/-- SameNet, the answer given -/
theorem same_net (N N' : Int) (A A' : Option Addr) (n m c c' : Nat) (l r : List E) (w : World) (hl : Sl w w.heap.size 3 ce A l) (hm : Sl w w.heap.size 3 ce A' r) (hn : l.length = n) (hm' : r.length = m) (hlen : n ≤ 9223372036854775807) (b : Bool) (hb : (decide (N = N') && decide (l = r)) = b) :
    Calls Try.prog 35 #[.agg #[.int .i64 N, .slice A n c], .agg #[.int .i64 N', .slice A' m c']] w fun e w' => e = .returned (.bool b) ∧ Below w.heap.size w w' := by
  have hb0 : Below w.heap.size w ((w.alloc (.cells #[.int .i64 N, .slice A n c] 24)).alloc (.cells #[.int .i64 N', .slice A' m c'] 24)) := ((Below.refl _ _).alloc (Nat.le_refl _) _).alloc (by simp) _
  have key := equal_edge' A A' n m c c' l r w.heap.size w.heap.size _ (hl.keep hb0 (Nat.le_refl _)) (hm.keep hb0 (Nat.le_refl _)) hn hm' hlen _ rfl
  by_cases h : N = N'
  · subst h
    have hb2 : decide (l = r) = b := by rw [← hb, decide_eq_true rfl, Bool.true_and]
    rw [hb2] at key
    have KEY := Lib.hid key
    clear key hb hb2 hl hm hn hm'
    go_enter Try.func35, Try.ntmps35
    go_wp2_with fail
    refine KEY.out.mono ?_
    rintro e w1 ⟨rfl, k, rfl⟩
    have hB1 := below_drewN hb0 k
    clear hb0
    go_wp2
    go_ret
    exact ⟨rfl, hB1⟩
  · have hbn : (N == N') = false := by simp [h]
    have hb2 : b = false := by rw [← hb, decide_eq_false h, Bool.false_and]
    subst hb2
    clear key hb hl hm hn hm' h
    go_enter Try.func35, Try.ntmps35
    go_wp2
    go_ret
    exact ⟨rfl, hb0⟩
end Go.Proofs.Ytjhnlkmdkjlkdaa.Refs
