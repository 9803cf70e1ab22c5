/- The walk of HeapOrders' closure: how many of a list are a given one. -/
import Derived.Test.YthlhlglmkcbgaaaStdPop
import Derived.BigQuiet
namespace Go.Proofs.Ythlhlglmkcbgaaa.Heap
open Go.RowKit Go.Proofs.Ythlhlglmkcbgaaa Go.Proofs.Ythlhlglmkcbgaaa.Std
set_option linter.unusedSimpArgs false
set_option linter.unusedVariables false
theorem count_step {l : List E2} {k : Nat} (h : k < l.length) (x : E2) : (l.take (k + 1)).count x = (l.take k).count x + if l[k] = x then 1 else 0 := by
  rw [List.take_succ_eq_append_getElem h, List.count_append, List.count_singleton]
  by_cases e : l[k] = x
  · rw [if_pos e, if_pos (by rw [beq_iff_eq]; exact e)]
  · rw [if_neg e, if_neg (by rw [beq_iff_eq]; exact e)]
set_option maxHeartbeats 1000000 in
theorem count_any (A : Option Addr) (c n : Nat) (l : List E2) (x y : Int) (w : World) (hl : Sl w w.heap.size 2 cp A l) (hn : l.length = n) (hlen : n ≤ 9223372036854775807) :
    Calls Try.prog 32 #[.slice A n c, .agg #[.int .i64 x, .int .i64 y]] w fun e w' => e = .returned (.int .i64 (l.count (x, y) : Nat)) ∧ Below w.heap.size w w' := by
  subst hn
  have hw0 : Below (w.heap.size + 1) (w.alloc (.cells #[.int .i64 x, .int .i64 y] 50)) (w.alloc (.cells #[.int .i64 x, .int .i64 y] 50)) := Below.refl _ _
  have hw1 : Below w.heap.size w (w.alloc (.cells #[.int .i64 x, .int .i64 y] 50)) := (Below.refl _ _).alloc (Nat.le_refl _) _
  go_enter Try.func32, Try.ntmps32
  go_wp2
  go_loopw [5, 10] (fun s5 i wr => ∃ k : Nat, k ≤ l.length ∧ i = .int .i64 k ∧ s5 = .int .i64 ((l.take k).count (x, y) : Nat) ∧ Below (w.heap.size + 1) (w.alloc (.cells #[.int .i64 x, .int .i64 y] 50)) wr) (fun _ i _ => l.length - (intOf i).toNat)
  case atStart => exact ⟨0, Nat.zero_le _, rfl, by simp, Below.refl _ _⟩
  case round =>
    obtain ⟨k, hk, rfl, rfl, hB⟩ := hrel
    obtain ⟨cc, _⟩ := keepAt hB (Nat.lt_succ_self _)
    have q0 := cc 0
    have q1 := cc 1
    simp at q0 q1
    have hz := hB.size
    have hcnt : (l.take k).count (x, y) ≤ l.length := Nat.le_trans (List.count_le_length ..) (by simp; omega)
    clear cc
    by_cases hlt : k < l.length
    · have hzz : w.heap.size < wr.heap.size := by simp at hz; omega
      obtain ⟨b, off, f, t, rfl, hbB, he, hcf, hct⟩ := sl_at2 (hl.keep (hw1.trans (hB.mono (Nat.le_succ _))) (Nat.le_refl _)) hlt
      have hst := count_step hlt ((x, y) : E2)
      rw [he] at hst
      have hcnt2 : (l.take k).count (x, y) < l.length := Nat.lt_of_le_of_lt (Nat.le_trans (List.count_le_length ..) (by simp; omega)) hlt
      generalize (l.take k).count (x, y) = m at *
      have hq := fun w => eqlP w x y f t
      have hE := hB.alloc (by simp at hz; omega) (.cells #[.int .i64 f, .int .i64 t] 50)
      have HST := Lib.hid hst
      clear hst hl he
      by_cases hxy : ((x, y) : E2) = (f, t)
      · have hd : decide (((x, y) : E2) = (f, t)) = true := decide_eq_true hxy
        rw [hd] at hq
        have HXY := Lib.hid hxy
        clear hd hxy
        go_wp2
        go_roundw
        case rel => exact ⟨k + 1, by omega, by go_num, by rw [HST.out, if_pos HXY.out.symm]; rfl, hE⟩
        case measure => simp [intOf]; omega
      · have hd : decide (((x, y) : E2) = (f, t)) = false := decide_eq_false hxy
        rw [hd] at hq
        have HXY := Lib.hid hxy
        clear hd hxy
        go_wp2
        go_roundw
        case rel => exact ⟨k + 1, by omega, by go_num, by rw [HST.out, if_neg (fun e => HXY.out e.symm)]; rfl, hE⟩
        case measure => simp [intOf]; omega
    · obtain rfl : k = l.length := by omega
      rw [List.take_length] at *
      have hE := hw1.trans (hB.mono (Nat.le_succ _))
      clear hl
      go_wp2
      go_ret
      exact ⟨rfl, hE⟩
end Go.Proofs.Ythlhlglmkcbgaaa.Heap
