/- slices.Sort at []int, off the shelf: what it leaves of a row of the caller's own. -/
import Derived.Test.YtlcgkbkmfelcfaaStdI
import Derived.Shelf.SortM.Plain
import Derived.Shelf.SortM.SortNone
import Derived.Ground.SlgmProg
namespace Go.Proofs
shelf_lay_g SlLaysM.n5 Slgm 5 at Try 39 as Try.laySort
end Go.Proofs
namespace Go.Proofs.Ytlcgkbkmfelcfaa.Std
open Go.RowKit Go.Proofs.Ytlcgkbkmfelcfaa
set_option linter.unusedSimpArgs false
set_option linter.unusedVariables false
theorem below_put {base S : Nat} (w : World) (n : Nat) (d : Array Int) (os : Array Obj) (hS : base ≤ S) (hb : base ≤ w.heap.size) : Below base w (Go.Sort.grow (Go.Sort.putRow (Value.int .i64) (Go.Sort.ahead w n) S 0 d) os) := by
  refine ⟨rfl, rfl, rfl, by rw [Go.Sort.size_grow, Go.Sort.size_putRow]; exact Nat.le_add_right _ _, fun k hk => ?_⟩
  rw [Go.Sort.heap_grow_old _ os (by rw [Go.Sort.size_putRow]; exact Nat.lt_of_lt_of_le hk hb)]
  show (w.heap.modify S _)[k]? = _
  rw [Array.getElem?_modify, if_neg (by omega)]
theorem sort_int (A : Option Addr) (n c base : Nat) (l : List Int) (w : World) (hn : l.length = n) (h : Own w base 3 1 ci (.slice A n c) l) (hlen : n ≤ 1000000) (hb : base ≤ w.heap.size) :
    Calls Try.prog 39 #[.slice A n c] w fun e w' => e = .returned (.tuple #[]) ∧ Sl w' w'.heap.size 1 ci A (l.mergeSort fun x y => decide (x ≤ y)) ∧ Below base w w' := by
  by_cases h0 : n = 0
  · subst h0
    have hl : l = [] := List.eq_nil_of_length_eq_zero hn
    subst hl
    have k : Calls Try.prog 39 #[.slice A 0 c] w fun e w' => e = .returned (.tuple #[]) ∧ w' = w := AnyM.slices_Sort_int_none Try.laySort A c w
    refine k.mono ?_
    rintro e w' ⟨h1, rfl⟩
    exact ⟨h1, by rw [List.mergeSort_nil]; exact Sl.nil, Below.refl _ _⟩
  · obtain ⟨S, c2, hv, hS0, hS1, _, hc⟩ := h.some_ (by omega)
    injection hv with hv _ _
    subst hv
    have hH : Go.Sort.Holds (Value.int .i64) w S 0 l.toArray := fun j hj => by
      have hj' : j < l.length := by simpa using hj
      obtain ⟨a, b⟩ := hc j hj' 0 (by decide)
      rw [Nat.mul_one, Nat.add_zero] at a b
      rw [Nat.zero_add]
      refine ⟨?_, b⟩
      rw [a]
      simp [ci, hj']
    have k : Calls Try.prog 39 #[.slice (some ⟨S, 0, none⟩) l.length c] w fun e w' => e = .returned (.tuple #[]) ∧ ∃ n os, w' = Go.Sort.grow (Go.Sort.putRow (Value.int .i64) (Go.Sort.ahead w n) S 0 (l.mergeSort fun x y => decide (x ≤ y)).toArray) os := AnyM.slices_Sort_int Try.laySort S 0 c l w hH hS1 (by omega)
    rw [hn] at k
    refine k.mono ?_
    rintro e w' ⟨h1, q, os, rfl⟩
    refine ⟨h1, fun hl => ⟨S, 0, rfl, by rw [Go.Sort.size_grow, Go.Sort.size_putRow]; exact Nat.lt_of_lt_of_le hS1 (Nat.le_add_right _ _), fun i hi j hj => ?_⟩, below_put w q _ os hS0 hb⟩
    obtain rfl : j = 0 := by omega
    have hH2 := Go.Sort.holds_grow (Value.int .i64) _ os S 0 _ (by rw [Go.Sort.size_putRow]; exact hS1) (Go.Sort.holds_putRow (Value.int .i64) (Go.Sort.ahead w q) S 0 l.toArray (l.mergeSort fun x y => decide (x ≤ y)).toArray (fun j hj => hH j hj) (by simp))
    have := (hH2 i (by simpa using hi)).1
    rw [Nat.mul_one, Nat.add_zero]
    rw [this]
    simp at hi
    simp [ci, hi]
end Go.Proofs.Ytlcgkbkmfelcfaa.Std
