/- slices.Sort at []int, off the shelf: what it leaves of a row of the caller's own. -/
import Derived.Test.YtjebckehmmbkbaaVQueue
import Derived.Shelf.SortM.Plain
import Derived.Shelf.SortM.SortNone
namespace Go.Proofs
def Try.laySort_ren : Go.Shelf.Ren := ⟨fun | 5 => 24 | 8 => 40 | 7 => 39 | 19 => 52 | 20 => 53 | 10 => 43 | 11 => 44 | 12 => 45 | 13 => 46 | 14 => 47 | 15 => 48 | 16 => 49 | 17 => 50 | 18 => 51 | 30 => 55 | 31 => 56 | 32 => 57 | 33 => 58 | 34 => 59 | 35 => 54 | 40 => 60 | n => n, fun | 23 => 29 | 25 => 3 | 3 => 3 | 32 => 89 | 22 => 29 | 0 => 0 | 44 => 104 | 46 => 106 | 4 => 4 | 36 => 97 | 35 => 96 | 41 => 68 | 5 => 5 | 9 => 9 | 53 => 108 | 57 => 112 | 63 => 114 | 64 => 115 | n => n, fun | n => n⟩
theorem Try.laySort : Go.Proofs.SlLaysM.n5 Try.prog Try.laySort_ren := {
  mixed := by kernel_rfl,
  f5 := ⟨Try.f24.name, by decide, Try.func24.trans (congrArg some (by kernel_rfl))⟩,
  f7 := ⟨Try.f39.name, by decide, Try.func39.trans (congrArg some (by kernel_rfl))⟩,
  f8 := Try.func40.trans (congrArg some (by kernel_rfl)),
  f10 := ⟨Try.f43.name, by decide, Try.func43.trans (congrArg some (by kernel_rfl))⟩,
  f11 := ⟨Try.f44.name, by decide, Try.func44.trans (congrArg some (by kernel_rfl))⟩,
  f12 := ⟨Try.f45.name, by decide, Try.func45.trans (congrArg some (by kernel_rfl))⟩,
  f13 := ⟨Try.f46.name, by decide, Try.func46.trans (congrArg some (by kernel_rfl))⟩,
  f14 := ⟨Try.f47.name, by decide, Try.func47.trans (congrArg some (by kernel_rfl))⟩,
  f15 := ⟨Try.f48.name, by decide, Try.func48.trans (congrArg some (by kernel_rfl))⟩,
  f16 := ⟨Try.f49.name, by decide, Try.func49.trans (congrArg some (by kernel_rfl))⟩,
  f17 := ⟨Try.f50.name, by decide, Try.func50.trans (congrArg some (by kernel_rfl))⟩,
  f18 := ⟨Try.f51.name, by decide, Try.func51.trans (congrArg some (by kernel_rfl))⟩,
  f19 := Try.func52.trans (congrArg some (by kernel_rfl)),
  f20 := Try.func53.trans (congrArg some (by kernel_rfl)),
  f30 := ⟨Try.f55.name, by decide, Try.func55.trans (congrArg some (by kernel_rfl))⟩,
  f31 := Try.func56.trans (congrArg some (by kernel_rfl)),
  f32 := Try.func57.trans (congrArg some (by kernel_rfl)),
  f33 := ⟨Try.f58.name, by decide, Try.func58.trans (congrArg some (by kernel_rfl))⟩,
  f34 := ⟨Try.f59.name, by decide, Try.func59.trans (congrArg some (by kernel_rfl))⟩,
  f35 := ⟨Try.f54.name, by decide, Try.func54.trans (congrArg some (by kernel_rfl))⟩,
  f40 := ⟨Try.f60.name, by decide, Try.func60.trans (congrArg some (by kernel_rfl))⟩,
  t0 := Try.underlying0,
  a0 := Try.isAgg0,
  z0 := Try.sizeOf0,
  v0 := Try.zeroValue0,
  t3 := Try.underlying3,
  a3 := Try.isAgg3,
  z3 := Try.sizeOf3,
  v3 := Try.zeroValue3,
  t4 := Try.underlying4,
  a4 := Try.isAgg4,
  z4 := Try.sizeOf4,
  v4 := Try.zeroValue4,
  t5 := Try.underlying5,
  a5 := Try.isAgg5,
  z5 := Try.sizeOf5,
  v5 := Try.zeroValue5,
  t9 := Try.underlying9,
  a9 := Try.isAgg9,
  z9 := Try.sizeOf9,
  v9 := Try.zeroValue9,
  t22 := Try.underlying29,
  a22 := Try.isAgg29,
  z22 := Try.sizeOf29,
  v22 := Try.zeroValue29,
  t23 := Try.underlying29,
  a23 := Try.isAgg29,
  z23 := Try.sizeOf29,
  v23 := Try.zeroValue29,
  t25 := Try.underlying3,
  a25 := Try.isAgg3,
  z25 := Try.sizeOf3,
  v25 := Try.zeroValue3,
  t32 := Try.underlying89,
  a32 := Try.isAgg89,
  z32 := Try.sizeOf89,
  v32 := Try.zeroValue89,
  t35 := Try.underlying96,
  a35 := Try.isAgg96,
  z35 := Try.sizeOf96,
  v35 := Try.zeroValue96,
  t36 := Try.underlying97,
  a36 := Try.isAgg97,
  z36 := Try.sizeOf97,
  v36 := Try.zeroValue97,
  t41 := Try.underlying68,
  a41 := Try.isAgg68,
  z41 := Try.sizeOf68,
  v41 := Try.zeroValue68,
  t44 := Try.underlying104,
  a44 := Try.isAgg104,
  z44 := Try.sizeOf104,
  v44 := Try.zeroValue104,
  t46 := Try.underlying106,
  a46 := Try.isAgg106,
  z46 := Try.sizeOf106,
  v46 := Try.zeroValue106,
  t53 := Try.underlying108,
  a53 := Try.isAgg108,
  z53 := Try.sizeOf108,
  v53 := Try.zeroValue108,
  t57 := Try.underlying112,
  a57 := Try.isAgg112,
  z57 := Try.sizeOf112,
  v57 := Try.zeroValue112,
  t63 := Try.underlying114,
  a63 := Try.isAgg114,
  z63 := Try.sizeOf114,
  v63 := Try.zeroValue114,
  t64 := Try.underlying115,
  a64 := Try.isAgg115,
  z64 := Try.sizeOf115,
  v64 := Try.zeroValue115 }
end Go.Proofs
namespace Go.Proofs.Ytjebckehmmbkbaa.Std
open Go.RowKit Go.Proofs.Ytjebckehmmbkbaa
set_option linter.unusedSimpArgs false
set_option linter.unusedVariables false
theorem below_put {base S : Nat} (w : World) (n : Nat) (d : Array Int) (os : Array Obj) (hS : base ≤ S) (hb : base ≤ w.heap.size) : Below base w (Go.Sort.grow (Go.Sort.putRow (Value.int .i64) (Go.Sort.ahead w n) S 0 d) os) := by
  refine ⟨rfl, rfl, rfl, by rw [Go.Sort.size_grow, Go.Sort.size_putRow]; exact Nat.le_add_right _ _, fun k hk => ?_⟩
  rw [Go.Sort.heap_grow_old _ os (by rw [Go.Sort.size_putRow]; exact Nat.lt_of_lt_of_le hk hb)]
  show (w.heap.modify S _)[k]? = _
  rw [Array.getElem?_modify, if_neg (by omega)]
theorem sort_int (A : Option Addr) (n c base : Nat) (l : List Int) (w : World) (hn : l.length = n) (h : Own w base 3 1 ci (.slice A n c) l) (hlen : n ≤ 1000000) (hb : base ≤ w.heap.size) :
    Calls Try.prog 24 #[.slice A n c] w fun e w' => e = .returned (.tuple #[]) ∧ Sl w' w'.heap.size 1 ci A (l.mergeSort fun x y => decide (x ≤ y)) ∧ Below base w w' := by
  by_cases h0 : n = 0
  · subst h0
    have hl : l = [] := List.eq_nil_of_length_eq_zero hn
    subst hl
    have k : Calls Try.prog 24 #[.slice A 0 c] w fun e w' => e = .returned (.tuple #[]) ∧ w' = w := AnyM.slices_Sort_int_none Try.laySort A c w
    refine k.mono ?_
    rintro e w' ⟨h1, rfl⟩
    exact ⟨h1, by rw [List.mergeSort_nil]; exact Sl.nil, Below.refl _ _⟩
  · obtain ⟨S, c2, hv, hS0, hS1, _, hc⟩ := h.some_ (by omega)
    injection hv with hv _ _
    subst hv
    have hH : Go.Sort.Holds (Value.int .i64) w S 0 l.toArray := fun j hj => by
      have hj' : j < l.length := by simpa using hj
      obtain ⟨a, b⟩ := hc j hj' 0 (by decide)
      rw [Nat.mul_one, Nat.add_zero] at a b
      rw [Nat.zero_add]
      refine ⟨?_, b⟩
      rw [a]
      simp [ci, hj']
    have k : Calls Try.prog 24 #[.slice (some ⟨S, 0, none⟩) l.length c] w fun e w' => e = .returned (.tuple #[]) ∧ ∃ n os, w' = Go.Sort.grow (Go.Sort.putRow (Value.int .i64) (Go.Sort.ahead w n) S 0 (l.mergeSort fun x y => decide (x ≤ y)).toArray) os := AnyM.slices_Sort_int Try.laySort S 0 c l w hH hS1 (by omega)
    rw [hn] at k
    refine k.mono ?_
    rintro e w' ⟨h1, q, os, rfl⟩
    refine ⟨h1, fun hl => ⟨S, 0, rfl, by rw [Go.Sort.size_grow, Go.Sort.size_putRow]; exact Nat.lt_of_lt_of_le hS1 (Nat.le_add_right _ _), fun i hi j hj => ?_⟩, below_put w q _ os hS0 hb⟩
    obtain rfl : j = 0 := by omega
    have hH2 := Go.Sort.holds_grow (Value.int .i64) _ os S 0 _ (by rw [Go.Sort.size_putRow]; exact hS1) (Go.Sort.holds_putRow (Value.int .i64) (Go.Sort.ahead w q) S 0 l.toArray (l.mergeSort fun x y => decide (x ≤ y)).toArray (fun j hj => hH j hj) (by simp))
    have := (hH2 i (by simpa using hi)).1
    rw [Nat.mul_one, Nat.add_zero]
    rw [this]
    simp at hi
    simp [ci, hi]
end Go.Proofs.Ytjebckehmmbkbaa.Std
