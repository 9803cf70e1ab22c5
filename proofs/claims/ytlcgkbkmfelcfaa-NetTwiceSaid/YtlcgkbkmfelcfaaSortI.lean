/- slices.Sort at []int, off the shelf: what it leaves of a row of the caller's own. -/
import Derived.Test.YtlcgkbkmfelcfaaStdI
import Derived.Shelf.SortM.Plain
import Derived.Shelf.SortM.SortNone
namespace Go.Proofs
def Try.laySort_ren : Go.Shelf.Ren := ⟨fun | 5 => 39 | 8 => 64 | 7 => 63 | 19 => 92 | 20 => 93 | 10 => 83 | 11 => 84 | 12 => 85 | 13 => 86 | 14 => 87 | 15 => 88 | 16 => 89 | 17 => 90 | 18 => 91 | 30 => 104 | 31 => 105 | 32 => 106 | 33 => 107 | 34 => 108 | 35 => 109 | 40 => 110 | n => n, fun | 23 => 25 | 25 => 3 | 3 => 3 | 32 => 102 | 22 => 25 | 0 => 0 | 44 => 129 | 46 => 110 | 4 => 4 | 36 => 123 | 35 => 122 | 41 => 95 | 5 => 5 | 9 => 9 | 53 => 145 | 57 => 149 | 63 => 155 | 64 => 156 | n => n, fun | n => n⟩
theorem Try.laySort : Go.Proofs.SlLaysM.n5 Try.prog Try.laySort_ren := {
  mixed := by kernel_rfl,
  f5 := ⟨Try.f39.name, by decide, Try.func39.trans (congrArg some (by kernel_rfl))⟩,
  f7 := ⟨Try.f63.name, by decide, Try.func63.trans (congrArg some (by kernel_rfl))⟩,
  f8 := Try.func64.trans (congrArg some (by kernel_rfl)),
  f10 := ⟨Try.f83.name, by decide, Try.func83.trans (congrArg some (by kernel_rfl))⟩,
  f11 := ⟨Try.f84.name, by decide, Try.func84.trans (congrArg some (by kernel_rfl))⟩,
  f12 := ⟨Try.f85.name, by decide, Try.func85.trans (congrArg some (by kernel_rfl))⟩,
  f13 := ⟨Try.f86.name, by decide, Try.func86.trans (congrArg some (by kernel_rfl))⟩,
  f14 := ⟨Try.f87.name, by decide, Try.func87.trans (congrArg some (by kernel_rfl))⟩,
  f15 := ⟨Try.f88.name, by decide, Try.func88.trans (congrArg some (by kernel_rfl))⟩,
  f16 := ⟨Try.f89.name, by decide, Try.func89.trans (congrArg some (by kernel_rfl))⟩,
  f17 := ⟨Try.f90.name, by decide, Try.func90.trans (congrArg some (by kernel_rfl))⟩,
  f18 := ⟨Try.f91.name, by decide, Try.func91.trans (congrArg some (by kernel_rfl))⟩,
  f19 := Try.func92.trans (congrArg some (by kernel_rfl)),
  f20 := Try.func93.trans (congrArg some (by kernel_rfl)),
  f30 := ⟨Try.f104.name, by decide, Try.func104.trans (congrArg some (by kernel_rfl))⟩,
  f31 := Try.func105.trans (congrArg some (by kernel_rfl)),
  f32 := Try.func106.trans (congrArg some (by kernel_rfl)),
  f33 := ⟨Try.f107.name, by decide, Try.func107.trans (congrArg some (by kernel_rfl))⟩,
  f34 := ⟨Try.f108.name, by decide, Try.func108.trans (congrArg some (by kernel_rfl))⟩,
  f35 := ⟨Try.f109.name, by decide, Try.func109.trans (congrArg some (by kernel_rfl))⟩,
  f40 := ⟨Try.f110.name, by decide, Try.func110.trans (congrArg some (by kernel_rfl))⟩,
  t0 := Try.underlying0,
  a0 := Try.isAgg0,
  z0 := Try.sizeOf0,
  v0 := Try.zeroValue0,
  t3 := Try.underlying3,
  a3 := Try.isAgg3,
  z3 := Try.sizeOf3,
  v3 := Try.zeroValue3,
  t4 := Try.underlying4,
  a4 := Try.isAgg4,
  z4 := Try.sizeOf4,
  v4 := Try.zeroValue4,
  t5 := Try.underlying5,
  a5 := Try.isAgg5,
  z5 := Try.sizeOf5,
  v5 := Try.zeroValue5,
  t9 := Try.underlying9,
  a9 := Try.isAgg9,
  z9 := Try.sizeOf9,
  v9 := Try.zeroValue9,
  t22 := Try.underlying25,
  a22 := Try.isAgg25,
  z22 := Try.sizeOf25,
  v22 := Try.zeroValue25,
  t23 := Try.underlying25,
  a23 := Try.isAgg25,
  z23 := Try.sizeOf25,
  v23 := Try.zeroValue25,
  t25 := Try.underlying3,
  a25 := Try.isAgg3,
  z25 := Try.sizeOf3,
  v25 := Try.zeroValue3,
  t32 := Try.underlying102,
  a32 := Try.isAgg102,
  z32 := Try.sizeOf102,
  v32 := Try.zeroValue102,
  t35 := Try.underlying122,
  a35 := Try.isAgg122,
  z35 := Try.sizeOf122,
  v35 := Try.zeroValue122,
  t36 := Try.underlying123,
  a36 := Try.isAgg123,
  z36 := Try.sizeOf123,
  v36 := Try.zeroValue123,
  t41 := Try.underlying95,
  a41 := Try.isAgg95,
  z41 := Try.sizeOf95,
  v41 := Try.zeroValue95,
  t44 := Try.underlying129,
  a44 := Try.isAgg129,
  z44 := Try.sizeOf129,
  v44 := Try.zeroValue129,
  t46 := Try.underlying110,
  a46 := Try.isAgg110,
  z46 := Try.sizeOf110,
  v46 := Try.zeroValue110,
  t53 := Try.underlying145,
  a53 := Try.isAgg145,
  z53 := Try.sizeOf145,
  v53 := Try.zeroValue145,
  t57 := Try.underlying149,
  a57 := Try.isAgg149,
  z57 := Try.sizeOf149,
  v57 := Try.zeroValue149,
  t63 := Try.underlying155,
  a63 := Try.isAgg155,
  z63 := Try.sizeOf155,
  v63 := Try.zeroValue155,
  t64 := Try.underlying156,
  a64 := Try.isAgg156,
  z64 := Try.sizeOf156,
  v64 := Try.zeroValue156 }
end Go.Proofs
namespace Go.Proofs.Ytlcgkbkmfelcfaa.Std
open Go.RowKit Go.Proofs.Ytlcgkbkmfelcfaa
set_option linter.unusedSimpArgs false
set_option linter.unusedVariables false
theorem below_put {base S : Nat} (w : World) (n : Nat) (d : Array Int) (os : Array Obj) (hS : base ≤ S) (hb : base ≤ w.heap.size) : Below base w (Go.Sort.grow (Go.Sort.putRow (Value.int .i64) (Go.Sort.ahead w n) S 0 d) os) := by
  refine ⟨rfl, rfl, rfl, by rw [Go.Sort.size_grow, Go.Sort.size_putRow]; exact Nat.le_add_right _ _, fun k hk => ?_⟩
  rw [Go.Sort.heap_grow_old _ os (by rw [Go.Sort.size_putRow]; exact Nat.lt_of_lt_of_le hk hb)]
  show (w.heap.modify S _)[k]? = _
  rw [Array.getElem?_modify, if_neg (by omega)]
theorem sort_int (A : Option Addr) (n c base : Nat) (l : List Int) (w : World) (hn : l.length = n) (h : Own w base 3 1 ci (.slice A n c) l) (hlen : n ≤ 1000000) (hb : base ≤ w.heap.size) :
    Calls Try.prog 39 #[.slice A n c] w fun e w' => e = .returned (.tuple #[]) ∧ Sl w' w'.heap.size 1 ci A (l.mergeSort fun x y => decide (x ≤ y)) ∧ Below base w w' := by
  by_cases h0 : n = 0
  · subst h0
    have hl : l = [] := List.eq_nil_of_length_eq_zero hn
    subst hl
    have k : Calls Try.prog 39 #[.slice A 0 c] w fun e w' => e = .returned (.tuple #[]) ∧ w' = w := AnyM.slices_Sort_int_none Try.laySort A c w
    refine k.mono ?_
    rintro e w' ⟨h1, rfl⟩
    exact ⟨h1, by rw [List.mergeSort_nil]; exact Sl.nil, Below.refl _ _⟩
  · obtain ⟨S, c2, hv, hS0, hS1, _, hc⟩ := h.some_ (by omega)
    injection hv with hv _ _
    subst hv
    have hH : Go.Sort.Holds (Value.int .i64) w S 0 l.toArray := fun j hj => by
      have hj' : j < l.length := by simpa using hj
      obtain ⟨a, b⟩ := hc j hj' 0 (by decide)
      rw [Nat.mul_one, Nat.add_zero] at a b
      rw [Nat.zero_add]
      refine ⟨?_, b⟩
      rw [a]
      simp [ci, hj']
    have k : Calls Try.prog 39 #[.slice (some ⟨S, 0, none⟩) l.length c] w fun e w' => e = .returned (.tuple #[]) ∧ ∃ n os, w' = Go.Sort.grow (Go.Sort.putRow (Value.int .i64) (Go.Sort.ahead w n) S 0 (l.mergeSort fun x y => decide (x ≤ y)).toArray) os := AnyM.slices_Sort_int Try.laySort S 0 c l w hH hS1 (by omega)
    rw [hn] at k
    refine k.mono ?_
    rintro e w' ⟨h1, q, os, rfl⟩
    refine ⟨h1, fun hl => ⟨S, 0, rfl, by rw [Go.Sort.size_grow, Go.Sort.size_putRow]; exact Nat.lt_of_lt_of_le hS1 (Nat.le_add_right _ _), fun i hi j hj => ?_⟩, below_put w q _ os hS0 hb⟩
    obtain rfl : j = 0 := by omega
    have hH2 := Go.Sort.holds_grow (Value.int .i64) _ os S 0 _ (by rw [Go.Sort.size_putRow]; exact hS1) (Go.Sort.holds_putRow (Value.int .i64) (Go.Sort.ahead w q) S 0 l.toArray (l.mergeSort fun x y => decide (x ≤ y)).toArray (fun j hj => hH j hj) (by simp))
    have := (hH2 i (by simpa using hi)).1
    rw [Nat.mul_one, Nat.add_zero]
    rw [this]
    simp at hi
    simp [ci, hi]
end Go.Proofs.Ytlcgkbkmfelcfaa.Std
