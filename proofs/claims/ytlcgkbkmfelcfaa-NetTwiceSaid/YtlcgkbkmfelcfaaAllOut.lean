/- Plain: the numbers of all edges out of all places, sorted, are all numbers, each once. -/
import Derived.Test.YtlcgkbkmfelcfaaNetOuts
namespace Go.Proofs.Ytlcgkbkmfelcfaa.Net
open Go.RowKit Go.Proofs.Ytlcgkbkmfelcfaa NetLaw
set_option linter.unusedSimpArgs false
set_option linter.unusedVariables false
/-- the numbers of the edges out of the places below v, one place after the other -/
def gath (l : List E) : Nat → List Int
  | 0 => []
  | v + 1 => gath l v ++ ol l l.length v
theorem mem_ol {l : List E} {v : Nat} {x : Int} : x ∈ ol l l.length v ↔ ∃ i : Nat, i < l.length ∧ x = (i : Int) ∧ (l.getD i (0, 0, 0)).1 = (v : Int) := by
  unfold ol
  rw [List.mem_map]
  constructor
  · rintro ⟨i, hi, rfl⟩
    rw [List.mem_filter, List.mem_range, beq_iff_eq] at hi
    exact ⟨i, hi.1, rfl, hi.2⟩
  · rintro ⟨i, hi, rfl, h⟩
    exact ⟨i, by rw [List.mem_filter, List.mem_range, beq_iff_eq]; exact ⟨hi, h⟩, rfl⟩
theorem cast_nodup {xs : List Nat} (h : xs.Nodup) : (xs.map fun i => ((i : Nat) : Int)).Nodup := by
  rw [List.Nodup, List.pairwise_map]
  exact List.Pairwise.imp (fun h e => h (by omega)) h
theorem ol_nodup (l : List E) (k v : Nat) : (ol l k v).Nodup := cast_nodup (List.Pairwise.filter _ List.nodup_range)
theorem mem_gath {l : List E} {n : Nat} {x : Int} : x ∈ gath l n ↔ ∃ i : Nat, i < l.length ∧ x = (i : Int) ∧ 0 ≤ (l.getD i (0, 0, 0)).1 ∧ (l.getD i (0, 0, 0)).1 < (n : Int) := by
  induction n with
  | zero =>
    constructor
    · intro h; cases h
    · rintro ⟨i, _, _, h1, h2⟩; omega
  | succ n ih =>
    rw [gath, List.mem_append, ih, mem_ol]
    constructor
    · rintro (⟨i, a, b, c, d⟩ | ⟨i, a, b, c⟩)
      · exact ⟨i, a, b, c, by omega⟩
      · exact ⟨i, a, b, by omega, by omega⟩
    · rintro ⟨i, a, b, c, d⟩
      by_cases e : (l.getD i (0, 0, 0)).1 = (n : Int)
      · exact .inr ⟨i, a, b, e⟩
      · exact .inl ⟨i, a, b, c, by omega⟩
theorem gath_nodup (l : List E) (n : Nat) : (gath l n).Nodup := by
  induction n with
  | zero => exact List.Pairwise.nil
  | succ n ih =>
    rw [gath, List.nodup_append]
    refine ⟨ih, ol_nodup .., fun x hx y hy e => ?_⟩
    subst e
    obtain ⟨i, _, e1, _, d⟩ := mem_gath.1 hx
    obtain ⟨j, _, e2, f⟩ := mem_ol.1 hy
    obtain rfl : i = j := by omega
    omega
theorem gath_len (l : List E) (n : Nat) : (gath l n).length ≤ n * l.length := by
  induction n with
  | zero => simp [gath]
  | succ n ih =>
    have := ol_len l l.length n
    rw [gath, List.length_append, Nat.succ_mul]
    omega
def nums (L : Nat) : List Int := (List.range L).map fun i => ((i : Nat) : Int)
theorem gath_perm {l : List E} {n : Nat} (h : ∀ e ∈ l, 0 ≤ e.1 ∧ e.1 < (n : Int)) : (gath l n).Perm (nums l.length) := by
  refine (List.perm_ext_iff_of_nodup (gath_nodup l n) (cast_nodup List.nodup_range)).2 fun x => ?_
  rw [mem_gath, List.mem_map]
  constructor
  · rintro ⟨i, a, b, _⟩
    exact ⟨i, List.mem_range.2 a, b.symm⟩
  · rintro ⟨i, a, b⟩
    have ha := List.mem_range.1 a
    have := h _ (List.getElem_mem ha)
    refine ⟨i, ha, b.symm, ?_⟩
    rw [List.getD_eq_getElem?_getD, List.getElem?_eq_getElem ha, Option.getD_some]
    exact this
theorem nums_sorted (L : Nat) : (nums L).Pairwise fun x y : Int => decide (x ≤ y) = true := by
  rw [nums, List.pairwise_map]
  exact List.Pairwise.imp (fun h => decide_eq_true (by omega)) List.pairwise_lt_range
theorem gath_sort {l : List E} {n : Nat} (h : ∀ e ∈ l, 0 ≤ e.1 ∧ e.1 < (n : Int)) : (gath l n).mergeSort (fun x y => decide (x ≤ y)) = nums l.length := by
  have hp := (List.mergeSort_perm (gath l n) fun x y => decide (x ≤ y)).trans (gath_perm h)
  refine List.Perm.eq_of_pairwise (le := fun x y : Int => decide (x ≤ y) = true) (fun a b _ _ h1 h2 => ?_) (List.pairwise_mergeSort (fun a b c h1 h2 => ?_) (fun a b => ?_) _) (nums_sorted _) hp
  · have := of_decide_eq_true h1
    have := of_decide_eq_true h2
    omega
  · have := of_decide_eq_true h1
    have := of_decide_eq_true h2
    exact decide_eq_true (by omega)
  · rw [Bool.or_eq_true, decide_eq_true_iff, decide_eq_true_iff]
    omega
theorem gath_all {l : List E} {n : Nat} (h : ∀ e ∈ l, 0 ≤ e.1 ∧ e.1 < (n : Int)) : (gath l n).length = l.length := by
  rw [(gath_perm h).length_eq]
  simp [nums]
theorem nums_get {L k : Nat} (h : k < (nums L).length) : (nums L)[k] = (k : Int) := by simp [nums]
theorem nums_len (L : Nat) : (nums L).length = L := by simp [nums]
end Go.Proofs.Ytlcgkbkmfelcfaa.Net
