/- Plain facts on groups: one pair more joins at most two. -/
import Derived.Test.YtdpjbjgecmnmnaaUnionOf
namespace Go.Proofs.Ytdpjbjgecmnmnaa.Union
open Go.Proofs.Ytdpjbjgecmnmnaa UnionLaw
set_option linter.unusedSimpArgs false
set_option linter.unusedVariables false
theorem pn_snoc (l : List (Int × Int)) (a b : Int) : pn (l ++ [(a, b)]) = pn l ++ [(a.toNat, b.toNat)] := by simp [pn]
/-- the roots behind one pair more -/
theorem root_more {l : List (Nat × Nat)} {f g : Nat → Nat} {a b : Nat} (hf : ∀ i, f i ≤ i) (hg : ∀ i, g i ≤ i) (h : Inv l f) (k : Inv (l ++ [(a, b)]) g) (i : Nat) :
    root g i = if root f i = max (root f a) (root f b) then min (root f a) (root f b) else root f i := by
  have hj := h.join hf a b
  have hle : ∀ i, upd f (max (root f a) (root f b)) (min (root f a) (root f b)) i ≤ i := upd_le hf (by omega)
  rw [← root_join hf (root_is hf a) (root_is hf b)]
  exact Inv.same hg hle k hj (fun p hp => .inl hp) (fun p hp => .inl hp) i
theorem out_same {l : List (Nat × Nat)} {f g : Nat → Nat} (n : Nat) (hf : ∀ i, f i ≤ i) (hg : ∀ i, g i ≤ i) (h : Inv l f) (k : Inv l g) : outL f n = outL g n ∧ many f n = many g n := by
  have e := Inv.same hf hg h k (fun p hp => .inl hp) (fun p hp => .inl hp)
  unfold outL many
  exact ⟨List.map_congr_left fun i _ => by rw [e], by congr 1; exact List.filter_congr fun i _ => by rw [e]⟩
theorem out_eq {l : List (Nat × Nat)} {f g : Nat → Nat} {a b : Nat} (n : Nat) (hf : ∀ i, f i ≤ i) (hg : ∀ i, g i ≤ i) (h : Inv l f) (k : Inv (l ++ [(a, b)]) g) (he : root f a = root f b) : outL f n = outL g n ∧ many f n = many g n := by
  have e : ∀ i, root g i = root f i := fun i => by
    rw [root_more hf hg h k, he]
    split <;> omega
  unfold outL many
  exact ⟨List.map_congr_left fun i _ => by rw [e], by congr 1; exact List.filter_congr fun i _ => by rw [e]⟩
theorem filter_one (n : Nat) (P Q : Nat → Bool) (M : Nat) (hM : M < n) (hP : P M = true) (hQ : Q M = false) (h : ∀ i, i ≠ M → Q i = P i) : ((List.range n).filter P).length = ((List.range n).filter Q).length + 1 := by
  induction n with
  | zero => omega
  | succ n ih =>
    rw [List.range_succ, List.filter_append, List.filter_append, List.length_append, List.length_append]
    by_cases e : M = n
    · subst e
      have : (List.range M).filter P = (List.range M).filter Q := List.filter_congr fun i hi => (h i (by have := List.mem_range.1 hi; omega)).symm
      rw [this]
      simp [List.filter_cons, hP, hQ]
    · have := ih (by omega)
      rw [this]
      have hn := h n (fun h => e h.symm)
      simp only [List.filter_cons, List.filter_nil, hn]
      split <;> simp <;> omega
theorem many_less {l : List (Nat × Nat)} {f g : Nat → Nat} {a b : Nat} (n : Nat) (ha : a < n) (hb : b < n) (hf : ∀ i, f i ≤ i) (hg : ∀ i, g i ≤ i) (h : Inv l f) (k : Inv (l ++ [(a, b)]) g) (he : root f a ≠ root f b) : many f n = many g n + 1 := by
  have la := root_le hf a
  have lb := root_le hf b
  have ra := root_root hf a
  have rb := root_root hf b
  refine filter_one n _ _ (max (root f a) (root f b)) (by omega) ?_ ?_ (fun i hi => ?_)
  · rw [beq_iff_eq]
    rcases Nat.le_total (root f a) (root f b) with h' | h'
    · rw [Nat.max_eq_right h']; exact rb
    · rw [Nat.max_eq_left h']; exact ra
  · rw [beq_eq_false_iff_ne, root_more hf hg h k]
    have : root f (max (root f a) (root f b)) = max (root f a) (root f b) := by
      rcases Nat.le_total (root f a) (root f b) with h' | h'
      · rw [Nat.max_eq_right h']; exact rb
      · rw [Nat.max_eq_left h']; exact ra
    rw [if_pos this]
    omega
  · rw [root_more hf hg h k]
    split
    · rename_i hM
      have hmm : root f (min (root f a) (root f b)) = min (root f a) (root f b) := by
        rcases Nat.le_total (root f a) (root f b) with h' | h'
        · rw [Nat.min_eq_left h']; exact ra
        · rw [Nat.min_eq_right h']; exact rb
      have h1 : (min (root f a) (root f b) == i) = false := by
        rw [beq_eq_false_iff_ne]
        intro e
        rw [← e, hmm] at hM
        omega
      have h2 : (root f i == i) = false := by rw [beq_eq_false_iff_ne, hM]; exact fun e => hi e.symm
      rw [h1, h2]
    · rfl
theorem out_get {f : Nat → Nat} {n a : Nat} (h : a < n) : ∃ hh : a < (outL f n).length, (outL f n)[a] = ((root f a : Nat) : Int) := ⟨by rw [outL_len]; exact h, outL_get _⟩
end Go.Proofs.Ytdpjbjgecmnmnaa.Union
