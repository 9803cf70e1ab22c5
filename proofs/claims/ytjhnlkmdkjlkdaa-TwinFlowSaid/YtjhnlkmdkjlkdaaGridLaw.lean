/- Plain facts on grids: no Go in sight. -/
import Derived.RowKit
namespace Go.Proofs.Ytjhnlkmdkjlkdaa.GridLaw
set_option linter.unusedSimpArgs false
set_option linter.unusedVariables false
def badC (c : Int) : Bool := decide (c < 0) || decide (9 < c)
/-- what Check answers -/
def gchk (W H : Int) (l : List Int) : Int := if W < 1 ∨ 8 < W ∨ H < 1 ∨ 8 < H then 1 else if (l.length : Int) ≠ W * H then 3 else if l.any badC then 4 else 0
/-- a right grid -/
structure GGood (W H : Int) (l : List Int) : Prop where
  w1 : 1 ≤ W
  w8 : W ≤ 8
  h1 : 1 ≤ H
  h8 : H ≤ 8
  len : (l.length : Int) = W * H
  cell : ∀ c ∈ l, 0 ≤ c ∧ c ≤ 9
theorem gchk_zero {W H : Int} {l : List Int} : gchk W H l = 0 ↔ GGood W H l := by
  unfold gchk
  constructor
  · intro h
    split at h
    · omega
    · split at h
      · omega
      · split at h
        · omega
        · rename_i h1 h2 h3
          refine ⟨by omega, by omega, by omega, by omega, by omega, fun c hc => ?_⟩
          have : badC c = false := by
            cases hb : badC c with
            | false => rfl
            | true => exact absurd (List.any_eq_true.2 ⟨c, hc, hb⟩) (by simpa using h3)
          simp only [badC, Bool.or_eq_false_iff, decide_eq_false_iff_not] at this
          omega
  · intro h
    have := h.w1; have := h.w8; have := h.h1; have := h.h8
    have hl := h.len
    rw [if_neg (by omega), if_neg (by simpa using hl), if_neg]
    rw [List.any_eq_true]
    rintro ⟨c, hc, hb⟩
    have := h.cell c hc
    simp only [badC, Bool.or_eq_true, decide_eq_true_eq] at hb
    omega
/-- the ground of a place -/
def gr (W H : Int) (l : List Int) (x y : Int) : Int := if x < 0 ∨ W ≤ x ∨ y < 0 ∨ H ≤ y then 0 else l.getD (y * W + x).toNat 0
theorem gr_bd {W H : Int} {l : List Int} (h : GGood W H l) (x y : Int) : 0 ≤ gr W H l x y ∧ gr W H l x y ≤ 9 := by
  unfold gr
  split
  · omega
  · rw [List.getD_eq_getElem?_getD]
    rcases Nat.lt_or_ge (y * W + x).toNat l.length with hl | hl
    · rw [List.getElem?_eq_getElem hl]
      exact h.cell _ (List.getElem_mem hl)
    · rw [List.getElem?_eq_none hl]; simp
theorem idx_bd {W H : Int} {x y : Int} (hw : 1 ≤ W) (hx : 0 ≤ x) (hx2 : x < W) (hy : 0 ≤ y) (hy2 : y < H) : 0 ≤ y * W + x ∧ y * W + x < W * H := by
  have h1 : 0 ≤ y * W := Int.mul_nonneg hy (by omega)
  have h2 : (y + 1) * W ≤ H * W := Int.mul_le_mul_of_nonneg_right (by omega) (by omega)
  rw [Int.add_mul, Int.mul_comm H W] at h2
  omega

abbrev E := Int × Int × Int
/-- the steps all round -/
def st : List (Int × Int) := [(0, -1), (1, -1), (1, 0), (1, 1), (0, 1), (-1, 1), (-1, 0), (-1, -1)]
/-- one move, if it can be made -/
def mvS (W H : Int) (l : List Int) (x y : Int) (s : Int × Int) : Option E :=
  if gr W H l (x + s.1) (y + s.2) = 0 then none
  else if s.1 ≠ 0 ∧ s.2 ≠ 0 then
    if gr W H l (x + s.1) y = 0 ∨ gr W H l x (y + s.2) = 0 then none else some (y * W + x, (y + s.2) * W + x + s.1, 7 * (gr W H l x y + gr W H l (x + s.1) (y + s.2)))
  else some (y * W + x, (y + s.2) * W + x + s.1, 5 * (gr W H l x y + gr W H l (x + s.1) (y + s.2)))
/-- the moves from a place -/
def mv (W H : Int) (l : List Int) (x y : Int) : List E := if gr W H l x y = 0 then [] else st.filterMap (mvS W H l x y)
theorem mv_succ (f : Int × Int → Option E) {k : Nat} {s : Int × Int} (h : st[k]? = some s) : (st.take (k + 1)).filterMap f = (st.take k).filterMap f ++ (match f s with | none => [] | some e => [e]) := by
  rw [List.take_add_one, h, List.filterMap_append]
  congr 1
  cases hf : f s <;> simp [hf]
theorem mv_len (f : Int × Int → Option E) (k : Nat) : ((st.take k).filterMap f).length ≤ 8 :=
  Nat.le_trans (List.length_filterMap_le _ _) (Nat.le_trans (List.length_take_le' _ _) (by decide))
end Go.Proofs.Ytjhnlkmdkjlkdaa.GridLaw
