/- Plain facts on grids: no Go in sight. -/
/- Plain facts on moves: every move has its move back. -/
import Derived.RowKit
namespace Go.Proofs.Ytamphgcpfncenaa.GridLaw
set_option linter.unusedSimpArgs false
set_option linter.unusedVariables false
def badC (c : Int) : Bool := decide (c < 0) || decide (9 < c)
/-- what Check answers -/
def gchk (W H : Int) (l : List Int) : Int := if W < 1 ∨ 8 < W ∨ H < 1 ∨ 8 < H then 1 else if (l.length : Int) ≠ W * H then 3 else if l.any badC then 4 else 0
/-- a right grid -/
structure GGood (W H : Int) (l : List Int) : Prop where
  w1 : 1 ≤ W
  w8 : W ≤ 8
  h1 : 1 ≤ H
  h8 : H ≤ 8
  len : (l.length : Int) = W * H
  cell : ∀ c ∈ l, 0 ≤ c ∧ c ≤ 9
theorem gchk_zero {W H : Int} {l : List Int} : gchk W H l = 0 ↔ GGood W H l := by
  unfold gchk
  constructor
  · intro h
    split at h
    · omega
    · split at h
      · omega
      · split at h
        · omega
        · rename_i h1 h2 h3
          refine ⟨by omega, by omega, by omega, by omega, by omega, fun c hc => ?_⟩
          have : badC c = false := by
            cases hb : badC c with
            | false => rfl
            | true => exact absurd (List.any_eq_true.2 ⟨c, hc, hb⟩) (by simpa using h3)
          simp only [badC, Bool.or_eq_false_iff, decide_eq_false_iff_not] at this
          omega
  · intro h
    have := h.w1; have := h.w8; have := h.h1; have := h.h8
    have hl := h.len
    rw [if_neg (by omega), if_neg (by simpa using hl), if_neg]
    rw [List.any_eq_true]
    rintro ⟨c, hc, hb⟩
    have := h.cell c hc
    simp only [badC, Bool.or_eq_true, decide_eq_true_eq] at hb
    omega
/-- the ground of a place -/
def gr (W H : Int) (l : List Int) (x y : Int) : Int := if x < 0 ∨ W ≤ x ∨ y < 0 ∨ H ≤ y then 0 else l.getD (y * W + x).toNat 0
theorem gr_bd {W H : Int} {l : List Int} (h : GGood W H l) (x y : Int) : 0 ≤ gr W H l x y ∧ gr W H l x y ≤ 9 := by
  unfold gr
  split
  · omega
  · rw [List.getD_eq_getElem?_getD]
    rcases Nat.lt_or_ge (y * W + x).toNat l.length with hl | hl
    · rw [List.getElem?_eq_getElem hl]
      exact h.cell _ (List.getElem_mem hl)
    · rw [List.getElem?_eq_none hl]; simp
theorem idx_bd {W H : Int} {x y : Int} (hw : 1 ≤ W) (hx : 0 ≤ x) (hx2 : x < W) (hy : 0 ≤ y) (hy2 : y < H) : 0 ≤ y * W + x ∧ y * W + x < W * H := by
  have h1 : 0 ≤ y * W := Int.mul_nonneg hy (by omega)
  have h2 : (y + 1) * W ≤ H * W := Int.mul_le_mul_of_nonneg_right (by omega) (by omega)
  rw [Int.add_mul, Int.mul_comm H W] at h2
  omega

abbrev E := Int × Int × Int
/-- the steps all round -/
def st : List (Int × Int) := [(0, -1), (1, -1), (1, 0), (1, 1), (0, 1), (-1, 1), (-1, 0), (-1, -1)]
/-- one move, if it can be made -/
def mvS (W H : Int) (l : List Int) (x y : Int) (s : Int × Int) : Option E :=
  if gr W H l (x + s.1) (y + s.2) = 0 then none
  else if s.1 ≠ 0 ∧ s.2 ≠ 0 then
    if gr W H l (x + s.1) y = 0 ∨ gr W H l x (y + s.2) = 0 then none else some (y * W + x, (y + s.2) * W + x + s.1, 7 * (gr W H l x y + gr W H l (x + s.1) (y + s.2)))
  else some (y * W + x, (y + s.2) * W + x + s.1, 5 * (gr W H l x y + gr W H l (x + s.1) (y + s.2)))
/-- the moves from a place -/
def mv (W H : Int) (l : List Int) (x y : Int) : List E := if gr W H l x y = 0 then [] else st.filterMap (mvS W H l x y)
theorem mv_succ (f : Int × Int → Option E) {k : Nat} {s : Int × Int} (h : st[k]? = some s) : (st.take (k + 1)).filterMap f = (st.take k).filterMap f ++ (match f s with | none => [] | some e => [e]) := by
  rw [List.take_add_one, h, List.filterMap_append]
  congr 1
  cases hf : f s <;> simp [hf]
theorem mv_len (f : Int × Int → Option E) (k : Nat) : ((st.take k).filterMap f).length ≤ 8 :=
  Nat.le_trans (List.length_filterMap_le _ _) (Nat.le_trans (List.length_take_le' _ _) (by decide))
end Go.Proofs.Ytamphgcpfncenaa.GridLaw

namespace Go.Proofs.Ytamphgcpfncenaa.GridLaw
set_option linter.unusedSimpArgs false
set_option linter.unusedVariables false
theorem gr_in {W H : Int} {l : List Int} {x y : Int} (h : gr W H l x y ≠ 0) : 0 ≤ x ∧ x < W ∧ 0 ≤ y ∧ y < H := by
  unfold gr at h
  split at h
  · exact absurd rfl h
  · omega
theorem un_idx {W x : Int} (y : Int) (h0 : 0 ≤ x) (h1 : x < W) : (y * W + x) % W = x ∧ (y * W + x) / W = y := by
  constructor
  · rw [Int.add_comm, Int.add_mul_emod_self_right]
    exact Int.emod_eq_of_lt h0 h1
  · rw [Int.add_comm, Int.add_mul_ediv_right _ _ (by omega), Int.ediv_eq_zero_of_lt h0 h1, Int.zero_add]
theorem st_neg : ∀ s ∈ st, (-s.1, -s.2) ∈ st := by decide
theorem mvS_some {W H : Int} {l : List Int} {x y : Int} {s : Int × Int} {f t k : Int} (h : mvS W H l x y s = some (f, t, k)) :
    f = y * W + x ∧ t = (y + s.2) * W + (x + s.1) ∧ gr W H l (x + s.1) (y + s.2) ≠ 0 := by
  unfold mvS at h
  split at h
  · cases h
  · rename_i h0
    split at h
    · split at h
      · cases h
      · simp only [Option.some.injEq, Prod.mk.injEq] at h
        exact ⟨h.1.symm, by omega, h0⟩
    · simp only [Option.some.injEq, Prod.mk.injEq] at h
      exact ⟨h.1.symm, by omega, h0⟩
theorem mvS_back {W H : Int} {l : List Int} {x y : Int} {s : Int × Int} {f t k : Int} (hg : gr W H l x y ≠ 0) (h : mvS W H l x y s = some (f, t, k)) :
    mvS W H l (x + s.1) (y + s.2) (-s.1, -s.2) = some (t, f, k) := by
  obtain ⟨hf, ht, hn⟩ := mvS_some h
  unfold mvS at h ⊢
  rw [if_neg hn] at h
  simp only [Int.add_neg_cancel_right]
  rw [if_neg hg]
  obtain ⟨a, b⟩ := s
  simp only at *
  by_cases hd : a ≠ 0 ∧ b ≠ 0
  · rw [if_pos hd] at h
    rw [if_pos (by omega)]
    split at h
    · cases h
    · rename_i h2
      simp only [Option.some.injEq, Prod.mk.injEq] at h
      rw [if_neg (by omega)]
      simp only [Option.some.injEq, Prod.mk.injEq]
      omega
  · rw [if_neg hd] at h
    rw [if_neg (by omega)]
    simp only [Option.some.injEq, Prod.mk.injEq] at h ⊢
    omega
theorem mem_mv {W H : Int} {l : List Int} {x y : Int} {e : E} : e ∈ mv W H l x y ↔ gr W H l x y ≠ 0 ∧ ∃ s ∈ st, mvS W H l x y s = some e := by
  unfold mv
  split
  · simp_all
  · rename_i h
    rw [List.mem_filterMap]
    exact ⟨fun h' => ⟨h, h'⟩, fun h' => h'.2⟩
theorem mv_back {W H : Int} {l : List Int} {x y f t k : Int} (h : (f, t, k) ∈ mv W H l x y) :
    f = y * W + x ∧ 0 ≤ t ∧ t < W * H ∧ (t, f, k) ∈ mv W H l (t % W) (t / W) := by
  obtain ⟨hg, s, hs, hm⟩ := mem_mv.1 h
  obtain ⟨hf, ht, hn⟩ := mvS_some hm
  obtain ⟨x0, x1, y0, y1⟩ := gr_in hn
  obtain ⟨e1, e2⟩ := un_idx (y + s.2) x0 x1
  have hb := idx_bd (H := H) (by omega) x0 x1 y0 y1
  rw [← ht] at e1 e2 hb
  refine ⟨hf, hb.1, hb.2, ?_⟩
  rw [e1, e2]
  exact mem_mv.2 ⟨hn, _, st_neg s hs, mvS_back hg hm⟩
theorem mv_eight (W H : Int) (l : List Int) (x y : Int) : (mv W H l x y).length ≤ 8 := by
  unfold mv
  split
  · simp
  · exact Nat.le_trans (List.length_filterMap_le _ _) (by decide)
end Go.Proofs.Ytamphgcpfncenaa.GridLaw
