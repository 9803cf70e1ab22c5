/- Plain facts on moves: every move has its move back. -/
import Derived.Test.YtjhnlkmdkjlkdaaGridLaw
namespace Go.Proofs.Ytjhnlkmdkjlkdaa.GridLaw
set_option linter.unusedSimpArgs false
set_option linter.unusedVariables false
theorem gr_in {W H : Int} {l : List Int} {x y : Int} (h : gr W H l x y ≠ 0) : 0 ≤ x ∧ x < W ∧ 0 ≤ y ∧ y < H := by
  unfold gr at h
  split at h
  · exact absurd rfl h
  · omega
theorem un_idx {W x : Int} (y : Int) (h0 : 0 ≤ x) (h1 : x < W) : (y * W + x) % W = x ∧ (y * W + x) / W = y := by
  constructor
  · rw [Int.add_comm, Int.add_mul_emod_self_right]
    exact Int.emod_eq_of_lt h0 h1
  · rw [Int.add_comm, Int.add_mul_ediv_right _ _ (by omega), Int.ediv_eq_zero_of_lt h0 h1, Int.zero_add]
theorem st_neg : ∀ s ∈ st, (-s.1, -s.2) ∈ st := by decide
theorem mvS_some {W H : Int} {l : List Int} {x y : Int} {s : Int × Int} {f t k : Int} (h : mvS W H l x y s = some (f, t, k)) :
    f = y * W + x ∧ t = (y + s.2) * W + (x + s.1) ∧ gr W H l (x + s.1) (y + s.2) ≠ 0 := by
  unfold mvS at h
  split at h
  · cases h
  · rename_i h0
    split at h
    · split at h
      · cases h
      · simp only [Option.some.injEq, Prod.mk.injEq] at h
        exact ⟨h.1.symm, by omega, h0⟩
    · simp only [Option.some.injEq, Prod.mk.injEq] at h
      exact ⟨h.1.symm, by omega, h0⟩
theorem mvS_back {W H : Int} {l : List Int} {x y : Int} {s : Int × Int} {f t k : Int} (hg : gr W H l x y ≠ 0) (h : mvS W H l x y s = some (f, t, k)) :
    mvS W H l (x + s.1) (y + s.2) (-s.1, -s.2) = some (t, f, k) := by
  obtain ⟨hf, ht, hn⟩ := mvS_some h
  unfold mvS at h ⊢
  rw [if_neg hn] at h
  simp only [Int.add_neg_cancel_right]
  rw [if_neg hg]
  obtain ⟨a, b⟩ := s
  simp only at *
  by_cases hd : a ≠ 0 ∧ b ≠ 0
  · rw [if_pos hd] at h
    rw [if_pos (by omega)]
    split at h
    · cases h
    · rename_i h2
      simp only [Option.some.injEq, Prod.mk.injEq] at h
      rw [if_neg (by omega)]
      simp only [Option.some.injEq, Prod.mk.injEq]
      omega
  · rw [if_neg hd] at h
    rw [if_neg (by omega)]
    simp only [Option.some.injEq, Prod.mk.injEq] at h ⊢
    omega
theorem mem_mv {W H : Int} {l : List Int} {x y : Int} {e : E} : e ∈ mv W H l x y ↔ gr W H l x y ≠ 0 ∧ ∃ s ∈ st, mvS W H l x y s = some e := by
  unfold mv
  split
  · simp_all
  · rename_i h
    rw [List.mem_filterMap]
    exact ⟨fun h' => ⟨h, h'⟩, fun h' => h'.2⟩
theorem mv_back {W H : Int} {l : List Int} {x y f t k : Int} (h : (f, t, k) ∈ mv W H l x y) :
    f = y * W + x ∧ 0 ≤ t ∧ t < W * H ∧ (t, f, k) ∈ mv W H l (t % W) (t / W) := by
  obtain ⟨hg, s, hs, hm⟩ := mem_mv.1 h
  obtain ⟨hf, ht, hn⟩ := mvS_some hm
  obtain ⟨x0, x1, y0, y1⟩ := gr_in hn
  obtain ⟨e1, e2⟩ := un_idx (y + s.2) x0 x1
  have hb := idx_bd (H := H) (by omega) x0 x1 y0 y1
  rw [← ht] at e1 e2 hb
  refine ⟨hf, hb.1, hb.2, ?_⟩
  rw [e1, e2]
  exact mem_mv.2 ⟨hn, _, st_neg s hs, mvS_back hg hm⟩
theorem mv_eight (W H : Int) (l : List Int) (x y : Int) : (mv W H l x y).length ≤ 8 := by
  unfold mv
  split
  · simp
  · exact Nat.le_trans (List.length_filterMap_le _ _) (by decide)
end Go.Proofs.Ytjhnlkmdkjlkdaa.GridLaw
