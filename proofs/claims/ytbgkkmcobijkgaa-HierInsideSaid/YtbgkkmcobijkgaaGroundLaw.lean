/- Plain facts on the net of a grid: no Go in sight. -/
import Derived.Test.YtbgkkmcobijkgaaGridBackLaw
import Derived.Test.YtbgkkmcobijkgaaNetTurn
namespace Go.Proofs.Ytbgkkmcobijkgaa.GroundLaw
open Go.Proofs.Ytbgkkmcobijkgaa.GridLaw Go.Proofs.Ytbgkkmcobijkgaa.Net
set_option linter.unusedSimpArgs false
set_option linter.unusedVariables false
/-- the moves from the first k places -/
def allM (W H : Int) (l : List Int) (k : Nat) : List E := (List.range k).flatMap fun (v : Nat) => mv W H l ((v : Int) % W) ((v : Int) / W)
theorem allM_succ (W H : Int) (l : List Int) (k : Nat) : allM W H l (k + 1) = allM W H l k ++ mv W H l ((k : Int) % W) ((k : Int) / W) := by
  unfold allM
  rw [List.range_succ, List.flatMap_append]
  simp
theorem allM_len (W H : Int) (l : List Int) (k : Nat) : (allM W H l k).length ≤ 8 * k := by
  induction k with
  | zero => simp [allM]
  | succ k ih =>
    rw [allM_succ, List.length_append]
    have := mv_eight W H l ((k : Int) % W) ((k : Int) / W)
    omega
theorem mem_allM {W H : Int} {l : List Int} {k : Nat} {e : E} : e ∈ allM W H l k ↔ ∃ v : Nat, v < k ∧ e ∈ mv W H l ((v : Int) % W) ((v : Int) / W) := by
  unfold allM
  rw [List.mem_flatMap]
  constructor
  · rintro ⟨v, hv, h⟩
    exact ⟨v, List.mem_range.1 hv, h⟩
  · rintro ⟨v, hv, h⟩
    exact ⟨v, List.mem_range.2 hv, h⟩
theorem mv_cost {W H : Int} {l : List Int} (hg : GGood W H l) {x y f t k : Int} (h : (f, t, k) ∈ mv W H l x y) : 1 ≤ k ∧ k ≤ 126 := by
  obtain ⟨h0, s, hs, hm⟩ := mem_mv.1 h
  obtain ⟨_, _, hn⟩ := mvS_some hm
  have b1 := gr_bd hg x y
  have b2 := gr_bd hg (x + s.1) (y + s.2)
  unfold mvS at hm
  rw [if_neg hn] at hm
  split at hm
  · split at hm
    · cases hm
    · simp only [Option.some.injEq, Prod.mk.injEq] at hm
      omega
  · simp only [Option.some.injEq, Prod.mk.injEq] at hm
    omega
theorem size_bd {W H : Int} {l : List Int} (hg : GGood W H l) : 1 ≤ l.length ∧ l.length ≤ 64 := by
  have h := hg.len
  have h1 : 0 < W * H := Int.mul_pos (by have := hg.w1; omega) (by have := hg.h1; omega)
  have h2 : W * H ≤ 8 * 8 := Int.mul_le_mul hg.w8 hg.h8 (by have := hg.h1; omega) (by omega)
  omega
theorem ground_good {W H : Int} {l : List Int} (hg : GGood W H l) : NetLaw.Good l.length (allM W H l l.length) := by
  have hb := size_bd hg
  refine ⟨by omega, by omega, by have := allM_len W H l l.length; omega, fun e he => ?_, fun e he => ?_⟩
  · obtain ⟨v, hv, hm⟩ := mem_allM.1 he
    obtain ⟨f, t, k⟩ := e
    obtain ⟨h1, h2, h3, _⟩ := mv_back hm
    have h4 : (v : Int) / W * W + (v : Int) % W = v := Int.ediv_mul_add_emod _ W
    have h5 := hg.len
    simp only
    omega
  · obtain ⟨v, hv, hm⟩ := mem_allM.1 he
    obtain ⟨f, t, k⟩ := e
    have := mv_cost hg hm
    simp only
    omega
theorem ground_pos {W H : Int} {l : List Int} (hg : GGood W H l) : ∀ e ∈ allM W H l l.length, 1 ≤ e.2.2 := fun e he => by
  obtain ⟨v, hv, hm⟩ := mem_allM.1 he
  obtain ⟨f, t, k⟩ := e
  exact (mv_cost hg hm).1
theorem ground_back {W H : Int} {l : List Int} (hg : GGood W H l) : ∀ e ∈ allM W H l l.length, e ∈ tl (allM W H l l.length) := fun e he => by
  obtain ⟨v, hv, hm⟩ := mem_allM.1 he
  obtain ⟨f, t, k⟩ := e
  obtain ⟨h1, h2, h3, h4⟩ := mv_back hm
  have h5 := hg.len
  obtain ⟨t, rfl⟩ := Int.eq_ofNat_of_zero_le h2
  unfold tl
  rw [List.mem_map]
  exact ⟨(t, f, k), mem_allM.2 ⟨t, by omega, h4⟩, rfl⟩
end Go.Proofs.Ytbgkkmcobijkgaa.GroundLaw
