/- Plain: the cycle that bell.Cycle tells, and what it costs. No Go in sight. -/
import Derived.Test.YtlcgkbkmfelcfaaJohnPlain
namespace Go.Proofs.Ytlcgkbkmfelcfaa.CycLaw
open NetLaw BellLaw WalkLaw WayLaw BellCyc JohnPlain
set_option linter.unusedSimpArgs false
set_option linter.unusedVariables false
/-- k places, the last first -/
def fw (P : List Int) (v : Int) (k : Nat) : List Int := (List.range k).map fun i => it P i v
theorem fw_len (P : List Int) (v : Int) (k : Nat) : (fw P v k).length = k := by simp [fw]
theorem fw_succ (P : List Int) (v : Int) (k : Nat) : fw P v (k + 1) = fw P v k ++ [it P k v] := by simp [fw, List.range_succ]
theorem bk_succ (P : List Int) (v : Int) (k : Nat) : (fw P v (k + 1)).reverse = it P k v :: (fw P v k).reverse := by rw [fw_succ, List.reverse_append]; rfl
theorem sum_bk (l : List E) (P : List Int) (v : Int) (k : Nat) : sumP l (prs (fw P v (k + 1)).reverse) = sm l P k v ∧ ((∀ i, (eg l (it P (i + 1) v) (it P i v)).2 = true) → okP l (prs (fw P v (k + 1)).reverse) = true) := by
  induction k with
  | zero => exact ⟨by simp [fw, prs, sumP, sm], fun _ => by simp [fw, prs, okP]⟩
  | succ k ih =>
    obtain ⟨h1, h2⟩ := ih
    rw [bk_succ, bk_succ, prs_cons, ← bk_succ]
    refine ⟨?_, fun h => ?_⟩
    · have e : sumP l ((it P (k + 1) v, it P k v) :: prs (fw P v (k + 1)).reverse) = (eg l (it P (k + 1) v) (it P k v)).1 + sumP l (prs (fw P v (k + 1)).reverse) := by simp [sumP]
      rw [e, h1, sm]
      omega
    · have e : okP l ((it P (k + 1) v, it P k v) :: prs (fw P v (k + 1)).reverse) = ((eg l (it P (k + 1) v) (it P k v)).2 && okP l (prs (fw P v (k + 1)).reverse)) := by simp [okP]
      rw [e, h k, h2 h]
      rfl
theorem close (P : List Int) (v : Int) (m : Nat) (hm : 0 < m) (h : it P m v = v) : (fw P v m).reverse ++ [it P (m - 1) v] = (fw P (it P (m - 1) v) (m + 1)).reverse := by
  have e : fw P (it P (m - 1) v) (m + 1) = it P (m - 1) v :: fw P v m := by
    have h1 : ∀ k, fw P (it P (m - 1) v) (k + 1) = it P (m - 1) v :: fw P v k := fun k => by
      induction k with
      | zero => simp [fw, it]
      | succ k ih =>
        rw [fw_succ, ih, List.cons_append, fw_succ]
        congr 3
        rw [it_one]
        have : dg P (it P (m - 1) v) = it P m v := by
          obtain ⟨j, rfl⟩ : ∃ j, m = j + 1 := ⟨m - 1, by omega⟩
          rfl
        rw [this, h]
    exact h1 m
  rw [e, List.reverse_cons]
theorem cyc_cost {n : Nat} {l : List E} {P : List Int} {v : Int} {m : Nat} (hg : NetLaw.Good n l) (h : Cyc n l P v m) : ∃ s, s < 0 ∧ cost n l ((fw P v m).reverse ++ [it P (m - 1) v]) = (s, 0) := by
  have hn := hg.hi
  have hm := h.le
  rw [close P v m h.pos h.back]
  obtain ⟨r1, r2⟩ := sm_rot l P m v h.back (m - 1)
  obtain ⟨s1, s2⟩ := sum_bk l P (it P (m - 1) v) m
  have hedge : ∀ i, (eg l (it P (i + 1) (it P (m - 1) v)) (it P i (it P (m - 1) v))).2 = true := fun i => by
    have := h.edge (i + (m - 1))
    rw [← it_add, ← it_add, show i + 1 + (m - 1) = i + (m - 1) + 1 by omega]
    exact this
  have hok := s2 hedge
  have h0 : (cost n l (fw P (it P (m - 1) v) (m + 1)).reverse).2 = 0 := by
    rw [cost_zero]
    refine ⟨chk_zero.2 hg, by rw [List.length_reverse, fw_len]; omega, by rw [List.length_reverse, fw_len]; omega, ?_, hok⟩
    rw [List.any_eq_false]
    intro x hx
    rw [List.mem_reverse, fw, List.mem_map] at hx
    obtain ⟨i, _, rfl⟩ := hx
    rw [← it_add]
    obtain ⟨a, b⟩ := h.rng (i + (m - 1))
    simp [outB]
    omega
  refine ⟨sm l P m v, h.neg, ?_⟩
  refine Prod.ext ?_ h0
  rw [cost_val, if_pos h0, s1, r2]
/-- the fault that Cycle tells -/
def cerr (N : Int) (l : List E) : Int := if chk N l ≠ 0 then chk N l else if 0 ≤ (hs N.toNat l).2.2 then 0 else 5
end Go.Proofs.Ytlcgkbkmfelcfaa.CycLaw
