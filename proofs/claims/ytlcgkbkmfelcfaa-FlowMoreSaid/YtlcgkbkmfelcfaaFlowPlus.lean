/- Plain: what one edge that bears one more adds. No Go in sight. -/
import Derived.Test.YtlcgkbkmfelcfaaFlowCut
namespace Go.Proofs.Ytlcgkbkmfelcfaa.Flow
open NetLaw FlowLaw Go.Proofs.Ytlcgkbkmfelcfaa.Net
set_option linter.unusedSimpArgs false
set_option linter.unusedVariables false
/-- the i-th edge bears one more -/
def plus (l : List E) (i : Nat) : List E := l.set i ((ed l i).1, (ed l i).2.1, (ed l i).2.2 + 1)
theorem plus_len (l : List E) (i : Nat) : (plus l i).length = l.length := by simp [plus]
theorem plus_ed {l : List E} {i : Nat} (hi : i < l.length) (j : Nat) : ed (plus l i) j = if j = i then ((ed l i).1, (ed l i).2.1, (ed l i).2.2 + 1) else ed l j := by
  unfold plus ed
  rw [List.getD_eq_getElem?_getD, List.getD_eq_getElem?_getD]
  by_cases e : j = i
  · subst e; rw [if_pos rfl, List.getElem?_set_self hi]; rfl
  · rw [if_neg e, List.getElem?_set_ne (by omega), List.getD_eq_getElem?_getD]
theorem plus_parts {l : List E} {i : Nat} (hi : i < l.length) (j : Nat) : fr (plus l i) j = fr l j ∧ en (plus l i) j = en l j ∧ cpt (plus l i) j = if j = i then cpt l j + 1 else cpt l j := by
  unfold fr en cpt
  rw [plus_ed hi]
  split
  · rename_i e; subst e; exact ⟨rfl, rfl, rfl⟩
  · exact ⟨rfl, rfl, rfl⟩
theorem plus_fw {l : List E} {s t v : Int} {F : List Int} {i : Nat} (hi : i < l.length) (h : Fw l s t F v) : Fw (plus l i) s t F v := by
  refine ⟨by rw [plus_len]; exact h.len, fun j hj => ?_, fun φ => ?_⟩
  · rw [plus_len] at hj
    have := h.cap j hj
    rw [(plus_parts hi j).2.2]
    split <;> omega
  · rw [← h.cons φ]
    unfold FlowLaw.W
    rw [plus_len]
    exact rsum_congr _ fun j _ => by rw [(plus_parts hi j).1, (plus_parts hi j).2.1]
theorem plus_cut {l : List E} {i : Nat} (hi : i < l.length) (S : Int → Bool) : C (plus l i) S = C l S + (if S (fr l i) = true ∧ S (en l i) = false then 1 else 0) := by
  unfold C
  rw [plus_len, rsum_upd (f := fun j => if S (fr l j) = true ∧ S (en l j) = false then cpt l j else 0) (g := fun j => if S (fr (plus l i) j) = true ∧ S (en (plus l i) j) = false then cpt (plus l i) j else 0) l.length i hi (fun j _ hne => by
    rw [(plus_parts hi j).1, (plus_parts hi j).2.1, (plus_parts hi j).2.2, if_neg hne])]
  rw [(plus_parts hi i).1, (plus_parts hi i).2.1, (plus_parts hi i).2.2, if_pos rfl]
  congr 1
  split <;> omega
theorem plus_good {N : Int} {l : List E} {i : Nat} (hi : i < l.length) (hg : NetLaw.Good N l) (h : cpt l i < 10000) : NetLaw.Good N (plus l i) := by
  have hm : ∀ e ∈ plus l i, (∃ x ∈ l, e = x) ∨ e = ((ed l i).1, (ed l i).2.1, (ed l i).2.2 + 1) := fun e he => by
    unfold plus at he
    rcases List.mem_or_eq_of_mem_set he with h1 | h1
    · exact .inl ⟨e, h1, rfl⟩
    · exact .inr h1
  refine ⟨hg.lo, hg.hi, by rw [plus_len]; exact hg.len, fun e he => ?_, fun e he => ?_⟩
  · rcases hm e he with ⟨x, hx, rfl⟩ | rfl
    · exact hg.ends _ hx
    · exact hg.ends (ed l i) (ed_mem hi)
  · rcases hm e he with ⟨x, hx, rfl⟩ | rfl
    · exact hg.cost _ hx
    · have := hg.cost _ (ed_mem hi)
      have h' : (ed l i).2.2 < 10000 := h
      dsimp only
      omega
theorem plus_pos {l : List E} {i : Nat} (hi : i < l.length) (hc : ∀ e ∈ l, 1 ≤ e.2.2) : ∀ e ∈ plus l i, 1 ≤ e.2.2 := fun e he => by
  unfold plus at he
  rcases List.mem_or_eq_of_mem_set he with h1 | h1
  · exact hc e h1
  · subst h1
    have := hc _ (ed_mem hi)
    dsimp only
    omega
/-- the law -/
theorem plus_law {N s t : Int} {l : List E} {i : Nat} {n v m er : Int} {od : List Int} (hi : i < l.length) (h0 : ferr N l s t = 0) (hco : cpt l i < 10000) (hn : Mx l s t n) (hv : Mx l s t v ∧ s ∈ od ∧ t ∉ od ∧ C l (fun x => decide (x ∈ od)) = v) (hm : MaxFact N s t (plus l i) m er) :
    er = 0 ∧ (0 ≤ n ∧ n ≤ 6000000) ∧ (m = n ∨ (m = n + 1 ∧ fr l i ∈ od ∧ en l i ∉ od)) := by
  obtain ⟨hg, hc, hs, ht, hst⟩ := ferr_zero.1 h0
  obtain ⟨h1, _, h3⟩ := hm
  have he : er = 0 := by rw [h1]; exact ferr_zero.2 ⟨plus_good hi hg hco, plus_pos hi hc, hs, ht, hst⟩
  have hbd : 0 ≤ n ∧ n ≤ 6000000 := by
    obtain ⟨⟨F, hF⟩, S, _, _, hC⟩ := hn
    refine ⟨?_, hF.bd hst (fun i hi => (hg.cost _ (ed_mem hi)).2) hg.len⟩
    rw [← hC]
    have h0 : ∀ k, rsum k (fun _ => (0 : Int)) = 0 := fun k => by induction k with | zero => rfl | succ k ih => rw [rsum, ih]; rfl
    rw [← h0 l.length]
    refine rsum_le _ fun i hi => ?_
    have : 1 ≤ cpt l i := hc _ (ed_mem hi)
    split <;> omega
  refine ⟨he, hbd, ?_⟩
  have hmx := h3 he
  obtain ⟨hv1, hv2, hv3, hv4⟩ := hv
  have hvn := hn.unique hv1
  obtain ⟨F, hF⟩ := hn.1
  have ha := hmx.le (plus_fw hi hF)
  obtain ⟨G, hG⟩ := hmx.1
  have hb := hG.le_cut (S := fun x => decide (x ∈ od)) (decide_eq_true hv2) (decide_eq_false hv3)
  rw [plus_cut hi, hv4] at hb
  by_cases hc2 : decide (fr l i ∈ od) = true ∧ decide (en l i ∈ od) = false
  · rw [if_pos hc2] at hb
    rcases Int.lt_or_le n m with h | h
    · exact .inr ⟨by omega, of_decide_eq_true hc2.1, of_decide_eq_false hc2.2⟩
    · exact .inl (by omega)
  · rw [if_neg hc2] at hb
    exact .inl (by omega)
end Go.Proofs.Ytlcgkbkmfelcfaa.Flow
