/- Plain facts for the neck between two places: the dearest of the edges that must be there. No Go in sight. -/
import Derived.Test.YtdpjbjgecmnmnaaSpanPick
namespace Go.Proofs.Ytdpjbjgecmnmnaa.NeckLaw
open Go.Proofs.Ytdpjbjgecmnmnaa NetLaw UnionLaw SpanLaw Go.Proofs.Ytdpjbjgecmnmnaa.Span
set_option linter.unusedSimpArgs false
set_option linter.unusedVariables false
/-- c is the least such that edges of cost at most c join a and b -/
structure Bot (l : List E) (a b : Nat) (c : Int) : Prop where
  yes : cn (((List.range l.length).filter fun j => decide (co l j ≤ c)).map (es l)) a b
  no : ¬ cn (((List.range l.length).filter fun j => decide (co l j < c)).map (es l)) a b
/-- without the i-th -/
def wo (out : List Nat) (i : Nat) : List Nat := out.take i ++ out.drop (i + 1)
theorem wo_perm {out : List Nat} {i : Nat} (hi : i < out.length) : (wo out i ++ [out[i]]).Perm out := by
  have e : out = out.take i ++ out[i] :: out.drop (i + 1) := by rw [← List.drop_eq_getElem_cons hi, List.take_append_drop]
  unfold wo
  conv => rhs; rw [e]
  rw [List.append_assoc]
  exact List.Perm.append_left _ (List.perm_append_singleton _ _)
theorem wo_len {out : List Nat} {i : Nat} (hi : i < out.length) : (wo out i).length + 1 = out.length := by
  have := (wo_perm hi).length_eq
  rw [List.length_append, List.length_singleton] at this
  exact this
theorem wo_mem {out : List Nat} {i x : Nat} (h : x ∈ wo out i) : x ∈ out := by
  unfold wo at h
  rcases List.mem_append.1 h with h | h
  · exact List.mem_of_mem_take h
  · exact List.mem_of_mem_drop h
section
variable {n : Nat} {l : List E} {out : List Nat} {a b : Nat} {c : Int}
theorem map_mono {f : Nat → P2} {x y : List Nat} (h : ∀ i ∈ x, i ∈ y) : ∀ p ∈ x.map f, p ∈ y.map f := fun p hp => by
  rw [List.mem_map] at hp ⊢
  obtain ⟨i, hi, e⟩ := hp
  exact ⟨i, h i hi, e⟩
/-- the first that joins them -/
theorem first_at (h0 : ¬ cn ([] : List P2) a b) : ∀ m, m ≤ out.length → cn ((out.take m).map (es l)) a b → ∃ i, i < m ∧ ¬ cn ((out.take i).map (es l)) a b ∧ cn ((out.take (i + 1)).map (es l)) a b := by
  intro m
  induction m with
  | zero => intro _ h; exact absurd h h0
  | succ m ih =>
    intro hm h
    by_cases hc : cn ((out.take m).map (es l)) a b
    · obtain ⟨i, hi, h1⟩ := ih (by omega) hc
      exact ⟨i, by omega, h1⟩
    · exact ⟨m, by omega, hc, h⟩
theorem srt_at {co : Nat → Int} (h : out.Pairwise fun a b => co a ≤ co b) {i j : Nat} (hij : i ≤ j) (hj : j < out.length) : co out[i] ≤ co out[j] := by
  rcases Nat.lt_or_ge i j with hlt | hge
  · exact List.pairwise_iff_getElem.1 h i j (by omega) hj hlt
  · obtain rfl : i = j := by omega
    exact Int.le_refl _
theorem neck_at (hk : Kru n l out) (hg : NetLaw.Good n l) (hb : Bot l a b c) : ∃ i, ∃ hi : i < out.length, co l out[i] = c ∧ ¬ cn ((wo out i).map (es l)) a b ∧ ∀ j (hj : j < out.length), ¬ cn ((wo out j).map (es l)) a b → co l out[j] ≤ c := by
  obtain ⟨dn, cc, kr, hd⟩ := hk.kr
  have hlt : ∀ i ∈ out, i < l.length := fun i hi => (hd i).1 (kr.sub i hi)
  have hall : ∀ i, i < l.length → cn (out.map (es l)) (es l i).1 (es l i).2 := fun i hi => kr.all i ((hd i).2 hi)
  have h0 : ¬ cn ([] : List P2) a b := fun h => hb.no (cn_mono (fun p hp => by cases hp) h)
  have h1 : cn ((out.take out.length).map (es l)) a b := by
    rw [List.take_length]
    refine cn_sub (fun p hp => ?_) hb.yes
    rw [List.mem_map] at hp
    obtain ⟨i, hi, rfl⟩ := hp
    exact hall i (List.mem_range.1 (List.mem_filter.1 hi).1)
  obtain ⟨i, hi, hno, hyes⟩ := first_at h0 out.length (Nat.le_refl _) h1
  have hc : co l out[i] = c := by
    rcases Int.lt_trichotomy (co l out[i]) c with h | h | h
    · refine absurd (cn_mono (map_mono (f := es l) fun x hx => ?_) hyes) hb.no
      obtain ⟨j, hj, rfl⟩ := List.mem_iff_getElem.1 hx
      rw [List.length_take] at hj
      have := srt_at kr.srt (show j ≤ i by omega) hi
      rw [List.getElem_take]
      refine List.mem_filter.2 ⟨List.mem_range.2 (hlt _ (List.getElem_mem _)), ?_⟩
      rw [decide_eq_true_eq]
      omega
    · exact h
    · refine absurd ?_ hno
      refine cn_sub (fun p hp => ?_) hb.yes
      rw [List.mem_map] at hp
      obtain ⟨x, hx, rfl⟩ := hp
      obtain ⟨hx1, hx2⟩ := List.mem_filter.1 hx
      rw [decide_eq_true_eq] at hx2
      refine cn_mono (map_mono (f := es l) fun y hy => ?_) (kr.cov x ((hd x).2 (List.mem_range.1 hx1)))
      obtain ⟨hy1, hy2⟩ := List.mem_filter.1 hy
      rw [decide_eq_true_eq] at hy2
      obtain ⟨j, hj, rfl⟩ := List.mem_iff_getElem.1 hy1
      have hji : j < i := by
        rcases Nat.lt_or_ge j i with h' | h'
        · exact h'
        · have := srt_at kr.srt h' hj
          omega
      rw [List.mem_iff_getElem]
      exact ⟨j, by rw [List.length_take]; omega, by rw [List.getElem_take]⟩
  refine ⟨i, hi, hc, fun hcn => ?_, fun j hj hs => ?_⟩
  · have hp := (wo_perm hi).map (es l)
    rw [List.map_append, List.map_singleton] at hp
    have hbd : InB n (out.map (es l)) := inb_map fun i hi => es_bd hg (hlt i hi)
    have hind : Ind n ((wo out i).map (es l) ++ [es l out[i]]) := kr.ind.part hbd (b := []) (by rw [List.append_nil]; exact hp)
    refine hind.not (fun p hp' => hbd p (hp.mem_iff.1 hp')) ?_
    rw [List.take_succ_eq_append_getElem hi, List.map_append, List.map_singleton] at hyes
    have hsub : ∀ p ∈ (out.take i).map (es l), p ∈ (wo out i).map (es l) := map_mono fun x hx => by unfold wo; exact List.mem_append_left _ hx
    rcases cn_snoc hyes with h | ⟨h2, h3⟩ | ⟨h2, h3⟩
    · exact absurd h hno
    · exact cn_trans (cn_symm (cn_mono hsub h2)) (cn_trans hcn (cn_mono hsub h3))
    · exact cn_symm (cn_trans (cn_symm (cn_mono hsub h2)) (cn_trans hcn (cn_mono hsub h3)))
  · rcases Nat.lt_or_ge i j with h | h
    · refine absurd (cn_mono (map_mono (f := es l) fun x hx => ?_) hyes) hs
      unfold wo
      refine List.mem_append_left _ ?_
      obtain ⟨k, hk', rfl⟩ := List.mem_iff_getElem.1 hx
      rw [List.length_take] at hk'
      rw [List.mem_iff_getElem]
      exact ⟨k, by rw [List.length_take]; omega, by rw [List.getElem_take, List.getElem_take]⟩
    · have := srt_at kr.srt h hi
      omega
end
/-- the law's own reckoning -/
def ns (sep : Nat → Bool) (cost : Nat → Int) : Nat → Int × Bool
  | 0 => (0, false)
  | k + 1 => if sep k = true ∧ ((ns sep cost k).2 = false ∨ (ns sep cost k).1 < cost k) then (cost k, true) else ns sep cost k
theorem ns_inv (sep : Nat → Bool) (cost : Nat → Int) : ∀ k, ((ns sep cost k).2 = false → ∀ j, j < k → sep j = false) ∧ ((ns sep cost k).2 = true → (∃ j, j < k ∧ sep j = true ∧ (ns sep cost k).1 = cost j) ∧ ∀ j, j < k → sep j = true → cost j ≤ (ns sep cost k).1) := by
  intro k
  induction k with
  | zero => exact ⟨fun _ j hj => absurd hj (Nat.not_lt_zero _), fun h => by cases h⟩
  | succ k ih =>
    obtain ⟨ih1, ih2⟩ := ih
    rw [ns]
    split
    · rename_i hc
      refine ⟨(fun h => by cases h), fun _ => ⟨⟨k, Nat.lt_succ_self _, hc.1, rfl⟩, fun j hj hs => ?_⟩⟩
      rcases Nat.lt_or_ge j k with h | h
      · rcases hc.2 with h2 | h2
        · rw [ih1 h2 j h] at hs; cases hs
        · cases hb : (ns sep cost k).2 with
          | false => rw [ih1 hb j h] at hs; cases hs
          | true => have := (ih2 hb).2 j h hs; dsimp only; omega
      · obtain rfl : j = k := by omega
        exact Int.le_refl _
    · rename_i hc
      refine ⟨fun h j hj => ?_, fun h => ?_⟩
      · rcases Nat.lt_or_ge j k with h' | h'
        · exact ih1 h j h'
        · obtain rfl : j = k := by omega
          cases hs : sep j with
          | false => rfl
          | true => exact absurd ⟨hs, .inl h⟩ hc
      · obtain ⟨⟨j, hj, h1, h2⟩, h3⟩ := ih2 h
        refine ⟨⟨j, by omega, h1, h2⟩, fun i hi hs => ?_⟩
        rcases Nat.lt_or_ge i k with h' | h'
        · exact h3 i h' hs
        · obtain rfl : i = k := by omega
          refine Int.not_lt.1 fun hlt => hc ⟨hs, .inr hlt⟩
theorem ns_max {sep : Nat → Bool} {cost : Nat → Int} {m i : Nat} (hi : i < m) (hs : sep i = true) (h : ∀ j, j < m → sep j = true → cost j ≤ cost i) : ns sep cost m = (cost i, true) := by
  obtain ⟨h1, h2⟩ := ns_inv sep cost m
  cases hb : (ns sep cost m).2 with
  | false => rw [h1 hb i hi] at hs; cases hs
  | true =>
    obtain ⟨⟨j, hj, h3, h4⟩, h5⟩ := h2 hb
    have a := h5 i hi hs
    have b := h j hj h3
    refine Prod.ext ?_ hb
    dsimp only
    omega
end Go.Proofs.Ytdpjbjgecmnmnaa.NeckLaw
