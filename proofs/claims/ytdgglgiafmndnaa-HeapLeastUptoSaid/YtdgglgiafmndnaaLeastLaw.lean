/- Plain facts on the n least of a list: no Go in sight. -/
import Derived.Test.YtdgglgiafmndnaaHeapLaw
namespace Go.Proofs.Ytdgglgiafmndnaa.LeastLaw
open HeapLaw
set_option linter.unusedSimpArgs false
set_option linter.unusedVariables false
section
variable {α : Type} {lt : α → α → Bool}
/-- R: the n least of l, in order -/
structure IsLeast (lt : α → α → Bool) (n : Nat) (l R : List α) : Prop where
  srt : R.Pairwise fun a b => lt b a = false
  len : R.length = min n l.length
  rest : ∃ S, (R ++ S).Perm l ∧ ∀ a ∈ R, ∀ b ∈ S, lt b a = false
theorem sort_ex (o : Ord lt) (S : List α) : ∃ T : List α, T.Perm S ∧ T.Pairwise fun a b => lt b a = false := by
  refine ⟨S.mergeSort (fun a b => !lt b a), List.mergeSort_perm _ _, ?_⟩
  have h := List.pairwise_mergeSort (le := fun a b => !lt b a) (fun a b c h1 h2 => by
    simp only [Bool.not_eq_true'] at h1 h2 ⊢
    exact o.ntr h1 h2) (fun a b => by
    cases h : lt b a with
    | false => simp
    | true => simp [o.asym h]) S
  exact h.imp (fun h => by simpa using h)
theorem IsLeast.unique (o : Ord lt) (anti : ∀ {a b}, lt a b = false → lt b a = false → a = b) {n : Nat} {l R R' : List α} (h : IsLeast lt n l R) (h' : IsLeast lt n l R') : R = R' := by
  obtain ⟨S, p, q⟩ := h.rest
  obtain ⟨S', p', q'⟩ := h'.rest
  obtain ⟨T, t1, t2⟩ := sort_ex o S
  obtain ⟨T', t1', t2'⟩ := sort_ex o S'
  have e : R ++ T = R' ++ T' := by
    have hp : (R ++ T).Perm (R' ++ T') := ((t1.append_left R).trans p).trans ((t1'.append_left R').trans p').symm
    refine hp.eq_of_pairwise (fun a b _ _ h1 h2 => anti h2 h1) ?_ ?_
    · rw [List.pairwise_append]; exact ⟨h.srt, t2, fun a ha b hb => q a ha b (t1.mem_iff.1 hb)⟩
    · rw [List.pairwise_append]; exact ⟨h'.srt, t2', fun a ha b hb => q' a ha b (t1'.mem_iff.1 hb)⟩
  have hl : R.length = R'.length := h.len.trans h'.len.symm
  exact (List.append_inj e hl).1
theorem few (o : Ord lt) {n : Nat} {l a ra b d rd : List α} (hl : a.length = min n l.length) (pa : (a ++ ra).Perm l) (qa : ∀ z ∈ a, ∀ y ∈ ra, lt y z = false) (pd : (d ++ rd).Perm (a ++ b)) (qd : ∀ x ∈ d, ∀ z ∈ rd, lt z x = false) (hd : d.length ≤ n) :
    ∀ x ∈ d, ∀ y ∈ ra, lt y x = false := by
  intro x hx y hy
  cases hyx : lt y x with
  | false => rfl
  | true =>
    exfalso
    have h1 : l.length = a.length + ra.length := by rw [← pa.length_eq, List.length_append]
    have h2 : 0 < ra.length := List.length_pos_of_mem hy
    have h3 : a.length = n := by omega
    have h4 : ∀ z ∈ a, lt z x = true := fun z hz => by
      cases h : lt z x with
      | true => rfl
      | false => have := o.ntr h (qa z hz y hy); rw [hyx] at this; cases this
    have c1 : (a ++ b).countP (fun z => lt z x) = d.countP (fun z => lt z x) + rd.countP (fun z => lt z x) := by rw [← pd.countP_eq, List.countP_append]
    have c2 : rd.countP (fun z => lt z x) = 0 := by
      rw [List.countP_eq_zero]
      intro z hz
      simp [qd x hx z hz]
    have c3 : a.countP (fun z => lt z x) = a.length := by
      rw [List.countP_eq_length]
      exact fun z hz => h4 z hz
    have c4 : d.countP (fun z => lt z x) ≠ d.length := by
      intro h
      rw [List.countP_eq_length] at h
      have := h x hx
      simp only [irrefl o x] at this
      cases this
    have c5 := List.countP_le_length (p := fun z => lt z x) (l := d)
    rw [List.countP_append] at c1
    omega
theorem perm4 (a ra b rb d rd : List α) (pd : (d ++ rd).Perm (a ++ b)) : (d ++ (rd ++ (ra ++ rb))).Perm ((a ++ ra) ++ (b ++ rb)) := by
  rw [← List.append_assoc]
  refine (pd.append_right (ra ++ rb)).trans ?_
  rw [List.append_assoc, List.append_assoc]
  refine List.Perm.append_left a ?_
  rw [← List.append_assoc, ← List.append_assoc]
  exact (List.perm_append_comm (l₁ := b) (l₂ := ra)).append_right rb
theorem IsLeast.both (o : Ord lt) {n : Nat} {l m a b d : List α} (ha : IsLeast lt n l a) (hb : IsLeast lt n m b) (hd : IsLeast lt n (a ++ b) d) : IsLeast lt n (l ++ m) d := by
  obtain ⟨ra, pa, qa⟩ := ha.rest
  obtain ⟨rb, pb, qb⟩ := hb.rest
  obtain ⟨rd, pd, qd⟩ := hd.rest
  have hla := pa.length_eq
  have hlb := pb.length_eq
  have h1 := ha.len
  have h2 := hb.len
  have h3 := hd.len
  rw [List.length_append] at hla hlb h3
  have f1 := few o h1 pa qa pd qd (by omega)
  have f2 := few o h2 pb qb (pd.trans List.perm_append_comm) qd (by omega)
  refine ⟨hd.srt, by rw [List.length_append]; omega, rd ++ (ra ++ rb), (perm4 a ra b rb d rd pd).trans (pa.append pb), fun x hx y hy => ?_⟩
  rcases List.mem_append.1 hy with hy | hy
  · exact qd x hx y hy
  · rcases List.mem_append.1 hy with hy | hy
    · exact f1 x hx y hy
    · exact f2 x hx y hy
end
end Go.Proofs.Ytdgglgiafmndnaa.LeastLaw
