/- Plain facts on heaps: no Go in sight. -/
import Derived.RowKit
namespace Go.Proofs.Ytjebckehmmbkbaa.HeapLaw
set_option linter.unusedSimpArgs false
set_option linter.unusedVariables false
section
variable {α : Type} {d : α} {lt : α → α → Bool} {L : List α}
/-- an order: not both ways, and what is not less goes on -/
structure Ord (lt : α → α → Bool) : Prop where
  asym : ∀ {a b}, lt a b = true → lt b a = false
  ntr : ∀ {a b c}, lt b a = false → lt c b = false → lt c a = false
def par (j : Nat) : Nat := (j - 1) / 2
theorem par_lt {j : Nat} (h : 0 < j) : par j < j := by unfold par; omega
/-- none is less than the one above it -/
def Hp (d : α) (lt : α → α → Bool) (L : List α) : Prop := ∀ j, 0 < j → j < L.length → lt (L.getD j d) (L.getD (par j) d) = false
/-- two places changed -/
def swp (d : α) (L : List α) (i k : Nat) : List α := (L.set i (L.getD k d)).set k (L.getD i d)
theorem swp_len (i k : Nat) : (swp d L i k).length = L.length := by simp [swp]
theorem swp_get {i k : Nat} (hi : i < L.length) (hk : k < L.length) (j : Nat) : (swp d L i k).getD j d = if j = k then L.getD i d else if j = i then L.getD k d else L.getD j d := by
  unfold swp
  rw [List.getD_eq_getElem?_getD]
  by_cases h : j = k
  · subst h; rw [if_pos rfl, List.getElem?_set_self (by simpa using hk)]; rfl
  · rw [if_neg h, List.getElem?_set_ne (fun e => h e.symm)]
    by_cases h2 : j = i
    · subst h2; rw [if_pos rfl, List.getElem?_set_self hi]; rfl
    · rw [if_neg h2, List.getElem?_set_ne (fun e => h2 e.symm), List.getD_eq_getElem?_getD]
theorem set_perm {x : α} {k : Nat} (hk : k < L.length) : (L.getD k d :: L.set k x).Perm (x :: L) := by
  induction L generalizing k with
  | nil => simp at hk
  | cons a r ih =>
    match k, hk with
    | 0, _ => exact List.Perm.swap _ _ _
    | k + 1, hk =>
      have e1 : (a :: r).getD (k + 1) d = r.getD k d := by simp [List.getD_eq_getElem?_getD]
      rw [e1, List.set_cons_succ]
      exact (List.Perm.swap _ _ _).trans (((ih (by simpa using hk)).cons a).trans (List.Perm.swap _ _ _))
theorem swp_perm {i k : Nat} (hi : i < L.length) (hk : k < L.length) (hik : i ≠ k) : (swp d L i k).Perm L := by
  have h1 := set_perm (d := d) (x := L.getD i d) (L := L.set i (L.getD k d)) (k := k) (by simpa using hk)
  have h2 := set_perm (d := d) (x := L.getD k d) hi
  have e : (L.set i (L.getD k d)).getD k d = L.getD k d := by
    rw [List.getD_eq_getElem?_getD, List.getElem?_set_ne hik, List.getD_eq_getElem?_getD]
  rw [e] at h1
  have h3 := h1.trans h2
  exact List.Perm.cons_inv h3
/-- all in order but at i, on the way up -/
structure Up (d : α) (lt : α → α → Bool) (L : List α) (i : Nat) : Prop where
  lo : ∀ j, 0 < j → j < L.length → j ≠ i → lt (L.getD j d) (L.getD (par j) d) = false
  over : ∀ j, 0 < i → 0 < j → j < L.length → par j = i → lt (L.getD j d) (L.getD (par i) d) = false
theorem Up.step (o : Ord lt) {i : Nat} (h : Up d lt L i) (h0 : 0 < i) (hi : i < L.length) (hl : lt (L.getD i d) (L.getD (par i) d) = true) : Up d lt (swp d L i (par i)) (par i) := by
  have hp := par_lt h0
  have hk : par i < L.length := by omega
  have hs := fun j => swp_get (d := d) hi hk j
  refine ⟨fun j j0 j1 jn => ?_, fun j p0 j0 j1 jp => ?_⟩
  · rw [swp_len] at j1
    have hpj := par_lt j0
    rw [hs, hs, if_neg jn]
    by_cases e : j = i
    · subst e
      rw [if_pos rfl, if_pos rfl]
      exact o.asym hl
    · rw [if_neg e]
      by_cases e2 : par j = par i
      · rw [if_pos e2]
        have := h.lo j j0 j1 e
        rw [e2] at this
        exact o.ntr (o.asym hl) this
      · rw [if_neg e2]
        by_cases e3 : par j = i
        · rw [if_pos e3]; exact h.over j h0 j0 j1 e3
        · rw [if_neg e3]; exact h.lo j j0 j1 e
  · rw [swp_len] at j1
    have hpp := par_lt p0
    have h1 := h.lo (par i) p0 hk (by omega)
    rw [hs, hs, if_neg (show par (par i) ≠ par i by omega), if_neg (show par (par i) ≠ i by omega), if_neg (show j ≠ par i by have := par_lt j0; omega)]
    by_cases e : j = i
    · rw [if_pos e]; exact h1
    · rw [if_neg e]
      have := h.lo j j0 j1 e
      rw [jp] at this
      exact o.ntr h1 this
theorem Up.done {i : Nat} (h : Up d lt L i) (hi : 0 < i → lt (L.getD i d) (L.getD (par i) d) = false) : Hp d lt L := fun j j0 j1 => by
  by_cases e : j = i
  · subst e; exact hi j0
  · exact h.lo j j0 j1 e
theorem Hp.snoc (h : Hp d lt L) (x : α) : Up d lt (L ++ [x]) L.length := by
  have hg : ∀ j, j < L.length → (L ++ [x]).getD j d = L.getD j d := fun j hj => by rw [List.getD_eq_getElem?_getD, List.getElem?_append_left hj, List.getD_eq_getElem?_getD]
  refine ⟨fun j j0 j1 jn => ?_, fun j i0 j0 j1 jp => ?_⟩
  · simp at j1
    have := par_lt j0
    rw [hg j (by omega), hg _ (by omega)]
    exact h j j0 (by omega)
  · simp at j1
    have := par_lt j0
    omega
/-- all in order but at i, on the way down -/
structure Dn (d : α) (lt : α → α → Bool) (L : List α) (i : Nat) : Prop where
  lo : ∀ j, 0 < j → j < L.length → par j ≠ i → lt (L.getD j d) (L.getD (par j) d) = false
  over : ∀ j, 0 < i → 0 < j → j < L.length → par j = i → lt (L.getD j d) (L.getD (par i) d) = false
/-- k is the least one under i -/
structure Least (d : α) (lt : α → α → Bool) (L : List α) (i k : Nat) : Prop where
  k0 : 0 < k
  kl : k < L.length
  kp : par k = i
  least : ∀ j, 0 < j → j < L.length → par j = i → lt (L.getD j d) (L.getD k d) = false
theorem Dn.step (o : Ord lt) {i k : Nat} (h : Dn d lt L i) (hk : Least d lt L i k) (hl : lt (L.getD k d) (L.getD i d) = true) : Dn d lt (swp d L i k) k := by
  obtain ⟨k0, k1, kp, hk⟩ := hk
  have hki := par_lt k0
  have hi : i < L.length := by omega
  have hs := fun j => swp_get (d := d) hi k1 j
  refine ⟨fun j j0 j1 jn => ?_, fun j p0 j0 j1 jp => ?_⟩
  · rw [swp_len] at j1
    rw [hs, hs, if_neg jn]
    by_cases e : par j = i
    · rw [if_pos e]
      by_cases e2 : j = k
      · rw [if_pos e2]; exact o.asym hl
      · rw [if_neg e2, if_neg (show j ≠ i by have := par_lt j0; omega)]
        exact hk j j0 j1 e
    · rw [if_neg e, if_neg (show j ≠ k by intro x; subst x; exact e kp)]
      by_cases e3 : j = i
      · subst e3
        rw [if_pos rfl]
        exact h.over k j0 k0 k1 kp
      · rw [if_neg e3]; exact h.lo j j0 j1 e
  · rw [swp_len] at j1
    have hj := par_lt j0
    rw [hs, hs, kp, if_neg (show i ≠ k by omega), if_pos rfl, if_neg (show j ≠ k by omega), if_neg (show j ≠ i by omega)]
    have := h.lo j j0 j1 (by omega)
    rwa [jp] at this
theorem Dn.leaf {i : Nat} (h : Dn d lt L i) (hn : L.length ≤ 2 * i + 1) : Hp d lt L := fun j j0 j1 => h.lo j j0 j1 (by unfold par; omega)
theorem Dn.done (o : Ord lt) {i k : Nat} (h : Dn d lt L i) (hk : Least d lt L i k) (hl : lt (L.getD k d) (L.getD i d) = false) : Hp d lt L := fun j j0 j1 => by
  by_cases e : par j = i
  · rw [e]; exact o.ntr hl (hk.least j j0 j1 e)
  · exact h.lo j j0 j1 e
/-- the one child there is, or the lesser of two -/
theorem least_left (o : Ord lt) {i : Nat} (h1 : 2 * i + 1 < L.length) (h : 2 * i + 2 < L.length → lt (L.getD (2 * i + 2) d) (L.getD (2 * i + 1) d) = false) : Least d lt L i (2 * i + 1) := by
  refine ⟨by omega, h1, by unfold par; omega, fun j j0 j1 jp => ?_⟩
  rcases (show j = 2 * i + 1 ∨ j = 2 * i + 2 from by unfold par at jp; omega) with rfl | rfl
  · cases h : lt (L.getD (2 * i + 1) d) (L.getD (2 * i + 1) d) with
    | false => rfl
    | true => exact (h.symm.trans (o.asym h))
  · exact h j1
theorem least_right (o : Ord lt) {i : Nat} (h1 : 2 * i + 2 < L.length) (h : lt (L.getD (2 * i + 2) d) (L.getD (2 * i + 1) d) = true) : Least d lt L i (2 * i + 2) := by
  refine ⟨by omega, h1, by unfold par; omega, fun j j0 j1 jp => ?_⟩
  rcases (show j = 2 * i + 1 ∨ j = 2 * i + 2 from by unfold par at jp; omega) with rfl | rfl
  · exact o.asym h
  · cases h : lt (L.getD (2 * i + 2) d) (L.getD (2 * i + 2) d) with
    | false => rfl
    | true => exact (h.symm.trans (o.asym h))
theorem irrefl (o : Ord lt) (a : α) : lt a a = false := by
  cases h : lt a a with
  | false => rfl
  | true => exact (h.symm.trans (o.asym h))
/-- none is less than the top -/
theorem Hp.top (o : Ord lt) (h : Hp d lt L) : ∀ j, j < L.length → lt (L.getD j d) (L.getD 0 d) = false := by
  intro j
  induction j using Nat.strongRecOn with
  | _ j ih =>
    intro hj
    rcases Nat.eq_zero_or_pos j with rfl | j0
    · exact irrefl o _
    · have hp := par_lt j0
      exact o.ntr (ih _ hp (by omega)) (h j j0 hj)
theorem Hp.top_mem (o : Ord lt) (h : Hp d lt L) : ∀ y ∈ L, lt y (L.getD 0 d) = false := fun y hy => by
  obtain ⟨j, hj, rfl⟩ := List.getElem_of_mem hy
  have := h.top o j hj
  rwa [List.getD_eq_getElem?_getD, List.getElem?_eq_getElem hj] at this
/-- the last one set to the top, and left off -/
def cutTop (d : α) (L : List α) : List α := (L.set 0 (L.getD (L.length - 1) d)).take (L.length - 1)
theorem cutTop_len : (cutTop d L).length = L.length - 1 := by simp [cutTop]
theorem cutTop_perm (h : L ≠ []) : (L.getD 0 d :: cutTop d L).Perm L := by
  obtain ⟨r, x, rfl⟩ : ∃ r x, L = r ++ [x] := ⟨L.dropLast, L.getLast h, (List.dropLast_concat_getLast h).symm⟩
  have hl : (r ++ [x]).length - 1 = r.length := by simp
  have hx : (r ++ [x]).getD r.length d = x := by simp [List.getD_eq_getElem?_getD]
  unfold cutTop
  rw [hl, hx]
  cases r with
  | nil => simp [List.getD_eq_getElem?_getD]
  | cons a r =>
    have e : (((a :: r) ++ [x]).set 0 x).take (a :: r).length = x :: r := by simp
    rw [e]
    have e2 : ((a :: r) ++ [x]).getD 0 d = a := rfl
    rw [e2]
    refine List.Perm.cons a ?_
    exact (List.perm_append_comm (l₁ := [x]) (l₂ := r))
theorem cutTop_dn (h : Hp d lt L) : Dn d lt (cutTop d L) 0 := by
  have hg : ∀ j, 0 < j → j < L.length - 1 → (cutTop d L).getD j d = L.getD j d := fun j j0 hj => by
    unfold cutTop
    rw [List.getD_eq_getElem?_getD, List.getElem?_take_of_lt hj, List.getElem?_set_ne (by omega), List.getD_eq_getElem?_getD]
  refine ⟨fun j j0 j1 jp => ?_, fun j i0 => absurd i0 (Nat.lt_irrefl 0)⟩
  rw [cutTop_len] at j1
  have := par_lt j0
  rw [hg j j0 j1, hg _ (by omega) (by omega)]
  exact h j j0 (by omega)
theorem Hp.nil : Hp d lt [] := fun j _ h => absurd h (Nat.not_lt_zero _)
theorem Hp.cons_one (x : α) : Hp d lt [x] := fun j h0 h => by simp at h; omega
end
end Go.Proofs.Ytjebckehmmbkbaa.HeapLaw
