/- Plain facts on groups (union, find): no Go in sight. -/
import Derived.RowKit
namespace Go.Proofs.Ytdpjbjgecmnmnaa.UnionLaw
set_option linter.unusedSimpArgs false
set_option linter.unusedVariables false
/-- n times f -/
def it (f : Nat → Nat) : Nat → Nat → Nat
  | 0, i => i
  | m + 1, i => it f m (f i)
/-- the first of i's group, where f leads down -/
def root (f : Nat → Nat) (i : Nat) : Nat := it f i i

theorem it_fix {f : Nat → Nat} {i : Nat} (h : f i = i) : ∀ m, it f m i = i := by
  intro m
  induction m with
  | zero => rfl
  | succ m ih => rw [it, h]; exact ih
theorem it_more {f : Nat → Nat} (hf : ∀ i, f i ≤ i) : ∀ i m, i ≤ m → it f m i = it f i i := by
  intro i
  induction i using Nat.strongRecOn with
  | ind i ih =>
    intro m hm
    by_cases h : f i = i
    · rw [it_fix h, it_fix h]
    · have hlt : f i < i := by have := hf i; omega
      obtain ⟨m', rfl⟩ : ∃ m', m = m' + 1 := ⟨m - 1, by omega⟩
      obtain ⟨i', hi'⟩ : ∃ i', i = i' + 1 := ⟨i - 1, by omega⟩
      have e1 : it f i i = it f i' (f i) := by rw [hi']; rfl
      rw [e1, it, ih (f i) hlt m' (by omega), ih (f i) hlt i' (by omega)]
theorem root_step {f : Nat → Nat} (hf : ∀ i, f i ≤ i) (i : Nat) : root f (f i) = root f i := by
  by_cases h : f i = i
  · rw [h]
  · have hlt : f i < i := by have := hf i; omega
    obtain ⟨i', rfl⟩ : ∃ i', i = i' + 1 := ⟨i - 1, by omega⟩
    unfold root
    rw [it, it_more hf (f (i' + 1)) i' (by omega)]
theorem root_fix {f : Nat → Nat} {i : Nat} (h : f i = i) : root f i = i := it_fix h i
/-- what is carried along and stands at the fixed places is the root -/
theorem root_unique {f g : Nat → Nat} (hf : ∀ i, f i ≤ i) (h1 : ∀ i, g (f i) = g i) (h2 : ∀ i, f i = i → g i = i) (i : Nat) : root f i = g i := by
  induction i using Nat.strongRecOn with
  | ind i ih =>
    by_cases h : f i = i
    · rw [root_fix h, h2 i h]
    · rw [← root_step hf, ih (f i) (by have := hf i; omega), h1]
theorem root_le {f : Nat → Nat} (hf : ∀ i, f i ≤ i) (i : Nat) : root f i ≤ i := by
  induction i using Nat.strongRecOn with
  | ind i ih =>
    by_cases h : f i = i
    · rw [root_fix h]; exact Nat.le_refl _
    · rw [← root_step hf]
      have h1 := hf i
      have := ih (f i) (by omega)
      omega
theorem root_is {f : Nat → Nat} (hf : ∀ i, f i ≤ i) (i : Nat) : f (root f i) = root f i := by
  induction i using Nat.strongRecOn with
  | ind i ih =>
    by_cases h : f i = i
    · rw [root_fix h]; exact h
    · rw [← root_step hf]
      exact ih (f i) (by have := hf i; omega)
theorem root_root {f : Nat → Nat} (hf : ∀ i, f i ≤ i) (i : Nat) : root f (root f i) = root f i := root_fix (root_is hf i)

/-- one place turned -/
def upd (f : Nat → Nat) (k v : Nat) : Nat → Nat := fun i => if i = k then v else f i
theorem upd_le {f : Nat → Nat} (hf : ∀ i, f i ≤ i) {k v : Nat} (h : v ≤ k) : ∀ i, upd f k v i ≤ i := by
  intro i
  unfold upd
  split
  · omega
  · exact hf i
/-- a way cut short leads to where it led -/
theorem root_halve {f : Nat → Nat} (hf : ∀ i, f i ≤ i) (k i : Nat) : root (upd f k (f (f k))) i = root f i := by
  have h1 := hf k
  have h2 := hf (f k)
  refine root_unique (upd_le hf (by omega)) (fun j => ?_) (fun j hj => ?_) i
  · unfold upd
    split
    · rename_i e
      subst e
      rw [root_step hf, root_step hf]
    · exact root_step hf j
  · unfold upd at hj
    split at hj
    · rename_i e
      subst e
      exact root_fix (by omega)
    · exact root_fix hj
/-- two groups made one -/
theorem root_join {f : Nat → Nat} (hf : ∀ i, f i ≤ i) {ra rb : Nat} (ha : f ra = ra) (hb : f rb = rb) (i : Nat) :
    root (upd f (max ra rb) (min ra rb)) i = if root f i = max ra rb then min ra rb else root f i := by
  have hM : f (max ra rb) = max ra rb := by
    rcases Nat.le_total ra rb with h | h
    · rw [Nat.max_eq_right h]; exact hb
    · rw [Nat.max_eq_left h]; exact ha
  have hm : f (min ra rb) = min ra rb := by
    rcases Nat.le_total ra rb with h | h
    · rw [Nat.min_eq_left h]; exact ha
    · rw [Nat.min_eq_right h]; exact hb
  refine root_unique (g := fun i => if root f i = max ra rb then min ra rb else root f i) (upd_le hf (by omega)) (fun j => ?_) (fun j hj => ?_) i
  · show (if root f (upd f (max ra rb) (min ra rb) j) = _ then _ else _) = _
    by_cases e : j = max ra rb
    · subst e
      have : upd f (max ra rb) (min ra rb) (max ra rb) = min ra rb := by unfold upd; rw [if_pos rfl]
      rw [this, root_fix hm, root_fix hM, if_pos rfl]
      split <;> rfl
    · have : upd f (max ra rb) (min ra rb) j = f j := by unfold upd; rw [if_neg e]
      rw [this, root_step hf]
  · show (if root f j = _ then _ else _) = _
    by_cases e : j = max ra rb
    · have : upd f (max ra rb) (min ra rb) j = min ra rb := by unfold upd; rw [if_pos e]
      rw [this] at hj
      rw [e, root_fix hM, if_pos rfl]
      omega
    · have : upd f (max ra rb) (min ra rb) j = f j := by unfold upd; rw [if_neg e]
      rw [this] at hj
      rw [root_fix hj, if_neg e]

/-- the list as a map -/
def fn (L : List Nat) (i : Nat) : Nat := L.getD i i
/-- the list leads down -/
def Down (L : List Nat) : Prop := ∀ i, fn L i ≤ i
theorem fn_set (L : List Nat) (k v : Nat) (h : k < L.length) : fn (L.set k v) = upd (fn L) k v := by
  funext i
  unfold fn upd
  by_cases e : i = k
  · subst e
    simp [h]
  · rw [if_neg e]
    simp [show ¬ k = i from fun h => e h.symm]
theorem fn_of_lt {L : List Nat} {i : Nat} (h : i < L.length) : fn L i = L[i] := by simp [fn, h]
theorem fn_lt {L : List Nat} (hd : Down L) {i : Nat} (h : i < L.length) : fn L i < L.length := by have := hd i; omega

/-- the groups of the pairs: 'the same wherever each pair is the same' -/
def Inv (l : List (Nat × Nat)) (f : Nat → Nat) : Prop := (∀ p ∈ l, root f p.1 = root f p.2) ∧ ∀ (c : Nat → Nat), (∀ p ∈ l, c p.1 = c p.2) → ∀ i, c (root f i) = c i
theorem Inv.same {l l' : List (Nat × Nat)} {f f' : Nat → Nat} (hf : ∀ i, f i ≤ i) (hf' : ∀ i, f' i ≤ i) (h : Inv l f) (h' : Inv l' f') (hl : ∀ p, p ∈ l → p ∈ l' ∨ (p.2, p.1) ∈ l') (hl' : ∀ p, p ∈ l' → p ∈ l ∨ (p.2, p.1) ∈ l) (i : Nat) : root f i = root f' i := by
  have e1 : root f (root f' i) = root f i := h'.2 (root f) (fun p hp => by
    rcases hl' p hp with k | k
    · exact h.1 p k
    · exact (h.1 _ k).symm) i
  have e2 : root f' (root f i) = root f' i := h.2 (root f') (fun p hp => by
    rcases hl p hp with k | k
    · exact h'.1 p k
    · exact (h'.1 _ k).symm) i
  have l1 := root_le hf (root f' i)
  have l2 := root_le hf' (root f i)
  omega
theorem Inv.join {l : List (Nat × Nat)} {f : Nat → Nat} (hf : ∀ i, f i ≤ i) (h : Inv l f) (a b : Nat) : Inv (l ++ [(a, b)]) (upd f (max (root f a) (root f b)) (min (root f a) (root f b))) := by
  have hj := root_join hf (root_is hf a) (root_is hf b)
  refine ⟨fun p hp => ?_, fun c hc i => ?_⟩
  · rw [hj, hj]
    rcases List.mem_append.1 hp with hp | hp
    · rw [h.1 p hp]
    · simp only [List.mem_singleton] at hp
      subst hp
      dsimp only
      split <;> split <;> omega
  · have h1 := h.2 c (fun p hp => hc p (List.mem_append_left _ hp))
    have h2 : c a = c b := hc (a, b) (by simp)
    rw [hj]
    split
    · rename_i e
      have e1 := h1 a
      have e2 := h1 b
      have e3 := h1 i
      rcases Nat.le_total (root f a) (root f b) with hle | hle
      · rw [Nat.min_eq_left hle]
        rw [Nat.max_eq_right hle] at e
        rw [e] at e3
        omega
      · rw [Nat.min_eq_right hle]
        rw [Nat.max_eq_left hle] at e
        rw [e] at e3
        omega
    · exact h1 i
theorem inv_nil : Inv [] (fun i => i) := ⟨fun p hp => by simp at hp, fun c _ i => by rw [root_fix rfl]⟩
theorem Inv.congr {l : List (Nat × Nat)} {f f' : Nat → Nat} (h : Inv l f) (he : ∀ i, root f' i = root f i) : Inv l f' :=
  ⟨fun p hp => by rw [he, he]; exact h.1 p hp, fun c hc i => by rw [he]; exact h.2 c hc i⟩
end Go.Proofs.Ytdpjbjgecmnmnaa.UnionLaw
