/- Plain: the closure by Floyd and Warshall says just where a walk leads. -/
import Derived.Test.YtjhnlkmdkjlkdaaVFloydLaw
import Derived.Test.YtjhnlkmdkjlkdaaVCompOrd
namespace Go.Proofs.Ytjhnlkmdkjlkdaa.CompLaw
open NetLaw FloydLaw
set_option linter.unusedSimpArgs false
set_option linter.unusedVariables false
/-- between the first k a closure -/
structure RW (n k : Nat) (l : List E) (M : Mx Bool) : Prop where
  diag : ∀ i, M i i = true
  tri : ∀ i j m, i < n → j < n → m < k → M i m = true → M m j = true → M i j = true
  edge : ∀ e ∈ l, M e.1.toNat e.2.1.toNat = true
  sound : ∀ i j, M i j = true → Ld l i j
theorem RW.next {n k : Nat} {l : List E} {M : Mx Bool} (h : RW n k l M) (hk : k < n) : RW n (k + 1) l (mid or and n k M n) := by
  have hv : ∀ a b, mid or and n k M n a b = if a < n ∧ b < n then or (M a b) (and (M a k) (M k b)) else M a b := fun a b => by
    rw [mid_eq or and (fun a => by rw [h.diag k]; simp) (fun b => by rw [h.diag k]; simp) n]
  generalize mid or and n k M n = M' at *
  have hv2 : ∀ a b, a < n → b < n → (M' a b = true ↔ M a b = true ∨ (M a k = true ∧ M k b = true)) := fun a b ha hb => by
    rw [hv, if_pos ⟨ha, hb⟩, Bool.or_eq_true, Bool.and_eq_true]
  have hmono : ∀ a b, M a b = true → M' a b = true := fun a b hab => by
    rw [hv]
    split
    · rw [hab]; rfl
    · exact hab
  refine ⟨fun i => hmono i i (h.diag i), fun i j m hi hj hm h1 h2 => ?_, fun e he => hmono _ _ (h.edge e he), fun i j hij => ?_⟩
  · have hmn : m < n := by omega
    rw [hv2 i m hi hmn] at h1
    rw [hv2 m j hmn hj] at h2
    rw [hv2 i j hi hj]
    rcases Nat.lt_or_ge m k with hmk | hmk
    · rcases h1 with h1 | ⟨h1, h3⟩
      · rcases h2 with h2 | ⟨h2, h4⟩
        · exact .inl (h.tri i j m hi hj hmk h1 h2)
        · exact .inr ⟨h.tri i k m hi hk hmk h1 h2, h4⟩
      · rcases h2 with h2 | ⟨h2, h4⟩
        · exact .inr ⟨h1, h.tri k j m hk hj hmk h3 h2⟩
        · exact .inr ⟨h1, h4⟩
    · obtain rfl : m = k := by omega
      rcases h1 with h1 | ⟨h1, _⟩
      · rcases h2 with h2 | ⟨_, h2⟩
        · exact .inr ⟨h1, h2⟩
        · exact .inr ⟨h1, h2⟩
      · rcases h2 with h2 | ⟨_, h2⟩
        · exact .inr ⟨h1, h2⟩
        · exact .inr ⟨h1, h2⟩
  · rw [hv] at hij
    split at hij
    · rw [Bool.or_eq_true, Bool.and_eq_true] at hij
      rcases hij with h1 | ⟨h1, h2⟩
      · exact h.sound i j h1
      · exact (h.sound i k h1).trans (h.sound k j h2)
    · exact h.sound i j hij
theorem eds_rw {l : List E} {edge : E → Bool} (he : ∀ e, edge e = true) (hends : ∀ e ∈ l, 0 ≤ e.1 ∧ 0 ≤ e.2.1) : ∀ (r : List E), (∀ e ∈ r, e ∈ l) → ∀ (d : List E) (M : Mx Bool), (∀ i, M i i = true) → (∀ e ∈ d, M e.1.toNat e.2.1.toNat = true) → (∀ i j, M i j = true → Ld l i j) →
    (∀ i, eds or edge r M i i = true) ∧ (∀ e, e ∈ d ∨ e ∈ r → eds or edge r M e.1.toNat e.2.1.toNat = true) ∧ (∀ i j, eds or edge r M i j = true → Ld l i j) := by
  intro r
  induction r with
  | nil =>
    intro _ d M h1 h2 h3
    exact ⟨h1, fun e h => h.elim (h2 e) (fun h => by cases h), h3⟩
  | cons e r ih =>
    intro hr d M h1 h2 h3
    have hmono : ∀ a b, M a b = true → ed1 or edge M e a b = true := fun a b hab => by
      unfold ed1 set2
      split
      · rw [he]; simp
      · exact hab
    have hel := hr e (List.mem_cons_self ..)
    have key := ih (fun x hx => hr x (List.mem_cons_of_mem _ hx)) (e :: d) (ed1 or edge M e) (fun i => hmono i i (h1 i)) (fun x hx => by
      rcases List.mem_cons.1 hx with rfl | hx
      · unfold ed1 set2
        rw [if_pos ⟨rfl, rfl⟩, he]; simp
      · exact hmono _ _ (h2 x hx)) (fun i j hij => by
      unfold ed1 set2 at hij
      split at hij
      · rename_i hc
        obtain ⟨a, b⟩ := hends e hel
        have e1 : (i : Int) = e.1 := by omega
        have e2 : (j : Int) = e.2.1 := by omega
        rw [e1, e2]
        exact .edge hel
      · exact h3 i j hij)
    refine ⟨key.1, fun x hx => key.2.1 x ?_, key.2.2⟩
    rcases hx with hx | hx
    · exact .inl (List.mem_cons_of_mem _ hx)
    · rcases List.mem_cons.1 hx with rfl | hx
      · exact .inl (List.mem_cons_self ..)
      · exact .inr hx
theorem rw_all {n : Nat} {l : List E} {edge : E → Bool} (he : ∀ e, edge e = true) (hg : NetLaw.Good n l) (k : Nat) (hk : k ≤ n) : RW n k l (FloydLaw.out or and n (eds or edge l (ini false true)) k) := by
  induction k with
  | zero =>
    obtain ⟨h1, h2, h3⟩ := eds_rw he (fun e he => ⟨(hg.ends e he).1, (hg.ends e he).2.2.1⟩) l (fun _ h => h) [] (ini false true) (fun i => by simp [ini]) (fun e h => by cases h) (fun i j hij => by
      unfold ini at hij
      split at hij
      · rename_i e; rw [e]; exact .here
      · cases hij)
    exact ⟨h1, fun i j m _ _ hm => by omega, fun e he => h2 e (.inr he), h3⟩
  | succ k ih => exact (ih (by omega)).next (by omega)
/-- it says so just where a walk leads -/
theorem reach_ld {n : Nat} {l : List E} {edge : E → Bool} (he : ∀ e, edge e = true) (hg : NetLaw.Good n l) {i j : Nat} (hi : i < n) (hj : j < n) : clo or and false true edge n l i j = true ↔ Ld l i j := by
  have h := rw_all he hg n (Nat.le_refl _)
  constructor
  · exact h.sound i j
  · intro hij
    have key : ∀ {b : Int}, Ld l i b → 0 ≤ b ∧ b < n ∧ clo or and false true edge n l i b.toNat = true := by
      intro b hb
      induction hb with
      | here => exact ⟨by omega, by omega, by rw [Int.toNat_natCast]; exact h.diag i⟩
      | @step u e _ hel hu ih =>
        obtain ⟨a0, a1, b0, b1⟩ := hg.ends e hel
        refine ⟨b0, b1, h.tri i e.2.1.toNat e.1.toNat hi (by omega) (by omega) ?_ (h.edge e hel)⟩
        rw [hu]
        exact ih.2.2
    have := (key hij).2.2
    rwa [Int.toNat_natCast] at this
end Go.Proofs.Ytjhnlkmdkjlkdaa.CompLaw
