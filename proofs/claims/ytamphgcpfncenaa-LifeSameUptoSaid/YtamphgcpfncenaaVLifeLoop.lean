/- Plain facts for the laws on plans: the small nets, edits that keep the ends. -/
import Derived.Test.YtamphgcpfncenaaVLifeUse
namespace Go.Proofs.Ytamphgcpfncenaa.Life
open Go.RowKit Go.Proofs.Ytamphgcpfncenaa NetLaw BellLaw FlowLaw LifeLaw Go.Proofs.Ytamphgcpfncenaa.Net Go.Proofs.Ytamphgcpfncenaa.Std
set_option linter.unusedSimpArgs false
set_option linter.unusedVariables false
theorem none_two {A : Option Addr} {k c : Nat} {co er : Int} {w w' : World} (h : WF 2 1 0 [(0, 1, 5)] A k c co er w w') : er = 5 := by
  obtain ⟨d, hb, h⟩ := h
  rcases h with ⟨_, _, _, _, _, h⟩ | ⟨h1, _⟩
  · exact h
  · have hw := hb.is h1
    have key : ∀ v x, Wk [((0 : Int), (1 : Int), (5 : Int))] 1 v x → v = 1 := fun v x hw => by
      induction hw with
      | here => rfl
      | step _ he _ _ => rw [List.mem_singleton] at he; subst he; rfl
    have := key _ _ hw
    exact absurd this (by decide)
theorem two_bad (y z : Int) (r : List Int) (h : WalkLaw.okP [((0 : Int), (1 : Int), (7 : Int))] (WalkLaw.prs ((0 : Int) :: y :: z :: r)) = true) : False := by
  have h1 : WalkLaw.prs ((0 : Int) :: y :: z :: r) = (0, y) :: (y, z) :: WalkLaw.prs (z :: r) := rfl
  rw [h1] at h
  simp only [WalkLaw.okP, List.all_cons, Bool.and_eq_true] at h
  obtain ⟨h2, h3, _⟩ := h
  have e1 : ∀ a b : Int, (WalkLaw.eg [((0 : Int), (1 : Int), (7 : Int))] a b).2 = true → a = 0 ∧ b = 1 := fun a b hab => by
    unfold WalkLaw.eg at hab
    simp only [List.foldl_cons, List.foldl_nil, WalkLaw.egS] at hab
    split at hab
    · rename_i hc; exact ⟨hc.1.symm, hc.2.1.symm⟩
    · cases hab
  have a := e1 _ _ h2
  have b := e1 _ _ h3
  omega
theorem two_seven {A : Option Addr} {k c : Nat} {co er : Int} {w w' : World} (h : WF 2 0 1 [(0, 1, 7)] A k c co er w w') : er = 0 ∧ co = 7 ∧ k = 2 ∧ Own w' w.heap.size 3 1 ci (.slice A k c) [(0 : Int), 1] := by
  obtain ⟨d, hb, h⟩ := h
  have hw : Wk [((0 : Int), (1 : Int), (7 : Int))] 0 1 (0 + 7) := Wk.step (e := (0, 1, 7)) Wk.here (by simp) rfl
  have h7 := hb.least _ hw
  rcases h with ⟨h1, _⟩ | ⟨h1, rfl, rfl, p, rfl, own, hc, hh, hl, _⟩
  · exact absurd h1 (by unfold far; omega)
  · have key : ∀ v x, Wk [((0 : Int), (1 : Int), (7 : Int))] 0 v x → (v = 0 ∧ x = 0) ∨ (v = 1 ∧ x = 7) := fun v x hw => by
      induction hw with
      | here => exact .inl ⟨rfl, rfl⟩
      | @step u d e _ he hu ih =>
        rw [List.mem_singleton] at he
        subst he
        simp only at hu
        rcases ih with ⟨a, b⟩ | ⟨a, b⟩
        · exact .inr ⟨rfl, by show d + 7 = 7; omega⟩
        · omega
    have hd : co = 7 := by
      rcases key _ _ (hb.is h1) with ⟨a, _⟩ | ⟨_, a⟩
      · exact absurd a (by decide)
      · exact a
    subst hd
    have hp : p = [0, 1] := by
      match p, hh, hl, hc with
      | [x], hh, hl, _ =>
        simp at hh hl
        omega
      | [x, y], hh, hl, _ =>
        simp at hh hl
        rw [hh, hl]
      | x :: y :: z :: r, hh, hl, hc =>
        exfalso
        simp at hh
        subst hh
        unfold WalkLaw.cost at hc
        repeat' split at hc
        all_goals first | (rename_i hok; have hk : WalkLaw.okP [((0 : Int), (1 : Int), (7 : Int))] (WalkLaw.prs ((0 : Int) :: y :: z :: r)) = true := hok; exact two_bad _ _ _ hk) | (injection hc with h1 h2; revert h2; decide) | (simp at hc)
    subst hp
    exact ⟨rfl, rfl, rfl, own⟩
/-- the same ends -/
structure Ends (l' l : List E) : Prop where
  len : l'.length = l.length
  ends : ∀ i, fr l' i = fr l i ∧ en l' i = en l i
theorem Ends.refl (l : List E) : Ends l l := ⟨rfl, fun _ => ⟨rfl, rfl⟩⟩
theorem Ends.edt {l' l : List E} (h : Ends l' l) (x c : Int) : Ends (edt l' x c) l := by
  refine ⟨by rw [edt_len]; exact h.len, fun i => ?_⟩
  unfold Life.edt
  split
  · rename_i hc
    have := set_ed (l := l') (i := x.toNat) (by omega) c i
    rw [this.1, this.2.1]
    exact h.ends i
  · exact h.ends i
/-- the first k as they were -/
def Firsts (l' l : List E) (k : Nat) : Prop := ∀ j, j < k → cpt l' j = cpt l j
theorem Firsts.next {l' l : List E} {k : Nat} (h : Firsts l' l k) (he : Ends l' l) (hk : k < l.length) (hc : 1 ≤ cpt l k ∧ cpt l k ≤ 10000) : serr l' k (cpt l k) = 0 ∧ Firsts (edt l' k (cpt l k)) l (k + 1) := by
  have hk' : k < l'.length := by rw [he.len]; exact hk
  refine ⟨by unfold serr; rw [if_pos ⟨by omega, by omega⟩, if_pos hc], fun j hj => ?_⟩
  unfold Life.edt
  rw [if_pos ⟨⟨by omega, by omega⟩, hc⟩, Int.toNat_natCast]
  have := set_ed hk' (cpt l k) j
  by_cases e : j = k
  · rw [this.2.2.2 e, e]
  · rw [this.2.2.1 e]
    exact h j (by omega)
theorem Firsts.all {l' l : List E} (h : Firsts l' l l.length) (he : Ends l' l) : l' = l := by
  apply List.ext_getElem he.len
  intro i h1 h2
  rw [← ed_at h1, ← ed_at h2]
  have a := he.ends i
  have b := h i h2
  show (fr l' i, en l' i, cpt l' i) = (fr l i, en l i, cpt l i)
  rw [a.1, a.2, b]
end Go.Proofs.Ytamphgcpfncenaa.Life
