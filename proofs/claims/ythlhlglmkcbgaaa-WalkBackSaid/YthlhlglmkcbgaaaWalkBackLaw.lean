/- Plain facts: a walk the other way through the net turned. -/
import Derived.Test.YthlhlglmkcbgaaaWalkLaw
namespace Go.Proofs.Ythlhlglmkcbgaaa.WalkLaw
open Go.Proofs.Ythlhlglmkcbgaaa.NetLaw
set_option linter.unusedSimpArgs false
def trn (l : List E) : List E := l.map fun e => (e.2.1, e.1, e.2.2)
theorem eg_trn (l : List E) (a b : Int) : eg (trn l) b a = eg l a b := by
  unfold eg
  have key : ∀ (l : List E) (s : Int × Bool), (trn l).foldl (egS b a) s = l.foldl (egS a b) s := by
    intro l
    induction l with
    | nil => intro s; rfl
    | cons e r ih =>
      intro s
      show (trn r).foldl (egS b a) (egS b a s (e.2.1, e.1, e.2.2)) = r.foldl (egS a b) (egS a b s e)
      have : egS b a s (e.2.1, e.1, e.2.2) = egS a b s e := by
        unfold egS
        refine ite_congr (propext ⟨fun h => ⟨h.2.1, h.1, h.2.2⟩, fun h => ⟨h.2.1, h.1, h.2.2⟩⟩) (fun _ => rfl) (fun _ => rfl)
      rw [this, ih]
  exact key l _
theorem prs_rev (p : List Int) : prs p.reverse = (prs p).reverse.map fun q => (q.2, q.1) := by
  induction p with
  | nil => rfl
  | cons x r ih =>
    cases r with
    | nil => rfl
    | cons y r =>
      rw [prs_cons, List.reverse_cons, List.reverse_cons, List.append_assoc, List.reverse_cons]
      show prs (r.reverse ++ y :: [x]) = _
      rw [prs_join]
      rw [List.reverse_cons] at ih
      rw [ih, List.map_append]
      rfl
theorem sumP_rev (l : List E) (p : List Int) : sumP (trn l) (prs p.reverse) = sumP l (prs p) := by
  rw [prs_rev]
  unfold sumP
  rw [List.map_map]
  have e : ((fun q : Int × Int => (eg (trn l) q.1 q.2).1) ∘ fun q : Int × Int => (q.2, q.1)) = fun q : Int × Int => (eg l q.1 q.2).1 := by
    funext q
    show (eg (trn l) q.2 q.1).1 = _
    rw [eg_trn]
  rw [e, List.map_reverse, List.sum_reverse]
theorem okP_rev (l : List E) (p : List Int) : okP (trn l) (prs p.reverse) = okP l (prs p) := by
  rw [prs_rev]
  unfold okP
  rw [List.all_map, List.all_reverse]
  congr 1
  funext q
  show (eg (trn l) q.2 q.1).2 = _
  rw [eg_trn]
theorem good_trn {N : Int} {l : List E} (h : Good N l) : Good N (trn l) := by
  refine ⟨h.lo, h.hi, by simp [trn]; exact h.len, fun e he => ?_, fun e he => ?_⟩
  · simp only [trn, List.mem_map] at he
    obtain ⟨e', he', rfl⟩ := he
    obtain ⟨a, b, c, d⟩ := h.ends e' he'
    exact ⟨c, d, a, b⟩
  · simp only [trn, List.mem_map] at he
    obtain ⟨e', he', rfl⟩ := he
    exact h.cost e' he'
theorem cost_rev {N : Int} {l : List E} (h : Good N l) (p : List Int) : cost N (trn l) p.reverse = cost N l p := by
  have h1 : chk N l = 0 := chk_zero.2 h
  have h2 : chk N (trn l) = 0 := chk_zero.2 (good_trn h)
  unfold cost
  rw [if_neg (not_not_intro h2), if_neg (not_not_intro h1), List.length_reverse, List.any_reverse, okP_rev, sumP_rev]
end Go.Proofs.Ythlhlglmkcbgaaa.WalkLaw
