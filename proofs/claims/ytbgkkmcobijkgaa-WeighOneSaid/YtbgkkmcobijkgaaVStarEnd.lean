/- Plain facts on what a search with keys finds; the laws' own small net. -/
import Derived.Test.YtbgkkmcobijkgaaVStarLaw
namespace Go.Proofs.Ytbgkkmcobijkgaa.StarLaw
open NetLaw BellLaw DijkLaw HeurLaw
set_option linter.unusedSimpArgs false
set_option linter.unusedVariables false
/-- what was found -/
structure Fnd (n f t : Nat) (l : List E) (p : List Int) (co : Int) (o : List Int) : Prop where
  cost : WalkLaw.cost n l p = (co, 0)
  head : p.head? = some (f : Int)
  last : p.getLast? = some (t : Int)
  plen : 1 ≤ p.length ∧ p.length ≤ 64
  olen : 1 ≤ o.length ∧ o.length ≤ 64
  olenN : o.length ≤ n
  rng : ∀ v ∈ o, 0 ≤ v ∧ v < n
  nd : o.Nodup
  co0 : 0 ≤ co ∧ co < far
theorem fnd {K : Int → Int → Int} {n f t : Nat} {l : List E} {hs D P ord cs : List Int} (hr : Rch K n f t l hs D P ord) (hn : Nx K n hs D ord t) (hch : Ch P t cs) (hg : NetLaw.Good n l) (hc : ∀ e ∈ l, 1 ≤ e.2.2) (hf : f < n) (ht : t < n) :
    Fnd n f t l cs.reverse (dg D t) (ord ++ [(t : Int)]) := by
  have hst := hr.st hg.ends (fun e he => ⟨hc e he, (hg.cost e he).2⟩) hf
  obtain ⟨cs', h1, h2, h3, h4, h5, h6, h7⟩ := hst.way hg hc (v := (t : Int)) (by omega) (by omega) hn.1.2.1
  obtain rfl := hch.unique h1
  have hnd : (ord ++ [(t : Int)]).Nodup := by
    rw [List.nodup_append]
    exact ⟨hst.nd, by simp, fun a ha b hb e => by rw [List.mem_singleton] at hb; subst hb; subst e; exact hr.no_end ha⟩
  have hrng : ∀ v ∈ ord ++ [(t : Int)], 0 ≤ v ∧ v < n := fun v hv => by
    rcases List.mem_append.1 hv with h | h
    · exact (hst.ordin v h).1
    · rw [List.mem_singleton] at h; subst h; omega
  have hl := nodup_lenI hnd hrng
  have hN := hg.hi
  exact ⟨h7, h5, h6, ⟨by rw [List.length_reverse]; exact h4, by rw [List.length_reverse]; exact h3⟩, ⟨by simp, by omega⟩, hl, hrng, hnd, ⟨(hst.lo _ (by omega) (by omega)).1, hn.1.2.1⟩⟩
abbrev l2 : List E := [(0, 1, 5)]
theorem open_two {D ord : List Int} {u : Int} (h : Opn 2 D ord u) : u = 0 ∨ u = 1 := by have := h.1; omega
theorem nx_one {K : Int → Int → Int} {h D ord : List Int} {v : Int} (hv : Opn 2 D ord v) (ho : ∀ u, Opn 2 D ord u → u = v) : Nx K 2 h D ord v :=
  ⟨hv, fun u hu => by rw [ho u hu]; exact lt3_no.2 (.inr ⟨rfl, .inr ⟨rfl, Int.le_refl _⟩⟩)⟩
theorem two_end {K : Int → Int → Int} {hs D P ord : List Int} (hhs : hs = [5, 0] ∨ hs = [0, 0]) (hr : Rch K 2 0 1 l2 hs D P ord) (hst : Stop K 2 1 hs D ord) : D = [0, 5] ∧ P = [-1, 0] ∧ ord = [0] := by
  have hz : D0 2 0 hs = [0, far] := by rcases hhs with rfl | rfl <;> decide
  have hx : rxs hs ([] ++ [(0 : Int)]) 0 (oe l2 0) ([0, far], [-1, -1]) = ([0, 5], [-1, 0]) := by rcases hhs with rfl | rfl <;> decide
  have h0 : Rch K 2 0 1 l2 hs [0, far] [-1, -1] [] := by rw [← hz]; exact Rch.start
  have h1 : Nx K 2 hs [0, far] [] 0 := nx_one ⟨by decide, by decide, by simp⟩ (fun u hu => by
    rcases open_two hu with rfl | rfl
    · rfl
    · exact absurd hu.2.1 (by decide))
  have h2 := Rch.step h0 h1 (by decide)
  rw [hx] at h2
  have h3 : Nx K 2 hs [0, 5] [0] 1 := nx_one ⟨by decide, by decide, by simp⟩ (fun u hu => by
    rcases open_two hu with rfl | rfl
    · exact absurd (List.mem_cons_self ..) hu.2.2
    · rfl)
  exact hr.det hst h2 (.inl h3)
theorem two_way {cs : List Int} (h : Ch [-1, 0] 1 cs) : cs = [1, 0] := h.unique (Ch.more (by decide) (Ch.last (by decide)))
theorem two_here {K : Int → Int → Int} {D P ord : List Int} (hr : Rch K 2 1 1 l2 [0, 0] D P ord) (hst : Stop K 2 1 [0, 0] D ord) : D = [far, 0] ∧ P = [-1, -1] ∧ ord = [] := by
  have hz : D0 2 1 [0, 0] = [far, 0] := by decide
  have h0 : Rch K 2 1 1 l2 [0, 0] [far, 0] [-1, -1] [] := by rw [← hz]; exact Rch.start
  have h3 : Nx K 2 [0, 0] [far, 0] [] 1 := nx_one ⟨by decide, by decide, by simp⟩ (fun u hu => by
    rcases open_two hu with rfl | rfl
    · exact absurd hu.2.1 (by decide)
    · rfl)
  exact hr.det hst h0 (.inl h3)
theorem two_here_way {cs : List Int} (h : Ch [-1, -1] 1 cs) : cs = [1] := h.unique (Ch.last (by decide))
end Go.Proofs.Ytbgkkmcobijkgaa.StarLaw
