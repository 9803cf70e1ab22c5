/- The walks of BellTight's closure and of slices.ContainsFunc with it. -/
/- Plain: what bell.Dist answers is what it costs, where no cost is below 0. -/
import Derived.Test.YtpoolpaagbeokaaVBellWalks
import Derived.Test.YtpoolpaagbeokaaVDijkMoreLaw
namespace Go.Proofs.Ytpoolpaagbeokaa.Bell
open Go.RowKit Go.Proofs.Ytpoolpaagbeokaa NetLaw BellLaw Go.Proofs.Ytpoolpaagbeokaa.Net Go.Proofs.Ytpoolpaagbeokaa.Std
set_option linter.unusedSimpArgs false
set_option linter.unusedVariables false

/-- the edge that the closure looks for -/
def Into (D : List Int) (v co : Int) (e : E) : Prop := e.2.1 = v ∧ dg D e.1 < far ∧ dg D e.1 + e.2.2 = co
/-- what the closure has caught -/
structure Caught (w : World) (gv gl gc S n : Nat) (D : List Int) (v co : Int) : Prop where
  v : w.cell? ⟨gv, 0, none⟩ = some (.int .i64 v)
  l : w.cell? ⟨gl, 0, none⟩ = some (.slice (some ⟨S, 0, none⟩) n n)
  c : w.cell? ⟨gc, 0, none⟩ = some (.int .i64 co)
  d : ∀ f, f < n → w.cell? ⟨S, f, none⟩ = some (.int .i64 (D.getD f 0))
  sv : gv < w.heap.size
  sl : gl < w.heap.size
  sc : gc < w.heap.size
  ss : S < w.heap.size
theorem Caught.keep {w w' : World} {gv gl gc S n : Nat} {D : List Int} {v co : Int} (h : Caught w gv gl gc S n D v co) (hb : Below w.heap.size w w') : Caught w' gv gl gc S n D v co := by
  obtain ⟨c1, _⟩ := keepN hb
  have hs := hb.size
  exact ⟨(c1 _ _ h.sv).trans h.v, (c1 _ _ h.sl).trans h.l, (c1 _ _ h.sc).trans h.c, fun f hf => (c1 _ _ h.ss).trans (h.d f hf), Nat.lt_of_lt_of_le h.sv hs, Nat.lt_of_lt_of_le h.sl hs, Nat.lt_of_lt_of_le h.sc hs, Nat.lt_of_lt_of_le h.ss hs⟩

end Go.Proofs.Ytpoolpaagbeokaa.Bell

namespace Go.Proofs.Ytpoolpaagbeokaa.BellSh
open NetLaw BellLaw DijkLaw Go.Proofs.Ytpoolpaagbeokaa.Bell
set_option linter.unusedSimpArgs false
set_option linter.unusedVariables false
theorem dg_start {n fr : Nat} (hf : fr < n) (v : Int) (v0 : 0 ≤ v) (v1 : v < n) : dg (Bell.start n fr) v = if v = fr then 0 else far := by
  have := dg_set (D := List.replicate n far) (t := (fr : Int)) (v := v) (x := 0) (by omega) (by simp; omega) v0
  rw [Int.toNat_natCast] at this
  rw [Bell.start, this]
  split
  · rfl
  · rw [dg, List.getD_eq_getElem?_getD, List.getElem?_replicate, if_pos (by omega)]
    rfl
theorem j_start {n fr : Nat} (hf : fr < n) (l : List E) : J n l fr (Bell.start n fr) := by
  refine ⟨by rw [start_len], fun v v0 v1 => ?_, ?_, fun v v0 v1 h => ?_, fun v v0 v1 hv h => ?_⟩
  · rw [dg_start hf v v0 v1]; unfold far; split <;> omega
  · rw [dg_start hf fr (by omega) (by omega), if_pos rfl]; exact Int.le_refl _
  · rw [dg_start hf v v0 v1] at h ⊢
    split at h
    · rename_i e; subst e; rw [if_pos rfl]; exact Wk.here
    · exact absurd h (Int.lt_irrefl _)
  · rw [dg_start hf v v0 v1, if_neg hv] at h
    exact absurd h (Int.lt_irrefl _)
theorem bd_start {n fr : Nat} (hf : fr < n) : Bd n (Bell.start n fr) 0 := fun v v0 v1 h => by
  rw [dg_start hf v v0 v1] at h ⊢
  split at h
  · rename_i e; rw [if_pos e]; omega
  · exact absurd h (Int.lt_irrefl _)
theorem bd_relax {N : Int} {l : List E} (hends : ∀ e ∈ l, 0 ≤ e.1 ∧ e.1 < N ∧ 0 ≤ e.2.1 ∧ e.2.1 < N) (hcost : ∀ e ∈ l, -10000 ≤ e.2.2 ∧ e.2.2 ≤ 10000) (k : Nat) (C : Int) (s : St) (h : Bd N s.1 C) (hl : (s.1.length : Int) = N) :
    Bd N (relax l k s).1 (C + k * (l.length * 10000)) := by
  induction k generalizing s C with
  | zero => simpa [relax] using h
  | succ k ih =>
    obtain ⟨b1, b2, _⟩ := Bd.fold hends hcost l (fun _ he => he) C (s.1, s.2.1, -1) h hl
    have hk : 0 ≤ (k : Int) * (l.length * 10000) := Int.mul_nonneg (by omega) (by omega)
    have e : C + ((k + 1 : Nat) : Int) * (l.length * 10000) = C + l.length * 10000 + k * (l.length * 10000) := by
      rw [Int.natCast_add, Int.add_mul]; omega
    rw [e, relax]
    split
    · exact Bd.more b1 (by omega)
    · exact ih _ (pass l s) b1 b2
theorem len_relax {N fr : Int} {l : List E} {s : St} (k : Nat) (h : J N l fr s.1) (hends : ∀ e ∈ l, 0 ≤ e.1 ∧ e.1 < N ∧ 0 ≤ e.2.1 ∧ e.2.1 < N) (hf : 0 ≤ fr) : ((relax l k s).1.length : Int) = N := (J.relax_ hends hf k s h).len
/-- all that Dist's answer keeps -/
structure Tight (n : Nat) (l : List E) (fr : Nat) (D : List Int) : Prop where
  len : D.length = n
  start : D.getD fr 0 = 0
  still : ∀ e ∈ l, ¬ (dg D e.1 < far ∧ dg D e.1 + e.2.2 < dg D e.2.1)
  into : ∀ v : Nat, v < n → v ≠ fr → D.getD v 0 < far → ∃ e ∈ l, Into D v (D.getD v 0) e
  lb : Lb n D 1000000000000
  hi : ∀ v : Nat, v < n → D.getD v 0 ≤ far
theorem dist_law {n fr : Nat} {l : List E} (hg : NetLaw.Good n l) (hf : fr < n) (h : (rl n l fr).2.2 < 0) : Tight n l fr (rl n l fr).1 := by
  have hj : J n l fr (rl n l fr).1 := J.relax_ hg.ends (by omega) n _ (j_start hf l)
  have hb : Bd n (rl n l fr).1 384000000 := by
    refine (bd_relax hg.ends hg.cost n 0 (Bell.start n fr, List.replicate n (-1), -1) (bd_start hf) (by simp [start_len])).more ?_
    have h1 := hg.len
    have h2 := hg.hi
    have h3 : (n : Int) * (l.length * 10000) ≤ 64 * (600 * 10000) := Int.mul_le_mul (by omega) (by omega) (by omega) (by omega)
    omega
  have hs := relax_still (l := l) (fun e he => (hg.ends e he).2.2.1) n (by omega) _ h
  obtain ⟨t0, t1⟩ := BellLaw.tight hj hg.ends hg.cost hb (by unfold far; omega) (by omega) (by omega) hs
  refine ⟨by have := hj.len; omega, by have := t0; rwa [dg, Int.toNat_natCast] at this, hs, fun v v1 v2 v3 => ?_, fun v v1 => ?_, fun v v1 => ?_⟩
  · have e : dg (rl n l fr).1 (v : Int) = (rl n l fr).1.getD v 0 := by rw [dg, Int.toNat_natCast]
    obtain ⟨x, hx, x1, x2, x3⟩ := t1 v (by omega) (by omega) (by omega) (by rw [e]; exact v3)
    exact ⟨x, hx, x1, x2, by rw [x3, e]⟩
  · have e : dg (rl n l fr).1 (v : Int) = (rl n l fr).1.getD v 0 := by rw [dg, Int.toNat_natCast]
    rw [← e]
    by_cases hh : dg (rl n l fr).1 v < far
    · have := hb v (by omega) (by omega) hh; omega
    · unfold far at hh; omega
  · have := hj.hi v (by omega) (by omega)
    rwa [dg, Int.toNat_natCast] at this
theorem wk_nonneg {l : List E} {fr v d : Int} (h : Wk l fr v d) (hc : ∀ e ∈ l, 0 ≤ e.2.2) : 0 ≤ d := by
  induction h with
  | here => exact Int.le_refl _
  | step _ he _ ih => have := hc _ he; omega
theorem bell_sh {n fr : Nat} {l : List E} (hg : NetLaw.Good n l) (hf : fr < n) (h : (rl n l fr).2.2 < 0) (hc : ∀ e ∈ l, 0 ≤ e.2.2) : Sh n fr l (rl n l fr).1 := by
  have hj : J n l fr (rl n l fr).1 := J.relax_ hg.ends (by omega) n _ (j_start hf l)
  have ht := dist_law hg hf h
  refine ⟨hj.len, fun v v0 v1 => ⟨?_, hj.hi v v0 v1⟩, ?_, hj.wk, fun e he hfar => ?_⟩
  · by_cases hv : dg (rl n l fr).1 v < far
    · exact wk_nonneg (hj.wk v v0 v1 hv) hc
    · unfold far at hv; omega
  · have := ht.start
    rw [dg, Int.toNat_natCast]
    exact this
  · have := ht.still e he
    omega
end Go.Proofs.Ytpoolpaagbeokaa.BellSh
