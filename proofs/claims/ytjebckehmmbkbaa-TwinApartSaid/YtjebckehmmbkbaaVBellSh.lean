/- The walks of bell.Relax and bell.Dist. -/
/- The walks of BellTight's closure and of slices.ContainsFunc with it. -/
/- Plain: what bell.Dist answers is what it costs, where no cost is below 0. -/
import Derived.Test.YtjebckehmmbkbaaVNetTurn
import Derived.Test.YtjebckehmmbkbaaVBellLaw
import Derived.Test.YtjebckehmmbkbaaVGridOver
import Derived.Deep.OwnRows
import Derived.BigRegion
import Derived.BigQuiet
import Derived.Test.YtjebckehmmbkbaaVDijkLaw
namespace Go.Proofs.Ytjebckehmmbkbaa.Bell
open Go.RowKit Go.Proofs.Ytjebckehmmbkbaa NetLaw BellLaw Go.Proofs.Ytjebckehmmbkbaa.Net Go.Proofs.Ytjebckehmmbkbaa.Std
set_option linter.unusedSimpArgs false
set_option linter.unusedVariables false

/-- the rounds' memory -/
structure Rel (w : World) (S n cd : Nat) (A : Option Addr) (c : Nat) (m : Nat) (wr : World) (D P : List Int) : Prop where
  d : Own wr S 3 1 ci (.slice (some ⟨S, 0, none⟩) n cd) D
  p : Own wr (w.heap.size + 1) 3 1 ci (.slice (some ⟨w.heap.size + 1, 0, none⟩) n n) P
  dl : D.length = n
  pl : P.length = n
  b : wr.heap[w.heap.size]? = some (.cells #[.int .i64 n, .slice A m c] 24 (0, 0))
  lo : Below S w wr
  sz : w.heap.size + 2 ≤ wr.heap.size
section
variable {w wr : World} {S n cd c m : Nat} {A : Option Addr} {D P : List Int}
theorem Rel.alloc (h : Rel w S n cd A c m wr D P) (hS : S < w.heap.size) (o : Obj) : Rel w S n cd A c m (wr.alloc o) D P :=
  ⟨h.d.alloc o, h.p.alloc o, h.dl, h.pl, blk_alloc h.b o, h.lo.alloc (by have := h.sz; omega) o, by have := h.sz; simp; omega⟩
theorem Rel.drewN (h : Rel w S n cd A c m wr D P) (k : Nat) : Rel w S n cd A c m (wr.drewN k) D P :=
  ⟨h.d.drewN k, h.p.drewN k, h.dl, h.pl, h.b, below_drewN h.lo k, h.sz⟩
theorem Rel.setD (h : Rel w S n cd A c m wr D P) (hS : S < w.heap.size) (t : Nat) (x : Int) : Rel w S n cd A c m (wr.setCell ⟨S, t, none⟩ (.int .i64 x)) (D.set t x) P :=
  ⟨own_set1 h.dl h.d t x, h.p.setCell (by simp [Value.ownBlock]; omega) _, by simp [h.dl], h.pl, blk_far h.b (by dsimp only; omega) _, h.lo.setCell (Nat.le_refl _) _, by have := h.sz; simpa [World.setCell] using this⟩
theorem Rel.setP (h : Rel w S n cd A c m wr D P) (hS : S < w.heap.size) (t : Nat) (x : Int) : Rel w S n cd A c m (wr.setCell ⟨w.heap.size + 1, t, none⟩ (.int .i64 x)) D (P.set t x) :=
  ⟨h.d.setCell (by simp [Value.ownBlock]; omega) _, own_set1 h.pl h.p t x, h.dl, by simp [h.pl], blk_far h.b (by dsimp only; omega) _, h.lo.setCell (by dsimp only; omega) _, by have := h.sz; simpa [World.setCell] using this⟩
end
theorem fill_step (n k : Nat) (x z : Int) (h : k < n) : (List.replicate k x ++ List.replicate (n - k) z).set k x = List.replicate (k + 1) x ++ List.replicate (n - (k + 1)) z := by
  obtain ⟨m, rfl⟩ : ∃ m, n = k + 1 + m := ⟨n - (k + 1), by omega⟩
  rw [show k + 1 + m - k = m + 1 by omega, show k + 1 + m - (k + 1) = m by omega, List.replicate_succ, List.set_append_right _ _ (by simp)]
  simp [List.replicate_succ', List.append_assoc]
/-- no value below -C -/
def Lb (n : Nat) (D : List Int) (C : Int) : Prop := ∀ v, v < n → -C ≤ D.getD v 0
theorem Lb.more {n : Nat} {D : List Int} {C C' : Int} (h : Lb n D C) (hC : C ≤ C') : Lb n D C' := fun v hv => by have := h v hv; omega
theorem Lb.set {n : Nat} {D : List Int} {C : Int} (h : Lb n D C) (hl : D.length = n) {t : Nat} (ht : t < n) {x : Int} (hx : -C ≤ x) : Lb n (D.set t x) C := fun v hv => by
  rw [List.getD_eq_getElem?_getD]
  by_cases e : t = v
  · subst e; rw [List.getElem?_set_self (by omega)]; exact hx
  · rw [List.getElem?_set_ne e]; have := h v hv; rwa [List.getD_eq_getElem?_getD] at this
theorem take_foldl {l : List E} {k : Nat} (h : k < l.length) (s : St) : (l.take (k + 1)).foldl rx s = rx ((l.take k).foldl rx s) l[k] := by
  rw [List.take_succ_eq_append_getElem h, List.foldl_append]; rfl

/-- where all starts -/
def start (n fr : Nat) : List Int := (List.replicate n far).set fr 0
theorem start_len (n fr : Nat) : (start n fr).length = n := by simp [start]
theorem start_lb (n fr : Nat) (h : fr < n) : Lb n (start n fr) 1000000000000 := by
  refine Lb.set (fun v hv => ?_) (by simp) h (by decide)
  rw [List.getD_eq_getElem?_getD, List.getElem?_replicate, if_pos hv]
  simp [far]
/-- what Relax answers -/
def rl (n : Nat) (l : List E) (fr : Nat) : St := relax l n (start n fr, List.replicate n (-1), -1)
/-- the fault that Dist tells -/
def derr (N : Int) (l : List E) (fr : Int) : Int := if chk N l ≠ 0 then chk N l else if fr < 0 ∨ N ≤ fr then 1 else if 0 ≤ (rl N.toNat l fr.toNat).2.2 then 6 else 0
/-- what Dist answers -/
def DistSays (N : Int) (l : List E) (fr : Int) (w : World) (e : Ending) (w' : World) : Prop :=
  (derr N l fr ≠ 0 → e = .returned (.tuple #[.slice none 0 0, .int .i64 (derr N l fr)])) ∧
  (derr N l fr = 0 → ∃ S, w.heap.size ≤ S ∧ e = .returned (.tuple #[.slice (some ⟨S, 0, none⟩) N.toNat N.toNat, .int .i64 0]) ∧ Own w' w.heap.size 3 1 ci (.slice (some ⟨S, 0, none⟩) N.toNat N.toNat) (rl N.toNat l fr.toNat).1 ∧ (rl N.toNat l fr.toNat).1.length = N.toNat) ∧ Below w.heap.size w w'

end Go.Proofs.Ytjebckehmmbkbaa.Bell

namespace Go.Proofs.Ytjebckehmmbkbaa.Bell
open Go.RowKit Go.Proofs.Ytjebckehmmbkbaa NetLaw BellLaw Go.Proofs.Ytjebckehmmbkbaa.Net Go.Proofs.Ytjebckehmmbkbaa.Std
set_option linter.unusedSimpArgs false
set_option linter.unusedVariables false

/-- the edge that the closure looks for -/
def Into (D : List Int) (v co : Int) (e : E) : Prop := e.2.1 = v ∧ dg D e.1 < far ∧ dg D e.1 + e.2.2 = co
/-- what the closure has caught -/
structure Caught (w : World) (gv gl gc S n : Nat) (D : List Int) (v co : Int) : Prop where
  v : w.cell? ⟨gv, 0, none⟩ = some (.int .i64 v)
  l : w.cell? ⟨gl, 0, none⟩ = some (.slice (some ⟨S, 0, none⟩) n n)
  c : w.cell? ⟨gc, 0, none⟩ = some (.int .i64 co)
  d : ∀ f, f < n → w.cell? ⟨S, f, none⟩ = some (.int .i64 (D.getD f 0))
  sv : gv < w.heap.size
  sl : gl < w.heap.size
  sc : gc < w.heap.size
  ss : S < w.heap.size
theorem Caught.keep {w w' : World} {gv gl gc S n : Nat} {D : List Int} {v co : Int} (h : Caught w gv gl gc S n D v co) (hb : Below w.heap.size w w') : Caught w' gv gl gc S n D v co := by
  obtain ⟨c1, _⟩ := keepN hb
  have hs := hb.size
  exact ⟨(c1 _ _ h.sv).trans h.v, (c1 _ _ h.sl).trans h.l, (c1 _ _ h.sc).trans h.c, fun f hf => (c1 _ _ h.ss).trans (h.d f hf), Nat.lt_of_lt_of_le h.sv hs, Nat.lt_of_lt_of_le h.sl hs, Nat.lt_of_lt_of_le h.sc hs, Nat.lt_of_lt_of_le h.ss hs⟩

end Go.Proofs.Ytjebckehmmbkbaa.Bell

namespace Go.Proofs.Ytjebckehmmbkbaa.BellSh
open NetLaw BellLaw DijkLaw Go.Proofs.Ytjebckehmmbkbaa.Bell
set_option linter.unusedSimpArgs false
set_option linter.unusedVariables false
theorem dg_start {n fr : Nat} (hf : fr < n) (v : Int) (v0 : 0 ≤ v) (v1 : v < n) : dg (Bell.start n fr) v = if v = fr then 0 else far := by
  have := dg_set (D := List.replicate n far) (t := (fr : Int)) (v := v) (x := 0) (by omega) (by simp; omega) v0
  rw [Int.toNat_natCast] at this
  rw [Bell.start, this]
  split
  · rfl
  · rw [dg, List.getD_eq_getElem?_getD, List.getElem?_replicate, if_pos (by omega)]
    rfl
theorem j_start {n fr : Nat} (hf : fr < n) (l : List E) : J n l fr (Bell.start n fr) := by
  refine ⟨by rw [start_len], fun v v0 v1 => ?_, ?_, fun v v0 v1 h => ?_, fun v v0 v1 hv h => ?_⟩
  · rw [dg_start hf v v0 v1]; unfold far; split <;> omega
  · rw [dg_start hf fr (by omega) (by omega), if_pos rfl]; exact Int.le_refl _
  · rw [dg_start hf v v0 v1] at h ⊢
    split at h
    · rename_i e; subst e; rw [if_pos rfl]; exact Wk.here
    · exact absurd h (Int.lt_irrefl _)
  · rw [dg_start hf v v0 v1, if_neg hv] at h
    exact absurd h (Int.lt_irrefl _)
theorem bd_start {n fr : Nat} (hf : fr < n) : Bd n (Bell.start n fr) 0 := fun v v0 v1 h => by
  rw [dg_start hf v v0 v1] at h ⊢
  split at h
  · rename_i e; rw [if_pos e]; omega
  · exact absurd h (Int.lt_irrefl _)
theorem bd_relax {N : Int} {l : List E} (hends : ∀ e ∈ l, 0 ≤ e.1 ∧ e.1 < N ∧ 0 ≤ e.2.1 ∧ e.2.1 < N) (hcost : ∀ e ∈ l, -10000 ≤ e.2.2 ∧ e.2.2 ≤ 10000) (k : Nat) (C : Int) (s : St) (h : Bd N s.1 C) (hl : (s.1.length : Int) = N) :
    Bd N (relax l k s).1 (C + k * (l.length * 10000)) := by
  induction k generalizing s C with
  | zero => simpa [relax] using h
  | succ k ih =>
    obtain ⟨b1, b2, _⟩ := Bd.fold hends hcost l (fun _ he => he) C (s.1, s.2.1, -1) h hl
    have hk : 0 ≤ (k : Int) * (l.length * 10000) := Int.mul_nonneg (by omega) (by omega)
    have e : C + ((k + 1 : Nat) : Int) * (l.length * 10000) = C + l.length * 10000 + k * (l.length * 10000) := by
      rw [Int.natCast_add, Int.add_mul]; omega
    rw [e, relax]
    split
    · exact Bd.more b1 (by omega)
    · exact ih _ (pass l s) b1 b2
theorem len_relax {N fr : Int} {l : List E} {s : St} (k : Nat) (h : J N l fr s.1) (hends : ∀ e ∈ l, 0 ≤ e.1 ∧ e.1 < N ∧ 0 ≤ e.2.1 ∧ e.2.1 < N) (hf : 0 ≤ fr) : ((relax l k s).1.length : Int) = N := (J.relax_ hends hf k s h).len
/-- all that Dist's answer keeps -/
structure Tight (n : Nat) (l : List E) (fr : Nat) (D : List Int) : Prop where
  len : D.length = n
  start : D.getD fr 0 = 0
  still : ∀ e ∈ l, ¬ (dg D e.1 < far ∧ dg D e.1 + e.2.2 < dg D e.2.1)
  into : ∀ v : Nat, v < n → v ≠ fr → D.getD v 0 < far → ∃ e ∈ l, Into D v (D.getD v 0) e
  lb : Lb n D 1000000000000
  hi : ∀ v : Nat, v < n → D.getD v 0 ≤ far
theorem dist_law {n fr : Nat} {l : List E} (hg : NetLaw.Good n l) (hf : fr < n) (h : (rl n l fr).2.2 < 0) : Tight n l fr (rl n l fr).1 := by
  have hj : J n l fr (rl n l fr).1 := J.relax_ hg.ends (by omega) n _ (j_start hf l)
  have hb : Bd n (rl n l fr).1 384000000 := by
    refine (bd_relax hg.ends hg.cost n 0 (Bell.start n fr, List.replicate n (-1), -1) (bd_start hf) (by simp [start_len])).more ?_
    have h1 := hg.len
    have h2 := hg.hi
    have h3 : (n : Int) * (l.length * 10000) ≤ 64 * (600 * 10000) := Int.mul_le_mul (by omega) (by omega) (by omega) (by omega)
    omega
  have hs := relax_still (l := l) (fun e he => (hg.ends e he).2.2.1) n (by omega) _ h
  obtain ⟨t0, t1⟩ := BellLaw.tight hj hg.ends hg.cost hb (by unfold far; omega) (by omega) (by omega) hs
  refine ⟨by have := hj.len; omega, by have := t0; rwa [dg, Int.toNat_natCast] at this, hs, fun v v1 v2 v3 => ?_, fun v v1 => ?_, fun v v1 => ?_⟩
  · have e : dg (rl n l fr).1 (v : Int) = (rl n l fr).1.getD v 0 := by rw [dg, Int.toNat_natCast]
    obtain ⟨x, hx, x1, x2, x3⟩ := t1 v (by omega) (by omega) (by omega) (by rw [e]; exact v3)
    exact ⟨x, hx, x1, x2, by rw [x3, e]⟩
  · have e : dg (rl n l fr).1 (v : Int) = (rl n l fr).1.getD v 0 := by rw [dg, Int.toNat_natCast]
    rw [← e]
    by_cases hh : dg (rl n l fr).1 v < far
    · have := hb v (by omega) (by omega) hh; omega
    · unfold far at hh; omega
  · have := hj.hi v (by omega) (by omega)
    rwa [dg, Int.toNat_natCast] at this
theorem wk_nonneg {l : List E} {fr v d : Int} (h : Wk l fr v d) (hc : ∀ e ∈ l, 0 ≤ e.2.2) : 0 ≤ d := by
  induction h with
  | here => exact Int.le_refl _
  | step _ he _ ih => have := hc _ he; omega
theorem bell_sh {n fr : Nat} {l : List E} (hg : NetLaw.Good n l) (hf : fr < n) (h : (rl n l fr).2.2 < 0) (hc : ∀ e ∈ l, 0 ≤ e.2.2) : Sh n fr l (rl n l fr).1 := by
  have hj : J n l fr (rl n l fr).1 := J.relax_ hg.ends (by omega) n _ (j_start hf l)
  have ht := dist_law hg hf h
  refine ⟨hj.len, fun v v0 v1 => ⟨?_, hj.hi v v0 v1⟩, ?_, hj.wk, fun e he hfar => ?_⟩
  · by_cases hv : dg (rl n l fr).1 v < far
    · exact wk_nonneg (hj.wk v v0 v1 hv) hc
    · unfold far at hv; omega
  · have := ht.start
    rw [dg, Int.toNat_natCast]
    exact this
  · have := ht.still e he
    omega
end Go.Proofs.Ytjebckehmmbkbaa.BellSh
