/- The walks of bell.Relax and bell.Dist. -/
import Derived.Test.YtjhnlkmdkjlkdaaNetTurn
import Derived.Test.YtjhnlkmdkjlkdaaBellLaw
import Derived.Test.YtjhnlkmdkjlkdaaStdR
import Derived.Test.YtjhnlkmdkjlkdaaGridOver
import Derived.Deep.OwnRows
import Derived.BigRegion
import Derived.BigQuiet
namespace Go.Proofs.Ytjhnlkmdkjlkdaa.Bell
open Go.RowKit Go.Proofs.Ytjhnlkmdkjlkdaa NetLaw BellLaw Go.Proofs.Ytjhnlkmdkjlkdaa.Net Go.Proofs.Ytjhnlkmdkjlkdaa.Std
set_option linter.unusedSimpArgs false
set_option linter.unusedVariables false

/-- the rounds' memory -/
structure Rel (w : World) (S n cd : Nat) (A : Option Addr) (c : Nat) (m : Nat) (wr : World) (D P : List Int) : Prop where
  d : Own wr S 3 1 ci (.slice (some ⟨S, 0, none⟩) n cd) D
  p : Own wr (w.heap.size + 1) 3 1 ci (.slice (some ⟨w.heap.size + 1, 0, none⟩) n n) P
  dl : D.length = n
  pl : P.length = n
  b : wr.heap[w.heap.size]? = some (.cells #[.int .i64 n, .slice A m c] 24 (0, 0))
  lo : Below S w wr
  sz : w.heap.size + 2 ≤ wr.heap.size
section
variable {w wr : World} {S n cd c m : Nat} {A : Option Addr} {D P : List Int}
theorem Rel.alloc (h : Rel w S n cd A c m wr D P) (hS : S < w.heap.size) (o : Obj) : Rel w S n cd A c m (wr.alloc o) D P :=
  ⟨h.d.alloc o, h.p.alloc o, h.dl, h.pl, blk_alloc h.b o, h.lo.alloc (by have := h.sz; omega) o, by have := h.sz; simp; omega⟩
theorem Rel.drewN (h : Rel w S n cd A c m wr D P) (k : Nat) : Rel w S n cd A c m (wr.drewN k) D P :=
  ⟨h.d.drewN k, h.p.drewN k, h.dl, h.pl, h.b, below_drewN h.lo k, h.sz⟩
theorem Rel.setD (h : Rel w S n cd A c m wr D P) (hS : S < w.heap.size) (t : Nat) (x : Int) : Rel w S n cd A c m (wr.setCell ⟨S, t, none⟩ (.int .i64 x)) (D.set t x) P :=
  ⟨own_set1 h.dl h.d t x, h.p.setCell (by simp [Value.ownBlock]; omega) _, by simp [h.dl], h.pl, blk_far h.b (by dsimp only; omega) _, h.lo.setCell (Nat.le_refl _) _, by have := h.sz; simpa [World.setCell] using this⟩
theorem Rel.setP (h : Rel w S n cd A c m wr D P) (hS : S < w.heap.size) (t : Nat) (x : Int) : Rel w S n cd A c m (wr.setCell ⟨w.heap.size + 1, t, none⟩ (.int .i64 x)) D (P.set t x) :=
  ⟨h.d.setCell (by simp [Value.ownBlock]; omega) _, own_set1 h.pl h.p t x, h.dl, by simp [h.pl], blk_far h.b (by dsimp only; omega) _, h.lo.setCell (by dsimp only; omega) _, by have := h.sz; simpa [World.setCell] using this⟩
end
theorem fill_step (n k : Nat) (x z : Int) (h : k < n) : (List.replicate k x ++ List.replicate (n - k) z).set k x = List.replicate (k + 1) x ++ List.replicate (n - (k + 1)) z := by
  obtain ⟨m, rfl⟩ : ∃ m, n = k + 1 + m := ⟨n - (k + 1), by omega⟩
  rw [show k + 1 + m - k = m + 1 by omega, show k + 1 + m - (k + 1) = m by omega, List.replicate_succ, List.set_append_right _ _ (by simp)]
  simp [List.replicate_succ', List.append_assoc]
/-- no value below -C -/
def Lb (n : Nat) (D : List Int) (C : Int) : Prop := ∀ v, v < n → -C ≤ D.getD v 0
theorem Lb.more {n : Nat} {D : List Int} {C C' : Int} (h : Lb n D C) (hC : C ≤ C') : Lb n D C' := fun v hv => by have := h v hv; omega
theorem Lb.set {n : Nat} {D : List Int} {C : Int} (h : Lb n D C) (hl : D.length = n) {t : Nat} (ht : t < n) {x : Int} (hx : -C ≤ x) : Lb n (D.set t x) C := fun v hv => by
  rw [List.getD_eq_getElem?_getD]
  by_cases e : t = v
  · subst e; rw [List.getElem?_set_self (by omega)]; exact hx
  · rw [List.getElem?_set_ne e]; have := h v hv; rwa [List.getD_eq_getElem?_getD] at this
theorem take_foldl {l : List E} {k : Nat} (h : k < l.length) (s : St) : (l.take (k + 1)).foldl rx s = rx ((l.take k).foldl rx s) l[k] := by
  rw [List.take_succ_eq_append_getElem h, List.foldl_append]; rfl

/-- where all starts -/
def start (n fr : Nat) : List Int := (List.replicate n far).set fr 0
theorem start_len (n fr : Nat) : (start n fr).length = n := by simp [start]
theorem start_lb (n fr : Nat) (h : fr < n) : Lb n (start n fr) 1000000000000 := by
  refine Lb.set (fun v hv => ?_) (by simp) h (by decide)
  rw [List.getD_eq_getElem?_getD, List.getElem?_replicate, if_pos hv]
  simp [far]
/-- what Relax answers -/
def rl (n : Nat) (l : List E) (fr : Nat) : St := relax l n (start n fr, List.replicate n (-1), -1)
/-- the fault that Dist tells -/
def derr (N : Int) (l : List E) (fr : Int) : Int := if chk N l ≠ 0 then chk N l else if fr < 0 ∨ N ≤ fr then 1 else if 0 ≤ (rl N.toNat l fr.toNat).2.2 then 6 else 0
/-- what Dist answers -/
def DistSays (N : Int) (l : List E) (fr : Int) (w : World) (e : Ending) (w' : World) : Prop :=
  (derr N l fr ≠ 0 → e = .returned (.tuple #[.slice none 0 0, .int .i64 (derr N l fr)])) ∧
  (derr N l fr = 0 → ∃ S, w.heap.size ≤ S ∧ e = .returned (.tuple #[.slice (some ⟨S, 0, none⟩) N.toNat N.toNat, .int .i64 0]) ∧ Own w' w.heap.size 3 1 ci (.slice (some ⟨S, 0, none⟩) N.toNat N.toNat) (rl N.toNat l fr.toNat).1 ∧ (rl N.toNat l fr.toNat).1.length = N.toNat) ∧ Below w.heap.size w w'

end Go.Proofs.Ytjhnlkmdkjlkdaa.Bell
