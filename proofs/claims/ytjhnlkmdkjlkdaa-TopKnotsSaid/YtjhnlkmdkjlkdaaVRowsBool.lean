/- Tables of rows that read as lists of lists; the walks of SameRows at bool. -/
import Derived.Test.YtjhnlkmdkjlkdaaVStdI
import Derived.Test.YtjhnlkmdkjlkdaaVMat
import Derived.BigRegion
import Derived.BigQuiet
namespace Go.Proofs.Ytjhnlkmdkjlkdaa.RowsBool
open Go.RowKit Go.Proofs.Ytjhnlkmdkjlkdaa FloydLaw Go.Proofs.Ytjhnlkmdkjlkdaa.Std Go.Proofs.Ytjhnlkmdkjlkdaa.Mat
set_option linter.unusedSimpArgs false
set_option linter.unusedVariables false
def cbo (z : Bool) (_ : Nat) : Value := .bool z
theorem one_cbo (x : Bool) (j : Nat) : (cbo x j).oneCell' = true := rfl
theorem atB {w : World} {B : Nat} {A : Option Addr} {l : List Bool} (h : Sl w B 1 cbo A l) {k : Nat} (hk : k < l.length) :
    ∃ b off, A = some ⟨b, off, none⟩ ∧ b < B ∧ w.cell? ⟨b, off + k, none⟩ = some (.bool l[k]) := by
  obtain ⟨b, off, hA, hlt, hc⟩ := h (by omega)
  have := hc k hk 0 (by omega)
  rw [Nat.mul_one, Nat.add_zero] at this
  exact ⟨b, off, hA, hlt, this⟩
/-- the table at A reads as L -/
def Sr (w : World) (B : Nat) (A : Option Addr) (L : List (List Bool)) : Prop :=
  0 < L.length → ∃ b off, A = some ⟨b, off, none⟩ ∧ b < B ∧ ∀ (i : Nat) (h : i < L.length), ∃ A' c', w.cell? ⟨b, off + i, none⟩ = some (.slice A' L[i].length c') ∧ Sl w B 1 cbo A' L[i]
theorem Sr.nil {w : World} {B : Nat} {A : Option Addr} : Sr w B A [] := fun h => absurd h (by simp)
theorem Sr.keep {w w' : World} {B B' : Nat} {A : Option Addr} {L : List (List Bool)} (h : Sr w B A L) (hb : Below B' w w') (hB : B ≤ B') : Sr w' B A L := fun hl => by
  obtain ⟨b, off, e, hlt, hc⟩ := h hl
  refine ⟨b, off, e, hlt, fun i hi => ?_⟩
  obtain ⟨A', c', h1, h2⟩ := hc i hi
  exact ⟨A', c', (hb.cell (p := ⟨b, _, none⟩) (by show b < _; omega)).trans h1, h2.keep hb hB⟩
theorem Sr.more {w : World} {B B' : Nat} {A : Option Addr} {L : List (List Bool)} (h : Sr w B A L) (hB : B ≤ B') : Sr w B' A L := fun hl => by
  obtain ⟨b, off, e, hlt, hc⟩ := h hl
  refine ⟨b, off, e, by omega, fun i hi => ?_⟩
  obtain ⟨A', c', h1, h2⟩ := hc i hi
  exact ⟨A', c', h1, h2.more hB⟩
/-- a matrix's rows -/
def rows (n : Nat) (M : Mx Bool) : List (List Bool) := (List.range n).map fun v => (List.range n).map (M v)
theorem rows_len (n : Nat) (M : Mx Bool) : (rows n M).length = n := by simp [rows]
theorem rows_get (n : Nat) (M : Mx Bool) {v : Nat} (h : v < (rows n M).length) : (rows n M)[v] = (List.range n).map (M v) := by simp [rows]
theorem sr_mt {w : World} {base S n : Nat} {F : Nat → Nat} {M : Mx Bool} {q : Bool → Value} (hq : ∀ x, q x = cbo x 0) (h : Mt w 38 4 q base S n n F M) : Sr w w.heap.size (some ⟨S, 0, none⟩) (rows n M) := fun _ => by
  refine ⟨S, 0, rfl, h.lt, fun i hi => ?_⟩
  have hin : i < n := by rwa [rows_len] at hi
  rw [rows_get]
  refine ⟨some ⟨F i, 0, none⟩, n, by rw [Nat.zero_add, h.head hin]; simp, fun hl => ⟨F i, 0, rfl, h.rlt hin, fun j hj j0 hj0 => ?_⟩⟩
  obtain rfl : j0 = 0 := by omega
  have hjn : j < n := by simpa using hj
  rw [Nat.zero_add, Nat.mul_one, Nat.add_zero, (h.cell hin hjn).1, hq]
  simp

/-- a table of two rows, as a literal lays it -/
theorem sr_lit (w : World) (t2 t3 : TypeId) (cs0 cs1 : Array Value) (r0 r1 : List Bool) (n0 n1 : Nat) (h0 : cs0.toList = fl 1 cbo r0) (h1 : cs1.toList = fl 1 cbo r1) (e0 : r0.length = n0) (e1 : r1.length = n1) {g1 g2 g3 : Nat} (hg1 : w.heap.size = g1) (hg2 : w.heap.size + 1 = g2) (hg3 : w.heap.size + 1 + 1 = g3) :
    Sr (((w.alloc (.cells cs0 t2)).alloc (.cells cs1 t2)).alloc (.cells #[.slice (some ⟨g1, 0, none⟩) n0 n0, .slice (some ⟨g2, 0, none⟩) n1 n1] t3)) (((w.alloc (.cells cs0 t2)).alloc (.cells cs1 t2)).alloc (.cells #[.slice (some ⟨g1, 0, none⟩) n0 n0, .slice (some ⟨g2, 0, none⟩) n1 n1] t3)).heap.size (some ⟨g3, 0, none⟩) [r0, r1] := fun _ => by
  subst e0 e1 hg1 hg2 hg3
  have z1 : (w.alloc (.cells cs0 t2)).heap.size = w.heap.size + 1 := by simp
  have z2 : ((w.alloc (.cells cs0 t2)).alloc (.cells cs1 t2)).heap.size = w.heap.size + 1 + 1 := by simp
  have s0 := sl_new (by decide) w cs0 t2 r0 h0
  have s1 := sl_new' (by decide) (w.alloc (.cells cs0 t2)) cs1 t2 r1 z1 h1
  have s0' := (s0.keep ((Below.refl _ _).alloc (Nat.le_refl _) (.cells cs1 t2)) (Nat.le_refl _)).keep ((Below.refl _ _).alloc (show (w.alloc (.cells cs0 t2)).heap.size ≤ _ by simp) (.cells #[.slice (some ⟨w.heap.size, 0, none⟩) r0.length r0.length, .slice (some ⟨w.heap.size + 1, 0, none⟩) r1.length r1.length] t3)) (Nat.le_refl _)
  have s1' := s1.keep ((Below.refl _ _).alloc (Nat.le_refl _) (.cells #[.slice (some ⟨w.heap.size, 0, none⟩) r0.length r0.length, .slice (some ⟨w.heap.size + 1, 0, none⟩) r1.length r1.length] t3)) (Nat.le_refl _)
  refine ⟨w.heap.size + 1 + 1, 0, rfl, by simp, fun i hi => ?_⟩
  have hc := cell_new ((w.alloc (.cells cs0 t2)).alloc (.cells cs1 t2)) #[.slice (some ⟨w.heap.size, 0, none⟩) r0.length r0.length, .slice (some ⟨w.heap.size + 1, 0, none⟩) r1.length r1.length] t3
  rw [z2] at hc
  match i, hi with
  | 0, _ => exact ⟨some ⟨w.heap.size, 0, none⟩, r0.length, hc 0, s0'.more (by simp)⟩
  | 1, _ => exact ⟨some ⟨w.heap.size + 1, 0, none⟩, r1.length, hc 1, s1'.more (by simp)⟩
end Go.Proofs.Ytjhnlkmdkjlkdaa.RowsBool
