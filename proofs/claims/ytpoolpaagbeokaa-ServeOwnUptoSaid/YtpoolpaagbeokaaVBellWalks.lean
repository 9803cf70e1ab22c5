/- Go's slices.Reverse at []int, on a row of the caller's own. -/
/- The walk of GridTurns' closure: a place turned over. -/
/- The walks of bell.Relax and bell.Dist. -/
import Derived.Test.YtpoolpaagbeokaaVSlice
import Derived.BigRegion
import Derived.Test.YtpoolpaagbeokaaVGridTurnsLaw
import Derived.Deep.OwnRows
import Derived.Test.YtpoolpaagbeokaaVNetTurn
import Derived.Test.YtpoolpaagbeokaaVDijkMoreLaw
import Derived.BigQuiet
namespace Go.Proofs.Ytpoolpaagbeokaa.Std
open Go.RowKit Go.Proofs.Ytpoolpaagbeokaa
set_option linter.unusedSimpArgs false
set_option linter.unusedVariables false

theorem own_set1 {w : World} {base : Nat} {e : TypeId} {S c n : Nat} {l : List Int} (hn : l.length = n) (h : Own w base e 1 ci (.slice (some ⟨S, 0, none⟩) n c) l) (k : Nat) (u : Int) :
    Own (w.setCell ⟨S, k, none⟩ (.int .i64 u)) base e 1 ci (.slice (some ⟨S, 0, none⟩) n c) (l.set k u) := by
  subst hn
  have hs := World.ownsRow.stored h k (.int .i64 u)
  unfold Own
  rw [List.length_set]
  have e : fl 1 ci (l.set k u) = (fl 1 ci l).set k (.int .i64 u) := by
    rw [fl_map, fl_map, List.map_set]
    rfl
  rw [e]
  exact hs.1
theorem grown_set (w : World) (p : Addr) (u : Value) : w.grownBy (w.setCell p u) (some p.block) :=
  ⟨rfl, rfl, rfl, by simp [World.setCell], fun k _ hne => Below.heap_setCell _ _ _ _ (fun e => hne (by rw [e]))⟩
theorem grown_drew {a w : World} {row : Option Nat} (h : a.grownBy w row) : a.grownBy w.drew row := ⟨h.os, h.tape, h.output, h.size, h.block⟩
theorem grown_trans {a b c : World} {r : Option Nat} (h : a.grownBy b r) (k : b.grownBy c r) : a.grownBy c r :=
  ⟨k.os.trans h.os, k.tape.trans h.tape, k.output.trans h.output, Nat.le_trans h.size k.size, fun i hi hne => (k.block i (Nat.lt_of_lt_of_le hi h.size) hne).trans (h.block i hi hne)⟩

theorem own_at1 {w : World} {base : Nat} {e : TypeId} {S c n : Nat} {l : List Int} (hn : l.length = n) (h : Own w base e 1 ci (.slice (some ⟨S, 0, none⟩) n c) l) {k : Nat} (hk : k < n) :
    w.cell? ⟨S, k, none⟩ = some (.int .i64 (l.getD k 0)) ∧ w.frozen? ⟨S, k, none⟩ = false := by
  subst hn
  refine ⟨(World.ownsRow.cellAt h k (by omega)).trans ?_, World.ownsRow.frozenAt h k⟩
  rw [fl_map, List.getElem?_map, List.getElem?_eq_getElem hk, List.getD_eq_getElem?_getD, List.getElem?_eq_getElem hk]
  rfl
theorem own_form1 {w : World} {base : Nat} {e : TypeId} {A : Option Addr} {c n : Nat} {l : List Int} (hn : l.length = n) (h0 : 0 < n) (h : Own w base e 1 ci (.slice A n c) l) : ∃ S, A = some ⟨S, 0, none⟩ ∧ base ≤ S ∧ S < w.heap.size := by
  rcases h.2 with ⟨hv, h1⟩ | ⟨g', cap, cur, hv, hg, hh, hc, _⟩
  · omega
  · injection hv with hv _ _
    exact ⟨g', hv, hg, lt_of_block hh⟩
/-- k steps from both ends -/
def sw (l : List Int) (k : Nat) : List Int := (List.range l.length).map fun x => if x < k ∨ l.length ≤ x + k then l.getD (l.length - 1 - x) 0 else l.getD x 0
theorem sw_len (l : List Int) (k : Nat) : (sw l k).length = l.length := by simp [sw]
theorem sw_get {l : List Int} {k x : Nat} (h : x < (sw l k).length) : (sw l k)[x] = if x < k ∨ l.length ≤ x + k then l.getD (l.length - 1 - x) 0 else l.getD x 0 := by simp [sw]
theorem sw_zero (l : List Int) : sw l 0 = l := by
  refine List.ext_getElem (sw_len l 0) fun i h1 h2 => ?_
  rw [sw_get, if_neg (by omega)]
  simp [h2]
theorem sw_end {l : List Int} {k : Nat} (h : l.length ≤ 2 * k + 1) (h2 : 2 * k ≤ l.length + 1) : sw l k = l.reverse := by
  refine List.ext_getElem (by rw [sw_len, List.length_reverse]) fun i h1 h2 => ?_
  rw [sw_len] at h1
  rw [sw_get, List.getElem_reverse]
  split
  · rw [List.getD_eq_getElem?_getD, List.getElem?_eq_getElem (by omega)]; rfl
  · have : i = l.length - 1 - i := by omega
    rw [List.getD_eq_getElem?_getD, List.getElem?_eq_getElem (by omega)]
    simp only [Option.getD_some]
    congr 1
theorem sw_step {l : List Int} {k : Nat} (h : 2 * k + 1 < l.length) {x y : Int} (hx : x = l.getD k 0) (hy : y = l.getD (l.length - 1 - k) 0) : ((sw l k).set k y).set (l.length - 1 - k) x = sw l (k + 1) := by
  refine List.ext_getElem (by simp [sw_len]) fun i h1 h2 => ?_
  simp only [List.length_set, sw_len] at h1
  rw [sw_get, List.getElem_set, List.getElem_set]
  by_cases e1 : l.length - 1 - k = i
  · rw [if_pos e1, if_pos (by omega), hx]
    congr 1
    omega
  · rw [if_neg e1]
    by_cases e2 : k = i
    · rw [if_pos e2, if_pos (by omega), hy]
      congr 1
      omega
    · rw [if_neg e2, sw_get]
      by_cases e3 : i < k ∨ l.length ≤ i + k
      · rw [if_pos e3, if_pos (by omega)]
      · rw [if_neg e3, if_neg (by omega)]

/-- what Reverse leaves -/
def SomeRev (base : Nat) (e : TypeId) (v : Value) (l : List Int) (w w' : World) : Prop := Own w' base e 1 ci v l ∧ w.grownBy w' v.ownBlock

end Go.Proofs.Ytpoolpaagbeokaa.Std

namespace Go.Proofs.Ytpoolpaagbeokaa.Grid
open Go.RowKit Go.Proofs.Ytpoolpaagbeokaa GridLaw
set_option linter.unusedSimpArgs false
set_option linter.unusedVariables false
theorem made_list (n : Nat) : (madeCells #[.int .i64 0] n).toList = fl 1 ci (List.replicate n 0) := by
  rw [fl_map]
  refine List.ext_getElem (by simp [madeCells]) fun i h1 h2 => ?_
  simp [madeCells, ci, Nat.mod_one]
/-- a list that 'make' has laid -/
theorem own_made (n base : Nat) (w : World) (hb : base ≤ w.heap.size) (hn : n ≤ 64) {g : Nat} (hg : w.heap.size = g) : Own (w.alloc (.cells (madeCells #[.int .i64 0] n) 3)) base 3 1 ci (.slice (some ⟨g, 0, none⟩) n n) (List.replicate n 0) := by
  subst hg
  obtain ⟨i, hi, hzz⟩ := Option.map_eq_some_iff.1 (show (Try.prog.info? 3).map (fun i => (i.zero, i.size, i.bytes)) = some (some (.int .i64 0), 1, 8) by kernel_rfl)
  simp only [Prod.mk.injEq] at hzz
  obtain ⟨hz, hs, hby⟩ := hzz
  obtain ⟨w', hr, ho, _⟩ := run_make_full (P := Try.prog) w base 22 3 i (.int .i64 0) 1 Try.underlying22 hi hz hs .i64 .i64 n (by rw [hby]; omega) (by unfold maxLen; omega) hb
  rw [run_make_row' (P := Try.prog) 22 3 (.int .i64 0) 8 Try.underlying22 (by kernel_rfl) rfl .i64 .i64 n (by omega) (by omega)] at hr
  injection hr with _ hw
  subst hw
  unfold Own
  rw [List.length_replicate, ← made_list]
  have e : n * 1 = n := Nat.mul_one n
  rw [e] at ho
  exact ho
theorem own_tail {w : World} {base : Nat} {A : Option Addr} {n c : Nat} {l : List Int} (h : Own w base 3 1 ci (.slice A n c) l) : Sl w w.heap.size 1 ci A l := h.sl.2
end Go.Proofs.Ytpoolpaagbeokaa.Grid

namespace Go.Proofs.Ytpoolpaagbeokaa.Bell
open Go.RowKit Go.Proofs.Ytpoolpaagbeokaa NetLaw BellLaw Go.Proofs.Ytpoolpaagbeokaa.Net Go.Proofs.Ytpoolpaagbeokaa.Std
set_option linter.unusedSimpArgs false
set_option linter.unusedVariables false

/-- the rounds' memory -/
structure Rel (w : World) (S n cd : Nat) (A : Option Addr) (c : Nat) (m : Nat) (wr : World) (D P : List Int) : Prop where
  d : Own wr S 3 1 ci (.slice (some ⟨S, 0, none⟩) n cd) D
  p : Own wr (w.heap.size + 1) 3 1 ci (.slice (some ⟨w.heap.size + 1, 0, none⟩) n n) P
  dl : D.length = n
  pl : P.length = n
  b : wr.heap[w.heap.size]? = some (.cells #[.int .i64 n, .slice A m c] 52 (0, 0))
  lo : Below S w wr
  sz : w.heap.size + 2 ≤ wr.heap.size
section
variable {w wr : World} {S n cd c m : Nat} {A : Option Addr} {D P : List Int}
theorem Rel.alloc (h : Rel w S n cd A c m wr D P) (hS : S < w.heap.size) (o : Obj) : Rel w S n cd A c m (wr.alloc o) D P :=
  ⟨h.d.alloc o, h.p.alloc o, h.dl, h.pl, blk_alloc h.b o, h.lo.alloc (by have := h.sz; omega) o, by have := h.sz; simp; omega⟩
theorem Rel.drewN (h : Rel w S n cd A c m wr D P) (k : Nat) : Rel w S n cd A c m (wr.drewN k) D P :=
  ⟨h.d.drewN k, h.p.drewN k, h.dl, h.pl, h.b, below_drewN h.lo k, h.sz⟩
theorem Rel.setD (h : Rel w S n cd A c m wr D P) (hS : S < w.heap.size) (t : Nat) (x : Int) : Rel w S n cd A c m (wr.setCell ⟨S, t, none⟩ (.int .i64 x)) (D.set t x) P :=
  ⟨own_set1 h.dl h.d t x, h.p.setCell (by simp [Value.ownBlock]; omega) _, by simp [h.dl], h.pl, blk_far h.b (by dsimp only; omega) _, h.lo.setCell (Nat.le_refl _) _, by have := h.sz; simpa [World.setCell] using this⟩
theorem Rel.setP (h : Rel w S n cd A c m wr D P) (hS : S < w.heap.size) (t : Nat) (x : Int) : Rel w S n cd A c m (wr.setCell ⟨w.heap.size + 1, t, none⟩ (.int .i64 x)) D (P.set t x) :=
  ⟨h.d.setCell (by simp [Value.ownBlock]; omega) _, own_set1 h.pl h.p t x, h.dl, by simp [h.pl], blk_far h.b (by dsimp only; omega) _, h.lo.setCell (by dsimp only; omega) _, by have := h.sz; simpa [World.setCell] using this⟩
end
theorem fill_step (n k : Nat) (x z : Int) (h : k < n) : (List.replicate k x ++ List.replicate (n - k) z).set k x = List.replicate (k + 1) x ++ List.replicate (n - (k + 1)) z := by
  obtain ⟨m, rfl⟩ : ∃ m, n = k + 1 + m := ⟨n - (k + 1), by omega⟩
  rw [show k + 1 + m - k = m + 1 by omega, show k + 1 + m - (k + 1) = m by omega, List.replicate_succ, List.set_append_right _ _ (by simp)]
  simp [List.replicate_succ', List.append_assoc]
/-- no value below -C -/
def Lb (n : Nat) (D : List Int) (C : Int) : Prop := ∀ v, v < n → -C ≤ D.getD v 0
theorem Lb.more {n : Nat} {D : List Int} {C C' : Int} (h : Lb n D C) (hC : C ≤ C') : Lb n D C' := fun v hv => by have := h v hv; omega
theorem Lb.set {n : Nat} {D : List Int} {C : Int} (h : Lb n D C) (hl : D.length = n) {t : Nat} (ht : t < n) {x : Int} (hx : -C ≤ x) : Lb n (D.set t x) C := fun v hv => by
  rw [List.getD_eq_getElem?_getD]
  by_cases e : t = v
  · subst e; rw [List.getElem?_set_self (by omega)]; exact hx
  · rw [List.getElem?_set_ne e]; have := h v hv; rwa [List.getD_eq_getElem?_getD] at this
theorem take_foldl {l : List E} {k : Nat} (h : k < l.length) (s : St) : (l.take (k + 1)).foldl rx s = rx ((l.take k).foldl rx s) l[k] := by
  rw [List.take_succ_eq_append_getElem h, List.foldl_append]; rfl

/-- where all starts -/
def start (n fr : Nat) : List Int := (List.replicate n far).set fr 0
theorem start_len (n fr : Nat) : (start n fr).length = n := by simp [start]
theorem start_lb (n fr : Nat) (h : fr < n) : Lb n (start n fr) 1000000000000 := by
  refine Lb.set (fun v hv => ?_) (by simp) h (by decide)
  rw [List.getD_eq_getElem?_getD, List.getElem?_replicate, if_pos hv]
  simp [far]
/-- what Relax answers -/
def rl (n : Nat) (l : List E) (fr : Nat) : St := relax l n (start n fr, List.replicate n (-1), -1)
/-- the fault that Dist tells -/
def derr (N : Int) (l : List E) (fr : Int) : Int := if chk N l ≠ 0 then chk N l else if fr < 0 ∨ N ≤ fr then 1 else if 0 ≤ (rl N.toNat l fr.toNat).2.2 then 6 else 0
/-- what Dist answers -/
def DistSays (N : Int) (l : List E) (fr : Int) (w : World) (e : Ending) (w' : World) : Prop :=
  (derr N l fr ≠ 0 → e = .returned (.tuple #[.slice none 0 0, .int .i64 (derr N l fr)])) ∧
  (derr N l fr = 0 → ∃ S, w.heap.size ≤ S ∧ e = .returned (.tuple #[.slice (some ⟨S, 0, none⟩) N.toNat N.toNat, .int .i64 0]) ∧ Own w' w.heap.size 3 1 ci (.slice (some ⟨S, 0, none⟩) N.toNat N.toNat) (rl N.toNat l fr.toNat).1 ∧ (rl N.toNat l fr.toNat).1.length = N.toNat) ∧ Below w.heap.size w w'

end Go.Proofs.Ytpoolpaagbeokaa.Bell
