/- Go's slices.Reverse at []int, on a row of the caller's own. -/
import Derived.Test.YtjhnlkmdkjlkdaaSlice
import Derived.BigRegion
namespace Go.Proofs.Ytjhnlkmdkjlkdaa.Std
open Go.RowKit Go.Proofs.Ytjhnlkmdkjlkdaa
set_option linter.unusedSimpArgs false
set_option linter.unusedVariables false

theorem own_set1 {w : World} {base : Nat} {e : TypeId} {S c n : Nat} {l : List Int} (hn : l.length = n) (h : Own w base e 1 ci (.slice (some ⟨S, 0, none⟩) n c) l) (k : Nat) (u : Int) :
    Own (w.setCell ⟨S, k, none⟩ (.int .i64 u)) base e 1 ci (.slice (some ⟨S, 0, none⟩) n c) (l.set k u) := by
  subst hn
  have hs := World.ownsRow.stored h k (.int .i64 u)
  unfold Own
  rw [List.length_set]
  have e : fl 1 ci (l.set k u) = (fl 1 ci l).set k (.int .i64 u) := by
    rw [fl_map, fl_map, List.map_set]
    rfl
  rw [e]
  exact hs.1
theorem grown_set (w : World) (p : Addr) (u : Value) : w.grownBy (w.setCell p u) (some p.block) :=
  ⟨rfl, rfl, rfl, by simp [World.setCell], fun k _ hne => Below.heap_setCell _ _ _ _ (fun e => hne (by rw [e]))⟩
theorem grown_drew {a w : World} {row : Option Nat} (h : a.grownBy w row) : a.grownBy w.drew row := ⟨h.os, h.tape, h.output, h.size, h.block⟩
theorem grown_trans {a b c : World} {r : Option Nat} (h : a.grownBy b r) (k : b.grownBy c r) : a.grownBy c r :=
  ⟨k.os.trans h.os, k.tape.trans h.tape, k.output.trans h.output, Nat.le_trans h.size k.size, fun i hi hne => (k.block i (Nat.lt_of_lt_of_le hi h.size) hne).trans (h.block i hi hne)⟩

theorem own_at1 {w : World} {base : Nat} {e : TypeId} {S c n : Nat} {l : List Int} (hn : l.length = n) (h : Own w base e 1 ci (.slice (some ⟨S, 0, none⟩) n c) l) {k : Nat} (hk : k < n) :
    w.cell? ⟨S, k, none⟩ = some (.int .i64 (l.getD k 0)) ∧ w.frozen? ⟨S, k, none⟩ = false := by
  subst hn
  refine ⟨(World.ownsRow.cellAt h k (by omega)).trans ?_, World.ownsRow.frozenAt h k⟩
  rw [fl_map, List.getElem?_map, List.getElem?_eq_getElem hk, List.getD_eq_getElem?_getD, List.getElem?_eq_getElem hk]
  rfl
theorem own_form1 {w : World} {base : Nat} {e : TypeId} {A : Option Addr} {c n : Nat} {l : List Int} (hn : l.length = n) (h0 : 0 < n) (h : Own w base e 1 ci (.slice A n c) l) : ∃ S, A = some ⟨S, 0, none⟩ ∧ base ≤ S ∧ S < w.heap.size := by
  rcases h.2 with ⟨hv, h1⟩ | ⟨g', cap, cur, hv, hg, hh, hc, _⟩
  · omega
  · injection hv with hv _ _
    exact ⟨g', hv, hg, lt_of_block hh⟩
/-- k steps from both ends -/
def sw (l : List Int) (k : Nat) : List Int := (List.range l.length).map fun x => if x < k ∨ l.length ≤ x + k then l.getD (l.length - 1 - x) 0 else l.getD x 0
theorem sw_len (l : List Int) (k : Nat) : (sw l k).length = l.length := by simp [sw]
theorem sw_get {l : List Int} {k x : Nat} (h : x < (sw l k).length) : (sw l k)[x] = if x < k ∨ l.length ≤ x + k then l.getD (l.length - 1 - x) 0 else l.getD x 0 := by simp [sw]
theorem sw_zero (l : List Int) : sw l 0 = l := by
  refine List.ext_getElem (sw_len l 0) fun i h1 h2 => ?_
  rw [sw_get, if_neg (by omega)]
  simp [h2]
theorem sw_end {l : List Int} {k : Nat} (h : l.length ≤ 2 * k + 1) (h2 : 2 * k ≤ l.length + 1) : sw l k = l.reverse := by
  refine List.ext_getElem (by rw [sw_len, List.length_reverse]) fun i h1 h2 => ?_
  rw [sw_len] at h1
  rw [sw_get, List.getElem_reverse]
  split
  · rw [List.getD_eq_getElem?_getD, List.getElem?_eq_getElem (by omega)]; rfl
  · have : i = l.length - 1 - i := by omega
    rw [List.getD_eq_getElem?_getD, List.getElem?_eq_getElem (by omega)]
    simp only [Option.getD_some]
    congr 1
theorem sw_step {l : List Int} {k : Nat} (h : 2 * k + 1 < l.length) {x y : Int} (hx : x = l.getD k 0) (hy : y = l.getD (l.length - 1 - k) 0) : ((sw l k).set k y).set (l.length - 1 - k) x = sw l (k + 1) := by
  refine List.ext_getElem (by simp [sw_len]) fun i h1 h2 => ?_
  simp only [List.length_set, sw_len] at h1
  rw [sw_get, List.getElem_set, List.getElem_set]
  by_cases e1 : l.length - 1 - k = i
  · rw [if_pos e1, if_pos (by omega), hx]
    congr 1
    omega
  · rw [if_neg e1]
    by_cases e2 : k = i
    · rw [if_pos e2, if_pos (by omega), hy]
      congr 1
      omega
    · rw [if_neg e2, sw_get]
      by_cases e3 : i < k ∨ l.length ≤ i + k
      · rw [if_pos e3, if_pos (by omega)]
      · rw [if_neg e3, if_neg (by omega)]

/-- what Reverse leaves -/
def SomeRev (base : Nat) (e : TypeId) (v : Value) (l : List Int) (w w' : World) : Prop := Own w' base e 1 ci v l ∧ w.grownBy w' v.ownBlock

end Go.Proofs.Ytjhnlkmdkjlkdaa.Std
