/- Rows of the call's own: one cell of an element is set. -/
import Derived.Test.YtpoolpaagbeokaaVSlice
namespace Go.Proofs.Ytpoolpaagbeokaa
open Go.RowKit
set_option linter.unusedSimpArgs false
set_option linter.unusedVariables false
theorem fl_set {α : Type} {sz : Nat} {cell : α → Nat → Value} (l : List α) (k j0 : Nat) (a' : α) (hk : k < l.length) (hj : j0 < sz) (h : ∀ j, j < sz → j ≠ j0 → cell a' j = cell l[k] j) : fl sz cell (l.set k a') = (fl sz cell l).set (k * sz + j0) (cell a' j0) := by
  induction l generalizing k with
  | nil => simp at hk
  | cons a r ih =>
    have e1 : fl sz cell (a :: r) = (List.range sz).map (cell a) ++ fl sz cell r := rfl
    match k, hk with
    | 0, _ =>
      have e2 : fl sz cell ((a :: r).set 0 a') = (List.range sz).map (cell a') ++ fl sz cell r := rfl
      rw [e2, e1, Nat.zero_mul, Nat.zero_add, List.set_append_left _ _ (by simpa using hj)]
      congr 1
      refine List.ext_getElem (by simp) fun i h1 h2 => ?_
      simp only [List.length_map, List.length_range] at h1
      rw [List.getElem_set]
      by_cases e : j0 = i
      · subst e; simp
      · rw [if_neg e]
        simp only [List.getElem_map, List.getElem_range]
        exact h i h1 (fun x => e x.symm)
    | k + 1, hk =>
      have e2 : fl sz cell ((a :: r).set (k + 1) a') = (List.range sz).map (cell a) ++ fl sz cell (r.set k a') := rfl
      have e3 : (k + 1) * sz + j0 - sz = k * sz + j0 := by rw [Nat.succ_mul]; omega
      rw [e2, e1, List.set_append_right _ _ (by simp; rw [Nat.succ_mul]; omega), ih k (by simpa using hk) (fun j hj hne => h j hj hne)]
      simp [e3]
theorem own_setj {α : Type} {sz : Nat} {cell : α → Nat → Value} {w : World} {base : Nat} {e : TypeId} {S c n : Nat} {l : List α} (hn : l.length = n) (h : Own w base e sz cell (.slice (some ⟨S, 0, none⟩) n c) l) (k j0 : Nat) (a' : α) (hk : k < l.length) (hj : j0 < sz) (hc : ∀ j, j < sz → j ≠ j0 → cell a' j = cell l[k] j) :
    Own (w.setCell ⟨S, k * sz + j0, none⟩ (cell a' j0)) base e sz cell (.slice (some ⟨S, 0, none⟩) n c) (l.set k a') := by
  subst hn
  have hs := World.ownsRow.stored h (k * sz + j0) (cell a' j0)
  unfold Own
  rw [List.length_set, fl_set l k j0 a' hk hj hc]
  exact hs.1
/-- an element of an own row, in the walk's spelling -/
theorem own_atE {w : World} {base : Nat} {e : TypeId} {A : Option Addr} {n c : Nat} {l : List (Int × Int × Int)} (hn : l.length = n) (h : Own w base e 3 ce (.slice A n c) l) {k : Nat} (hk : k < l.length) :
    ∃ S f t co, A = some ⟨S, 0, none⟩ ∧ base ≤ S ∧ S < w.heap.size ∧ l[k] = (f, t, co) ∧ w.cell? ⟨S, k * 3, none⟩ = some (.int .i64 f) ∧ w.cell? ⟨S, k * 3 + 1, none⟩ = some (.int .i64 t) ∧ w.cell? ⟨S, k * 3 + 2, none⟩ = some (.int .i64 co) ∧ w.frozen? ⟨S, k * 3, none⟩ = false ∧ w.frozen? ⟨S, k * 3 + 1, none⟩ = false ∧ w.frozen? ⟨S, k * 3 + 2, none⟩ = false := by
  subst hn
  obtain ⟨S, c', hv, hb, hS, _, hc⟩ := h.some_ (by omega)
  injection hv with hv _ _
  exact ⟨S, _, _, _, hv, hb, hS, rfl, (hc k hk 0 (by omega)).1, (hc k hk 1 (by omega)).1, (hc k hk 2 (by omega)).1, (hc k hk 0 (by omega)).2, (hc k hk 1 (by omega)).2, (hc k hk 2 (by omega)).2⟩
/-- a literal's new block is a row of the call's own -/
theorem own_new' {α : Type} {sz : Nat} {cell : α → Nat → Value} (w : World) (cs : Array Value) (e : TypeId) {l : List α} {g n base : Nat} (hg : w.heap.size = g) (hn : l.length = n) (hb : base ≤ w.heap.size) (hm : n ≤ 1000000) (h : cs.toList = fl sz cell l) :
    Own (w.alloc (.cells cs e)) base e sz cell (.slice (some ⟨g, 0, none⟩) n n) l := by
  subst hg hn
  have k := World.ownsRow_lit (base := base) (e := e) (size := sz) w cs l.length hb (by unfold maxLen; omega) (by rw [← Array.length_toList, h, fl_len])
  unfold Own
  rw [← h]
  exact k
end Go.Proofs.Ytpoolpaagbeokaa
