/- Plain facts on taking walks off what flows: no Go in sight. -/
/- Plain: two carries and two follows. -/
/- Go's slices.Reverse at []int, on a row of the caller's own. -/
/- The walk of GridTurns' closure: a place turned over. -/
import Derived.Test.YtjebckehmmbkbaaVTwinBel
import Derived.Test.YtjebckehmmbkbaaVSlice
import Derived.BigRegion
import Derived.Test.YtjebckehmmbkbaaVGridTurnsLaw
import Derived.Deep.OwnRows
namespace Go.Proofs.Ytjebckehmmbkbaa.TwinLaw
open NetLaw BellLaw FlowLaw
open Go.Proofs.Ytjebckehmmbkbaa.Net (tl)
set_option linter.unusedSimpArgs false
set_option linter.unusedVariables false
/-- a walk from s is at a place: what is left of v ways -/
structure Fol (l : List E) (s t : Int) (v : Int) (u0 u : List Bool) (at' co : Int) : Prop where
  len : u.length = l.length
  cons : ∀ φ : Int → Int, Wb l u φ = (v - 1) * (φ s - φ t) + (φ at' - φ t)
  sub : ∀ i, ub u i = true → ub u0 i = true
  cost : co + cst l u = cst l u0
section
variable {l : List E} {s t v at' co : Int} {u0 u : List Bool}
theorem Fol.start (h : BF l s t u v) : Fol l s t v u u s 0 := ⟨h.len, fun φ => by rw [h.cons, Int.sub_mul]; omega, fun _ h => h, by omega⟩
theorem Fol.next (h : Fol l s t v u0 u at' co) (hv : 1 ≤ v) (hne : at' ≠ t) : ∃ i, i < l.length ∧ ub u i = true ∧ fr l i = at' := by
  have h1 := h.cons fun x => if x = at' then 1 else 0
  simp only [if_true, if_neg (fun e : t = at' => hne e.symm)] at h1
  have h2 : 0 ≤ (v - 1) * ((if s = at' then (1 : Int) else 0) - 0) := Int.mul_nonneg (by omega) (by split <;> omega)
  obtain ⟨i, hi, hp⟩ := rsum_pos l.length (show 0 < Wb l u (fun x => if x = at' then 1 else 0) by omega)
  refine ⟨i, hi, ?_⟩
  cases hb : ub u i with
  | false => rw [hb] at hp; simp at hp
  | true =>
    rw [hb] at hp
    simp only [if_true] at hp
    refine ⟨rfl, ?_⟩
    refine Classical.byContradiction fun hc => ?_
    rw [if_neg hc] at hp
    split at hp <;> omega
theorem cst_off {i : Nat} (hi : i < l.length) (hl : u.length = l.length) (hb : ub u i = true) : cst l (u.set i false) = cst l u - cpt l i := by
  unfold cst
  rw [rsum_upd (f := fun i => if ub u i = true then cpt l i else 0) l.length i hi fun j _ hj => by rw [ub_set (by omega), if_neg hj]]
  rw [ub_set (by omega), if_pos rfl, hb]
  simp
  omega
theorem Wb_off {i : Nat} (hi : i < l.length) (hl : u.length = l.length) (hb : ub u i = true) (φ : Int → Int) : Wb l (u.set i false) φ = Wb l u φ - (φ (fr l i) - φ (en l i)) := by
  unfold Wb
  rw [rsum_upd (f := fun i => if ub u i = true then φ (fr l i) - φ (en l i) else 0) l.length i hi fun j _ hj => by rw [ub_set (by omega), if_neg hj]]
  rw [ub_set (by omega), if_pos rfl, hb]
  simp
  omega
theorem Fol.step (h : Fol l s t v u0 u at' co) {i : Nat} (hi : i < l.length) (hb : ub u i = true) (hf : fr l i = at') : Fol l s t v u0 (u.set i false) (en l i) (co + cpt l i) := by
  refine ⟨by rw [List.length_set]; exact h.len, fun φ => ?_, fun j hj => ?_, ?_⟩
  · rw [Wb_off hi h.len hb, h.cons, hf]; omega
  · rw [ub_set (by rw [h.len]; exact hi)] at hj
    split at hj
    · cases hj
    · exact h.sub j hj
  · rw [cst_off hi h.len hb]
    have := h.cost
    omega
theorem Fol.done (h : Fol l s t v u0 u t co) : BF l s t u (v - 1) := ⟨h.len, fun φ => by rw [h.cons]; omega⟩
theorem cst_nonneg (hc : ∀ e ∈ l, 1 ≤ e.2.2 ∧ e.2.2 ≤ 10000) (u : List Bool) : 0 ≤ cst l u ∧ cst l u ≤ 10000 * l.length := by
  have key : ∀ k, k ≤ l.length → 0 ≤ rsum k (fun i => if ub u i = true then cpt l i else 0) ∧ rsum k (fun i => if ub u i = true then cpt l i else 0) ≤ 10000 * k := by
    intro k
    induction k with
    | zero => intro _; exact ⟨Int.le_refl _, Int.le_refl _⟩
    | succ k ih =>
      intro hk
      obtain ⟨a, b⟩ := ih (by omega)
      have := hc _ (ed_mem (show k < l.length by omega))
      rw [rsum]
      unfold cpt
      unfold cpt at a b
      split <;> omega
  exact key l.length (Nat.le_refl _)
/-- one set of edges without another within it -/
def off (u r : List Bool) : List Bool := (List.range u.length).map fun i => ub u i && !ub r i
theorem off_ub (u r : List Bool) (i : Nat) : ub (off u r) i = (ub u i && !ub r i) := by
  by_cases hi : i < u.length
  · unfold ub off
    rw [List.getD_eq_getElem?_getD, List.getElem?_map, List.getElem?_range hi]
    rfl
  · have h1 : ub u i = false := by unfold ub; rw [List.getD_eq_getElem?_getD, List.getElem?_eq_none (by omega)]; rfl
    have h2 : ub (off u r) i = false := by unfold ub off; rw [List.getD_eq_getElem?_getD, List.getElem?_eq_none (by simp; omega)]; rfl
    rw [h1, h2]; rfl
/-- what no walk took costs nothing, where all cost least -/
theorem rest_zero {r : List Bool} {w : Int} (hc : ∀ e ∈ l, 1 ≤ e.2.2 ∧ e.2.2 ≤ 10000) (hu : BF l s t u w) (hr : BF l s t r 0) (hs : ∀ i, ub r i = true → ub u i = true) (hmin : ∀ u', BF l s t u' w → cst l u ≤ cst l u') : cst l r = 0 := by
  have e1 : ∀ φ, Wb l u φ = Wb l (off u r) φ + Wb l r φ := fun φ => rsum_add _ fun i _ => by
    rw [off_ub]
    cases h1 : ub r i with
    | true => rw [hs i h1]; simp
    | false => cases ub u i <;> simp
  have e2 : cst l u = cst l (off u r) + cst l r := rsum_add _ fun i _ => by
    rw [off_ub]
    cases h1 : ub r i with
    | true => rw [hs i h1]; simp
    | false => cases ub u i <;> simp
  have h := hmin (off u r) ⟨by unfold off; simp; exact hu.len, fun φ => by
    have h1 := e1 φ
    rw [hu.cons, hr.cons] at h1
    omega⟩
  have := (cst_nonneg hc r).1
  omega
end
/-- two ways at once, at the least cost -/
structure Two (l : List E) (s t : Int) (co : Int) : Prop where
  is : ∃ u, BF l s t u 2 ∧ cst l u = co
  least : ∀ u, BF l s t u 2 → co ≤ cst l u
theorem Two.turn {l : List E} {s t a b : Int} (h : Two l s t a) (h' : Two (tl l) t s b) : a = b := by
  obtain ⟨u, hu, he⟩ := h.is
  obtain ⟨u', hu', he'⟩ := h'.is
  have h1 := h'.least u hu.turn
  rw [cst_turn, he] at h1
  have h2 : BF l s t u' 2 := by
    have := hu'.turn
    rwa [FlowLaw.tl_tl] at this
  have h3 := h.least u' h2
  rw [← cst_turn, he'] at h3
  omega
end Go.Proofs.Ytjebckehmmbkbaa.TwinLaw

namespace Go.Proofs.Ytjebckehmmbkbaa.TwinLaw
open NetLaw BellLaw FlowLaw
open Go.Proofs.Ytjebckehmmbkbaa.Net (tl)
set_option linter.unusedSimpArgs false
set_option linter.unusedVariables false
section
variable {n : Nat} {l : List E} {s t : Int} {D P : List Int} {ks : List Nat}
abbrev u00 (l : List E) : List Bool := List.replicate l.length false
theorem hp_first (hg : NetLaw.Good n l) (hc : ∀ e ∈ l, 1 ≤ e.2.2) (s0 : 0 ≤ s) (s1 : s < n) : Hp0 n l (u00 l) s (fun _ => 0) :=
  ⟨Slk.zero fun e he => by have := hc e he; omega, rfl, fun _ _ _ => ⟨Int.le_refl _, by decide⟩, s0, s1, by have := hg.hi; omega, hg.ends, fun e he => ⟨hc e he, (hg.cost e he).2⟩⟩
theorem first_no (h : TB n l (u00 l) s (fun _ => 0) D P) (h0 : Hp0 n l (u00 l) s (fun _ => 0)) (hf : Fin l (u00 l) D) (t0 : 0 ≤ t) (t1 : t < n) (ht : dg D t = far) : ¬ ∃ u, BF l s t u 2 := fun ⟨u, hu⟩ => by
  have := h.none h0 hf t0 t1 ht (BF.zero l s t) hu
  omega
/-- what the first carry leaves -/
structure One (n : Nat) (l : List E) (s t : Int) (u : List Bool) (π : Int → Int) : Prop where
  bf : BF l s t u 1
  hp : Hp0 n l u s π
  bk : Bk l u t
theorem first_yes (h : TB n l (u00 l) s (fun _ => 0) D P) (h0 : Hp0 n l (u00 l) s (fun _ => 0)) (hf : Fin l (u00 l) D) (t0 : 0 ≤ t) (t1 : t < n) (ht : dg D t < far) (hc : Chn l (u00 l) P s t ks) : One n l s t (flips (u00 l) ks) (dg D) :=
  ⟨by have := (BF.zero l s t).push hc; simpa using this, h.next h0 hf t0 t1 ht (by simp) hc (fun i _ hu => by rw [ub_rep] at hu; cases hu), Bk.first hc⟩
theorem second_no {u : List Bool} {π : Int → Int} (ho : One n l s t u π) (h : TB n l u s π D P) (hf : Fin l u D) (t0 : 0 ≤ t) (t1 : t < n) (ht : dg D t = far) : ¬ ∃ u, BF l s t u 2 := fun ⟨u', hu⟩ => by
  have := h.none ho.hp hf t0 t1 ht ho.bf hu
  omega
theorem second_yes {u : List Bool} {π : Int → Int} (ho : One n l s t u π) (h : TB n l u s π D P) (hf : Fin l u D) (t0 : 0 ≤ t) (t1 : t < n) (ht : dg D t < far) (hc : Chn l u P s t ks) :
    BF l s t (flips u ks) 2 ∧ ∀ u', BF l s t u' 2 → cst l (flips u ks) ≤ cst l u' := by
  have h1 := h.next ho.hp hf t0 t1 ht ho.bf.len hc (h.used ho.hp hf ho.bk t0 t1 ht)
  have h2 : BF l s t (flips u ks) 2 := by have := ho.bf.push hc; simpa using this
  exact ⟨h2, fun u' hu' => h1.slk.least h2 hu'⟩
theorem two_done {u2 u3 u4 : List Bool} {a b : Int} (hc : ∀ e ∈ l, 1 ≤ e.2.2 ∧ e.2.2 ≤ 10000) (h2 : BF l s t u2 2) (hm : ∀ u', BF l s t u' 2 → cst l u2 ≤ cst l u') (f1 : Fol l s t 2 u2 u3 t a) (f2 : Fol l s t 1 u3 u4 t b) : Two l s t (a + b) := by
  have h4 : BF l s t u4 0 := by have := f2.done; simpa using this
  have hz := rest_zero hc h2 h4 (fun i hi => f1.sub i (f2.sub i hi)) hm
  have e1 := f1.cost
  have e2 := f2.cost
  have e : a + b = cst l u2 := by omega
  exact ⟨⟨u2, h2, e.symm⟩, fun u hu => by rw [e]; exact hm u hu⟩
theorem fol_one {u2 u3 : List Bool} {a : Int} (f1 : Fol l s t 2 u2 u3 t a) : BF l s t u3 1 := by have := f1.done; simpa using this
end
end Go.Proofs.Ytjebckehmmbkbaa.TwinLaw

namespace Go.Proofs.Ytjebckehmmbkbaa.Std
open Go.RowKit Go.Proofs.Ytjebckehmmbkbaa
set_option linter.unusedSimpArgs false
set_option linter.unusedVariables false

theorem own_set1 {w : World} {base : Nat} {e : TypeId} {S c n : Nat} {l : List Int} (hn : l.length = n) (h : Own w base e 1 ci (.slice (some ⟨S, 0, none⟩) n c) l) (k : Nat) (u : Int) :
    Own (w.setCell ⟨S, k, none⟩ (.int .i64 u)) base e 1 ci (.slice (some ⟨S, 0, none⟩) n c) (l.set k u) := by
  subst hn
  have hs := World.ownsRow.stored h k (.int .i64 u)
  unfold Own
  rw [List.length_set]
  have e : fl 1 ci (l.set k u) = (fl 1 ci l).set k (.int .i64 u) := by
    rw [fl_map, fl_map, List.map_set]
    rfl
  rw [e]
  exact hs.1
theorem grown_set (w : World) (p : Addr) (u : Value) : w.grownBy (w.setCell p u) (some p.block) :=
  ⟨rfl, rfl, rfl, by simp [World.setCell], fun k _ hne => Below.heap_setCell _ _ _ _ (fun e => hne (by rw [e]))⟩
theorem grown_drew {a w : World} {row : Option Nat} (h : a.grownBy w row) : a.grownBy w.drew row := ⟨h.os, h.tape, h.output, h.size, h.block⟩
theorem grown_trans {a b c : World} {r : Option Nat} (h : a.grownBy b r) (k : b.grownBy c r) : a.grownBy c r :=
  ⟨k.os.trans h.os, k.tape.trans h.tape, k.output.trans h.output, Nat.le_trans h.size k.size, fun i hi hne => (k.block i (Nat.lt_of_lt_of_le hi h.size) hne).trans (h.block i hi hne)⟩

theorem own_at1 {w : World} {base : Nat} {e : TypeId} {S c n : Nat} {l : List Int} (hn : l.length = n) (h : Own w base e 1 ci (.slice (some ⟨S, 0, none⟩) n c) l) {k : Nat} (hk : k < n) :
    w.cell? ⟨S, k, none⟩ = some (.int .i64 (l.getD k 0)) ∧ w.frozen? ⟨S, k, none⟩ = false := by
  subst hn
  refine ⟨(World.ownsRow.cellAt h k (by omega)).trans ?_, World.ownsRow.frozenAt h k⟩
  rw [fl_map, List.getElem?_map, List.getElem?_eq_getElem hk, List.getD_eq_getElem?_getD, List.getElem?_eq_getElem hk]
  rfl
theorem own_form1 {w : World} {base : Nat} {e : TypeId} {A : Option Addr} {c n : Nat} {l : List Int} (hn : l.length = n) (h0 : 0 < n) (h : Own w base e 1 ci (.slice A n c) l) : ∃ S, A = some ⟨S, 0, none⟩ ∧ base ≤ S ∧ S < w.heap.size := by
  rcases h.2 with ⟨hv, h1⟩ | ⟨g', cap, cur, hv, hg, hh, hc, _⟩
  · omega
  · injection hv with hv _ _
    exact ⟨g', hv, hg, lt_of_block hh⟩
/-- k steps from both ends -/
def sw (l : List Int) (k : Nat) : List Int := (List.range l.length).map fun x => if x < k ∨ l.length ≤ x + k then l.getD (l.length - 1 - x) 0 else l.getD x 0
theorem sw_len (l : List Int) (k : Nat) : (sw l k).length = l.length := by simp [sw]
theorem sw_get {l : List Int} {k x : Nat} (h : x < (sw l k).length) : (sw l k)[x] = if x < k ∨ l.length ≤ x + k then l.getD (l.length - 1 - x) 0 else l.getD x 0 := by simp [sw]
theorem sw_zero (l : List Int) : sw l 0 = l := by
  refine List.ext_getElem (sw_len l 0) fun i h1 h2 => ?_
  rw [sw_get, if_neg (by omega)]
  simp [h2]
theorem sw_end {l : List Int} {k : Nat} (h : l.length ≤ 2 * k + 1) (h2 : 2 * k ≤ l.length + 1) : sw l k = l.reverse := by
  refine List.ext_getElem (by rw [sw_len, List.length_reverse]) fun i h1 h2 => ?_
  rw [sw_len] at h1
  rw [sw_get, List.getElem_reverse]
  split
  · rw [List.getD_eq_getElem?_getD, List.getElem?_eq_getElem (by omega)]; rfl
  · have : i = l.length - 1 - i := by omega
    rw [List.getD_eq_getElem?_getD, List.getElem?_eq_getElem (by omega)]
    simp only [Option.getD_some]
    congr 1
theorem sw_step {l : List Int} {k : Nat} (h : 2 * k + 1 < l.length) {x y : Int} (hx : x = l.getD k 0) (hy : y = l.getD (l.length - 1 - k) 0) : ((sw l k).set k y).set (l.length - 1 - k) x = sw l (k + 1) := by
  refine List.ext_getElem (by simp [sw_len]) fun i h1 h2 => ?_
  simp only [List.length_set, sw_len] at h1
  rw [sw_get, List.getElem_set, List.getElem_set]
  by_cases e1 : l.length - 1 - k = i
  · rw [if_pos e1, if_pos (by omega), hx]
    congr 1
    omega
  · rw [if_neg e1]
    by_cases e2 : k = i
    · rw [if_pos e2, if_pos (by omega), hy]
      congr 1
      omega
    · rw [if_neg e2, sw_get]
      by_cases e3 : i < k ∨ l.length ≤ i + k
      · rw [if_pos e3, if_pos (by omega)]
      · rw [if_neg e3, if_neg (by omega)]

/-- what Reverse leaves -/
def SomeRev (base : Nat) (e : TypeId) (v : Value) (l : List Int) (w w' : World) : Prop := Own w' base e 1 ci v l ∧ w.grownBy w' v.ownBlock

end Go.Proofs.Ytjebckehmmbkbaa.Std

namespace Go.Proofs.Ytjebckehmmbkbaa.Grid
open Go.RowKit Go.Proofs.Ytjebckehmmbkbaa GridLaw
set_option linter.unusedSimpArgs false
set_option linter.unusedVariables false
theorem made_list (n : Nat) : (madeCells #[.int .i64 0] n).toList = fl 1 ci (List.replicate n 0) := by
  rw [fl_map]
  refine List.ext_getElem (by simp [madeCells]) fun i h1 h2 => ?_
  simp [madeCells, ci, Nat.mod_one]
/-- a list that 'make' has laid -/
theorem own_made (n base : Nat) (w : World) (hb : base ≤ w.heap.size) (hn : n ≤ 64) {g : Nat} (hg : w.heap.size = g) : Own (w.alloc (.cells (madeCells #[.int .i64 0] n) 3)) base 3 1 ci (.slice (some ⟨g, 0, none⟩) n n) (List.replicate n 0) := by
  subst hg
  obtain ⟨i, hi, hzz⟩ := Option.map_eq_some_iff.1 (show (Try.prog.info? 3).map (fun i => (i.zero, i.size, i.bytes)) = some (some (.int .i64 0), 1, 8) by kernel_rfl)
  simp only [Prod.mk.injEq] at hzz
  obtain ⟨hz, hs, hby⟩ := hzz
  obtain ⟨w', hr, ho, _⟩ := run_make_full (P := Try.prog) w base 29 3 i (.int .i64 0) 1 Try.underlying29 hi hz hs .i64 .i64 n (by rw [hby]; omega) (by unfold maxLen; omega) hb
  rw [run_make_row' (P := Try.prog) 29 3 (.int .i64 0) 8 Try.underlying29 (by kernel_rfl) rfl .i64 .i64 n (by omega) (by omega)] at hr
  injection hr with _ hw
  subst hw
  unfold Own
  rw [List.length_replicate, ← made_list]
  have e : n * 1 = n := Nat.mul_one n
  rw [e] at ho
  exact ho
theorem own_tail {w : World} {base : Nat} {A : Option Addr} {n c : Nat} {l : List Int} (h : Own w base 3 1 ci (.slice A n c) l) : Sl w w.heap.size 1 ci A l := h.sl.2
end Go.Proofs.Ytjebckehmmbkbaa.Grid
