/- The memory of heur.Marks: two tables of costs. -/
import Derived.Test.YtdpjbjgecmnmnaaHeurWalks
import Derived.Test.YtdpjbjgecmnmnaaDijkTurnsLaw
import Derived.Test.YtdpjbjgecmnmnaaSink
namespace Go.Proofs.Ytdpjbjgecmnmnaa.Heur
open Go.RowKit Go.Proofs.Ytdpjbjgecmnmnaa NetLaw BellLaw DijkLaw HeurLaw Go.Proofs.Ytdpjbjgecmnmnaa.Net Go.Proofs.Ytdpjbjgecmnmnaa.Dijk Go.Proofs.Ytdpjbjgecmnmnaa.Std
set_option linter.unusedSimpArgs false
set_option linter.unusedVariables false
def ob (A : Option Addr) : Option Nat := (Value.slice A 0 0).ownBlock
theorem ob_eq (A : Option Addr) (n c : Nat) : (Value.slice A n c).ownBlock = ob A := by cases A <;> rfl
/-- a row's value, by its block -/
def cr (n : Nat) (S : Nat) (_ : Nat) : Value := .slice (some ⟨S, 0, none⟩) n n
theorem one_cr (n S j : Nat) : (cr n S j).oneCell' = true := rfl
theorem infoRow : (Try.prog.info? 25).map (fun i => (i.zero, i.size, i.bytes)) = some (some (.slice none 0 0), 1, 24) := by kernel_rfl
/-- a table: where its rows lie, and what they read as -/
structure Tb (w : World) (base n : Nat) (A : Option Addr) (m c : Nat) (R : List Nat) (Ds : List (List Int)) : Prop where
  own : Own w base 25 1 (cr n) (.slice A m c) R
  len : R.length = m
  dlen : Ds.length = m
  row : ∀ i, i < m → Own w base 3 1 ci (.slice (some ⟨R.getD i 0, 0, none⟩) n n) (Ds.getD i []) ∧ (Ds.getD i []).length = n
section
variable {w w' : World} {base n m c c' : Nat} {A A' : Option Addr} {R : List Nat} {Ds : List (List Int)}
theorem Tb.nil (w : World) (base n : Nat) : Tb w base n none 0 0 [] [] := ⟨Own.nil_, rfl, rfl, fun i h => absurd h (Nat.not_lt_zero _)⟩
theorem Tb.keep (h : Tb w base n A m c R Ds) (hb : Below w.heap.size w w') : Tb w' base n A m c R Ds := ⟨h.own.keep hb, h.len, h.dlen, fun i hi => ⟨(h.row i hi).1.keep hb, (h.row i hi).2⟩⟩
theorem Tb.mono {base' : Nat} (h : Tb w base n A m c R Ds) (hb : base' ≤ base) : Tb w base' n A m c R Ds := ⟨h.own.mono hb, h.len, h.dlen, fun i hi => ⟨(h.row i hi).1.mono hb, (h.row i hi).2⟩⟩
/-- a row of ints stays where a row of rows is written -/
theorem int_kept {base2 : Nat} {v v' : Value} {D : List Int} {α : Type} {sz : Nat} {cell : α → Nat → Value} {r : List α} (h : Own w base 3 1 ci v D) (hv : Own w base2 25 sz cell v' r) (hg : w.grownBy w' v'.ownBlock) : Own w' base 3 1 ci v D := by
  refine h.kept hg ?_
  rcases h.2 with ⟨e, _⟩ | ⟨g, cap, cur, e, hg0, hh, _⟩
  · left; rw [e]; rfl
  · right
    rw [e]
    exact fun x => hv.ne_ hh (by decide) x.symm
/-- another table's row of rows is written -/
theorem Tb.other {base2 : Nat} {A2 : Option Addr} {m2 c2 : Nat} {R2 : List Nat} (h : Tb w base n A m c R Ds) (hv : Own w base2 25 1 (cr n) (.slice A2 m2 c2) R2) (hg : w.grownBy w' (Value.slice A2 m2 c2).ownBlock) (hs : ∀ g, ob A = some g → ob A2 ≠ some g) : Tb w' base n A m c R Ds := by
  refine ⟨h.own.kept hg ?_, h.len, h.dlen, fun i hi => ⟨int_kept (h.row i hi).1 hv hg, (h.row i hi).2⟩⟩
  rw [ob_eq, ob_eq]
  cases hx : ob A with
  | none => exact .inl rfl
  | some g => exact .inr (fun e => hs g hx e.symm)
/-- one row more -/
theorem Tb.more {S : Nat} {D : List Int} (h : Tb w base n A m c R Ds) (hg : w.grownBy w' (Value.slice A m c).ownBlock) (ho : Own w' base 25 1 (cr n) (.slice A' (m + 1) c') (R ++ [S])) (hD : Own w base 3 1 ci (.slice (some ⟨S, 0, none⟩) n n) D) (hl : D.length = n) : Tb w' base n A' (m + 1) c' (R ++ [S]) (Ds ++ [D]) := by
  refine ⟨ho, by simp [h.len], by simp [h.dlen], fun i hi => ?_⟩
  by_cases e : i < m
  · have e1 : (R ++ [S]).getD i 0 = R.getD i 0 := by rw [List.getD_eq_getElem?_getD, List.getElem?_append_left (by rw [h.len]; exact e), List.getD_eq_getElem?_getD]
    have e2 : (Ds ++ [D]).getD i [] = Ds.getD i [] := by rw [List.getD_eq_getElem?_getD, List.getElem?_append_left (by rw [h.dlen]; exact e), List.getD_eq_getElem?_getD]
    rw [e1, e2]
    exact ⟨int_kept (h.row i e).1 h.own hg, (h.row i e).2⟩
  · have e1 : (R ++ [S]).getD i 0 = S := by rw [List.getD_eq_getElem?_getD, List.getElem?_append_right (by rw [h.len]; omega), h.len, show i - m = 0 by omega]; rfl
    have e2 : (Ds ++ [D]).getD i [] = D := by rw [List.getD_eq_getElem?_getD, List.getElem?_append_right (by rw [h.dlen]; omega), h.dlen, show i - m = 0 by omega]; rfl
    rw [e1, e2]
    exact ⟨int_kept hD h.own hg, hl⟩
theorem Tb.setCell (h : Tb w base n A m c R Ds) {p : Addr} {cs : Array Value} {t : TypeId} (hb : w.heap[p.block]? = some (.cells cs t (0, 0))) (h1 : 25 ≠ t) (h2 : 3 ≠ t) (u : Value) : Tb (w.setCell p u) base n A m c R Ds :=
  ⟨h.own.setCell (h.own.ne_ hb h1) u, h.len, h.dlen, fun i hi => ⟨(h.row i hi).1.setCell ((h.row i hi).1.ne_ hb h2) u, (h.row i hi).2⟩⟩
theorem Tb.lt (h : Tb w base n A m c R Ds) {g : Nat} (hg : ob A = some g) : g < w.heap.size := (h.own.base_ g ((ob_eq ..).trans hg)).2
/-- a row's place, and a number in it -/
theorem Tb.at_ (h : Tb w base n A m c R Ds) {i v : Nat} (hi : i < m) (hv : v < n) : ∃ g S, A = some ⟨g, 0, none⟩ ∧ g < w.heap.size ∧ S < w.heap.size ∧ w.cell? ⟨g, i, none⟩ = some (.slice (some ⟨S, 0, none⟩) n n) ∧ ∀ v, v < n → w.cell? ⟨S, v, none⟩ = some (.int .i64 (dg (Ds.getD i []) (v : Int))) := by
  have hl := h.len
  obtain ⟨g, c', hv', _, hg, _, hc⟩ := h.own.some_ (by omega)
  injection hv' with hv' _ _
  subst hv'
  have h0 := (hc i (by omega) 0 (by omega)).1
  rw [Nat.mul_one, Nat.add_zero] at h0
  obtain ⟨hr, hdl⟩ := h.row i hi
  have e : R.getD i 0 = R[i]'(by omega) := by rw [List.getD_eq_getElem?_getD, List.getElem?_eq_getElem (by omega)]; rfl
  refine ⟨g, R.getD i 0, rfl, hg, (hr.base_ _ rfl).2, by rw [h0, e]; rfl, fun v hv => ?_⟩
  obtain ⟨d, _⟩ := own_at1 hdl hr hv
  rw [d, getD_dg]
end
/-- the memory of Marks' loop -/
structure Mk (w0 w : World) (n : Nat) (A : Option Addr) (c : Nat) (l : List E) (X T : Nat) (Ab : Option Addr) (cb : Nat) (A1 : Option Addr) (m1 c1 : Nat) (R1 : List Nat) (D1 : List (List Int)) (A2 : Option Addr) (m2 c2 : Nat) (R2 : List Nat) (D2 : List (List Int)) : Prop where
  box : w.heap[w0.heap.size]? = some (.cells #[.int .i64 n, .slice A l.length c] 24 (0, 0))
  res : w.heap[w0.heap.size + 1]? = some (.cells #[.slice none 0 0, .slice none 0 0] 75 (0, 0))
  bk : w.heap[X]? = some (.cells #[.int .i64 n, .slice Ab l.length cb] 24 (0, 0))
  back : Own w w0.heap.size 60 3 ce (.slice Ab l.length cb) (tl l)
  tbl : w.heap[T]? = some (.cells #[.slice A1 m1 c1, .slice A2 m2 c2] 75 (0, 0))
  t1 : Tb w w0.heap.size n A1 m1 c1 R1 D1
  t2 : Tb w w0.heap.size n A2 m2 c2 R2 D2
  sep : ∀ g, ob A1 = some g → ob A2 ≠ some g
  tl_ : w0.heap.size + 1 < T
  lo : Below w0.heap.size w0 w
section
variable {w0 w w' : World} {n c X T cb m1 c1 m2 c2 : Nat} {A Ab A1 A2 : Option Addr} {l : List E} {R1 R2 : List Nat} {D1 D2 : List (List Int)}
theorem Mk.keep (h : Mk w0 w n A c l X T Ab cb A1 m1 c1 R1 D1 A2 m2 c2 R2 D2) (hb : Below w.heap.size w w') : Mk w0 w' n A c l X T Ab cb A1 m1 c1 R1 D1 A2 m2 c2 R2 D2 :=
  ⟨blk_below h.box hb (lt_of_block h.box), blk_below h.res hb (lt_of_block h.res), blk_below h.bk hb (lt_of_block h.bk), h.back.keep hb, blk_below h.tbl hb (lt_of_block h.tbl), h.t1.keep hb, h.t2.keep hb, h.sep, h.tl_, h.lo.trans (hb.mono h.lo.size)⟩
theorem edge_kept {base base2 : Nat} {v v' : Value} {L : List E} {R : List Nat} (h : Own w base 60 3 ce v L) (hv : Own w base2 25 1 (cr n) v' R) (hg : w.grownBy w' v'.ownBlock) : Own w' base 60 3 ce v L := by
  refine h.kept hg ?_
  rcases h.2 with ⟨e, _⟩ | ⟨g, cap, cur, e, hg0, hh, _⟩
  · left; rw [e]; rfl
  · right
    rw [e]
    exact fun x => hv.ne_ hh (by decide) x.symm
/-- one row more in the first table: the append, and the field set -/
theorem Mk.first {S c' : Nat} {A' : Option Addr} {D : List Int} (h : Mk w0 w n A c l X T Ab cb A1 m1 c1 R1 D1 A2 m2 c2 R2 D2) (hg : w.grownBy w' (Value.slice A1 m1 c1).ownBlock) (ho : Own w' w0.heap.size 25 1 (cr n) (.slice A' (m1 + 1) c') (R1 ++ [S])) (hD : Own w w0.heap.size 3 1 ci (.slice (some ⟨S, 0, none⟩) n n) D) (hl : D.length = n) (hat : ob A' = ob A1 ∨ ∃ g, ob A' = some g ∧ w.heap.size ≤ g) :
    w'.heap[T]? = some (.cells #[.slice A1 m1 c1, .slice A2 m2 c2] 75 (0, 0)) ∧ Mk w0 (w'.setCell ⟨T, 0, none⟩ (.slice A' (m1 + 1) c')) n A c l X T Ab cb A' (m1 + 1) c' (R1 ++ [S]) (D1 ++ [D]) A2 m2 c2 R2 D2 := by
  have ht := blk_grown h.tbl hg (h.t1.own.ne_ h.tbl (by decide))
  have ht2 := h.t2.other h.t1.own hg (fun g h1 h2 => h.sep g h2 h1)
  have ht1 := h.t1.more hg ho hD hl
  have hX : X ≠ T := fun e => by have := h.bk; rw [e, h.tbl] at this; injection this with this; injection this with _ hh _; exact absurd hh (by decide)
  have hbx : w0.heap.size ≠ T := by have := h.tl_; omega
  have hrs : w0.heap.size + 1 ≠ T := by have := h.tl_; omega
  have hbk := edge_kept h.back h.t1.own hg
  refine ⟨ht, blk_far (blk_grown h.box hg (h.t1.own.ne_ h.box (by decide))) hbx _, blk_far (blk_grown h.res hg (h.t1.own.ne_ h.res (by decide))) hrs _, blk_far (blk_grown h.bk hg (h.t1.own.ne_ h.bk (by decide))) hX _, hbk.setCell (hbk.ne_ ht (by decide)) _, blk_set ht 0 _, ht1.setCell ht (by decide) (by decide) _, ht2.setCell ht (by decide) (by decide) _, fun g hg1 hg2 => ?_, h.tl_, (h.lo.grown hg h.lo.size h.t1.own.lo).setCell (by have := h.tl_; show w0.heap.size ≤ T; omega) _⟩
  rcases hat with h1 | ⟨g', h1, h2⟩
  · exact h.sep g (h1.symm.trans hg1) hg2
  · rw [h1] at hg1; injection hg1 with hg1
    have := h.t2.lt hg2; omega
/-- .. and in the second -/
theorem Mk.second {S c' : Nat} {A' : Option Addr} {D : List Int} (h : Mk w0 w n A c l X T Ab cb A1 m1 c1 R1 D1 A2 m2 c2 R2 D2) (hg : w.grownBy w' (Value.slice A2 m2 c2).ownBlock) (ho : Own w' w0.heap.size 25 1 (cr n) (.slice A' (m2 + 1) c') (R2 ++ [S])) (hD : Own w w0.heap.size 3 1 ci (.slice (some ⟨S, 0, none⟩) n n) D) (hl : D.length = n) (hat : ob A' = ob A2 ∨ ∃ g, ob A' = some g ∧ w.heap.size ≤ g) :
    w'.heap[T]? = some (.cells #[.slice A1 m1 c1, .slice A2 m2 c2] 75 (0, 0)) ∧ Mk w0 (w'.setCell ⟨T, 1, none⟩ (.slice A' (m2 + 1) c')) n A c l X T Ab cb A1 m1 c1 R1 D1 A' (m2 + 1) c' (R2 ++ [S]) (D2 ++ [D]) := by
  have ht := blk_grown h.tbl hg (h.t2.own.ne_ h.tbl (by decide))
  have ht1 := h.t1.other h.t2.own hg h.sep
  have ht2 := h.t2.more hg ho hD hl
  have hX : X ≠ T := fun e => by have := h.bk; rw [e, h.tbl] at this; injection this with this; injection this with _ hh _; exact absurd hh (by decide)
  have hbx : w0.heap.size ≠ T := by have := h.tl_; omega
  have hrs : w0.heap.size + 1 ≠ T := by have := h.tl_; omega
  have hbk := edge_kept h.back h.t2.own hg
  refine ⟨ht, blk_far (blk_grown h.box hg (h.t2.own.ne_ h.box (by decide))) hbx _, blk_far (blk_grown h.res hg (h.t2.own.ne_ h.res (by decide))) hrs _, blk_far (blk_grown h.bk hg (h.t2.own.ne_ h.bk (by decide))) hX _, hbk.setCell (hbk.ne_ ht (by decide)) _, blk_set ht 1 _, ht1.setCell ht (by decide) (by decide) _, ht2.setCell ht (by decide) (by decide) _, fun g hg1 hg2 => ?_, h.tl_, (h.lo.grown hg h.lo.size h.t2.own.lo).setCell (by have := h.tl_; show w0.heap.size ≤ T; omega) _⟩
  rcases hat with h1 | ⟨g', h1, h2⟩
  · exact h.sep g hg1 (h1.symm.trans hg2)
  · rw [h1] at hg2; injection hg2 with hg2
    have := h.t1.lt hg1; omega
end
end Go.Proofs.Ytdpjbjgecmnmnaa.Heur
