/- The memory of comp.Of: who lies where, and what each write leaves as it was. -/
import Derived.Test.YtjhnlkmdkjlkdaaVCompOrd
import Derived.Test.YtjhnlkmdkjlkdaaVNetOuts
import Derived.Test.YtjhnlkmdkjlkdaaVFlowMem
import Derived.BigRegion
import Derived.BigQuiet
namespace Go.Proofs.Ytjhnlkmdkjlkdaa.Comp
open Go.RowKit Go.Proofs.Ytjhnlkmdkjlkdaa NetLaw CompLaw Go.Proofs.Ytjhnlkmdkjlkdaa.Net Go.Proofs.Ytjhnlkmdkjlkdaa.Std
open Go.Proofs.Ytjhnlkmdkjlkdaa.Flow (cb own_setG own_atG own_madeI own_madeB)
set_option linter.unusedSimpArgs false
set_option linter.unusedVariables false
theorem obs' (A : Option Addr) (n m c d : Nat) : (Value.slice A n c).ownBlock = (Value.slice A m d).ownBlock := by cases A <;> rfl
/-- the row's block -/
def ob (A : Option Addr) : Option Nat := (Value.slice A 0 0).ownBlock
theorem ob_eq (A : Option Addr) (n c : Nat) : (Value.slice A n c).ownBlock = ob A := obs' ..
theorem fl_cut {α : Type} {sz : Nat} {cell : α → Nat → Value} (l : List α) (m : Nat) : fl sz cell (l.take m) = (fl sz cell l).take (m * sz) := by
  induction l generalizing m with
  | nil => simp [fl]
  | cons a r ih =>
    have e1 : fl sz cell (a :: r) = (List.range sz).map (cell a) ++ fl sz cell r := rfl
    cases m with
    | zero => rw [Nat.zero_mul]; rfl
    | succ m =>
      have e2 : fl sz cell ((a :: r).take (m + 1)) = (List.range sz).map (cell a) ++ fl sz cell (r.take m) := rfl
      have e3 : ((List.range sz).map (cell a)).length = sz := by simp
      have e4 : (m + 1) * sz - sz = m * sz := by rw [Nat.succ_mul]; omega
      have e5 : ((List.range sz).map (cell a)).take ((m + 1) * sz) = (List.range sz).map (cell a) := List.take_of_length_le (by rw [e3, Nat.succ_mul]; omega)
      rw [e2, e1, List.take_append, e5, e3, e4, ih]
/-- an own row cut short -/
theorem own_cut {α : Type} {sz : Nat} {cell : α → Nat → Value} {w : World} {base : Nat} {e : TypeId} {S c n m : Nat} {l : List α} (hn : l.length = n) (h : Own w base e sz cell (.slice (some ⟨S, 0, none⟩) n c) l) (hm : m ≤ n) :
    Own w base e sz cell (.slice (some ⟨S, 0, none⟩) m c) (l.take m) := by
  subst hn
  have hl : (l.take m).length = m := by rw [List.length_take]; omega
  unfold Own at h ⊢
  rw [hl, fl_cut]
  refine ⟨?_, ?_⟩
  · rw [List.length_take, fl_len]
    have := Nat.mul_le_mul_right sz hm
    omega
  · rcases h.2 with ⟨h1, _⟩ | ⟨g, cap, cur, hv, hg, hh, hc, hc2, hsz, ht⟩
    · cases h1
    · injection hv with h1 h2 h3
      injection h1 with h1
      injection h1 with h1 _ _
      subst h1 h3
      refine .inr ⟨S, c, cur, rfl, hg, hh, by omega, hc2, hsz, ?_⟩
      rw [← ht, List.take_take, Nat.min_eq_left (Nat.mul_le_mul_right sz hm)]
theorem own_blkC {α : Type} {w : World} {b : Nat} {e : TypeId} {sz : Nat} {cell : α → Nat → Value} {S n c : Nat} {l : List α} (h : Own w b e sz cell (.slice (some ⟨S, 0, none⟩) n c) l) : ∃ cs, w.heap[S]? = some (.cells cs e (0, 0)) := by
  rcases h.2 with ⟨h1, _⟩ | ⟨g, cap, cur, hv, _, hh, _⟩
  · cases h1
  · injection hv with hv _ _
    injection hv with hv
    injection hv with hv _ _
    subst hv
    exact ⟨cur, hh⟩
theorem blk_neC {w : World} {g g' : Nat} {cs cs' : Array Value} {t t' : TypeId} {f f' : Nat × Nat} (h : w.heap[g]? = some (.cells cs t f)) (h' : w.heap[g']? = some (.cells cs' t' f')) (hne : t ≠ t') : g ≠ g' := fun e => by
  subst e
  rw [h] at h'
  injection h' with h'
  injection h' with _ ht _
  exact hne ht
theorem tab_farC {w : World} {base' S m : Nat} {F : Nat → Option Addr × Nat} {Ls : Nat → List Int} {p : Addr} (ht : Tab w base' S m F Ls) (h1 : p.block ≠ S) (h2 : ∀ v, v < m → ob (F v).1 ≠ some p.block) (u : Value) : Tab (w.setCell p u) base' S m F Ls := by
  obtain ⟨cs, hb, hs, hc⟩ := ht.blk
  exact ⟨ht.lo, ⟨cs, blk_far hb (fun e => h1 e.symm) u, hs, hc⟩, fun v hv => (ht.own v hv).setCell (fun e => h2 v hv (by rw [ob_eq] at e; exact e)) u, ht.sep⟩
theorem tab_mono {w : World} {b b' S n : Nat} {F : Nat → Option Addr × Nat} {Ls : Nat → List Int} (h : Tab w b S n F Ls) (hb : b' ≤ b) : Tab w b' S n F Ls := ⟨Nat.le_trans hb h.lo, h.blk, fun v hv => (h.own v hv).mono hb, h.sep⟩
/-- a row of ints that reads as f -/
def RowI (w : World) (b S n : Nat) (f : Int → Int) : Prop := ∃ I : List Int, Own w b 3 1 ci (.slice (some ⟨S, 0, none⟩) n n) I ∧ I.length = n ∧ ∀ v : Nat, v < n → I.getD v 0 = f v
def RowB (w : World) (b S n : Nat) (f : Int → Bool) : Prop := ∃ B : List Bool, Own w b 4 1 cb (.slice (some ⟨S, 0, none⟩) n n) B ∧ B.length = n ∧ ∀ v : Nat, v < n → B.getD v false = f v
section
variable {w w' : World} {b S n : Nat} {f f' : Int → Int} {g g' : Int → Bool}
theorem RowI.map (h : RowI w b S n f) (hm : ∀ I, Own w b 3 1 ci (.slice (some ⟨S, 0, none⟩) n n) I → Own w' b 3 1 ci (.slice (some ⟨S, 0, none⟩) n n) I) : RowI w' b S n f := by
  obtain ⟨I, h1, h2⟩ := h
  exact ⟨I, hm I h1, h2⟩
theorem RowB.map (h : RowB w b S n g) (hm : ∀ I, Own w b 4 1 cb (.slice (some ⟨S, 0, none⟩) n n) I → Own w' b 4 1 cb (.slice (some ⟨S, 0, none⟩) n n) I) : RowB w' b S n g := by
  obtain ⟨I, h1, h2⟩ := h
  exact ⟨I, hm I h1, h2⟩
theorem RowI.congr (h : RowI w b S n f) (he : ∀ v : Nat, v < n → f v = f' v) : RowI w b S n f' := by
  obtain ⟨I, h1, h2, h3⟩ := h
  exact ⟨I, h1, h2, fun v hv => (h3 v hv).trans (he v hv)⟩
theorem RowB.congr (h : RowB w b S n g) (he : ∀ v : Nat, v < n → g v = g' v) : RowB w b S n g' := by
  obtain ⟨I, h1, h2, h3⟩ := h
  exact ⟨I, h1, h2, fun v hv => (h3 v hv).trans (he v hv)⟩
theorem RowI.cell (h : RowI w b S n f) {v : Nat} (hv : v < n) : w.cell? ⟨S, v, none⟩ = some (.int .i64 (f v)) ∧ w.frozen? ⟨S, v, none⟩ = false := by
  obtain ⟨I, h1, h2, h3⟩ := h
  have := own_at1 h2 h1 hv
  rw [h3 v hv] at this
  exact this
theorem RowB.cell (h : RowB w b S n g) {v : Nat} (hv : v < n) : w.cell? ⟨S, v, none⟩ = some (.bool (g v)) ∧ w.frozen? ⟨S, v, none⟩ = false := by
  obtain ⟨I, h1, h2, h3⟩ := h
  have := own_atG false h2 h1 hv
  rw [h3 v hv] at this
  exact this
theorem RowI.set (h : RowI w b S n f) {k : Nat} (hk : k < n) (x : Int) : RowI (w.setCell ⟨S, k, none⟩ (.int .i64 x)) b S n (up1 f k x) := by
  obtain ⟨I, h1, h2, h3⟩ := h
  refine ⟨I.set k x, own_set1 h2 h1 k x, by rw [List.length_set]; exact h2, fun v hv => ?_⟩
  rw [List.getD_eq_getElem?_getD, List.getElem?_set]
  unfold up1
  by_cases e : k = v
  · subst e
    rw [if_pos rfl, if_pos rfl, if_pos (by omega)]
    rfl
  · rw [if_neg e, if_neg (by omega), ← List.getD_eq_getElem?_getD]
    exact h3 v hv
theorem RowB.set (h : RowB w b S n g) {k : Nat} (hk : k < n) (x : Bool) : RowB (w.setCell ⟨S, k, none⟩ (.bool x)) b S n (fun u => if u = (k : Int) then x else g u) := by
  obtain ⟨I, h1, h2, h3⟩ := h
  refine ⟨I.set k x, own_setG (cell := cb) h2 h1 k hk x, by rw [List.length_set]; exact h2, fun v hv => ?_⟩
  rw [List.getD_eq_getElem?_getD, List.getElem?_set]
  show _ = if (v : Int) = (k : Int) then x else g v
  by_cases e : k = v
  · subst e
    simp [h2, hv]
  · have e' : ¬ (v : Int) = (k : Int) := by omega
    simp only [e, e', if_false]
    rw [← List.getD_eq_getElem?_getD]
    exact h3 v hv
theorem RowI.blk (h : RowI w b S n f) : (∃ cs, w.heap[S]? = some (.cells cs 3 (0, 0))) ∧ b ≤ S ∧ S < w.heap.size := by
  obtain ⟨I, h1, _⟩ := h
  exact ⟨own_blkC h1, h1.base_ S rfl⟩
theorem RowB.blk (h : RowB w b S n g) : (∃ cs, w.heap[S]? = some (.cells cs 4 (0, 0))) ∧ b ≤ S ∧ S < w.heap.size := by
  obtain ⟨I, h1, _⟩ := h
  exact ⟨own_blkC h1, h1.base_ S rfl⟩
theorem RowI.keep (h : RowI w b S n f) (hb : Below w.heap.size w w') : RowI w' b S n f := h.map fun I hI => hI.keep hb
theorem RowB.keep (h : RowB w b S n g) (hb : Below w.heap.size w w') : RowB w' b S n g := h.map fun I hI => hI.keep hb
theorem RowI.far (h : RowI w b S n f) {p : Addr} (hp : S ≠ p.block) (u : Value) : RowI (w.setCell p u) b S n f := h.map fun I hI => hI.setCell (fun e => hp (by injection e)) u
theorem RowB.far (h : RowB w b S n g) {p : Addr} (hp : S ≠ p.block) (u : Value) : RowB (w.setCell p u) b S n g := h.map fun I hI => hI.setCell (fun e => hp (by injection e)) u
end
/-- what the finder reads -/
structure CM (w0 w : World) (n : Nat) (A : Option Addr) (c : Nat) (l : List E) (Z SI SL SO SM T : Nat) (F : Nat → Option Addr × Nat) (As : Option Addr) (ms cs : Nat) (s : TS) (on : Int → Bool) : Prop where
  z : w.heap[Z]? = some (.cells #[.int .i64 n, .slice A l.length c, .slice (some ⟨T, 0, none⟩) n n, .slice (some ⟨SI, 0, none⟩) n n, .slice (some ⟨SL, 0, none⟩) n n, .slice As ms cs, .slice (some ⟨SO, 0, none⟩) n n, .int .i64 s.nx, .slice (some ⟨SM, 0, none⟩) n n] 83 (0, 0))
  ix : RowI w w0.heap.size SI n s.ix
  lw : RowI w w0.heap.size SL n s.lw
  le : RowI w w0.heap.size SM n s.le
  on : RowB w w0.heap.size SO n on
  st : Own w w0.heap.size 3 1 ci (.slice As ms cs) s.st
  sl : s.st.length = ms
  tab : Tab w w0.heap.size T n F (ol l l.length)
  ne : SI ≠ SL ∧ SI ≠ SM ∧ SL ≠ SM
  sep : ob As ≠ some SI ∧ ob As ≠ some SL ∧ ob As ≠ some SM
  row : ∀ v, v < n → ob (F v).1 ≠ some SI ∧ ob (F v).1 ≠ some SL ∧ ob (F v).1 ≠ some SM ∧ ∀ g, ob (F v).1 = some g → ob As ≠ some g
  lo : Below w0.heap.size w0 w
  zb : w0.heap.size ≤ Z
section
variable {w0 w w' : World} {n c Z SI SL SO SM T ms cs : Nat} {A As : Option Addr} {F : Nat → Option Addr × Nat} {l : List E} {s : TS} {on : Int → Bool}
theorem CM.keep (h : CM w0 w n A c l Z SI SL SO SM T F As ms cs s on) (hb : Below w.heap.size w w') : CM w0 w' n A c l Z SI SL SO SM T F As ms cs s on :=
  ⟨blk_below h.z hb (lt_of_block h.z), h.ix.keep hb, h.lw.keep hb, h.le.keep hb, h.on.keep hb, h.st.keep hb, h.sl, h.tab.keep hb, h.ne, h.sep, h.row, h.lo.trans (hb.mono h.lo.size), h.zb⟩
theorem CM.alloc (h : CM w0 w n A c l Z SI SL SO SM T F As ms cs s on) (o : Obj) : CM w0 (w.alloc o) n A c l Z SI SL SO SM T F As ms cs s on := h.keep ((Below.refl _ _).alloc (Nat.le_refl _) _)
theorem CM.drewN (h : CM w0 w n A c l Z SI SL SO SM T F As ms cs s on) (k : Nat) : CM w0 (w.drewN k) n A c l Z SI SL SO SM T F As ms cs s on := h.keep (below_drewN (Below.refl _ _) k)
theorem CM.neZ (h : CM w0 w n A c l Z SI SL SO SM T F As ms cs s on) : Z ≠ SI ∧ Z ≠ SL ∧ Z ≠ SM ∧ Z ≠ SO ∧ Z ≠ T ∧ ob As ≠ some Z ∧ (∀ v, v < n → ob (F v).1 ≠ some Z) ∧ SI ≠ SO ∧ SL ≠ SO ∧ SM ≠ SO ∧ ob As ≠ some SO ∧ T ≠ SI ∧ T ≠ SL ∧ T ≠ SM ∧ T ≠ SO ∧ (∀ v, v < n → ob (F v).1 ≠ some SO) := by
  obtain ⟨⟨c1, b1⟩, _⟩ := h.ix.blk
  obtain ⟨⟨c2, b2⟩, _⟩ := h.lw.blk
  obtain ⟨⟨c3, b3⟩, _⟩ := h.le.blk
  obtain ⟨⟨c4, b4⟩, _⟩ := h.on.blk
  obtain ⟨c5, b5, _⟩ := h.tab.blk
  refine ⟨blk_neC h.z b1 (by decide), blk_neC h.z b2 (by decide), blk_neC h.z b3 (by decide), blk_neC h.z b4 (by decide), blk_neC h.z b5 (by decide), fun e => h.st.ne_ h.z (by decide) ((ob_eq ..).trans e), fun v hv e => (h.tab.own v hv).ne_ h.z (by decide) ((ob_eq ..).trans e), blk_neC b1 b4 (by decide), blk_neC b2 b4 (by decide), blk_neC b3 b4 (by decide), fun e => h.st.ne_ b4 (by decide) ((ob_eq ..).trans e), blk_neC b5 b1 (by decide), blk_neC b5 b2 (by decide), blk_neC b5 b3 (by decide), blk_neC b5 b4 (by decide), fun v hv e => (h.tab.own v hv).ne_ b4 (by decide) ((ob_eq ..).trans e)⟩
theorem CM.setI (h : CM w0 w n A c l Z SI SL SO SM T F As ms cs s on) {k : Nat} (hk : k < n) (x : Int) : CM w0 (w.setCell ⟨SI, k, none⟩ (.int .i64 x)) n A c l Z SI SL SO SM T F As ms cs { s with ix := up1 s.ix k x } on := by
  obtain ⟨z1, z2, z3, z4, z5, z6, z7, z8, z9, z10, z11, z12, z13, z14, z15, z16⟩ := h.neZ
  obtain ⟨n1, n2, n3⟩ := h.ne
  exact ⟨blk_far h.z z1 _, h.ix.set hk x, h.lw.far (fun e => n1 e.symm) _, h.le.far (fun e => n2 e.symm) _, h.on.far (fun e => z8 e.symm) _, h.st.setCell (by rw [ob_eq]; exact h.sep.1) _, h.sl, tab_farC h.tab (fun e => z12 e.symm) (fun v hv => (h.row v hv).1) _, h.ne, h.sep, h.row, h.lo.setCell h.ix.blk.2.1 _, h.zb⟩
theorem CM.setL (h : CM w0 w n A c l Z SI SL SO SM T F As ms cs s on) {k : Nat} (hk : k < n) (x : Int) : CM w0 (w.setCell ⟨SL, k, none⟩ (.int .i64 x)) n A c l Z SI SL SO SM T F As ms cs { s with lw := up1 s.lw k x } on := by
  obtain ⟨z1, z2, z3, z4, z5, z6, z7, z8, z9, z10, z11, z12, z13, z14, z15, z16⟩ := h.neZ
  obtain ⟨n1, n2, n3⟩ := h.ne
  exact ⟨blk_far h.z z2 _, h.ix.far n1 _, h.lw.set hk x, h.le.far (fun e => n3 e.symm) _, h.on.far (fun e => z9 e.symm) _, h.st.setCell (by rw [ob_eq]; exact h.sep.2.1) _, h.sl, tab_farC h.tab (fun e => z13 e.symm) (fun v hv => (h.row v hv).2.1) _, h.ne, h.sep, h.row, h.lo.setCell h.lw.blk.2.1 _, h.zb⟩
theorem CM.setM (h : CM w0 w n A c l Z SI SL SO SM T F As ms cs s on) {k : Nat} (hk : k < n) (x : Int) : CM w0 (w.setCell ⟨SM, k, none⟩ (.int .i64 x)) n A c l Z SI SL SO SM T F As ms cs { s with le := up1 s.le k x } on := by
  obtain ⟨z1, z2, z3, z4, z5, z6, z7, z8, z9, z10, z11, z12, z13, z14, z15, z16⟩ := h.neZ
  obtain ⟨n1, n2, n3⟩ := h.ne
  exact ⟨blk_far h.z z3 _, h.ix.far n2 _, h.lw.far n3 _, h.le.set hk x, h.on.far (fun e => z10 e.symm) _, h.st.setCell (by rw [ob_eq]; exact h.sep.2.2) _, h.sl, tab_farC h.tab (fun e => z14 e.symm) (fun v hv => (h.row v hv).2.2.1) _, h.ne, h.sep, h.row, h.lo.setCell h.le.blk.2.1 _, h.zb⟩
theorem CM.setO (h : CM w0 w n A c l Z SI SL SO SM T F As ms cs s on) {k : Nat} (hk : k < n) (x : Bool) : CM w0 (w.setCell ⟨SO, k, none⟩ (.bool x)) n A c l Z SI SL SO SM T F As ms cs s (fun u => if u = (k : Int) then x else on u) := by
  obtain ⟨z1, z2, z3, z4, z5, z6, z7, z8, z9, z10, z11, z12, z13, z14, z15, z16⟩ := h.neZ
  exact ⟨blk_far h.z z4 _, h.ix.far z8 _, h.lw.far z9 _, h.le.far z10 _, h.on.set hk x, h.st.setCell (by rw [ob_eq]; exact z11) _, h.sl, tab_farC h.tab (fun e => z15 e.symm) (fun v hv => z16 v hv) _, h.ne, h.sep, h.row, h.lo.setCell h.on.blk.2.1 _, h.zb⟩
theorem CM.setN (h : CM w0 w n A c l Z SI SL SO SM T F As ms cs s on) (x : Int) : CM w0 (w.setCell ⟨Z, 7, none⟩ (.int .i64 x)) n A c l Z SI SL SO SM T F As ms cs { s with nx := x } on := by
  obtain ⟨z1, z2, z3, z4, z5, z6, z7, z8, z9, z10, z11, z12, z13, z14, z15, z16⟩ := h.neZ
  exact ⟨blk_set h.z 7 _, h.ix.far (fun e => z1 e.symm) _, h.lw.far (fun e => z2 e.symm) _, h.le.far (fun e => z3 e.symm) _, h.on.far (fun e => z4 e.symm) _, h.st.setCell (by rw [ob_eq]; exact z6) _, h.sl, tab_farC h.tab z5 z7 _, h.ne, h.sep, h.row, h.lo.setCell h.zb _, h.zb⟩
/-- the stack cut short -/
theorem CM.cut (h : CM w0 w n A c l Z SI SL SO SM T F As ms cs s on) {k : Nat} (hk : k ≤ ms) {g : Nat} (hA : As = some ⟨g, 0, none⟩) : CM w0 (w.setCell ⟨Z, 5, none⟩ (.slice As k cs)) n A c l Z SI SL SO SM T F As k cs { s with st := s.st.take k } on := by
  obtain ⟨z1, z2, z3, z4, z5, z6, z7, z8, z9, z10, z11, z12, z13, z14, z15, z16⟩ := h.neZ
  refine ⟨blk_set h.z 5 _, h.ix.far (fun e => z1 e.symm) _, h.lw.far (fun e => z2 e.symm) _, h.le.far (fun e => z3 e.symm) _, h.on.far (fun e => z4 e.symm) _, ?_, by rw [List.length_take, h.sl]; omega, tab_farC h.tab z5 z7 _, h.ne, h.sep, h.row, h.lo.setCell h.zb _, h.zb⟩
  subst hA
  exact (own_cut h.sl h.st hk).setCell (by rw [ob_eq]; exact z6) _
/-- the stack grown by one -/
theorem CM.push (h : CM w0 w n A c l Z SI SL SO SM T F As ms cs s on) {A' : Option Addr} {c' : Nat} {x : Int} (hg : w.grownBy w' (Value.slice As ms cs).ownBlock) (ho : Own w' w0.heap.size 3 1 ci (.slice A' (ms + 1) c') (s.st ++ [x])) (hat : (Value.slice A' (ms + 1) c').ownBlock = (Value.slice As ms cs).ownBlock ∨ ∃ g, (Value.slice A' (ms + 1) c').ownBlock = some g ∧ w.heap.size ≤ g) :
    CM w0 (w'.setCell ⟨Z, 5, none⟩ (.slice A' (ms + 1) c')) n A c l Z SI SL SO SM T F A' (ms + 1) c' { s with st := s.st ++ [x] } on := by
  obtain ⟨z1, z2, z3, z4, z5, z6, z7, z8, z9, z10, z11, z12, z13, z14, z15, z16⟩ := h.neZ
  obtain ⟨s1, s2, s3⟩ := h.sep
  have hb1 : (Value.slice As ms cs).ownBlock = ob As := ob_eq ..
  have hz' : w'.heap[Z]? = _ := blk_grown h.z hg (by rw [hb1]; exact z6)
  have hob : ∀ g, g < w.heap.size → ob As ≠ some g → ob A' ≠ some g := fun g hlt hne e => by
    rcases hat with h1 | ⟨g', h1, h2⟩
    · rw [ob_eq, ob_eq] at h1; exact hne (h1 ▸ e)
    · rw [ob_eq, e] at h1
      injection h1 with h1
      omega
  have hI : ∀ {S : Nat} {f : Int → Int}, RowI w w0.heap.size S n f → ob As ≠ some S → RowI w' w0.heap.size S n f := fun hr hne => hr.map fun I hI => hI.kept hg (.inr (by rw [hb1]; exact fun e => hne e.symm))
  have hBl : RowB w' w0.heap.size SO n on := h.on.map fun I hI => hI.kept hg (.inr (by rw [hb1]; exact fun e => z11 e.symm))
  have htab : Tab w' w0.heap.size T n F (ol l l.length) := by
    obtain ⟨cs5, hb5, hs5, hc5⟩ := h.tab.blk
    refine ⟨h.tab.lo, ⟨cs5, blk_grown hb5 hg (h.st.ne_ hb5 (by decide)), hs5, hc5⟩, fun v hv => (h.tab.own v hv).kept hg ?_, h.tab.sep⟩
    rw [ob_eq, hb1]
    cases hx : ob (F v).1 with
    | none => exact .inl rfl
    | some g => exact .inr (fun e => (h.row v hv).2.2.2 g hx e.symm)
  refine ⟨blk_set hz' 5 _, (hI h.ix s1).far (fun e => z1 e.symm) _, (hI h.lw s2).far (fun e => z2 e.symm) _, (hI h.le s3).far (fun e => z3 e.symm) _, hBl.far (fun e => z4 e.symm) _, ho.setCell (by rw [ob_eq]; exact hob Z (lt_of_block h.z) z6) _, by rw [List.length_append, h.sl]; rfl, tab_farC htab z5 z7 _, h.ne, ⟨hob _ h.ix.blk.2.2 s1, hob _ h.lw.blk.2.2 s2, hob _ h.le.blk.2.2 s3⟩, fun v hv => ?_, (h.lo.grown hg h.lo.size (fun g hgb => (h.st.base_ g hgb).1)).setCell h.zb _, h.zb⟩
  obtain ⟨r1, r2, r3, r4⟩ := h.row v hv
  exact ⟨r1, r2, r3, fun g hgb => hob g ((h.tab.own v hv).base_ g ((ob_eq ..).trans hgb)).2 (r4 g hgb)⟩
/-- it reads the same where the state is the same -/
theorem CM.same {s' : TS} (h : CM w0 w n A c l Z SI SL SO SM T F As ms cs s on) (hs : s.st = s'.st) (hn : s.nx = s'.nx) (h1 : ∀ v : Nat, v < n → s.ix v = s'.ix v) (h2 : ∀ v : Nat, v < n → s.lw v = s'.lw v) (h3 : ∀ v : Nat, v < n → s.le v = s'.le v) {on' : Int → Bool} (h4 : ∀ v : Nat, v < n → on v = on' v) : CM w0 w n A c l Z SI SL SO SM T F As ms cs s' on' :=
  ⟨by rw [← hn]; exact h.z, h.ix.congr h1, h.lw.congr h2, h.le.congr h3, h.on.congr h4, by rw [← hs]; exact h.st, by rw [← hs]; exact h.sl, h.tab, h.ne, h.sep, h.row, h.lo, h.zb⟩
end
/-- who is on the stack -/
def onst (s : TS) : Int → Bool := fun u => decide (u ∈ s.st)
/-- what is not of the net has not been come to; each index is given once -/
structure Sd (n : Nat) (s : TS) : Prop where
  cnt : s.nx + (wh n s.ix : Int) = n
  out : ∀ u : Int, u < 0 ∨ (n : Int) ≤ u → s.ix u = 0
theorem wh_up {n : Nat} {f : Int → Int} {v : Nat} (hv : v < n) (h0 : f v = 0) {x : Int} (hx : x ≠ 0) : wh n (up1 f v x) + 1 = wh n f := by
  have key : ∀ n : Nat, wh n (up1 f v x) + (if v < n then 1 else 0) = wh n f := by
    intro n
    induction n with
    | zero => rfl
    | succ n ih =>
      unfold wh at ih ⊢
      rw [List.range_succ, List.countP_append, List.countP_append, List.countP_singleton, List.countP_singleton]
      by_cases e : n = v
      · subst e
        have a1 : decide (up1 f n x n = 0) = false := by rw [up1_eq]; simpa using hx
        have a2 : decide (f n = 0) = true := by simpa using h0
        simp only [a1, a2, Nat.lt_irrefl, if_false, if_true, Nat.lt_succ_self, Nat.add_zero] at ih ⊢
        simp at ih ⊢
        exact ih
      · have a1 : up1 f v x n = f n := up1_ne _ _ (by omega : (n : Int) ≠ (v : Int))
        have a2 : (v < n + 1) ↔ (v < n) := by omega
        simp only [a1, a2]
        omega
  have := key n
  rw [if_pos hv] at this
  exact this
theorem Sd.enter {n : Nat} {s : TS} (h : Sd n s) {v : Nat} (hv : v < n) (h0 : s.ix v = 0) (hp : 0 ≤ s.nx) : Sd n (enter v s) := by
  refine ⟨?_, fun u hu => ?_⟩
  · have := wh_up hv h0 (show s.nx + 1 ≠ 0 by omega)
    have h1 := h.cnt
    show s.nx + 1 + (wh n (up1 s.ix v (s.nx + 1)) : Int) = n
    omega
  · show up1 s.ix v (s.nx + 1) u = 0
    rw [up1_ne _ _ (by omega)]
    exact h.out u hu
theorem Sd.bd {n : Nat} {s : TS} (h : Sd n s) : s.nx ≤ n := by have := h.cnt; omega
theorem Sd.rng {n : Nat} {s : TS} (h : Sd n s) {u : Int} (hu : s.ix u ≠ 0) : 0 ≤ u ∧ u < n := by
  refine Classical.byContradiction fun hc => hu (h.out u ?_)
  omega
/-- the edges of a list of numbers -/
def te (l : List E) (js : List Int) : List E := js.map fun i => l.getD i.toNat (0, 0, 0)
theorem ol_memC {l : List E} {k v : Nat} {z : Int} (h : z ∈ ol l k v) : ∃ i : Nat, z = i ∧ i < k ∧ (l.getD i (0, 0, 0)).1 = v := by
  unfold ol at h
  rw [List.mem_map] at h
  obtain ⟨i, hi, rfl⟩ := h
  rw [List.mem_filter, List.mem_range, beq_iff_eq] at hi
  exact ⟨i, rfl, hi.1, hi.2⟩
theorem te_all {l : List E} {v : Nat} : ∀ e ∈ l, e.1 = (v : Int) → e ∈ te l (ol l l.length v) := fun e he hv => by
  obtain ⟨i, hi, rfl⟩ := List.getElem_of_mem he
  unfold te
  rw [List.mem_map]
  refine ⟨(i : Int), ?_, by rw [Int.toNat_natCast, List.getD_eq_getElem?_getD, List.getElem?_eq_getElem hi]; rfl⟩
  unfold ol
  rw [List.mem_map]
  refine ⟨i, ?_, rfl⟩
  rw [List.mem_filter, List.mem_range, beq_iff_eq, List.getD_eq_getElem?_getD, List.getElem?_eq_getElem hi]
  exact ⟨hi, hv⟩
/-- what is on the stack from p on, though the stack may be shorter now -/
def Sp (w : World) (g p : Nat) (L : List Int) : Prop := ∀ i (h : i < L.length), w.cell? ⟨g, p + i, none⟩ = some (.int .i64 L[i])
theorem Sp.far {w : World} {g p : Nat} {L : List Int} (h : Sp w g p L) {q : Addr} (hq : g ≠ q.block) (u : Value) : Sp (w.setCell q u) g p L := fun i hi => by
  rw [← h i hi]
  unfold World.cell?
  rw [Below.heap_setCell _ _ _ _ hq]
/-- the least of a number and a list -/
def mn (v : Int) (L : List Int) : Int := L.foldl min v
theorem mn_snoc (v : Int) (L : List Int) (x : Int) : mn v (L ++ [x]) = min (mn v L) x := by simp [mn]
theorem mn_le {v : Int} {L : List Int} : mn v L ≤ v ∧ ∀ x ∈ L, mn v L ≤ x := by
  induction L generalizing v with
  | nil => exact ⟨Int.le_refl _, fun x hx => by cases hx⟩
  | cons a r ih =>
    obtain ⟨h1, h2⟩ := ih (v := min v a)
    have e : mn v (a :: r) = mn (min v a) r := rfl
    rw [e]
    refine ⟨by omega, fun x hx => ?_⟩
    rcases List.mem_cons.1 hx with rfl | hx
    · omega
    · exact h2 x hx
theorem mn_mem {v : Int} {L : List Int} : mn v L = v ∨ mn v L ∈ L := by
  induction L generalizing v with
  | nil => exact .inl rfl
  | cons a r ih =>
    have e : mn v (a :: r) = mn (min v a) r := rfl
    rw [e]
    rcases ih (v := min v a) with h | h
    · rw [h]
      rcases (show min v a = v ∨ min v a = a by omega) with h1 | h1
      · exact .inl h1
      · exact .inr (by rw [h1]; exact List.mem_cons_self ..)
    · exact .inr (List.mem_cons_of_mem _ h)
end Go.Proofs.Ytjhnlkmdkjlkdaa.Comp
