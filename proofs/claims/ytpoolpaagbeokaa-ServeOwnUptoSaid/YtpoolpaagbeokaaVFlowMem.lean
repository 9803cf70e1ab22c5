/- A queue of numbers: a slice of the call's own that is cut at its head and appended to at its end. -/
/- The memory of flow.seek: who lies where, and what each write leaves as it was. -/
import Derived.Test.YtpoolpaagbeokaaVNetTurn
import Derived.Test.YtpoolpaagbeokaaVStdI
import Derived.Deep.AppendSrc
import Derived.Test.YtpoolpaagbeokaaVFlowBfs
import Derived.Test.YtpoolpaagbeokaaVBellWalks
import Derived.Test.YtpoolpaagbeokaaVRowSet
namespace Go.Proofs.Ytpoolpaagbeokaa.Queue
open Go.RowKit Go.Proofs.Ytpoolpaagbeokaa Go.Proofs.Ytpoolpaagbeokaa.Net Go.Proofs.Ytpoolpaagbeokaa.Std
set_option linter.unusedSimpArgs false
set_option linter.unusedVariables false
structure Qu (w : World) (base b off m c : Nat) (l : List Int) : Prop where
  lo : base ≤ b
  len : l.length = m
  le : m ≤ c
  blk : ∃ cs, w.heap[b]? = some (.cells cs 3 (0, 0)) ∧ off + c ≤ cs.size ∧ ∀ i (h : i < l.length), cs[off + i]? = some (.int .i64 l[i])
section
variable {w w' : World} {base b off m c : Nat} {l : List Int}
theorem Qu.lt (h : Qu w base b off m c l) : b < w.heap.size := by obtain ⟨cs, hb, _⟩ := h.blk; exact lt_of_block hb
theorem Qu.keepB (h : Qu w base b off m c l) (hb : w'.heap[b]? = w.heap[b]?) : Qu w' base b off m c l := by
  obtain ⟨cs, h1, h2⟩ := h.blk
  exact ⟨h.lo, h.len, h.le, cs, hb.trans h1, h2⟩
theorem Qu.keep (h : Qu w base b off m c l) (hb : Below w.heap.size w w') : Qu w' base b off m c l := h.keepB (hb.block b h.lt)
theorem Qu.alloc (h : Qu w base b off m c l) (o : Obj) : Qu (w.alloc o) base b off m c l := h.keep ((Below.refl _ _).alloc (Nat.le_refl _) _)
theorem Qu.drewN (h : Qu w base b off m c l) (k : Nat) : Qu (w.drewN k) base b off m c l := h.keep (below_drewN (Below.refl _ _) k)
theorem Qu.setCell (h : Qu w base b off m c l) {p : Addr} (hp : p.block ≠ b) (u : Value) : Qu (w.setCell p u) base b off m c l := h.keepB (Below.heap_setCell _ _ _ _ (fun e => hp e.symm))
/-- its head -/
theorem Qu.head {x : Int} (h : Qu w base b off m c (x :: l)) : w.cell? ⟨b, off, none⟩ = some (.int .i64 x) := by
  obtain ⟨cs, h1, _, h3⟩ := h.blk
  have := h3 0 (by simp)
  rw [Nat.add_zero] at this
  rw [blk_cell h1]
  exact this
/-- without its head -/
theorem Qu.tail {x : Int} (h : Qu w base b off (m + 1) c (x :: l)) : Qu w base b (if c = 1 then off else off + 1) m (c - 1) l := by
  obtain ⟨cs, h1, h2, h3⟩ := h.blk
  have hl := h.len
  have hle := h.le
  rw [List.length_cons] at hl
  by_cases hc : c = 1
  · rw [if_pos hc]
    refine ⟨h.lo, by omega, by omega, cs, h1, by omega, fun i hi => by omega⟩
  · rw [if_neg hc]
    refine ⟨h.lo, by omega, by omega, cs, h1, by omega, fun i hi => ?_⟩
    have := h3 (i + 1) (by simp; omega)
    rw [show off + 1 + i = off + (i + 1) by omega, this]
    simp
theorem Qu.new (w : World) (base : Nat) (x : Int) {g : Nat} (hg : w.heap.size = g) (hb : base ≤ g) : Qu (w.alloc (.cells #[.int .i64 x] 3)) base g 0 1 1 [x] := by
  subst hg
  refine ⟨hb, rfl, Nat.le_refl _, _, heap_alloc_new w _, by simp, fun i hi => ?_⟩
  obtain rfl : i = 0 := by simp at hi; exact hi
  simp
end
/-- what a push leaves -/
structure Pushed (w w' : World) (base b b' : Nat) : Prop where
  below : Below base w w'
  other : ∀ (g : Nat) (o : Obj), g ≠ b → w.heap[g]? = some o → w'.heap[g]? = some o
  at_ : b' = b ∨ b' = w.heap.size
  size : w.heap.size ≤ w'.heap.size
theorem wp_qpush {P : Program} (w : World) {o : Oper} {a : Act} {K : Act → World → Prop} {Q : Exit → Act → World → Prop} (s x : Operand) (t : TypeId)
    (ho : o.op = .call { callee := .builtin .append, args := #[s, x], argTypes := #[t, t] })
    (i : TypeInfo) (ht : P.underlying t = some (.slice 3)) (hi : P.info? 3 = some i) (hz : i.zero = some (.int .i64 0)) (hsize : i.size = 1) (hby : i.bytes = 8)
    (base b off m c : Nat) (l : List Int) (hs : a.eval s = .slice (some ⟨b, off, none⟩) m c) (hq : Qu w base b off m c l) (hbase : base ≤ w.heap.size)
    (g cx : Nat) (y : Int) (hx : a.eval x = .slice (some ⟨g, 0, none⟩) 1 cx) (hnew : w.cell? ⟨g, 0, none⟩ = some (.int .i64 y)) (hm : m ≤ 1000000)
    (h : ∀ b' off' c' w', Qu w' base b' off' (m + 1) c' (l ++ [y]) → Pushed w w' base b b' → K (a.put o.dst (.slice (some ⟨b', off', none⟩) (m + 1) c')) w') : o.wp P a w K Q := by
  obtain ⟨cs, hb, hsz, hc⟩ := hq.blk
  have hl := hq.len
  have hsrc : Src P i.size t (.slice (some ⟨g, 0, none⟩) 1 cx) 1 [.int .i64 y] w := by
    refine Src.ofSlice w ht _ 1 cx _ (by rw [hsize]; rfl) (fun j u hj => ?_) (fun u hu => by rw [List.mem_singleton] at hu; subst hu; rfl)
    match j, hj with
    | 0, hj =>
      simp at hj
      subst hj
      simpa [Go.WideShapes.add_plain] using hnew
    | j + 1, hj => simp at hj
  have hcell : ∀ j, w.cell? ⟨b, j, none⟩ = cs[j]? := fun j => blk_cell hb j
  by_cases hroom : m + 1 ≤ c
  · have hr := run_append_room_src (P := P) w t t o.type 3 i ht hi b off m c _ 1 [.int .i64 y] hsrc hroom (fun j hj => by
      rw [List.length_singleton] at hj
      rw [hsize, hcell, Array.getElem?_eq_getElem (by omega)]; rfl) (fun j hj => blk_free hb _)
    unfold Oper.wp execOp
    simp only [ho, resolve, invoke, builtin, Sem.run_bind, Sem.run_pure, Result.andThen_ok, List.map_toArray, List.map_cons, List.map_nil, hs, hx, hr]
    have e : w.setCells b (off + m * i.size) [.int .i64 y] = w.setCell ⟨b, off + m, none⟩ (.int .i64 y) := by rw [hsize, Nat.mul_one]; rfl
    rw [e]
    refine h b off c _ ⟨hq.lo, by rw [List.length_append, hl]; rfl, hroom, _, blk_set hb (off + m) (.int .i64 y), by rw [Array.size_setIfInBounds]; exact hsz, fun j hj => ?_⟩ ⟨(Below.refl _ _).setCell hq.lo _, fun g' o' hne hg' => blk_far hg' hne _, .inl rfl, by simp [World.setCell]⟩
    rw [Array.getElem?_setIfInBounds]
    rw [List.length_append, List.length_singleton] at hj
    by_cases hjm : j = m
    · subst hjm
      rw [if_pos rfl, if_pos (by omega)]
      simp [hl]
    · rw [if_neg (by omega), hc j (by omega), List.getElem_append_left (by omega)]
  · have hcl : ∀ j v, (l.map fun x : Int => (Value.int .i64 x))[j]? = some v → w.drew.cell? ((⟨b, off, none⟩ : Addr).add j) = some v := fun j v hj => by
      rw [List.getElem?_map] at hj
      rcases Nat.lt_or_ge j l.length with hlt | hge
      · rw [List.getElem?_eq_getElem hlt] at hj
        injection hj with hj
        subst hj
        rw [Go.WideShapes.add_plain]
        exact (hcell _).trans (hc j hlt)
      · rw [List.getElem?_eq_none hge] at hj; cases hj
    have hold := run_firstCells_some (P := P) w.drew i.size m ⟨b, off, none⟩ m c (l.map fun x : Int => (Value.int .i64 x)) (by rw [List.length_map, hsize, hl, Nat.mul_one]) hcl
    have hr := run_append_grow_src (P := P) w t t o.type 3 i (.int .i64 0) ht hi hz (some ⟨b, off, none⟩) m c _ hold _ 1 [.int .i64 y] hsrc (by omega) (by omega) (by rw [hby]; exact growslice_fits (by omega) (by omega))
    have hG := grownCap_ge w (m + 1) c 3
    unfold Oper.wp execOp
    simp only [ho, resolve, invoke, builtin, Sem.run_bind, Sem.run_pure, Result.andThen_ok, List.map_toArray, List.map_cons, List.map_nil, hs, hx, hr]
    refine h w.heap.size 0 _ _ ⟨hbase, by rw [List.length_append, hl]; rfl, hG, _, heap_alloc_new w.drew _, ?_, fun j hj => ?_⟩ ⟨((Below.refl _ _).drew).alloc hbase _, fun g' o' hne hg' => blk_alloc (w := w.drew) hg' _, .inr rfl, by simp⟩
    · simp [Builtin.zeroCells, Value.cells, hl]; omega
    · rw [List.length_append, List.length_singleton] at hj
      rw [Nat.zero_add]
      have e : (l.map (fun x : Int => (Value.int .i64 x)) ++ [.int .i64 y]) = (l ++ [y]).map fun x : Int => (Value.int .i64 x) := by simp
      rw [e, Array.getElem?_append_left (by simp; omega)]
      rw [List.getElem?_toArray, List.getElem?_map, List.getElem?_eq_getElem (by simp; omega)]
      rfl
theorem wpList_qpush {P : Program} (w : World) {ops : Array Oper} {rest : List Oper} {o : Oper} {a : Act} {Q : Exit → Act → World → Prop} (hgd : o.guard = none) (s x : Operand) (t : TypeId)
    (ho : o.op = .call { callee := .builtin .append, args := #[s, x], argTypes := #[t, t] })
    (i : TypeInfo) (ht : P.underlying t = some (.slice 3)) (hi : P.info? 3 = some i) (hz : i.zero = some (.int .i64 0)) (hsize : i.size = 1) (hby : i.bytes = 8)
    (base b off m c : Nat) (l : List Int) (hs : a.eval s = .slice (some ⟨b, off, none⟩) m c) (hq : Qu w base b off m c l) (hbase : base ≤ w.heap.size)
    (g cx : Nat) (y : Int) (hx : a.eval x = .slice (some ⟨g, 0, none⟩) 1 cx) (hnew : w.cell? ⟨g, 0, none⟩ = some (.int .i64 y)) (hm : m ≤ 1000000)
    (h : ∀ b' off' c' w', Qu w' base b' off' (m + 1) c' (l ++ [y]) → Pushed w w' base b b' → wpList P ops Q rest (a.put o.dst (.slice (some ⟨b', off', none⟩) (m + 1) c')) w') : wpList P ops Q (o :: rest) a w :=
  wpList_plain hgd fun _ hK => wp_qpush w s x t ho i ht hi hz hsize hby base b off m c l hs hq hbase g cx y hx hnew hm fun b' off' c' w' h1 h2 => hK _ _ (h b' off' c' w' h1 h2)
end Go.Proofs.Ytpoolpaagbeokaa.Queue

namespace Go.Proofs.Ytpoolpaagbeokaa.Flow
open Go.RowKit Go.Proofs.Ytpoolpaagbeokaa NetLaw FlowLaw FlowBfs Go.Proofs.Ytpoolpaagbeokaa.Net Go.Proofs.Ytpoolpaagbeokaa.Std Go.Proofs.Ytpoolpaagbeokaa.Queue
set_option linter.unusedSimpArgs false
set_option linter.unusedVariables false
def cb (b : Bool) (_ : Nat) : Value := .bool b
theorem own_atG {α : Type} {w : World} {base : Nat} {e : TypeId} {cell : α → Nat → Value} {S c n : Nat} {l : List α} (d : α) (hn : l.length = n) (h : Own w base e 1 cell (.slice (some ⟨S, 0, none⟩) n c) l) {k : Nat} (hk : k < n) :
    w.cell? ⟨S, k, none⟩ = some (cell (l.getD k d) 0) ∧ w.frozen? ⟨S, k, none⟩ = false := by
  obtain ⟨S', c', hv, _, _, _, hc⟩ := h.some_ (by omega)
  injection hv with hv
  injection hv with hv
  injection hv with hv
  subst hv
  obtain ⟨a, b⟩ := hc k (by omega) 0 (by decide)
  rw [Nat.mul_one, Nat.add_zero] at a b
  refine ⟨?_, b⟩
  rw [a, List.getD_eq_getElem?_getD, List.getElem?_eq_getElem (by omega)]
  rfl
theorem own_setG {α : Type} {w : World} {base : Nat} {e : TypeId} {cell : α → Nat → Value} {S c n : Nat} {l : List α} (hn : l.length = n) (h : Own w base e 1 cell (.slice (some ⟨S, 0, none⟩) n c) l) (k : Nat) (hk : k < n) (a : α) :
    Own (w.setCell ⟨S, k, none⟩ (cell a 0)) base e 1 cell (.slice (some ⟨S, 0, none⟩) n c) (l.set k a) := by
  have h1 := own_setj hn h k 0 a (by omega) (by decide) (fun j hj hne => by omega)
  rw [Nat.mul_one, Nat.add_zero] at h1
  exact h1
theorem own_madeI (n base : Nat) (w : World) (hb : base ≤ w.heap.size) (hn : n ≤ 1000000) {g : Nat} (hg : w.heap.size = g) : Own (w.alloc (.cells (madeCells #[.int .i64 0] n) 3)) base 3 1 ci (.slice (some ⟨g, 0, none⟩) n n) (List.replicate n 0) :=
  own_new' w _ _ hg (by simp) hb hn (by
    rw [fl_map]
    apply List.ext_getElem
    · simp [madeCells]
    · intro i h1 h2
      simp [madeCells, ci, Nat.mod_one])
theorem fl_mapG {α : Type} (cell : α → Nat → Value) (l : List α) : fl 1 cell l = l.map fun x => cell x 0 := by
  induction l with
  | nil => rfl
  | cons a r ih =>
    have e : fl 1 cell (a :: r) = (List.range 1).map (cell a) ++ fl 1 cell r := rfl
    rw [e, ih]
    rfl
theorem own_madeB (n base : Nat) (w : World) (hb : base ≤ w.heap.size) (hn : n ≤ 1000000) {g : Nat} (hg : w.heap.size = g) : Own (w.alloc (.cells (madeCells #[.bool false] n) 4)) base 4 1 cb (.slice (some ⟨g, 0, none⟩) n n) (List.replicate n false) :=
  own_new' w _ _ hg (by simp) hb hn (by
    rw [fl_mapG]
    apply List.ext_getElem
    · simp [madeCells]
    · intro i h1 h2
      simp [madeCells, cb, Nat.mod_one])
theorem Sl.at1 {w : World} {B b o : Nat} {l : List Int} (h : Sl w B 1 ci (some ⟨b, o, none⟩) l) {k : Nat} (hk : k < l.length) : b < B ∧ w.cell? ⟨b, o + k, none⟩ = some (.int .i64 (l.getD k 0)) := by
  obtain ⟨b', o', he, hb, hc⟩ := h.atI hk
  injection he with he
  injection he with h1 h2
  subst h1 h2
  refine ⟨hb, ?_⟩
  rw [hc, List.getD_eq_getElem?_getD, List.getElem?_eq_getElem hk]
  rfl
structure SkM (w0 w : World) (n : Nat) (A : Option Addr) (c m : Nat) (S8 S10 q : Nat) (B : List Int) (Sn : List Bool) : Prop where
  by_ : Own w w0.heap.size 3 1 ci (.slice (some ⟨S8, 0, none⟩) n n) B
  seen : Own w w0.heap.size 4 1 cb (.slice (some ⟨S10, 0, none⟩) n n) Sn
  box : w.heap[w0.heap.size]? = some (.cells #[.int .i64 n, .slice A m c] 52 (0, 0))
  lo : Below w0.heap.size w0 w
  a1 : w0.heap.size < S8
  a2 : S8 < S10
  a3 : S10 < q
  a4 : q ≤ w.heap.size
  bl : B.length = n
  sl : Sn.length = n
section
variable {w0 w w' : World} {n c m S8 S10 q : Nat} {A : Option Addr} {B : List Int} {Sn : List Bool}
theorem SkM.keepQ (h : SkM w0 w n A c m S8 S10 q B Sn) (hb : Below q w w') : SkM w0 w' n A c m S8 S10 q B Sn :=
  ⟨h.by_.below hb fun k hk => by have hk : S8 = k := (by simpa [Value.ownBlock] using hk); have := h.a2; have := h.a3; omega, h.seen.below hb fun k hk => by have hk : S10 = k := (by simpa [Value.ownBlock] using hk); have := h.a3; omega, blk_below h.box hb (by have := h.a1; have := h.a2; have := h.a3; omega), h.lo.trans (hb.mono (by have := h.a1; have := h.a2; have := h.a3; omega)), h.a1, h.a2, h.a3, Nat.le_trans h.a4 hb.size, h.bl, h.sl⟩
theorem SkM.alloc (h : SkM w0 w n A c m S8 S10 q B Sn) (o : Obj) : SkM w0 (w.alloc o) n A c m S8 S10 q B Sn := h.keepQ ((Below.refl _ _).alloc h.a4 _)
theorem SkM.drewN (h : SkM w0 w n A c m S8 S10 q B Sn) (k : Nat) : SkM w0 (w.drewN k) n A c m S8 S10 q B Sn := h.keepQ (below_drewN (Below.refl _ _) k)
theorem SkM.setB (h : SkM w0 w n A c m S8 S10 q B Sn) (k : Nat) (hk : k < n) (x : Int) : SkM w0 (w.setCell ⟨S8, k, none⟩ (.int .i64 x)) n A c m S8 S10 q (B.set k x) Sn :=
  ⟨own_setG (cell := ci) h.bl h.by_ k hk x, h.seen.setCell (fun e => by injection e with e; have := h.a2; simp at e; omega) _, blk_far h.box (by have := h.a1; dsimp only; omega) _, h.lo.setCell (by have := h.a1; dsimp only; omega) _, h.a1, h.a2, h.a3, by simpa [World.setCell] using h.a4, by rw [List.length_set]; exact h.bl, h.sl⟩
theorem SkM.setS (h : SkM w0 w n A c m S8 S10 q B Sn) (k : Nat) (hk : k < n) (x : Bool) : SkM w0 (w.setCell ⟨S10, k, none⟩ (.bool x)) n A c m S8 S10 q B (Sn.set k x) :=
  ⟨h.by_.setCell (fun e => by injection e with e; have := h.a2; simp at e; omega) _, own_setG (cell := cb) h.sl h.seen k hk x, blk_far h.box (by have := h.a1; have := h.a2; dsimp only; omega) _, h.lo.setCell (by have := h.a1; have := h.a2; dsimp only; omega) _, h.a1, h.a2, h.a3, by simpa [World.setCell] using h.a4, h.bl, by rw [List.length_set]; exact h.sl⟩
end
/-- in a round: the queue, and the edge that is looked at -/
structure RdM (w0 w : World) (n : Nat) (A : Option Addr) (c mm S8 S10 q ge : Nat) (f t : Nat) (co : Int) (b off m c9 : Nat) (Q B : List Int) (Sn : List Bool) : Prop where
  sk : SkM w0 w n A c mm S8 S10 q B Sn
  qu : Qu w q b off m c9 Q
  gb : w.heap[ge]? = some (.cells #[.int .i64 f, .int .i64 t, .int .i64 co] 110 (0, 0))
  ge_ : q ≤ ge
  ne : ge ≠ b
section
variable {w0 w w' : World} {n c mm S8 S10 q ge f t b off m c9 : Nat} {co : Int} {A : Option Addr} {Q B : List Int} {Sn : List Bool}
theorem RdM.keep (h : RdM w0 w n A c mm S8 S10 q ge f t co b off m c9 Q B Sn) (hb : Below w.heap.size w w') : RdM w0 w' n A c mm S8 S10 q ge f t co b off m c9 Q B Sn :=
  ⟨h.sk.keepQ (hb.mono h.sk.a4), h.qu.keep hb, blk_below h.gb hb (lt_of_block h.gb), h.ge_, h.ne⟩
theorem RdM.alloc (h : RdM w0 w n A c mm S8 S10 q ge f t co b off m c9 Q B Sn) (o : Obj) : RdM w0 (w.alloc o) n A c mm S8 S10 q ge f t co b off m c9 Q B Sn := h.keep ((Below.refl _ _).alloc (Nat.le_refl _) _)
theorem RdM.drewN (h : RdM w0 w n A c mm S8 S10 q ge f t co b off m c9 Q B Sn) (k : Nat) : RdM w0 (w.drewN k) n A c mm S8 S10 q ge f t co b off m c9 Q B Sn := h.keep (below_drewN (Below.refl _ _) k)
theorem RdM.setB (h : RdM w0 w n A c mm S8 S10 q ge f t co b off m c9 Q B Sn) (k : Nat) (hk : k < n) (x : Int) : RdM w0 (w.setCell ⟨S8, k, none⟩ (.int .i64 x)) n A c mm S8 S10 q ge f t co b off m c9 Q (B.set k x) Sn := by
  have a2 := h.sk.a2
  have a3 := h.sk.a3
  have a5 := h.qu.lo
  have a6 := h.ge_
  exact ⟨h.sk.setB k hk x, h.qu.setCell (by dsimp only; omega) _, blk_far h.gb (by dsimp only; omega) _, h.ge_, h.ne⟩
theorem RdM.setS (h : RdM w0 w n A c mm S8 S10 q ge f t co b off m c9 Q B Sn) (k : Nat) (hk : k < n) (x : Bool) : RdM w0 (w.setCell ⟨S10, k, none⟩ (.bool x)) n A c mm S8 S10 q ge f t co b off m c9 Q B (Sn.set k x) := by
  have a3 := h.sk.a3
  have a5 := h.qu.lo
  have a6 := h.ge_
  exact ⟨h.sk.setS k hk x, h.qu.setCell (by dsimp only; omega) _, blk_far h.gb (by dsimp only; omega) _, h.ge_, h.ne⟩
theorem RdM.push (h : RdM w0 w n A c mm S8 S10 q ge f t co b off m c9 Q B Sn) {b' off' m' c' : Nat} {Q' : List Int} (hq : Qu w' q b' off' m' c' Q') (hp : Pushed w w' q b b') : RdM w0 w' n A c mm S8 S10 q ge f t co b' off' m' c' Q' B Sn := by
  refine ⟨h.sk.keepQ hp.below, hq, hp.other ge _ h.ne h.gb, h.ge_, ?_⟩
  have h1 := h.ne
  have h2 := lt_of_block h.gb
  rcases hp.at_ with e | e <;> omega
/-- a queue's first stays -/
theorem head_snoc {α : Type} {Q : List α} {x y : α} (h : Q.head? = some x) : (Q ++ [y]).head? = some x := by rw [List.head?_append, h]; rfl
/-- what a round reads -/
theorem RdM.cells (h : RdM w0 w n A c mm S8 S10 q ge f t co b off m c9 Q B Sn) : (w.cell? ⟨ge, 0, none⟩ = some (.int .i64 f) ∧ w.cell? ⟨ge, 1, none⟩ = some (.int .i64 t) ∧ w.cell? ⟨ge, 2, none⟩ = some (.int .i64 co)) ∧ ge < w.heap.size ∧ S8 < w.heap.size ∧ S10 < w.heap.size ∧ S8 ≠ S10 ∧ ge ≠ S8 ∧ ge ≠ S10 := by
  have a2 := h.sk.a2
  have a3 := h.sk.a3
  have a4 := h.sk.a4
  have a6 := h.ge_
  have a7 := lt_of_block h.gb
  have e0 := blk_cell h.gb 0
  have e1 := blk_cell h.gb 1
  have e2 := blk_cell h.gb 2
  exact ⟨⟨e0, e1, e2⟩, a7, by omega, by omega, by omega, by omega, by omega⟩
end
end Go.Proofs.Ytpoolpaagbeokaa.Flow
