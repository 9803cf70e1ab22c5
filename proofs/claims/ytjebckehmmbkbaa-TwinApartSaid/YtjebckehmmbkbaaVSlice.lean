/- Slices that read as lists: what a walk wants of them. -/
import Derived.Test.YtjebckehmmbkbaaVKit
import Derived.Maps.AppendAt
import Derived.Laws.AppendOwnNone
import Derived.Deep.RegionLaw
namespace Go.Proofs.Ytjebckehmmbkbaa
open Go.RowKit
set_option linter.unusedSimpArgs false
set_option linter.unusedVariables false

/-- The slice at A of l.length elements, 'sz' cells each, reads as l; it lies below block B. 'cell a j': the j-th cell of the element a. -/
def Sl {α : Type} (w : World) (B sz : Nat) (cell : α → Nat → Value) (A : Option Addr) (l : List α) : Prop :=
  0 < l.length → ∃ b off, A = some ⟨b, off, none⟩ ∧ b < B ∧ ∀ (i : Nat) (h : i < l.length) (j : Nat), j < sz → w.cell? ⟨b, off + (i * sz + j), none⟩ = some (cell l[i] j)

theorem Sl.nil {α : Type} {w : World} {B sz : Nat} {cell : α → Nat → Value} {A : Option Addr} : Sl w B sz cell A [] := fun h => absurd h (by simp)
theorem Sl.keep {α : Type} {w w' : World} {B B' sz : Nat} {cell : α → Nat → Value} {A : Option Addr} {l : List α} (h : Sl w B sz cell A l) (hb : Below B' w w') (hB : B ≤ B') : Sl w' B sz cell A l := by
  intro hl
  obtain ⟨b, off, hA, hlt, hc⟩ := h hl
  exact ⟨b, off, hA, hlt, fun i hi j hj => (hb.cell (p := ⟨b, _, none⟩) (by show b < _; omega)).trans (hc i hi j hj)⟩
theorem Sl.more {α : Type} {w : World} {B B' sz : Nat} {cell : α → Nat → Value} {A : Option Addr} {l : List α} (h : Sl w B sz cell A l) (hB : B ≤ B') : Sl w B' sz cell A l := by
  intro hl
  obtain ⟨b, off, hA, hlt, hc⟩ := h hl
  exact ⟨b, off, hA, by omega, hc⟩

/-- an int; an edge; a pair of ints -/
def ci (z : Int) (_ : Nat) : Value := .int .i64 z
def ce (e : Int × Int × Int) (j : Nat) : Value := match j with | 0 => .int .i64 e.1 | 1 => .int .i64 e.2.1 | _ => .int .i64 e.2.2
def cp (e : Int × Int) (j : Nat) : Value := match j with | 0 => .int .i64 e.1 | _ => .int .i64 e.2

/-- one element's cells, in the walk's spelling -/
theorem Sl.atE {w : World} {B : Nat} {A : Option Addr} {l : List (Int × Int × Int)} (h : Sl w B 3 ce A l) {k : Nat} (hk : k < l.length) :
    ∃ b off f t c, A = some ⟨b, off, none⟩ ∧ b < B ∧ l[k] = (f, t, c) ∧ w.cell? ⟨b, off + k * 3, none⟩ = some (.int .i64 f) ∧ w.cell? ⟨b, off + k * 3 + 1, none⟩ = some (.int .i64 t) ∧ w.cell? ⟨b, off + k * 3 + 2, none⟩ = some (.int .i64 c) := by
  obtain ⟨b, off, hA, hlt, hc⟩ := h (by omega)
  exact ⟨b, off, _, _, _, hA, hlt, rfl, hc k hk 0 (by omega), hc k hk 1 (by omega), hc k hk 2 (by omega)⟩
theorem Sl.atI {w : World} {B : Nat} {A : Option Addr} {l : List Int} (h : Sl w B 1 ci A l) {k : Nat} (hk : k < l.length) :
    ∃ b off, A = some ⟨b, off, none⟩ ∧ b < B ∧ w.cell? ⟨b, off + k, none⟩ = some (.int .i64 l[k]) := by
  obtain ⟨b, off, hA, hlt, hc⟩ := h (by omega)
  have := hc k hk 0 (by omega)
  rw [Nat.mul_one, Nat.add_zero] at this
  exact ⟨b, off, hA, hlt, this⟩

/-! ### rows of the call's own -/
/-- the cells of a list, one element behind the other -/
def fl {α : Type} (sz : Nat) (cell : α → Nat → Value) (l : List α) : List Value := l.flatMap fun a => (List.range sz).map (cell a)
theorem fl_len {α : Type} (sz : Nat) (cell : α → Nat → Value) (l : List α) : (fl sz cell l).length = l.length * sz := by
  induction l with
  | nil => simp [fl]
  | cons a r ih =>
    have e : fl sz cell (a :: r) = (List.range sz).map (cell a) ++ fl sz cell r := rfl
    rw [e, List.length_append, ih, List.length_map, List.length_range, List.length_cons, Nat.succ_mul]
    omega
theorem fl_snoc {α : Type} (sz : Nat) (cell : α → Nat → Value) (l : List α) (a : α) : fl sz cell (l ++ [a]) = fl sz cell l ++ (List.range sz).map (cell a) := by simp [fl]
theorem fl_append {α : Type} (sz : Nat) (cell : α → Nat → Value) (l r : List α) : fl sz cell (l ++ r) = fl sz cell l ++ fl sz cell r := by simp [fl]
theorem fl_get {α : Type} (sz : Nat) (cell : α → Nat → Value) (l : List α) : ∀ (i : Nat) (h : i < l.length) (j : Nat), j < sz → (fl sz cell l)[i * sz + j]? = some (cell l[i] j) := by
  induction l with
  | nil => intro i h; simp at h
  | cons a r ih =>
    intro i h j hj
    have e : fl sz cell (a :: r) = (List.range sz).map (cell a) ++ fl sz cell r := rfl
    rw [e]
    match i with
    | 0 =>
      rw [Nat.zero_mul, Nat.zero_add, List.getElem?_append_left (by simpa using hj)]
      simp [hj]
    | i + 1 =>
      have hlen : ((List.range sz).map (cell a)).length = sz := by simp
      rw [List.getElem?_append_right (by rw [hlen, Nat.succ_mul]; omega), hlen]
      have : (i + 1) * sz + j - sz = i * sz + j := by rw [Nat.succ_mul]; omega
      rw [this]
      exact ih i (by simpa using h) j hj
theorem fl_mem {α : Type} {sz : Nat} {cell : α → Nat → Value} {l : List α} (h : ∀ a j, (cell a j).oneCell' = true) : ∀ u ∈ fl sz cell l, u.oneCell' = true := by
  intro u hu
  simp only [fl, List.mem_flatMap, List.mem_map] at hu
  obtain ⟨a, _, j, _, rfl⟩ := hu
  exact h a j
theorem fl_map {α : Type} (cell : α → Nat → Value) (l : List α) : fl 1 cell l = l.map fun a => cell a 0 := by
  induction l with
  | nil => rfl
  | cons a r ih =>
    have e : fl 1 cell (a :: r) = (List.range 1).map (cell a) ++ fl 1 cell r := rfl
    rw [e, ih]
    rfl

/-- the slice v is the call's own row, from block 'base' on, and reads as l -/
def Own {α : Type} (w : World) (base : Nat) (e : TypeId) (sz : Nat) (cell : α → Nat → Value) (v : Value) (l : List α) : Prop := w.ownsRow base e sz v l.length (fl sz cell l)

section
variable {α : Type} {w w' : World} {base : Nat} {e : TypeId} {sz : Nat} {cell : α → Nat → Value} {v : Value} {l : List α}
theorem Own.nil_ : Own w base e sz cell (.slice none 0 0) ([] : List α) := World.ownsRow_nil _ _ _ _
theorem Own.form (h : Own w base e sz cell v l) : ∃ A c, v = .slice A l.length c ∧ (l.length ≤ c) ∧ (A = none → l.length = 0 ∧ c = 0) := by
  rcases h.2 with ⟨rfl, h0⟩ | ⟨g', cap, cur, rfl, hg, _, hc, _⟩
  · exact ⟨_, _, by rw [h0], by omega, fun _ => ⟨h0, rfl⟩⟩
  · exact ⟨_, _, rfl, hc, fun h => by cases h⟩
theorem Own.base_ (h : Own w base e sz cell v l) : ∀ k, v.ownBlock = some k → base ≤ k ∧ k < w.heap.size := World.ownsRow.lt h
theorem Own.lo (h : Own w base e sz cell v l) : ∀ k, v.ownBlock = some k → base ≤ k := fun k hk => (h.base_ k hk).1
theorem Own.kept {row : Option Nat} (h : Own w base e sz cell v l) (hg : w.grownBy w' row) (hne : v.ownBlock = none ∨ v.ownBlock ≠ row) : Own w' base e sz cell v l := World.ownsRow.kept h hg hne
theorem Own.alloc (h : Own w base e sz cell v l) (o : Obj) : Own (w.alloc o) base e sz cell v l := World.ownsRow.alloc h o
theorem Own.drewN (h : Own w base e sz cell v l) (n : Nat) : Own (w.drewN n) base e sz cell v l := h
theorem Own.below {B : Nat} (h : Own w base e sz cell v l) (hb : Below B w w') (hB : ∀ k, v.ownBlock = some k → k < B) : Own w' base e sz cell v l := by
  refine ⟨h.1, ?_⟩
  rcases h.2 with hn | ⟨g, cap, cur, rfl, hg, hh, r⟩
  · exact .inl hn
  · exact .inr ⟨g, cap, cur, rfl, hg, (hb.block g (hB g rfl)).trans hh, r⟩
theorem Own.keep (h : Own w base e sz cell v l) (hb : Below w.heap.size w w') : Own w' base e sz cell v l := h.below hb fun k hk => (h.base_ k hk).2
theorem Own.mono {base' : Nat} (h : Own w base e sz cell v l) (hB : base' ≤ base) : Own w base' e sz cell v l := by
  refine ⟨h.1, ?_⟩
  rcases h.2 with hn | ⟨g, cap, cur, rfl, hg, r⟩
  · exact .inl hn
  · exact .inr ⟨g, cap, cur, rfl, by omega, r⟩
theorem Own.setCell (h : Own w base e sz cell v l) {p : Addr} (hp : v.ownBlock ≠ some p.block) (u : Value) : Own (w.setCell p u) base e sz cell v l := ownsRow_setCell_other h hp u
/-- a row's block is not a block of another element type -/
theorem Own.ne_ {g : Nat} {t : TypeId} {cs : Array Value} {fr : Nat × Nat} (h : Own w base e sz cell v l) (hg : w.heap[g]? = some (.cells cs t fr)) (hne : e ≠ t) : v.ownBlock ≠ some g := by
  rcases h.2 with ⟨rfl, _⟩ | ⟨g', cap, cur, rfl, _, hh, _⟩
  · simp [Value.ownBlock]
  · intro he
    have : g' = g := by simpa [Value.ownBlock] using he
    subst this
    rw [hg] at hh
    injection hh with hh
    injection hh with _ ht
    exact hne ht.symm
theorem Own.some_ (h : Own w base e sz cell v l) (hn : 0 < l.length) : ∃ S c, v = .slice (some ⟨S, 0, none⟩) l.length c ∧ base ≤ S ∧ S < w.heap.size ∧ l.length ≤ c ∧ ∀ (i : Nat) (hi : i < l.length) (j : Nat), j < sz → w.cell? ⟨S, i * sz + j, none⟩ = some (cell l[i] j) ∧ w.frozen? ⟨S, i * sz + j, none⟩ = false := by
  have h0 := h
  rcases h.2 with ⟨rfl, h1⟩ | ⟨g', cap, cur, rfl, hg, hh, hc, _⟩
  · omega
  · refine ⟨g', cap, rfl, hg, lt_of_block hh, hc, fun i hi j hj => ⟨(World.ownsRow.cellAt h0 _ ?_).trans (fl_get sz cell l i hi j hj), World.ownsRow.frozenAt h0 _⟩⟩
    have : (i + 1) * sz ≤ l.length * sz := Nat.mul_le_mul_right _ hi
    rw [Nat.succ_mul] at this
    omega
/-- an own row reads as a slice -/
theorem Own.sl {A : Option Addr} {n c : Nat} (h : Own w base e sz cell (.slice A n c) l) : n = l.length ∧ Sl w w.heap.size sz cell A l := by
  rcases h.2 with ⟨h1, h2⟩ | ⟨g', cap, cur, h1, hg, hh, hc, _⟩
  · injection h1 with h1 h3 _
    refine ⟨by omega, fun hl => by omega⟩
  · injection h1 with h1 h3 h4
    subst h1 h3 h4
    refine ⟨rfl, fun hl => ?_⟩
    obtain ⟨S, c', h5, h6, h7, _, h8⟩ := h.some_ hl
    injection h5 with h5 _ _
    injection h5 with h5
    injection h5 with h5
    subst h5
    exact ⟨g', 0, rfl, h7, fun i hi j hj => by rw [Nat.zero_add]; exact (h8 i hi j hj).1⟩
end

theorem cell_new (w : World) (cs : Array Value) (e : TypeId) (j : Nat) : (w.alloc (.cells cs e)).cell? ⟨w.heap.size, j, none⟩ = cs[j]? := by
  rw [cell_of_row _ _ _ _ _ _ (heap_alloc_new w _)]
theorem news1 {w : World} {e : TypeId} {x : Int} : ∀ j, j < 1 → (w.alloc (.cells #[.int .i64 x] e)).cell? ⟨w.heap.size, j, none⟩ = some (ci x j) := by
  intro j hj
  obtain rfl : j = 0 := by omega
  rw [cell_new]; rfl
theorem news2 {w : World} {e : TypeId} {x y : Int} : ∀ j, j < 2 → (w.alloc (.cells #[.int .i64 x, .int .i64 y] e)).cell? ⟨w.heap.size, j, none⟩ = some (cp (x, y) j) := by
  intro j hj
  rw [cell_new]
  match j, hj with
  | 0, _ => rfl
  | 1, _ => rfl
theorem news3 {w : World} {e : TypeId} {x y z : Int} : ∀ j, j < 3 → (w.alloc (.cells #[.int .i64 x, .int .i64 y, .int .i64 z] e)).cell? ⟨w.heap.size, j, none⟩ = some (ce (x, y, z) j) := by
  intro j hj
  rw [cell_new]
  match j, hj with
  | 0, _ => rfl
  | 1, _ => rfl
  | 2, _ => rfl
theorem one_ci (x : Int) (j : Nat) : (ci x j).oneCell' = true := rfl
theorem one_cp (x : Int × Int) (j : Nat) : (cp x j).oneCell' = true := by unfold cp; split <;> rfl
theorem one_ce (x : Int × Int × Int) (j : Nat) : (ce x j).oneCell' = true := by unfold ce; split <;> rfl

/-- 'append(out, x)': out the call's own, x one element in a block that was just laid. 'cs': its cells. -/
theorem wp_push {α : Type} {P : Program} (w : World) {o : Oper} {a : Act} {K : Act → World → Prop} {Q : Exit → Act → World → Prop} (s x : Operand) (t : TypeId)
    (ho : o.op = .call { callee := .builtin .append, args := #[s, x], argTypes := #[t, t] })
    (base : Nat) (e : TypeId) (i : TypeInfo) (z : Value) (sz bytes : Nat) (cell : α → Nat → Value) (ht : P.underlying t = some (.slice e)) (hi : P.info? e = some i) (hz : i.zero = some z)
    (hsize : i.size = sz) (hby : i.bytes = bytes) (hzs : z.cells.size = sz) (hsz : 0 < sz)
    (v : Value) (l : List α) (n : Nat) (hn : l.length = n) (hs : a.eval s = v) (hown : Own w base e sz cell v l)
    (g c : Nat) (y : α) (hx : a.eval x = .slice (some ⟨g, 0, none⟩) 1 c) (hnews : ∀ j, j < sz → w.cell? ⟨g, j, none⟩ = some (cell y j)) (h1 : ∀ j, j < sz → (cell y j).oneCell' = true)
    (hlen : n + 1 ≤ 9223372036854775807) (hbytes : (n + 1) * bytes ≤ 140737488355328) (hbase : base ≤ w.heap.size)
    (h : ∀ A c' w', Own w' base e sz cell (.slice A (n + 1) c') (l ++ [y]) → w.grownBy w' v.ownBlock → ((Value.slice A (n + 1) c').ownBlock = v.ownBlock ∨ (Value.slice A (n + 1) c').ownBlock = some w.heap.size) →
      K (a.put o.dst (.slice A (n + 1) c')) w') : o.wp P a w K Q := by
  subst hn
  have q1 : ∀ j u, ((List.range sz).map (cell y))[j]? = some u → w.cell? ((⟨g, 0, none⟩ : Addr).add j) = some u := by
    intro j u hj
    rw [List.getElem?_map] at hj
    rcases Nat.lt_or_ge j sz with hlt | hge
    · rw [List.getElem?_range hlt] at hj
      injection hj with hj
      rw [Go.WideShapes.add_plain, Nat.zero_add, hnews j hlt, ← hj]
    · rw [List.getElem?_eq_none (by simpa using hge)] at hj
      cases hj
  have q2 : ∀ u ∈ (List.range sz).map (cell y), u.oneCell' = true := by
    intro u hu
    rw [List.mem_map] at hu
    obtain ⟨j, hj, rfl⟩ := hu
    exact h1 j (List.mem_range.1 hj)
  obtain ⟨v', w', hr, hown', hgrow, _, hat⟩ := run_append_own_at (P := P) w base t o.type e i z sz bytes ht hi hz hsize hby hzs hsz v l.length (fl sz cell l) hown ⟨g, 0, none⟩ 1 c ((List.range sz).map (cell y)) (by simp) q1 q2 hlen hbytes hbase
  unfold Oper.wp execOp
  simp only [ho, resolve, invoke, builtin, Sem.run_bind, Sem.run_pure, Result.andThen_ok, List.map_toArray, List.map_cons, List.map_nil, hs, hx, hr]
  have hown2 : Own w' base e sz cell v' (l ++ [y]) := by
    unfold Own
    rw [fl_snoc, List.length_append]
    exact hown'
  obtain ⟨A, c', hv, _⟩ := hown2.form
  rw [List.length_append] at hv
  have hv' : v' = .slice A (l.length + 1) c' := hv
  subst hv'
  exact h A c' w' hown2 hgrow hat


theorem wpList_push {α : Type} {P : Program} (w : World) {ops : Array Oper} {rest : List Oper} {o : Oper} {a : Act} {Q : Exit → Act → World → Prop} (hgd : o.guard = none) (s x : Operand) (t : TypeId)
    (ho : o.op = .call { callee := .builtin .append, args := #[s, x], argTypes := #[t, t] })
    (base : Nat) (e : TypeId) (i : TypeInfo) (z : Value) (sz bytes : Nat) (cell : α → Nat → Value) (ht : P.underlying t = some (.slice e)) (hi : P.info? e = some i) (hz : i.zero = some z)
    (hsize : i.size = sz) (hby : i.bytes = bytes) (hzs : z.cells.size = sz) (hsz : 0 < sz)
    (v : Value) (l : List α) (n : Nat) (hn : l.length = n) (hs : a.eval s = v) (hown : Own w base e sz cell v l)
    (g c : Nat) (y : α) (hx : a.eval x = .slice (some ⟨g, 0, none⟩) 1 c) (hnews : ∀ j, j < sz → w.cell? ⟨g, j, none⟩ = some (cell y j)) (h1 : ∀ j, j < sz → (cell y j).oneCell' = true)
    (hlen : n + 1 ≤ 9223372036854775807) (hbytes : (n + 1) * bytes ≤ 140737488355328) (hbase : base ≤ w.heap.size)
    (h : ∀ A c' w', Own w' base e sz cell (.slice A (n + 1) c') (l ++ [y]) → w.grownBy w' v.ownBlock → ((Value.slice A (n + 1) c').ownBlock = v.ownBlock ∨ (Value.slice A (n + 1) c').ownBlock = some w.heap.size) →
      wpList P ops Q rest (a.put o.dst (.slice A (n + 1) c')) w') : wpList P ops Q (o :: rest) a w :=
  wpList_plain hgd fun _ hK => wp_push w s x t ho base e i z sz bytes cell ht hi hz hsize hby hzs hsz v l n hn hs hown g c y hx hnews h1 hlen hbytes hbase fun A c' w' h1 h2 h3 => hK _ _ (h A c' w' h1 h2 h3)

theorem step_push {α : Type} {P : Program} (w : World) {ops : Array Oper} {o : Oper} {a : Act} {K : Act → World → Prop} {Q : Exit → Act → World → Prop} {E : Prop} (hgd : o.guard = none) (s x : Operand) (t : TypeId)
    (ho : o.op = .call { callee := .builtin .append, args := #[s, x], argTypes := #[t, t] })
    (base : Nat) (e : TypeId) (i : TypeInfo) (z : Value) (sz bytes : Nat) (cell : α → Nat → Value) (ht : P.underlying t = some (.slice e)) (hi : P.info? e = some i) (hz : i.zero = some z)
    (hsize : i.size = sz) (hby : i.bytes = bytes) (hzs : z.cells.size = sz) (hsz : 0 < sz)
    (v : Value) (l : List α) (n : Nat) (hn : l.length = n) (hs : a.eval s = v) (hown : Own w base e sz cell v l)
    (g c : Nat) (y : α) (hx : a.eval x = .slice (some ⟨g, 0, none⟩) 1 c) (hnews : ∀ j, j < sz → w.cell? ⟨g, j, none⟩ = some (cell y j)) (h1 : ∀ j, j < sz → (cell y j).oneCell' = true)
    (hlen : n + 1 ≤ 9223372036854775807) (hbytes : (n + 1) * bytes ≤ 140737488355328) (hbase : base ≤ w.heap.size)
    (h : ∀ A c' w', Own w' base e sz cell (.slice A (n + 1) c') (l ++ [y]) → w.grownBy w' v.ownBlock → ((Value.slice A (n + 1) c').ownBlock = v.ownBlock ∨ (Value.slice A (n + 1) c').ownBlock = some w.heap.size) →
      K (a.put o.dst (.slice A (n + 1) c')) w') : if Region.wanted o (yielded ops a.tmps) = true then Oper.wp P o a w K Q else E := by
  have hw : Region.wanted o (yielded ops a.tmps) = true := by simp [Region.wanted, hgd]
  rw [if_pos hw]
  exact wp_push w s x t ho base e i z sz bytes cell ht hi hz hsize hby hzs hsz v l n hn hs hown g c y hx hnews h1 hlen hbytes hbase h

theorem fl_nil {α : Type} {sz : Nat} {cell : α → Nat → Value} : fl sz cell ([] : List α) = [] := rfl
theorem divmod {sz j : Nat} (hsz : 0 < sz) : j = j / sz * sz + j % sz ∧ j % sz < sz := ⟨by have := Nat.div_add_mod j sz; rw [Nat.mul_comm] at this; omega, Nat.mod_lt _ hsz⟩
theorem fl_some {α : Type} {sz : Nat} {cell : α → Nat → Value} {l : List α} (hsz : 0 < sz) {j : Nat} {u : Value} (h : (fl sz cell l)[j]? = some u) : ∃ (hi : j / sz < l.length), u = cell (l[j / sz]) (j % sz) := by
  have hj : j < l.length * sz := by
    rcases Nat.lt_or_ge j (l.length * sz) with h1 | h1
    · exact h1
    · rw [List.getElem?_eq_none (by rw [fl_len]; exact h1)] at h
      cases h
  have hi : j / sz < l.length := (Nat.div_lt_iff_lt_mul hsz).2 hj
  refine ⟨hi, ?_⟩
  have h2 := fl_get sz cell l (j / sz) hi (j % sz) (divmod hsz).2
  rw [← (divmod (j := j) hsz).1, h] at h2
  injection h2

/-- 'append(out, xs...)': out the call's own, xs whatever reads as a list. -/
theorem wp_pushAll {α : Type} {P : Program} (w : World) {o : Oper} {a : Act} {K : Act → World → Prop} {Q : Exit → Act → World → Prop} (s x : Operand) (t : TypeId)
    (ho : o.op = .call { callee := .builtin .append, args := #[s, x], argTypes := #[t, t] })
    (base : Nat) (e : TypeId) (i : TypeInfo) (z : Value) (sz bytes : Nat) (cell : α → Nat → Value) (ht : P.underlying t = some (.slice e)) (hi : P.info? e = some i) (hz : i.zero = some z)
    (hsize : i.size = sz) (hby : i.bytes = bytes) (hzs : z.cells.size = sz) (hsz : 0 < sz)
    (v : Value) (l : List α) (n : Nat) (hn : l.length = n) (hs : a.eval s = v) (hown : Own w base e sz cell v l)
    (B : Nat) (A : Option Addr) (m c : Nat) (r : List α) (hm : r.length = m) (hx : a.eval x = .slice A m c) (hA : A = none → m = 0 ∧ c = 0) (hr : Sl w B sz cell A r) (h1 : ∀ y j, (cell y j).oneCell' = true)
    (hlen : n + m ≤ 9223372036854775807) (hbytes : (n + m) * bytes ≤ 140737488355328) (hbase : base ≤ w.heap.size)
    (h : ∀ A' c' w', Own w' base e sz cell (.slice A' (n + m) c') (l ++ r) → w.grownBy w' v.ownBlock → ((Value.slice A' (n + m) c').ownBlock = v.ownBlock ∨ (Value.slice A' (n + m) c').ownBlock = some w.heap.size) →
      K (a.put o.dst (.slice A' (n + m) c')) w') : o.wp P a w K Q := by
  subst hn hm
  match A, hA with
  | none, hA =>
    obtain ⟨h0, rfl⟩ := hA rfl
    have hr0 : r = [] := List.eq_nil_of_length_eq_zero h0
    subst hr0
    obtain ⟨A', c', hv, _⟩ := hown.form
    have hr := run_append_owned_none (P := P) (w := w) base t o.type e i sz ht hi v l.length (fl sz cell l) hown
    unfold Oper.wp execOp
    simp only [ho, resolve, invoke, builtin, Sem.run_bind, Sem.run_pure, Result.andThen_ok, List.map_toArray, List.map_cons, List.map_nil, hs, hx, List.length_nil, hr]
    subst hv
    exact h A' c' w (by rw [List.append_nil]; exact hown) (World.grownBy.refl w _) (.inl rfl)
  | some ad, _ =>
    have q1 : ∀ j u, (fl sz cell r)[j]? = some u → w.cell? (ad.add j) = some u := by
      intro j u hj
      obtain ⟨hi', rfl⟩ := fl_some hsz hj
      obtain ⟨b, off, hA', _, hc⟩ := hr (Nat.lt_of_le_of_lt (Nat.zero_le _) hi')
      injection hA' with hA'
      subst hA'
      rw [Go.WideShapes.add_plain]
      have := hc (j / sz) hi' (j % sz) (divmod hsz).2
      rw [← (divmod (j := j) hsz).1] at this
      exact this
    obtain ⟨v', w', hrun, hown', hgrow, _, hat⟩ := run_append_own_at (P := P) w base t o.type e i z sz bytes ht hi hz hsize hby hzs hsz v l.length (fl sz cell l) hown ad r.length c (fl sz cell r) (fl_len _ _ _) q1 (fl_mem h1) hlen hbytes hbase
    · unfold Oper.wp execOp
      simp only [ho, resolve, invoke, builtin, Sem.run_bind, Sem.run_pure, Result.andThen_ok, List.map_toArray, List.map_cons, List.map_nil, hs, hx, hrun]
      have hown2 : Own w' base e sz cell v' (l ++ r) := by
        unfold Own
        rw [fl_append, List.length_append]
        exact hown'
      obtain ⟨A', c', hv, _⟩ := hown2.form
      rw [List.length_append] at hv
      subst hv
      exact h A' c' w' hown2 hgrow hat


theorem wpList_pushAll {α : Type} {P : Program} (w : World) {ops : Array Oper} {rest : List Oper} {o : Oper} {a : Act} {Q : Exit → Act → World → Prop} (hgd : o.guard = none) (s x : Operand) (t : TypeId)
    (ho : o.op = .call { callee := .builtin .append, args := #[s, x], argTypes := #[t, t] })
    (base : Nat) (e : TypeId) (i : TypeInfo) (z : Value) (sz bytes : Nat) (cell : α → Nat → Value) (ht : P.underlying t = some (.slice e)) (hi : P.info? e = some i) (hz : i.zero = some z)
    (hsize : i.size = sz) (hby : i.bytes = bytes) (hzs : z.cells.size = sz) (hsz : 0 < sz)
    (v : Value) (l : List α) (n : Nat) (hn : l.length = n) (hs : a.eval s = v) (hown : Own w base e sz cell v l)
    (B : Nat) (A : Option Addr) (m c : Nat) (r : List α) (hm : r.length = m) (hx : a.eval x = .slice A m c) (hA : A = none → m = 0 ∧ c = 0) (hr : Sl w B sz cell A r) (h1 : ∀ y j, (cell y j).oneCell' = true)
    (hlen : n + m ≤ 9223372036854775807) (hbytes : (n + m) * bytes ≤ 140737488355328) (hbase : base ≤ w.heap.size)
    (h : ∀ A' c' w', Own w' base e sz cell (.slice A' (n + m) c') (l ++ r) → w.grownBy w' v.ownBlock → ((Value.slice A' (n + m) c').ownBlock = v.ownBlock ∨ (Value.slice A' (n + m) c').ownBlock = some w.heap.size) →
      wpList P ops Q rest (a.put o.dst (.slice A' (n + m) c')) w') : wpList P ops Q (o :: rest) a w :=
  wpList_plain hgd fun _ hK => wp_pushAll w s x t ho base e i z sz bytes cell ht hi hz hsize hby hzs hsz v l n hn hs hown B A m c r hm hx hA hr h1 hlen hbytes hbase fun A' c' w' h1 h2 h3 => hK _ _ (h A' c' w' h1 h2 h3)

theorem step_pushAll {α : Type} {P : Program} (w : World) {ops : Array Oper} {o : Oper} {a : Act} {K : Act → World → Prop} {Q : Exit → Act → World → Prop} {E : Prop} (hgd : o.guard = none) (s x : Operand) (t : TypeId)
    (ho : o.op = .call { callee := .builtin .append, args := #[s, x], argTypes := #[t, t] })
    (base : Nat) (e : TypeId) (i : TypeInfo) (z : Value) (sz bytes : Nat) (cell : α → Nat → Value) (ht : P.underlying t = some (.slice e)) (hi : P.info? e = some i) (hz : i.zero = some z)
    (hsize : i.size = sz) (hby : i.bytes = bytes) (hzs : z.cells.size = sz) (hsz : 0 < sz)
    (v : Value) (l : List α) (n : Nat) (hn : l.length = n) (hs : a.eval s = v) (hown : Own w base e sz cell v l)
    (B : Nat) (A : Option Addr) (m c : Nat) (r : List α) (hm : r.length = m) (hx : a.eval x = .slice A m c) (hA : A = none → m = 0 ∧ c = 0) (hr : Sl w B sz cell A r) (h1 : ∀ y j, (cell y j).oneCell' = true)
    (hlen : n + m ≤ 9223372036854775807) (hbytes : (n + m) * bytes ≤ 140737488355328) (hbase : base ≤ w.heap.size)
    (h : ∀ A' c' w', Own w' base e sz cell (.slice A' (n + m) c') (l ++ r) → w.grownBy w' v.ownBlock → ((Value.slice A' (n + m) c').ownBlock = v.ownBlock ∨ (Value.slice A' (n + m) c').ownBlock = some w.heap.size) →
      K (a.put o.dst (.slice A' (n + m) c')) w') : if Region.wanted o (yielded ops a.tmps) = true then Oper.wp P o a w K Q else E := by
  have hw : Region.wanted o (yielded ops a.tmps) = true := by simp [Region.wanted, hgd]
  rw [if_pos hw]
  exact wp_pushAll w s x t ho base e i z sz bytes cell ht hi hz hsize hby hzs hsz v l n hn hs hown B A m c r hm hx hA hr h1 hlen hbytes hbase h

/-- a literal's new block reads as a slice -/
theorem sl_new {α : Type} {sz : Nat} (hsz : 0 < sz) {cell : α → Nat → Value} (w : World) (cs : Array Value) (e : TypeId) (l : List α) (h : cs.toList = fl sz cell l) : Sl (w.alloc (.cells cs e)) (w.alloc (.cells cs e)).heap.size sz cell (some ⟨w.heap.size, 0, none⟩) l := by
  intro hl
  refine ⟨w.heap.size, 0, rfl, by simp, fun i hi j hj => ?_⟩
  rw [Nat.zero_add, cell_new, ← Array.getElem?_toList, h]
  exact fl_get sz cell l i hi j hj

/-- a slice cut off at its k-th element -/
theorem Sl.cut {α : Type} {w : World} {B sz : Nat} {cell : α → Nat → Value} {A : Option Addr} {l : List α} {k c : Nat} (h : Sl w B sz cell A l) (hk : k ≤ l.length) (hc : l.length ≤ c) :
    Sl w B sz cell (if c = k then A else A.map (·.add (k * sz))) (l.drop k) := by
  intro hl
  rw [List.length_drop] at hl
  obtain ⟨b, off, rfl, hb, hcell⟩ := h (by omega)
  rw [if_neg (by omega)]
  refine ⟨b, off + k * sz, by simp [Go.WideShapes.add_plain], hb, fun i hi j hj => ?_⟩
  rw [List.length_drop] at hi
  have := hcell (k + i) (by omega) j hj
  rw [List.getElem_drop, ← this]
  congr 2
  rw [Nat.add_mul]
  omega
end Go.Proofs.Ytjebckehmmbkbaa
