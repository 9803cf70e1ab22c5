/- A row of the call's own with room behind it: append in place, a cell behind its end, the whole block overwritten. -/
/- The walks of roomy, filled and spoil, at int. -/
/- The walks of roomy, filled and spoil, at Edge. -/
/- The walk of spoil, at Ratio. -/
import Derived.Test.YtamphgcpfncenaaVNetTurn
import Derived.Test.YtamphgcpfncenaaVStdI
import Derived.Deep.AppendSrc
import Derived.Lib.LazyBuf
import Derived.BigQuiet
import Derived.BigRegion
namespace Go.Proofs.Ytamphgcpfncenaa.Room
open Go.RowKit Go.Proofs.Ytamphgcpfncenaa Go.Proofs.Ytamphgcpfncenaa.Net Go.Proofs.Ytamphgcpfncenaa.Std
set_option linter.unusedSimpArgs false
set_option linter.unusedVariables false
theorem blk_sets {b : Nat} {t : TypeId} : ∀ (vs : List Value) (o : Nat) (w : World) (cs : Array Value), w.heap[b]? = some (.cells cs t (0, 0)) → o + vs.length ≤ cs.size →
    ∃ cs' : Array Value, (w.setCells b o vs).heap[b]? = some (.cells cs' t (0, 0)) ∧ cs'.size = cs.size ∧ (∀ j, j < o ∨ o + vs.length ≤ j → cs'[j]? = cs[j]?) ∧ ∀ j u, vs[j]? = some u → cs'[o + j]? = some u
  | [], o, w, cs, h, _ => ⟨cs, h, rfl, fun _ _ => rfl, fun j u hu => by simp at hu⟩
  | v :: r, o, w, cs, h, hs => by
    rw [List.length_cons] at hs
    obtain ⟨cs', h1, h2, h3, h4⟩ := blk_sets r (o + 1) (w.setCell ⟨b, o, none⟩ v) (cs.setIfInBounds o v) (blk_set h o v) (by rw [Array.size_setIfInBounds]; omega)
    refine ⟨cs', h1, by rw [h2, Array.size_setIfInBounds], fun j hj => ?_, fun j u hu => ?_⟩
    · rw [List.length_cons] at hj
      rw [h3 j (by omega), Array.getElem?_setIfInBounds_ne (by omega)]
    · match j, hu with
      | 0, hu =>
        simp at hu
        subst hu
        rw [Nat.add_zero, h3 o (by omega), Array.getElem?_setIfInBounds_self_of_lt (by omega)]
      | j + 1, hu =>
        rw [List.getElem?_cons_succ] at hu
        have := h4 j u hu
        rwa [show o + 1 + j = o + (j + 1) by omega] at this
theorem sets_grown (b : Nat) : ∀ (vs : List Value) (o : Nat) (w : World), w.grownBy (w.setCells b o vs) (some b)
  | [], _, w => World.grownBy.refl w _
  | v :: r, o, w => by
    have h := sets_grown b r (o + 1) (w.setCell ⟨b, o, none⟩ v)
    have h0 : w.grownBy (w.setCell ⟨b, o, none⟩ v) (some b) := ⟨rfl, rfl, rfl, by simp [World.setCell], fun k _ hne => Below.heap_setCell _ _ _ _ (fun e => hne (by rw [e]))⟩
    exact h0.trans h
/-- the block behind an own row, and the row that is read in it -/
theorem own_open {α : Type} {w : World} {base : Nat} {e : TypeId} {sz : Nat} {cell : α → Nat → Value} {S n c : Nat} {l : List α} (h : Own w base e sz cell (.slice (some ⟨S, 0, none⟩) n c) l) :
    l.length = n ∧ base ≤ S ∧ n ≤ c ∧ c ≤ maxLen ∧ ∃ cur : Array Value, w.heap[S]? = some (.cells cur e (0, 0)) ∧ cur.size = c * sz ∧ cur.toList.take (n * sz) = fl sz cell l := by
  rcases h.2 with ⟨h1, _⟩ | ⟨g, cap, cur, h1, h2, h3, h4, h5, h6, h7⟩
  · cases h1
  · injection h1 with a b d
    injection a with a
    injection a with a _ _
    subst a d
    rw [← b] at h4 h7
    exact ⟨b.symm, h2, h4, h5, cur, h3, h6, h7⟩
theorem own_sets {α : Type} {w : World} {base : Nat} {e : TypeId} {sz : Nat} {cell : α → Nat → Value} {S n c m : Nat} {l r : List α} (h : Own w base e sz cell (.slice (some ⟨S, 0, none⟩) n c) l) (hm : r.length = m) (hc : n + m ≤ c) :
    Own (w.setCells S (n * sz) (fl sz cell r)) base e sz cell (.slice (some ⟨S, 0, none⟩) (n + m) c) (l ++ r) := by
  obtain ⟨hn, h1, _, h2, cur, h3, h4, h5⟩ := own_open h
  have hle : n * sz + (fl sz cell r).length ≤ cur.size := by
    rw [fl_len, h4, hm, ← Nat.add_mul]
    exact Nat.mul_le_mul_right _ hc
  obtain ⟨cs', k1, k2, k3, k4⟩ := blk_sets (fl sz cell r) (n * sz) w cur h3 hle
  have hlen : (l ++ r).length = n + m := by rw [List.length_append, hn, hm]
  refine ⟨by rw [fl_len], .inr ⟨S, c, cs', by rw [hlen], h1, k1, by omega, h2, by rw [k2, h4], ?_⟩⟩
  rw [hlen, fl_append]
  have hl1 : (fl sz cell l).length = n * sz := by rw [fl_len, hn]
  have hl2 : (fl sz cell r).length = m * sz := by rw [fl_len, hm]
  apply List.ext_getElem?
  intro j
  rw [List.getElem?_take, Array.getElem?_toList, Nat.add_mul]
  by_cases hj : j < n * sz
  · rw [if_pos (by omega), List.getElem?_append_left (by omega), k3 j (.inl hj), ← h5, List.getElem?_take, if_pos hj, Array.getElem?_toList]
  · rw [List.getElem?_append_right (by omega), hl1]
    by_cases hj2 : j < n * sz + m * sz
    · rw [if_pos hj2]
      have hlt : j - n * sz < (fl sz cell r).length := by omega
      have := k4 (j - n * sz) _ (List.getElem?_eq_getElem hlt)
      rw [show n * sz + (j - n * sz) = j by omega] at this
      rw [this, List.getElem?_eq_getElem hlt]
    · rw [if_neg hj2, List.getElem?_eq_none (by omega)]
theorem own_made {w : World} {base cap : Nat} {α : Type} {e : TypeId} {sz : Nat} {cell : α → Nat → Value} {cur : Array Value} (hb : base ≤ w.heap.size) (hm : cap ≤ maxLen) (hs : cur.size = cap * sz) :
    Own (w.alloc (.cells cur e)) base e sz cell (.slice (some ⟨w.heap.size, 0, none⟩) 0 cap) ([] : List α) := World.ownsRow_made w cur cap hb hm hs
/-- 'append(out, xs...)' where there is room -/
theorem wp_pushRoom {α : Type} {P : Program} (w : World) {o : Oper} {a : Act} {K : Act → World → Prop} {Q : Exit → Act → World → Prop} (s x : Operand) (t : TypeId)
    (ho : o.op = .call { callee := .builtin .append, args := #[s, x], argTypes := #[t, t] })
    (base : Nat) (e : TypeId) (i : TypeInfo) (sz : Nat) (cell : α → Nat → Value) (ht : P.underlying t = some (.slice e)) (hi : P.info? e = some i) (hsize : i.size = sz) (hsz : 0 < sz)
    (S n c : Nat) (l : List α) (hs : a.eval s = .slice (some ⟨S, 0, none⟩) n c) (hown : Own w base e sz cell (.slice (some ⟨S, 0, none⟩) n c) l)
    (B : Nat) (A : Option Addr) (m cx : Nat) (r : List α) (hm : r.length = m) (hx : a.eval x = .slice A m cx) (hA : A = none → m = 0 ∧ cx = 0) (hr : Sl w B sz cell A r) (h1 : ∀ y j, (cell y j).oneCell' = true) (hroom : n + m ≤ c)
    (h : ∀ w', Own w' base e sz cell (.slice (some ⟨S, 0, none⟩) (n + m) c) (l ++ r) → w.grownBy w' (some S) → K (a.put o.dst (.slice (some ⟨S, 0, none⟩) (n + m) c)) w') : o.wp P a w K Q := by
  subst hm
  obtain ⟨hn, k1, _, k2, cur, k3, k4, k5⟩ := own_open hown
  match A, hA with
  | none, hA =>
    obtain ⟨h0, rfl⟩ := hA rfl
    have hr0 : r = [] := List.eq_nil_of_length_eq_zero h0
    subst hr0
    subst hn
    have hr := run_append_owned_none (P := P) (w := w) base t o.type e i sz ht hi _ l.length (fl sz cell l) hown
    unfold Oper.wp execOp
    simp only [ho, resolve, invoke, builtin, Sem.run_bind, Sem.run_pure, Result.andThen_ok, List.map_toArray, List.map_cons, List.map_nil, hs, hx, List.length_nil, hr]
    exact h w (by rw [List.append_nil]; exact hown) (World.grownBy.refl w _)
  | some ad, _ =>
    have q1 : ∀ j u, (fl sz cell r)[j]? = some u → w.cell? (ad.add j) = some u := by
      intro j u hj
      obtain ⟨hi', rfl⟩ := fl_some hsz hj
      obtain ⟨b, off, hA', _, hc⟩ := hr (Nat.lt_of_le_of_lt (Nat.zero_le _) hi')
      injection hA' with hA'
      subst hA'
      rw [Go.WideShapes.add_plain]
      have := hc (j / sz) hi' (j % sz) (divmod hsz).2
      rw [← (divmod (j := j) hsz).1] at this
      exact this
    have hsrc : Src P i.size t (.slice (some ad) r.length cx) r.length (fl sz cell r) w :=
      Src.ofSlice w ht ad r.length cx _ (by rw [fl_len, hsize]) q1 (fl_mem h1)
    have hr := run_append_room_src (P := P) w t t o.type e i ht hi S 0 n c _ r.length (fl sz cell r) hsrc hroom (fun j hj => by
      rw [fl_len] at hj
      have : (n + r.length) * sz ≤ c * sz := Nat.mul_le_mul_right _ hroom
      rw [Nat.add_mul] at this
      rw [hsize, blk_cell k3, Array.getElem?_eq_getElem (by omega)]; rfl) (fun j hj => blk_free k3 _)
    unfold Oper.wp execOp
    simp only [ho, resolve, invoke, builtin, Sem.run_bind, Sem.run_pure, Result.andThen_ok, List.map_toArray, List.map_cons, List.map_nil, hs, hx, hr]
    rw [hsize, Nat.zero_add]
    exact h _ (own_sets hown rfl hroom) (sets_grown _ _ _ _)
theorem wpList_pushRoom {α : Type} {P : Program} (w : World) {ops : Array Oper} {rest : List Oper} {o : Oper} {a : Act} {Q : Exit → Act → World → Prop} (hgd : o.guard = none) (s x : Operand) (t : TypeId)
    (ho : o.op = .call { callee := .builtin .append, args := #[s, x], argTypes := #[t, t] })
    (base : Nat) (e : TypeId) (i : TypeInfo) (sz : Nat) (cell : α → Nat → Value) (ht : P.underlying t = some (.slice e)) (hi : P.info? e = some i) (hsize : i.size = sz) (hsz : 0 < sz)
    (S n c : Nat) (l : List α) (hs : a.eval s = .slice (some ⟨S, 0, none⟩) n c) (hown : Own w base e sz cell (.slice (some ⟨S, 0, none⟩) n c) l)
    (B : Nat) (A : Option Addr) (m cx : Nat) (r : List α) (hm : r.length = m) (hx : a.eval x = .slice A m cx) (hA : A = none → m = 0 ∧ cx = 0) (hr : Sl w B sz cell A r) (h1 : ∀ y j, (cell y j).oneCell' = true) (hroom : n + m ≤ c)
    (h : ∀ w', Own w' base e sz cell (.slice (some ⟨S, 0, none⟩) (n + m) c) (l ++ r) → w.grownBy w' (some S) → wpList P ops Q rest (a.put o.dst (.slice (some ⟨S, 0, none⟩) (n + m) c)) w') : wpList P ops Q (o :: rest) a w :=
  wpList_plain hgd fun _ hK => wp_pushRoom w s x t ho base e i sz cell ht hi hsize hsz S n c l hs hown B A m cx r hm hx hA hr h1 hroom fun w' h2 h3 => hK _ _ (h w' h2 h3)
end Go.Proofs.Ytamphgcpfncenaa.Room

namespace Go.Proofs.Ytamphgcpfncenaa.Room
open Go.RowKit Go.Proofs.Ytamphgcpfncenaa Go.Proofs.Ytamphgcpfncenaa.Net Go.Proofs.Ytamphgcpfncenaa.Std
set_option linter.unusedSimpArgs false
set_option linter.unusedVariables false
theorem rep_succ {α : Type} (l : List α) (x : α) (k : Nat) : (l ++ List.replicate k x) ++ [x] = l ++ List.replicate (k + 1) x := by
  rw [List.append_assoc, List.replicate_succ']

set_option maxRecDepth 100000 in
set_option maxHeartbeats 2000000 in
theorem spoil_int (A : Option Addr) (n m c base : Nat) (l : List Int) (x : Int) (w : World) (h : Own w base 3 1 ci (.slice A m c) l) (hnc : n ≤ c) :
    Calls Try.prog 19 #[.slice A n c, .int .i64 x] w fun e w' => e = .returned (.tuple #[]) ∧ w.grownBy w' (Value.slice A m c).ownBlock := by
  rcases h.2 with ⟨h1, _⟩ | ⟨g, cap, cur, h1, _, h3, _, h5, h6, _⟩
  · injection h1 with a _ b
    subst a b
    obtain rfl : n = 0 := by omega
    clear h hnc
    go_enter Try.func19, Try.ntmps19
    go_wp2
    go_loopw [11] (fun i wr => i = .int .i64 0 ∧ wr = w) (fun _ _ => 0)
    case atStart => exact ⟨rfl, rfl⟩
    case round =>
      obtain ⟨rfl, rfl⟩ := hrel
      go_wp2
      refine bodyPost_end (v := .tuple #[]) (by simp [results, Try.results19, go_sem]) rfl ⟨rfl, World.grownBy.refl _ _⟩
  · injection h1 with a _ b
    subst a b
    rw [Nat.mul_one] at h6
    have hb : ∃ cs : Array Value, w.heap[g]? = some (.cells cs 3 (0, 0)) ∧ cs.size = c := ⟨cur, h3, h6⟩
    have hc64 : c ≤ 9223372036854775807 := by unfold maxLen at h5; omega
    have HB := Lib.hid hb
    clear h h3 h6 hb h5
    go_enter Try.func19, Try.ntmps19
    go_wp2
    go_loopw [11] (fun i wr => ∃ k : Nat, k ≤ c ∧ i = .int .i64 k ∧ (∃ cs : Array Value, wr.heap[g]? = some (.cells cs 3 (0, 0)) ∧ cs.size = c) ∧ w.grownBy wr (some g)) (fun i _ => c - (intOf i).toNat)
    case atStart => exact ⟨0, by omega, rfl, HB.out, World.grownBy.refl _ _⟩
    case round =>
      obtain ⟨k, hk, rfl, ⟨cs, hb, hs⟩, hG⟩ := hrel
      by_cases hlt : k < c
      · have hk3 : (k : Int) < c := by omega
        have hcell := blk_cell hb k
        rw [Array.getElem?_eq_getElem (show k < cs.size by omega)] at hcell
        have hfr := blk_free hb k
        generalize cs[k]'(by omega) = y at hcell
        have hst : ∃ cs : Array Value, (wr.setCell ⟨g, k, none⟩ (.int .i64 x)).heap[g]? = some (.cells cs 3 (0, 0)) ∧ cs.size = c := ⟨_, blk_set hb k _, by rw [Array.size_setIfInBounds]; exact hs⟩
        have hg2 := hG.trans (sets_grown g [.int .i64 x] k wr)
        have hb0 := lt_of_block hb
        have HST := Lib.hid hst
        have HG := Lib.hid hg2
        clear hst hg2 hG hb hs
        go_wp2
        go_roundw
        case rel => exact ⟨k + 1, by omega, by go_num, HST.out, HG.out⟩
        case measure => simp [intOf]; omega
      · obtain rfl : k = c := by omega
        clear hb hs
        go_wp2
        refine bodyPost_end (v := .tuple #[]) (by simp [results, Try.results19, go_sem]) rfl ⟨rfl, hG⟩
end Go.Proofs.Ytamphgcpfncenaa.Room

namespace Go.Proofs.Ytamphgcpfncenaa.Room
open Go.RowKit Go.Proofs.Ytamphgcpfncenaa Go.Proofs.Ytamphgcpfncenaa.Net Go.Proofs.Ytamphgcpfncenaa.Std
set_option linter.unusedSimpArgs false
set_option linter.unusedVariables false

set_option maxRecDepth 100000 in
set_option maxHeartbeats 2000000 in
theorem spoil_edge (A : Option Addr) (n m c base : Nat) (l : List (Int × Int × Int)) (x y z : Int) (w : World) (h : Own w base 27 3 ce (.slice A m c) l) (hnc : n ≤ c) :
    Calls Try.prog 16 #[.slice A n c, .agg #[.int .i64 x, .int .i64 y, .int .i64 z]] w fun e w' => e = .returned (.tuple #[]) ∧ w.grownBy w' (Value.slice A m c).ownBlock := by
  rcases h.2 with ⟨h1, _⟩ | ⟨g, cap, cur, h1, _, h3, _, h5, h6, _⟩
  · injection h1 with a _ b
    subst a b
    obtain rfl : n = 0 := by omega
    clear h hnc
    go_enter Try.func16, Try.ntmps16
    go_wp2
    go_loopw [11] (fun i wr => i = .int .i64 0 ∧ wr = w.alloc (.cells #[.int .i64 x, .int .i64 y, .int .i64 z] 27)) (fun _ _ => 0)
    case atStart => exact ⟨rfl, rfl⟩
    case round =>
      obtain ⟨rfl, rfl⟩ := hrel
      go_wp2
      refine bodyPost_end (v := .tuple #[]) (by simp [results, Try.results16, go_sem]) rfl ⟨rfl, World.grownBy_alloc _ _ _⟩
  · injection h1 with a _ b
    subst a b
    have hg0 := lt_of_block h3
    have hb : ∃ cs : Array Value, (w.alloc (.cells #[.int .i64 x, .int .i64 y, .int .i64 z] 27)).heap[g]? = some (.cells cs 27 (0, 0)) ∧ cs.size = c * 3 := ⟨cur, blk_alloc h3 _, h6⟩
    have hx := heap_alloc_new w (.cells #[.int .i64 x, .int .i64 y, .int .i64 z] 27)
    have hc64 : c ≤ 9223372036854775807 := by unfold maxLen at h5; omega
    have HB := Lib.hid hb
    have HX := Lib.hid hx
    clear h h3 h6 hb h5 hx
    go_enter Try.func16, Try.ntmps16
    go_wp2
    go_loopw [11] (fun i wr => ∃ k : Nat, k ≤ c ∧ i = .int .i64 k ∧ (∃ cs : Array Value, wr.heap[g]? = some (.cells cs 27 (0, 0)) ∧ cs.size = c * 3) ∧ wr.heap[w.heap.size]? = some (.cells #[.int .i64 x, .int .i64 y, .int .i64 z] 27 (0, 0)) ∧ w.grownBy wr (some g)) (fun i _ => c - (intOf i).toNat)
    case atStart => exact ⟨0, by omega, rfl, HB.out, HX.out, World.grownBy_alloc _ _ _⟩
    case round =>
      obtain ⟨k, hk, rfl, ⟨cs, hb, hs⟩, hbox, hG⟩ := hrel
      by_cases hlt : k < c
      · have hk3 : (k : Int) < c := by omega
        have x0 := blk_cell hbox 0
        have x1 := blk_cell hbox 1
        have x2 := blk_cell hbox 2
        simp only [List.getElem?_toArray, List.getElem?_cons_zero, List.getElem?_cons_succ] at x0 x1 x2
        have hcell0 := blk_cell hb (k * 3)
        have hcell1 := blk_cell hb (k * 3 + 1)
        have hcell2 := blk_cell hb (k * 3 + 2)
        rw [Array.getElem?_eq_getElem (show k * 3 < cs.size by omega)] at hcell0
        rw [Array.getElem?_eq_getElem (show k * 3 + 1 < cs.size by omega)] at hcell1
        rw [Array.getElem?_eq_getElem (show k * 3 + 2 < cs.size by omega)] at hcell2
        have hfr0 := blk_free hb (k * 3)
        have hfr1 := blk_free hb (k * 3 + 1)
        have hfr2 := blk_free hb (k * 3 + 2)
        generalize cs[k * 3]'(by omega) = y0 at hcell0
        generalize cs[k * 3 + 1]'(by omega) = y1 at hcell1
        generalize cs[k * 3 + 2]'(by omega) = y2 at hcell2
        have hst : ∃ cs : Array Value, (((wr.setCell ⟨g, k * 3, none⟩ (.int .i64 x)).setCell ⟨g, k * 3 + 1, none⟩ (.int .i64 y)).setCell ⟨g, k * 3 + 2, none⟩ (.int .i64 z)).heap[g]? = some (.cells cs 27 (0, 0)) ∧ cs.size = c * 3 := ⟨_, blk_set (blk_set (blk_set hb _ _) _ _) _ _, by rw [Array.size_setIfInBounds, Array.size_setIfInBounds, Array.size_setIfInBounds]; exact hs⟩
        have hbx : (((wr.setCell ⟨g, k * 3, none⟩ (.int .i64 x)).setCell ⟨g, k * 3 + 1, none⟩ (.int .i64 y)).setCell ⟨g, k * 3 + 2, none⟩ (.int .i64 z)).heap[w.heap.size]? = some (.cells #[.int .i64 x, .int .i64 y, .int .i64 z] 27 (0, 0)) := blk_far (blk_far (blk_far hbox (by dsimp only; omega) _) (by dsimp only; omega) _) (by dsimp only; omega) _
        have hg2 := hG.trans (sets_grown g [.int .i64 x, .int .i64 y, .int .i64 z] (k * 3) wr)
        have hb0 := lt_of_block hb
        have hb1 := lt_of_block hbox
        have HST := Lib.hid hst
        have HBX := Lib.hid hbx
        have HG := Lib.hid hg2
        clear hst hg2 hG hb hs hbox hbx
        go_wp2
        go_roundw
        case rel => exact ⟨k + 1, by omega, by go_num, HST.out, HBX.out, HG.out⟩
        case measure => simp [intOf]; omega
      · obtain rfl : k = c := by omega
        clear hb hs hbox
        go_wp2
        refine bodyPost_end (v := .tuple #[]) (by simp [results, Try.results16, go_sem]) rfl ⟨rfl, hG⟩
end Go.Proofs.Ytamphgcpfncenaa.Room

namespace Go.Proofs.Ytamphgcpfncenaa.Room
open Go.RowKit Go.Proofs.Ytamphgcpfncenaa Go.Proofs.Ytamphgcpfncenaa.Net Go.Proofs.Ytamphgcpfncenaa.Std
set_option linter.unusedSimpArgs false
set_option linter.unusedVariables false
set_option maxRecDepth 100000 in
set_option maxHeartbeats 4000000 in
theorem spoil_ratio (A : Option Addr) (n m c base : Nat) (l : List (Int × Int)) (w : World) (h : Own w base 66 2 cp (.slice A m c) l) (hnc : n ≤ c) :
    Calls Try.prog 47 #[.slice A n c, .agg #[.int .i64 9, .int .i64 1]] w fun e w' => e = .returned (.tuple #[]) ∧ w.grownBy w' (Value.slice A m c).ownBlock := by
  rcases h.2 with ⟨h1, _⟩ | ⟨g, cap, cur, h1, _, h3, _, h5, h6, _⟩
  · injection h1 with a _ b
    subst a b
    obtain rfl : n = 0 := by omega
    clear h hnc
    go_enter Try.func47, Try.ntmps47
    go_wp2
    go_loopw [11] (fun i wr => i = .int .i64 0 ∧ wr = w.alloc (.cells #[.int .i64 9, .int .i64 1] 66)) (fun _ _ => 0)
    case atStart => exact ⟨rfl, rfl⟩
    case round =>
      obtain ⟨rfl, rfl⟩ := hrel
      go_wp2
      refine bodyPost_end (v := .tuple #[]) (by simp [results, Try.results47, go_sem]) rfl ⟨rfl, World.grownBy_alloc _ _ _⟩
  · injection h1 with a _ b
    subst a b
    have hg0 := lt_of_block h3
    have hb : ∃ cs : Array Value, (w.alloc (.cells #[.int .i64 9, .int .i64 1] 66)).heap[g]? = some (.cells cs 66 (0, 0)) ∧ cs.size = c * 2 := ⟨cur, blk_alloc h3 _, h6⟩
    have hx := heap_alloc_new w (.cells #[.int .i64 9, .int .i64 1] 66)
    have hc64 : c ≤ 9223372036854775807 := by unfold maxLen at h5; omega
    have HB := Lib.hid hb
    have HX := Lib.hid hx
    clear h h3 h6 hb h5 hx
    go_enter Try.func47, Try.ntmps47
    go_wp2
    go_loopw [11] (fun i wr => ∃ k : Nat, k ≤ c ∧ i = .int .i64 k ∧ (∃ cs : Array Value, wr.heap[g]? = some (.cells cs 66 (0, 0)) ∧ cs.size = c * 2) ∧ wr.heap[w.heap.size]? = some (.cells #[.int .i64 9, .int .i64 1] 66 (0, 0)) ∧ w.grownBy wr (some g)) (fun i _ => c - (intOf i).toNat)
    case atStart => exact ⟨0, by omega, rfl, HB.out, HX.out, World.grownBy_alloc _ _ _⟩
    case round =>
      obtain ⟨k, hk, rfl, ⟨cs, hb, hs⟩, hbox, hG⟩ := hrel
      by_cases hlt : k < c
      · have hk3 : (k : Int) < c := by omega
        have x0 := blk_cell hbox 0
        have x1 := blk_cell hbox 1
        simp only [List.getElem?_toArray, List.getElem?_cons_zero, List.getElem?_cons_succ] at x0 x1
        have hcell0 := blk_cell hb (k * 2)
        rw [Array.getElem?_eq_getElem (show k * 2 < cs.size by omega)] at hcell0
        have hfr0 := blk_free hb (k * 2)
        have hcell1 := blk_cell hb (k * 2 + 1)
        rw [Array.getElem?_eq_getElem (show k * 2 + 1 < cs.size by omega)] at hcell1
        have hfr1 := blk_free hb (k * 2 + 1)
        generalize cs[k * 2]'(by omega) = y0 at hcell0
        generalize cs[k * 2 + 1]'(by omega) = y1 at hcell1
        have hst : ∃ cs : Array Value, ((wr.setCell ⟨g, k * 2, none⟩ (.int .i64 9)).setCell ⟨g, k * 2 + 1, none⟩ (.int .i64 1)).heap[g]? = some (.cells cs 66 (0, 0)) ∧ cs.size = c * 2 := ⟨_, (blk_set (blk_set hb _ _) _ _), by simp only [Array.size_setIfInBounds]; exact hs⟩
        have hbx : ((wr.setCell ⟨g, k * 2, none⟩ (.int .i64 9)).setCell ⟨g, k * 2 + 1, none⟩ (.int .i64 1)).heap[w.heap.size]? = some (.cells #[.int .i64 9, .int .i64 1] 66 (0, 0)) := (blk_far (blk_far hbox (by dsimp only; omega) _) (by dsimp only; omega) _)
        have hg2 := hG.trans (sets_grown g [.int .i64 9, .int .i64 1] (k * 2) wr)
        have hb0 := lt_of_block hb
        have hb1 := lt_of_block hbox
        have HST := Lib.hid hst
        have HBX := Lib.hid hbx
        have HG := Lib.hid hg2
        clear hst hg2 hG hb hs hbox hbx
        go_wp2
        go_roundw
        case rel => exact ⟨k + 1, by omega, by go_num, HST.out, HBX.out, HG.out⟩
        case measure => simp [intOf]; omega
      · obtain rfl : k = c := by omega
        clear hb hs hbox
        go_wp2
        refine bodyPost_end (v := .tuple #[]) (by simp [results, Try.results47, go_sem]) rfl ⟨rfl, hG⟩
end Go.Proofs.Ytamphgcpfncenaa.Room
