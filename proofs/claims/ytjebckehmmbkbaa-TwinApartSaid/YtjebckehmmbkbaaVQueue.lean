/- Go's own slices package at []int: what Equal and Clone answer. -/
/- A queue of numbers: a slice of the call's own that is cut at its head and appended to at its end. -/
import Derived.Test.YtjebckehmmbkbaaVSlice
import Derived.Lib.SliceRun
import Derived.Test.YtjebckehmmbkbaaVNetTurn
import Derived.Deep.AppendSrc
namespace Go.Proofs.Ytjebckehmmbkbaa.Std
open Go.RowKit Go.Proofs.Ytjebckehmmbkbaa
set_option linter.unusedSimpArgs false
set_option linter.unusedVariables false

theorem take_eq {α : Type} {l m : List α} {k : Nat} (h : l.take k = m.take k) (hl : k < l.length) (hm : k < m.length) (he : l[k] = m[k]) : l.take (k + 1) = m.take (k + 1) := by
  rw [List.take_succ_eq_append_getElem hl, List.take_succ_eq_append_getElem hm, h, he]
theorem getElem_of_take {α : Type} {l m : List α} (h : l = m) {k : Nat} (hl : k < l.length) (hm : k < m.length) : l[k] = m[k] := by subst h; rfl

set_option maxHeartbeats 1000000 in
theorem equal_int (A A' : Option Addr) (c c' : Nat) (l m : List Int) (B B' : Nat) (w : World) (hl : Sl w B 1 ci A l) (hm : Sl w B' 1 ci A' m) (hlen : l.length ≤ 9223372036854775807) :
    Calls Try.prog 23 #[.slice A l.length c, .slice A' m.length c'] w fun e w' => e = .returned (.bool (decide (l = m))) ∧ ∃ n, w' = w.drewN n := by
  by_cases he : l.length = m.length
  · have hm' : (l.length : Int) = m.length := by omega
    have h0 : ((l.length : Int) != (m.length : Int)) = false := by rw [bne_eq_false_iff_eq]; exact hm'
    have HE := Lib.hid he
    clear he hm'
    go_enter Try.func23, Try.ntmps23
    go_wp2
    go_loopw [13] (fun i wr => ∃ k : Nat, k ≤ l.length ∧ i = .int .i64 k ∧ l.take k = m.take k ∧ ∃ n, wr = w.drewN n) (fun i _ => l.length - (intOf i).toNat)
    case atStart => exact ⟨0, Nat.zero_le _, rfl, by simp, 0, rfl⟩
    case round =>
      obtain ⟨k, hk, rfl, htk, n, rfl⟩ := hrel
      have HT := Lib.hid htk
      clear htk
      by_cases hlt : k < l.length
      · have hlt' : k < m.length := by have := HE.out; omega
        obtain ⟨b, off, rfl, hbB, hc1⟩ := hl.atI hlt
        obtain ⟨b', off', rfl, hbB', hc2⟩ := hm.atI hlt'
        obtain ⟨x, hx⟩ : ∃ x, x = l[k] := ⟨_, rfl⟩
        obtain ⟨y, hy⟩ : ∃ y, y = m[k] := ⟨_, rfl⟩
        rw [← hx] at hc1
        rw [← hy] at hc2
        have HX := Lib.hid hx
        have HY := Lib.hid hy
        clear hx hy hl hm
        by_cases hxy : x = y
        · subst hxy
          go_wp2
          go_quiet (fail)
          go_wp2
          go_roundw
          case rel => exact ⟨k + 1, by omega, by go_num, take_eq HT.out hlt hlt' (HX.out.symm.trans HY.out), n + nq, by first | rfl | exact World.drewN_drewN _ _ _⟩
          case measure => simp [intOf]; omega
        · have hne : (x != y) = true := by rw [bne_iff_ne]; exact hxy
          go_wp2
          go_quiet (fail)
          go_wp2
          go_ret
          exact ⟨ret_bool (by symm; rw [decide_eq_false_iff_not]; exact fun e => hxy (HX.out.trans ((getElem_of_take e hlt hlt').trans HY.out.symm))), n + nq, by first | rfl | exact World.drewN_drewN _ _ _⟩
      · obtain rfl : k = l.length := by omega
        go_wp2
        go_ret
        refine ⟨ret_bool ?_, n, rfl⟩
        have h1 := HT.out
        rw [List.take_length, List.take_of_length_le (by have := HE.out; omega)] at h1
        symm
        rw [decide_eq_true_eq]
        exact h1
  · have hne : ((l.length : Int) != (m.length : Int)) = true := by rw [bne_iff_ne]; omega
    have HE := Lib.hid he
    clear he hl hm
    go_enter Try.func23, Try.ntmps23
    go_wp2
    go_ret
    exact ⟨ret_bool (by symm; rw [decide_eq_false_iff_not]; exact fun e => HE.out (by rw [e])), 0, rfl⟩

theorem sl_new' {α : Type} {sz : Nat} (hsz : 0 < sz) {cell : α → Nat → Value} (w : World) (cs : Array Value) (e : TypeId) (l : List α) {g : Nat} (hg : w.heap.size = g) (h : cs.toList = fl sz cell l) : Sl (w.alloc (.cells cs e)) (w.alloc (.cells cs e)).heap.size sz cell (some ⟨g, 0, none⟩) l := by
  subst hg
  exact sl_new hsz w cs e l h
theorem infoInt : (Try.prog.info? 3).map (fun i => (i.zero, i.size, i.bytes)) = some (some (.int .i64 0), 1, 8) := by kernel_rfl
/-- what Clone answers: a list of the call's own -/
def SomeClone {α : Type} (e : TypeId) (sz : Nat) (cell : α → Nat → Value) (l : List α) (w : World) (en : Ending) (w' : World) : Prop :=
  ∃ A c, en = .returned (.slice A l.length c) ∧ Own w' w.heap.size e sz cell (.slice A l.length c) l ∧ Below w.heap.size w w'

set_option maxHeartbeats 1000000 in
theorem clone_int (A : Option Addr) (c : Nat) (l : List Int) (B : Nat) (w : World) (hl : Sl w B 1 ci A l) (hB : B ≤ w.heap.size) (hA : A = none → l.length = 0 ∧ c = 0) (hlen : l.length * 8 ≤ 140737488355328) :
    Calls Try.prog 37 #[.slice A l.length c] w fun e w' => SomeClone 3 1 ci l w e w' := by
  have qT : ∀ (w : World) (a : Option Addr) (n c n' c' : Nat), (binOp .eql 29 (.slice a n c) (.slice none n' c')).run Try.prog w = .ok (.bool a.isNone) w := fun w a n c n' c' => Lib.run_eql_slice_nil w 29 3 a n c n' c' Try.underlying29
  match A, hA with
  | none, hA =>
    obtain ⟨h0, rfl⟩ := hA rfl
    have hl0 : l = [] := List.eq_nil_of_length_eq_zero h0
    subst hl0
    go_enter Try.func37, Try.ntmps37
    go_wp2
    go_ret
    exact ⟨none, 0, rfl, Own.nil_, Below.refl _ _⟩
  | some ad, hA =>
    obtain ⟨i0, hi, hz0, hz1, hz2⟩ := info_parts infoInt
    have hmade : Own (w.alloc (.cells #[] 3)) w.heap.size 3 1 ci (.slice (some ⟨w.heap.size, 0, none⟩) 0 0) [] := World.ownsRow_made w #[] 0 (Nat.le_refl _) (Nat.zero_le _) rfl
    go_enter Try.func37, Try.ntmps37
    go_wp2_with (at_builtin; refine wpList_pushAll _ rfl (.tmp 5) (.tmp 6) _ rfl w.heap.size 3 i0 (.int .i64 0) 1 8 ci Try.underlying29 hi hz0 hz1 hz2 rfl (by decide) _ [] 0 rfl rfl hmade w.heap.size (some ad) _ _ l rfl rfl hA ((hl.more hB).keep ((Below.refl _ _).alloc (Nat.le_refl _) _) (Nat.le_refl _)) one_ci (by omega) (by omega) (by simp) ?_; intro A1 c1 w1 hown1 hgrow1 hat1)
    simp only [Nat.zero_add, List.nil_append] at hown1
    go_ret
    exact ⟨A1, c1, by simp, hown1, ((Below.refl _ _).alloc (Nat.le_refl _) _).grown hgrow1 (by simp) (hmade.lo)⟩

theorem equal_int' (A A' : Option Addr) (n m c c' : Nat) (l r : List Int) (B B' : Nat) (w : World) (hl : Sl w B 1 ci A l) (hm : Sl w B' 1 ci A' r) (hn : l.length = n) (hm' : r.length = m) (hlen : n ≤ 9223372036854775807) (b : Bool) (hb : decide (l = r) = b) :
    Calls Try.prog 23 #[.slice A n c, .slice A' m c'] w fun e w' => e = .returned (.bool b) ∧ ∃ k, w' = w.drewN k := by
  subst hn hm' hb
  exact equal_int A A' c c' l r B B' w hl hm hlen
end Go.Proofs.Ytjebckehmmbkbaa.Std

namespace Go.Proofs.Ytjebckehmmbkbaa.Queue
open Go.RowKit Go.Proofs.Ytjebckehmmbkbaa Go.Proofs.Ytjebckehmmbkbaa.Net Go.Proofs.Ytjebckehmmbkbaa.Std
set_option linter.unusedSimpArgs false
set_option linter.unusedVariables false
structure Qu (w : World) (base b off m c : Nat) (l : List Int) : Prop where
  lo : base ≤ b
  len : l.length = m
  le : m ≤ c
  blk : ∃ cs, w.heap[b]? = some (.cells cs 3 (0, 0)) ∧ off + c ≤ cs.size ∧ ∀ i (h : i < l.length), cs[off + i]? = some (.int .i64 l[i])
section
variable {w w' : World} {base b off m c : Nat} {l : List Int}
theorem Qu.lt (h : Qu w base b off m c l) : b < w.heap.size := by obtain ⟨cs, hb, _⟩ := h.blk; exact lt_of_block hb
theorem Qu.keepB (h : Qu w base b off m c l) (hb : w'.heap[b]? = w.heap[b]?) : Qu w' base b off m c l := by
  obtain ⟨cs, h1, h2⟩ := h.blk
  exact ⟨h.lo, h.len, h.le, cs, hb.trans h1, h2⟩
theorem Qu.keep (h : Qu w base b off m c l) (hb : Below w.heap.size w w') : Qu w' base b off m c l := h.keepB (hb.block b h.lt)
theorem Qu.alloc (h : Qu w base b off m c l) (o : Obj) : Qu (w.alloc o) base b off m c l := h.keep ((Below.refl _ _).alloc (Nat.le_refl _) _)
theorem Qu.drewN (h : Qu w base b off m c l) (k : Nat) : Qu (w.drewN k) base b off m c l := h.keep (below_drewN (Below.refl _ _) k)
theorem Qu.setCell (h : Qu w base b off m c l) {p : Addr} (hp : p.block ≠ b) (u : Value) : Qu (w.setCell p u) base b off m c l := h.keepB (Below.heap_setCell _ _ _ _ (fun e => hp e.symm))
/-- its head -/
theorem Qu.head {x : Int} (h : Qu w base b off m c (x :: l)) : w.cell? ⟨b, off, none⟩ = some (.int .i64 x) := by
  obtain ⟨cs, h1, _, h3⟩ := h.blk
  have := h3 0 (by simp)
  rw [Nat.add_zero] at this
  rw [blk_cell h1]
  exact this
/-- without its head -/
theorem Qu.tail {x : Int} (h : Qu w base b off (m + 1) c (x :: l)) : Qu w base b (if c = 1 then off else off + 1) m (c - 1) l := by
  obtain ⟨cs, h1, h2, h3⟩ := h.blk
  have hl := h.len
  have hle := h.le
  rw [List.length_cons] at hl
  by_cases hc : c = 1
  · rw [if_pos hc]
    refine ⟨h.lo, by omega, by omega, cs, h1, by omega, fun i hi => by omega⟩
  · rw [if_neg hc]
    refine ⟨h.lo, by omega, by omega, cs, h1, by omega, fun i hi => ?_⟩
    have := h3 (i + 1) (by simp; omega)
    rw [show off + 1 + i = off + (i + 1) by omega, this]
    simp
theorem Qu.new (w : World) (base : Nat) (x : Int) {g : Nat} (hg : w.heap.size = g) (hb : base ≤ g) : Qu (w.alloc (.cells #[.int .i64 x] 3)) base g 0 1 1 [x] := by
  subst hg
  refine ⟨hb, rfl, Nat.le_refl _, _, heap_alloc_new w _, by simp, fun i hi => ?_⟩
  obtain rfl : i = 0 := by simp at hi; exact hi
  simp
end
/-- what a push leaves -/
structure Pushed (w w' : World) (base b b' : Nat) : Prop where
  below : Below base w w'
  other : ∀ (g : Nat) (o : Obj), g ≠ b → w.heap[g]? = some o → w'.heap[g]? = some o
  at_ : b' = b ∨ b' = w.heap.size
  size : w.heap.size ≤ w'.heap.size
theorem wp_qpush {P : Program} (w : World) {o : Oper} {a : Act} {K : Act → World → Prop} {Q : Exit → Act → World → Prop} (s x : Operand) (t : TypeId)
    (ho : o.op = .call { callee := .builtin .append, args := #[s, x], argTypes := #[t, t] })
    (i : TypeInfo) (ht : P.underlying t = some (.slice 3)) (hi : P.info? 3 = some i) (hz : i.zero = some (.int .i64 0)) (hsize : i.size = 1) (hby : i.bytes = 8)
    (base b off m c : Nat) (l : List Int) (hs : a.eval s = .slice (some ⟨b, off, none⟩) m c) (hq : Qu w base b off m c l) (hbase : base ≤ w.heap.size)
    (g cx : Nat) (y : Int) (hx : a.eval x = .slice (some ⟨g, 0, none⟩) 1 cx) (hnew : w.cell? ⟨g, 0, none⟩ = some (.int .i64 y)) (hm : m ≤ 1000000)
    (h : ∀ b' off' c' w', Qu w' base b' off' (m + 1) c' (l ++ [y]) → Pushed w w' base b b' → K (a.put o.dst (.slice (some ⟨b', off', none⟩) (m + 1) c')) w') : o.wp P a w K Q := by
  obtain ⟨cs, hb, hsz, hc⟩ := hq.blk
  have hl := hq.len
  have hsrc : Src P i.size t (.slice (some ⟨g, 0, none⟩) 1 cx) 1 [.int .i64 y] w := by
    refine Src.ofSlice w ht _ 1 cx _ (by rw [hsize]; rfl) (fun j u hj => ?_) (fun u hu => by rw [List.mem_singleton] at hu; subst hu; rfl)
    match j, hj with
    | 0, hj =>
      simp at hj
      subst hj
      simpa [Go.WideShapes.add_plain] using hnew
    | j + 1, hj => simp at hj
  have hcell : ∀ j, w.cell? ⟨b, j, none⟩ = cs[j]? := fun j => blk_cell hb j
  by_cases hroom : m + 1 ≤ c
  · have hr := run_append_room_src (P := P) w t t o.type 3 i ht hi b off m c _ 1 [.int .i64 y] hsrc hroom (fun j hj => by
      rw [List.length_singleton] at hj
      rw [hsize, hcell, Array.getElem?_eq_getElem (by omega)]; rfl) (fun j hj => blk_free hb _)
    unfold Oper.wp execOp
    simp only [ho, resolve, invoke, builtin, Sem.run_bind, Sem.run_pure, Result.andThen_ok, List.map_toArray, List.map_cons, List.map_nil, hs, hx, hr]
    have e : w.setCells b (off + m * i.size) [.int .i64 y] = w.setCell ⟨b, off + m, none⟩ (.int .i64 y) := by rw [hsize, Nat.mul_one]; rfl
    rw [e]
    refine h b off c _ ⟨hq.lo, by rw [List.length_append, hl]; rfl, hroom, _, blk_set hb (off + m) (.int .i64 y), by rw [Array.size_setIfInBounds]; exact hsz, fun j hj => ?_⟩ ⟨(Below.refl _ _).setCell hq.lo _, fun g' o' hne hg' => blk_far hg' hne _, .inl rfl, by simp [World.setCell]⟩
    rw [Array.getElem?_setIfInBounds]
    rw [List.length_append, List.length_singleton] at hj
    by_cases hjm : j = m
    · subst hjm
      rw [if_pos rfl, if_pos (by omega)]
      simp [hl]
    · rw [if_neg (by omega), hc j (by omega), List.getElem_append_left (by omega)]
  · have hcl : ∀ j v, (l.map fun x : Int => (Value.int .i64 x))[j]? = some v → w.drew.cell? ((⟨b, off, none⟩ : Addr).add j) = some v := fun j v hj => by
      rw [List.getElem?_map] at hj
      rcases Nat.lt_or_ge j l.length with hlt | hge
      · rw [List.getElem?_eq_getElem hlt] at hj
        injection hj with hj
        subst hj
        rw [Go.WideShapes.add_plain]
        exact (hcell _).trans (hc j hlt)
      · rw [List.getElem?_eq_none hge] at hj; cases hj
    have hold := run_firstCells_some (P := P) w.drew i.size m ⟨b, off, none⟩ m c (l.map fun x : Int => (Value.int .i64 x)) (by rw [List.length_map, hsize, hl, Nat.mul_one]) hcl
    have hr := run_append_grow_src (P := P) w t t o.type 3 i (.int .i64 0) ht hi hz (some ⟨b, off, none⟩) m c _ hold _ 1 [.int .i64 y] hsrc (by omega) (by omega) (by rw [hby]; exact growslice_fits (by omega) (by omega))
    have hG := grownCap_ge w (m + 1) c 3
    unfold Oper.wp execOp
    simp only [ho, resolve, invoke, builtin, Sem.run_bind, Sem.run_pure, Result.andThen_ok, List.map_toArray, List.map_cons, List.map_nil, hs, hx, hr]
    refine h w.heap.size 0 _ _ ⟨hbase, by rw [List.length_append, hl]; rfl, hG, _, heap_alloc_new w.drew _, ?_, fun j hj => ?_⟩ ⟨((Below.refl _ _).drew).alloc hbase _, fun g' o' hne hg' => blk_alloc (w := w.drew) hg' _, .inr rfl, by simp⟩
    · simp [Builtin.zeroCells, Value.cells, hl]; omega
    · rw [List.length_append, List.length_singleton] at hj
      rw [Nat.zero_add]
      have e : (l.map (fun x : Int => (Value.int .i64 x)) ++ [.int .i64 y]) = (l ++ [y]).map fun x : Int => (Value.int .i64 x) := by simp
      rw [e, Array.getElem?_append_left (by simp; omega)]
      rw [List.getElem?_toArray, List.getElem?_map, List.getElem?_eq_getElem (by simp; omega)]
      rfl
theorem wpList_qpush {P : Program} (w : World) {ops : Array Oper} {rest : List Oper} {o : Oper} {a : Act} {Q : Exit → Act → World → Prop} (hgd : o.guard = none) (s x : Operand) (t : TypeId)
    (ho : o.op = .call { callee := .builtin .append, args := #[s, x], argTypes := #[t, t] })
    (i : TypeInfo) (ht : P.underlying t = some (.slice 3)) (hi : P.info? 3 = some i) (hz : i.zero = some (.int .i64 0)) (hsize : i.size = 1) (hby : i.bytes = 8)
    (base b off m c : Nat) (l : List Int) (hs : a.eval s = .slice (some ⟨b, off, none⟩) m c) (hq : Qu w base b off m c l) (hbase : base ≤ w.heap.size)
    (g cx : Nat) (y : Int) (hx : a.eval x = .slice (some ⟨g, 0, none⟩) 1 cx) (hnew : w.cell? ⟨g, 0, none⟩ = some (.int .i64 y)) (hm : m ≤ 1000000)
    (h : ∀ b' off' c' w', Qu w' base b' off' (m + 1) c' (l ++ [y]) → Pushed w w' base b b' → wpList P ops Q rest (a.put o.dst (.slice (some ⟨b', off', none⟩) (m + 1) c')) w') : wpList P ops Q (o :: rest) a w :=
  wpList_plain hgd fun _ hK => wp_qpush w s x t ho i ht hi hz hsize hby base b off m c l hs hq hbase g cx y hx hnew hm fun b' off' c' w' h1 h2 => hK _ _ (h b' off' c' w' h1 h2)
end Go.Proofs.Ytjebckehmmbkbaa.Queue
