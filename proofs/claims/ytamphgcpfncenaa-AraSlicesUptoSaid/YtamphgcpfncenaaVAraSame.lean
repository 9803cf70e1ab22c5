/- The walks of fellref.SameRound and of slices.EqualFunc over rounds. -/
import Derived.Test.YtamphgcpfncenaaVAraUse
import Derived.Test.YtamphgcpfncenaaVWayUse
namespace Go.Proofs.Ytamphgcpfncenaa.Ara
open Go.RowKit Go.Proofs.Ytamphgcpfncenaa NetLaw BellLaw StarLaw AraLaw Go.Proofs.Ytamphgcpfncenaa.Net Go.Proofs.Ytamphgcpfncenaa.Std Go.Proofs.Ytamphgcpfncenaa.Flow
set_option linter.unusedSimpArgs false
set_option linter.unusedVariables false
/-- rounds that may be read -/
structure RRd (w : World) (A : Option Addr) (k : Nat) (R : List RE) : Prop where
  len : R.length = k
  at_ : ∀ j, (h : j < R.length) → ∃ b off, A = some ⟨b, off, none⟩ ∧ b < w.heap.size ∧ (w.cell? ⟨b, off + j * 5, none⟩ = some (.int .i64 R[j].num) ∧ w.cell? ⟨b, off + j * 5 + 1, none⟩ = some (.int .i64 R[j].den) ∧ w.cell? ⟨b, off + j * 5 + 2, none⟩ = some (.slice R[j].A R[j].k R[j].c) ∧ w.cell? ⟨b, off + j * 5 + 3, none⟩ = some (.int .i64 R[j].cost) ∧ w.cell? ⟨b, off + j * 5 + 4, none⟩ = some (.int .i64 R[j].done)) ∧ Sl w w.heap.size 1 ci R[j].A R[j].path ∧ R[j].path.length = R[j].k
theorem RC.rd {w : World} {b : Nat} {A : Option Addr} {k c : Nat} {R : List RE} {rs : List Rnd} (h : RC w b A k c R rs) : RRd w A k R := by
  refine ⟨h.len.1, fun j hj => ?_⟩
  obtain ⟨S, c', hv, hb, hS, _, hc⟩ := h.own.some_ (by omega)
  have hA : A = some ⟨S, 0, none⟩ := by injection hv with hv
  have hw := h.ways R[j] (List.getElem_mem hj)
  refine ⟨S, 0, hA, hS, ?_, hw.sl.2, hw.sl.1.symm⟩
  rw [Nat.zero_add]
  exact ⟨(hc j hj 0 (by omega)).1, (hc j hj 1 (by omega)).1, (hc j hj 2 (by omega)).1, (hc j hj 3 (by omega)).1, (hc j hj 4 (by omega)).1⟩
theorem RRd.take {w : World} {A : Option Addr} {k : Nat} {R : List RE} (h : RRd w A k R) {m : Nat} (hm : m ≤ k) : RRd w A m (R.take m) := by
  refine ⟨by rw [List.length_take, h.len]; omega, fun j hj => ?_⟩
  rw [List.length_take, h.len] at hj
  have hj2 : j < R.length := by rw [h.len]; omega
  have e : (R.take m)[j]'(by rw [List.length_take, h.len]; exact hj) = R[j] := by rw [List.getElem_take]
  rw [e]
  exact h.at_ j hj2
theorem RRd.keep {w w' : World} {A : Option Addr} {k : Nat} {R : List RE} (h : RRd w A k R) (hb : Below w.heap.size w w') : RRd w' A k R := by
  refine ⟨h.len, fun j hj => ?_⟩
  obtain ⟨b, off, h1, h2, ⟨c0, c1, c2, c3, c4⟩, h4, h5⟩ := h.at_ j hj
  exact ⟨b, off, h1, Nat.lt_of_lt_of_le h2 hb.size, ⟨below_cells hb h2 c0, below_cells hb h2 c1, below_cells hb h2 c2, below_cells hb h2 c3, below_cells hb h2 c4⟩, (h4.keep hb (Nat.le_refl _)).more hb.size, h5⟩
def rv (x : RE) : Value := .agg #[.int .i64 x.num, .int .i64 x.den, .slice x.A x.k x.c, .int .i64 x.cost, .int .i64 x.done]
set_option maxRecDepth 100000 in
set_option maxHeartbeats 2000000 in
theorem same_round (x y : RE) (w : World) (hx : Sl w w.heap.size 1 ci x.A x.path) (hy : Sl w w.heap.size 1 ci y.A y.path) (hxl : x.path.length = x.k) (hyl : y.path.length = y.k) (hk : x.k ≤ 1000000) (he : x.rnd = y.rnd) :
    Calls Try.prog 45 #[rv x, rv y] w fun e w' => e = .returned (.bool true) ∧ Below w.heap.size w w' := by
  obtain ⟨p, q, A, k, c, co, dn, pth⟩ := x
  obtain ⟨p', q', A', k', c', co', dn', pth'⟩ := y
  simp only [RE.rnd, Rnd.mk.injEq] at he
  obtain ⟨rfl, rfl, rfl, rfl, rfl⟩ := he
  simp only at hx hy hxl hyl hk
  have hkk : k' = k := by omega
  subst hkk
  have hw0 : Below w.heap.size w ((w.alloc (.cells #[.int .i64 p, .int .i64 q, .slice A k' c, .int .i64 co, .int .i64 dn] 69)).alloc (.cells #[.int .i64 p, .int .i64 q, .slice A' k' c', .int .i64 co, .int .i64 dn] 69)) := ((Below.refl _ _).alloc (Nat.le_refl _) _).alloc (by simp) _
  have ksw := WayUse.same_way A A' k' k' c c' pth pth co co _ ((hx.keep hw0 (Nat.le_refl _)).more hw0.size) ((hy.keep hw0 (Nat.le_refl _)).more hw0.size) hxl hyl (by omega) true (by simp)
  have KSW := Lib.hid ksw
  have HW0 := Lib.hid hw0
  unfold rv
  simp only
  clear ksw hw0 hx hy hxl hyl
  go_enter Try.func45, Try.ntmps45
  go_wp2_with fail
  refine KSW.out.mono ?_
  rintro e w1 ⟨rfl, hb1⟩
  have HB1 := Lib.hid (HW0.out.trans (hb1.mono HW0.out.size))
  clear hb1 KSW HW0
  go_wp2
  go_ret
  exact ⟨rfl, HB1.out⟩
set_option maxRecDepth 100000 in
set_option maxHeartbeats 4000000 in
theorem same_rounds (A A' : Option Addr) (m c c' : Nat) (R R' : List RE) (w : World) (h : RRd w A m R) (h' : RRd w A' m R') (hk : ∀ x ∈ R, x.k ≤ 64) (hlen : m ≤ 1000000) (heq : R.map RE.rnd = R'.map RE.rnd) :
    Calls Try.prog 44 #[.slice A m c, .slice A' m c', .func (.func 45) #[] #[]] w fun e w' => e = .returned (.bool true) ∧ Below w.heap.size w w' := by
  have HW := Lib.hid h
  have HW' := Lib.hid h'
  have HEQ := Lib.hid heq
  have HK := Lib.hid hk
  clear h h' heq hk
  go_enter Try.func44, Try.ntmps44
  go_wp2
  go_loopw [17] (fun i wr => ∃ k : Nat, k ≤ m ∧ i = .int .i64 k ∧ Hid (Below w.heap.size w wr)) (fun i _ => m - (intOf i).toNat)
  case atStart => exact ⟨0, Nat.zero_le _, rfl, Lib.hid (Below.refl _ _)⟩
  case round =>
    obtain ⟨k, hk, rfl, HB⟩ := hrel
    by_cases hlt : k < m
    · have h1 := HW.out.keep HB.out
      have h2 := HW'.out.keep HB.out
      have hk1 : k < R.length := by rw [h1.len]; exact hlt
      have hk2 : k < R'.length := by rw [h2.len]; exact hlt
      obtain ⟨b, off, rfl, hb, ⟨c0, c1, c2, c3, c4⟩, hp, hpl⟩ := h1.at_ k hk1
      obtain ⟨b', off', rfl, hb', ⟨d0, d1, d2, d3, d4⟩, hq, hql⟩ := h2.at_ k hk2
      have hkk : (R.map RE.rnd)[k]? = (R'.map RE.rnd)[k]? := by rw [HEQ.out]
      rw [List.getElem?_map, List.getElem?_map, List.getElem?_eq_getElem hk1, List.getElem?_eq_getElem hk2] at hkk
      simp only [Option.map_some, Option.some.injEq] at hkk
      have hx64 := HK.out _ (List.getElem_mem hk1)
      generalize R[k] = x at *
      generalize R'[k] = y at *
      have hbb : Below wr.heap.size wr ((wr.alloc (.cells #[.int .i64 x.num, .int .i64 x.den, .slice x.A x.k x.c, .int .i64 x.cost, .int .i64 x.done] 69)).alloc (.cells #[.int .i64 y.num, .int .i64 y.den, .slice y.A y.k y.c, .int .i64 y.cost, .int .i64 y.done] 69)) := ((Below.refl _ _).alloc (Nat.le_refl _) _).alloc (by simp) _
      have ksw := same_round x y _ ((hp.keep hbb (Nat.le_refl _)).more hbb.size) ((hq.keep hbb (Nat.le_refl _)).more hbb.size) hpl hql (by omega) hkk
      unfold rv at ksw
      have KSW := Lib.hid ksw
      have HLO := Lib.hid (HB.out.trans (hbb.mono HB.out.size))
      have hx1 := blk_alloc (heap_alloc_new wr (.cells #[.int .i64 x.num, .int .i64 x.den, .slice x.A x.k x.c, .int .i64 x.cost, .int .i64 x.done] 69)) (.cells #[.int .i64 y.num, .int .i64 y.den, .slice y.A y.k y.c, .int .i64 y.cost, .int .i64 y.done] 69)
      have z0 := blk_cell hx1 0
      have z1 := blk_cell hx1 1
      have z2 := blk_cell hx1 2
      have z3 := blk_cell hx1 3
      have z4 := blk_cell hx1 4
      simp only [List.getElem?_toArray, List.getElem?_cons_zero, List.getElem?_cons_succ] at z0 z1 z2 z3 z4
      clear ksw hbb hp hq hpl hql hx1 hkk h1 h2 hk1 hk2
      go_wp2_with fail
      refine KSW.out.mono ?_
      rintro e w2 ⟨rfl, hb2⟩
      have HB2 := Lib.hid (HLO.out.trans (hb2.mono HLO.out.size))
      clear hb2 KSW z0 z1 z2 z3 z4 c0 c1 c2 c3 c4 d0 d1 d2 d3 d4
      go_wp2
      go_roundw
      case rel => exact ⟨k + 1, by omega, by go_num, HB2⟩
      case measure => simp [intOf]; omega
    · obtain rfl : m = k := by omega
      go_wp2
      go_ret
      exact ⟨rfl, HB.out⟩
end Go.Proofs.Ytamphgcpfncenaa.Ara
