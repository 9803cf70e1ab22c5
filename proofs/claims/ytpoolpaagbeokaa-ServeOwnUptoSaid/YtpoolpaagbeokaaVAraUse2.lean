/- ara.Run where nothing can be found; on the small net; what a law's walk keeps. -/
/- The walks of fellref.SameRound and of slices.EqualFunc over rounds. -/
/- A search on the small net; plain facts on its end; ways that lead on. -/
import Derived.Test.YtpoolpaagbeokaaVAraRunW
import Derived.Test.YtpoolpaagbeokaaVAraTwo
import Derived.Test.YtpoolpaagbeokaaVOpen
import Derived.Test.YtpoolpaagbeokaaVWayUse
namespace Go.Proofs.Ytpoolpaagbeokaa.Ara
open Go.RowKit Go.Proofs.Ytpoolpaagbeokaa NetLaw BellLaw StarLaw AraLaw Go.Proofs.Ytpoolpaagbeokaa.Net Go.Proofs.Ytpoolpaagbeokaa.Std Go.Proofs.Ytpoolpaagbeokaa.Flow
open Go.Proofs.Ytpoolpaagbeokaa.StarF (slook slook_any slook_zero)
set_option linter.unusedSimpArgs false
set_option linter.unusedVariables false
/-- a round's cells -/
theorem RC.at_ {w : World} {b : Nat} {A : Option Addr} {k c : Nat} {R : List RE} {rs : List Rnd} (h : RC w b A k c R rs) {j : Nat} (hj : j < k) : ∃ x S, R[j]? = some x ∧ x ∈ R ∧ rs[j]? = some x.rnd ∧ A = some ⟨S, 0, none⟩ ∧ b ≤ S ∧ S < w.heap.size ∧ (w.cell? ⟨S, j * 5, none⟩ = some (.int .i64 x.num) ∧ w.cell? ⟨S, j * 5 + 1, none⟩ = some (.int .i64 x.den) ∧ w.cell? ⟨S, j * 5 + 2, none⟩ = some (.slice x.A x.k x.c) ∧ w.cell? ⟨S, j * 5 + 3, none⟩ = some (.int .i64 x.cost) ∧ w.cell? ⟨S, j * 5 + 4, none⟩ = some (.int .i64 x.done)) ∧ ∃ cs, w.heap[S]? = some (.cells cs 43 (0, 0)) := by
  have hl := h.len.1
  obtain ⟨S, c', hv, hb, hS, _, hc⟩ := h.own.some_ (by omega)
  have hi : j < R.length := by omega
  have hA : A = some ⟨S, 0, none⟩ := by injection hv with hv
  have ho := h.own
  rw [hA] at ho
  refine ⟨R[j], S, List.getElem?_eq_getElem hi, List.getElem_mem hi, ?_, hA, hb, hS, ⟨(hc j hi 0 (by omega)).1, (hc j hi 1 (by omega)).1, (hc j hi 2 (by omega)).1, (hc j hi 3 (by omega)).1, (hc j hi 4 (by omega)).1⟩, own_blk ho⟩
  rw [← h.rnd, List.getElem?_map, List.getElem?_eq_getElem hi]
  rfl
theorem one_anyA (w : World) : Calls Try.prog 21 #[] w fun e w' => e = .returned (.agg #[.int .i64 1, .int .i64 1]) ∧ Below w.heap.size w w' := by
  go_enter Try.func21, Try.ntmps21
  go_wp2
  refine bodyPost_ret (v := .agg #[.int .i64 1, .int .i64 1]) (by simp [results, Try.results21, go_sem]) rfl ⟨rfl, ?_⟩
  exact (Below.refl _ _).alloc (Nat.le_refl _) _
/-- what a law's walk keeps -/
theorem abox {w W : World} {N : Int} {A : Option Addr} {c : Nat} {l : List E} {Ah : Option Addr} {h : List Int} {Aw : Option Addr} {ws : List (Int × Int)} (hs : Sl w w.heap.size 3 ce A l) (hss : Sl w w.heap.size 1 ci Ah h) (hws : Sl w w.heap.size 2 cp Aw ws) (hW : Below (w.heap.size + 1) (w.alloc (.cells #[.int .i64 N, .slice A l.length c] 52)) W) :
    (W.cell? ⟨w.heap.size, 0, none⟩ = some (.int .i64 N) ∧ W.cell? ⟨w.heap.size, 1, none⟩ = some (.slice A l.length c) ∧ w.heap.size + 1 ≤ W.heap.size) ∧ (Sl W W.heap.size 3 ce A l ∧ Sl W W.heap.size 1 ci Ah h ∧ Sl W W.heap.size 2 cp Aw ws) ∧ Below w.heap.size w W := by
  have hb0 : Below w.heap.size w (w.alloc (.cells #[.int .i64 N, .slice A l.length c] 52)) := (Below.refl _ _).alloc (Nat.le_refl _) _
  have hb := hb0.trans (hW.mono (Nat.le_succ _))
  have hbx := blk_below (heap_alloc_new w (.cells #[.int .i64 N, .slice A l.length c] 52)) hW (Nat.lt_succ_self _)
  have q0 := blk_cell hbx 0
  have q1 := blk_cell hbx 1
  simp only [List.getElem?_toArray, List.getElem?_cons_zero, List.getElem?_cons_succ] at q0 q1
  exact ⟨⟨q0, q1, lt_of_block hbx⟩, ⟨(hs.keep hb (Nat.le_refl _)).more hb.size, (hss.keep hb (Nat.le_refl _)).more hb.size, (hws.keep hb (Nat.le_refl _)).more hb.size⟩, hb⟩
end Go.Proofs.Ytpoolpaagbeokaa.Ara

namespace Go.Proofs.Ytpoolpaagbeokaa.Ara
open Go.RowKit Go.Proofs.Ytpoolpaagbeokaa NetLaw BellLaw StarLaw AraLaw Go.Proofs.Ytpoolpaagbeokaa.Net Go.Proofs.Ytpoolpaagbeokaa.Std Go.Proofs.Ytpoolpaagbeokaa.Flow
set_option linter.unusedSimpArgs false
set_option linter.unusedVariables false
/-- rounds that may be read -/
structure RRd (w : World) (A : Option Addr) (k : Nat) (R : List RE) : Prop where
  len : R.length = k
  at_ : ∀ j, (h : j < R.length) → ∃ b off, A = some ⟨b, off, none⟩ ∧ b < w.heap.size ∧ (w.cell? ⟨b, off + j * 5, none⟩ = some (.int .i64 R[j].num) ∧ w.cell? ⟨b, off + j * 5 + 1, none⟩ = some (.int .i64 R[j].den) ∧ w.cell? ⟨b, off + j * 5 + 2, none⟩ = some (.slice R[j].A R[j].k R[j].c) ∧ w.cell? ⟨b, off + j * 5 + 3, none⟩ = some (.int .i64 R[j].cost) ∧ w.cell? ⟨b, off + j * 5 + 4, none⟩ = some (.int .i64 R[j].done)) ∧ Sl w w.heap.size 1 ci R[j].A R[j].path ∧ R[j].path.length = R[j].k
theorem RC.rd {w : World} {b : Nat} {A : Option Addr} {k c : Nat} {R : List RE} {rs : List Rnd} (h : RC w b A k c R rs) : RRd w A k R := by
  refine ⟨h.len.1, fun j hj => ?_⟩
  obtain ⟨S, c', hv, hb, hS, _, hc⟩ := h.own.some_ (by omega)
  have hA : A = some ⟨S, 0, none⟩ := by injection hv with hv
  have hw := h.ways R[j] (List.getElem_mem hj)
  refine ⟨S, 0, hA, hS, ?_, hw.sl.2, hw.sl.1.symm⟩
  rw [Nat.zero_add]
  exact ⟨(hc j hj 0 (by omega)).1, (hc j hj 1 (by omega)).1, (hc j hj 2 (by omega)).1, (hc j hj 3 (by omega)).1, (hc j hj 4 (by omega)).1⟩
theorem RRd.take {w : World} {A : Option Addr} {k : Nat} {R : List RE} (h : RRd w A k R) {m : Nat} (hm : m ≤ k) : RRd w A m (R.take m) := by
  refine ⟨by rw [List.length_take, h.len]; omega, fun j hj => ?_⟩
  rw [List.length_take, h.len] at hj
  have hj2 : j < R.length := by rw [h.len]; omega
  have e : (R.take m)[j]'(by rw [List.length_take, h.len]; exact hj) = R[j] := by rw [List.getElem_take]
  rw [e]
  exact h.at_ j hj2
theorem RRd.keep {w w' : World} {A : Option Addr} {k : Nat} {R : List RE} (h : RRd w A k R) (hb : Below w.heap.size w w') : RRd w' A k R := by
  refine ⟨h.len, fun j hj => ?_⟩
  obtain ⟨b, off, h1, h2, ⟨c0, c1, c2, c3, c4⟩, h4, h5⟩ := h.at_ j hj
  exact ⟨b, off, h1, Nat.lt_of_lt_of_le h2 hb.size, ⟨below_cells hb h2 c0, below_cells hb h2 c1, below_cells hb h2 c2, below_cells hb h2 c3, below_cells hb h2 c4⟩, (h4.keep hb (Nat.le_refl _)).more hb.size, h5⟩
def rv (x : RE) : Value := .agg #[.int .i64 x.num, .int .i64 x.den, .slice x.A x.k x.c, .int .i64 x.cost, .int .i64 x.done]
set_option maxRecDepth 100000 in
set_option maxHeartbeats 2000000 in
theorem same_round (x y : RE) (w : World) (hx : Sl w w.heap.size 1 ci x.A x.path) (hy : Sl w w.heap.size 1 ci y.A y.path) (hxl : x.path.length = x.k) (hyl : y.path.length = y.k) (hk : x.k ≤ 1000000) (he : x.rnd = y.rnd) :
    Calls Try.prog 20 #[rv x, rv y] w fun e w' => e = .returned (.bool true) ∧ Below w.heap.size w w' := by
  obtain ⟨p, q, A, k, c, co, dn, pth⟩ := x
  obtain ⟨p', q', A', k', c', co', dn', pth'⟩ := y
  simp only [RE.rnd, Rnd.mk.injEq] at he
  obtain ⟨rfl, rfl, rfl, rfl, rfl⟩ := he
  simp only at hx hy hxl hyl hk
  have hkk : k' = k := by omega
  subst hkk
  have hw0 : Below w.heap.size w ((w.alloc (.cells #[.int .i64 p, .int .i64 q, .slice A k' c, .int .i64 co, .int .i64 dn] 43)).alloc (.cells #[.int .i64 p, .int .i64 q, .slice A' k' c', .int .i64 co, .int .i64 dn] 43)) := ((Below.refl _ _).alloc (Nat.le_refl _) _).alloc (by simp) _
  have ksw := WayUse.same_way A A' k' k' c c' pth pth co co _ ((hx.keep hw0 (Nat.le_refl _)).more hw0.size) ((hy.keep hw0 (Nat.le_refl _)).more hw0.size) hxl hyl (by omega) true (by simp)
  have KSW := Lib.hid ksw
  have HW0 := Lib.hid hw0
  unfold rv
  simp only
  clear ksw hw0 hx hy hxl hyl
  go_enter Try.func20, Try.ntmps20
  go_wp2_with fail
  refine KSW.out.mono ?_
  rintro e w1 ⟨rfl, hb1⟩
  have HB1 := Lib.hid (HW0.out.trans (hb1.mono HW0.out.size))
  clear hb1 KSW HW0
  go_wp2
  go_ret
  exact ⟨rfl, HB1.out⟩
end Go.Proofs.Ytpoolpaagbeokaa.Ara

namespace Go.Proofs.Ytpoolpaagbeokaa.AraLaw
open NetLaw BellLaw StarLaw WalkLaw
set_option linter.unusedSimpArgs false
set_option linter.unusedVariables false
section
variable {N tt fr : Nat} {l : List E} {h : List Int} {ws : List (Int × Int)}
theorem Stl.lastD {s a : AS} (h1 : Stl N tt l h ws s a) (hs : s.rds.length < ws.length) (ha : a.rds.length = ws.length) : AraLaw.lastD a = a.sp := by
  induction h1 with
  | over e => omega
  | wait e _ => omega
  | last _ _ _ => unfold AraLaw.lastD told; simp
  | next e _ _ _ ih => exact ih (by simp [again, told]; exact e) ha
/-- behind the last round there are no steps -/
theorem Rn.lastD {k : Nat} {s : AS} (hr : Rn N tt l h ws fr k s) (hw : 0 < ws.length) (ho : s.rds.length = ws.length) : AraLaw.lastD s = k := by
  have hsp := hr.sp
  cases hr with
  | start a =>
    rw [a.lastD (by rw [show (init N h fr).rds = [] from (reach1_rds ..).1]; exact hw) ho, hsp]
  | step _ hl _ hs =>
    rw [hs.lastD (by rw [(expand_rds ..).1]; exact hl) ho, hsp]
/-- a run that is over is as long as any -/
theorem Rn.le_over {k m : Nat} {s s' : AS} (h1 : Rn N tt l h ws fr k s) (h2 : Rn N tt l h ws fr m s') (ho : s'.rds.length = ws.length) : k ≤ m := by
  rcases Nat.lt_or_ge m k with hlt | hge
  · obtain ⟨s0, _, h3, _, h4⟩ := h1.upto m (Nat.le_of_lt hlt)
    have := h4 hlt
    rw [h3.det h2] at this
    omega
  · exact hge
/-- its rounds begin those of the run that is over -/
theorem Rn.prefix_ {k m : Nat} {s s' : AS} (h1 : Rn N tt l h ws fr k s) (h2 : Rn N tt l h ws fr m s') (ho : s'.rds.length = ws.length) : s.rds.length ≤ s'.rds.length ∧ s.rds = s'.rds.take s.rds.length := by
  obtain ⟨s0, r, h3, h4, _⟩ := h2.upto k (h1.le_over h2 ho)
  rw [h3.det h1] at h4
  rw [h4]
  simp
theorem Rn.bound (hC : HeurLaw.Cons N tt l h) (hg : NetLaw.Good N l) (hc : ∀ e ∈ l, 1 ≤ e.2.2) (hfr : fr < N) (htt : tt < N) (hwl : ws.length ≤ 8) (hws : ∀ w ∈ ws, 1 ≤ w.2 ∧ w.2 ≤ w.1) {k : Nat} {s : AS} (hr : Rn N tt l h ws fr k s) : k ≤ 1001 := by
  cases hr with
  | start _ => omega
  | step hr hl _ _ => have := hr.short hC hg hc hfr htt hwl hws hl; omega
end
end Go.Proofs.Ytpoolpaagbeokaa.AraLaw
namespace Go.Proofs.Ytpoolpaagbeokaa.Ara
open Go.RowKit Go.Proofs.Ytpoolpaagbeokaa NetLaw BellLaw StarLaw AraLaw Go.Proofs.Ytpoolpaagbeokaa.Net Go.Proofs.Ytpoolpaagbeokaa.Std Go.Proofs.Ytpoolpaagbeokaa.Flow
open Go.Proofs.Ytpoolpaagbeokaa.StarF (slook slook_any slook_zero)
set_option linter.unusedSimpArgs false
set_option linter.unusedVariables false
/-- a search on the small net -/
structure Two (F : Fix) : Prop where
  n : F.n = 2
  t : F.tt = 1
  l : F.l = l2
  h : F.h = [0, 0]
  w : F.ws = [(1, 1)]
theorem two_new (W : World) (g : Nat) (h : Sl W W.heap.size 3 ce (some ⟨g, 0, none⟩) [(0, 1, 5)]) (g1 c1 : Nat) (hh : Sl W W.heap.size 1 ci (some ⟨g1, 0, none⟩) [0, 0]) (g2 c2 : Nat) (hw : Sl W W.heap.size 2 cp (some ⟨g2, 0, none⟩) [(1, 1)]) :
    Calls Try.prog 17 #[.agg #[.int .i64 2, .slice (some ⟨g, 0, none⟩) 1 1], .int .i64 0, .int .i64 1, .slice (some ⟨g1, 0, none⟩) 2 c1, .slice (some ⟨g2, 0, none⟩) 1 c2] W fun e w' => ∃ Z F Y s, e = .returned (.tuple #[.pointer (some ⟨Z, 0, none⟩), .int .i64 0]) ∧ Two F ∧ FO F ∧ PO F 0 ∧ SR W.heap.size w' Z F Y 0 0 s ∧ Below W.heap.size W w' := by
  refine (new_yes 2 0 1 (some ⟨g, 0, none⟩) 1 [(0, 1, 5)] (some ⟨g1, 0, none⟩) c1 [0, 0] (some ⟨g2, 0, none⟩) c2 [(1, 1)] W h (fun e => by cases e) hh (fun e => by cases e) hw (fun e => by cases e) (by decide +kernel) (by decide +kernel)).mono ?_
  rintro e w' ⟨Z, F, Y, s, rfl, e1, e2, e3, e4, e5, hO, hP, sr, hb⟩
  exact ⟨Z, F, Y, s, rfl, ⟨e1, e2, e3, e4, e5⟩, hO, hP, sr, hb⟩
theorem Two.run {F : Fix} (h : Two F) {k : Nat} {s : AS} (hr : Rn F.n F.tt F.l F.h F.ws 0 k s) : Rn 2 1 l2 [0, 0] [(1, 1)] 0 k s := by
  rw [h.n, h.t, h.l, h.h, h.w] at hr
  exact hr
/-- at its begin it is not over -/
theorem Two.begin_ {F : Fix} (h : Two F) {s : AS} (hr : Rn F.n F.tt F.l F.h F.ws 0 0 s) : s.rds.length ≠ F.ws.length := by
  have h1 := (h.run hr).det run_t0
  rw [h1, h.w]
  decide
/-- a step ends it -/
theorem Two.step {F : Fix} (h : Two F) {j : Nat} {s : AS} (hr : Rn F.n F.tt F.l F.h F.ws 0 j s) (h9 : (j : Int) < 9 → s.rds.length = F.ws.length) : j = 1 ∧ s.rds.length = F.ws.length := by
  have hr' := h.run hr
  have hle : j ≤ 1 := hr'.le_over run_t2 rfl
  have ho := h9 (by omega)
  have ho2 : s.rds.length = 1 := by rw [ho, h.w]; rfl
  exact ⟨(over_t hr' ho2).1, ho⟩
end Go.Proofs.Ytpoolpaagbeokaa.Ara
