/- ara.Run where nothing can be found; on the small net; what a law's walk keeps. -/
import Derived.Test.YtamphgcpfncenaaVAraRunW
import Derived.Test.YtamphgcpfncenaaVAraTwo
import Derived.Test.YtamphgcpfncenaaVOpen
namespace Go.Proofs.Ytamphgcpfncenaa.Ara
open Go.RowKit Go.Proofs.Ytamphgcpfncenaa NetLaw BellLaw StarLaw AraLaw Go.Proofs.Ytamphgcpfncenaa.Net Go.Proofs.Ytamphgcpfncenaa.Std Go.Proofs.Ytamphgcpfncenaa.Flow
open Go.Proofs.Ytamphgcpfncenaa.StarF (slook slook_any slook_zero)
set_option linter.unusedSimpArgs false
set_option linter.unusedVariables false
set_option maxRecDepth 100000 in
set_option maxHeartbeats 4000000 in
theorem run_no (N a b : Int) (A : Option Addr) (c : Nat) (l : List E) (Ah : Option Addr) (ch : Nat) (hs : List Int) (Aw : Option Addr) (cw : Nat) (ws : List (Int × Int)) (w : World) (hl : Sl w w.heap.size 3 ce A l) (hh : Sl w w.heap.size 1 ci Ah hs) (hw : Sl w w.heap.size 2 cp Aw ws) (hll : l.length ≤ 9223372036854775807) (hhl : hs.length ≤ 9223372036854775807) (hwl : ws.length ≤ 9223372036854775807) (hx : ncode N a b l hs ws ≠ 0) :
    Calls Try.prog 31 #[.agg #[.int .i64 N, .slice A l.length c], .int .i64 a, .int .i64 b, .slice Ah hs.length ch, .slice Aw ws.length cw] w fun e w' => e = .returned (.tuple #[.slice none 0 0, .int .i64 (ncode N a b l hs ws)]) ∧ Below w.heap.size w w' := by
  have hw0 : Below w.heap.size w (w.alloc (.cells #[.int .i64 N, .slice A l.length c] 24)) := (Below.refl _ _).alloc (Nat.le_refl _) _
  have hbox := heap_alloc_new w (.cells #[.int .i64 N, .slice A l.length c] 24)
  have knew := fun W (hb : Below w.heap.size w W) => new_no N a b A c l Ah ch hs Aw cw ws W ((hl.keep hb (Nat.le_refl _)).more hb.size) ((hh.keep hb (Nat.le_refl _)).more hb.size) ((hw.keep hb (Nat.le_refl _)).more hb.size) hll hhl hwl hx
  have hne : (ncode N a b l hs ws != 0) = true := by simpa using hx
  have hq := blk_cell hbox 0
  have hq1 := blk_cell hbox 1
  have zx := lt_of_block hbox
  simp only [List.getElem?_toArray, List.getElem?_cons_zero, List.getElem?_cons_succ] at hq hq1
  have KNEW := Lib.hid knew
  have HW0 := Lib.hid hw0
  clear knew hl hh hw hbox hw0 hx
  generalize ncode N a b l hs ws = z at *
  generalize hs.length = mh at *
  generalize l.length = ml at *
  generalize ws.length = mw at *
  go_enter Try.func31, Try.ntmps31
  go_wp2_with fail
  refine (KNEW.out _ HW0.out).mono ?_
  rintro e w1 ⟨rfl, hb1⟩
  have HB1 := Lib.hid (HW0.out.trans (hb1.mono HW0.out.size))
  clear hb1 KNEW HW0 hq hq1 zx
  go_wp2
  go_ret2
  exact ⟨rfl, HB1.out⟩
/-- a round's cells -/
theorem RC.at_ {w : World} {b : Nat} {A : Option Addr} {k c : Nat} {R : List RE} {rs : List Rnd} (h : RC w b A k c R rs) {j : Nat} (hj : j < k) : ∃ x S, R[j]? = some x ∧ x ∈ R ∧ rs[j]? = some x.rnd ∧ A = some ⟨S, 0, none⟩ ∧ b ≤ S ∧ S < w.heap.size ∧ (w.cell? ⟨S, j * 5, none⟩ = some (.int .i64 x.num) ∧ w.cell? ⟨S, j * 5 + 1, none⟩ = some (.int .i64 x.den) ∧ w.cell? ⟨S, j * 5 + 2, none⟩ = some (.slice x.A x.k x.c) ∧ w.cell? ⟨S, j * 5 + 3, none⟩ = some (.int .i64 x.cost) ∧ w.cell? ⟨S, j * 5 + 4, none⟩ = some (.int .i64 x.done)) ∧ ∃ cs, w.heap[S]? = some (.cells cs 69 (0, 0)) := by
  have hl := h.len.1
  obtain ⟨S, c', hv, hb, hS, _, hc⟩ := h.own.some_ (by omega)
  have hi : j < R.length := by omega
  have hA : A = some ⟨S, 0, none⟩ := by injection hv with hv
  have ho := h.own
  rw [hA] at ho
  refine ⟨R[j], S, List.getElem?_eq_getElem hi, List.getElem_mem hi, ?_, hA, hb, hS, ⟨(hc j hi 0 (by omega)).1, (hc j hi 1 (by omega)).1, (hc j hi 2 (by omega)).1, (hc j hi 3 (by omega)).1, (hc j hi 4 (by omega)).1⟩, own_blk ho⟩
  rw [← h.rnd, List.getElem?_map, List.getElem?_eq_getElem hi]
  rfl
/-- on the small net: from a place to itself, and from the one to the other -/
theorem two_run (a : Nat) (ha : a < 2) (W : World) (g : Nat) (h : Sl W W.heap.size 3 ce (some ⟨g, 0, none⟩) [(0, 1, 5)]) (g1 c1 : Nat) (hh : Sl W W.heap.size 1 ci (some ⟨g1, 0, none⟩) [0, 0]) (g2 c2 : Nat) (hw : Sl W W.heap.size 2 cp (some ⟨g2, 0, none⟩) [(1, 1)]) :
    Calls Try.prog 31 #[.agg #[.int .i64 2, .slice (some ⟨g, 0, none⟩) 1 1], .int .i64 a, .int .i64 1, .slice (some ⟨g1, 0, none⟩) 2 c1, .slice (some ⟨g2, 0, none⟩) 1 c2] W fun e w' => ∃ S c, e = .returned (.tuple #[.slice (some ⟨S, 0, none⟩) 1 c, .int .i64 0]) ∧ S < w'.heap.size ∧ w'.cell? ⟨S, 3, none⟩ = some (.int .i64 (if a = 0 then 5 else 0)) ∧ w'.cell? ⟨S, 4, none⟩ = some (.int .i64 (if a = 0 then 1 else 0)) ∧ Below W.heap.size W w' := by
  have hsl : slook (2 : Nat) a (1 : Nat) [(0, 1, 5)] [0, 0] = 0 := by
    have h2 : a = 0 ∨ a = 1 := by omega
    rcases h2 with rfl | rfl <;> decide +kernel
  have k := run_yes 2 a 1 (some ⟨g, 0, none⟩) 1 [(0, 1, 5)] (some ⟨g1, 0, none⟩) c1 [0, 0] (some ⟨g2, 0, none⟩) c2 [(1, 1)] W h (fun e => by cases e) hh (fun e => by cases e) hw (fun e => by cases e) hsl (by decide +kernel)
  refine k.mono ?_
  rintro e w' ⟨A, kk, c, R, s, m, rfl, hrc, hrn, ho, hb⟩
  have hk : kk = 1 := by rw [← hrc.len.2, ho]; rfl
  subst hk
  obtain ⟨x, S, _, _, hx, rfl, _, hS, ⟨_, _, _, c3, c4⟩, _⟩ := hrc.at_ (j := 0) (by omega)
  have ho1 : s.rds.length = 1 := ho
  have hcase : a = 0 ∨ a = 1 := by omega
  rcases hcase with rfl | rfl
  · obtain ⟨_, hr⟩ := over_t hrn ho1
    rw [hr] at hx
    injection hx with hx
    have e3 : x.cost = 5 := (congrArg Rnd.cost hx).symm
    have e4 : x.done = 1 := (congrArg Rnd.done hx).symm
    rw [e3] at c3
    rw [e4] at c4
    exact ⟨S, c, rfl, hS, c3, c4, hb⟩
  · obtain ⟨_, hr⟩ := over_u hrn ho1
    rw [hr] at hx
    injection hx with hx
    have e3 : x.cost = 0 := (congrArg Rnd.cost hx).symm
    have e4 : x.done = 0 := (congrArg Rnd.done hx).symm
    rw [e3] at c3
    rw [e4] at c4
    exact ⟨S, c, rfl, hS, c3, c4, hb⟩
theorem one_anyA (w : World) : Calls Try.prog 32 #[] w fun e w' => e = .returned (.agg #[.int .i64 1, .int .i64 1]) ∧ Below w.heap.size w w' := by
  go_enter Try.func32, Try.ntmps32
  go_wp2
  refine bodyPost_ret (v := .agg #[.int .i64 1, .int .i64 1]) (by simp [results, Try.results32, go_sem]) rfl ⟨rfl, ?_⟩
  exact (Below.refl _ _).alloc (Nat.le_refl _) _
/-- what a law's walk keeps -/
theorem abox {w W : World} {N : Int} {A : Option Addr} {c : Nat} {l : List E} {Ah : Option Addr} {h : List Int} {Aw : Option Addr} {ws : List (Int × Int)} (hs : Sl w w.heap.size 3 ce A l) (hss : Sl w w.heap.size 1 ci Ah h) (hws : Sl w w.heap.size 2 cp Aw ws) (hW : Below (w.heap.size + 1) (w.alloc (.cells #[.int .i64 N, .slice A l.length c] 24)) W) :
    (W.cell? ⟨w.heap.size, 0, none⟩ = some (.int .i64 N) ∧ W.cell? ⟨w.heap.size, 1, none⟩ = some (.slice A l.length c) ∧ w.heap.size + 1 ≤ W.heap.size) ∧ (Sl W W.heap.size 3 ce A l ∧ Sl W W.heap.size 1 ci Ah h ∧ Sl W W.heap.size 2 cp Aw ws) ∧ Below w.heap.size w W := by
  have hb0 : Below w.heap.size w (w.alloc (.cells #[.int .i64 N, .slice A l.length c] 24)) := (Below.refl _ _).alloc (Nat.le_refl _) _
  have hb := hb0.trans (hW.mono (Nat.le_succ _))
  have hbx := blk_below (heap_alloc_new w (.cells #[.int .i64 N, .slice A l.length c] 24)) hW (Nat.lt_succ_self _)
  have q0 := blk_cell hbx 0
  have q1 := blk_cell hbx 1
  simp only [List.getElem?_toArray, List.getElem?_cons_zero, List.getElem?_cons_succ] at q0 q1
  exact ⟨⟨q0, q1, lt_of_block hbx⟩, ⟨(hs.keep hb (Nat.le_refl _)).more hb.size, (hss.keep hb (Nat.le_refl _)).more hb.size, (hws.keep hb (Nat.le_refl _)).more hb.size⟩, hb⟩
end Go.Proofs.Ytamphgcpfncenaa.Ara
