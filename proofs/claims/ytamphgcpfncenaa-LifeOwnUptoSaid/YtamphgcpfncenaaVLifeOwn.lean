/- For every net and two places: LifeOwn answers true (a plan has its net as a copy, and what it tells is a copy), and the arguments read as before. The condition is the size of the arguments: 2^20 elements at most. -/
import Derived.Test.YtamphgcpfncenaaRows
import Derived.Test.YtamphgcpfncenaaVOpen
import Derived.Test.YtamphgcpfncenaaVBulk
import Derived.Test.YtamphgcpfncenaaVLifeSpoil
import Derived.Test.YtamphgcpfncenaaVDijkTwo
import Derived.Test.YtamphgcpfncenaaVStdCE
import Derived.Test.YtamphgcpfncenaaVStarKeep
import Derived.Test.YtamphgcpfncenaaVWayUse
import Derived.Deep.RegionHeld3
import Derived.Deep.CutRange
import Derived.OrdersHeld
namespace Go.Proofs.Ytamphgcpfncenaa.LifeOwnLaw
open Go.ChangeShapes Go.WideShapes Go.ChangeAt Go.RowKit Go.Proofs.Ytamphgcpfncenaa NetLaw BellLaw DijkLaw FlowLaw LifeLaw Go.Proofs.Ytamphgcpfncenaa.Net Go.Proofs.Ytamphgcpfncenaa.Life Go.Proofs.Ytamphgcpfncenaa.Std Go.Proofs.Ytamphgcpfncenaa.Refs Go.Proofs.Ytamphgcpfncenaa.Room
set_option linter.unusedSimpArgs false
set_option linter.unusedVariables false
/-- the net handed in: its box, its edges -/
structure In (w0 wx : World) (N : Int) (n c X : Nat) (A : Option Addr) (l : List E) : Prop where
  box : wx.heap[X]? = some (.cells #[.int .i64 N, .slice A n c] 24 (0, 0))
  own : Own wx w0.heap.size 27 3 ce (.slice A n c) l
  below : Below w0.heap.size w0 wx
  le : w0.heap.size ≤ X
theorem in_alloc {w0 wd : World} {N : Int} {n b c : Nat} {A : Option Addr} {l : List E} (own : Own wd b 27 3 ce (.slice A n c) l) (hb : w0.heap.size ≤ b) (HB : Below w0.heap.size w0 wd) : In w0 (wd.alloc (.cells #[.int .i64 N, .slice A n c] 24)) N n c wd.heap.size A l :=
  ⟨heap_alloc_new wd _, (own.mono hb).alloc _, HB.alloc HB.size _, HB.size⟩
theorem in_set {w0 wd : World} {N : Int} {n b c X : Nat} {A : Option Addr} {l : List E} (own : Own wd b 27 3 ce (.slice A n c) l) (hb : w0.heap.size ≤ b) (HB : Below w0.heap.size w0 wd) (hX : w0.heap.size ≤ X) {x y : Value} (m : wd.heap[X]? = some (.cells #[x, y] 24 (0, 0))) :
    In w0 ((wd.setCell ⟨X, 0, none⟩ (.int .i64 N)).setCell ⟨X, 1, none⟩ (.slice A n c)) N n c X A l := by
  have hne := own.ne_ m (by decide)
  refine ⟨blk_set (blk_set m 0 (.int .i64 N)) 1 (.slice A n c), ((own.mono hb).setCell hne _).setCell hne _, (HB.setCell hX _).setCell hX _, hX⟩
theorem own_cap' {α : Type} {w : World} {base : Nat} {e : TypeId} {sz : Nat} {cell : α → Nat → Value} {A : Option Addr} {n c : Nat} {l : List α} (h : Own w base e sz cell (.slice A n c) l) : n ≤ c := by
  obtain ⟨A', c', he, hc, _⟩ := h.form
  injection he with a b d
  omega
theorem own_nil' {α : Type} {w : World} {base : Nat} {e : TypeId} {sz : Nat} {cell : α → Nat → Value} {A : Option Addr} {n c : Nat} {l : List α} (h : Own w base e sz cell (.slice A n c) l) : A = none → l.length = 0 ∧ c = 0 := by
  obtain ⟨A', c', he, _, hn⟩ := h.form
  injection he with a b d
  rw [a, d]
  exact hn
theorem wf_own {n s t : Nat} {l : List E} {A : Option Addr} {k c : Nat} {co er : Int} {w w' : World} (h : WF n s t l A k c co er w w') : k ≤ c ∧ ∃ p : List Int, Own w' w.heap.size 3 1 ci (.slice A k c) p := by
  obtain ⟨d, _, h⟩ := h
  rcases h with ⟨_, rfl, rfl, rfl, _, _⟩ | ⟨_, _, _, p, rfl, own, _⟩
  · exact ⟨Nat.le_refl _, [], Own.nil_⟩
  · exact ⟨own_cap' own, p, own⟩

set_option maxRecDepth 100000 in
set_option maxHeartbeats 8000000 in
theorem walk (w : World) (N : Int) (A : Option Addr) (c : Nat) (l : List E) (hA : Arg w 3 ce A c l) (a : Int) (ha : -9223372036854775808 ≤ a ∧ a ≤ 9223372036854775807) (b : Int) (hb : -9223372036854775808 ≤ b ∧ b ≤ 9223372036854775807)
    (hbulk : l.length ≤ 1048576) :
    Calls Try.prog 3 #[.agg #[.int .i64 N, .slice A l.length c], .int .i64 a, .int .i64 b] w fun e w' => e = .returned (.bool true) ∧ Below w.heap.size w w' := by
  have hs := hA.sl
  have hnil := hA.nil
  clear hA ha hb
  have hw0 : Below w.heap.size w (w.alloc (.cells #[.int .i64 N, .slice A l.length c] 24)) := (Below.refl _ _).alloc (Nat.le_refl _) _
  have hkeep : ∀ W, Below (w.heap.size + 1) (w.alloc (.cells #[.int .i64 N, .slice A l.length c] 24)) W → (W.cell? ⟨w.heap.size, 0, none⟩ = some (.int .i64 N) ∧ W.cell? ⟨w.heap.size, 1, none⟩ = some (.slice A l.length c)) ∧ w.heap.size < W.heap.size ∧ Sl W W.heap.size 3 ce A l ∧ Below w.heap.size w W := fun W hW => by
    obtain ⟨cc, _⟩ := keepAt hW (Nat.lt_succ_self _)
    have q0 := cc 0
    have q1 := cc 1
    simp at q0 q1
    have H := hw0.trans (hW.mono (Nat.le_succ _))
    have hz := hW.size
    simp at hz
    exact ⟨⟨q0, q1⟩, by omega, (hs.keep H (Nat.le_refl _)).more H.size, H⟩
  have HK := Lib.hid hkeep
  have B0 : Below (w.heap.size + 1) (w.alloc (.cells #[.int .i64 N, .slice A l.length c] 24)) (w.alloc (.cells #[.int .i64 N, .slice A l.length c] 24)) := Below.refl _ _
  have hz1 : (w.alloc (.cells #[.int .i64 N, .slice A l.length c] 24)).heap.size = w.heap.size + 1 := by simp
  have HNIL := Lib.hid hnil
  clear hkeep hw0 hnil
  go_enter Try.func3, Try.ntmps3
  go_upto_region 1 with fail
  obtain ⟨⟨q0, q1⟩, Z0, sg, H0⟩ := HK.out _ B0
  generalize hw1 : (w.alloc (.cells #[.int .i64 N, .slice A l.length c] 24)) = w1 at HK B0 q0 q1 Z0 sg H0 hz1 ⊢
  clear hw1
  have hks : ∀ W, Below w1.heap.size w1 W → (W.cell? ⟨w.heap.size, 0, none⟩ = some (.int .i64 N) ∧ W.cell? ⟨w.heap.size, 1, none⟩ = some (.slice A l.length c)) ∧ Sl W W.heap.size 3 ce A l := fun W hW =>
    ⟨⟨(hW.cell (p := ⟨w.heap.size, 0, none⟩) Z0).trans q0, (hW.cell (p := ⟨w.heap.size, 1, none⟩) Z0).trans q1⟩, (sg.keep hW (Nat.le_refl _)).more hW.size⟩
  have KS := Lib.hid hks
  have kr := fun (W : World) (h : Sl W W.heap.size 3 ce A l) => clone_edge A c l W.heap.size W h (Nat.le_refl _) HNIL.out (by omega)
  have KR := Lib.hid kr
  have HZ1 := Lib.hid hz1
  clear hks kr sg hs H0 hz1
  go_cut [7] from 16 to 22 (fun s7 wx => ∃ (X c' : Nat) (A' : Option Addr), s7 = .pointer (some ⟨X, 0, none⟩) ∧ Hid (In w1 wx N l.length c' X A' l))
  case first =>
    go_region_held3 (fun w' => w'.cell? ⟨w.heap.size, 0, none⟩ = some (.int .i64 N) ∧ w'.cell? ⟨w.heap.size, 1, none⟩ = some (.slice A l.length c))
      (first
        | go_keep
        | exact ⟨p0, p1⟩
        | exact ⟨(World.cell?_setCell_far _ _ _ _ (by dsimp only; omega)).trans ((World.cell?_setCell_far _ _ _ _ (by dsimp only; omega)).trans p0), (World.cell?_setCell_far _ _ _ _ (by dsimp only; omega)).trans ((World.cell?_setCell_far _ _ _ _ (by dsimp only; omega)).trans p1)⟩)
      (first
        | (go_at_call 13; refine (KR.out _ ((KS.out _ (by first | exact (Below.refl _ _).drew | exact (Below.refl _ _).drew.alloc (Nat.le_refl _) _)).2)).mono ?_; rintro e wd ⟨A', c', rfl, own7, hb7⟩; have HB7 : Below w1.heap.size w1 wd := (by first | exact (Below.refl _ _).drew.trans hb7 | exact ((Below.refl _ _).drew.alloc (Nat.le_refl _) _).trans (hb7.mono (by simp))); obtain ⟨⟨p0, p1⟩, _⟩ := KS.out _ HB7; (first | (have m4 : wd.heap[w1.heap.size]? = some (.cells #[.int .i64 0, .slice none 0 0] 24 (0, 0)) := blk_below (heap_alloc_new w1.drew _) hb7 (by simp); have m40 := blk_cell m4 0; have m41 := blk_cell m4 1; have mf0 := blk_free m4 0; have mf1 := blk_free m4 1; simp only [List.getElem?_toArray, List.getElem?_cons_zero, List.getElem?_cons_succ] at m40 m41) | skip)))
    all_goals
      go_wp2_with fail
      go_meet
      refine ⟨_, c', A', rfl, Lib.hid ?_⟩
      first
        | exact in_alloc own7 (by simp) HB7
        | exact in_set own7 (by simp) HB7 (Nat.le_refl _) m4
  case rest =>
    obtain ⟨X, c', A', rfl, HIN⟩ := hcut
    have B5 : Below (w.heap.size + 1) w1 wc := HIN.out.below.mono (by rw [HZ1.out]; exact Nat.le_refl _)
    have Z5 : w.heap.size + 1 ≤ wc.heap.size := by have := B5.size; have := HZ1.out; omega
    have x0 := blk_cell HIN.out.box 0
    have x1 := blk_cell HIN.out.box 1
    simp only [List.getElem?_toArray, List.getElem?_cons_zero, List.getElem?_cons_succ] at x0 x1
    clear KS KR q0 q1 Z0 B0
    by_cases hx : Dijk.look N l [a, b] = 0
    · obtain ⟨hg, hc, ⟨f0, f1⟩, t0, t1⟩ := DijkWay.looks_zero hx
      have hlo := hg.lo
      have hhi := hg.hi
      have h6 := hg.len
      obtain ⟨n, rfl⟩ := Int.eq_ofNat_of_zero_le (show 0 ≤ N by omega)
      obtain ⟨s, rfl⟩ := Int.eq_ofNat_of_zero_le f0
      obtain ⟨t, rfl⟩ := Int.eq_ofNat_of_zero_le t0
      have kn := new_pln n s t A' c' l wc HIN.out.own.sl.2 (own_nil' HIN.out.own) hx
      have KN := Lib.hid kn
      clear kn hg hc hx hlo f0 f1 t0 t1
      go_wp2_with fail
      refine KN.out.mono ?_
      rintro e w6 ⟨P, rfl, HP6⟩
      have hlo6 := HP6.out.lo
      have own6 := HIN.out.own.keep hlo6
      have hbx := blk_below HIN.out.box hlo6 (lt_of_block HIN.out.box)
      have x0 := blk_cell hbx 0
      have x1 := blk_cell hbx 1
      simp only [List.getElem?_toArray, List.getElem?_cons_zero, List.getElem?_cons_succ] at x0 x1
      have ksp := spoil_edge A' l.length l.length c' w1.heap.size l 0 0 1 w6 own6 (own_cap' own6)
      have KSP := Lib.hid ksp
      have B6 := B5.trans (hlo6.mono Z5)
      have hrow6 := fun (k : Nat) (e : (Value.slice A' l.length c').ownBlock = some k) => own6.base_ k e
      have HROW := Lib.hid hrow6
      have hrow5 := fun (k : Nat) (e : (Value.slice A' l.length c').ownBlock = some k) => (HIN.out.own.base_ k e).2
      have HROW5 := Lib.hid hrow5
      have Z6 := Nat.le_trans Z5 hlo6.size
      clear ksp own6 hbx hlo6 hrow6 hrow5 KN
      go_wp2_with fail
      refine KSP.out.mono ?_
      rintro e w7 ⟨rfl, hg7⟩
      clear x0 x1
      have hp7 := HP6.out.under hg7 HROW5.out
      have B7 : Below (w.heap.size + 1) w1 w7 := B6.trans (grown_low hg7 (fun k e => by have := (HROW.out k e).1; have := HZ1.out; omega) (by omega))
      have Z7 : wc.heap.size ≤ w7.heap.size := Nat.le_trans HP6.out.lo.size hg7.size
      have hW5 : (cutW w7 wc.heap.size).heap.size = wc.heap.size := cutW_size Z7
      generalize cutW w7 wc.heap.size = W5 at hp7 hW5
      have lo7 := hp7.lo
      have knt := net_pln hp7
      have KNT := Lib.hid knt
      have HP7 := Lib.hid hp7
      have HLO7 := Lib.hid lo7
      have HB7 := Lib.hid B7
      clear knt hp7 lo7 HP6 hg7 KSP HROW HROW5 B5 B6 B7 HIN
      go_wp2_with fail
      refine KNT.out.mono ?_
      rintro e w8 ⟨A8, c8, rfl, own8, hb8⟩
      have ksp := spoil_edge A8 l.length l.length c8 w7.heap.size l 0 0 2 w8 own8 (own_cap' own8)
      have KSP := Lib.hid ksp
      have OWN8 := Lib.hid own8
      have HB8 := Lib.hid hb8
      have hfd : ∀ w : World, (Instr.field 24 (.agg #[.int .i64 (n : Int), .slice A8 l.length c8]) 1).run Try.prog w = .ok (.slice A8 l.length c8) w := fun _ => by kernel_rfl
      clear ksp own8 hb8 KNT
      go_wp2_with fail
      refine KSP.out.mono ?_
      rintro e w9 ⟨rfl, hg9⟩
      have hp9 := HP7.out.keep (HB8.out.trans (grown_low hg9 (fun k e => (OWN8.out.base_ k e).1) HB8.out.size))
      have z9 : w7.heap.size ≤ w9.heap.size := Nat.le_trans HB8.out.size hg9.size
      have kw1 := way_own hp9 (by omega)
      have KW1 := Lib.hid kw1
      clear kw1 hp9 hg9 KSP OWN8 HB8 HP7 hfd
      go_wp2_with fail
      refine KW1.out.mono ?_
      rintro e w10 ⟨A1, k1, c1, co1, er1, wk1, rfl, HSP1, hz10, HWF1, _⟩
      obtain ⟨hkc, p1, ownp⟩ := wf_own HWF1.out
      have hbx := heap_alloc_new w10 (.cells #[.slice A1 k1 c1, .int .i64 co1] 36)
      have hba : Below w10.heap.size w10 (w10.alloc (.cells #[.slice A1 k1 c1, .int .i64 co1] 36)) := (Below.refl _ _).alloc (Nat.le_refl _) _
      have ownq := ownp.alloc (.cells #[.slice A1 k1 c1, .int .i64 co1] 36)
      have ksp := spoil_int A1 k1 k1 c1 w9.heap.size p1 99 _ ownq hkc
      go_upto_region 9 with fail
      generalize hw11 : w10.alloc (.cells #[.slice A1 k1 c1, .int .i64 co1] 36) = w11 at *
      clear hw11
      generalize w10.heap.size = Z1 at hbx ⊢
      have y0 := blk_cell hbx 0
      have y1 := blk_cell hbx 1
      simp only [List.getElem?_toArray, List.getElem?_cons_zero, List.getElem?_cons_succ] at y0 y1
      have KSP := Lib.hid ksp
      have HBA := Lib.hid hba
      clear ksp hba hbx ownq ownp hkc KW1
      go_wp2_with fail
      refine KSP.out.mono ?_
      rintro e w12 ⟨rfl, hg12⟩
      have hp12 := HSP1.out w11 w12 HBA.out hg12
      have lo12 := hp12.lo
      have z12 : w7.heap.size ≤ w12.heap.size := by have := HBA.out.size; have := hg12.size; omega
      have B12 : Below (w.heap.size + 1) w1 w12 := HB7.out.trans ((below_two HLO7.out lo12 z12).mono (by rw [hW5]; exact Z5))
      have kw2 := way_own hp12 (by omega)
      have KW2 := Lib.hid kw2
      clear kw2 hp12 hg12 KSP HSP1 HBA lo12 y0 y1
      go_wp2_with fail
      refine KW2.out.mono ?_
      rintro e w13 ⟨A2, k2, c2, co2, er2, wk2, rfl, HSP2, hz13, HWF2, HLO13⟩
      obtain ⟨e1, e2⟩ := HWF1.out.same HWF2.out
      subst e1 e2
      have hp14 := HSP2.out (w13.alloc (.cells #[.slice A2 k2 c2, .int .i64 co1] 36)) _ ((Below.refl _ _).alloc (Nat.le_refl _) _) (World.grownBy.refl _ _)
      have hz14 := heap_alloc_new w13 (.cells #[.slice A2 k2 c2, .int .i64 co1] 36)
      have hw14 := fun (p : List Int) (h : Own w13 w12.heap.size 3 1 ci (.slice A2 k2 c2) p) => h.alloc (.cells #[.slice A2 k2 c2, .int .i64 co1] 36)
      have B13 : Below (w.heap.size + 1) w1 w13 := HB7.out.trans ((below_two HLO7.out HLO13.out (by omega)).mono (by rw [hW5]; exact Z5))
      have z13 : w.heap.size + 1 ≤ w13.heap.size := by omega
      have B14 := B13.alloc z13 (.cells #[.slice A2 k2 c2, .int .i64 co1] 36)
      have HW14 := Lib.hid hw14
      clear hw14 B13 B12 HLO13 HSP2 KW2
      go_upto_region 12 with fail
      generalize w13.alloc (.cells #[.slice A2 k2 c2, .int .i64 co1] 36) = w14 at *
      generalize w13.heap.size = Z at *
      obtain ⟨hgd, htn⟩ := hp14.gd
      obtain ⟨hgood, hpos⟩ := Gd.good hgd
      obtain ⟨⟨q0, q1⟩, zq, sg, H14⟩ := HK.out _ B14
      have z0 := blk_cell hz14 0
      have z1 := blk_cell hz14 1
      simp only [List.getElem?_toArray, List.getElem?_cons_zero, List.getElem?_cons_succ] at z0 z1
      have zz := lt_of_block hz14
      have hS : ∀ W, Below w14.drew.heap.size w14.drew W → (W.cell? ⟨w.heap.size, 0, none⟩ = some (.int .i64 n) ∧ W.cell? ⟨w.heap.size, 1, none⟩ = some (.slice A l.length c) ∧ W.cell? ⟨Z, 0, none⟩ = some (.slice A2 k2 c2) ∧ W.cell? ⟨Z, 1, none⟩ = some (.int .i64 co1)) := fun W hW =>
        ⟨(hW.cell (p := ⟨w.heap.size, 0, none⟩) zq).trans q0, (hW.cell (p := ⟨w.heap.size, 1, none⟩) zq).trans q1, (hW.cell (p := ⟨Z, 0, none⟩) zz).trans z0, (hW.cell (p := ⟨Z, 1, none⟩) zz).trans z1⟩
      have s0 := hS _ (Below.refl _ _)
      have hsg : ∀ W, Below w14.drew.heap.size w14.drew W → Sl W W.heap.size 3 ce A l := fun W hW => (sg.keep (((Below.refl w14.heap.size w14).drew).trans hW) (Nat.le_refl _)).more hW.size
      have kn2 := net_pln (hp14.keep (Below.refl _ _).drew)
      have hfac : (er1 = 0 ∧ ∃ p, p.length = k2 ∧ WalkLaw.cost n l p = (co1, 0) ∧ p.head? = some (s : Int) ∧ p.getLast? = some (t : Int) ∧ p.length ≤ 64 ∧ ∀ W, Below w14.drew.heap.size w14.drew W → Sl W W.heap.size 1 ci A2 p) ∨ er1 = 5 := by
        obtain ⟨d, hbst, h⟩ := HWF2.out
        rcases h with ⟨h1, _, _, _, _, h3⟩ | ⟨h1, h2, h3, p, p1, p2, p3, p4, p5, p6⟩
        · exact .inr h3
        · exact .inl ⟨h3, p, p1, by rw [h2]; exact p3, p4, p5, p6, fun W hW => ((HW14.out p p2).sl.2.keep (((Below.refl _ _).drew).trans hW) (Nat.le_refl _)).more hW.size⟩
      have HS := Lib.hid hS
      have HSG := Lib.hid hsg
      have KN2 := Lib.hid kn2
      have HB14 := Lib.hid B14
      have hz14w : w.heap.size + 1 ≤ w14.heap.size := by omega
      clear hS hsg kn2 hgood hpos hgd z0 z1 zz q0 q1 zq sg H14 hz14 hp14 HWF1 HWF2 HW14 B14 HB7 HLO7
      rcases hfac with ⟨rfl, p, hpk, hco, hhd, hls, h64, hop⟩ | rfl
      · have HOP := Lib.hid hop
        have HPK := Lib.hid hpk
        have HCO := Lib.hid hco
        have HHD := Lib.hid hhd
        have HLS := Lib.hid hls
        have hk64 : k2 ≤ 64 := by omega
        clear hop hpk hco hhd hls h64
        refine Go.wp_region_held_drew (S := (fun w' => w'.cell? ⟨w.heap.size, 0, none⟩ = some (.int .i64 n) ∧ w'.cell? ⟨w.heap.size, 1, none⟩ = some (.slice A l.length c) ∧ w'.cell? ⟨Z, 0, none⟩ = some (.slice A2 k2 c2) ∧ w'.cell? ⟨Z, 1, none⟩ = some (.int .i64 co1))) (by kernel_rfl) s0 (fun hHeld => ?_)
        refine Go.wpAnyH_take (fuel := 26) (i := 0) (oi := _) (v := ?_) rfl (by kernel_rfl) (by kernel_rfl) (by kernel_rfl) (fun _ _ _ h => h) (Or.inl ⟨by rfl, ?_⟩) (by assumption) ?_
        rotate_left
        · (intro w hSw; (try dsimp only at hSw); go_simp)
          try with_reducible rfl
        try simp only [Act.put, List.getElem_toArray, List.getElem_cons_succ, List.getElem_cons_zero, List.setIfInBounds_toArray, List.set_cons_zero, List.set_cons_succ]
        refine Go.wpAnyH_take (fuel := 25) (i := 1) (oi := _) (v := ?_) rfl (by kernel_rfl) (by kernel_rfl) (by kernel_rfl) (fun _ _ _ h => h) (Or.inl ⟨by rfl, ?_⟩) (by assumption) ?_
        rotate_left
        · (intro w hSw; (try dsimp only at hSw); go_simp)
          try with_reducible rfl
        try simp only [Act.put, List.getElem_toArray, List.getElem_cons_succ, List.getElem_cons_zero, List.setIfInBounds_toArray, List.set_cons_zero, List.set_cons_succ]
        refine Go.wpAnyH_take (fuel := 24) (i := 2) (oi := _) (v := ?_) rfl (by kernel_rfl) (by kernel_rfl) (by kernel_rfl) (fun _ _ _ h => h) (Or.inl ⟨by rfl, ?_⟩) (by assumption) ?_
        rotate_left
        · (intro w hSw; (try dsimp only at hSw); go_simp)
          try with_reducible rfl
        try simp only [Act.put, List.getElem_toArray, List.getElem_cons_succ, List.getElem_cons_zero, List.setIfInBounds_toArray, List.set_cons_zero, List.set_cons_succ]
        refine Go.wpAnyH_take (fuel := 23) (i := 3) (oi := _) (v := ?_) rfl (by kernel_rfl) (by kernel_rfl) (by kernel_rfl) (fun _ _ _ h => h) (Or.inl ⟨by rfl, ?_⟩) (by assumption) ?_
        rotate_left
        · (intro w hSw; (try dsimp only at hSw); go_simp)
          try with_reducible rfl
        try simp only [Act.put, List.getElem_toArray, List.getElem_cons_succ, List.getElem_cons_zero, List.setIfInBounds_toArray, List.set_cons_zero, List.set_cons_succ]
        refine Go.wpAnyH_take (fuel := 22) (i := 4) (oi := _) (v := ?_) rfl (by kernel_rfl) (by kernel_rfl) (by kernel_rfl) (fun _ _ _ h => h) (Or.inl ⟨by rfl, ?_⟩) (by assumption) ?_
        rotate_left
        · (intro w hSw; (try dsimp only at hSw); go_simp)
          try with_reducible rfl
        try simp only [Act.put, List.getElem_toArray, List.getElem_cons_succ, List.getElem_cons_zero, List.setIfInBounds_toArray, List.set_cons_zero, List.set_cons_succ]
        refine Go.wpAnyH_take (fuel := 21) (i := 5) (oi := _) (v := ?_) rfl (by kernel_rfl) (by kernel_rfl) (by kernel_rfl) (fun _ _ _ h => h) (Or.inl ⟨by rfl, ?_⟩) (by assumption) ?_
        rotate_left
        · (intro w hSw; (try dsimp only at hSw); go_simp)
          try with_reducible rfl
        try simp only [Act.put, List.getElem_toArray, List.getElem_cons_succ, List.getElem_cons_zero, List.setIfInBounds_toArray, List.set_cons_zero, List.set_cons_succ]
        refine Go.wpAnyH_take (fuel := 20) (i := 6) (oi := _) (v := ?_) rfl (by kernel_rfl) (by kernel_rfl) (by kernel_rfl) (fun _ _ _ h => h) (Or.inl ⟨by rfl, ?_⟩) (by assumption) ?_
        rotate_left
        · (intro w hSw; (try dsimp only at hSw); go_simp)
          try with_reducible rfl
        try simp only [Act.put, List.getElem_toArray, List.getElem_cons_succ, List.getElem_cons_zero, List.setIfInBounds_toArray, List.set_cons_zero, List.set_cons_succ]
        refine Go.wpAnyH_take (fuel := 19) (i := 7) (oi := _) (v := ?_) rfl (by kernel_rfl) (by kernel_rfl) (by kernel_rfl) (fun _ _ _ h => h) (Or.inl ⟨by rfl, ?_⟩) (by assumption) ?_
        rotate_left
        · (intro w hSw; (try dsimp only at hSw); go_simp)
          try with_reducible rfl
        try simp only [Act.put, List.getElem_toArray, List.getElem_cons_succ, List.getElem_cons_zero, List.setIfInBounds_toArray, List.set_cons_zero, List.set_cons_succ]
        refine Go.wpAnyH_take (fuel := 18) (i := 8) (oi := _) (v := ?_) rfl (by kernel_rfl) (by kernel_rfl) (by kernel_rfl) (fun _ _ _ h => h) (Or.inl ⟨by rfl, ?_⟩) (by assumption) ?_
        rotate_left
        · (intro w hSw; (try dsimp only at hSw); go_simp)
          try with_reducible rfl
        try simp only [Act.put, List.getElem_toArray, List.getElem_cons_succ, List.getElem_cons_zero, List.setIfInBounds_toArray, List.set_cons_zero, List.set_cons_succ]
        refine Go.wpAnyH_take (fuel := 17) (i := 9) (oi := _) (v := ?_) rfl (by kernel_rfl) (by kernel_rfl) (by kernel_rfl) (fun _ _ _ h => h) (Or.inl ⟨by rfl, ?_⟩) (by assumption) ?_
        rotate_left
        · (intro w hSw; (try dsimp only at hSw); go_simp)
          try with_reducible rfl
        try simp only [Act.put, List.getElem_toArray, List.getElem_cons_succ, List.getElem_cons_zero, List.setIfInBounds_toArray, List.set_cons_zero, List.set_cons_succ]
        refine Go.wpAnyH_take (fuel := 16) (i := 10) (oi := _) (v := ?_) rfl (by kernel_rfl) (by kernel_rfl) (by kernel_rfl) (fun _ _ _ h => h) (Or.inl ⟨by rfl, ?_⟩) (by assumption) ?_
        rotate_left
        · (intro w hSw; (try dsimp only at hSw); go_simp)
          try with_reducible rfl
        try simp only [Act.put, List.getElem_toArray, List.getElem_cons_succ, List.getElem_cons_zero, List.setIfInBounds_toArray, List.set_cons_zero, List.set_cons_succ]
        refine Go.wpAnyH_take (fuel := 15) (i := 12) (oi := _) (v := ?_) rfl (by kernel_rfl) (by kernel_rfl) (by kernel_rfl) (fun _ _ _ h => h) (Or.inl ⟨by rfl, ?_⟩) (by assumption) ?_
        rotate_left
        · (intro w hSw; (try dsimp only at hSw); go_simp)
          try with_reducible rfl
        try simp only [Act.put, List.getElem_toArray, List.getElem_cons_succ, List.getElem_cons_zero, List.setIfInBounds_toArray, List.set_cons_zero, List.set_cons_succ]
        refine Go.wpAnyH_ready (fuel := 14) (rs := [11]) (by kernel_rfl) (by simp) ?_
        refine Go.AllReadyH.cons (o := _) rfl (fun K hK => ?_) Go.AllReadyH.nil
        have HKX := Lib.hid hK
        clear hK
        go_simp
        go_at_call 17
        refine KN2.out.mono ?_
        rintro e w8 ⟨A8, c8, rfl, own8, hb8⟩
        have s1 := HS.out _ hb8
        refine HKX.out.out _ _ s1 (fun hHeld => ?_)
        clear HKX
        try simp only [Act.put, List.getElem_toArray, List.getElem_cons_succ, List.getElem_cons_zero, List.setIfInBounds_toArray, List.set_cons_zero, List.set_cons_succ]
        refine Go.wpAnyH_ready (fuel := 13) (rs := [13]) (by kernel_rfl) (by simp) ?_
        refine Go.AllReadyH.cons (o := _) rfl (fun K hK => ?_) Go.AllReadyH.nil
        have HKX := Lib.hid hK
        clear hK
        go_simp
        go_at_call 20
        refine (same_net n n A8 A l.length l.length c8 c l l w8 own8.sl.2 (HSG.out _ hb8) rfl rfl (by omega) true (by simp)).mono ?_
        rintro e w9 ⟨rfl, hb9⟩
        have s2 := HS.out _ (hb8.trans (hb9.mono hb8.size))
        refine HKX.out.out _ _ s2 (fun hHeld => ?_)
        clear HKX
        try simp only [Act.put, List.getElem_toArray, List.getElem_cons_succ, List.getElem_cons_zero, List.setIfInBounds_toArray, List.set_cons_zero, List.set_cons_succ]
        refine Go.wpAnyH_take (fuel := 12) (i := 14) (oi := _) (v := ?_) rfl (by kernel_rfl) (by kernel_rfl) (by kernel_rfl) (fun _ _ _ h => h) (Or.inl ⟨by rfl, ?_⟩) (by assumption) ?_
        rotate_left
        · (intro w hSw; (try dsimp only at hSw); go_simp)
          try with_reducible rfl
        try simp only [Act.put, List.getElem_toArray, List.getElem_cons_succ, List.getElem_cons_zero, List.setIfInBounds_toArray, List.set_cons_zero, List.set_cons_succ]
        refine Go.wpAnyH_take (fuel := 11) (i := 15) (oi := _) (v := ?_) rfl (by kernel_rfl) (by kernel_rfl) (by kernel_rfl) (fun _ _ _ h => h) (Or.inl ⟨by rfl, ?_⟩) (by assumption) ?_
        rotate_left
        · (intro w hSw; (try dsimp only at hSw); go_simp)
          try with_reducible rfl
        try simp only [Act.put, List.getElem_toArray, List.getElem_cons_succ, List.getElem_cons_zero, List.setIfInBounds_toArray, List.set_cons_zero, List.set_cons_succ]
        refine Go.wpAnyH_take (fuel := 10) (i := 16) (oi := _) (v := ?_) rfl (by kernel_rfl) (by kernel_rfl) (by kernel_rfl) (fun _ _ _ h => h) (Or.inl ⟨by rfl, ?_⟩) (by assumption) ?_
        rotate_left
        · (intro w hSw; (try dsimp only at hSw); go_simp)
          try with_reducible rfl
        try simp only [Act.put, List.getElem_toArray, List.getElem_cons_succ, List.getElem_cons_zero, List.setIfInBounds_toArray, List.set_cons_zero, List.set_cons_succ]
        refine Go.wpAnyH_take (fuel := 9) (i := 17) (oi := _) (v := ?_) rfl (by kernel_rfl) (by kernel_rfl) (by kernel_rfl) (fun _ _ _ h => h) (Or.inl ⟨by rfl, ?_⟩) (by assumption) ?_
        rotate_left
        · (intro w hSw; (try dsimp only at hSw); go_simp)
          try with_reducible rfl
        try simp only [Act.put, List.getElem_toArray, List.getElem_cons_succ, List.getElem_cons_zero, List.setIfInBounds_toArray, List.set_cons_zero, List.set_cons_succ]
        refine Go.wpAnyH_take (fuel := 8) (i := 18) (oi := _) (v := ?_) rfl (by kernel_rfl) (by kernel_rfl) (by kernel_rfl) (fun _ _ _ h => h) (Or.inl ⟨by rfl, ?_⟩) (by assumption) ?_
        rotate_left
        · (intro w hSw; (try dsimp only at hSw); go_simp)
          try with_reducible rfl
        try simp only [Act.put, List.getElem_toArray, List.getElem_cons_succ, List.getElem_cons_zero, List.setIfInBounds_toArray, List.set_cons_zero, List.set_cons_succ]
        refine Go.wpAnyH_take (fuel := 7) (i := 19) (oi := _) (v := ?_) rfl (by kernel_rfl) (by kernel_rfl) (by kernel_rfl) (fun _ _ _ h => h) (Or.inl ⟨by rfl, ?_⟩) (by assumption) ?_
        rotate_left
        · (intro w hSw; (try dsimp only at hSw); go_simp)
          try with_reducible rfl
        try simp only [Act.put, List.getElem_toArray, List.getElem_cons_succ, List.getElem_cons_zero, List.setIfInBounds_toArray, List.set_cons_zero, List.set_cons_succ]
        refine Go.wpAnyH_take (fuel := 6) (i := 20) (oi := _) (v := ?_) rfl (by kernel_rfl) (by kernel_rfl) (by kernel_rfl) (fun _ _ _ h => h) (Or.inl ⟨by rfl, ?_⟩) (by assumption) ?_
        rotate_left
        · (intro w hSw; (try dsimp only at hSw); go_simp)
          try with_reducible rfl
        try simp only [Act.put, List.getElem_toArray, List.getElem_cons_succ, List.getElem_cons_zero, List.setIfInBounds_toArray, List.set_cons_zero, List.set_cons_succ]
        refine Go.wpAnyH_take (fuel := 5) (i := 21) (oi := _) (v := ?_) rfl (by kernel_rfl) (by kernel_rfl) (by kernel_rfl) (fun _ _ _ h => h) (Or.inl ⟨by rfl, ?_⟩) (by assumption) ?_
        rotate_left
        · (intro w hSw; (try dsimp only at hSw); go_simp)
          try with_reducible rfl
        try simp only [Act.put, List.getElem_toArray, List.getElem_cons_succ, List.getElem_cons_zero, List.setIfInBounds_toArray, List.set_cons_zero, List.set_cons_succ]
        refine Go.wpAnyH_take (fuel := 4) (i := 22) (oi := _) (v := ?_) rfl (by kernel_rfl) (by kernel_rfl) (by kernel_rfl) (fun _ _ _ h => h) (Or.inl ⟨by rfl, ?_⟩) (by assumption) ?_
        rotate_left
        · (intro w hSw; (try dsimp only at hSw); go_simp)
          try with_reducible rfl
        try simp only [Act.put, List.getElem_toArray, List.getElem_cons_succ, List.getElem_cons_zero, List.setIfInBounds_toArray, List.set_cons_zero, List.set_cons_succ]
        refine Go.wpAnyH_ready (fuel := 3) (rs := [23]) (by kernel_rfl) (by simp) ?_
        refine Go.AllReadyH.cons (o := _) rfl (fun K hK => ?_) Go.AllReadyH.nil
        have HKX := Lib.hid hK
        clear hK
        go_simp
        go_at_call 21
        refine (StarF.walks_any n co1 s t A c l A2 k2 c2 p w9 (HSG.out _ (hb8.trans (hb9.mono hb8.size))) (HOP.out w9 (hb8.trans (hb9.mono hb8.size))) HPK.out (by omega) (by omega) HCO.out HHD.out HLS.out).mono ?_
        rintro e w10 ⟨rfl, hb10⟩
        have s3 := HS.out _ ((hb8.trans (hb9.mono hb8.size)).trans (hb10.mono (Nat.le_trans hb8.size hb9.size)))
        refine HKX.out.out _ _ s3 (fun hHeld => ?_)
        clear HKX
        try simp only [Act.put, List.getElem_toArray, List.getElem_cons_succ, List.getElem_cons_zero, List.setIfInBounds_toArray, List.set_cons_zero, List.set_cons_succ]
        refine Go.wpAnyH_take (fuel := 2) (i := 24) (oi := _) (v := ?_) rfl (by kernel_rfl) (by kernel_rfl) (by kernel_rfl) (fun _ _ _ h => h) (Or.inl ⟨by rfl, ?_⟩) (by assumption) ?_
        rotate_left
        · (intro w hSw; (try dsimp only at hSw); go_simp)
          try with_reducible rfl
        try simp only [Act.put, List.getElem_toArray, List.getElem_cons_succ, List.getElem_cons_zero, List.setIfInBounds_toArray, List.set_cons_zero, List.set_cons_succ]
        refine Go.wpAnyH_take (fuel := 1) (i := 25) (oi := _) (v := ?_) rfl (by kernel_rfl) (by kernel_rfl) (by kernel_rfl) (fun _ _ _ h => h) (Or.inl ⟨by rfl, ?_⟩) (by assumption) ?_
        rotate_left
        · (intro w hSw; (try dsimp only at hSw); go_simp)
          try with_reducible rfl
        try simp only [Act.put, List.getElem_toArray, List.getElem_cons_succ, List.getElem_cons_zero, List.setIfInBounds_toArray, List.set_cons_zero, List.set_cons_succ]
        refine Go.wpAnyH_take (fuel := 0) (i := 26) (oi := _) (v := ?_) rfl (by kernel_rfl) (by kernel_rfl) (by kernel_rfl) (fun _ _ _ h => h) (Or.inl ⟨by rfl, ?_⟩) (by assumption) ?_
        rotate_left
        · (intro w hSw; (try dsimp only at hSw); go_simp)
          try with_reducible rfl
        try simp only [Act.put, List.getElem_toArray, List.getElem_cons_succ, List.getElem_cons_zero, List.setIfInBounds_toArray, List.set_cons_zero, List.set_cons_succ]
        refine Go.wpAnyH_done (by kernel_rfl) ?_ _
        have B15 := HB14.out.drew.trans ((hb8.trans ((hb9.trans (hb10.mono hb9.size)).mono hb8.size)).mono hz14w)
        obtain ⟨_, _, _, HF⟩ := HK.out _ B15
        have HB := Lib.hid HF
        clear B15 HF s0 s1 s2 s3 own8 hb8 hb9 hb10
        go_wp2
        go_ret
        exact ⟨by simp, HB.out⟩
      · skip
        refine Go.wp_region_held_drew (S := (fun w' => w'.cell? ⟨w.heap.size, 0, none⟩ = some (.int .i64 n) ∧ w'.cell? ⟨w.heap.size, 1, none⟩ = some (.slice A l.length c) ∧ w'.cell? ⟨Z, 0, none⟩ = some (.slice A2 k2 c2) ∧ w'.cell? ⟨Z, 1, none⟩ = some (.int .i64 co1))) (by kernel_rfl) s0 (fun hHeld => ?_)
        refine Go.wpAnyH_take (fuel := 26) (i := 0) (oi := _) (v := ?_) rfl (by kernel_rfl) (by kernel_rfl) (by kernel_rfl) (fun _ _ _ h => h) (Or.inl ⟨by rfl, ?_⟩) (by assumption) ?_
        rotate_left
        · (intro w hSw; (try dsimp only at hSw); go_simp)
          try with_reducible rfl
        try simp only [Act.put, List.getElem_toArray, List.getElem_cons_succ, List.getElem_cons_zero, List.setIfInBounds_toArray, List.set_cons_zero, List.set_cons_succ]
        refine Go.wpAnyH_take (fuel := 25) (i := 1) (oi := _) (v := ?_) rfl (by kernel_rfl) (by kernel_rfl) (by kernel_rfl) (fun _ _ _ h => h) (Or.inl ⟨by rfl, ?_⟩) (by assumption) ?_
        rotate_left
        · (intro w hSw; (try dsimp only at hSw); go_simp)
          try with_reducible rfl
        try simp only [Act.put, List.getElem_toArray, List.getElem_cons_succ, List.getElem_cons_zero, List.setIfInBounds_toArray, List.set_cons_zero, List.set_cons_succ]
        refine Go.wpAnyH_take (fuel := 24) (i := 2) (oi := _) (v := ?_) rfl (by kernel_rfl) (by kernel_rfl) (by kernel_rfl) (fun _ _ _ h => h) (Or.inl ⟨by rfl, ?_⟩) (by assumption) ?_
        rotate_left
        · (intro w hSw; (try dsimp only at hSw); go_simp)
          try with_reducible rfl
        try simp only [Act.put, List.getElem_toArray, List.getElem_cons_succ, List.getElem_cons_zero, List.setIfInBounds_toArray, List.set_cons_zero, List.set_cons_succ]
        refine Go.wpAnyH_take (fuel := 23) (i := 3) (oi := _) (v := ?_) rfl (by kernel_rfl) (by kernel_rfl) (by kernel_rfl) (fun _ _ _ h => h) (Or.inl ⟨by rfl, ?_⟩) (by assumption) ?_
        rotate_left
        · (intro w hSw; (try dsimp only at hSw); go_simp)
          try with_reducible rfl
        try simp only [Act.put, List.getElem_toArray, List.getElem_cons_succ, List.getElem_cons_zero, List.setIfInBounds_toArray, List.set_cons_zero, List.set_cons_succ]
        refine Go.wpAnyH_take (fuel := 22) (i := 4) (oi := _) (v := ?_) rfl (by kernel_rfl) (by kernel_rfl) (by kernel_rfl) (fun _ _ _ h => h) (Or.inl ⟨by rfl, ?_⟩) (by assumption) ?_
        rotate_left
        · (intro w hSw; (try dsimp only at hSw); go_simp)
          try with_reducible rfl
        try simp only [Act.put, List.getElem_toArray, List.getElem_cons_succ, List.getElem_cons_zero, List.setIfInBounds_toArray, List.set_cons_zero, List.set_cons_succ]
        refine Go.wpAnyH_take (fuel := 21) (i := 5) (oi := _) (v := ?_) rfl (by kernel_rfl) (by kernel_rfl) (by kernel_rfl) (fun _ _ _ h => h) (Or.inl ⟨by rfl, ?_⟩) (by assumption) ?_
        rotate_left
        · (intro w hSw; (try dsimp only at hSw); go_simp)
          try with_reducible rfl
        try simp only [Act.put, List.getElem_toArray, List.getElem_cons_succ, List.getElem_cons_zero, List.setIfInBounds_toArray, List.set_cons_zero, List.set_cons_succ]
        refine Go.wpAnyH_take (fuel := 20) (i := 6) (oi := _) (v := ?_) rfl (by kernel_rfl) (by kernel_rfl) (by kernel_rfl) (fun _ _ _ h => h) (Or.inl ⟨by rfl, ?_⟩) (by assumption) ?_
        rotate_left
        · (intro w hSw; (try dsimp only at hSw); go_simp)
          try with_reducible rfl
        try simp only [Act.put, List.getElem_toArray, List.getElem_cons_succ, List.getElem_cons_zero, List.setIfInBounds_toArray, List.set_cons_zero, List.set_cons_succ]
        refine Go.wpAnyH_take (fuel := 19) (i := 7) (oi := _) (v := ?_) rfl (by kernel_rfl) (by kernel_rfl) (by kernel_rfl) (fun _ _ _ h => h) (Or.inl ⟨by rfl, ?_⟩) (by assumption) ?_
        rotate_left
        · (intro w hSw; (try dsimp only at hSw); go_simp)
          try with_reducible rfl
        try simp only [Act.put, List.getElem_toArray, List.getElem_cons_succ, List.getElem_cons_zero, List.setIfInBounds_toArray, List.set_cons_zero, List.set_cons_succ]
        refine Go.wpAnyH_take (fuel := 18) (i := 8) (oi := _) (v := ?_) rfl (by kernel_rfl) (by kernel_rfl) (by kernel_rfl) (fun _ _ _ h => h) (Or.inl ⟨by rfl, ?_⟩) (by assumption) ?_
        rotate_left
        · (intro w hSw; (try dsimp only at hSw); go_simp)
          try with_reducible rfl
        try simp only [Act.put, List.getElem_toArray, List.getElem_cons_succ, List.getElem_cons_zero, List.setIfInBounds_toArray, List.set_cons_zero, List.set_cons_succ]
        refine Go.wpAnyH_take (fuel := 17) (i := 9) (oi := _) (v := ?_) rfl (by kernel_rfl) (by kernel_rfl) (by kernel_rfl) (fun _ _ _ h => h) (Or.inl ⟨by rfl, ?_⟩) (by assumption) ?_
        rotate_left
        · (intro w hSw; (try dsimp only at hSw); go_simp)
          try with_reducible rfl
        try simp only [Act.put, List.getElem_toArray, List.getElem_cons_succ, List.getElem_cons_zero, List.setIfInBounds_toArray, List.set_cons_zero, List.set_cons_succ]
        refine Go.wpAnyH_take (fuel := 16) (i := 10) (oi := _) (v := ?_) rfl (by kernel_rfl) (by kernel_rfl) (by kernel_rfl) (fun _ _ _ h => h) (Or.inl ⟨by rfl, ?_⟩) (by assumption) ?_
        rotate_left
        · (intro w hSw; (try dsimp only at hSw); go_simp)
          try with_reducible rfl
        try simp only [Act.put, List.getElem_toArray, List.getElem_cons_succ, List.getElem_cons_zero, List.setIfInBounds_toArray, List.set_cons_zero, List.set_cons_succ]
        refine Go.wpAnyH_take (fuel := 15) (i := 12) (oi := _) (v := ?_) rfl (by kernel_rfl) (by kernel_rfl) (by kernel_rfl) (fun _ _ _ h => h) (Or.inl ⟨by rfl, ?_⟩) (by assumption) ?_
        rotate_left
        · (intro w hSw; (try dsimp only at hSw); go_simp)
          try with_reducible rfl
        try simp only [Act.put, List.getElem_toArray, List.getElem_cons_succ, List.getElem_cons_zero, List.setIfInBounds_toArray, List.set_cons_zero, List.set_cons_succ]
        refine Go.wpAnyH_ready (fuel := 14) (rs := [11]) (by kernel_rfl) (by simp) ?_
        refine Go.AllReadyH.cons (o := _) rfl (fun K hK => ?_) Go.AllReadyH.nil
        have HKX := Lib.hid hK
        clear hK
        go_simp
        go_at_call 17
        refine KN2.out.mono ?_
        rintro e w8 ⟨A8, c8, rfl, own8, hb8⟩
        have s1 := HS.out _ hb8
        refine HKX.out.out _ _ s1 (fun hHeld => ?_)
        clear HKX
        try simp only [Act.put, List.getElem_toArray, List.getElem_cons_succ, List.getElem_cons_zero, List.setIfInBounds_toArray, List.set_cons_zero, List.set_cons_succ]
        refine Go.wpAnyH_ready (fuel := 13) (rs := [13]) (by kernel_rfl) (by simp) ?_
        refine Go.AllReadyH.cons (o := _) rfl (fun K hK => ?_) Go.AllReadyH.nil
        have HKX := Lib.hid hK
        clear hK
        go_simp
        go_at_call 20
        refine (same_net n n A8 A l.length l.length c8 c l l w8 own8.sl.2 (HSG.out _ hb8) rfl rfl (by omega) true (by simp)).mono ?_
        rintro e w9 ⟨rfl, hb9⟩
        have s2 := HS.out _ (hb8.trans (hb9.mono hb8.size))
        refine HKX.out.out _ _ s2 (fun hHeld => ?_)
        clear HKX
        try simp only [Act.put, List.getElem_toArray, List.getElem_cons_succ, List.getElem_cons_zero, List.setIfInBounds_toArray, List.set_cons_zero, List.set_cons_succ]
        refine Go.wpAnyH_take (fuel := 12) (i := 14) (oi := _) (v := ?_) rfl (by kernel_rfl) (by kernel_rfl) (by kernel_rfl) (fun _ _ _ h => h) (Or.inl ⟨by rfl, ?_⟩) (by assumption) ?_
        rotate_left
        · (intro w hSw; (try dsimp only at hSw); go_simp)
          try with_reducible rfl
        try simp only [Act.put, List.getElem_toArray, List.getElem_cons_succ, List.getElem_cons_zero, List.setIfInBounds_toArray, List.set_cons_zero, List.set_cons_succ]
        refine Go.wpAnyH_take (fuel := 11) (i := 15) (oi := _) (v := ?_) rfl (by kernel_rfl) (by kernel_rfl) (by kernel_rfl) (fun _ _ _ h => h) (Or.inl ⟨by rfl, ?_⟩) (by assumption) ?_
        rotate_left
        · (intro w hSw; (try dsimp only at hSw); go_simp)
          try with_reducible rfl
        try simp only [Act.put, List.getElem_toArray, List.getElem_cons_succ, List.getElem_cons_zero, List.setIfInBounds_toArray, List.set_cons_zero, List.set_cons_succ]
        refine Go.wpAnyH_take (fuel := 10) (i := 16) (oi := _) (v := ?_) rfl (by kernel_rfl) (by kernel_rfl) (by kernel_rfl) (fun _ _ _ h => h) (Or.inl ⟨by rfl, ?_⟩) (by assumption) ?_
        rotate_left
        · (intro w hSw; (try dsimp only at hSw); go_simp)
          try with_reducible rfl
        try simp only [Act.put, List.getElem_toArray, List.getElem_cons_succ, List.getElem_cons_zero, List.setIfInBounds_toArray, List.set_cons_zero, List.set_cons_succ]
        refine Go.wpAnyH_take (fuel := 9) (i := 17) (oi := _) (v := ?_) rfl (by kernel_rfl) (by kernel_rfl) (by kernel_rfl) (fun _ _ _ h => h) (Or.inl ⟨by rfl, ?_⟩) (by assumption) ?_
        rotate_left
        · (intro w hSw; (try dsimp only at hSw); go_simp)
          try with_reducible rfl
        try simp only [Act.put, List.getElem_toArray, List.getElem_cons_succ, List.getElem_cons_zero, List.setIfInBounds_toArray, List.set_cons_zero, List.set_cons_succ]
        refine Go.wpAnyH_take (fuel := 8) (i := 18) (oi := _) (v := ?_) rfl (by kernel_rfl) (by kernel_rfl) (by kernel_rfl) (fun _ _ _ h => h) (Or.inl ⟨by rfl, ?_⟩) (by assumption) ?_
        rotate_left
        · (intro w hSw; (try dsimp only at hSw); go_simp)
          try with_reducible rfl
        try simp only [Act.put, List.getElem_toArray, List.getElem_cons_succ, List.getElem_cons_zero, List.setIfInBounds_toArray, List.set_cons_zero, List.set_cons_succ]
        refine Go.wpAnyH_take (fuel := 7) (i := 19) (oi := _) (v := undef) rfl (by kernel_rfl) (by kernel_rfl) (by kernel_rfl) (fun _ _ _ h => h) (Or.inr ⟨by rfl, rfl⟩) (by assumption) ?_
        try simp only [Act.put, List.getElem_toArray, List.getElem_cons_succ, List.getElem_cons_zero, List.setIfInBounds_toArray, List.set_cons_zero, List.set_cons_succ]
        refine Go.wpAnyH_take (fuel := 6) (i := 20) (oi := _) (v := undef) rfl (by kernel_rfl) (by kernel_rfl) (by kernel_rfl) (fun _ _ _ h => h) (Or.inr ⟨by rfl, rfl⟩) (by assumption) ?_
        try simp only [Act.put, List.getElem_toArray, List.getElem_cons_succ, List.getElem_cons_zero, List.setIfInBounds_toArray, List.set_cons_zero, List.set_cons_succ]
        refine Go.wpAnyH_take (fuel := 5) (i := 21) (oi := _) (v := undef) rfl (by kernel_rfl) (by kernel_rfl) (by kernel_rfl) (fun _ _ _ h => h) (Or.inr ⟨by rfl, rfl⟩) (by assumption) ?_
        try simp only [Act.put, List.getElem_toArray, List.getElem_cons_succ, List.getElem_cons_zero, List.setIfInBounds_toArray, List.set_cons_zero, List.set_cons_succ]
        refine Go.wpAnyH_take (fuel := 4) (i := 22) (oi := _) (v := undef) rfl (by kernel_rfl) (by kernel_rfl) (by kernel_rfl) (fun _ _ _ h => h) (Or.inr ⟨by rfl, rfl⟩) (by assumption) ?_
        try simp only [Act.put, List.getElem_toArray, List.getElem_cons_succ, List.getElem_cons_zero, List.setIfInBounds_toArray, List.set_cons_zero, List.set_cons_succ]
        refine Go.wpAnyH_take (fuel := 3) (i := 23) (oi := _) (v := undef) rfl (by kernel_rfl) (by kernel_rfl) (by kernel_rfl) (fun _ _ _ h => h) (Or.inr ⟨by rfl, rfl⟩) (by assumption) ?_
        try simp only [Act.put, List.getElem_toArray, List.getElem_cons_succ, List.getElem_cons_zero, List.setIfInBounds_toArray, List.set_cons_zero, List.set_cons_succ]
        refine Go.wpAnyH_take (fuel := 2) (i := 24) (oi := _) (v := ?_) rfl (by kernel_rfl) (by kernel_rfl) (by kernel_rfl) (fun _ _ _ h => h) (Or.inl ⟨by rfl, ?_⟩) (by assumption) ?_
        rotate_left
        · (intro w hSw; (try dsimp only at hSw); go_simp)
          try with_reducible rfl
        try simp only [Act.put, List.getElem_toArray, List.getElem_cons_succ, List.getElem_cons_zero, List.setIfInBounds_toArray, List.set_cons_zero, List.set_cons_succ]
        refine Go.wpAnyH_take (fuel := 1) (i := 25) (oi := _) (v := ?_) rfl (by kernel_rfl) (by kernel_rfl) (by kernel_rfl) (fun _ _ _ h => h) (Or.inl ⟨by rfl, ?_⟩) (by assumption) ?_
        rotate_left
        · (intro w hSw; (try dsimp only at hSw); go_simp)
          try with_reducible rfl
        try simp only [Act.put, List.getElem_toArray, List.getElem_cons_succ, List.getElem_cons_zero, List.setIfInBounds_toArray, List.set_cons_zero, List.set_cons_succ]
        refine Go.wpAnyH_take (fuel := 0) (i := 26) (oi := _) (v := ?_) rfl (by kernel_rfl) (by kernel_rfl) (by kernel_rfl) (fun _ _ _ h => h) (Or.inl ⟨by rfl, ?_⟩) (by assumption) ?_
        rotate_left
        · (intro w hSw; (try dsimp only at hSw); go_simp)
          try with_reducible rfl
        try simp only [Act.put, List.getElem_toArray, List.getElem_cons_succ, List.getElem_cons_zero, List.setIfInBounds_toArray, List.set_cons_zero, List.set_cons_succ]
        refine Go.wpAnyH_done (by kernel_rfl) ?_ _
        have B15 := HB14.out.drew.trans ((hb8.trans (hb9.mono hb8.size)).mono hz14w)
        obtain ⟨_, _, _, HF⟩ := HK.out _ B15
        have HB := Lib.hid HF
        clear B15 HF s0 s1 s2 own8 hb8 hb9
        go_wp2
        go_ret
        exact ⟨by simp, HB.out⟩
    · have kn := new_no N a b A' c' l wc HIN.out.own.sl.2 (by omega) hx
      have hne : (Dijk.look N l [a, b] != 0) = true := by rw [bne_iff_ne]; exact hx
      generalize Dijk.look N l [a, b] = x at *
      have KN := Lib.hid kn
      clear kn hx
      go_wp2_with fail
      refine KN.out.mono ?_
      rintro e w6 ⟨rfl, hb6⟩
      have B6 := B5.trans (hb6.mono Z5)
      have Z6 : w.heap.size + 1 ≤ w6.heap.size := by have := hb6.size; omega
      clear hb6 KN x0 x1 B5
      go_wp2_with fail
      refine (two_any _).mono ?_
      rintro e w7 ⟨g, rfl, own7, hb7⟩
      have B7 := B6.trans (hb7.mono Z6)
      have Z7 : w.heap.size + 1 ≤ w7.heap.size := by have := hb7.size; omega
      have kn := new_pln 2 0 1 (some ⟨g, 0, none⟩) 1 [(0, 1, 5)] w7 own7.sl.2 (fun h => (nomatch h)) (by decide)
      have KN := Lib.hid kn
      clear hb7 kn own7 B6
      go_wp2_with fail
      refine KN.out.mono ?_
      rintro e w8 ⟨P0, rfl, HP0⟩
      have B8 := B7.trans (HP0.out.lo.mono Z7)
      obtain ⟨_, _, _, H6⟩ := HK.out _ B8
      have HB := Lib.hid H6
      clear HP0 H6 B8 B7 KN
      go_wp2
      go_ret
      exact ⟨by simp, HB.out⟩

theorem own : ownKnob Try.prog.godebug = none := by kernel_rfl
theorem laidOut : laidOutB Try.prog = true := by kernel_rfl

set_option maxRecDepth 100000 in
theorem contract (H : Type) (enc : TypeId × Value → H) (W : World) (base : Nat) (args : Array Value) (ds gs : List (DataW H)) (before : List MemPlace)
    (hval0 : ∀ (j : Nat) t v, Try.f3.params[j]? = some t → args[j]? = some v → Value.okWide Try.prog W .any base t v)
    (hW : DataW.Whole enc Try.prog Try.f3.params.toList Rows.lifeOwnSpec.vars false W args.toList ds gs before) (hk : Rows.uptoSmall H (ds ++ gs) = true) :
    Calls Try.prog 3 args W fun e W' => ∃ v, e = .returned v ∧ Rows.lifeOwnSpec.post enc Try.prog Try.f3 false true false false W args v W' := by
  have hval : ∀ (j : Nat) t v, Try.f3.params[j]? = some t → args[j]? = some v → Value.okWide Try.prog W .any base t v := hval0
  have hW' := hW
  obtain ⟨p, q, hA0, hV, rfl, hfz, hnd⟩ := hW
  have hA : DataW.TrodAll enc Try.prog W 0 (fun _ => true) true Try.f3.params.toList args.toList ds p := hA0
  rw [Try.params3] at hA hval
  obtain ⟨v0, vs0, d0, ds0, p0, q0, hargs, rfl, rfl, h0, r0⟩ := trodAll_cons hA
  obtain ⟨v1, vs1, d1, ds1, p1, q1, rfl, rfl, rfl, h1, r1⟩ := trodAll_cons r0
  obtain ⟨v2, vs2, d2, ds2, p2, q2, rfl, rfl, rfl, h2, r2⟩ := trodAll_cons r1
  obtain ⟨rfl, rfl, rfl⟩ := trodAll_nil r2
  obtain rfl : args = #[v0, v1, v2] := by cases args; simp_all
  obtain ⟨rfl, rfl⟩ := trodVars_none hV
  obtain ⟨N0, A0, c0, l0, dd0, rfl, hN0, hG0, hb0, rfl, hd0⟩ := open_net Try.underlying24 (by kernel_rfl) (by kernel_rfl) Try.underlying3 Try.underlying22 Try.underlying27 (by kernel_rfl) (by kernel_rfl) Try.underlying3 Try.underlying3 Try.underlying3 (hval 0 24 v0 rfl rfl) h0
  obtain ⟨a1, rfl, rfl, rfl, wa1⟩ := open_int Try.underlying3 (hval 1 3 v1 rfl rfl) h1
  obtain ⟨a2, rfl, rfl, rfl, wa2⟩ := open_int Try.underlying3 (hval 2 3 v2 rfl rfl) h2
  have hbulk := bulk_bound hk
  simp only [List.cons_append, List.nil_append, List.append_nil, Rows.uptoBulkAll] at hbulk
  have hq0 := bulk_agg2 (x := .lit (.int .i64 N0)) hd0
  refine (walk W N0 A0 c0 l0 hG0 a1 (wf_bd wa1) a2 (wf_bd wa2) (by omega)).mono fun e W' ⟨he, hB⟩ => ?_
  subst he
  exact ⟨_, rfl, post_of_law laidOut rfl Try.underlying4 rfl (by intro t ht; rw [Try.params3] at ht; simp at ht; rcases ht with rfl | rfl | rfl <;> exact ⟨by kernel_rfl, of_decide_eq_true (by kernel_rfl)⟩) hW' rfl hB⟩

set_option maxRecDepth 100000 in
theorem lifted (os : Os) (started : os.Started) (H : Type) (enc : TypeId × Value → H) (F : Stop.Interp) :
    ReturnsInHanded {} Try.checked os 3 .any ((Rows.OpenSpec.upto Rows.lifeOwnSpec).pre6 enc Try.prog Try.f3 Rows.lifeOwnUptoRow.domain false) (((Rows.OpenSpec.upto Rows.lifeOwnSpec).at F).post enc Try.prog Try.f3 false true false false) := by
  refine returnsInHanded_of_cond (C := Try.checked) (s := Rows.OpenSpec.upto Rows.lifeOwnSpec) (k := Rows.uptoSmall) rfl own started (by kernel_rfl) Try.func3
    (OpenSpec.witness (enc := enc) (C := Try.checked) (s := Rows.OpenSpec.upto Rows.lifeOwnSpec) (k := Rows.uptoSmall) rfl false ⟨#[], #[.agg #[.int .i64 0, .slice none 0 0], .int .i64 0, .int .i64 0], []⟩ 8 (by kernel_rfl) (by kernel_rfl) (by kernel_rfl)
      (x := ([.agg [.lit (.int .i64 0), .nil], .lit (.int .i64 0), .lit (.int .i64 0)], [], [])) (by kernel_rfl) rfl (by kernel_rfl)) ?_
  intro W base args ds gs before hval hW _ hk _
  exact contract H enc W base args ds gs before hval hW hk

theorem holds : Rows.LifeOwnUptoSaid :=
  OpenClaim.holds_of_cond 3 Try.f3 rfl rfl rfl rfl rfl rfl rfl ⟨rfl, rfl, rfl, rfl, rfl⟩ rfl rfl rfl rfl rfl (by kernel_rfl) Try.func3 (by kernel_rfl)
    (of_decide_eq_true (by kernel_rfl)) (by unfold Func.isWrapper; first | (rw [if_pos (by decide +kernel)]; kernel_rfl) | (rw [if_neg (by decide +kernel)]; exact ⟨rfl, rfl⟩))
    (fun os started H enc _ F => lifted os started H enc F)
#print axioms holds
end Go.Proofs.Ytamphgcpfncenaa.LifeOwnLaw
