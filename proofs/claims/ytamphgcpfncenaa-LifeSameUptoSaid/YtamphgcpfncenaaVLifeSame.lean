/- For every net, two places and pairs: LifeSame answers true (after any changes the way told is a shortest one of the net of now, and none is told just where there is none), and the arguments read as before. The condition is the size of the arguments: together 2^20 elements at most. -/
import Derived.Test.YtamphgcpfncenaaRows
import Derived.Test.YtamphgcpfncenaaVOpen
import Derived.Test.YtamphgcpfncenaaVBulk
import Derived.Test.YtamphgcpfncenaaVLifeUse
import Derived.Test.YtamphgcpfncenaaVLifeLoop
import Derived.Test.YtamphgcpfncenaaVDijkTwo
import Derived.Test.YtamphgcpfncenaaVStarKeep
import Derived.Test.YtamphgcpfncenaaVUnionOf
import Derived.Test.YtamphgcpfncenaaVWayUse
import Derived.Deep.RegionHeld3
import Derived.Deep.CutRange
import Derived.OrdersHeld
namespace Go.Proofs.Ytamphgcpfncenaa.LifeSameLaw
open Go.ChangeShapes Go.WideShapes Go.ChangeAt Go.RowKit Go.Proofs.Ytamphgcpfncenaa NetLaw BellLaw DijkLaw FlowLaw LifeLaw Go.Proofs.Ytamphgcpfncenaa.Net Go.Proofs.Ytamphgcpfncenaa.Life Go.Proofs.Ytamphgcpfncenaa.Std Go.Proofs.Ytamphgcpfncenaa.Refs
set_option linter.unusedSimpArgs false
set_option linter.unusedVariables false

set_option maxRecDepth 100000 in
set_option maxHeartbeats 8000000 in
theorem walk (w : World) (N : Int) (A : Option Addr) (c : Nat) (l : List E) (hA : Arg w 3 ce A c l) (a : Int) (ha : -9223372036854775808 ≤ a ∧ a ≤ 9223372036854775807) (b : Int) (hb : -9223372036854775808 ≤ b ∧ b ≤ 9223372036854775807) (A2 : Option Addr) (c2 : Nat) (ps : List (Int × Int)) (hA2 : Arg w 2 cp A2 c2 ps)
    (hbulk : l.length + ps.length ≤ 1048576) :
    Calls Try.prog 4 #[.agg #[.int .i64 N, .slice A l.length c], .int .i64 a, .int .i64 b, .slice A2 ps.length c2] w fun e w' => e = .returned (.bool true) ∧ Below w.heap.size w w' := by
  have hs := hA.sl
  have hnil := hA.nil
  have hps := hA2.sl
  have hll : l.length ≤ 9223372036854775807 := Nat.le_trans hA.cap hA.max
  have hpl : ps.length ≤ 1048576 := by omega
  clear hA hA2 ha hb hbulk
  have hw0 : Below w.heap.size w (w.alloc (.cells #[.int .i64 N, .slice A l.length c] 24)) := (Below.refl _ _).alloc (Nat.le_refl _) _
  have hkeep : ∀ W, Below (w.heap.size + 1) (w.alloc (.cells #[.int .i64 N, .slice A l.length c] 24)) W → (W.cell? ⟨w.heap.size, 0, none⟩ = some (.int .i64 N) ∧ W.cell? ⟨w.heap.size, 1, none⟩ = some (.slice A l.length c)) ∧ w.heap.size < W.heap.size ∧ Sl W W.heap.size 3 ce A l ∧ Below w.heap.size w W := fun W hW => by
    obtain ⟨cc, _⟩ := keepAt hW (Nat.lt_succ_self _)
    have q0 := cc 0
    have q1 := cc 1
    simp at q0 q1
    have H := hw0.trans (hW.mono (Nat.le_succ _))
    have hz := hW.size
    simp at hz
    exact ⟨⟨q0, q1⟩, by omega, (hs.keep H (Nat.le_refl _)).more H.size, H⟩
  have HK := Lib.hid hkeep
  clear hkeep hw0
  go_enter Try.func4, Try.ntmps4
  go_wp2_with fail
  refine (two_any _).mono ?_
  rintro e w1 ⟨g, rfl, own1, hb1⟩
  have B1 : Below (w.heap.size + 1) (w.alloc (.cells #[.int .i64 N, .slice A l.length c] 24)) w1 := hb1.mono (by simp)
  have Z1 : w.heap.size + 1 ≤ w1.heap.size := by have := hb1.size; simp at this; omega
  have kn := new_pln 2 0 1 (some ⟨g, 0, none⟩) 1 [(0, 1, 5)] w1 own1.sl.2 (fun h => (nomatch h)) (by decide)
  have KN := Lib.hid kn
  clear hb1 kn own1
  go_wp2_with fail
  refine KN.out.mono ?_
  rintro e w2 ⟨P0, rfl, HP0⟩
  have kst := set_pln HP0.out (by omega) 0 7
  have e7 : serr [((0 : Int), (1 : Int), (5 : Int))] 0 7 = 0 := by decide
  have e8 : edt [((0 : Int), (1 : Int), (5 : Int))] 0 7 = [(0, 1, 7)] := by decide
  rw [e7, e8] at kst
  have KST := Lib.hid kst
  clear kst KN e7 e8
  go_wp2_with fail
  refine KST.out.mono ?_
  rintro e w3 ⟨rfl, HP3, _, hz3⟩
  have kw := way_pln HP3.out (by omega)
  have KW0 := Lib.hid kw
  clear kw KST
  go_wp2_with fail
  refine KW0.out.mono ?_
  rintro e w4 ⟨A4, k4, c4, co4, er4, wk4, rfl, HP4, _, _, hz4, HW4⟩
  obtain ⟨rfl, rfl, rfl, own4⟩ := two_seven HW4.out
  have B4 := B1.trans (HP4.out.lo.mono Z1)
  have Z4 : w.heap.size + 1 ≤ w4.heap.size := by have := HP4.out.lo.size; omega
  clear HP0 HP3 HP4 KW0 HW4 hz3 hz4 B1 Z1
  have hw5 := heap_alloc_new w4 (.cells #[.slice A4 2 c4, .int .i64 7] 36)
  have hsl5 := (own4.alloc (.cells #[.slice A4 2 c4, .int .i64 7] 36))
  have B5 := B4.alloc Z4 (.cells #[.slice A4 2 c4, .int .i64 7] 36)
  have hZ5 : (w4.alloc (.cells #[.slice A4 2 c4, .int .i64 7] 36)).heap.size = w4.heap.size + 1 := by simp
  go_upto_region 5 with fail
  have hZ5' : w.heap.size + 1 ≤ (w4.alloc (.cells #[.slice A4 2 c4, .int .i64 7] 36)).heap.size := by rw [hZ5]; omega
  generalize w4.alloc (.cells #[.slice A4 2 c4, .int .i64 7] 36) = w5 at hw5 hsl5 B5 hZ5 hZ5' ⊢
  generalize w4.heap.size = Z4' at hw5 hZ5 ⊢
  have y0 := blk_cell hw5 0
  have y1 := blk_cell hw5 1
  simp only [List.getElem?_toArray, List.getElem?_cons_zero, List.getElem?_cons_succ] at y0 y1
  have yz := lt_of_block hw5
  have ksw := WayUse.same_way A4 (some ⟨w5.heap.size, 0, none⟩) 2 2 c4 2 [(0 : Int), 1] [(0 : Int), 1] 7 7 _ (hsl5.alloc (.cells #[.int .i64 0, .int .i64 1] 3)).sl.2 (sl_new' (by decide) w5 #[.int .i64 0, .int .i64 1] 3 [(0 : Int), 1] rfl rfl) rfl rfl (by decide) true (by decide)
  have B5' := B5.alloc hZ5' (.cells #[.int .i64 0, .int .i64 1] 3)
  have KSW := Lib.hid ksw
  clear ksw hw5 hsl5 B5 B4 Z4 own4 hZ5
  go_wp2_with fail
  refine KSW.out.mono ?_
  rintro e w6 ⟨rfl, hb6⟩
  have B6 := B5'.trans (hb6.mono (by simp; omega))
  have Z4 : w.heap.size + 1 ≤ w6.heap.size := by have := hb6.size; simp at this; omega
  clear hb6 B5' KSW y0 y1 yz hZ5'
  go_upto_region 7 with fail
  generalize hW5 : w6 = W5 at *
  clear hW5
  obtain ⟨⟨q0, q1⟩, zq, sg, _⟩ := HK.out _ B6
  have HB4 := Lib.hid B6
  clear B6
  by_cases hx : Dijk.look N l [a, b] = 0
  · obtain ⟨hg, hc, ⟨f0, f1⟩, t0, t1⟩ := DijkWay.looks_zero hx
    have hlo := hg.lo
    have hhi := hg.hi
    have h6 := hg.len
    obtain ⟨n, rfl⟩ := Int.eq_ofNat_of_zero_le (show 0 ≤ N by omega)
    obtain ⟨s, rfl⟩ := Int.eq_ofNat_of_zero_le f0
    obtain ⟨t, rfl⟩ := Int.eq_ofNat_of_zero_le t0
    have kn := new_pln n s t A c l W5 sg hnil hx
    have hcc : ∀ k, k < l.length → 1 ≤ cpt l k ∧ cpt l k ≤ 10000 := fun k hk => ⟨hc _ (ed_mem hk), (hg.cost _ (ed_mem hk)).2⟩
    have KN := Lib.hid kn
    have HC := Lib.hid hcc
    clear kn hg hc hx hlo f0 f1 t0 t1 hll hnil sg hcc
    go_wp2_with fail
    refine KN.out.mono ?_
    rintro e w6 ⟨P, rfl, HP6⟩
    clear q0 q1 zq
    have HP1 := HP6
    clear HP6 KN
    go_wp2
    go_loopw [72] (fun i wr => ∃ (k : Nat) (l' : List E) (m : Nat) (wk : Int), k ≤ ps.length ∧ i = .int .i64 k ∧ Hid (Pln W5 wr n s t P l' m wk) ∧ m ≤ 1 + k * 80001) (fun i _ => ps.length - (intOf i).toNat)
    case atStart => exact ⟨0, l, 1, 0, Nat.zero_le _, rfl, HP1, by omega⟩
    case round =>
      clear HP1
      obtain ⟨k, l', m, wk, hk, rfl, HP, hm⟩ := hrel
      have B9 := HB4.out.trans (HP.out.lo.mono Z4)
      by_cases hlt : k < ps.length
      · obtain ⟨_, zz, _, HB⟩ := HK.out _ B9
        obtain ⟨bb, off, x, y, rfl, hbb, he, hcx, hcy⟩ := Go.Proofs.Ytamphgcpfncenaa.Union.Sl.atP (hps.keep HB (Nat.le_refl _)) hlt
        have hbz : bb < wr.heap.size := by have := HB.size; omega
        have kst := set_pln (HP.out.keep ((Below.refl _ _).alloc (Nat.le_refl _) (.cells #[.int .i64 x, .int .i64 y] 47))) (by omega) x y
        have KST := Lib.hid kst
        clear kst he HB B9
        go_wp2_with fail
        refine KST.out.mono ?_
        rintro e w3 ⟨rfl, HP3, HK3, hz3⟩
        have kwy := way_pln HP3.out (by omega)
        have KWY := Lib.hid kwy
        clear kwy HK3 hcx hcy KST
        generalize serr l' x y = er0 at *
        generalize edt l' x y = l2 at *
        go_upto_region 14 with fail
        rcases Nat.mod_two_eq_zero_or_one k with hk2 | hk2
        · have hmod : Int.tmod (k : Int) 2 = 0 := by rw [Int.tmod_eq_emod_of_nonneg (by omega)]; omega
          clear hk2 KWY
          go_wp2
          go_roundw
          case rel => exact ⟨k + 1, _, m + 1, wk, by omega, by go_num, HP3, by omega⟩
          case measure => simp [intOf]; omega
        · have hmod : Int.tmod (k : Int) 2 = 1 := by rw [Int.tmod_eq_emod_of_nonneg (by omega)]; omega
          have hmod2 : ((1 : Int) == 0) = false := by decide
          clear hk2
          go_wp2_with fail
          refine KWY.out.mono ?_
          rintro e w4 ⟨A4, k4, c4, co4, er4, wk4, rfl, HP4, _, _, hz4, HW4⟩
          clear KWY hmod hmod2
          have hp5 := HP4.out.keep ((Below.refl _ _).alloc (Nat.le_refl _) (.cells #[.slice A4 k4 c4, .int .i64 co4] 36))
          have hz5 := heap_alloc_new w4 (.cells #[.slice A4 k4 c4, .int .i64 co4] 36)
          have hw5 := fun (p : List Int) (h : Own w4 w3.heap.size 3 1 ci (.slice A4 k4 c4) p) => h.alloc (.cells #[.slice A4 k4 c4, .int .i64 co4] 36)
          have HW5 := Lib.hid hw5
          clear hw5
          go_upto_region 16 with fail
          generalize w4.alloc (.cells #[.slice A4 k4 c4, .int .i64 co4] 36) = w5 at hp5 hz5 HW5 ⊢
          generalize w4.heap.size = Z at hz5 ⊢
          obtain ⟨hgd, htn⟩ := hp5.gd
          obtain ⟨hgood, hpos⟩ := Gd.good hgd
          have hs1 := hgd.s1
          have hlook : Dijk.look n l2 [(s : Int)] = 0 := Flow.look_good hgood hpos (fun v hv => by rw [List.mem_singleton] at hv; subst hv; omega)
          have hll2 : l2.length ≤ 9223372036854775807 := by have := hgood.len; omega
          have knt := net_pln hp5
          have HP5 := Lib.hid hp5
          have HZ5 := Lib.hid hz5
          have HGO := Lib.hid hgood
          have HPOS := Lib.hid hpos
          have HLK := Lib.hid hlook
          have KNT := Lib.hid knt
          clear hp5 hz5 hgood hpos hlook knt hgd
          go_wp2_with fail
          refine KNT.out.mono ?_
          rintro e w6 ⟨A6, c6, rfl, own6, hb6⟩
          have kds := DijkTwo.dist_yes n A6 c6 l2 s hll2 HLK.out w6 own6.sl.2
          have KDS := Lib.hid kds
          clear kds own6
          go_wp2_with fail
          refine KDS.out.mono ?_
          rintro e w7 ⟨SD, D, rfl, ownD, hb7, HSH⟩
          simp only [Int.toNat_natCast] at ownD ⊢
          have hb57 : Below w5.heap.size w5 w7 := hb6.trans (hb7.mono hb6.size)
          have hp7 := HP5.out.keep hb57
          have hz7 := blk_below HZ5.out hb57 (lt_of_block HZ5.out)
          have hDl : D.length = n := by have := HSH.out.len; omega
          obtain ⟨hcd, _⟩ := own_at1 hDl ownD htn
          have hdg : D.getD t 0 = dg D (t : Int) := by unfold dg; rw [Int.toNat_natCast]
          obtain ⟨dt, hdt⟩ : ∃ dt, dg D (t : Int) = dt := ⟨_, rfl⟩
          rw [hdg, hdt] at hcd
          have hSD := (ownD.base_ SD rfl).2
          have hZs := lt_of_block hz7
          have z0 := blk_cell hz7 0
          have z1 := blk_cell hz7 1
          simp only [List.getElem?_toArray, List.getElem?_cons_zero, List.getElem?_cons_succ] at z0 z1
          have hS : ∀ W, Below w7.drew.heap.size w7.drew W → (W.cell? ⟨Z, 0, none⟩ = some (.slice A4 k4 c4) ∧ W.cell? ⟨Z, 1, none⟩ = some (.int .i64 co4) ∧ W.cell? ⟨SD, t, none⟩ = some (.int .i64 dt)) := fun W hW =>
            ⟨(hW.cell (p := ⟨Z, 0, none⟩) hZs).trans z0, (hW.cell (p := ⟨Z, 1, none⟩) hZs).trans z1, (hW.cell (p := ⟨SD, t, none⟩) hSD).trans hcd⟩
          have s0 := hS _ (Below.refl _ _)
          have kn2 := net_pln (hp7.keep (Below.refl _ _).drew)
          have hfac : (er4 = 0 ∧ co4 = dt ∧ ∃ p, p.length = k4 ∧ WalkLaw.cost n l2 p = (co4, 0) ∧ p.head? = some (s : Int) ∧ p.getLast? = some (t : Int) ∧ p.length ≤ 64 ∧ ∀ W, Below w7.drew.heap.size w7.drew W → Sl W W.heap.size 1 ci A4 p) ∨ (er4 = 5 ∧ dt = 1099511627776) := by
            obtain ⟨d, hbst, h⟩ := HW4.out
            have hgood := HGO.out
            have hlo := HSH.out.lo t (by omega) (by omega)
            rw [hdt] at hlo
            have hle : dt < far → d ≤ dt := fun hf => hbst.least _ (by have := HSH.out.wk t (by omega) (by omega) (by rw [hdt]; exact hf); rw [hdt] at this; exact this)
            rcases h with ⟨h1, _, _, _, _, h3⟩ | ⟨h1, h2, h3, p, p1, p2, p3, p4, p5, p6⟩
            · refine .inr ⟨h3, ?_⟩
              rcases Int.lt_or_le dt far with hf | hf
              · have := hle hf; omega
              · have : dt = far := by omega
                rw [this]; rfl
            · have hge := HSH.out.walk_le hgood.ends (hbst.is h1) h1 (fun e he => by have := HPOS.out e he; omega)
              rw [hdt] at hge
              have := hle (by omega)
              refine .inl ⟨h3, by omega, p, p1, by rw [h2]; exact p3, p4, p5, p6, fun W hW => ?_⟩
              have o5 := (HW5.out p p2).keep hb57
              exact (o5.sl.2.keep (((Below.refl _ _).drew).trans hW) (Nat.le_refl _)).more hW.size
          have HS := Lib.hid hS
          have KN2 := Lib.hid kn2
          have HP7 := Lib.hid hp7
          have hnt : (t : Int) < (n : Int) := by omega
          have hk0 : m ≤ 1 + k * 80001 := hm
          have hZ4 : w.heap.size + 1 ≤ w7.heap.size := by have := HB4.out.size; have := HP7.out.lo.size; omega
          clear hS kn2 hp7 hz7 z0 z1 hcd hdg hdt hDl ownD HSH hb6 hb7 hb57 KDS KNT HP5 HZ5 HW4 HW5 HLK
          rcases hfac with ⟨rfl, rfl, p, hpk, hco, hhd, hls, h64, hop⟩ | ⟨rfl, rfl⟩
          · have HOP := Lib.hid hop
            have HPK := Lib.hid hpk
            have HCO := Lib.hid hco
            have HHD := Lib.hid hhd
            have HLS := Lib.hid hls
            have hk64 : k4 ≤ 64 := by omega
            clear hop hpk hco hhd hls h64
            go_upto_region 17 with fail
            refine Go.wp_region_held_drew (S := (fun w' => w'.cell? ⟨Z, 0, none⟩ = some (.slice A4 k4 c4) ∧ w'.cell? ⟨Z, 1, none⟩ = some (.int .i64 co4) ∧ w'.cell? ⟨SD, t, none⟩ = some (.int .i64 co4))) (by kernel_rfl) s0 (fun hHeld => ?_)
            refine Go.wpAnyH_take (fuel := 38) (i := 0) (oi := _) (v := ?_) rfl (by kernel_rfl) (by kernel_rfl) (by kernel_rfl) (fun _ _ _ h => h) (Or.inl ⟨by rfl, ?_⟩) (by assumption) ?_
            rotate_left
            · (intro w hSw; (try dsimp only at hSw); go_simp)
              try with_reducible rfl
            try simp only [Act.put, List.getElem_toArray, List.getElem_cons_succ, List.getElem_cons_zero, List.setIfInBounds_toArray, List.set_cons_zero, List.set_cons_succ]
            refine Go.wpAnyH_take (fuel := 37) (i := 1) (oi := _) (v := ?_) rfl (by kernel_rfl) (by kernel_rfl) (by kernel_rfl) (fun _ _ _ h => h) (Or.inl ⟨by rfl, ?_⟩) (by assumption) ?_
            rotate_left
            · (intro w hSw; (try dsimp only at hSw); go_simp)
              try with_reducible rfl
            try simp only [Act.put, List.getElem_toArray, List.getElem_cons_succ, List.getElem_cons_zero, List.setIfInBounds_toArray, List.set_cons_zero, List.set_cons_succ]
            refine Go.wpAnyH_take (fuel := 36) (i := 2) (oi := _) (v := ?_) rfl (by kernel_rfl) (by kernel_rfl) (by kernel_rfl) (fun _ _ _ h => h) (Or.inl ⟨by rfl, ?_⟩) (by assumption) ?_
            rotate_left
            · (intro w hSw; (try dsimp only at hSw); go_simp)
              try with_reducible rfl
            try simp only [Act.put, List.getElem_toArray, List.getElem_cons_succ, List.getElem_cons_zero, List.setIfInBounds_toArray, List.set_cons_zero, List.set_cons_succ]
            refine Go.wpAnyH_take (fuel := 35) (i := 3) (oi := _) (v := ?_) rfl (by kernel_rfl) (by kernel_rfl) (by kernel_rfl) (fun _ _ _ h => h) (Or.inl ⟨by rfl, ?_⟩) (by assumption) ?_
            rotate_left
            · (intro w hSw; (try dsimp only at hSw); go_simp)
              try with_reducible rfl
            try simp only [Act.put, List.getElem_toArray, List.getElem_cons_succ, List.getElem_cons_zero, List.setIfInBounds_toArray, List.set_cons_zero, List.set_cons_succ]
            refine Go.wpAnyH_take (fuel := 34) (i := 4) (oi := _) (v := ?_) rfl (by kernel_rfl) (by kernel_rfl) (by kernel_rfl) (fun _ _ _ h => h) (Or.inl ⟨by rfl, ?_⟩) (by assumption) ?_
            rotate_left
            · (intro w hSw; (try dsimp only at hSw); go_simp)
              try with_reducible rfl
            try simp only [Act.put, List.getElem_toArray, List.getElem_cons_succ, List.getElem_cons_zero, List.setIfInBounds_toArray, List.set_cons_zero, List.set_cons_succ]
            refine Go.wpAnyH_take (fuel := 33) (i := 5) (oi := _) (v := ?_) rfl (by kernel_rfl) (by kernel_rfl) (by kernel_rfl) (fun _ _ _ h => h) (Or.inl ⟨by rfl, ?_⟩) (by assumption) ?_
            rotate_left
            · (intro w hSw; (try dsimp only at hSw); go_simp)
              try with_reducible rfl
            try simp only [Act.put, List.getElem_toArray, List.getElem_cons_succ, List.getElem_cons_zero, List.setIfInBounds_toArray, List.set_cons_zero, List.set_cons_succ]
            refine Go.wpAnyH_take (fuel := 32) (i := 6) (oi := _) (v := undef) rfl (by kernel_rfl) (by kernel_rfl) (by kernel_rfl) (fun _ _ _ h => h) (Or.inr ⟨by rfl, rfl⟩) (by assumption) ?_
            try simp only [Act.put, List.getElem_toArray, List.getElem_cons_succ, List.getElem_cons_zero, List.setIfInBounds_toArray, List.set_cons_zero, List.set_cons_succ]
            refine Go.wpAnyH_take (fuel := 31) (i := 7) (oi := _) (v := undef) rfl (by kernel_rfl) (by kernel_rfl) (by kernel_rfl) (fun _ _ _ h => h) (Or.inr ⟨by rfl, rfl⟩) (by assumption) ?_
            try simp only [Act.put, List.getElem_toArray, List.getElem_cons_succ, List.getElem_cons_zero, List.setIfInBounds_toArray, List.set_cons_zero, List.set_cons_succ]
            refine Go.wpAnyH_take (fuel := 30) (i := 8) (oi := _) (v := undef) rfl (by kernel_rfl) (by kernel_rfl) (by kernel_rfl) (fun _ _ _ h => h) (Or.inr ⟨by rfl, rfl⟩) (by assumption) ?_
            try simp only [Act.put, List.getElem_toArray, List.getElem_cons_succ, List.getElem_cons_zero, List.setIfInBounds_toArray, List.set_cons_zero, List.set_cons_succ]
            refine Go.wpAnyH_take (fuel := 29) (i := 9) (oi := _) (v := undef) rfl (by kernel_rfl) (by kernel_rfl) (by kernel_rfl) (fun _ _ _ h => h) (Or.inr ⟨by rfl, rfl⟩) (by assumption) ?_
            try simp only [Act.put, List.getElem_toArray, List.getElem_cons_succ, List.getElem_cons_zero, List.setIfInBounds_toArray, List.set_cons_zero, List.set_cons_succ]
            refine Go.wpAnyH_take (fuel := 28) (i := 10) (oi := _) (v := undef) rfl (by kernel_rfl) (by kernel_rfl) (by kernel_rfl) (fun _ _ _ h => h) (Or.inr ⟨by rfl, rfl⟩) (by assumption) ?_
            try simp only [Act.put, List.getElem_toArray, List.getElem_cons_succ, List.getElem_cons_zero, List.setIfInBounds_toArray, List.set_cons_zero, List.set_cons_succ]
            refine Go.wpAnyH_take (fuel := 27) (i := 11) (oi := _) (v := undef) rfl (by kernel_rfl) (by kernel_rfl) (by kernel_rfl) (fun _ _ _ h => h) (Or.inr ⟨by rfl, rfl⟩) (by assumption) ?_
            try simp only [Act.put, List.getElem_toArray, List.getElem_cons_succ, List.getElem_cons_zero, List.setIfInBounds_toArray, List.set_cons_zero, List.set_cons_succ]
            refine Go.wpAnyH_take (fuel := 26) (i := 12) (oi := _) (v := undef) rfl (by kernel_rfl) (by kernel_rfl) (by kernel_rfl) (fun _ _ _ h => h) (Or.inr ⟨by rfl, rfl⟩) (by assumption) ?_
            try simp only [Act.put, List.getElem_toArray, List.getElem_cons_succ, List.getElem_cons_zero, List.setIfInBounds_toArray, List.set_cons_zero, List.set_cons_succ]
            refine Go.wpAnyH_take (fuel := 25) (i := 13) (oi := _) (v := undef) rfl (by kernel_rfl) (by kernel_rfl) (by kernel_rfl) (fun _ _ _ h => h) (Or.inr ⟨by rfl, rfl⟩) (by assumption) ?_
            try simp only [Act.put, List.getElem_toArray, List.getElem_cons_succ, List.getElem_cons_zero, List.setIfInBounds_toArray, List.set_cons_zero, List.set_cons_succ]
            refine Go.wpAnyH_take (fuel := 24) (i := 14) (oi := _) (v := undef) rfl (by kernel_rfl) (by kernel_rfl) (by kernel_rfl) (fun _ _ _ h => h) (Or.inr ⟨by rfl, rfl⟩) (by assumption) ?_
            try simp only [Act.put, List.getElem_toArray, List.getElem_cons_succ, List.getElem_cons_zero, List.setIfInBounds_toArray, List.set_cons_zero, List.set_cons_succ]
            refine Go.wpAnyH_take (fuel := 23) (i := 15) (oi := _) (v := ?_) rfl (by kernel_rfl) (by kernel_rfl) (by kernel_rfl) (fun _ _ _ h => h) (Or.inl ⟨by rfl, ?_⟩) (by assumption) ?_
            rotate_left
            · (intro w hSw; (try dsimp only at hSw); go_simp)
              try with_reducible rfl
            try simp only [Act.put, List.getElem_toArray, List.getElem_cons_succ, List.getElem_cons_zero, List.setIfInBounds_toArray, List.set_cons_zero, List.set_cons_succ]
            refine Go.wpAnyH_take (fuel := 22) (i := 16) (oi := _) (v := ?_) rfl (by kernel_rfl) (by kernel_rfl) (by kernel_rfl) (fun _ _ _ h => h) (Or.inl ⟨by rfl, ?_⟩) (by assumption) ?_
            rotate_left
            · (intro w hSw; (try dsimp only at hSw); go_simp)
              try with_reducible rfl
            try simp only [Act.put, List.getElem_toArray, List.getElem_cons_succ, List.getElem_cons_zero, List.setIfInBounds_toArray, List.set_cons_zero, List.set_cons_succ]
            refine Go.wpAnyH_take (fuel := 21) (i := 17) (oi := _) (v := ?_) rfl (by kernel_rfl) (by kernel_rfl) (by kernel_rfl) (fun _ _ _ h => h) (Or.inl ⟨by rfl, ?_⟩) (by assumption) ?_
            rotate_left
            · (intro w hSw; (try dsimp only at hSw); go_simp)
              try with_reducible rfl
            try simp only [Act.put, List.getElem_toArray, List.getElem_cons_succ, List.getElem_cons_zero, List.setIfInBounds_toArray, List.set_cons_zero, List.set_cons_succ]
            refine Go.wpAnyH_take (fuel := 20) (i := 18) (oi := _) (v := ?_) rfl (by kernel_rfl) (by kernel_rfl) (by kernel_rfl) (fun _ _ _ h => h) (Or.inl ⟨by rfl, ?_⟩) (by assumption) ?_
            rotate_left
            · (intro w hSw; (try dsimp only at hSw); go_simp)
              try with_reducible rfl
            try simp only [Act.put, List.getElem_toArray, List.getElem_cons_succ, List.getElem_cons_zero, List.setIfInBounds_toArray, List.set_cons_zero, List.set_cons_succ]
            refine Go.wpAnyH_take (fuel := 19) (i := 19) (oi := _) (v := ?_) rfl (by kernel_rfl) (by kernel_rfl) (by kernel_rfl) (fun _ _ _ h => h) (Or.inl ⟨by rfl, ?_⟩) (by assumption) ?_
            rotate_left
            · (intro w hSw; (try dsimp only at hSw); go_simp)
              try with_reducible rfl
            try simp only [Act.put, List.getElem_toArray, List.getElem_cons_succ, List.getElem_cons_zero, List.setIfInBounds_toArray, List.set_cons_zero, List.set_cons_succ]
            refine Go.wpAnyH_take (fuel := 18) (i := 20) (oi := _) (v := ?_) rfl (by kernel_rfl) (by kernel_rfl) (by kernel_rfl) (fun _ _ _ h => h) (Or.inl ⟨by rfl, ?_⟩) (by assumption) ?_
            rotate_left
            · (intro w hSw; (try dsimp only at hSw); go_simp)
              try with_reducible rfl
            try simp only [Act.put, List.getElem_toArray, List.getElem_cons_succ, List.getElem_cons_zero, List.setIfInBounds_toArray, List.set_cons_zero, List.set_cons_succ]
            refine Go.wpAnyH_take (fuel := 17) (i := 21) (oi := _) (v := ?_) rfl (by kernel_rfl) (by kernel_rfl) (by kernel_rfl) (fun _ _ _ h => h) (Or.inl ⟨by rfl, ?_⟩) (by assumption) ?_
            rotate_left
            · (intro w hSw; (try dsimp only at hSw); go_simp)
              try with_reducible rfl
            try simp only [Act.put, List.getElem_toArray, List.getElem_cons_succ, List.getElem_cons_zero, List.setIfInBounds_toArray, List.set_cons_zero, List.set_cons_succ]
            refine Go.wpAnyH_take (fuel := 16) (i := 23) (oi := _) (v := ?_) rfl (by kernel_rfl) (by kernel_rfl) (by kernel_rfl) (fun _ _ _ h => h) (Or.inl ⟨by rfl, ?_⟩) (by assumption) ?_
            rotate_left
            · (intro w hSw; (try dsimp only at hSw); go_simp)
              try with_reducible rfl
            try simp only [Act.put, List.getElem_toArray, List.getElem_cons_succ, List.getElem_cons_zero, List.setIfInBounds_toArray, List.set_cons_zero, List.set_cons_succ]
            refine Go.wpAnyH_take (fuel := 15) (i := 24) (oi := _) (v := ?_) rfl (by kernel_rfl) (by kernel_rfl) (by kernel_rfl) (fun _ _ _ h => h) (Or.inl ⟨by rfl, ?_⟩) (by assumption) ?_
            rotate_left
            · (intro w hSw; (try dsimp only at hSw); go_simp)
              try with_reducible rfl
            try simp only [Act.put, List.getElem_toArray, List.getElem_cons_succ, List.getElem_cons_zero, List.setIfInBounds_toArray, List.set_cons_zero, List.set_cons_succ]
            refine Go.wpAnyH_take (fuel := 14) (i := 25) (oi := _) (v := ?_) rfl (by kernel_rfl) (by kernel_rfl) (by kernel_rfl) (fun _ _ _ h => h) (Or.inl ⟨by rfl, ?_⟩) (by assumption) ?_
            rotate_left
            · (intro w hSw; (try dsimp only at hSw); go_simp)
              try with_reducible rfl
            try simp only [Act.put, List.getElem_toArray, List.getElem_cons_succ, List.getElem_cons_zero, List.setIfInBounds_toArray, List.set_cons_zero, List.set_cons_succ]
            refine Go.wpAnyH_ready (fuel := 13) (rs := [22]) (by kernel_rfl) (by simp) ?_
            refine Go.AllReadyH.cons (o := _) rfl (fun K hK => ?_) Go.AllReadyH.nil
            have HKX := Lib.hid hK
            clear hK
            go_simp
            go_at_call 17
            refine KN2.out.mono ?_
            rintro e w8 ⟨A8, c8, rfl, own8, hb8⟩
            have s1 := HS.out _ hb8
            refine HKX.out.out _ _ s1 (fun hHeld => ?_)
            clear HKX
            try simp only [Act.put, List.getElem_toArray, List.getElem_cons_succ, List.getElem_cons_zero, List.setIfInBounds_toArray, List.set_cons_zero, List.set_cons_succ]
            refine Go.wpAnyH_ready (fuel := 12) (rs := [26]) (by kernel_rfl) (by simp) ?_
            refine Go.AllReadyH.cons (o := _) rfl (fun K hK => ?_) Go.AllReadyH.nil
            have HKX := Lib.hid hK
            clear hK
            go_simp
            go_at_call 21
            refine (StarF.walks_any n co4 s t A8 c8 l2 A4 k4 c4 p w8 own8.sl.2 (HOP.out w8 hb8) HPK.out (by omega) (by omega) HCO.out HHD.out HLS.out).mono ?_
            rintro e w9 ⟨rfl, hb9⟩
            have s2 := HS.out _ (hb8.trans (hb9.mono hb8.size))
            refine HKX.out.out _ _ s2 (fun hHeld => ?_)
            clear HKX
            try simp only [Act.put, List.getElem_toArray, List.getElem_cons_succ, List.getElem_cons_zero, List.setIfInBounds_toArray, List.set_cons_zero, List.set_cons_succ]
            refine Go.wpAnyH_take (fuel := 11) (i := 27) (oi := _) (v := ?_) rfl (by kernel_rfl) (by kernel_rfl) (by kernel_rfl) (fun _ _ _ h => h) (Or.inl ⟨by rfl, ?_⟩) (by assumption) ?_
            rotate_left
            · (intro w hSw; (try dsimp only at hSw); go_simp)
              try with_reducible rfl
            try simp only [Act.put, List.getElem_toArray, List.getElem_cons_succ, List.getElem_cons_zero, List.setIfInBounds_toArray, List.set_cons_zero, List.set_cons_succ]
            refine Go.wpAnyH_take (fuel := 10) (i := 28) (oi := _) (v := ?_) rfl (by kernel_rfl) (by kernel_rfl) (by kernel_rfl) (fun _ _ _ h => h) (Or.inl ⟨by rfl, ?_⟩) (by assumption) ?_
            rotate_left
            · (intro w hSw; (try dsimp only at hSw); go_simp)
              try with_reducible rfl
            try simp only [Act.put, List.getElem_toArray, List.getElem_cons_succ, List.getElem_cons_zero, List.setIfInBounds_toArray, List.set_cons_zero, List.set_cons_succ]
            refine Go.wpAnyH_take (fuel := 9) (i := 29) (oi := _) (v := ?_) rfl (by kernel_rfl) (by kernel_rfl) (by kernel_rfl) (fun _ _ _ h => h) (Or.inl ⟨by rfl, ?_⟩) (by assumption) ?_
            rotate_left
            · (intro w hSw; (try dsimp only at hSw); go_simp)
              try with_reducible rfl
            try simp only [Act.put, List.getElem_toArray, List.getElem_cons_succ, List.getElem_cons_zero, List.setIfInBounds_toArray, List.set_cons_zero, List.set_cons_succ]
            refine Go.wpAnyH_take (fuel := 8) (i := 30) (oi := _) (v := ?_) rfl (by kernel_rfl) (by kernel_rfl) (by kernel_rfl) (fun _ _ _ h => h) (Or.inl ⟨by rfl, ?_⟩) (by assumption) ?_
            rotate_left
            · (intro w hSw; (try dsimp only at hSw); go_simp)
              try with_reducible rfl
            try simp only [Act.put, List.getElem_toArray, List.getElem_cons_succ, List.getElem_cons_zero, List.setIfInBounds_toArray, List.set_cons_zero, List.set_cons_succ]
            refine Go.wpAnyH_take (fuel := 7) (i := 31) (oi := _) (v := ?_) rfl (by kernel_rfl) (by kernel_rfl) (by kernel_rfl) (fun _ _ _ h => h) (Or.inl ⟨by rfl, ?_⟩) (by assumption) ?_
            rotate_left
            · (intro w hSw; (try dsimp only at hSw); go_simp)
              try with_reducible rfl
            try simp only [Act.put, List.getElem_toArray, List.getElem_cons_succ, List.getElem_cons_zero, List.setIfInBounds_toArray, List.set_cons_zero, List.set_cons_succ]
            refine Go.wpAnyH_take (fuel := 6) (i := 32) (oi := _) (v := ?_) rfl (by kernel_rfl) (by kernel_rfl) (by kernel_rfl) (fun _ _ _ h => h) (Or.inl ⟨by rfl, ?_⟩) (by assumption) ?_
            rotate_left
            · (intro w hSw; (try dsimp only at hSw); go_simp)
              try with_reducible rfl
            try simp only [Act.put, List.getElem_toArray, List.getElem_cons_succ, List.getElem_cons_zero, List.setIfInBounds_toArray, List.set_cons_zero, List.set_cons_succ]
            refine Go.wpAnyH_take (fuel := 5) (i := 33) (oi := _) (v := ?_) rfl (by kernel_rfl) (by kernel_rfl) (by kernel_rfl) (fun _ _ _ h => h) (Or.inl ⟨by rfl, ?_⟩) (by assumption) ?_
            rotate_left
            · (intro w hSw; (try dsimp only at hSw); go_simp)
              try with_reducible rfl
            try simp only [Act.put, List.getElem_toArray, List.getElem_cons_succ, List.getElem_cons_zero, List.setIfInBounds_toArray, List.set_cons_zero, List.set_cons_succ]
            refine Go.wpAnyH_take (fuel := 4) (i := 34) (oi := _) (v := ?_) rfl (by kernel_rfl) (by kernel_rfl) (by kernel_rfl) (fun _ _ _ h => h) (Or.inl ⟨by rfl, ?_⟩) (by assumption) ?_
            rotate_left
            · (intro w hSw; (try dsimp only at hSw); go_simp)
              try with_reducible rfl
            try simp only [Act.put, List.getElem_toArray, List.getElem_cons_succ, List.getElem_cons_zero, List.setIfInBounds_toArray, List.set_cons_zero, List.set_cons_succ]
            refine Go.wpAnyH_take (fuel := 3) (i := 35) (oi := _) (v := ?_) rfl (by kernel_rfl) (by kernel_rfl) (by kernel_rfl) (fun _ _ _ h => h) (Or.inl ⟨by rfl, ?_⟩) (by assumption) ?_
            rotate_left
            · (intro w hSw; (try dsimp only at hSw); go_simp)
              try with_reducible rfl
            try simp only [Act.put, List.getElem_toArray, List.getElem_cons_succ, List.getElem_cons_zero, List.setIfInBounds_toArray, List.set_cons_zero, List.set_cons_succ]
            refine Go.wpAnyH_take (fuel := 2) (i := 36) (oi := _) (v := ?_) rfl (by kernel_rfl) (by kernel_rfl) (by kernel_rfl) (fun _ _ _ h => h) (Or.inl ⟨by rfl, ?_⟩) (by assumption) ?_
            rotate_left
            · (intro w hSw; (try dsimp only at hSw); go_simp)
              try with_reducible rfl
            try simp only [Act.put, List.getElem_toArray, List.getElem_cons_succ, List.getElem_cons_zero, List.setIfInBounds_toArray, List.set_cons_zero, List.set_cons_succ]
            refine Go.wpAnyH_take (fuel := 1) (i := 37) (oi := _) (v := ?_) rfl (by kernel_rfl) (by kernel_rfl) (by kernel_rfl) (fun _ _ _ h => h) (Or.inl ⟨by rfl, ?_⟩) (by assumption) ?_
            rotate_left
            · (intro w hSw; (try dsimp only at hSw); go_simp)
              try with_reducible rfl
            try simp only [Act.put, List.getElem_toArray, List.getElem_cons_succ, List.getElem_cons_zero, List.setIfInBounds_toArray, List.set_cons_zero, List.set_cons_succ]
            refine Go.wpAnyH_take (fuel := 0) (i := 38) (oi := _) (v := ?_) rfl (by kernel_rfl) (by kernel_rfl) (by kernel_rfl) (fun _ _ _ h => h) (Or.inl ⟨by rfl, ?_⟩) (by assumption) ?_
            rotate_left
            · (intro w hSw; (try dsimp only at hSw); go_simp)
              try with_reducible rfl
            try simp only [Act.put, List.getElem_toArray, List.getElem_cons_succ, List.getElem_cons_zero, List.setIfInBounds_toArray, List.set_cons_zero, List.set_cons_succ]
            refine Go.wpAnyH_done (by kernel_rfl) ?_ _
            have hp9 := HP7.out.keep ((Below.refl _ _).drew.trans (hb8.trans (hb9.mono hb8.size)))
            have HP9 := Lib.hid hp9
            clear hp9 s0 s1 s2 own8 hb8 hb9
            go_wp2
            go_roundw
            case rel => exact ⟨k + 1, _, m + 1 + 80000, wk4, by omega, by go_num, HP9, by omega⟩
            case measure => simp [intOf]; omega
          · go_upto_region 17 with fail
            refine Go.wp_region_held_drew (S := (fun w' => w'.cell? ⟨Z, 0, none⟩ = some (.slice A4 k4 c4) ∧ w'.cell? ⟨Z, 1, none⟩ = some (.int .i64 co4) ∧ w'.cell? ⟨SD, t, none⟩ = some (.int .i64 1099511627776))) (by kernel_rfl) s0 (fun hHeld => ?_)
            refine Go.wpAnyH_take (fuel := 38) (i := 0) (oi := _) (v := ?_) rfl (by kernel_rfl) (by kernel_rfl) (by kernel_rfl) (fun _ _ _ h => h) (Or.inl ⟨by rfl, ?_⟩) (by assumption) ?_
            rotate_left
            · (intro w hSw; (try dsimp only at hSw); go_simp)
              try with_reducible rfl
            try simp only [Act.put, List.getElem_toArray, List.getElem_cons_succ, List.getElem_cons_zero, List.setIfInBounds_toArray, List.set_cons_zero, List.set_cons_succ]
            refine Go.wpAnyH_take (fuel := 37) (i := 1) (oi := _) (v := ?_) rfl (by kernel_rfl) (by kernel_rfl) (by kernel_rfl) (fun _ _ _ h => h) (Or.inl ⟨by rfl, ?_⟩) (by assumption) ?_
            rotate_left
            · (intro w hSw; (try dsimp only at hSw); go_simp)
              try with_reducible rfl
            try simp only [Act.put, List.getElem_toArray, List.getElem_cons_succ, List.getElem_cons_zero, List.setIfInBounds_toArray, List.set_cons_zero, List.set_cons_succ]
            refine Go.wpAnyH_take (fuel := 36) (i := 2) (oi := _) (v := ?_) rfl (by kernel_rfl) (by kernel_rfl) (by kernel_rfl) (fun _ _ _ h => h) (Or.inl ⟨by rfl, ?_⟩) (by assumption) ?_
            rotate_left
            · (intro w hSw; (try dsimp only at hSw); go_simp)
              try with_reducible rfl
            try simp only [Act.put, List.getElem_toArray, List.getElem_cons_succ, List.getElem_cons_zero, List.setIfInBounds_toArray, List.set_cons_zero, List.set_cons_succ]
            refine Go.wpAnyH_take (fuel := 35) (i := 3) (oi := _) (v := ?_) rfl (by kernel_rfl) (by kernel_rfl) (by kernel_rfl) (fun _ _ _ h => h) (Or.inl ⟨by rfl, ?_⟩) (by assumption) ?_
            rotate_left
            · (intro w hSw; (try dsimp only at hSw); go_simp)
              try with_reducible rfl
            try simp only [Act.put, List.getElem_toArray, List.getElem_cons_succ, List.getElem_cons_zero, List.setIfInBounds_toArray, List.set_cons_zero, List.set_cons_succ]
            refine Go.wpAnyH_take (fuel := 34) (i := 4) (oi := _) (v := ?_) rfl (by kernel_rfl) (by kernel_rfl) (by kernel_rfl) (fun _ _ _ h => h) (Or.inl ⟨by rfl, ?_⟩) (by assumption) ?_
            rotate_left
            · (intro w hSw; (try dsimp only at hSw); go_simp)
              try with_reducible rfl
            try simp only [Act.put, List.getElem_toArray, List.getElem_cons_succ, List.getElem_cons_zero, List.setIfInBounds_toArray, List.set_cons_zero, List.set_cons_succ]
            refine Go.wpAnyH_take (fuel := 33) (i := 5) (oi := _) (v := ?_) rfl (by kernel_rfl) (by kernel_rfl) (by kernel_rfl) (fun _ _ _ h => h) (Or.inl ⟨by rfl, ?_⟩) (by assumption) ?_
            rotate_left
            · (intro w hSw; (try dsimp only at hSw); go_simp)
              try with_reducible rfl
            try simp only [Act.put, List.getElem_toArray, List.getElem_cons_succ, List.getElem_cons_zero, List.setIfInBounds_toArray, List.set_cons_zero, List.set_cons_succ]
            refine Go.wpAnyH_take (fuel := 32) (i := 6) (oi := _) (v := ?_) rfl (by kernel_rfl) (by kernel_rfl) (by kernel_rfl) (fun _ _ _ h => h) (Or.inl ⟨by rfl, ?_⟩) (by assumption) ?_
            rotate_left
            · (intro w hSw; (try dsimp only at hSw); go_simp)
              try with_reducible rfl
            try simp only [Act.put, List.getElem_toArray, List.getElem_cons_succ, List.getElem_cons_zero, List.setIfInBounds_toArray, List.set_cons_zero, List.set_cons_succ]
            refine Go.wpAnyH_take (fuel := 31) (i := 7) (oi := _) (v := ?_) rfl (by kernel_rfl) (by kernel_rfl) (by kernel_rfl) (fun _ _ _ h => h) (Or.inl ⟨by rfl, ?_⟩) (by assumption) ?_
            rotate_left
            · (intro w hSw; (try dsimp only at hSw); go_simp)
              try with_reducible rfl
            try simp only [Act.put, List.getElem_toArray, List.getElem_cons_succ, List.getElem_cons_zero, List.setIfInBounds_toArray, List.set_cons_zero, List.set_cons_succ]
            refine Go.wpAnyH_take (fuel := 30) (i := 8) (oi := _) (v := ?_) rfl (by kernel_rfl) (by kernel_rfl) (by kernel_rfl) (fun _ _ _ h => h) (Or.inl ⟨by rfl, ?_⟩) (by assumption) ?_
            rotate_left
            · (intro w hSw; (try dsimp only at hSw); go_simp)
              try with_reducible rfl
            try simp only [Act.put, List.getElem_toArray, List.getElem_cons_succ, List.getElem_cons_zero, List.setIfInBounds_toArray, List.set_cons_zero, List.set_cons_succ]
            refine Go.wpAnyH_take (fuel := 29) (i := 9) (oi := _) (v := ?_) rfl (by kernel_rfl) (by kernel_rfl) (by kernel_rfl) (fun _ _ _ h => h) (Or.inl ⟨by rfl, ?_⟩) (by assumption) ?_
            rotate_left
            · (intro w hSw; (try dsimp only at hSw); go_simp)
              try with_reducible rfl
            try simp only [Act.put, List.getElem_toArray, List.getElem_cons_succ, List.getElem_cons_zero, List.setIfInBounds_toArray, List.set_cons_zero, List.set_cons_succ]
            refine Go.wpAnyH_take (fuel := 28) (i := 10) (oi := _) (v := ?_) rfl (by kernel_rfl) (by kernel_rfl) (by kernel_rfl) (fun _ _ _ h => h) (Or.inl ⟨by rfl, ?_⟩) (by assumption) ?_
            rotate_left
            · (intro w hSw; (try dsimp only at hSw); go_simp)
              try with_reducible rfl
            try simp only [Act.put, List.getElem_toArray, List.getElem_cons_succ, List.getElem_cons_zero, List.setIfInBounds_toArray, List.set_cons_zero, List.set_cons_succ]
            refine Go.wpAnyH_take (fuel := 27) (i := 11) (oi := _) (v := ?_) rfl (by kernel_rfl) (by kernel_rfl) (by kernel_rfl) (fun _ _ _ h => h) (Or.inl ⟨by rfl, ?_⟩) (by assumption) ?_
            rotate_left
            · (intro w hSw; (try dsimp only at hSw); go_simp)
              try with_reducible rfl
            try simp only [Act.put, List.getElem_toArray, List.getElem_cons_succ, List.getElem_cons_zero, List.setIfInBounds_toArray, List.set_cons_zero, List.set_cons_succ]
            refine Go.wpAnyH_take (fuel := 26) (i := 12) (oi := _) (v := ?_) rfl (by kernel_rfl) (by kernel_rfl) (by kernel_rfl) (fun _ _ _ h => h) (Or.inl ⟨by rfl, ?_⟩) (by assumption) ?_
            rotate_left
            · (intro w hSw; (try dsimp only at hSw); go_simp)
              try with_reducible rfl
            try simp only [Act.put, List.getElem_toArray, List.getElem_cons_succ, List.getElem_cons_zero, List.setIfInBounds_toArray, List.set_cons_zero, List.set_cons_succ]
            refine Go.wpAnyH_take (fuel := 25) (i := 13) (oi := _) (v := ?_) rfl (by kernel_rfl) (by kernel_rfl) (by kernel_rfl) (fun _ _ _ h => h) (Or.inl ⟨by rfl, ?_⟩) (by assumption) ?_
            rotate_left
            · (intro w hSw; (try dsimp only at hSw); go_simp)
              try with_reducible rfl
            try simp only [Act.put, List.getElem_toArray, List.getElem_cons_succ, List.getElem_cons_zero, List.setIfInBounds_toArray, List.set_cons_zero, List.set_cons_succ]
            refine Go.wpAnyH_take (fuel := 24) (i := 14) (oi := _) (v := ?_) rfl (by kernel_rfl) (by kernel_rfl) (by kernel_rfl) (fun _ _ _ h => h) (Or.inl ⟨by rfl, ?_⟩) (by assumption) ?_
            rotate_left
            · (intro w hSw; (try dsimp only at hSw); go_simp)
              try with_reducible rfl
            try simp only [Act.put, List.getElem_toArray, List.getElem_cons_succ, List.getElem_cons_zero, List.setIfInBounds_toArray, List.set_cons_zero, List.set_cons_succ]
            refine Go.wpAnyH_take (fuel := 23) (i := 15) (oi := _) (v := ?_) rfl (by kernel_rfl) (by kernel_rfl) (by kernel_rfl) (fun _ _ _ h => h) (Or.inl ⟨by rfl, ?_⟩) (by assumption) ?_
            rotate_left
            · (intro w hSw; (try dsimp only at hSw); go_simp)
              try with_reducible rfl
            try simp only [Act.put, List.getElem_toArray, List.getElem_cons_succ, List.getElem_cons_zero, List.setIfInBounds_toArray, List.set_cons_zero, List.set_cons_succ]
            refine Go.wpAnyH_take (fuel := 22) (i := 16) (oi := _) (v := ?_) rfl (by kernel_rfl) (by kernel_rfl) (by kernel_rfl) (fun _ _ _ h => h) (Or.inl ⟨by rfl, ?_⟩) (by assumption) ?_
            rotate_left
            · (intro w hSw; (try dsimp only at hSw); go_simp)
              try with_reducible rfl
            try simp only [Act.put, List.getElem_toArray, List.getElem_cons_succ, List.getElem_cons_zero, List.setIfInBounds_toArray, List.set_cons_zero, List.set_cons_succ]
            refine Go.wpAnyH_take (fuel := 21) (i := 17) (oi := _) (v := ?_) rfl (by kernel_rfl) (by kernel_rfl) (by kernel_rfl) (fun _ _ _ h => h) (Or.inl ⟨by rfl, ?_⟩) (by assumption) ?_
            rotate_left
            · (intro w hSw; (try dsimp only at hSw); go_simp)
              try with_reducible rfl
            try simp only [Act.put, List.getElem_toArray, List.getElem_cons_succ, List.getElem_cons_zero, List.setIfInBounds_toArray, List.set_cons_zero, List.set_cons_succ]
            refine Go.wpAnyH_take (fuel := 20) (i := 18) (oi := _) (v := ?_) rfl (by kernel_rfl) (by kernel_rfl) (by kernel_rfl) (fun _ _ _ h => h) (Or.inl ⟨by rfl, ?_⟩) (by assumption) ?_
            rotate_left
            · (intro w hSw; (try dsimp only at hSw); go_simp)
              try with_reducible rfl
            try simp only [Act.put, List.getElem_toArray, List.getElem_cons_succ, List.getElem_cons_zero, List.setIfInBounds_toArray, List.set_cons_zero, List.set_cons_succ]
            refine Go.wpAnyH_take (fuel := 19) (i := 19) (oi := _) (v := ?_) rfl (by kernel_rfl) (by kernel_rfl) (by kernel_rfl) (fun _ _ _ h => h) (Or.inl ⟨by rfl, ?_⟩) (by assumption) ?_
            rotate_left
            · (intro w hSw; (try dsimp only at hSw); go_simp)
              try with_reducible rfl
            try simp only [Act.put, List.getElem_toArray, List.getElem_cons_succ, List.getElem_cons_zero, List.setIfInBounds_toArray, List.set_cons_zero, List.set_cons_succ]
            refine Go.wpAnyH_take (fuel := 18) (i := 20) (oi := _) (v := ?_) rfl (by kernel_rfl) (by kernel_rfl) (by kernel_rfl) (fun _ _ _ h => h) (Or.inl ⟨by rfl, ?_⟩) (by assumption) ?_
            rotate_left
            · (intro w hSw; (try dsimp only at hSw); go_simp)
              try with_reducible rfl
            try simp only [Act.put, List.getElem_toArray, List.getElem_cons_succ, List.getElem_cons_zero, List.setIfInBounds_toArray, List.set_cons_zero, List.set_cons_succ]
            refine Go.wpAnyH_take (fuel := 17) (i := 21) (oi := _) (v := undef) rfl (by kernel_rfl) (by kernel_rfl) (by kernel_rfl) (fun _ _ _ h => h) (Or.inr ⟨by rfl, rfl⟩) (by assumption) ?_
            try simp only [Act.put, List.getElem_toArray, List.getElem_cons_succ, List.getElem_cons_zero, List.setIfInBounds_toArray, List.set_cons_zero, List.set_cons_succ]
            refine Go.wpAnyH_take (fuel := 16) (i := 22) (oi := _) (v := undef) rfl (by kernel_rfl) (by kernel_rfl) (by kernel_rfl) (fun _ _ _ h => h) (Or.inr ⟨by rfl, rfl⟩) (by assumption) ?_
            try simp only [Act.put, List.getElem_toArray, List.getElem_cons_succ, List.getElem_cons_zero, List.setIfInBounds_toArray, List.set_cons_zero, List.set_cons_succ]
            refine Go.wpAnyH_take (fuel := 15) (i := 23) (oi := _) (v := undef) rfl (by kernel_rfl) (by kernel_rfl) (by kernel_rfl) (fun _ _ _ h => h) (Or.inr ⟨by rfl, rfl⟩) (by assumption) ?_
            try simp only [Act.put, List.getElem_toArray, List.getElem_cons_succ, List.getElem_cons_zero, List.setIfInBounds_toArray, List.set_cons_zero, List.set_cons_succ]
            refine Go.wpAnyH_take (fuel := 14) (i := 24) (oi := _) (v := undef) rfl (by kernel_rfl) (by kernel_rfl) (by kernel_rfl) (fun _ _ _ h => h) (Or.inr ⟨by rfl, rfl⟩) (by assumption) ?_
            try simp only [Act.put, List.getElem_toArray, List.getElem_cons_succ, List.getElem_cons_zero, List.setIfInBounds_toArray, List.set_cons_zero, List.set_cons_succ]
            refine Go.wpAnyH_take (fuel := 13) (i := 25) (oi := _) (v := undef) rfl (by kernel_rfl) (by kernel_rfl) (by kernel_rfl) (fun _ _ _ h => h) (Or.inr ⟨by rfl, rfl⟩) (by assumption) ?_
            try simp only [Act.put, List.getElem_toArray, List.getElem_cons_succ, List.getElem_cons_zero, List.setIfInBounds_toArray, List.set_cons_zero, List.set_cons_succ]
            refine Go.wpAnyH_take (fuel := 12) (i := 26) (oi := _) (v := undef) rfl (by kernel_rfl) (by kernel_rfl) (by kernel_rfl) (fun _ _ _ h => h) (Or.inr ⟨by rfl, rfl⟩) (by assumption) ?_
            try simp only [Act.put, List.getElem_toArray, List.getElem_cons_succ, List.getElem_cons_zero, List.setIfInBounds_toArray, List.set_cons_zero, List.set_cons_succ]
            refine Go.wpAnyH_take (fuel := 11) (i := 27) (oi := _) (v := undef) rfl (by kernel_rfl) (by kernel_rfl) (by kernel_rfl) (fun _ _ _ h => h) (Or.inr ⟨by rfl, rfl⟩) (by assumption) ?_
            try simp only [Act.put, List.getElem_toArray, List.getElem_cons_succ, List.getElem_cons_zero, List.setIfInBounds_toArray, List.set_cons_zero, List.set_cons_succ]
            refine Go.wpAnyH_take (fuel := 10) (i := 28) (oi := _) (v := undef) rfl (by kernel_rfl) (by kernel_rfl) (by kernel_rfl) (fun _ _ _ h => h) (Or.inr ⟨by rfl, rfl⟩) (by assumption) ?_
            try simp only [Act.put, List.getElem_toArray, List.getElem_cons_succ, List.getElem_cons_zero, List.setIfInBounds_toArray, List.set_cons_zero, List.set_cons_succ]
            refine Go.wpAnyH_take (fuel := 9) (i := 29) (oi := _) (v := undef) rfl (by kernel_rfl) (by kernel_rfl) (by kernel_rfl) (fun _ _ _ h => h) (Or.inr ⟨by rfl, rfl⟩) (by assumption) ?_
            try simp only [Act.put, List.getElem_toArray, List.getElem_cons_succ, List.getElem_cons_zero, List.setIfInBounds_toArray, List.set_cons_zero, List.set_cons_succ]
            refine Go.wpAnyH_take (fuel := 8) (i := 30) (oi := _) (v := undef) rfl (by kernel_rfl) (by kernel_rfl) (by kernel_rfl) (fun _ _ _ h => h) (Or.inr ⟨by rfl, rfl⟩) (by assumption) ?_
            try simp only [Act.put, List.getElem_toArray, List.getElem_cons_succ, List.getElem_cons_zero, List.setIfInBounds_toArray, List.set_cons_zero, List.set_cons_succ]
            refine Go.wpAnyH_take (fuel := 7) (i := 31) (oi := _) (v := undef) rfl (by kernel_rfl) (by kernel_rfl) (by kernel_rfl) (fun _ _ _ h => h) (Or.inr ⟨by rfl, rfl⟩) (by assumption) ?_
            try simp only [Act.put, List.getElem_toArray, List.getElem_cons_succ, List.getElem_cons_zero, List.setIfInBounds_toArray, List.set_cons_zero, List.set_cons_succ]
            refine Go.wpAnyH_take (fuel := 6) (i := 32) (oi := _) (v := undef) rfl (by kernel_rfl) (by kernel_rfl) (by kernel_rfl) (fun _ _ _ h => h) (Or.inr ⟨by rfl, rfl⟩) (by assumption) ?_
            try simp only [Act.put, List.getElem_toArray, List.getElem_cons_succ, List.getElem_cons_zero, List.setIfInBounds_toArray, List.set_cons_zero, List.set_cons_succ]
            refine Go.wpAnyH_take (fuel := 5) (i := 33) (oi := _) (v := undef) rfl (by kernel_rfl) (by kernel_rfl) (by kernel_rfl) (fun _ _ _ h => h) (Or.inr ⟨by rfl, rfl⟩) (by assumption) ?_
            try simp only [Act.put, List.getElem_toArray, List.getElem_cons_succ, List.getElem_cons_zero, List.setIfInBounds_toArray, List.set_cons_zero, List.set_cons_succ]
            refine Go.wpAnyH_take (fuel := 4) (i := 34) (oi := _) (v := undef) rfl (by kernel_rfl) (by kernel_rfl) (by kernel_rfl) (fun _ _ _ h => h) (Or.inr ⟨by rfl, rfl⟩) (by assumption) ?_
            try simp only [Act.put, List.getElem_toArray, List.getElem_cons_succ, List.getElem_cons_zero, List.setIfInBounds_toArray, List.set_cons_zero, List.set_cons_succ]
            refine Go.wpAnyH_take (fuel := 3) (i := 35) (oi := _) (v := undef) rfl (by kernel_rfl) (by kernel_rfl) (by kernel_rfl) (fun _ _ _ h => h) (Or.inr ⟨by rfl, rfl⟩) (by assumption) ?_
            try simp only [Act.put, List.getElem_toArray, List.getElem_cons_succ, List.getElem_cons_zero, List.setIfInBounds_toArray, List.set_cons_zero, List.set_cons_succ]
            refine Go.wpAnyH_take (fuel := 2) (i := 36) (oi := _) (v := undef) rfl (by kernel_rfl) (by kernel_rfl) (by kernel_rfl) (fun _ _ _ h => h) (Or.inr ⟨by rfl, rfl⟩) (by assumption) ?_
            try simp only [Act.put, List.getElem_toArray, List.getElem_cons_succ, List.getElem_cons_zero, List.setIfInBounds_toArray, List.set_cons_zero, List.set_cons_succ]
            refine Go.wpAnyH_take (fuel := 1) (i := 37) (oi := _) (v := ?_) rfl (by kernel_rfl) (by kernel_rfl) (by kernel_rfl) (fun _ _ _ h => h) (Or.inl ⟨by rfl, ?_⟩) (by assumption) ?_
            rotate_left
            · (intro w hSw; (try dsimp only at hSw); go_simp)
              try with_reducible rfl
            try simp only [Act.put, List.getElem_toArray, List.getElem_cons_succ, List.getElem_cons_zero, List.setIfInBounds_toArray, List.set_cons_zero, List.set_cons_succ]
            refine Go.wpAnyH_take (fuel := 0) (i := 38) (oi := _) (v := ?_) rfl (by kernel_rfl) (by kernel_rfl) (by kernel_rfl) (fun _ _ _ h => h) (Or.inl ⟨by rfl, ?_⟩) (by assumption) ?_
            rotate_left
            · (intro w hSw; (try dsimp only at hSw); go_simp)
              try with_reducible rfl
            try simp only [Act.put, List.getElem_toArray, List.getElem_cons_succ, List.getElem_cons_zero, List.setIfInBounds_toArray, List.set_cons_zero, List.set_cons_succ]
            refine Go.wpAnyH_done (by kernel_rfl) ?_ _
            have hp9 := HP7.out.keep (Below.refl _ _).drew
            have HP9 := Lib.hid hp9
            clear hp9 s0
            go_wp2
            go_roundw
            case rel => exact ⟨k + 1, _, m + 1 + 80000, wk4, by omega, by go_num, HP9, by omega⟩
            case measure => simp [intOf]; omega
      · obtain rfl : k = ps.length := by omega
        obtain ⟨_, _, _, HB⟩ := HK.out _ B9
        have HBB := Lib.hid HB
        clear HB B9
        go_wp2
        go_ret
        exact ⟨rfl, HBB.out⟩
  · have kn := new_no N a b A c l W5 sg hll hx
    have hne : (Dijk.look N l [a, b] != 0) = true := by rw [bne_iff_ne]; exact hx
    generalize Dijk.look N l [a, b] = x at *
    have KN := Lib.hid kn
    clear kn hx
    go_wp2_with fail
    refine KN.out.mono ?_
    rintro e w6 ⟨rfl, hb6⟩
    have B6 := HB4.out.trans (hb6.mono Z4)
    obtain ⟨_, _, _, H6⟩ := HK.out _ B6
    have HB := Lib.hid H6
    clear hb6 H6 B6 KN sg q0 q1 zq
    go_wp2
    go_ret
    exact ⟨by simp, HB.out⟩

theorem own : ownKnob Try.prog.godebug = none := by kernel_rfl
theorem laidOut : laidOutB Try.prog = true := by kernel_rfl

set_option maxRecDepth 100000 in
theorem contract (H : Type) (enc : TypeId × Value → H) (W : World) (base : Nat) (args : Array Value) (ds gs : List (DataW H)) (before : List MemPlace)
    (hval0 : ∀ (j : Nat) t v, Try.f4.params[j]? = some t → args[j]? = some v → Value.okWide Try.prog W .any base t v)
    (hW : DataW.Whole enc Try.prog Try.f4.params.toList Rows.lifeSameSpec.vars false W args.toList ds gs before) (hk : Rows.uptoSmall H (ds ++ gs) = true) :
    Calls Try.prog 4 args W fun e W' => ∃ v, e = .returned v ∧ Rows.lifeSameSpec.post enc Try.prog Try.f4 false true false false W args v W' := by
  have hval : ∀ (j : Nat) t v, Try.f4.params[j]? = some t → args[j]? = some v → Value.okWide Try.prog W .any base t v := hval0
  have hW' := hW
  obtain ⟨p, q, hA0, hV, rfl, hfz, hnd⟩ := hW
  have hA : DataW.TrodAll enc Try.prog W 0 (fun _ => true) true Try.f4.params.toList args.toList ds p := hA0
  rw [Try.params4] at hA hval
  obtain ⟨v0, vs0, d0, ds0, p0, q0, hargs, rfl, rfl, h0, r0⟩ := trodAll_cons hA
  obtain ⟨v1, vs1, d1, ds1, p1, q1, rfl, rfl, rfl, h1, r1⟩ := trodAll_cons r0
  obtain ⟨v2, vs2, d2, ds2, p2, q2, rfl, rfl, rfl, h2, r2⟩ := trodAll_cons r1
  obtain ⟨v3, vs3, d3, ds3, p3, q3, rfl, rfl, rfl, h3, r3⟩ := trodAll_cons r2
  obtain ⟨rfl, rfl, rfl⟩ := trodAll_nil r3
  obtain rfl : args = #[v0, v1, v2, v3] := by cases args; simp_all
  obtain ⟨rfl, rfl⟩ := trodVars_none hV
  obtain ⟨N0, A0, c0, l0, dd0, rfl, hN0, hG0, hb0, rfl, hd0⟩ := open_net Try.underlying24 (by kernel_rfl) (by kernel_rfl) Try.underlying3 Try.underlying22 Try.underlying27 (by kernel_rfl) (by kernel_rfl) Try.underlying3 Try.underlying3 Try.underlying3 (hval 0 24 v0 rfl rfl) h0
  obtain ⟨a1, rfl, rfl, rfl, wa1⟩ := open_int Try.underlying3 (hval 1 3 v1 rfl rfl) h1
  obtain ⟨a2, rfl, rfl, rfl, wa2⟩ := open_int Try.underlying3 (hval 2 3 v2 rfl rfl) h2
  obtain ⟨A3, c3, l3, rfl, hG3, hd3, hb3⟩ := open_sl2 Try.underlying43 Try.underlying47 (by kernel_rfl) (by kernel_rfl) Try.underlying3 Try.underlying3 (hval 3 43 v3 rfl rfl) h3
  have hbulk := bulk_bound hk
  simp only [List.cons_append, List.nil_append, List.append_nil, Rows.uptoBulkAll] at hbulk
  have hq0 := bulk_agg2 (x := .lit (.int .i64 N0)) hd0
  have hq1 := bulk_len hd3
  refine (walk W N0 A0 c0 l0 hG0 a1 (wf_bd wa1) a2 (wf_bd wa2) A3 c3 l3 hG3 (by omega)).mono fun e W' ⟨he, hB⟩ => ?_
  subst he
  exact ⟨_, rfl, post_of_law laidOut rfl Try.underlying4 rfl (by intro t ht; rw [Try.params4] at ht; simp at ht; rcases ht with rfl | rfl | rfl | rfl <;> exact ⟨by kernel_rfl, of_decide_eq_true (by kernel_rfl)⟩) hW' rfl hB⟩

set_option maxRecDepth 100000 in
theorem lifted (os : Os) (started : os.Started) (H : Type) (enc : TypeId × Value → H) (F : Stop.Interp) :
    ReturnsInHanded {} Try.checked os 4 .any ((Rows.OpenSpec.upto Rows.lifeSameSpec).pre6 enc Try.prog Try.f4 Rows.lifeSameUptoRow.domain false) (((Rows.OpenSpec.upto Rows.lifeSameSpec).at F).post enc Try.prog Try.f4 false true false false) := by
  refine returnsInHanded_of_cond (C := Try.checked) (s := Rows.OpenSpec.upto Rows.lifeSameSpec) (k := Rows.uptoSmall) rfl own started (by kernel_rfl) Try.func4
    (OpenSpec.witness (enc := enc) (C := Try.checked) (s := Rows.OpenSpec.upto Rows.lifeSameSpec) (k := Rows.uptoSmall) rfl false ⟨#[], #[.agg #[.int .i64 0, .slice none 0 0], .int .i64 0, .int .i64 0, .slice none 0 0], []⟩ 8 (by kernel_rfl) (by kernel_rfl) (by kernel_rfl)
      (x := ([.agg [.lit (.int .i64 0), .nil], .lit (.int .i64 0), .lit (.int .i64 0), .nil], [], [])) (by kernel_rfl) rfl (by kernel_rfl)) ?_
  intro W base args ds gs before hval hW _ hk _
  exact contract H enc W base args ds gs before hval hW hk

theorem holds : Rows.LifeSameUptoSaid :=
  OpenClaim.holds_of_cond 4 Try.f4 rfl rfl rfl rfl rfl rfl rfl ⟨rfl, rfl, rfl, rfl, rfl⟩ rfl rfl rfl rfl rfl (by kernel_rfl) Try.func4 (by kernel_rfl)
    (of_decide_eq_true (by kernel_rfl)) (by unfold Func.isWrapper; first | (rw [if_pos (by decide +kernel)]; kernel_rfl) | (rw [if_neg (by decide +kernel)]; exact ⟨rfl, rfl⟩))
    (fun os started H enc _ F => lifted os started H enc F)
#print axioms holds
end Go.Proofs.Ytamphgcpfncenaa.LifeSameLaw
