/- For every net and two places: TwinApart answers true (Suurballe: the two ways are walks that share no edge, neither costs less than the least, and both together no more than any two listed ways that share none), and the arguments read as before. No condition. -/
import Derived.Test.YtjebckehmmbkbaaRows
import Derived.Test.YtjebckehmmbkbaaVOpen
import Derived.Test.YtjebckehmmbkbaaVTwinApU
import Derived.Deep.RegionHeld3
import Derived.BigQuiet
namespace Go.Proofs.Ytjebckehmmbkbaa.TwinApartLaw
open Go.ChangeShapes Go.WideShapes Go.ChangeAt Go.RowKit Go.Proofs.Ytjebckehmmbkbaa NetLaw BellLaw DijkLaw FlowLaw WalkLaw TwinLaw Go.Proofs.Ytjebckehmmbkbaa.Net Go.Proofs.Ytjebckehmmbkbaa.Std Go.Proofs.Ytjebckehmmbkbaa.TwinA Go.Proofs.Ytjebckehmmbkbaa.TwinP
open Go.Proofs.Ytjebckehmmbkbaa.YenLaw (Smp Top wt)
open Go.Proofs.Ytjebckehmmbkbaa.HeapW
set_option linter.unusedSimpArgs false
set_option linter.unusedVariables false
set_option maxRecDepth 100000 in
set_option maxHeartbeats 16000000 in
theorem walk (w : World) (N : Int) (A : Option Addr) (c : Nat) (l : List E) (hA : Arg w 3 ce A c l) (f : Int) (hf : -9223372036854775808 ≤ f ∧ f ≤ 9223372036854775807) (t : Int) (ht : -9223372036854775808 ≤ t ∧ t ≤ 9223372036854775807) :
    Calls Try.prog 3 #[.agg #[.int .i64 N, .slice A l.length c], .int .i64 f, .int .i64 t] w fun e w' => e = .returned (.bool true) ∧ Below w.heap.size w w' := by
  have hs := hA.sl
  have hll : l.length ≤ 9223372036854775807 := Nat.le_trans hA.cap hA.max
  have hw0 : Below w.heap.size w (w.alloc (.cells #[.int .i64 N, .slice A l.length c] 24)) := (Below.refl _ _).alloc (Nat.le_refl _) _
  have HB0 := Lib.hid (Below.refl (w.heap.size + 1) (w.alloc (.cells #[.int .i64 N, .slice A l.length c] 24)))
  have HK : Hid (∀ W, Below (w.heap.size + 1) (w.alloc (.cells #[.int .i64 N, .slice A l.length c] 24)) W → W.cell? ⟨w.heap.size, 0, none⟩ = some (.int .i64 N) ∧ W.cell? ⟨w.heap.size, 1, none⟩ = some (.slice A l.length c) ∧ w.heap.size + 1 ≤ W.heap.size ∧ Sl W W.heap.size 3 ce A l ∧ Below w.heap.size w W) := Lib.hid (fun W hW => by
    obtain ⟨cc, _⟩ := keepAt hW (Nat.lt_succ_self _)
    have q0 := cc 0
    have q1 := cc 1
    simp at q0 q1
    have H := hw0.trans (hW.mono (Nat.le_succ _))
    have hz := hW.size
    simp at hz
    exact ⟨q0, q1, hz, (hs.keep H (Nat.le_refl _)).more H.size, H⟩)
  have KAP0 := Lib.hid (fun W g g1 g2 h h1 h2 => apart_one W g g1 g2 h h1 h2)
  have KTW0 := Lib.hid (fun W g h => two_one W g h)
  have KTW := Lib.hid (fun W h => two_c N f t A c l W h hll)
  clear hA hf ht hs hw0
  go_enter Try.func3, Try.ntmps3
  go_wp2_with fail
  refine (Go.Proofs.Ytjebckehmmbkbaa.Refs.two_any _).mono ?_
  rintro e w1 ⟨g, rfl, own1, hb1⟩
  have B1 := HB0.out.trans (hb1.mono (by simp))
  have Z1 := (HK.out _ B1).2.2.1
  have k1 : Below w1.heap.size w1 ((w1.alloc (.cells #[.int .i64 0, .int .i64 1] 3)).alloc (.cells #[.int .i64 0, .int .i64 1] 3)) := ((Below.refl _ _).alloc (Nat.le_refl _) _).alloc (by simp) _
  have sg1 := (own1.keep k1).sl.2
  have si1 := ((sl_new' (sz := 1) (cell := ci) (by decide) w1 #[.int .i64 0, .int .i64 1] 3 [0, 1] rfl rfl).keep ((Below.refl _ _).alloc (Nat.le_refl _) (.cells #[.int .i64 0, .int .i64 1] 3)) (Nat.le_refl _)).more (show (w1.alloc (.cells #[.int .i64 0, .int .i64 1] 3)).heap.size ≤ ((w1.alloc (.cells #[.int .i64 0, .int .i64 1] 3)).alloc (.cells #[.int .i64 0, .int .i64 1] 3)).heap.size by simp)
  have si2 : Sl ((w1.alloc (.cells #[.int .i64 0, .int .i64 1] 3)).alloc (.cells #[.int .i64 0, .int .i64 1] 3)) ((w1.alloc (.cells #[.int .i64 0, .int .i64 1] 3)).alloc (.cells #[.int .i64 0, .int .i64 1] 3)).heap.size 1 ci (some ⟨w1.heap.size + 1, 0, none⟩) [0, 1] := sl_new' (sz := 1) (cell := ci) (by decide) (w1.alloc (.cells #[.int .i64 0, .int .i64 1] 3)) #[.int .i64 0, .int .i64 1] 3 [0, 1] (by simp) rfl
  have B1b := B1.trans (k1.mono Z1)
  clear hb1 own1 k1 B1
  go_wp2_with fail
  refine (KAP0.out _ _ _ _ sg1 si1 si2).mono ?_
  rintro e w2 ⟨rfl, hb2⟩
  have B2 := B1b.trans (hb2.mono (by simp; omega))
  have Z2 := (HK.out _ B2).2.2.1
  clear sg1 si1 si2 B1b Z1 hb2
  go_wp2_with fail
  refine (Go.Proofs.Ytjebckehmmbkbaa.Refs.two_any _).mono ?_
  rintro e w3 ⟨g3, rfl, own3, hb3⟩
  have B3 := B2.trans (hb3.mono Z2)
  have Z3 := (HK.out _ B3).2.2.1
  clear hb3 B2 Z2
  go_wp2_with fail
  refine (KTW0.out _ _ own3.sl.2).mono ?_
  rintro e w4 ⟨rfl, hb4⟩
  have B4 := B3.trans (hb4.mono Z3)
  have Z4 := (HK.out _ B4).2.2.1
  have B5 := (B4.alloc Z4 (.cells #[.slice none 0 0, .int .i64 0] 31)).alloc (by simp; omega) (.cells #[.slice none 0 0, .int .i64 0] 31)
  clear own3 hb4 B3 Z3 B4 Z4
  go_upto_region 5 with fail
  generalize (w4.alloc (.cells #[.slice none 0 0, .int .i64 0] 31)).alloc (.cells #[.slice none 0 0, .int .i64 0] 31) = w5 at B5 ⊢
  obtain ⟨q0, q1, Z5, sl, _⟩ := HK.out _ B5
  go_wp2_with fail
  refine (KTW.out _ sl).mono ?_
  rintro e w6 ⟨hcase, hb6⟩
  have B6 := B5.trans (hb6.mono Z5)
  have Z6 := (HK.out _ B6).2.2.1
  clear q0 q1 sl KTW KTW0 KAP0
  rcases hcase with ⟨er, rfl, hne⟩ | ⟨n, f, t, A1, m1, c1, a, A2, m2, c2, b, p1, p2, rfl, rfl, rfl, rfl, hlk, P1, P2, hpf⟩
  · have hne2 : (er != 0) = true := by rw [bne_iff_ne]; exact hne
    have H6 := (HK.out _ B6).2.2.2.2
    clear hne B5 B6 hb6 Z5 Z6
    go_wp2
    go_ret
    exact ⟨rfl, (H6.alloc H6.size _).alloc (by have := H6.size; simp; omega) _⟩
  · obtain ⟨hg, hc1, ⟨f0, f1⟩, t0, t1⟩ := DijkWay.looks_zero hlk
    have hN2 := hg.hi
    have hfn : f < n := by omega
    have htn : t < n := by omega
    have hn64 : n ≤ 64 := by omega
    have hchk := chk_zero.2 hg
    have hco : Hid (∀ x, Smp n l f t x → cost n l x = (wt l x, 0)) := Lib.hid (fun x hx => hx.cost hchk hn64)
    have hpt : ∀ W lo A m p, Pt W lo A m p → p.length = m := fun W lo A m p h => h.1
    have kap := fun W Aa Ab ca cb na nb p q (sp : Smp n l f t p) (sq : Smp n l f t q) hl h1 h2 hna hnb => apart_yes n A c l Aa Ab ca cb na nb p q (wt l p) (wt l q) W hl h1 h2 hna hnb (hco.out p sp) (hco.out q sq)
    have kct := fun W Aa Ab ca cb na nb p q (sp : Smp n l f t p) (sq : Smp n l f t q) hl h1 h2 hna hnb => costtwo_any n A c l Aa Ab ca cb na nb p q (wt l p) (wt l q) W hl h1 h2 hna hnb (hco.out p sp) (hco.out q sq) hc1
    have kd := fun W h => DijkTwo.dist_yes n A c l f hll (look_fstA hlk) W h
    simp only [Int.toNat_natCast] at kd
    have kk := fun W h => Yen.k_any n f t 8 A c l W h hll
    have KAP := Lib.hid kap
    have KCT := Lib.hid kct
    have KD := Lib.hid kd
    have KK := Lib.hid kk
    have HPF := Lib.hid hpf
    have HLK := Lib.hid hlk
    have PP1 := Lib.hid (P1.keep (((Below.refl w6.heap.size w6).alloc (Nat.le_refl _) (.cells #[.slice A1 m1 c1, .int .i64 a] 31)).alloc (by simp) (.cells #[.slice A2 m2 c2, .int .i64 b] 31)))
    have PP2 := Lib.hid (P2.keep (((Below.refl w6.heap.size w6).alloc (Nat.le_refl _) (.cells #[.slice A1 m1 c1, .int .i64 a] 31)).alloc (by simp) (.cells #[.slice A2 m2 c2, .int .i64 b] 31)))
    have B7 := (B6.alloc Z6 (.cells #[.slice A1 m1 c1, .int .i64 a] 31)).alloc (by simp; omega) (.cells #[.slice A2 m2 c2, .int .i64 b] 31)
    have bx1 := blk_alloc (heap_alloc_new w6 (.cells #[.slice A1 m1 c1, .int .i64 a] 31)) (.cells #[.slice A2 m2 c2, .int .i64 b] 31)
    have bx2 : ((w6.alloc (.cells #[.slice A1 m1 c1, .int .i64 a] 31)).alloc (.cells #[.slice A2 m2 c2, .int .i64 b] 31)).heap[w6.heap.size + 1]? = some (.cells #[.slice A2 m2 c2, .int .i64 b] 31 (0, 0)) := by
      have h := heap_alloc_new (w6.alloc (.cells #[.slice A1 m1 c1, .int .i64 a] 31)) (.cells #[.slice A2 m2 c2, .int .i64 b] 31)
      simpa using h
    have zw6 : w.heap.size < w6.heap.size := by omega
    obtain ⟨R1, hR1⟩ : ∃ R1, R1 = w6.heap.size := ⟨_, rfl⟩
    obtain ⟨R2, hR2⟩ : ∃ R2, R2 = w6.heap.size + 1 := ⟨_, rfl⟩
    clear kap kct kd kk hpf hlk hco hpt hg hc1 f0 f1 t0 t1 hchk hN2 hll P1 P2 hb6 B5 B6 Z5 Z6
    go_upto_region 10 with fail
    rw [← hR1] at bx1
    rw [← hR2] at bx2
    rw [← hR2, ← hR1]
    have BX1 := Lib.hid bx1
    have BX2 := Lib.hid bx2
    clear hR1 hR2 bx1 bx2
    generalize (w6.alloc (.cells #[.slice A1 m1 c1, .int .i64 a] 31)).alloc (.cells #[.slice A2 m2 c2, .int .i64 b] 31) = w7 at BX1 BX2 PP1 PP2 B7 ⊢
    have hbox : ∀ W, Below w7.heap.size w7 W → (W.cell? ⟨w.heap.size, 0, none⟩ = some (.int .i64 n) ∧ W.cell? ⟨w.heap.size, 1, none⟩ = some (.slice A l.length c)) ∧ (W.cell? ⟨R1, 0, none⟩ = some (.slice A1 m1 c1) ∧ W.cell? ⟨R1, 1, none⟩ = some (.int .i64 a) ∧ R1 < W.heap.size) ∧ (W.cell? ⟨R2, 0, none⟩ = some (.slice A2 m2 c2) ∧ W.cell? ⟨R2, 1, none⟩ = some (.int .i64 b) ∧ R2 < W.heap.size) ∧ w.heap.size < W.heap.size ∧ Sl W W.heap.size 3 ce A l ∧ Below w.heap.size w W := fun W hW => by
      have b1 := blk_below BX1.out hW (lt_of_block BX1.out)
      have b2 := blk_below BX2.out hW (lt_of_block BX2.out)
      have x0 := blk_cell b1 0
      have x1 := blk_cell b1 1
      have y0 := blk_cell b2 0
      have y1 := blk_cell b2 1
      simp only [List.getElem?_toArray, List.getElem?_cons_zero, List.getElem?_cons_succ] at x0 x1 y0 y1
      obtain ⟨h0, h1, h2, h3, h4⟩ := HK.out W (B7.trans (hW.mono (HK.out _ B7).2.2.1))
      exact ⟨⟨h0, h1⟩, ⟨x0, x1, lt_of_block b1⟩, ⟨y0, y1, lt_of_block b2⟩, by omega, h3, h4⟩
    have HBX := Lib.hid hbox
    have R7 := Lib.hid (Below.refl w7.heap.size w7)
    clear hbox B7 HK BX1 BX2
    obtain ⟨⟨q0, q1⟩, ⟨x0, x1, zx⟩, ⟨y0, y1, zy⟩, zn, sl, _⟩ := HBX.out _ R7.out
    go_wp2_with fail
    refine (KAP.out _ _ _ _ _ _ _ p1 p2 HPF.out.s1 HPF.out.s2 sl PP1.out.sl PP2.out.sl PP1.out.1 PP2.out.1).mono ?_
    rintro e w8 ⟨rfl, hb8⟩
    rw [HPF.out.apt]
    have C8 := Lib.hid hb8
    clear q0 q1 x0 x1 zx y0 y1 zy zn sl hb8 R7 PP1 PP2
    obtain ⟨⟨q0, q1⟩, _, _, zn, sl, _⟩ := HBX.out _ C8.out
    go_wp2_with fail
    refine (KD.out _ sl).mono ?_
    rintro e w9 ⟨S, M, rfl, own9, hb9, hsh⟩
    have C9 := Lib.hid (C8.out.trans (hb9.mono C8.out.size))
    obtain ⟨lo1, lo2⟩ := HPF.out.low M hsh.out
    have hMl : M.length = n := by have := hsh.out.len; omega
    obtain ⟨dc, _⟩ := own_at1 hMl own9 htn
    rw [getD_dgA] at dc
    have hS := (own9.base_ S rfl).2
    obtain ⟨mt, hmt⟩ : ∃ mt, dg M (t : Int) = mt := ⟨_, rfl⟩
    rw [hmt] at lo1 lo2 dc
    have htl : (t : Int) < (n : Int) := by omega
    obtain ⟨mn, hmn⟩ : ∃ mn, min a b = mn := ⟨_, rfl⟩
    have hlt : decide (mn < mt) = false := decide_eq_false (by omega)
    clear hmt hsh own9 hMl hb9 C8 q0 q1 zn sl lo1 lo2
    obtain ⟨_, ⟨_, x1, zx⟩, ⟨_, y1, zy⟩, _, _, _⟩ := HBX.out _ C9.out
    go_upto_region 12 with fail
    go_quiet (fail)
    have C10 := Lib.hid (below_drewN C9.out nq)
    generalize w9.drewN nq = w10 at C10 ⊢
    clear x1 zx y1 zy dc hS C9 hmn hlt
    obtain ⟨⟨q0, q1⟩, _, _, zn, sl, _⟩ := HBX.out _ C10.out
    go_wp2_with fail
    refine (KK.out _ sl).mono ?_
    rintro e w11 ⟨Ao, mo, co, O, er, rfl, HB11, HOL, HOW, HRD, HKF⟩
    obtain ⟨rfl, hsm⟩ := k_facts HKF.out HLK.out HPF.out.s1
    have C11 := Lib.hid (C10.out.trans (HB11.out.mono C10.out.size))
    have HW : Hid (YenF.WRow w11 Ao O) := Lib.hid ⟨HOW.out.sl.2, fun x hx => ⟨_, (HRD.out x hx).1⟩⟩
    have hmo : mo ≤ 1000000 := by
      rcases HKF.out with ⟨h1, _⟩ | ⟨_, h1, _⟩ | ⟨_, _, _, n', s', t', e1, e2, e3, h3, h4⟩
      · exact absurd HLK.out h1
      · omega
      · have h5 := h3.len
        rw [List.length_map, HOL.out] at h5
        simp at h5
        omega
    have HSM := Lib.hid hsm
    have HAL : Hid (∀ W, Below w11.heap.size w11 W → Below w7.heap.size w7 W) := Lib.hid (fun W hW => C11.out.trans (hW.mono C11.out.size))
    have D0 := Lib.hid (Below.refl w11.heap.size w11)
    clear q0 q1 zn sl HB11 HOW HRD HKF hsm C10 C11 KD KK
    go_wp2
    go_loopw [113] (fun s wr => ∃ i : Nat, i ≤ mo ∧ s = .int .i64 i ∧ Hid (Below w11.heap.size w11 wr)) (fun s _ => mo - (intOf s).toNat)
    case atStart => exact ⟨0, Nat.zero_le _, rfl, D0⟩
    case round =>
      obtain ⟨i, hi, rfl, DI⟩ := hrel
      clear D0
      by_cases him : i < mo
      · obtain ⟨b1, o1, x, xm, p, rfl, hb1, he1, cx0, cx1, hp1, hpl1, hpc1⟩ := (HW.out.keep DI.out).at_ (k := i) (by rw [HOL.out]; exact him)
        have sm1 : Smp n l f t p := by
          have := HSM.out _ (List.getElem_mem (show i < O.length by rw [HOL.out]; exact him))
          rwa [he1] at this
        have SM1 := Lib.hid sm1
        have him2 : (i : Int) < (mo : Int) := by omega
        have hAl : Below wr.heap.size wr (wr.alloc (.cells #[.slice x.1 x.2.1 x.2.2, .int .i64 xm] 31)) := (Below.refl _ _).alloc (Nat.le_refl _) _
        have BXI := Lib.hid (heap_alloc_new wr (.cells #[.slice x.1 x.2.1 x.2.2, .int .i64 xm] 31))
        have SP1 := Lib.hid ((hp1.keep hAl (Nat.le_refl _)).more hAl.size)
        have D2 := Lib.hid (DI.out.trans (hAl.mono DI.out.size))
        have HPL1 := Lib.hid hpl1
        obtain ⟨X1, n1, k1⟩ := x
        simp only at cx0 BXI SP1 D2 HPL1 hAl
        clear sm1 he1 hp1 hpl1 hpc1 DI hAl
        go_wp2
        obtain ⟨R3, hR3⟩ : ∃ R3, R3 = wr.heap.size := ⟨_, rfl⟩
        rw [← hR3] at BXI ⊢
        clear hR3 cx0 cx1 hb1
        generalize wr.alloc (.cells #[.slice X1 n1 k1, .int .i64 xm] 31) = w12 at BXI SP1 D2 ⊢
        have HBI : Hid (∀ W, Below w12.heap.size w12 W → W.cell? ⟨R3, 0, none⟩ = some (.slice X1 n1 k1) ∧ R3 < W.heap.size ∧ Sl W W.heap.size 1 ci X1 p ∧ Below w11.heap.size w11 W) := Lib.hid (fun W hW => by
          have h1 := blk_below BXI.out hW (lt_of_block BXI.out)
          have h2 := blk_cell h1 0
          simp only [List.getElem?_toArray, List.getElem?_cons_zero] at h2
          exact ⟨h2, lt_of_block h1, (SP1.out.keep hW (Nat.le_refl _)).more hW.size, D2.out.trans (hW.mono D2.out.size)⟩)
        have E0 := Lib.hid (Below.refl w12.heap.size w12)
        clear BXI SP1 D2
        go_loopw [119] (fun s wq => ∃ j : Nat, j ≤ mo ∧ s = .int .i64 j ∧ Hid (Below w12.heap.size w12 wq)) (fun s _ => mo - (intOf s).toNat)
        case atStart => exact ⟨0, Nat.zero_le _, rfl, E0⟩
        case round =>
          obtain ⟨j, hj, rfl, EJ⟩ := hrel
          clear E0
          by_cases hjm : j < mo
          · obtain ⟨b2, o2, y, ym, q, hA2, hb2, he2, cy0, cy1, hp2, hpl2, hpc2⟩ := (HW.out.keep (HBI.out _ EJ.out).2.2.2).at_ (k := j) (by rw [HOL.out]; exact hjm)
            injection hA2 with hA2
            injection hA2 with e1 e2
            subst e1 e2
            have sm2 : Smp n l f t q := by
              have := HSM.out _ (List.getElem_mem (show j < O.length by rw [HOL.out]; exact hjm))
              rwa [he2] at this
            have SM2 := Lib.hid sm2
            have hjm2 : (j : Int) < (mo : Int) := by omega
            have hAl : Below wr.heap.size wr (wr.alloc (.cells #[.slice y.1 y.2.1 y.2.2, .int .i64 ym] 31)) := (Below.refl _ _).alloc (Nat.le_refl _) _
            have BXJ := Lib.hid (heap_alloc_new wr (.cells #[.slice y.1 y.2.1 y.2.2, .int .i64 ym] 31))
            have SP2 := Lib.hid ((hp2.keep hAl (Nat.le_refl _)).more hAl.size)
            have E2 := Lib.hid (EJ.out.trans (hAl.mono EJ.out.size))
            have HPL2 := Lib.hid hpl2
            obtain ⟨X2, n2, k2⟩ := y
            simp only at cy0 BXJ SP2 E2 HPL2 hAl
            clear sm2 he2 hp2 hpl2 hpc2 EJ hAl
            obtain ⟨R4, hR4⟩ : ∃ R4, R4 = wr.heap.size := ⟨_, rfl⟩
            go_upto_region 23 with fail
            rw [← hR4] at BXJ ⊢
            clear hR4 cy0 cy1 hb2
            generalize wr.alloc (.cells #[.slice X2 n2 k2, .int .i64 ym] 31) = w13 at BXJ SP2 E2 ⊢
            have HBJ : Hid (∀ W, Below w13.heap.size w13 W → (W.cell? ⟨R4, 0, none⟩ = some (.slice X2 n2 k2) ∧ R4 < W.heap.size ∧ Sl W W.heap.size 1 ci X2 q) ∧ Below w12.heap.size w12 W) := Lib.hid (fun W hW => by
              have h1 := blk_below BXJ.out hW (lt_of_block BXJ.out)
              have h2 := blk_cell h1 0
              simp only [List.getElem?_toArray, List.getElem?_cons_zero] at h2
              exact ⟨⟨h2, lt_of_block h1, (SP2.out.keep hW (Nat.le_refl _)).more hW.size⟩, E2.out.trans (hW.mono E2.out.size)⟩)
            have G0 := Lib.hid (Below.refl w13.heap.size w13)
            clear BXJ SP2 E2
            obtain ⟨⟨y0, zy, sq⟩, e3⟩ := HBJ.out _ G0.out
            obtain ⟨x0, zx, sp, e4⟩ := HBI.out _ e3
            obtain ⟨⟨q0, q1⟩, _, _, zn, sl, _⟩ := HBX.out _ (HAL.out _ e4)
            clear e3 e4
            go_wp2_with fail
            refine (KAP.out _ _ _ _ _ _ _ p q SM1.out SM2.out sl sp sq HPL1.out HPL2.out).mono ?_
            rintro e w14 ⟨rfl, hb14⟩
            have G14 := Lib.hid hb14
            clear q0 q1 x0 y0 zx zy zn sl sp sq hb14 G0
            obtain ⟨⟨y0, zy, sq⟩, e3⟩ := HBJ.out _ G14.out
            obtain ⟨x0, zx, sp, e4⟩ := HBI.out _ e3
            obtain ⟨⟨q0, q1⟩, ⟨_, x1, zx1⟩, ⟨_, y1, zy1⟩, zn, sl, _⟩ := HBX.out _ (HAL.out _ e4)
            cases hap : aptB l p q with
            | false =>
              have E14 := Lib.hid e3
              clear e4 sl sp sq hap
              go_upto_region 24 with fail
              go_quiet (fail)
              have E15 := Lib.hid (below_drewN E14.out nq)
              clear q0 q1 x0 y0 x1 y1 zx zy zx1 zy1 zn E14 e3
              generalize w14.drewN nq = w15 at E15 ⊢
              go_wp2
              go_roundw
              case rel => exact ⟨j + 1, by omega, by go_num, E15⟩
              case measure => simp [intOf]; omega
            | true =>
              have hle := HPF.out.least p q SM1.out SM2.out hap
              have hbd := HPF.out.bd
              have hwab : IntKind.i64.wrap (a + b) = a + b := IntWalk.i64_in _ (by omega)
              obtain ⟨cv, hcv⟩ : ∃ cv, ctwo n l p q = cv := ⟨_, rfl⟩
              have kct := fun W h1 h2 h3 => KCT.out W X1 X2 k1 k2 n1 n2 p q SM1.out SM2.out h1 h2 h3 HPL1.out HPL2.out
              rw [hcv] at hle kct
              have hgt : ¬ (cv < a + b) := by omega
              have KC2 := Lib.hid kct
              have BD := Lib.hid (Below.refl w14.heap.size w14).drew
              have SLD := Lib.hid (sl.keep (Below.refl _ _).drew (Nat.le_refl _))
              have SPD := Lib.hid (sp.keep (Below.refl _ _).drew (Nat.le_refl _))
              have SQD := Lib.hid (sq.keep (Below.refl _ _).drew (Nat.le_refl _))
              clear kct hcv hle hbd hap e3 e4 sl sp sq
              go_upto_region 24 with fail
              go_region_held3 (fun w' => w'.cell? ⟨w.heap.size, 0, none⟩ = some (.int .i64 n) ∧ w'.cell? ⟨w.heap.size, 1, none⟩ = some (.slice A l.length c) ∧ w'.cell? ⟨R1, 1, none⟩ = some (.int .i64 a) ∧ w'.cell? ⟨R2, 1, none⟩ = some (.int .i64 b) ∧ w'.cell? ⟨R3, 0, none⟩ = some (.slice X1 n1 k1) ∧ w'.cell? ⟨R4, 0, none⟩ = some (.slice X2 n2 k2))
                (first
                  | go_keep
                  | (go_split_ands
                     exact ⟨q0, q1, x1, y1, x0, y0⟩))
                (first
                  | (go_at_call 9; refine (KC2.out _ (by exact SLD.out) (by exact SPD.out) (by exact SQD.out)).mono ?_; clear q0 q1 x0 y0 x1 y1 zx zy zx1 zy1 zn; go_must (rintro e w15 ⟨rfl, hb15⟩; have G15 := Lib.hid (G14.out.trans ((BD.out.trans (hb15.mono BD.out.size)).mono G14.out.size)); obtain ⟨⟨y0, zy, _⟩, e3⟩ := HBJ.out _ G15.out; obtain ⟨x0, zx, _, e4⟩ := HBI.out _ e3; obtain ⟨⟨q0, q1⟩, ⟨_, x1, zx1⟩, ⟨_, y1, zy1⟩, zn, _, _⟩ := HBX.out _ (HAL.out _ e4); have E15 := Lib.hid e3)))
              all_goals
                clear q0 q1 x0 y0 x1 y1 zx zy zx1 zy1 zn
                go_wp2
                go_roundw
                case rel => exact ⟨j + 1, by omega, by go_num, E15⟩
                case measure => simp [intOf]; omega
          · obtain rfl : j = mo := by omega
            have D3 := Lib.hid (HBI.out _ EJ.out).2.2.2
            go_wp2
            go_roundw
            case rel => exact ⟨i + 1, by omega, by go_num, D3⟩
            case measure => simp [intOf]; omega
      · obtain rfl : i = mo := by omega
        have HF := Lib.hid (HBX.out _ (HAL.out _ DI.out)).2.2.2.2.2
        go_wp2
        go_ret
        exact ⟨rfl, HF.out⟩

theorem own : ownKnob Try.prog.godebug = none := by kernel_rfl
theorem laidOut : laidOutB Try.prog = true := by kernel_rfl

set_option maxRecDepth 100000 in
theorem lifted (os : Os) (started : os.Started) (H : Type) (enc : TypeId × Value → H) :
    ReturnsInHanded {} Try.checked os 3 .any (Rows.twinApartSpec.pre6 enc Try.prog Try.f3 Rows.twinApartRow.domain false) (Rows.twinApartSpec.post enc Try.prog Try.f3 false true false false) := by
  refine returnsInHanded_of_change (C := Try.checked) own started (by kernel_rfl) Try.func3
    (ChangeSpec.witness6 (enc := enc) (C := Try.checked) false ⟨#[], #[.agg #[.int .i64 0, .slice none 0 0], .int .i64 0, .int .i64 0], []⟩ 8 (by kernel_rfl) (by kernel_rfl) (by kernel_rfl) (by kernel_rfl)) ?_
  intro W base args ds gs before hval0 hW hcnd _
  have hval : ∀ (j : Nat) t v, Try.f3.params[j]? = some t → args[j]? = some v → Value.okWide Try.prog W .any base t v := hval0
  have hW' := hW
  obtain ⟨p, q, hA0, hV, rfl, hfz, hnd⟩ := hW
  have hA : DataW.TrodAll enc Try.prog W 0 (fun _ => true) true Try.f3.params.toList args.toList ds p := hA0
  rw [Try.params3] at hA hval
  obtain ⟨v0, vs0, d0, ds0, p0, q0, hargs, rfl, rfl, h0, r0⟩ := trodAll_cons hA
  obtain ⟨v1, vs1, d1, ds1, p1, q1, rfl, rfl, rfl, h1, r1⟩ := trodAll_cons r0
  obtain ⟨v2, vs2, d2, ds2, p2, q2, rfl, rfl, rfl, h2, r2⟩ := trodAll_cons r1
  obtain ⟨rfl, rfl, rfl⟩ := trodAll_nil r2
  obtain rfl : args = #[v0, v1, v2] := by cases args; simp_all
  obtain ⟨rfl, rfl⟩ := trodVars_none hV
  obtain ⟨N0, A0, c0, l0, dd0, rfl, hN0, hG0, hb0, rfl, hd0⟩ := open_net Try.underlying24 (by kernel_rfl) (by kernel_rfl) Try.underlying3 Try.underlying22 Try.underlying48 (by kernel_rfl) (by kernel_rfl) Try.underlying3 Try.underlying3 Try.underlying3 (hval 0 24 v0 rfl rfl) h0
  obtain ⟨a1, rfl, rfl, rfl, wa1⟩ := open_int Try.underlying3 (hval 1 3 v1 rfl rfl) h1
  obtain ⟨a2, rfl, rfl, rfl, wa2⟩ := open_int Try.underlying3 (hval 2 3 v2 rfl rfl) h2
  refine (walk W N0 A0 c0 l0 hG0 a1 (wf_bd wa1) a2 (wf_bd wa2)).mono fun e W' ⟨he, hB⟩ => ?_
  subst he
  exact ⟨_, rfl, post_of_law laidOut rfl Try.underlying4 rfl (by intro t ht; rw [Try.params3] at ht; simp at ht; rcases ht with rfl | rfl | rfl <;> exact ⟨by kernel_rfl, of_decide_eq_true (by kernel_rfl)⟩) hW' rfl hB⟩

theorem holds : Rows.TwinApartSaid :=
  OpenClaim.holds_of_wide 3 Try.f3 rfl rfl rfl rfl rfl rfl rfl ⟨rfl, rfl, rfl, rfl, rfl⟩ rfl rfl rfl rfl rfl (by kernel_rfl) Try.func3 (by kernel_rfl)
    (of_decide_eq_true (by kernel_rfl)) (by unfold Func.isWrapper; first | (rw [if_pos (by decide +kernel)]; kernel_rfl) | (rw [if_neg (by decide +kernel)]; exact ⟨rfl, rfl⟩))
    (fun os started H enc _ => lifted os started H enc)
#print axioms holds
end Go.Proofs.Ytjebckehmmbkbaa.TwinApartLaw
