/- For every net, two places and number: YenOrders answers true (the ways told are walks without loops, none twice, in order, and the first costs least), and the arguments read as before. -/
import Derived.Test.YtamphgcpfncenaaRows
import Derived.Test.YtamphgcpfncenaaVOpen
import Derived.Test.YtamphgcpfncenaaVYenUse
import Derived.Test.YtamphgcpfncenaaVYenFirst
import Derived.Test.YtamphgcpfncenaaVDijkTwo
import Derived.Test.YtamphgcpfncenaaVStarKeep
import Derived.Test.YtamphgcpfncenaaVStdOnce
import Derived.BigQuiet
namespace Go.Proofs.Ytamphgcpfncenaa.YenOrdersLaw
open Go.ChangeShapes Go.WideShapes Go.ChangeAt Go.RowKit Go.Proofs.Ytamphgcpfncenaa NetLaw BellLaw DijkLaw WalkLaw YenLaw Go.Proofs.Ytamphgcpfncenaa.Net Go.Proofs.Ytamphgcpfncenaa.Std Go.Proofs.Ytamphgcpfncenaa.Refs Go.Proofs.Ytamphgcpfncenaa.Yen Go.Proofs.Ytamphgcpfncenaa.HeapW
set_option linter.unusedSimpArgs false
set_option linter.unusedVariables false
theorem look_one {N : Int} {l : List E} {a b : Int} (h : Dijk.look N l [a, b] = 0) : Dijk.look N l [a] = 0 := by
  unfold Dijk.look at h ⊢
  split at h
  · rename_i h1; exact absurd h h1
  · rename_i h1
    rw [if_neg h1]
    simp only [Dijk.lookE] at h ⊢
    split at h
    · cases h
    · rename_i h2
      rw [if_neg h2]

set_option maxRecDepth 100000 in
set_option maxHeartbeats 8000000 in
theorem walk (w : World) (N : Int) (A : Option Addr) (c : Nat) (l : List E) (hA : Arg w 3 ce A c l) (a : Int) (ha : -9223372036854775808 ≤ a ∧ a ≤ 9223372036854775807) (b : Int) (hb : -9223372036854775808 ≤ b ∧ b ≤ 9223372036854775807) (k : Int) (hk : -9223372036854775808 ≤ k ∧ k ≤ 9223372036854775807) :
    Calls Try.prog 5 #[.agg #[.int .i64 N, .slice A l.length c], .int .i64 a, .int .i64 b, .int .i64 k] w fun e w' => e = .returned (.bool true) ∧ Below w.heap.size w w' := by
  have hs := hA.sl
  have hll : l.length ≤ 9223372036854775807 := Nat.le_trans hA.cap hA.max
  clear hA ha hb hk
  have hw0 : Below w.heap.size w (w.alloc (.cells #[.int .i64 N, .slice A l.length c] 24)) := (Below.refl _ _).alloc (Nat.le_refl _) _
  have hkeep : ∀ W, Below (w.heap.size + 1) (w.alloc (.cells #[.int .i64 N, .slice A l.length c] 24)) W → (W.cell? ⟨w.heap.size, 0, none⟩ = some (.int .i64 N) ∧ W.cell? ⟨w.heap.size, 1, none⟩ = some (.slice A l.length c)) ∧ w.heap.size + 1 ≤ W.heap.size ∧ Sl W W.heap.size 3 ce A l ∧ Below w.heap.size w W := fun W hW => by
    obtain ⟨cc, _⟩ := keepAt hW (Nat.lt_succ_self _)
    have q0 := cc 0
    have q1 := cc 1
    simp at q0 q1
    have H := hw0.trans (hW.mono (Nat.le_succ _))
    have hz := hW.size
    simp at hz
    exact ⟨⟨q0, q1⟩, by omega, (hs.keep H (Nat.le_refl _)).more H.size, H⟩
  have HK := Lib.hid hkeep
  clear hkeep hw0 hs
  go_enter Try.func5, Try.ntmps5
  go_wp2_with fail
  refine (two_any _).mono ?_
  rintro e w1 ⟨g, rfl, own1, hb1⟩
  have B1 : Below (w.heap.size + 1) (w.alloc (.cells #[.int .i64 N, .slice A l.length c] 24)) w1 := hb1.mono (by simp)
  have kk := k_any 2 0 1 3 (some ⟨g, 0, none⟩) 1 [(0, 1, 5)] w1 own1.sl.2 (by decide)
  have KK := Lib.hid kk
  have HB1 := Lib.hid B1
  clear hb1 kk own1 B1
  go_wp2_with fail
  refine KK.out.mono ?_
  rintro e w2 ⟨A2, m2, c2, O2, er2, rfl, hb2, hm2, hown2, hrd2, hkf2⟩
  obtain ⟨rfl, hO2⟩ := kf_two hkf2.out (by decide)
  obtain ⟨rfl, x2, rfl⟩ := one_of hO2 hm2.out (fun x hx => (hrd2.out x hx).2)
  have h5 : wt [((0 : Int), (1 : Int), (5 : Int))] [0, 1] = 5 := by decide +kernel
  rw [h5] at hown2
  obtain ⟨S2, c2', hA2, _, hS2, _, hc2⟩ := hown2.out.some_ (by simp)
  injection hA2 with e1 e2 e3
  subst e1 e3
  clear e2
  have hcell : w2.cell? ⟨S2, 1, none⟩ = some (.int .i64 5) := (hc2 0 (by simp) 1 (by omega)).1
  have B2 := HB1.out.trans (hb2.out.mono (HK.out _ HB1.out).2.1)
  obtain ⟨⟨q0, q1⟩, Z2, sg, _⟩ := HK.out _ B2
  have HB2 := Lib.hid B2
  have ky := k_any N a b k A c l w2 sg hll
  have KY := Lib.hid ky
  clear KK hb2 hm2 hown2 hrd2 hkf2 hO2 h5 hc2 B2 HB1 ky
  go_wp2_with fail
  refine KY.out.mono ?_
  rintro e w3 ⟨Ao, mo, co, O, er, rfl, hb3, HMO, HOWN, HRD, HKF⟩
  have B3 := HB2.out.trans (hb3.out.mono Z2)
  have HB3 := Lib.hid B3
  clear q0 q1 sg hcell hS2 KY hb3 B3 HB2
  by_cases her : er = 0
  · subst her
    rcases HKF.out with ⟨h1, h2, _⟩ | ⟨_, _, h2, _⟩ | ⟨hlk, hk1, hk8, n, s, t, rfl, rfl, rfl, hT, hOO⟩
    · exact absurd h2.symm h1
    · exact absurd h2 (by decide)
    have hO : O ≠ [] := by
      rcases hOO with ⟨_, h⟩ | ⟨h, _⟩
      · exact absurd h (by decide)
      · exact h
    obtain ⟨hgood, hpos, _, t0, t1⟩ := DijkWay.looks_zero hlk
    have htn : t < n := by omega
    have hm1 : 1 ≤ mo := by
      rw [← HMO.out]
      cases O with
      | nil => exact absurd rfl hO
      | cons x r => simp
    have hmk : (mo : Int) ≤ k := by
      have h1 := hT.len
      rw [List.length_map, HMO.out] at h1
      omega
    have hlen := hgood.len
    obtain ⟨⟨q0, q1⟩, Z3, sg, _⟩ := HK.out _ HB3.out
    have kds := DijkTwo.dist_yes n A c l s hll (look_one hlk) w3 sg
    have KDS := Lib.hid kds
    have HT := Lib.hid hT
    have HG := Lib.hid hgood
    have HPOS := Lib.hid hpos
    clear kds hT hgood hpos hlk hOO hO HKF t0 t1 sg
    go_wp2_with fail
    refine KDS.out.mono ?_
    rintro e w4 ⟨S, D, rfl, ownD, hb4, hD⟩
    simp only [Int.toNat_natCast] at ownD ⊢
    have hrow : YenF.WRow w3 Ao O := ⟨HOWN.out.sl.2, fun x hx => ⟨_, (HRD.out x hx).1⟩⟩
    have HROW := Lib.hid (hrow.keep hb4)
    have hB4 := HB3.out.trans (hb4.mono Z3)
    have HB4 := Lib.hid hB4
    clear hrow hB4 KDS q0 q1 HB3 HOWN
    obtain ⟨b0, off, x, xm, p, rfl, hbs, he, cx, cm, hp, hpl, hpc⟩ := HROW.out.at_ (k := 0) (by rw [HMO.out]; omega)
    have hx0 : xm = dg D (t : Int) := by
      have hmem := List.getElem_mem (l := O) (n := 0) (by rw [HMO.out]; omega)
      rw [he] at hmem
      have h1 := (HRD.out _ hmem).2
      have hT := HT.out
      have hl0 : 0 < O.length := by rw [HMO.out]; omega
      cases O with
      | nil => simp at hl0
      | cons y r =>
        simp only [List.getElem_cons_zero] at he
        subst he
        rw [List.map_cons] at hT
        have := hT.first hD.out HG.out HPOS.out htn
        simp only at h1 this
        omega
    have hDl : D.length = n := by have := hD.out.len; omega
    obtain ⟨hcd, _⟩ := own_at1 hDl ownD htn
    have hdg : D.getD t 0 = dg D (t : Int) := by unfold dg; rw [Int.toNat_natCast]
    rw [hdg, ← hx0] at hcd
    have hz0 : ((mo : Int) == 0) = false := beq_eq_false_iff_ne.2 (by omega)
    have hz1 : ¬ (mo : Int) > k := by omega
    have hz2 : (t : Int) < (n : Int) := by omega
    have hz3 : (0 : Int) < (mo : Int) := by omega
    obtain ⟨A1, n1, c1⟩ := x
    rw [Nat.zero_mul, Nat.add_zero] at cx cm
    clear he hx0 hDl hdg hp hpl hpc ownD hD hb4
    go_upto_region 8 with fail
    go_quiet (fail)
    have hB5 := below_drewN HB4.out nq
    have hrow5 := HROW.out.keep (below_drewN (Below.refl _ _) nq)
    clear cx cm hcd hz0 hz1 hz2 hz3
    generalize w4.drewN nq = w5 at hB5 hrow5 ⊢
    have HB5 := Lib.hid hB5
    have HROW5 := Lib.hid hrow5
    clear hB5 hrow5 HB4 HROW
    go_wp2
    go_loopw [80] (fun i wr => ∃ j : Nat, j ≤ mo ∧ i = .int .i64 j ∧ Hid (Below w5.heap.size w5 wr)) (fun i _ => mo - (intOf i).toNat)
    case atStart => exact ⟨0, Nat.zero_le _, rfl, Lib.hid (Below.refl _ _)⟩
    case round =>
      obtain ⟨j, hj, rfl, HLO⟩ := hrel
      have Z5 : w.heap.size + 1 ≤ w5.heap.size := (HK.out _ HB5.out).2.1
      have hBr := HB5.out.trans (HLO.out.mono Z5)
      by_cases hlt : j < mo
      · have hjO : j < O.length := by rw [HMO.out]; exact hlt
        obtain ⟨bj, oj, x, xm, p, hAo, hbs, he, cx, cm, hp, hpl, hpc⟩ := (HROW5.out.keep HLO.out).at_ hjO
        have hmem := List.getElem_mem hjO
        rw [he] at hmem
        have hct : xm = wt l p := (HRD.out _ hmem).2
        have hsm : Smp n l s t p := HT.out.so p (List.mem_map.2 ⟨_, hmem, rfl⟩)
        obtain ⟨A1, n1, c1⟩ := x
        have hn1c : n1 ≤ c1 := by
          have hown : Own w3 w2.heap.size 3 1 ci (.slice A1 n1 c1) p := (HRD.out _ hmem).1
          obtain ⟨A', c', he', hc, _⟩ := hown.form
          injection he' with _ e1 e2
          omega
        have hcost : WalkLaw.cost n l p = (xm, 0) := by rw [hct]; exact hsm.cost (chk_zero.2 HG.out) (by have := HG.out.hi; omega)
        have hHD := hsm.head
        have hLS := hsm.last
        have hND := hsm.nd
        have hsrt : ∀ (j' : Nat) (h : j' + 1 < O.length), O[j'].2.1 < O[j' + 1].2.1 ∨ (O[j'].2.1 = O[j' + 1].2.1 ∧ lexlt O[j'].2.2 O[j' + 1].2.2 = true) := fun j' h => by
          have h1 := List.pairwise_iff_getElem.1 HT.out.sorted j' (j' + 1) (by rw [List.length_map]; omega) (by rw [List.length_map]; exact h) (by omega)
          rw [List.getElem_map, List.getElem_map, ltY_iff] at h1
          unfold ky at h1
          simp only at h1
          rw [← (HRD.out _ (List.getElem_mem (show j' < O.length by omega))).2, ← (HRD.out _ (List.getElem_mem h)).2] at h1
          exact h1
        simp only at cx hp hpl hpc
        have hbx := heap_alloc_new wr (.cells #[.slice A1 n1 c1, .int .i64 xm] 36)
        have hlx := HLO.out.alloc HLO.out.size (.cells #[.slice A1 n1 c1, .int .i64 xm] 36)
        have hp2 : Sl wr wr.heap.size 1 ci A1 p := hp
        have hrow2 := (HROW5.out.keep hlx)
        have hBx := HB5.out.trans (hlx.mono Z5)
        obtain ⟨⟨q0, q1⟩, Zx, sg, _⟩ := HK.out _ hBx
        have hpx : ∀ W, Below (wr.alloc (.cells #[.slice A1 n1 c1, .int .i64 xm] 36)).heap.size (wr.alloc (.cells #[.slice A1 n1 c1, .int .i64 xm] 36)) W → Sl W W.heap.size 1 ci A1 p := fun W hW => (hp.keep (((Below.refl wr.heap.size wr).alloc (Nat.le_refl _) _).trans (hW.mono (by simp))) (Nat.le_refl _)).more (by have := hW.size; simp at this; omega)
        have HSRT := Lib.hid hsrt
        have HE := Lib.hid he
        have HBX := Lib.hid hbx
        have HLX := Lib.hid hlx
        have HPX := Lib.hid hpx
        have HROWX := Lib.hid hrow2
        have HBXX := Lib.hid hBx
        have HPL := Lib.hid hpl
        have HCO := Lib.hid hcost
        have HHD := Lib.hid hHD
        have HLS := Lib.hid hLS
        have HND := Lib.hid hND
        clear hmem hct hsm hsrt he hbx hlx hpx hp2 hrow2 hBx hBr hpl hcost hHD hLS hND hp HLO
        injection hAo with e1
        injection e1 with e1 e2
        subst e1 e2
        go_upto_region 13 with fail
        generalize wr.alloc (.cells #[.slice A1 n1 c1, .int .i64 xm] 36) = wx at *
        generalize wr.heap.size = XE at *
        have x0 := blk_cell HBX.out 0
        have x1 := blk_cell HBX.out 1
        simp only [List.getElem?_toArray, List.getElem?_cons_zero, List.getElem?_cons_succ] at x0 x1
        have kwk := StarF.walks_any n xm s t A c l A1 n1 c1 p wx sg (HPX.out _ (Below.refl _ _)) HPL.out hll (by omega) HCO.out HHD.out HLS.out
        have KWK := Lib.hid kwk
        clear kwk sg cx cm
        go_wp2_with fail
        refine KWK.out.mono ?_
        rintro e w9 ⟨rfl, hb9⟩
        have hbx9 := blk_below HBX.out hb9 (lt_of_block HBX.out)
        have x0 := blk_cell hbx9 0
        have x1 := blk_cell hbx9 1
        simp only [List.getElem?_toArray, List.getElem?_cons_zero, List.getElem?_cons_succ] at x0 x1
        have hl9 := HLX.out.trans (hb9.mono HLX.out.size)
        have hrow9 := HROWX.out.keep hb9
        have hB9 := HBXX.out.trans (hb9.mono Zx)
        have kon := once_wide A1 c1 n1 p w9.heap.size w9 (HPX.out _ hb9) HPL.out hn1c (by omega) true (decide_eq_true HND.out)
        have KON := Lib.hid kon
        have HL9 := Lib.hid hl9
        have HROW9 := Lib.hid hrow9
        have HB9 := Lib.hid hB9
        have HP9 := Lib.hid (HPX.out _ hb9)
        clear kon hl9 hrow9 hB9 hb9 hbx9 KWK q0 q1 HBX HLX HPX HROWX HBXX
        go_wp2_with fail
        refine KON.out.mono ?_
        rintro e w10 ⟨rfl, hw10⟩
        subst hw10
        clear KON
        by_cases hj0 : j = 0
        · subst hj0
          go_upto_region 15 with fail
          go_quiet (fail)
          have hl11 := below_drewN HL9.out nq
          have HL11 := Lib.hid hl11
          clear hl11 x0 x1
          go_wp2
          go_roundw
          case rel => exact ⟨0 + 1, by omega, by go_num, HL11⟩
          case measure => simp [intOf]; omega
        · obtain ⟨j', rfl⟩ : ∃ j', j = j' + 1 := ⟨j - 1, by omega⟩
          obtain ⟨bk, ok, y, ym, q, hAo, hbk, hek, cy, cym, hq, hql, hqc⟩ := HROW9.out.at_ (k := j') (by omega)
          injection hAo with e1
          injection e1 with e1 e2
          subst e1 e2
          obtain ⟨A0, n0, c0⟩ := y
          simp only at cy hq hql hqc
          have hord : ym < xm ∨ (ym = xm ∧ lexlt q p = true) := by
            have h1 := HSRT.out j' hjO
            rw [hek, HE.out] at h1
            exact h1
          have hz1 : (0 : Int) < (j' : Int) + 1 := by omega
          have hz2 : (j' : Int) + 1 - 1 = (j' : Int) := by omega
          have hz7 : decide ((0 : Int) < (j' : Int) + 1) = true := decide_eq_true hz1
          have hz8 : IntKind.i64.wrap ((j' : Int) + 1 - 1) = (j' : Int) := by rw [hz2]; exact IntWalk.i64_in _ (by have := HMO.out; omega)
          have hz3 : (j' : Int) < (mo : Int) := by omega
          have hz4 : decide (xm < ym) = false := decide_eq_false (by rcases hord with h | h <;> omega)
          have hkc : ∀ qn, Calls Try.prog 27 #[.slice A0 n0 c0, .slice A1 n1 c1] (w10.drewN qn) fun e w' => e = .returned (.int .i64 (cmpL q p)) ∧ w' = w10.drewN qn := fun qn => compare_int A0 A1 n0 n1 c0 c1 q p _ _ hq HP9.out hql HPL.out hqc (by omega)
          rcases Int.lt_trichotomy ym xm with hlt2 | heq2 | hgt2
          · have hz5 : (xm == ym) = false := beq_eq_false_iff_ne.2 (by omega)
            clear hord hek hq hql hlt2 hkc
            go_upto_region 15 with fail
            go_quiet (fail)
            have hl11 := below_drewN HL9.out nq
            have HL11 := Lib.hid hl11
            clear hl11 x0 x1 cy cym
            go_wp2
            go_roundw
            case rel => exact ⟨j' + 1 + 1, by omega, by go_num, HL11⟩
            case measure => simp [intOf]; omega
          · have hcl : cmpL q p < 0 := by
              rw [cmpL_lt]
              rcases hord with h | h
              · omega
              · exact h.2
            generalize cmpL q p = cv at hkc hcl
            have hz6 : decide ((0 : Int) ≤ cv) = false := decide_eq_false (by omega)
            subst heq2
            have KC := Lib.hid hkc
            clear hord hek hq hql hkc hcl
            go_upto_region 15 with fail
            go_quiet ((go_at_call 27; with_reducible exact Calls.quiet_of_same (KC.out _)))
            have hl11 := below_drewN HL9.out nq
            have HL11 := Lib.hid hl11
            clear hl11 x0 x1 cy cym
            go_wp2
            go_roundw
            case rel => exact ⟨j' + 1 + 1, by omega, by go_num, HL11⟩
            case measure => simp [intOf]; omega
          · rcases hord with h | h <;> omega
      · obtain rfl : mo = j := by omega
        have hf := (HK.out _ hBr).2.2.2
        have HF := Lib.hid hf
        clear hf hBr
        go_wp2
        go_ret
        exact ⟨rfl, HF.out⟩
  · have hO : O = [] := by
      rcases HKF.out with ⟨_, _, h⟩ | ⟨_, _, _, h⟩ | ⟨_, _, _, n, s, t, _, _, _, _, h⟩
      · exact h
      · exact h
      · rcases h with ⟨h, _⟩ | ⟨_, h⟩
        · exact h
        · exact absurd h her
    have hm0 : mo = 0 := by rw [← HMO.out, hO]; rfl
    subst hm0
    have hne : (er != 0) = true := by rw [bne_iff_ne]; exact her
    have hf := (HK.out _ HB3.out).2.2.2
    have HF := Lib.hid hf
    clear hO hf HKF HRD HOWN HMO her
    go_wp2
    go_ret
    exact ⟨by simp, HF.out⟩

theorem own : ownKnob Try.prog.godebug = none := by kernel_rfl
theorem laidOut : laidOutB Try.prog = true := by kernel_rfl

set_option maxRecDepth 100000 in
theorem lifted (os : Os) (started : os.Started) (H : Type) (enc : TypeId × Value → H) :
    ReturnsInHanded {} Try.checked os 5 .any (Rows.yenOrdersSpec.pre6 enc Try.prog Try.f5 Rows.yenOrdersRow.domain false) (Rows.yenOrdersSpec.post enc Try.prog Try.f5 false true false false) := by
  refine returnsInHanded_of_change (C := Try.checked) own started (by kernel_rfl) Try.func5
    (ChangeSpec.witness6 (enc := enc) (C := Try.checked) false ⟨#[], #[.agg #[.int .i64 0, .slice none 0 0], .int .i64 0, .int .i64 0, .int .i64 0], []⟩ 8 (by kernel_rfl) (by kernel_rfl) (by kernel_rfl) (by kernel_rfl)) ?_
  intro W base args ds gs before hval0 hW hcnd _
  have hval : ∀ (j : Nat) t v, Try.f5.params[j]? = some t → args[j]? = some v → Value.okWide Try.prog W .any base t v := hval0
  have hW' := hW
  obtain ⟨p, q, hA0, hV, rfl, hfz, hnd⟩ := hW
  have hA : DataW.TrodAll enc Try.prog W 0 (fun _ => true) true Try.f5.params.toList args.toList ds p := hA0
  rw [Try.params5] at hA hval
  obtain ⟨v0, vs0, d0, ds0, p0, q0, hargs, rfl, rfl, h0, r0⟩ := trodAll_cons hA
  obtain ⟨v1, vs1, d1, ds1, p1, q1, rfl, rfl, rfl, h1, r1⟩ := trodAll_cons r0
  obtain ⟨v2, vs2, d2, ds2, p2, q2, rfl, rfl, rfl, h2, r2⟩ := trodAll_cons r1
  obtain ⟨v3, vs3, d3, ds3, p3, q3, rfl, rfl, rfl, h3, r3⟩ := trodAll_cons r2
  obtain ⟨rfl, rfl, rfl⟩ := trodAll_nil r3
  obtain rfl : args = #[v0, v1, v2, v3] := by cases args; simp_all
  obtain ⟨rfl, rfl⟩ := trodVars_none hV
  obtain ⟨N0, A0, c0, l0, dd0, rfl, hN0, hG0, hb0, rfl, hd0⟩ := open_net Try.underlying24 (by kernel_rfl) (by kernel_rfl) Try.underlying3 Try.underlying22 Try.underlying27 (by kernel_rfl) (by kernel_rfl) Try.underlying3 Try.underlying3 Try.underlying3 (hval 0 24 v0 rfl rfl) h0
  obtain ⟨a1, rfl, rfl, rfl, wa1⟩ := open_int Try.underlying3 (hval 1 3 v1 rfl rfl) h1
  obtain ⟨a2, rfl, rfl, rfl, wa2⟩ := open_int Try.underlying3 (hval 2 3 v2 rfl rfl) h2
  obtain ⟨a3, rfl, rfl, rfl, wa3⟩ := open_int Try.underlying3 (hval 3 3 v3 rfl rfl) h3
  refine (walk W N0 A0 c0 l0 hG0 a1 (wf_bd wa1) a2 (wf_bd wa2) a3 (wf_bd wa3)).mono fun e W' ⟨he, hB⟩ => ?_
  subst he
  exact ⟨_, rfl, post_of_law laidOut rfl Try.underlying4 rfl (by intro t ht; rw [Try.params5] at ht; simp at ht; rcases ht with rfl | rfl | rfl | rfl <;> exact ⟨by kernel_rfl, of_decide_eq_true (by kernel_rfl)⟩) hW' rfl hB⟩

theorem holds : Rows.YenOrdersSaid :=
  OpenClaim.holds_of_wide 5 Try.f5 rfl rfl rfl rfl rfl rfl rfl ⟨rfl, rfl, rfl, rfl, rfl⟩ rfl rfl rfl rfl rfl (by kernel_rfl) Try.func5 (by kernel_rfl)
    (of_decide_eq_true (by kernel_rfl)) (by unfold Func.isWrapper; first | (rw [if_pos (by decide +kernel)]; kernel_rfl) | (rw [if_neg (by decide +kernel)]; exact ⟨rfl, rfl⟩))
    (fun os started H enc _ => lifted os started H enc)
#print axioms holds
end Go.Proofs.Ytamphgcpfncenaa.YenOrdersLaw
