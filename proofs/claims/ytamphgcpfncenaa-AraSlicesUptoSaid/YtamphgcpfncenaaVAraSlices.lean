/- For every net, two places, list of guesses, list of weights and list of numbers that are not too long in all: AraSlices answers true (however it is cut into steps, it tells the same rounds), and the arguments read as before. Condition: the lists together are no longer than 1048576. -/
import Derived.Test.YtamphgcpfncenaaRows
import Derived.Test.YtamphgcpfncenaaVAraUse2
import Derived.Test.YtamphgcpfncenaaVDijkTwo
import Derived.Test.YtamphgcpfncenaaVBulk
import Derived.IntWalk
namespace Go.Proofs.Ytamphgcpfncenaa.AraSlicesLaw
open Go.ChangeShapes Go.WideShapes Go.ChangeAt Go.RowKit Go.Proofs.Ytamphgcpfncenaa NetLaw BellLaw StarLaw AraLaw Go.Proofs.Ytamphgcpfncenaa.Net Go.Proofs.Ytamphgcpfncenaa.Std Go.Proofs.Ytamphgcpfncenaa.Flow Go.Proofs.Ytamphgcpfncenaa.Refs Go.Proofs.Ytamphgcpfncenaa.Ara Go.Proofs.Ytamphgcpfncenaa.StarF
set_option linter.unusedSimpArgs false
set_option linter.unusedVariables false
theorem own_fr {α : Type} {w w' : World} {b0 : Nat} {e : TypeId} {sz : Nat} {cell : α → Nat → Value} {A : Option Addr} {n c : Nat} {l : List α} {P : Nat} {F : Fix} {Y Y' : Var} (h : Own w b0 e sz cell (.slice A n c) l) (hn : ∀ g, ob A = some g → ¬ All P F Y g) (hf : Fr P F Y Y' w w') : Own w' b0 e sz cell (.slice A n c) l ∧ ∀ g, ob A = some g → ¬ All P F Y' g :=
  ⟨own_keepB h (fun g e => hf.stays (hn g ((ob_ ..).symm.trans e)) (h.base_ g e).2), fun g e => hf.notall (hn g e) (h.base_ g ((ob_ ..).trans e)).2⟩
theorem clone_w (A : Option Addr) (m c : Nat) (l : List Int) (hm : l.length = m) (hA : A = none → l.length = 0 ∧ c = 0) (hlen : m ≤ 1048576) (W : World) (h : Sl W W.heap.size 1 ci A l) : Calls Try.prog 42 #[.slice A m c] W fun e w' => ∃ A' c', e = .returned (.slice A' m c') ∧ Own w' W.heap.size 3 1 ci (.slice A' m c') l ∧ Below W.heap.size W w' := by
  subst hm
  refine (clone_int A c l W.heap.size W h (Nat.le_refl _) hA (by omega)).mono ?_
  rintro e w' ⟨A', c', h1, h2, h3⟩
  exact ⟨A', c', h1, h2, h3⟩
theorem last_done {rs : List Rnd} {m : Nat} (h : rs.length = m + 1) : ∃ r, rs[m]? = some r ∧ (match rs.getLast? with | some r => r.done | none => 0) = r.done := by
  have hm : m < rs.length := by omega
  refine ⟨rs[m], List.getElem?_eq_getElem hm, ?_⟩
  rw [List.getLast?_eq_getElem?, h, Nat.add_sub_cancel, List.getElem?_eq_getElem hm]
set_option maxRecDepth 100000 in
set_option maxHeartbeats 16000000 in
theorem walk (w : World) (N : Int) (A : Option Addr) (c : Nat) (l : List E) (hA : Arg w 3 ce A c l) (a : Int) (ha : -9223372036854775808 ≤ a ∧ a ≤ 9223372036854775807) (b : Int) (hb : -9223372036854775808 ≤ b ∧ b ≤ 9223372036854775807) (Ah : Option Addr) (ch : Nat) (h : List Int) (hAh : Arg w 1 ci Ah ch h) (Aw : Option Addr) (cw : Nat) (ws : List (Int × Int)) (hAw : Arg w 2 cp Aw cw ws) (At : Option Addr) (ct : Nat) (st : List Int) (hAt : Arg w 1 ci At ct st)
    (hstb : ∀ x ∈ st, -9223372036854775808 ≤ x ∧ x ≤ 9223372036854775807)
    (hbulk : l.length + (h.length + (ws.length + st.length)) ≤ 1048576) :
    Calls Try.prog 10 #[.agg #[.int .i64 N, .slice A l.length c], .int .i64 a, .int .i64 b, .slice Ah h.length ch, .slice Aw ws.length cw, .slice At st.length ct] w fun e w' => e = .returned (.bool true) ∧ Below w.heap.size w w' := by
  obtain ⟨i0, hi, hz0, hz1, hz2⟩ := info_parts infoInt
  have hs := hA.sl
  have hss := hAh.sl
  have hws := hAw.sl
  have hst := hAt.sl
  have hll : l.length ≤ 9223372036854775807 := Nat.le_trans hA.cap hA.max
  have hhl : h.length ≤ 9223372036854775807 := Nat.le_trans hAh.cap hAh.max
  have hwl : ws.length ≤ 9223372036854775807 := Nat.le_trans hAw.cap hAw.max
  have hstl : st.length ≤ 1048576 := by omega
  have n1 := hA.nil
  have n2 := hAh.nil
  have n3 := hAw.nil
  have n4 := hAt.nil
  clear hA hAh hAw hAt ha hb hbulk
  have KEY0 := Lib.hid (fun W g hl g1 c1 hh g2 c2 hw => two_new W g hl g1 c1 hh g2 c2 hw)
  have HK := Lib.hid (fun W hW => abox (N := N) (c := c) (W := W) hs hss hws hW)
  have HB0 := Lib.hid (Below.refl (w.heap.size + 1) (w.alloc (.cells #[.int .i64 N, .slice A l.length c] 24)))
  have HST := Lib.hid hst
  have HN4 := Lib.hid n4
  have HSTB := Lib.hid hstb
  clear hst n4 hstb
  by_cases hx : ncode N a b l h ws = 0
  · obtain ⟨hx0, hy0⟩ := ncode_zero.1 hx
    obtain ⟨hlk, hC⟩ := slook_zero.1 hx0
    obtain ⟨hg, hc, ⟨a0, a1⟩, b0, b1⟩ := DijkWay.looks_zero hlk
    obtain ⟨⟨hw1, hw8⟩, hwo⟩ := wcode_ok hy0
    have hN1 := hg.lo
    have hN2 := hg.hi
    obtain ⟨n, rfl⟩ := Int.eq_ofNat_of_zero_le (show 0 ≤ N by omega)
    obtain ⟨f, rfl⟩ := Int.eq_ofNat_of_zero_le a0
    obtain ⟨t, rfl⟩ := Int.eq_ofNat_of_zero_le b0
    have krun := fun W h1 h2 h3 => run_yes n f t A c l Ah ch h Aw cw ws W h1 n1 h2 n2 h3 n3 hx0 hy0
    have knew := fun W h1 h2 h3 => new_yes n f t A c l Ah ch h Aw cw ws W h1 n1 h2 n2 h3 n3 hx0 hy0
    have hbd := fun (s : AS) (k : Nat) (hr : Rn n t l h ws f k s) => hr.bound hC hg hc (by omega) (by omega) hw8 (fun w hw => ⟨(hwo w hw).1.1, (hwo w hw).2.2⟩)
    have KRUN := Lib.hid krun
    have KNEW := Lib.hid knew
    have HBD := Lib.hid hbd
    have HW1 := Lib.hid hw1
    clear krun knew hbd hlk hC hg hc hwo hx hx0 hy0 n1 n2 n3 hs hss hws a0 a1 b0 b1
    obtain ⟨mh, hmh⟩ : ∃ mh, h.length = mh := ⟨_, rfl⟩
    rw [hmh] at KRUN KNEW ⊢
    clear hmh
    obtain ⟨mw, hmw⟩ : ∃ mw, ws.length = mw := ⟨_, rfl⟩
    rw [hmw] at KRUN KNEW hw8 ⊢
    have HMW := Lib.hid hmw
    clear hmw hw1 hwl
    obtain ⟨ms, hms⟩ : ∃ ms, st.length = ms := ⟨_, rfl⟩
    have HMS := Lib.hid hms
    rw [hms] at hstl ⊢
    clear hms
    go_enter Try.func10, Try.ntmps10
    go_wp2_with fail
    refine (two_any _).mono ?_
    rintro e w1 ⟨g, rfl, own1, hb1⟩
    have B1 := HB0.out.trans (hb1.mono (by simp))
    have Z1 : w.heap.size + 1 ≤ w1.heap.size := by have := B1.size; simpa using this
    clear hb1
    go_wp2_with fail
    refine (one_anyA _).mono ?_
    rintro e w1b ⟨rfl, hb1⟩
    have hk1 : Below w1.heap.size w1 w1b := ((Below.refl _ _).alloc (Nat.le_refl _) (.cells #[.int .i64 0, .int .i64 0] 3)).trans (hb1.mono (by simp))
    have hk2 : Below w1b.heap.size w1b (w1b.alloc (.cells #[.int .i64 1, .int .i64 1] 66)) := (Below.refl _ _).alloc (Nat.le_refl _) _
    have sl1 := (own1.keep (hk1.trans (hk2.mono hk1.size))).sl.2
    have si1 := ((((sl_new' (sz := 1) (cell := ci) (by decide) w1 #[.int .i64 0, .int .i64 0] 3 [0, 0] rfl rfl).keep hb1 (Nat.le_refl _)).more hb1.size).keep hk2 (Nat.le_refl _)).more hk2.size
    have sr1 := sl_new' (sz := 2) (cell := cp) (by decide) w1b #[.int .i64 1, .int .i64 1] 66 [(1, 1)] rfl rfl
    have B1b := (B1.alloc Z1 (.cells #[.int .i64 0, .int .i64 0] 3)).trans (hb1.mono (by simp; omega))
    have Z1b : w.heap.size + 1 ≤ w1b.heap.size := by have := B1b.size; simpa using this
    have B1c := B1b.alloc Z1b (.cells #[.int .i64 1, .int .i64 1] 66)
    have Z1c : w.heap.size + 1 ≤ (w1b.alloc (.cells #[.int .i64 1, .int .i64 1] 66)).heap.size := by have := B1c.size; simpa using this
    clear hb1 own1 B1 Z1 hk1 hk2 B1b Z1b
    go_wp2_with fail
    refine (KEY0.out _ _ sl1 _ _ si1 _ _ sr1).mono ?_
    rintro e w2 ⟨Z2, F2, Y2, s2, rfl, htwo, hO2, hP2, sr2, hb2⟩
    have B2 := B1c.trans (hb2.mono Z1c)
    have kov := isover_any sr2.sm.am
    rw [decide_eq_false (htwo.begin_ sr2.run)] at kov
    have SR2 := Lib.hid sr2
    have HT2 := Lib.hid htwo
    have HO2 := Lib.hid hO2
    have HP2 := Lib.hid hP2
    have KOV := Lib.hid kov
    clear sl1 si1 sr1 hb2 sr2 htwo hO2 hP2 kov
    go_wp2_with fail
    refine KOV.out.mono ?_
    rintro e w2b ⟨rfl, kk, rfl⟩
    have SR2b := SR2.out.keep (below_drewN (Below.refl w2.heap.size w2) kk)
    have B2b := below_drewN B2 kk
    clear SR2 KOV B2
    generalize w2.drewN kk = w2b at SR2b B2b ⊢
    have kst := step_any HO2.out HP2.out SR2b 9 (by decide)
    have SR2c := Lib.hid SR2b
    have KST := Lib.hid kst
    clear SR2b kst
    go_wp2_with fail
    refine KST.out.mono ?_
    rintro e w3 ⟨j3, s3, Y3, rfl, sr3, fr3, _, hov3⟩
    obtain ⟨hj3, ho3⟩ := HT2.out.step (by have := sr3.run; rw [Nat.zero_add] at this; exact this) hov3
    subst hj3
    have B3 := B2b.trans ((SR2c.out.sm.am.lo fr3).mono Z1c)
    have kov := isover_any sr3.sm.am
    rw [decide_eq_true ho3] at kov
    have KOV := Lib.hid kov
    clear sr3 fr3 ho3 hov3 kov KST SR2c B2b HT2 HO2 HP2 Z1c B1c
    go_wp2_with fail
    refine KOV.out.mono ?_
    rintro e w4 ⟨rfl, kk4, rfl⟩
    have B4 := below_drewN B3 kk4
    clear KOV B3
    generalize w3.drewN kk4 = w4 at B4 ⊢
    obtain ⟨⟨q0, q1, Z4⟩, ⟨sg, sh, sw⟩, H4⟩ := HK.out _ B4
    go_wp2_with fail
    refine (KRUN.out _ sg sh sw).mono ?_
    rintro e w5 ⟨A5, k5, c5, R5, sw5, m5, rfl, hrc, hrn, hov, hb5⟩
    have hk5 : k5 = mw := by rw [← HMW.out, ← hov]; exact hrc.len.2.symm
    subst hk5
    have RC5 := Lib.hid hrc
    have HRN5 := Lib.hid hrn
    have HOV5 := Lib.hid hov
    have B5 := B4.trans (hb5.mono Z4)
    clear q0 q1 Z4 sg sh sw H4 B4 hb5 hrc hrn hov
    obtain ⟨⟨q0, q1, Z5⟩, ⟨sg, sh, sw⟩, H5⟩ := HK.out _ B5
    go_wp2_with fail
    refine (KNEW.out _ sg sh sw).mono ?_
    rintro e w6 ⟨Z, F, Y, s, rfl, hF1, hF2, hF3, hF4, hF5, hO, hP, sr, hb6⟩
    have B56 := Lib.hid hb6
    have B5H := Lib.hid B5
    have B6 := Lib.hid (B5.trans (hb6.mono Z5))
    have SR6 := Lib.hid sr
    have HOO := Lib.hid hO
    have HPP := Lib.hid hP
    have HFW : Hid (F.ws.length = k5) := Lib.hid (by rw [hF5]; exact HMW.out)
    have HRUN : Hid (∀ (kk : Nat) (s' : AS), Rn F.n F.tt F.l F.h F.ws f kk s' → Rn n t l h ws f kk s') := Lib.hid (fun kk s' hr => by rw [hF1, hF2, hF3, hF4, hF5] at hr; exact hr)
    have hb56 : w.heap.size + 1 ≤ w5.heap.size := Z5
    have hz56 := hb6.size
    clear q0 q1 Z5 sg sh sw H5 B5 hb6 hF1 hF2 hF3 hF4 hF5 hO hP sr KRUN KNEW
    have hst6 := (HST.out.keep ((HK.out _ B6.out).2.2) (Nat.le_refl _)).more (HK.out _ B6.out).2.2.size
    go_wp2_with fail
    refine (clone_w At ms ct st HMS.out HN4.out hstl w6 hst6).mono ?_
    rintro e w7 ⟨A7, c7, rfl, own7, hb7⟩
    have HB7 := Lib.hid (hb7.alloc hb7.size (.cells #[.int .i64 100000] 3))
    have HO7 := Lib.hid (own7.alloc (.cells #[.int .i64 100000] 3))
    have hz7 := HB7.out.size
    clear own7 hb7 hst6
    go_upto_region 10 with (at_builtin; go_must (refine wpList_push _ rfl (.tmp 84) (.tmp 85) _ rfl w6.heap.size 3 i0 (.int .i64 0) 1 8 ci Try.underlying34 hi hz0 hz1 hz2 rfl (by decide) _ st ms HMS.out rfl HO7.out w7.heap.size 1 (100000 : Int) rfl news1 (fun _ _ => one_ci _ _) (by omega) (by omega) hz7 ?_; intro A8 c8 w8 hown8 hgrow8 hat8; have HB8 := Lib.hid (HB7.out.grown hgrow8 hz7 (fun g e => (HO7.out.base_ g e).1)); have HO8 := Lib.hid hown8; clear hown8 hgrow8 hat8))
    have hno8 : ∀ g, ob A8 = some g → ¬ All Z F Y g := fun g e ha => by
      have h1 := (HO8.out.base_ g ((ob_ ..).trans e)).1
      have h2 := (SR6.out.sm.am.all ha).2
      omega
    have SR8 := Lib.hid (SR6.out.keep HB8.out)
    have HL8 := Lib.hid (And.intro HO8.out hno8)
    have B8 := Lib.hid (B56.out.trans (HB8.out.mono hz56))
    clear HB7 HO7 hz7 HB8 HO8 hno8 SR6 B6
    go_wp2
    go_loopw [88, 19] (fun i x wr => ∃ (j kd : Nat) (Y1 : Var) (s1 : AS), i = .int .i64 j ∧ x = .int .i64 kd ∧ j ≤ ms + 1 ∧ Hid (SR w5.heap.size wr Z F Y1 f kd s1) ∧ Hid (Own wr w6.heap.size 3 1 ci (.slice A8 (ms + 1) c8) (st ++ [100000]) ∧ ∀ g, ob A8 = some g → ¬ All Z F Y1 g) ∧ Hid (Below w5.heap.size w5 wr) ∧ Hid (j = ms + 1 → s1.rds.length = F.ws.length)) (fun i _ _ => ms + 1 - (intOf i).toNat)
    case atStart => exact ⟨0, 0, Y, s, rfl, rfl, Nat.zero_le _, SR8, HL8, B8, Lib.hid (fun h => absurd h (by omega))⟩
    case round =>
      obtain ⟨j, kd, Y1, s1, rfl, rfl, hj, HM, HL, HB, HOV⟩ := hrel
      clear SR8 HL8 B8
      have hkd := HBD.out s1 kd (HRUN.out _ _ HM.out.run)
      by_cases hlt : j < ms + 1
      · have hjl : j < (st ++ [(100000 : Int)]).length := by rw [List.length_append, HMS.out]; exact hlt
        obtain ⟨bq, oq, hA8, hbq, hcq⟩ := HL.out.1.sl.2.atI hjl
        obtain ⟨x, hx⟩ : ∃ x, (st ++ [(100000 : Int)])[j] = x := ⟨_, rfl⟩
        have hxb : x ≤ 9223372036854775807 := by
          have hm := List.getElem_mem hjl
          rw [hx] at hm
          rcases List.mem_append.1 hm with hm | hm
          · exact (HSTB.out x hm).2
          · rw [List.mem_singleton] at hm; omega
        have hlast : j + 1 = ms + 1 → x = 100000 := fun e => by
          have hjs : st.length ≤ j := by rw [HMS.out]; omega
          rw [← hx, List.getElem_append_right hjs]
          simp
        rw [hx] at hcq
        have zj : (j : Int) < (ms : Int) + 1 := by omega
        have kst := step_any HOO.out HPP.out HM.out x hxb
        have KST := Lib.hid kst
        have HLAST := Lib.hid hlast
        clear kst hlast hx hjl
        go_wp2_with fail
        refine KST.out.mono ?_
        rintro e w9 ⟨j9, s9, Y9, rfl, sr9, fr9, hj9, hov9⟩
        have hk9 := HBD.out s9 _ (HRUN.out _ _ sr9.run)
        have HL9 := Lib.hid (own_fr HL.out.1 HL.out.2 fr9)
        have HB9 := Lib.hid (HB.out.trans (HM.out.sm.am.lo fr9))
        have hov9' : j + 1 = ms + 1 → s9.rds.length = F.ws.length := fun e => hov9 (by have := HLAST.out e; omega)
        have HOV9 := Lib.hid hov9'
        have SR9 := Lib.hid sr9
        obtain ⟨hp9, hl9⟩ := SI.paths (sr9.si HOO.out HPP.out)
        have hpre := (HRUN.out _ _ sr9.run).prefix_ HRN5.out HOV5.out
        obtain ⟨k9, hk9e⟩ : ∃ k9, s9.rds.length = k9 := ⟨_, rfl⟩
        rw [hk9e] at hl9 hpre
        have kro := rounds_any sr9.sm.am hp9 (by rw [hk9e]; have := HOO.out.wl; omega)
        have KRO := Lib.hid kro
        have HPRE := Lib.hid hpre
        have HP9 := Lib.hid hp9
        have HK9 := Lib.hid hk9e
        have hl9' : k9 ≤ k5 := by rw [HFW.out] at hl9; exact hl9
        have zk9 : ¬ ((k9 : Int) > (k5 : Int)) := by omega
        have zj0 : ¬ ((j9 : Int) < 0) := by omega
        have hww : IntKind.i64.wrap ((kd : Int) + (j9 : Int)) = ((kd + j9 : Nat) : Int) := by rw [IntWalk.i64_in _ (by omega)]; omega
        have hck : k5 ≤ c5 := by
          obtain ⟨A', c', hv, hc', _⟩ := RC5.out.own.form
          injection hv with _ h2 h3
          omega
        have zck : (k9 : Int) ≤ (c5 : Int) := by omega
        have hnum : ∀ y : Int, (0 : Int) = 0 := fun _ => rfl
        clear hl9 hpre hkd hk9 hck hnum hov9 hov9' sr9 fr9 hp9 kro hk9e KST hA8 hbq hcq
        have hcase : (x > 0 ∧ ¬ (j9 : Int) > x) ∨ (¬ x > 0 ∧ x ≤ 0 ∧ j9 = 0) := by omega
        have HJ := Lib.hid hj9
        clear hj9
        go_upto_region 13 with fail
        go_cut [113] from 95 to 114 (fun s113 wx => s113 = .bool false ∧ wx = w9)
        case first =>
          rcases hcase with ⟨g1, g2⟩ | ⟨g1, g2, g3⟩
          · have g4 : ¬ x ≤ 0 := by omega
            go_wp2_with fail
            go_meet
            exact ⟨by rw [decide_eq_false (show ¬ (j9 : Int) < 0 by omega), decide_eq_false (show ¬ x < (j9 : Int) by omega)]; rfl, rfl⟩
          · subst g3
            go_wp2_with fail
            go_meet
            exact ⟨rfl, rfl⟩
        case rest =>
          obtain ⟨rfl, rfl⟩ := hcut
          clear hcase
          go_wp2_with fail
          refine KRO.out.mono ?_
          rintro e w10 ⟨A10, k10, c10, R10, rfl, rc10, hb10⟩
          have hk10 : k9 = k10 := by rw [← HK9.out]; exact rc10.len.2
          subst hk10
          have hb59 := HB9.out.trans (hb10.mono HB9.out.size)
          have hrr : ∀ x ∈ R10, x.k ≤ 64 := fun y hy => by
            have h1 := (rc10.ways y hy).sl.1
            have h2 := HP9.out y.rnd (by rw [← rc10.rnd]; exact List.mem_map_of_mem hy)
            have h3 : y.path.length ≤ 64 := h2
            omega
          have heq : R10.map RE.rnd = (R5.take k9).map RE.rnd := by
            rw [rc10.rnd, List.map_take, RC5.out.rnd]
            exact HPRE.out.2
          have keq := same_rounds A10 A5 k9 c10 c5 R10 (R5.take k9) w10 rc10.rd (((RC5.out.keep hb59).rd).take hl9') hrr (by omega) heq
          have KEQ := Lib.hid keq
          have SR10 := Lib.hid (SR9.out.keep hb10)
          have HL10 := Lib.hid (And.intro (HL9.out.1.keep hb10) HL9.out.2)
          have HB10 := Lib.hid hb59
          clear hb59 hrr heq keq rc10 hb10 KRO SR9 HL9 HB9 HPRE HP9 HK9
          go_wp2_with fail
          refine KEQ.out.mono ?_
          rintro e w11 ⟨rfl, hb11⟩
          have SR11 := Lib.hid (SR10.out.keep hb11)
          have HL11 := Lib.hid (And.intro (HL10.out.1.keep hb11) HL10.out.2)
          have HB11 := Lib.hid (HB10.out.trans (hb11.mono HB10.out.size))
          clear hb11 KEQ SR10 HL10 HB10
          go_wp2
          go_roundw
          case rel => exact ⟨j + 1, kd + j9, Y9, s9, by go_num, by go_num, hlt, SR11, HL11, HB11, HOV9⟩
          case measure => simp [intOf]; omega
      · obtain rfl : j = ms + 1 := by omega
        have hov := HOV.out rfl
        have hone := (HRUN.out _ _ HM.out.run).one HRN5.out (by rw [hov, HFW.out]; exact HMW.out.symm) HOV5.out
        obtain ⟨hkm, hss⟩ := hone
        have hld := HRN5.out.lastD HW1.out HOV5.out
        obtain ⟨mk, rfl⟩ : ∃ mk, k5 = mk + 1 := ⟨k5 - 1, by have := HW1.out; have := HMW.out; omega⟩
        obtain ⟨r, hr1, hr2⟩ := last_done (rs := sw5.rds) (m := mk) (by rw [HOV5.out]; exact HMW.out)
        have hrc := RC5.out.keep HB.out
        obtain ⟨x, S5, _, _, hxr, hA5, _, hS5, ⟨_, _, _, _, x4⟩, _⟩ := hrc.at_ (j := mk) (Nat.lt_succ_self mk)
        have hdn : x.done = (kd : Int) := by
          rw [hr1] at hxr
          injection hxr with hxr
          have h1 : x.done = r.done := by rw [hxr]; rfl
          rw [h1, ← hr2, hkm]
          exact hld
        rw [hdn] at x4
        have kov := isover_any HM.out.sm.am
        rw [decide_eq_true hov] at kov
        obtain ⟨hp9, hl9⟩ := SI.paths (HM.out.si HOO.out HPP.out)
        have kro := fun (W : World) (hW : Below wr.heap.size wr W) => rounds_any (HM.out.sm.am.keep hW) hp9 (by have := HOO.out.wl; omega)
        have hlen9 : s1.rds.length = mk + 1 := by rw [hov]; exact HFW.out
        have KOV := Lib.hid kov
        have KRO := Lib.hid kro
        have HLEN9 := Lib.hid hlen9
        have zj : ¬ ((ms : Int) + 1 < (ms : Int) + 1) := by omega
        have zmk : (mk : Int) + 1 > 0 := by omega
        have hwm : IntKind.i64.wrap (mk : Int) = mk := IntWalk.i64_in _ (by omega)
        have hfinb := fun (W : World) (hW : Below wr.heap.size wr W) => (HK.out _ (B5H.out.trans ((HB.out.trans (hW.mono HB.out.size)).mono hb56))).2.2
        have HFB := Lib.hid hfinb
        have hcx := fun (W : World) (hW : Below wr.heap.size wr W) => below_cells hW hS5 x4
        have HCX := Lib.hid hcx
        clear kov kro hp9 hl9 hlen9 hfinb hcx hdn hxr hr1 hr2 hld hss hov hrc x4 hkm hkd
        go_wp2_with fail
        refine KOV.out.mono ?_
        rintro e w12 ⟨rfl, kk, rfl⟩
        have hb12 := below_drewN (Below.refl wr.heap.size wr) kk
        have KR2 := Lib.hid (KRO.out _ hb12)
        have HB12 := Lib.hid hb12
        clear KOV KRO hb12
        go_wp2_with fail
        refine KR2.out.mono ?_
        rintro e w13 ⟨A13, k13, c13, R13, rfl, rc13, hb13⟩
        have hk13 : k13 = mk + 1 := by rw [← HLEN9.out]; exact rc13.len.2.symm
        subst hk13
        have hb := HB12.out.trans (hb13.mono HB12.out.size)
        have x4 := HCX.out _ hb
        have hS5' : S5 < w13.heap.size := Nat.lt_of_lt_of_le hS5 hb.size
        have hfin := HFB.out _ hb
        have HFIN := Lib.hid hfin
        clear hb rc13 hb13 KR2 HB12 HCX HFB hfin hS5
        go_wp2
        go_ret
        exact ⟨by simp, HFIN.out⟩
  · have krun := fun W h1 h2 h3 => run_no N a b A c l Ah ch h Aw cw ws W h1 h2 h3 hll hhl hwl hx
    have knew := fun W h1 h2 h3 => new_no N a b A c l Ah ch h Aw cw ws W h1 h2 h3 hll hhl hwl hx
    have hne : (ncode N a b l h ws != 0) = true := by rw [bne_iff_ne]; exact hx
    generalize ncode N a b l h ws = z at *
    have KRUN := Lib.hid krun
    have KNEW := Lib.hid knew
    clear krun knew hx hs hss hws n1 n2 n3
    generalize h.length = mh at *
    generalize ws.length = mw at *
    generalize l.length = ml at *
    generalize st.length = ms at *
    go_enter Try.func10, Try.ntmps10
    go_wp2_with fail
    refine (two_any _).mono ?_
    rintro e w1 ⟨g, rfl, own1, hb1⟩
    have B1 := HB0.out.trans (hb1.mono (by simp))
    have Z1 : w.heap.size + 1 ≤ w1.heap.size := by have := B1.size; simpa using this
    clear hb1
    go_wp2_with fail
    refine (one_anyA _).mono ?_
    rintro e w1b ⟨rfl, hb1⟩
    have hk1 : Below w1.heap.size w1 w1b := ((Below.refl _ _).alloc (Nat.le_refl _) (.cells #[.int .i64 0, .int .i64 0] 3)).trans (hb1.mono (by simp))
    have hk2 : Below w1b.heap.size w1b (w1b.alloc (.cells #[.int .i64 1, .int .i64 1] 66)) := (Below.refl _ _).alloc (Nat.le_refl _) _
    have sl1 := (own1.keep (hk1.trans (hk2.mono hk1.size))).sl.2
    have si1 := ((((sl_new' (sz := 1) (cell := ci) (by decide) w1 #[.int .i64 0, .int .i64 0] 3 [0, 0] rfl rfl).keep hb1 (Nat.le_refl _)).more hb1.size).keep hk2 (Nat.le_refl _)).more hk2.size
    have sr1 := sl_new' (sz := 2) (cell := cp) (by decide) w1b #[.int .i64 1, .int .i64 1] 66 [(1, 1)] rfl rfl
    have B1b := (B1.alloc Z1 (.cells #[.int .i64 0, .int .i64 0] 3)).trans (hb1.mono (by simp; omega))
    have Z1b : w.heap.size + 1 ≤ w1b.heap.size := by have := B1b.size; simpa using this
    have B1c := B1b.alloc Z1b (.cells #[.int .i64 1, .int .i64 1] 66)
    have Z1c : w.heap.size + 1 ≤ (w1b.alloc (.cells #[.int .i64 1, .int .i64 1] 66)).heap.size := by have := B1c.size; simpa using this
    clear hb1 own1 B1 Z1 hk1 hk2 B1b Z1b
    go_wp2_with fail
    refine (KEY0.out _ _ sl1 _ _ si1 _ _ sr1).mono ?_
    rintro e w2 ⟨Z2, F2, Y2, s2, rfl, htwo, hO2, hP2, sr2, hb2⟩
    have B2 := B1c.trans (hb2.mono Z1c)
    have kov := isover_any sr2.sm.am
    rw [decide_eq_false (htwo.begin_ sr2.run)] at kov
    have SR2 := Lib.hid sr2
    have HT2 := Lib.hid htwo
    have HO2 := Lib.hid hO2
    have HP2 := Lib.hid hP2
    have KOV := Lib.hid kov
    clear sl1 si1 sr1 hb2 sr2 htwo hO2 hP2 kov
    go_wp2_with fail
    refine KOV.out.mono ?_
    rintro e w2b ⟨rfl, kk, rfl⟩
    have SR2b := SR2.out.keep (below_drewN (Below.refl w2.heap.size w2) kk)
    have B2b := below_drewN B2 kk
    clear SR2 KOV B2
    generalize w2.drewN kk = w2b at SR2b B2b ⊢
    have kst := step_any HO2.out HP2.out SR2b 9 (by decide)
    have SR2c := Lib.hid SR2b
    have KST := Lib.hid kst
    clear SR2b kst
    go_wp2_with fail
    refine KST.out.mono ?_
    rintro e w3 ⟨j3, s3, Y3, rfl, sr3, fr3, _, hov3⟩
    obtain ⟨hj3, ho3⟩ := HT2.out.step (by have := sr3.run; rw [Nat.zero_add] at this; exact this) hov3
    subst hj3
    have B3 := B2b.trans ((SR2c.out.sm.am.lo fr3).mono Z1c)
    have kov := isover_any sr3.sm.am
    rw [decide_eq_true ho3] at kov
    have KOV := Lib.hid kov
    clear sr3 fr3 ho3 hov3 kov KST SR2c B2b HT2 HO2 HP2 Z1c B1c
    go_wp2_with fail
    refine KOV.out.mono ?_
    rintro e w4 ⟨rfl, kk4, rfl⟩
    have B4 := below_drewN B3 kk4
    clear KOV B3
    generalize w3.drewN kk4 = w4 at B4 ⊢
    obtain ⟨⟨q0, q1, Z4⟩, ⟨sg, sh, sw⟩, H4⟩ := HK.out _ B4
    go_wp2_with fail
    refine (KRUN.out _ sg sh sw).mono ?_
    rintro e w5 ⟨rfl, hb5⟩
    have B5 := B4.trans (hb5.mono Z4)
    clear q0 q1 Z4 sg sh sw H4 B4 hb5
    obtain ⟨⟨q0, q1, Z5⟩, ⟨sg, sh, sw⟩, H5⟩ := HK.out _ B5
    go_wp2_with fail
    refine (KNEW.out _ sg sh sw).mono ?_
    rintro e w6 ⟨rfl, hb6⟩
    have hfin := (HK.out _ (B5.trans (hb6.mono Z5))).2.2
    have HFIN := Lib.hid hfin
    clear q0 q1 Z5 sg sh sw H5 B5 hb6 hfin
    go_wp2
    go_ret
    exact ⟨rfl, HFIN.out⟩

theorem own : ownKnob Try.prog.godebug = none := by kernel_rfl
theorem laidOut : laidOutB Try.prog = true := by kernel_rfl

set_option maxRecDepth 100000 in
theorem contract (H : Type) (enc : TypeId × Value → H) (W : World) (base : Nat) (args : Array Value) (ds gs : List (DataW H)) (before : List MemPlace)
    (hval0 : ∀ (j : Nat) t v, Try.f10.params[j]? = some t → args[j]? = some v → Value.okWide Try.prog W .any base t v)
    (hW : DataW.Whole enc Try.prog Try.f10.params.toList Rows.araSlicesSpec.vars false W args.toList ds gs before) (hk : Rows.uptoSmall H (ds ++ gs) = true) :
    Calls Try.prog 10 args W fun e W' => ∃ v, e = .returned v ∧ Rows.araSlicesSpec.post enc Try.prog Try.f10 false true false false W args v W' := by
  have hval : ∀ (j : Nat) t v, Try.f10.params[j]? = some t → args[j]? = some v → Value.okWide Try.prog W .any base t v := hval0
  have hW' := hW
  obtain ⟨p, q, hA0, hV, rfl, hfz, hnd⟩ := hW
  have hA : DataW.TrodAll enc Try.prog W 0 (fun _ => true) true Try.f10.params.toList args.toList ds p := hA0
  rw [Try.params10] at hA hval
  obtain ⟨v0, vs0, d0, ds0, p0, q0, hargs, rfl, rfl, h0, r0⟩ := trodAll_cons hA
  obtain ⟨v1, vs1, d1, ds1, p1, q1, rfl, rfl, rfl, h1, r1⟩ := trodAll_cons r0
  obtain ⟨v2, vs2, d2, ds2, p2, q2, rfl, rfl, rfl, h2, r2⟩ := trodAll_cons r1
  obtain ⟨v3, vs3, d3, ds3, p3, q3, rfl, rfl, rfl, h3, r3⟩ := trodAll_cons r2
  obtain ⟨v4, vs4, d4, ds4, p4, q4, rfl, rfl, rfl, h4, r4⟩ := trodAll_cons r3
  obtain ⟨v5, vs5, d5, ds5, p5, q5, rfl, rfl, rfl, h5, r5⟩ := trodAll_cons r4
  obtain ⟨rfl, rfl, rfl⟩ := trodAll_nil r5
  obtain rfl : args = #[v0, v1, v2, v3, v4, v5] := by cases args; simp_all
  obtain ⟨rfl, rfl⟩ := trodVars_none hV
  obtain ⟨N0, A0, c0, l0, dd0, rfl, hN0, hG0, hb0, rfl, hd0⟩ := open_net Try.underlying24 (by kernel_rfl) (by kernel_rfl) Try.underlying3 Try.underlying22 Try.underlying27 (by kernel_rfl) (by kernel_rfl) Try.underlying3 Try.underlying3 Try.underlying3 (hval 0 24 v0 rfl rfl) h0
  obtain ⟨a1, rfl, rfl, rfl, wa1⟩ := open_int Try.underlying3 (hval 1 3 v1 rfl rfl) h1
  obtain ⟨a2, rfl, rfl, rfl, wa2⟩ := open_int Try.underlying3 (hval 2 3 v2 rfl rfl) h2
  obtain ⟨A3, c3, l3, rfl, hG3, hd3, hb3⟩ := open_sl1 Try.underlying34 Try.underlying3 (by kernel_rfl) (hval 3 34 v3 rfl rfl) h3
  obtain ⟨A4, c4, l4, rfl, hG4, hd4, hb4⟩ := open_sl2 Try.underlying61 Try.underlying66 (by kernel_rfl) (by kernel_rfl) Try.underlying3 Try.underlying3 (hval 4 61 v4 rfl rfl) h4
  obtain ⟨A5, c5, l5, rfl, hG5, hd5, hb5⟩ := open_sl1 Try.underlying34 Try.underlying3 (by kernel_rfl) (hval 5 34 v5 rfl rfl) h5
  have hbulk := bulk_bound hk
  simp only [List.cons_append, List.nil_append, List.append_nil, Rows.uptoBulkAll] at hbulk
  have hq0 := bulk_agg2 (x := .lit (.int .i64 N0)) hd0
  have hq1 := bulk_len hd3
  have hq2 := bulk_len hd4
  have hq3 := bulk_len hd5
  refine (walk W N0 A0 c0 l0 hG0 a1 (wf_bd wa1) a2 (wf_bd wa2) A3 c3 l3 hG3 A4 c4 l4 hG4 A5 c5 l5 hG5 hb5 (by omega)).mono fun e W' ⟨he, hB⟩ => ?_
  subst he
  exact ⟨_, rfl, post_of_law laidOut rfl Try.underlying4 rfl (by intro t ht; rw [Try.params10] at ht; simp at ht; rcases ht with rfl | rfl | rfl | rfl | rfl | rfl <;> exact ⟨by kernel_rfl, of_decide_eq_true (by kernel_rfl)⟩) hW' rfl hB⟩

set_option maxRecDepth 100000 in
theorem lifted (os : Os) (started : os.Started) (H : Type) (enc : TypeId × Value → H) (F : Stop.Interp) :
    ReturnsInHanded {} Try.checked os 10 .any ((Rows.OpenSpec.upto Rows.araSlicesSpec).pre6 enc Try.prog Try.f10 Rows.araSlicesUptoRow.domain false) (((Rows.OpenSpec.upto Rows.araSlicesSpec).at F).post enc Try.prog Try.f10 false true false false) := by
  refine returnsInHanded_of_cond (C := Try.checked) (s := Rows.OpenSpec.upto Rows.araSlicesSpec) (k := Rows.uptoSmall) rfl own started (by kernel_rfl) Try.func10
    (OpenSpec.witness (enc := enc) (C := Try.checked) (s := Rows.OpenSpec.upto Rows.araSlicesSpec) (k := Rows.uptoSmall) rfl false ⟨#[], #[.agg #[.int .i64 0, .slice none 0 0], .int .i64 0, .int .i64 0, .slice none 0 0, .slice none 0 0, .slice none 0 0], []⟩ 8 (by kernel_rfl) (by kernel_rfl) (by kernel_rfl)
      (x := ([.agg [.lit (.int .i64 0), .nil], .lit (.int .i64 0), .lit (.int .i64 0), .nil, .nil, .nil], [], [])) (by kernel_rfl) rfl (by kernel_rfl)) ?_
  intro W base args ds gs before hval hW _ hk _
  exact contract H enc W base args ds gs before hval hW hk

theorem holds : Rows.AraSlicesUptoSaid :=
  OpenClaim.holds_of_cond 10 Try.f10 rfl rfl rfl rfl rfl rfl rfl ⟨rfl, rfl, rfl, rfl, rfl⟩ rfl rfl rfl rfl rfl (by kernel_rfl) Try.func10 (by kernel_rfl)
    (of_decide_eq_true (by kernel_rfl)) (by unfold Func.isWrapper; first | (rw [if_pos (by decide +kernel)]; kernel_rfl) | (rw [if_neg (by decide +kernel)]; exact ⟨rfl, rfl⟩))
    (fun os started H enc _ F => lifted os started H enc F)
#print axioms holds
end Go.Proofs.Ytamphgcpfncenaa.AraSlicesLaw
