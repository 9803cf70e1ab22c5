/- For every net, two places, list of guesses and list of weights: AraOnce answers true (in a round each place is looked from once at most), and the arguments read as before. No condition. -/
import Derived.Test.YtamphgcpfncenaaRows
import Derived.Test.YtamphgcpfncenaaVAraUse
import Derived.Test.YtamphgcpfncenaaVDijkTwo
import Derived.IntWalk
namespace Go.Proofs.Ytamphgcpfncenaa.AraOnceLaw
open Go.ChangeShapes Go.WideShapes Go.ChangeAt Go.RowKit Go.Proofs.Ytamphgcpfncenaa NetLaw BellLaw StarLaw AraLaw Go.Proofs.Ytamphgcpfncenaa.Net Go.Proofs.Ytamphgcpfncenaa.Std Go.Proofs.Ytamphgcpfncenaa.Flow Go.Proofs.Ytamphgcpfncenaa.Refs Go.Proofs.Ytamphgcpfncenaa.Ara Go.Proofs.Ytamphgcpfncenaa.StarF
set_option linter.unusedSimpArgs false
set_option linter.unusedVariables false
/-- the steps until the round ahead -/
def la (rs : List Rnd) (j : Nat) : Int := if j = 0 then 0 else match rs[j - 1]? with | some r => r.done | none => 0
theorem done_at {N : Nat} : ∀ (rs : List Rnd) (a : Int), DoneOk N a rs → ∀ j r, rs[j]? = some r → (if j = 0 then a else la rs j) ≤ r.done ∧ r.done ≤ (if j = 0 then a else la rs j) + N := by
  intro rs
  induction rs with
  | nil => intro a _ j r hj; cases hj
  | cons x rs ih =>
    intro a h j r hj
    obtain ⟨h1, h2, h3⟩ := h
    cases j with
    | zero => injection hj with hj; subst hj; exact ⟨h1, h2⟩
    | succ j =>
      have hj' : rs[j]? = some r := by simpa using hj
      have k := ih _ h3 j r hj'
      rw [if_neg (Nat.succ_ne_zero j)]
      have e : la (x :: rs) (j + 1) = if j = 0 then x.done else la rs j := by
        unfold la
        rw [if_neg (Nat.succ_ne_zero j), Nat.add_sub_cancel]
        cases j with
        | zero => rfl
        | succ j => rw [if_neg (Nat.succ_ne_zero j), if_neg (Nat.succ_ne_zero j), Nat.add_sub_cancel]; simp
      rw [e]
      exact k
theorem la_step {rs : List Rnd} {j : Nat} {r : Rnd} (h : rs[j]? = some r) : la rs (j + 1) = r.done := by
  unfold la
  rw [if_neg (Nat.succ_ne_zero j), Nat.add_sub_cancel, h]
set_option maxRecDepth 100000 in
set_option maxHeartbeats 4000000 in
theorem walk (w : World) (N : Int) (A : Option Addr) (c : Nat) (l : List E) (hA : Arg w 3 ce A c l) (a : Int) (ha : -9223372036854775808 ≤ a ∧ a ≤ 9223372036854775807) (b : Int) (hb : -9223372036854775808 ≤ b ∧ b ≤ 9223372036854775807) (Ah : Option Addr) (ch : Nat) (h : List Int) (hAh : Arg w 1 ci Ah ch h) (Aw : Option Addr) (cw : Nat) (ws : List (Int × Int)) (hAw : Arg w 2 cp Aw cw ws) :
    Calls Try.prog 7 #[.agg #[.int .i64 N, .slice A l.length c], .int .i64 a, .int .i64 b, .slice Ah h.length ch, .slice Aw ws.length cw] w fun e w' => e = .returned (.bool true) ∧ Below w.heap.size w w' := by
  have hs := hA.sl
  have hss := hAh.sl
  have hws := hAw.sl
  have hll : l.length ≤ 9223372036854775807 := Nat.le_trans hA.cap hA.max
  have hhl : h.length ≤ 9223372036854775807 := Nat.le_trans hAh.cap hAh.max
  have hwl : ws.length ≤ 9223372036854775807 := Nat.le_trans hAw.cap hAw.max
  have n1 := hA.nil
  have n2 := hAh.nil
  have n3 := hAw.nil
  clear hA hAh hAw ha hb
  have KEY0 := Lib.hid (fun W g hl g1 c1 hh g2 c2 hw => two_run 1 (by decide) W g hl g1 c1 hh g2 c2 hw)
  have HK := Lib.hid (fun W hW => abox (N := N) (c := c) (W := W) hs hss hws hW)
  have HB0 := Lib.hid (Below.refl (w.heap.size + 1) (w.alloc (.cells #[.int .i64 N, .slice A l.length c] 24)))
  by_cases hx : ncode N a b l h ws = 0
  · obtain ⟨hx0, hy0⟩ := ncode_zero.1 hx
    obtain ⟨hlk, hC⟩ := slook_zero.1 hx0
    obtain ⟨hg, hc, ⟨a0, a1⟩, b0, b1⟩ := DijkWay.looks_zero hlk
    obtain ⟨⟨hw1, hw8⟩, hwo⟩ := wcode_ok hy0
    have hN1 := hg.lo
    have hN2 := hg.hi
    obtain ⟨n, rfl⟩ := Int.eq_ofNat_of_zero_le (show 0 ≤ N by omega)
    obtain ⟨f, rfl⟩ := Int.eq_ofNat_of_zero_le a0
    obtain ⟨t, rfl⟩ := Int.eq_ofNat_of_zero_le b0
    have krun := fun W h1 h2 h3 => run_yes n f t A c l Ah ch h Aw cw ws W h1 n1 h2 n2 h3 n3 hx0 hy0
    have hdone := fun (s : AS) (k : Nat) (hr : Rn n t l h ws f k s) => hr.si hC hg hc (by omega) (by omega) hw8 (fun w hw => ⟨(hwo w hw).1.1, (hwo w hw).2.2⟩)
    have KRUN := Lib.hid krun
    have HDONE := Lib.hid hdone
    clear krun hdone hlk hC hg hc hwo hx hx0 hy0 n1 n2 n3 hs hss hws a0 a1 b0 b1
    obtain ⟨mh, hmh⟩ : ∃ mh, h.length = mh := ⟨_, rfl⟩
    rw [hmh] at KRUN ⊢
    clear hmh
    obtain ⟨mw, hmw⟩ : ∃ mw, ws.length = mw := ⟨_, rfl⟩
    rw [hmw] at KRUN hw8 ⊢
    have HMW := Lib.hid hmw
    clear hmw hw1
    go_enter Try.func7, Try.ntmps7
    go_wp2_with fail
    refine (two_any _).mono ?_
    rintro e w1 ⟨g, rfl, own1, hb1⟩
    have B1 := HB0.out.trans (hb1.mono (by simp))
    have Z1 : w.heap.size + 1 ≤ w1.heap.size := by have := B1.size; simpa using this
    clear hb1
    go_wp2_with fail
    refine (one_anyA _).mono ?_
    rintro e w1b ⟨rfl, hb1⟩
    have hk1 : Below w1.heap.size w1 w1b := ((Below.refl _ _).alloc (Nat.le_refl _) (.cells #[.int .i64 0, .int .i64 0] 3)).trans (hb1.mono (by simp))
    have hk2 : Below w1b.heap.size w1b (w1b.alloc (.cells #[.int .i64 1, .int .i64 1] 66)) := (Below.refl _ _).alloc (Nat.le_refl _) _
    have sl1 := (own1.keep (hk1.trans (hk2.mono hk1.size))).sl.2
    have si1 := ((((sl_new' (sz := 1) (cell := ci) (by decide) w1 #[.int .i64 0, .int .i64 0] 3 [0, 0] rfl rfl).keep hb1 (Nat.le_refl _)).more hb1.size).keep hk2 (Nat.le_refl _)).more hk2.size
    have sr1 := sl_new' (sz := 2) (cell := cp) (by decide) w1b #[.int .i64 1, .int .i64 1] 66 [(1, 1)] rfl rfl
    have B1b := (B1.alloc Z1 (.cells #[.int .i64 0, .int .i64 0] 3)).trans (hb1.mono (by simp; omega))
    have Z1b : w.heap.size + 1 ≤ w1b.heap.size := by have := B1b.size; simpa using this
    have B1c := B1b.alloc Z1b (.cells #[.int .i64 1, .int .i64 1] 66)
    have Z1c : w.heap.size + 1 ≤ (w1b.alloc (.cells #[.int .i64 1, .int .i64 1] 66)).heap.size := by have := B1c.size; simpa using this
    clear hb1 own1 B1 Z1 hk1 hk2 B1b Z1b
    go_wp2_with fail
    refine (KEY0.out _ _ sl1 _ _ si1 _ _ sr1).mono ?_
    rintro e w2 ⟨S2, c2, rfl, l2, d3, d4, hb2⟩
    have B2 := B1c.trans (hb2.mono Z1c)
    clear sl1 si1 sr1 B1c Z1c hb2
    obtain ⟨⟨q0, q1, Z2⟩, ⟨sg, sh, sw⟩, H2⟩ := HK.out _ B2
    go_wp2_with fail
    refine (KRUN.out _ sg sh sw).mono ?_
    rintro e w3 ⟨A3, k, c3, R, s, kk, rfl, hrc, hrn, hov, hb3⟩
    have hkw : k = mw := by rw [← HMW.out, ← hov]; exact hrc.len.2.symm
    subst hkw
    obtain ⟨V, hI, _, hR⟩ := HDONE.out s kk hrn
    have hd := done_at s.rds 0 hR.dns
    have HD := Lib.hid hd
    have RC3 := Lib.hid hrc
    have B3 := Lib.hid (B2.trans (hb3.mono Z2))
    have BR3 := Lib.hid (Below.refl w3.heap.size w3)
    have hz3 : w.heap.size < w3.heap.size := by have := hb3.size; omega
    clear q0 q1 Z2 sg sh sw H2 B2 hb3 hrc hrn hov hI hR hd d3 d4 l2
    go_wp2
    go_loopw [56, 15] (fun i x wr => ∃ j : Nat, i = .int .i64 j ∧ j ≤ k ∧ x = .int .i64 (la s.rds j) ∧ (0 ≤ la s.rds j ∧ la s.rds j ≤ 64 * j) ∧ Hid (Below w3.heap.size w3 wr)) (fun i _ _ => k - (intOf i).toNat)
    case atStart => exact ⟨0, rfl, Nat.zero_le _, rfl, by simp [la], BR3⟩
    case round =>
      obtain ⟨j, rfl, hj, rfl, hla, HB⟩ := hrel
      have zk0 := HB.out.size
      by_cases hlt : j < k
      · obtain ⟨x, S, _, _, hx, hAS, _, hS, ⟨c0, c1, c2, c3', c4⟩, _⟩ := ((RC3.out.keep HB.out).at_ hlt)
        have hdj := HD.out j x.rnd hx
        have hst := la_step hx
        have hl0 : (if j = 0 then (0 : Int) else la s.rds j) = la s.rds j := by
          split
          · rename_i e; subst e; simp [la]
          · rfl
        rw [hl0] at hdj
        have hdone : x.rnd.done = x.done := rfl
        rw [hdone] at hdj hst
        have HST := Lib.hid hst
        have HDJ := Lib.hid hdj
        obtain ⟨⟨q0, q1, Z2⟩, _, _⟩ := HK.out _ (B3.out.trans (HB.out.mono (by omega)))
        have zj : (j : Int) < (k : Int) := by omega
        clear hx hl0 hdone hst
        obtain ⟨dn, hdn⟩ : ∃ dn, x.done = dn := ⟨_, rfl⟩
        rw [hdn] at hdj c4
        generalize la s.rds j = ll at *
        have t1 : ¬ dn < ll := by omega
        have t2 : ¬ dn > ll + (n : Int) := by omega
        have t3 : IntKind.i64.wrap (ll + (n : Int)) = ll + (n : Int) := IntWalk.i64_in _ (by omega)
        have HDN := Lib.hid hdn
        have HRG : Hid (0 ≤ dn ∧ dn ≤ 64 * ((j + 1 : Nat) : Int)) := Lib.hid (by omega)
        have hb4 := Lib.hid (HB.out.alloc zk0 (.cells #[.int .i64 x.num, .int .i64 x.den, .slice x.A x.k x.c, .int .i64 x.cost, .int .i64 dn] 69))
        clear hdn hdj hla
        have zw : w.heap.size < wr.heap.size := Z2
        go_wp2
        go_roundw
        case rel => exact ⟨j + 1, by go_num, hlt, by rw [HST.out, HDN.out], by rw [HST.out, HDN.out]; exact HRG.out, hb4⟩
        case measure => simp [intOf]; omega
      · have hjk : j = k := by omega
        have zj : ¬ ((j : Int) < (k : Int)) := by omega
        have hfin := ((HK.out _ (B3.out.trans (HB.out.mono (by omega)))).2.2)
        have HFIN := Lib.hid hfin
        clear hfin hjk
        go_wp2
        go_ret
        exact ⟨rfl, HFIN.out⟩
  · have krun := fun W h1 h2 h3 => run_no N a b A c l Ah ch h Aw cw ws W h1 h2 h3 hll hhl hwl hx
    have hne : (ncode N a b l h ws != 0) = true := by rw [bne_iff_ne]; exact hx
    generalize ncode N a b l h ws = z at *
    have KRUN := Lib.hid krun
    clear krun hx hs hss hws n1 n2 n3
    generalize h.length = mh at *
    generalize ws.length = mw at *
    generalize l.length = ml at *
    go_enter Try.func7, Try.ntmps7
    go_wp2_with fail
    refine (two_any _).mono ?_
    rintro e w1 ⟨g, rfl, own1, hb1⟩
    have B1 := HB0.out.trans (hb1.mono (by simp))
    have Z1 : w.heap.size + 1 ≤ w1.heap.size := by have := B1.size; simpa using this
    clear hb1
    go_wp2_with fail
    refine (one_anyA _).mono ?_
    rintro e w1b ⟨rfl, hb1⟩
    have hk1 : Below w1.heap.size w1 w1b := ((Below.refl _ _).alloc (Nat.le_refl _) (.cells #[.int .i64 0, .int .i64 0] 3)).trans (hb1.mono (by simp))
    have hk2 : Below w1b.heap.size w1b (w1b.alloc (.cells #[.int .i64 1, .int .i64 1] 66)) := (Below.refl _ _).alloc (Nat.le_refl _) _
    have sl1 := (own1.keep (hk1.trans (hk2.mono hk1.size))).sl.2
    have si1 := ((((sl_new' (sz := 1) (cell := ci) (by decide) w1 #[.int .i64 0, .int .i64 0] 3 [0, 0] rfl rfl).keep hb1 (Nat.le_refl _)).more hb1.size).keep hk2 (Nat.le_refl _)).more hk2.size
    have sr1 := sl_new' (sz := 2) (cell := cp) (by decide) w1b #[.int .i64 1, .int .i64 1] 66 [(1, 1)] rfl rfl
    have B1b := (B1.alloc Z1 (.cells #[.int .i64 0, .int .i64 0] 3)).trans (hb1.mono (by simp; omega))
    have Z1b : w.heap.size + 1 ≤ w1b.heap.size := by have := B1b.size; simpa using this
    have B1c := B1b.alloc Z1b (.cells #[.int .i64 1, .int .i64 1] 66)
    have Z1c : w.heap.size + 1 ≤ (w1b.alloc (.cells #[.int .i64 1, .int .i64 1] 66)).heap.size := by have := B1c.size; simpa using this
    clear hb1 own1 B1 Z1 hk1 hk2 B1b Z1b
    go_wp2_with fail
    refine (KEY0.out _ _ sl1 _ _ si1 _ _ sr1).mono ?_
    rintro e w2 ⟨S2, c2, rfl, l2, d3, d4, hb2⟩
    have B2 := B1c.trans (hb2.mono Z1c)
    clear sl1 si1 sr1 B1c Z1c hb2
    obtain ⟨⟨q0, q1, Z2⟩, ⟨sg, sh, sw⟩, H2⟩ := HK.out _ B2
    go_wp2_with fail
    refine (KRUN.out _ sg sh sw).mono ?_
    rintro e w3 ⟨rfl, hb3⟩
    have hfin := (HK.out _ (B2.trans (hb3.mono Z2))).2.2
    have HFIN := Lib.hid hfin
    clear q0 q1 Z2 sg sh sw H2 B2 hb3 hfin
    go_wp2
    go_ret
    exact ⟨rfl, HFIN.out⟩

theorem own : ownKnob Try.prog.godebug = none := by kernel_rfl
theorem laidOut : laidOutB Try.prog = true := by kernel_rfl

set_option maxRecDepth 100000 in
theorem lifted (os : Os) (started : os.Started) (H : Type) (enc : TypeId × Value → H) :
    ReturnsInHanded {} Try.checked os 7 .any (Rows.araOnceSpec.pre6 enc Try.prog Try.f7 Rows.araOnceRow.domain false) (Rows.araOnceSpec.post enc Try.prog Try.f7 false true false false) := by
  refine returnsInHanded_of_change (C := Try.checked) own started (by kernel_rfl) Try.func7
    (ChangeSpec.witness6 (enc := enc) (C := Try.checked) false ⟨#[], #[.agg #[.int .i64 0, .slice none 0 0], .int .i64 0, .int .i64 0, .slice none 0 0, .slice none 0 0], []⟩ 8 (by kernel_rfl) (by kernel_rfl) (by kernel_rfl) (by kernel_rfl)) ?_
  intro W base args ds gs before hval0 hW hcnd _
  have hval : ∀ (j : Nat) t v, Try.f7.params[j]? = some t → args[j]? = some v → Value.okWide Try.prog W .any base t v := hval0
  have hW' := hW
  obtain ⟨p, q, hA0, hV, rfl, hfz, hnd⟩ := hW
  have hA : DataW.TrodAll enc Try.prog W 0 (fun _ => true) true Try.f7.params.toList args.toList ds p := hA0
  rw [Try.params7] at hA hval
  obtain ⟨v0, vs0, d0, ds0, p0, q0, hargs, rfl, rfl, h0, r0⟩ := trodAll_cons hA
  obtain ⟨v1, vs1, d1, ds1, p1, q1, rfl, rfl, rfl, h1, r1⟩ := trodAll_cons r0
  obtain ⟨v2, vs2, d2, ds2, p2, q2, rfl, rfl, rfl, h2, r2⟩ := trodAll_cons r1
  obtain ⟨v3, vs3, d3, ds3, p3, q3, rfl, rfl, rfl, h3, r3⟩ := trodAll_cons r2
  obtain ⟨v4, vs4, d4, ds4, p4, q4, rfl, rfl, rfl, h4, r4⟩ := trodAll_cons r3
  obtain ⟨rfl, rfl, rfl⟩ := trodAll_nil r4
  obtain rfl : args = #[v0, v1, v2, v3, v4] := by cases args; simp_all
  obtain ⟨rfl, rfl⟩ := trodVars_none hV
  obtain ⟨N0, A0, c0, l0, dd0, rfl, hN0, hG0, hb0, rfl, hd0⟩ := open_net Try.underlying24 (by kernel_rfl) (by kernel_rfl) Try.underlying3 Try.underlying22 Try.underlying27 (by kernel_rfl) (by kernel_rfl) Try.underlying3 Try.underlying3 Try.underlying3 (hval 0 24 v0 rfl rfl) h0
  obtain ⟨a1, rfl, rfl, rfl, wa1⟩ := open_int Try.underlying3 (hval 1 3 v1 rfl rfl) h1
  obtain ⟨a2, rfl, rfl, rfl, wa2⟩ := open_int Try.underlying3 (hval 2 3 v2 rfl rfl) h2
  obtain ⟨A3, c3, l3, rfl, hG3, hd3, hb3⟩ := open_sl1 Try.underlying34 Try.underlying3 (by kernel_rfl) (hval 3 34 v3 rfl rfl) h3
  obtain ⟨A4, c4, l4, rfl, hG4, hd4, hb4⟩ := open_sl2 Try.underlying61 Try.underlying66 (by kernel_rfl) (by kernel_rfl) Try.underlying3 Try.underlying3 (hval 4 61 v4 rfl rfl) h4
  refine (walk W N0 A0 c0 l0 hG0 a1 (wf_bd wa1) a2 (wf_bd wa2) A3 c3 l3 hG3 A4 c4 l4 hG4).mono fun e W' ⟨he, hB⟩ => ?_
  subst he
  exact ⟨_, rfl, post_of_law laidOut rfl Try.underlying4 rfl (by intro t ht; rw [Try.params7] at ht; simp at ht; rcases ht with rfl | rfl | rfl | rfl | rfl <;> exact ⟨by kernel_rfl, of_decide_eq_true (by kernel_rfl)⟩) hW' rfl hB⟩

theorem holds : Rows.AraOnceSaid :=
  OpenClaim.holds_of_wide 7 Try.f7 rfl rfl rfl rfl rfl rfl rfl ⟨rfl, rfl, rfl, rfl, rfl⟩ rfl rfl rfl rfl rfl (by kernel_rfl) Try.func7 (by kernel_rfl)
    (of_decide_eq_true (by kernel_rfl)) (by unfold Func.isWrapper; first | (rw [if_pos (by decide +kernel)]; kernel_rfl) | (rw [if_neg (by decide +kernel)]; exact ⟨rfl, rfl⟩))
    (fun os started H enc _ => lifted os started H enc)
#print axioms holds
end Go.Proofs.Ytamphgcpfncenaa.AraOnceLaw
