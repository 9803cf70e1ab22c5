/- For every net and path: TopBest answers true (no walk is cheaper than the best one, and none over a third place is cheaper than the two best parts), and the arguments read as before. No condition. -/
import Derived.Test.YtdgglgiafmndnaaRows
import Derived.Test.YtdgglgiafmndnaaOpen
import Derived.Test.YtdgglgiafmndnaaTopLaw
import Derived.BigQuiet
import Derived.IntWalk
namespace Go.Proofs.Ytdgglgiafmndnaa.TopBestLaw
open Go.ChangeShapes Go.WideShapes Go.ChangeAt Go.RowKit Go.Proofs.Ytdgglgiafmndnaa NetLaw BellLaw DijkLaw WayLaw WalkLaw Go.Proofs.Ytdgglgiafmndnaa.Net Go.Proofs.Ytdgglgiafmndnaa.Dijk Go.Proofs.Ytdgglgiafmndnaa.DijkTwo Go.Proofs.Ytdgglgiafmndnaa.WayUse Go.Proofs.Ytdgglgiafmndnaa.TopLaw Go.Proofs.Ytdgglgiafmndnaa.Refs Go.Proofs.Ytdgglgiafmndnaa.Std
set_option linter.unusedSimpArgs false
set_option linter.unusedVariables false

theorem look_in {N : Int} {l : List E} {a b : Int} (hp : Dijk.pos N l = 0) (ha : 0 ≤ a ∧ a < N) (hb : 0 ≤ b ∧ b < N) : Dijk.look N l [a, b] = 0 := by
  rw [Dijk.look, if_neg (by simpa using hp), Dijk.lookE, if_neg (by omega), Dijk.lookE, if_neg (by omega)]
  rfl

set_option maxRecDepth 100000 in
set_option maxHeartbeats 4000000 in
theorem walk (w : World) (N : Int) (A : Option Addr) (c : Nat) (l : List E) (hA : Arg w 3 ce A c l) (A1 : Option Addr) (c1 : Nat) (p : List Int) (hA1 : Arg w 1 ci A1 c1 p) :
    Calls Try.prog 10 #[.agg #[.int .i64 N, .slice A l.length c], .slice A1 p.length c1] w fun e w' => e = .returned (.bool true) ∧ Below w.heap.size w w' := by
  have hs := hA.sl
  have hp := hA1.sl
  have hll : l.length ≤ 9223372036854775807 := Nat.le_trans hA.cap hA.max
  have hpl : p.length ≤ 9223372036854775807 := Nat.le_trans hA1.cap hA1.max
  clear hA hA1
  have hw0 : Below w.heap.size w (w.alloc (.cells #[.int .i64 N, .slice A l.length c] 24)) := (Below.refl _ _).alloc (Nat.le_refl _) _
  have k1 := fun W h1 h2 => Walk.cost_any N A c l A1 c1 p W h1 h2 hll hpl
  have k2 := fun W => begun_any W
  have hk : ∀ W, Below (w.heap.size + 1) (w.alloc (.cells #[.int .i64 N, .slice A l.length c] 24)) W → Sl W W.heap.size 3 ce A l ∧ Sl W W.heap.size 1 ci A1 p ∧ Below w.heap.size w W ∧ W.cell? ⟨w.heap.size, 0, none⟩ = some (.int .i64 N) ∧ W.cell? ⟨w.heap.size, 1, none⟩ = some (.slice A l.length c) ∧ w.heap.size < W.heap.size := fun W hW => by
    have hz : w.heap.size + 1 ≤ W.heap.size := by have := hW.size; simp at this; omega
    have hX := hw0.trans (hW.mono (Nat.le_succ _))
    obtain ⟨cc, _⟩ := keepAt hW (Nat.lt_succ_self _)
    exact ⟨(hs.keep hX (Nat.le_refl _)).more (by omega), (hp.keep hX (Nat.le_refl _)).more (by omega), hX, (cc 0).trans (by simp), (cc 1).trans (by simp), by omega⟩
  have HK := Lib.hid hk
  have B0 : Below (w.heap.size + 1) (w.alloc (.cells #[.int .i64 N, .slice A l.length c] 24)) (w.alloc (.cells #[.int .i64 N, .slice A l.length c] 24)) := Below.refl _ _
  have K2 := Lib.hid k2
  clear hk k2
  by_cases hc0 : (cost N l p).2 = 0
  · by_cases hpos : Dijk.pos N l = 0
    · have k3 := fun W h1 => pos_any N A c l W h1 hll
      rw [hpos] at k3
      obtain ⟨x, hcx⟩ : ∃ x, cost N l p = (x, 0) := ⟨(cost N l p).1, Prod.ext rfl hc0⟩
      rw [hcx] at k1
      have hxb := cost_bd (N := N) (l := l) (p := p)
      rw [hcx] at hxb
      obtain ⟨d1, d2, hm⟩ := mid_of hcx
      have hlen := hm.len
      have hone := hm.one
      have hi := hm.hi
      have hL : p.length - 1 < p.length := by omega
      have h0 : 0 < p.length := hone
      have w1 := hm.w1 h0 hi
      have w2 := hm.w2 hi hL
      have hsum := hm.sum
      have hcb := fun e he => (pos_zero hpos).2 e he
      have hd1 : 0 ≤ d1 := BellSh.wk_nonneg w1 (fun e he => by have := hcb e he; omega)
      have hd2 : 0 ≤ d2 := BellSh.wk_nonneg w2 (fun e he => by have := hcb e he; omega)
      have r0 := hm.rng _ (List.getElem_mem h0)
      have ri := hm.rng _ (List.getElem_mem hi)
      have rl := hm.rng _ (List.getElem_mem hL)
      have hN1 := hm.good.lo
      have hN2 := hm.good.hi
      obtain ⟨n, rfl⟩ := Int.eq_ofNat_of_zero_le (show 0 ≤ N by omega)
      have hfd : far = 1099511627776 := rfl
      simp only at hxb
      have hat : ∀ W, Below (w.heap.size + 1) (w.alloc (.cells #[.int .i64 n, .slice A l.length c] 24)) W → ∃ sb so, A1 = some ⟨sb, so, none⟩ ∧ W.cell? ⟨sb, so, none⟩ = some (.int .i64 p[0]) ∧ W.cell? ⟨sb, so + p.length / 2, none⟩ = some (.int .i64 p[p.length / 2]) ∧ W.cell? ⟨sb, so + (p.length - 1), none⟩ = some (.int .i64 p[p.length - 1]) := fun W hW => by
        obtain ⟨_, s2, _⟩ := HK.out W hW
        obtain ⟨sb, so, e1, _, x1⟩ := s2.atI h0
        obtain ⟨sb2, so2, e2, _, x2⟩ := s2.atI hi
        obtain ⟨sb3, so3, e3, _, x3⟩ := s2.atI hL
        rw [e1] at e2 e3
        injection e2 with e2
        injection e2 with e2 e2'
        injection e3 with e3
        injection e3 with e3 e3'
        subst e2 e2' e3 e3'
        exact ⟨sb, so, e1, x1, x2, x3⟩
      have kw := fun W h => way_best n A c l hll p[0] p[p.length - 1] (look_in hpos r0 rl) (d1 + d2) (DijkMorePlain.wk_join w1 w2) (by omega) W h
      have ka := fun W h => way_best n A c l hll p[0] p[p.length / 2] (look_in hpos r0 ri) d1 w1 (by omega) W h
      have kb := fun W h => way_best n A c l hll p[p.length / 2] p[p.length - 1] (look_in hpos ri rl) d2 w2 (by omega) W h
      simp only [Int.toNat_natCast] at kw ka kb
      have hgood := hm.good
      have hjn : ∀ (D1 D2 : List Int) (pa pb : List Int), Sh n p[0] l D1 → Sh n p[p.length / 2] l D2 → Wy n l D1 p[0] p[p.length / 2] pa → Wy n l D2 p[p.length / 2] p[p.length - 1] pb → Walk.fit pa pb ∧ ((pa ++ pb.tail).length ≤ 100 → cost n l (pa ++ pb.tail) = (dg D1 p[p.length / 2] + dg D2 p[p.length - 1], 0)) ∧ (pa ++ pb.tail).length ≤ 200 := fun D1 D2 pa pb g1 g2 g3 g4 => joined rfl hgood g1 g2 g3 g4
      have hbest : ∀ D1 D2 D3 : List Int, Sh n p[0] l D1 → Sh n p[p.length / 2] l D2 → Sh n p[0] l D3 → dg D1 p[p.length / 2] < far → dg D2 p[p.length - 1] < far → dg D1 p[p.length / 2] + dg D2 p[p.length - 1] < far → dg D3 p[p.length - 1] ≤ dg D1 p[p.length / 2] + dg D2 p[p.length - 1] := fun D1 D2 D3 h1 h2 h3 f1 f2 f3 =>
        h3.walk_le hgood.ends (DijkMorePlain.wk_join (h1.wk _ ri.1 ri.2 f1) (h2.wk _ rl.1 rl.2 f2)) f3 (fun e he => by have := hcb e he; omega)
      have KW := Lib.hid kw
      have KA := Lib.hid ka
      have KB := Lib.hid kb
      have HJN := Lib.hid hjn
      have HBE := Lib.hid hbest
      have HAT := Lib.hid hat
      have K1 := Lib.hid k1
      have K3 := Lib.hid k3
      have HFD := Lib.hid hfd
      have HSUM := Lib.hid hsum
      generalize p[0] = u at *
      generalize p[p.length / 2] = m at *
      generalize p[p.length - 1] = v at *
      clear kw ka kb hjn hbest hat k1 k3 hm w1 w2 hsum hcx hc0 hpos hcb hgood hfd
      go_enter Try.func10, Try.ntmps10
      go_wp2_with fail
      obtain ⟨sg, sp, H0, q0, q1, z0⟩ := HK.out _ B0
      refine (K1.out _ sg sp).mono ?_
      rintro e w1 ⟨rfl, hb1⟩
      have B1 := B0.trans (hb1.mono (by simp))
      clear hb1 B0 sg sp H0 q0 q1 z0
      obtain ⟨sg, sp, H1, q0, q1, z1⟩ := HK.out _ B1
      clear sg sp
      go_wp2_with fail
      refine (K2.out _).mono ?_
      rintro e w2 ⟨rfl, hb2⟩
      have B2 := B1.trans (hb2.mono z1)
      clear hb2 B1 H1 q0 q1 z1
      obtain ⟨sg, sp, H2, q0, q1, z2⟩ := HK.out _ B2
      go_wp2_with fail
      refine (K3.out _ sg).mono ?_
      rintro e w3 ⟨rfl, hb3⟩
      have B3 := B2.trans (hb3.mono z2)
      clear hb3 B2 H2 q0 q1 z2 sg sp
      obtain ⟨sg, sp, H3, q0, q1, z3⟩ := HK.out _ B3
      obtain ⟨sb, so, rfl, x1, x2, x3⟩ := HAT.out _ B3
      clear sg sp H3
      have hq : ((p.length : Int)) / 2 = ((p.length / 2 : Nat) : Int) := by omega
      have hq1 : ((p.length : Int)) - 1 = ((p.length - 1 : Nat) : Int) := by omega
      have e0 : (0 : Int) ≤ ((p.length / 2 : Nat) : Int) := by omega
      have e1 : ((p.length / 2 : Nat) : Int) < (p.length : Int) := by omega
      have e2 : (0 : Int) ≤ ((p.length - 1 : Nat) : Int) := by omega
      have e3 : ((p.length - 1 : Nat) : Int) < (p.length : Int) := by omega
      have e4 : (0 : Int) < (p.length : Int) := by omega
      have hw1 : IntKind.i64.wrap ((p.length : Int) - 1) = ((p.length - 1 : Nat) : Int) := by rw [hq1]; exact IntWalk.i64_in _ (by omega)
      have hw2 : IntKind.i64.wrap ((p.length : Int) / 2) = ((p.length / 2 : Nat) : Int) := by rw [hq]; exact IntWalk.i64_in _ (by omega)
      have hw3 : IntKind.i64.wrap (((p.length - 1 : Nat) : Int)) = ((p.length - 1 : Nat) : Int) := IntWalk.i64_in _ (by omega)
      generalize hg1 : p.length / 2 = i2 at *
      generalize hg2 : p.length - 1 = l1 at *
      have HG1 := Lib.hid hg1
      have HG2 := Lib.hid hg2
      clear hg1 hg2
      go_wp2
      go_quiet (fail)
      clear hw1 hw2 hw3 e0 e1 e2 e3 e4 hq hq1 x1 x2 x3 q0 q1
      have B4 := below_drewN B3 nq
      generalize w3.drewN nq = w3' at *
      clear B3 z3
      obtain ⟨sg, _, H4, q0, q1, z4⟩ := HK.out _ B4
      clear H4
      go_wp2_with fail
      refine (KW.out _ sg).mono ?_
      rintro e w4 ⟨A4, c4, p4, D4, rfl, ow4, hb4, wy4, sh4, le4, nn4⟩
      have C4 := (B4.trans (hb4.mono (by omega))).alloc (by have := hb4.size; omega) (.cells #[.slice A4 p4.length c4, .int .i64 (dg D4 v)] 79)
      have zz4 : w.heap.size < w4.heap.size := by have := hb4.size; omega
      clear q0 q1 sg
      obtain ⟨sg, _, _, q0, q1, z5⟩ := HK.out _ C4
      have B5 := C4
      have X4 : Below (w4.heap.size + 1) (w4.alloc (.cells #[.slice A4 p4.length c4, .int .i64 (dg D4 v)] 79)) (w4.alloc (.cells #[.slice A4 p4.length c4, .int .i64 (dg D4 v)] 79)) := Below.refl _ _
      have s4 : (w4.alloc (.cells #[.slice A4 p4.length c4, .int .i64 (dg D4 v)] 79)).heap.size = w4.heap.size + 1 := by simp
      have S4 := Lib.hid s4
      clear s4
      go_wp2_with fail
      refine (KA.out _ sg).mono ?_
      rintro e w5 ⟨A5, c5, p5, D5, rfl, ow5, hb5, wy5, sh5, le5, nn5⟩
      have C5 := (B5.trans (hb5.mono (by omega))).alloc (by have := hb5.size; omega) (.cells #[.slice A5 p5.length c5, .int .i64 (dg D5 m)] 79)
      have zz5 : w.heap.size < w5.heap.size := by have := hb5.size; omega
      clear q0 q1 sg
      have X4' := X4.trans (hb5.mono (by rw [S4.out]; omega))
      have y45 : w4.heap.size < w5.heap.size := by have := hb5.size; rw [S4.out] at this; omega
      have X5 : Below (w5.heap.size + 1) (w5.alloc (.cells #[.slice A5 p5.length c5, .int .i64 (dg D5 m)] 79)) (w5.alloc (.cells #[.slice A5 p5.length c5, .int .i64 (dg D5 m)] 79)) := Below.refl _ _
      have s5 : (w5.alloc (.cells #[.slice A5 p5.length c5, .int .i64 (dg D5 m)] 79)).heap.size = w5.heap.size + 1 := by simp
      have S5 := Lib.hid s5
      clear s5
      obtain ⟨sg, _, _, q0, q1, z6⟩ := HK.out _ C5
      have B6 := C5
      go_wp2_with fail
      refine (KB.out _ sg).mono ?_
      rintro e w6 ⟨A6, c6, p6, D6, rfl, ow6, hb6, wy6, sh6, le6, nn6⟩
      have C6 := (B6.trans (hb6.mono (by omega))).alloc (by have := hb6.size; omega) (.cells #[.slice A6 p6.length c6, .int .i64 (dg D6 v)] 79)
      have zz6 : w.heap.size < w6.heap.size := by have := hb6.size; omega
      clear q0 q1 sg
      have y56 : w5.heap.size < w6.heap.size := by have := hb6.size; rw [S5.out] at this; omega
      have hpb : p6.length ≤ c6 := by obtain ⟨_, _, e6, h6, _⟩ := ow6.form; cases e6; exact h6
      have hkp : ∀ W, Below (w6.heap.size + 1) (w6.alloc (.cells #[.slice A6 p6.length c6, .int .i64 (dg D6 v)] 79)) W → (W.cell? ⟨w4.heap.size, 1, none⟩ = some (.int .i64 (dg D4 v)) ∧ W.cell? ⟨w5.heap.size, 0, none⟩ = some (.slice A5 p5.length c5) ∧ W.cell? ⟨w5.heap.size, 1, none⟩ = some (.int .i64 (dg D5 m)) ∧ W.cell? ⟨w6.heap.size, 0, none⟩ = some (.slice A6 p6.length c6) ∧ W.cell? ⟨w6.heap.size, 1, none⟩ = some (.int .i64 (dg D6 v))) ∧ Sl W W.heap.size 1 ci A5 p5 ∧ Sl W W.heap.size 1 ci A6 p6 ∧ w6.heap.size < W.heap.size ∧ Below (w.heap.size + 1) (w.alloc (.cells #[.int .i64 n, .slice A l.length c] 24)) W := fun W hW => by
        have hz : w6.heap.size + 1 ≤ W.heap.size := by have := hW.size; simp at this; omega
        have h6 := ((Below.refl w6.heap.size w6).alloc (Nat.le_refl _) (.cells #[.slice A6 p6.length c6, .int .i64 (dg D6 v)] 79)).trans (hW.mono (Nat.le_succ _))
        have h5 := X5.trans ((hb6.mono (by rw [S5.out]; omega)).trans (h6.mono (by omega)))
        have h5w := ((Below.refl w5.heap.size w5).alloc (Nat.le_refl _) (.cells #[.slice A5 p5.length c5, .int .i64 (dg D5 m)] 79)).trans (h5.mono (Nat.le_succ _))
        have h4 := X4'.trans (h5w.mono (by omega))
        obtain ⟨k4, _⟩ := keepAt h4 (Nat.lt_succ_self _)
        obtain ⟨k5, _⟩ := keepAt h5 (Nat.lt_succ_self _)
        obtain ⟨k6, _⟩ := keepAt hW (Nat.lt_succ_self _)
        exact ⟨⟨(k4 1).trans (by simp), (k5 0).trans (by simp), (k5 1).trans (by simp), (k6 0).trans (by simp), (k6 1).trans (by simp)⟩, (ow5.sl.2.keep h5w (Nat.le_refl _)).more (by omega), (ow6.sl.2.keep h6 (Nat.le_refl _)).more (by omega), by omega, C6.trans (hW.mono (by omega))⟩
      obtain ⟨hfit, hjc, hjl⟩ := HJN.out D5 D6 p5 p6 sh5.out sh6.out wy5.out wy6.out
      have hfd := HFD.out
      have hsm := HSUM.out
      have hbst := HBE.out D5 D6 D4 sh5.out sh6.out sh4.out (by omega) (by omega) (by omega)
      have hl5 := wy5.out.len
      have hl6 := wy6.out.len
      have kj := fun W h1 h2 => Walk.join_yes A5 A6 c5 c6 p5 p6 W h1 h2 hpb (by omega) hfit
      have kc := fun W A' c' h1 h2 => Walk.cost_any n A c l A' c' (p5 ++ p6.tail) W h1 h2 hll (by omega)
      have hjn := fun h => WalkLaw.cost_long (N := (n : Int)) (l := l) (p := p5 ++ p6.tail) h
      have HKP := Lib.hid hkp
      have KJ := Lib.hid kj
      have KC := Lib.hid kc
      have hsum2 : dg D5 m + dg D6 v ≤ x := by omega
      have hb5x : dg D5 m ≤ 1000000 := by omega
      have hb6x : dg D6 v ≤ 1000000 := by omega
      generalize p5 ++ p6.tail = jl at *
      generalize dg D4 v = cw at *
      generalize dg D5 m = ca at *
      generalize dg D6 v = cb at *
      have E6 : Below (w6.heap.size + 1) (w6.alloc (.cells #[.slice A6 p6.length c6, .int .i64 cb] 79)) (w6.alloc (.cells #[.slice A6 p6.length c6, .int .i64 cb] 79)) := Below.refl _ _
      have y46 : w4.heap.size < w6.heap.size := by omega
      clear hkp kj kc hfit X4 X4' X5 C4 C5 C6 B4 B5 B6 hb4 hb5 hb6 ow4 ow5 ow6 hsm hfd
      obtain ⟨⟨t1, t2, t3, t4, t5⟩, sa, sb', _, _⟩ := HKP.out _ E6
      have SA := Lib.hid sa
      have SB := Lib.hid sb'
      clear sa sb'
      go_wp2_with fail
      refine (KJ.out _ SA.out SB.out).mono ?_
      rintro e w7 ⟨A7, c7, rfl, ow7, hb7⟩
      have E7 := E6.trans (hb7.mono (by simp))
      clear t1 t2 t3 t4 t5 E6 SA SB
      obtain ⟨⟨t1, t2, t3, t4, t5⟩, _, _, y7, F7⟩ := HKP.out _ E7
      obtain ⟨sg, _, H7, q0, q1, z7⟩ := HK.out _ F7
      have SG := Lib.hid sg
      have SJ := Lib.hid ow7.sl.2
      have y47 : w4.heap.size < w7.heap.size := by omega
      have y57 : w5.heap.size < w7.heap.size := by omega
      clear hb7 ow7 sg
      go_wp2_with fail
      refine (KC.out _ _ _ SG.out SJ.out).mono ?_
      rintro e w8 ⟨rfl, hb8⟩
      have E8 := E7.trans (hb8.mono y7)
      clear t1 t2 t3 t4 t5 E7 SG SJ q0 q1 H7 hb8
      obtain ⟨⟨t1, t2, t3, t4, t5⟩, _, _, y8, F8⟩ := HKP.out _ E8
      have H8 := (HK.out _ F8).2.2.1
      have y48 : w4.heap.size < w8.heap.size := by omega
      have y58 : w5.heap.size < w8.heap.size := by omega
      clear F7 F8
      by_cases hj : jl.length ≤ 100
      · rw [hjc hj]
        clear hjc hjn
        go_wp2
        go_ret
        exact ⟨rfl, H8⟩
      · have her := hjn (by omega)
        have hj2 : 100 < jl.length := by omega
        generalize hcc : WalkLaw.cost n l jl = cj at *
        have HCC := Lib.hid hcc
        obtain ⟨cj1, cj2⟩ := cj
        have hf : (cj2 == 0) = false := by simp; exact her
        clear hcc her hjc hjn hj
        go_wp2
        go_ret
        exact ⟨rfl, H8⟩
    · have k3 := fun W h1 => pos_any N A c l W h1 hll
      have hne : (Dijk.pos N l != 0) = true := by rw [bne_iff_ne]; exact hpos
      generalize Dijk.pos N l = ep at *
      generalize hcc : cost N l p = cp at *
      obtain ⟨cp1, cp2⟩ := cp
      simp only at hc0
      subst hc0
      have HCC := Lib.hid hcc
      have K1 := Lib.hid k1
      have K3 := Lib.hid k3
      clear hcc k1 k3 hpos
      go_enter Try.func10, Try.ntmps10
      go_wp2_with fail
      obtain ⟨sg, sp, H0, q0, q1, z0⟩ := HK.out _ B0
      refine (K1.out _ sg sp).mono ?_
      rintro e w1 ⟨rfl, hb1⟩
      have B1 := B0.trans (hb1.mono (by simp))
      clear hb1 B0 sg sp H0 q0 q1 z0
      obtain ⟨sg, sp, H1, q0, q1, z1⟩ := HK.out _ B1
      clear sg sp
      go_wp2_with fail
      refine (K2.out _).mono ?_
      rintro e w2 ⟨rfl, hb2⟩
      have B2 := B1.trans (hb2.mono z1)
      clear hb2 B1 H1 q0 q1 z1
      obtain ⟨sg, sp, H2, q0, q1, z2⟩ := HK.out _ B2
      go_wp2_with fail
      refine (K3.out _ sg).mono ?_
      rintro e w3 ⟨rfl, hb3⟩
      have B3 := B2.trans (hb3.mono z2)
      clear hb3 B2 H2 q0 q1 z2 sg sp
      obtain ⟨sg, sp, H3, q0, q1, z3⟩ := HK.out _ B3
      clear sg sp
      go_wp2_with fail
      refine (K2.out _).mono ?_
      rintro e w4 ⟨rfl, hb4⟩
      have H4 := H3.trans (hb4.mono (Nat.le_of_lt z3))
      clear hb4 q0 q1
      go_wp2
      go_ret
      exact ⟨rfl, H4⟩
  · generalize hcc : cost N l p = cp at *
    obtain ⟨cp1, cp2⟩ := cp
    simp only at hc0
    have hne : (cp2 != 0) = true := by rw [bne_iff_ne]; exact hc0
    have HCC := Lib.hid hcc
    have K1 := Lib.hid k1
    clear hcc k1 hc0
    go_enter Try.func10, Try.ntmps10
    go_wp2_with fail
    obtain ⟨sg, sp, H0, q0, q1, z0⟩ := HK.out _ B0
    refine (K1.out _ sg sp).mono ?_
    rintro e w1 ⟨rfl, hb1⟩
    have B1 := B0.trans (hb1.mono (by simp))
    clear hb1 B0 sg sp H0 q0 q1 z0
    obtain ⟨sg, sp, H1, q0, q1, z1⟩ := HK.out _ B1
    clear sg sp
    go_wp2_with fail
    refine (K2.out _).mono ?_
    rintro e w2 ⟨rfl, hb2⟩
    have B2 := B1.trans (hb2.mono z1)
    clear hb2 B1 H1 q0 q1 z1
    obtain ⟨sg, sp, H2, q0, q1, z2⟩ := HK.out _ B2
    clear sg sp
    go_wp2_with fail
    refine (K2.out _).mono ?_
    rintro e w4 ⟨rfl, hb4⟩
    have H4 := H2.trans (hb4.mono (Nat.le_of_lt z2))
    clear hb4 q0 q1
    go_wp2
    go_ret
    exact ⟨rfl, H4⟩

theorem own : ownKnob Try.prog.godebug = none := by kernel_rfl
theorem laidOut : laidOutB Try.prog = true := by kernel_rfl

set_option maxRecDepth 100000 in
theorem lifted (os : Os) (started : os.Started) (H : Type) (enc : TypeId × Value → H) :
    ReturnsInHanded {} Try.checked os 10 .any (Rows.topBestSpec.pre6 enc Try.prog Try.f10 Rows.topBestRow.domain false) (Rows.topBestSpec.post enc Try.prog Try.f10 false true false false) := by
  refine returnsInHanded_of_change (C := Try.checked) own started (by kernel_rfl) Try.func10
    (ChangeSpec.witness6 (enc := enc) (C := Try.checked) false ⟨#[], #[.agg #[.int .i64 0, .slice none 0 0], .slice none 0 0], []⟩ 8 (by kernel_rfl) (by kernel_rfl) (by kernel_rfl) (by kernel_rfl)) ?_
  intro W base args ds gs before hval0 hW hcnd _
  have hval : ∀ (j : Nat) t v, Try.f10.params[j]? = some t → args[j]? = some v → Value.okWide Try.prog W .any base t v := hval0
  have hW' := hW
  obtain ⟨p, q, hA0, hV, rfl, hfz, hnd⟩ := hW
  have hA : DataW.TrodAll enc Try.prog W 0 (fun _ => true) true Try.f10.params.toList args.toList ds p := hA0
  rw [Try.params10] at hA hval
  obtain ⟨v0, vs0, d0, ds0, p0, q0, hargs, rfl, rfl, h0, r0⟩ := trodAll_cons hA
  obtain ⟨v1, vs1, d1, ds1, p1, q1, rfl, rfl, rfl, h1, r1⟩ := trodAll_cons r0
  obtain ⟨rfl, rfl, rfl⟩ := trodAll_nil r1
  obtain rfl : args = #[v0, v1] := by cases args; simp_all
  obtain ⟨rfl, rfl⟩ := trodVars_none hV
  obtain ⟨N0, A0, c0, l0, dd0, rfl, hN0, hG0, hb0, rfl, hd0⟩ := open_net Try.underlying24 (by kernel_rfl) (by kernel_rfl) Try.underlying3 Try.underlying22 Try.underlying35 (by kernel_rfl) (by kernel_rfl) Try.underlying3 Try.underlying3 Try.underlying3 (hval 0 24 v0 rfl rfl) h0
  obtain ⟨A1, c1, l1, rfl, hG1, hd1, hb1⟩ := open_sl1 Try.underlying31 Try.underlying3 (by kernel_rfl) (hval 1 31 v1 rfl rfl) h1
  refine (walk W N0 A0 c0 l0 hG0 A1 c1 l1 hG1).mono fun e W' ⟨he, hB⟩ => ?_
  subst he
  exact ⟨_, rfl, post_of_law laidOut rfl Try.underlying4 rfl (by intro t ht; rw [Try.params10] at ht; simp at ht; rcases ht with rfl | rfl <;> exact ⟨by kernel_rfl, of_decide_eq_true (by kernel_rfl)⟩) hW' rfl hB⟩

theorem holds : Rows.TopBestSaid :=
  OpenClaim.holds_of_wide 10 Try.f10 rfl rfl rfl rfl rfl rfl rfl ⟨rfl, rfl, rfl, rfl, rfl⟩ rfl rfl rfl rfl rfl (by kernel_rfl) Try.func10 (by kernel_rfl)
    (of_decide_eq_true (by kernel_rfl)) (by unfold Func.isWrapper; first | (rw [if_pos (by decide +kernel)]; kernel_rfl) | (rw [if_neg (by decide +kernel)]; exact ⟨rfl, rfl⟩))
    (fun os started H enc _ => lifted os started H enc)
#print axioms holds
end Go.Proofs.Ytdgglgiafmndnaa.TopBestLaw
