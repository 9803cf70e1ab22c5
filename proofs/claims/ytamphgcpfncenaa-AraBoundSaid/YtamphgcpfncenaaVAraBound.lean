/- For every net, two places, list of guesses and list of weights: AraBound answers true (each round's way costs no more than its weight times the least, and no more than the round's ahead; with the weight 1 it costs least; where no way is none is told), and the arguments read as before. No condition. -/
import Derived.Test.YtamphgcpfncenaaRows
import Derived.Test.YtamphgcpfncenaaVAraUse
import Derived.Test.YtamphgcpfncenaaVDijkTwo
import Derived.Test.YtamphgcpfncenaaVStarKeep
import Derived.IntWalk
namespace Go.Proofs.Ytamphgcpfncenaa.AraBoundLaw
open Go.ChangeShapes Go.WideShapes Go.ChangeAt Go.RowKit Go.Proofs.Ytamphgcpfncenaa NetLaw BellLaw DijkLaw StarLaw AraLaw Go.Proofs.Ytamphgcpfncenaa.Net Go.Proofs.Ytamphgcpfncenaa.Std Go.Proofs.Ytamphgcpfncenaa.Flow Go.Proofs.Ytamphgcpfncenaa.Refs Go.Proofs.Ytamphgcpfncenaa.DijkTwo Go.Proofs.Ytamphgcpfncenaa.Ara Go.Proofs.Ytamphgcpfncenaa.StarF
set_option linter.unusedSimpArgs false
set_option linter.unusedVariables false
/-- what the round ahead costs -/
def lc (rs : List Rnd) (j : Nat) : Int := if j = 0 then far else match rs[j - 1]? with | some r => r.cost | none => far
theorem lc_step {rs : List Rnd} {j : Nat} {r : Rnd} (h : rs[j]? = some r) : lc rs (j + 1) = r.cost := by
  unfold lc
  rw [if_neg (Nat.succ_ne_zero j), Nat.add_sub_cancel, h]
theorem wg_wk {N : Int} {l : List E} {p : List Int} {co f t : Int} (h : WalkLaw.cost N l p = (co, 0)) (h0 : p.head? = some f) (h1 : p.getLast? = some t) : Wk l f t co := by
  have hz : (WalkLaw.cost N l p).2 = 0 := by rw [h]
  have hv := WalkLaw.cost_val (N := N) (l := l) (p := p)
  rw [if_pos hz, h] at hv
  have hok := (WalkLaw.cost_zero.1 hz).2.2.2.2
  have k := TopLaw.walk_wk p f t h0 h1 hok
  rw [← hv] at k
  exact k
/-- what holds of one round -/
theorem round_facts {n f t : Nat} {l : List E} {ws : List (Int × Int)} {s : AS} {M : List Int} (hR : RI n f t l ws s) (hM : Sh n f l M) (hg : NetLaw.Good n l) (hc : ∀ e ∈ l, 1 ≤ e.2.2) (ht : t < n) {j : Nat} {r : Rnd} (hj : s.rds[j]? = some r) (hjw : j < ws.length) :
    (r.num = ws[j].1 ∧ r.den = ws[j].2) ∧ r.cost ≤ lc s.rds j ∧ (dg M t = far → r.cost = far ∧ r.path = []) ∧ (dg M t < far → (0 ≤ r.cost ∧ r.cost < far) ∧ WalkLaw.cost n l r.path = (r.cost, 0) ∧ r.path.head? = some (f : Int) ∧ r.path.getLast? = some (t : Int) ∧ r.path.length ≤ 64 ∧ r.den * r.cost ≤ r.num * dg M t ∧ dg M t ≤ r.cost) := by
  have hlo := hM.lo t (by omega) (by omega)
  have hmem : r ∈ s.rds := List.mem_of_getElem? hj
  obtain ⟨hwg, hb⟩ := hR.each r hmem
  have hc0 : ∀ e ∈ l, 0 ≤ e.2.2 := fun e he => by have := hc e he; omega
  have hjl : j < s.rds.length := by obtain ⟨h, _⟩ := List.getElem?_eq_some_iff.1 hj; exact h
  refine ⟨?_, ?_, fun hf => ?_, fun hf => ?_⟩
  · have h1 : (s.rds.map (fun r => (r.num, r.den)))[j]? = some (r.num, r.den) := by rw [List.getElem?_map, hj]; rfl
    rw [hR.wts, List.getElem?_take, if_pos hjl, List.getElem?_eq_getElem hjw] at h1
    injection h1 with h1
    rw [h1]
    exact ⟨rfl, rfl⟩
  · unfold lc
    by_cases h0 : j = 0
    · rw [if_pos h0]
      rcases hwg with ⟨h, _⟩ | ⟨h, _⟩ <;> omega
    · rw [if_neg h0]
      obtain ⟨k, rfl⟩ : ∃ k, j = k + 1 := ⟨j - 1, by omega⟩
      have hk : k < s.rds.length := by omega
      rw [Nat.add_sub_cancel, List.getElem?_eq_getElem hk]
      have hp := List.pairwise_iff_getElem.1 hR.mono k (k + 1) hk hjl (Nat.lt_succ_self k)
      obtain ⟨_, e⟩ := List.getElem?_eq_some_iff.1 hj
      rw [← e]
      exact hp
  · rcases hwg with ⟨h, h2⟩ | ⟨h, h2, h3, h4, _⟩
    · exact ⟨h, h2⟩
    · have hw := wg_wk h2 h3 h4
      have := hM.walk_le hg.ends hw h hc0
      omega
  · obtain ⟨h1, h2⟩ := hb _ (hM.wk t (by omega) (by omega) hf) hf
    rcases hwg with ⟨h, _⟩ | ⟨h, k2, k3, k4, k5⟩
    · omega
    · have hw := wg_wk k2 k3 k4
      have h3 := hM.walk_le hg.ends hw h hc0
      exact ⟨⟨by omega, h⟩, k2, k3, k4, k5, h2, h3⟩
set_option maxRecDepth 100000 in
set_option maxHeartbeats 16000000 in
theorem walk (w : World) (N : Int) (A : Option Addr) (c : Nat) (l : List E) (hA : Arg w 3 ce A c l) (a : Int) (ha : -9223372036854775808 ≤ a ∧ a ≤ 9223372036854775807) (b : Int) (hb : -9223372036854775808 ≤ b ∧ b ≤ 9223372036854775807) (Ah : Option Addr) (ch : Nat) (h : List Int) (hAh : Arg w 1 ci Ah ch h) (Aw : Option Addr) (cw : Nat) (ws : List (Int × Int)) (hAw : Arg w 2 cp Aw cw ws) :
    Calls Try.prog 9 #[.agg #[.int .i64 N, .slice A l.length c], .int .i64 a, .int .i64 b, .slice Ah h.length ch, .slice Aw ws.length cw] w fun e w' => e = .returned (.bool true) ∧ Below w.heap.size w w' := by
  have hs := hA.sl
  have hss := hAh.sl
  have hws := hAw.sl
  have hll : l.length ≤ 9223372036854775807 := Nat.le_trans hA.cap hA.max
  have hhl : h.length ≤ 9223372036854775807 := Nat.le_trans hAh.cap hAh.max
  have hwl : ws.length ≤ 9223372036854775807 := Nat.le_trans hAw.cap hAw.max
  have n1 := hA.nil
  have n2 := hAh.nil
  have n3 := hAw.nil
  clear hA hAh hAw ha hb
  have KEY0 := Lib.hid (fun W g hl g1 c1 hh g2 c2 hw => two_run 0 (by decide) W g hl g1 c1 hh g2 c2 hw)
  have HK := Lib.hid (fun W hW => abox (N := N) (c := c) (W := W) hs hss hws hW)
  have HB0 := Lib.hid (Below.refl (w.heap.size + 1) (w.alloc (.cells #[.int .i64 N, .slice A l.length c] 24)))
  by_cases hx : ncode N a b l h ws = 0
  · obtain ⟨hx0, hy0⟩ := ncode_zero.1 hx
    obtain ⟨hlk, hC⟩ := slook_zero.1 hx0
    obtain ⟨hg, hc, ⟨a0, a1⟩, b0, b1⟩ := DijkWay.looks_zero hlk
    obtain ⟨⟨hw1, hw8⟩, hwo⟩ := wcode_ok hy0
    have hN1 := hg.lo
    have hN2 := hg.hi
    obtain ⟨n, rfl⟩ := Int.eq_ofNat_of_zero_le (show 0 ≤ N by omega)
    obtain ⟨f, rfl⟩ := Int.eq_ofNat_of_zero_le a0
    obtain ⟨t, rfl⟩ := Int.eq_ofNat_of_zero_le b0
    have htn : t < n := by omega
    have krun := fun W h1 h2 h3 => run_yes n f t A c l Ah ch h Aw cw ws W h1 n1 h2 n2 h3 n3 hx0 hy0
    have kdist := fun W h1 => dist_yes n A c l f hll (look_fst hlk) W h1
    simp only [Int.toNat_natCast] at kdist
    have hfacts := fun (s : AS) (k : Nat) (M : List Int) (hr : Rn n t l h ws f k s) (hM : Sh n f l M) (j : Nat) (r : Rnd) (hj : s.rds[j]? = some r) (hjw : j < ws.length) => round_facts (hr.si hC hg hc (by omega) htn hw8 (fun w hw => ⟨(hwo w hw).1.1, (hwo w hw).2.2⟩)).choose_spec.2.2 hM hg hc htn hj hjw
    have hwok : ∀ j, (hj : j < ws.length) → (1 ≤ ws[j].2 ∧ ws[j].2 ≤ 1000000) ∧ 1 ≤ ws[j].1 ∧ ws[j].1 ≤ 1000000 := fun j hj => ⟨(hwo _ (List.getElem_mem hj)).1, (hwo _ (List.getElem_mem hj)).2.1⟩
    obtain ⟨bw, ow, rfl, hbw, hwc⟩ := hws hw1
    have KRUN := Lib.hid krun
    have KDIST := Lib.hid kdist
    have HFACTS := Lib.hid hfacts
    have HWOK := Lib.hid hwok
    have HWC := Lib.hid hwc
    have hz8 := hw8
    clear krun kdist hfacts hwok hlk hC hg hc hwo hx hx0 hy0 n1 n2 n3 hs hss hws a0 a1 b0 b1 hwc
    obtain ⟨mh, hmh⟩ : ∃ mh, h.length = mh := ⟨_, rfl⟩
    rw [hmh] at KRUN ⊢
    clear hmh
    obtain ⟨mw, hmw⟩ : ∃ mw, ws.length = mw := ⟨_, rfl⟩
    rw [hmw] at KRUN hw8 ⊢
    have HMW := Lib.hid hmw
    clear hmw hw1 hwl hz8
    go_enter Try.func9, Try.ntmps9
    go_wp2_with fail
    refine (two_any _).mono ?_
    rintro e w1 ⟨g, rfl, own1, hb1⟩
    have B1 := HB0.out.trans (hb1.mono (by simp))
    have Z1 : w.heap.size + 1 ≤ w1.heap.size := by have := B1.size; simpa using this
    clear hb1
    go_wp2_with fail
    refine (one_anyA _).mono ?_
    rintro e w1b ⟨rfl, hb1⟩
    have hk1 : Below w1.heap.size w1 w1b := ((Below.refl _ _).alloc (Nat.le_refl _) (.cells #[.int .i64 0, .int .i64 0] 3)).trans (hb1.mono (by simp))
    have hk2 : Below w1b.heap.size w1b (w1b.alloc (.cells #[.int .i64 1, .int .i64 1] 66)) := (Below.refl _ _).alloc (Nat.le_refl _) _
    have sl1 := (own1.keep (hk1.trans (hk2.mono hk1.size))).sl.2
    have si1 := ((((sl_new' (sz := 1) (cell := ci) (by decide) w1 #[.int .i64 0, .int .i64 0] 3 [0, 0] rfl rfl).keep hb1 (Nat.le_refl _)).more hb1.size).keep hk2 (Nat.le_refl _)).more hk2.size
    have sr1 := sl_new' (sz := 2) (cell := cp) (by decide) w1b #[.int .i64 1, .int .i64 1] 66 [(1, 1)] rfl rfl
    have B1b := (B1.alloc Z1 (.cells #[.int .i64 0, .int .i64 0] 3)).trans (hb1.mono (by simp; omega))
    have Z1b : w.heap.size + 1 ≤ w1b.heap.size := by have := B1b.size; simpa using this
    have B1c := B1b.alloc Z1b (.cells #[.int .i64 1, .int .i64 1] 66)
    have Z1c : w.heap.size + 1 ≤ (w1b.alloc (.cells #[.int .i64 1, .int .i64 1] 66)).heap.size := by have := B1c.size; simpa using this
    clear hb1 own1 B1 Z1 hk1 hk2 B1b Z1b
    go_wp2_with fail
    refine (KEY0.out _ _ sl1 _ _ si1 _ _ sr1).mono ?_
    rintro e w2 ⟨S2, c2, rfl, l2, d3, d4, hb2⟩
    have B2 := B1c.trans (hb2.mono Z1c)
    clear sl1 si1 sr1 B1c Z1c hb2
    obtain ⟨⟨q0, q1, Z2⟩, ⟨sg, sh, sw⟩, H2⟩ := HK.out _ B2
    go_wp2_with fail
    refine (KRUN.out _ sg sh sw).mono ?_
    rintro e w3 ⟨A3, k, c3, R, s, kk, rfl, hrc, hrn, hov, hb3⟩
    have hkw : k = mw := by rw [← HMW.out, ← hov]; exact hrc.len.2.symm
    subst hkw
    have RC3 := Lib.hid hrc
    have HRN := Lib.hid hrn
    have B3 := B2.trans (hb3.mono Z2)
    clear q0 q1 Z2 sg sh sw H2 B2 hb3 hrc hrn hov d3 d4 l2
    obtain ⟨⟨q0, q1, Z3⟩, ⟨sg, _, _⟩, H3⟩ := HK.out _ B3
    go_wp2_with fail
    refine (KDIST.out _ sg).mono ?_
    rintro e w3d ⟨S6, M, rfl, own6, hb6, hsh⟩
    have hMl : M.length = n := by have := hsh.out.len; omega
    obtain ⟨dc, _⟩ := own_at1 hMl own6 htn
    rw [show M.getD t 0 = dg M (t : Int) from by unfold dg; rw [Int.toNat_natCast]] at dc
    have hS6 := (own6.base_ S6 rfl).2
    obtain ⟨mt, hmt⟩ : ∃ mt, dg M (t : Int) = mt := ⟨_, rfl⟩
    have hfacts := fun (j : Nat) (r : Rnd) (hj : s.rds[j]? = some r) (hjw : j < ws.length) => HFACTS.out s kk M HRN.out hsh.out j r hj hjw
    rw [hmt] at hfacts dc
    have hlo := hsh.out.lo t (by omega) (by omega)
    rw [hmt] at hlo
    have HF2 := Lib.hid hfacts
    have RC6 := Lib.hid (RC3.out.keep hb6)
    have B6 := Lib.hid (B3.trans (hb6.mono Z3))
    have BR6 := Lib.hid (Below.refl w3d.heap.size w3d)
    have DC := Lib.hid dc
    have hz6 : w.heap.size < w3d.heap.size := by have := hb6.size; omega
    have hbw6 : bw < w3d.heap.size := by omega
    clear q0 q1 Z3 sg H3 B3 hb6 own6 hMl hmt hfacts hsh dc RC3 HFACTS HRN
    have zt : (t : Int) < (n : Int) := by omega
    go_wp2
    go_loopw [80, 16] (fun i x wr => ∃ j : Nat, i = .int .i64 j ∧ j ≤ k ∧ x = .int .i64 (lc s.rds j) ∧ lc s.rds j ≤ far ∧ Hid (Below w3d.heap.size w3d wr)) (fun i _ _ => k - (intOf i).toNat)
    case atStart => exact ⟨0, rfl, Nat.zero_le _, rfl, by simp [lc], BR6⟩
    case round =>
      obtain ⟨j, rfl, hj, rfl, hlf, HB⟩ := hrel
      have zk0 := HB.out.size
      have hBW := B6.out.trans (HB.out.mono (by omega))
      by_cases hlt : j < k
      · have hjw : j < ws.length := by rw [HMW.out]; exact hlt
        obtain ⟨x, S, _, hxR, hx, hAS, _, hS, ⟨c0, c1, c2, c3', c4⟩, _⟩ := ((RC6.out.keep HB.out).at_ hlt)
        obtain ⟨⟨e1, e2⟩, hle, hfar, hnear⟩ := HF2.out j x.rnd hx hjw
        have hst := lc_step hx
        obtain ⟨⟨q1', q2'⟩, p1', p2'⟩ := HWOK.out j hjw
        have w0 := below_cells ((HK.out _ hBW).2.2) hbw (HWC.out j hjw 0 (by decide))
        have w1 := below_cells ((HK.out _ hBW).2.2) hbw (HWC.out j hjw 1 (by decide))
        rw [Nat.add_zero] at w0
        rw [← Nat.add_assoc] at w1
        obtain ⟨p, hp⟩ : ∃ p, ws[j].1 = p := ⟨_, rfl⟩
        obtain ⟨q, hq⟩ : ∃ q, ws[j].2 = q := ⟨_, rfl⟩
        have g0 : cp ws[j] 0 = .int .i64 p := by rw [← hp]; rfl
        have g1 : cp ws[j] 1 = .int .i64 q := by rw [← hq]; rfl
        rw [g0] at w0
        rw [g1] at w1
        rw [hp] at e1 p1' p2'
        rw [hq] at e2 q1' q2'
        have e1' : x.num = p := e1
        have e2' : x.den = q := e2
        rw [e1'] at c0
        rw [e2'] at c1
        obtain ⟨co, hco⟩ : ∃ co, x.cost = co := ⟨_, rfl⟩
        have hcr : x.rnd.cost = co := hco
        rw [hco] at c3'
        rw [hcr] at hle hfar hnear hst
        rw [e1, e2] at hnear
        have hway := (RC6.out.keep HB.out).ways x hxR
        have hpl := hway.sl.1
        obtain ⟨⟨q0, q1, Z2⟩, _, _⟩ := HK.out _ hBW
        have zj : (j : Int) < (k : Int) := by omega
        have zw : w.heap.size < wr.heap.size := Z2
        have zbw : bw < wr.heap.size := by omega
        have dcr := below_cells HB.out hS6 DC.out
        have zS6 : S6 < wr.heap.size := by omega
        have HLS := Lib.hid hst
        have HFAR := Lib.hid hfar
        have HNEAR := Lib.hid hnear
        have HPL := Lib.hid hpl
        have HXR := Lib.hid hxR
        have HLF := Lib.hid hlf
        have HCO : Hid (x.rnd.cost = co) := Lib.hid hcr
        have HPQ := Lib.hid (And.intro (And.intro q1' q2') (And.intro p1' p2'))
        clear hx e1 e2 hfar hnear hst hp hq g0 g1 e1' e2' hco hcr hway hpl hxR hlf p1' p2' q1' q2'
        have t1 : ¬ co > lc s.rds j := by omega
        have HT1 := Lib.hid (show co ≤ lc s.rds j by omega)
        generalize lc s.rds j = ll at *
        have hb4 : Below wr.heap.size wr (wr.alloc (.cells #[.int .i64 p, .int .i64 q, .slice x.A x.k x.c, .int .i64 co, .int .i64 x.done] 69)) := (Below.refl _ _).alloc (Nat.le_refl _) _
        have hbx := heap_alloc_new wr (.cells #[.int .i64 p, .int .i64 q, .slice x.A x.k x.c, .int .i64 co, .int .i64 x.done] 69)
        have hcl0 := fun (wd : World) (hbd : Below wr.heap.size wr wd) => (⟨below_cells hbd zw q0, below_cells hbd zw q1, below_cells hbd zbw w0, below_cells hbd zbw w1, below_cells hbd zS6 dcr⟩ : wd.cell? ⟨w.heap.size, 0, none⟩ = some (.int .i64 n) ∧ wd.cell? ⟨w.heap.size, 1, none⟩ = some (.slice A l.length c) ∧ wd.cell? ⟨bw, ow + j * 2, none⟩ = some (.int .i64 p) ∧ wd.cell? ⟨bw, ow + j * 2 + 1, none⟩ = some (.int .i64 q) ∧ wd.cell? ⟨S6, t, none⟩ = some (.int .i64 mt))
        obtain ⟨y0, y1, y2, y3, y4⟩ := hcl0 _ hb4
        go_upto_region 14 with fail
        have BR4 := Lib.hid (HB.out.trans (hb4.mono HB.out.size))
        have hsz4 : wr.heap.size < (wr.alloc (.cells #[.int .i64 p, .int .i64 q, .slice x.A x.k x.c, .int .i64 co, .int .i64 x.done] 69)).heap.size := by simp
        clear q0 q1 Z2 w0 w1 dcr c0 c1 c2 c3' c4 hAS hcl0 hb4
        generalize wr.alloc (.cells #[.int .i64 p, .int .i64 q, .slice x.A x.k x.c, .int .i64 co, .int .i64 x.done] 69) = w4 at hbx BR4 y0 y1 y2 y3 y4 hsz4 ⊢
        generalize hX : wr.heap.size = X at *
        clear hX
        have zX := lt_of_block hbx
        have x0 := blk_cell hbx 0
        have x1 := blk_cell hbx 1
        have x2 := blk_cell hbx 2
        have x3 := blk_cell hbx 3
        simp only [List.getElem?_toArray, List.getElem?_cons_zero, List.getElem?_cons_succ] at x0 x1 x2 x3
        clear hbx
        have v1 : w.heap.size < w4.heap.size := by omega
        have v2 : bw < w4.heap.size := by omega
        have v3 : S6 < w4.heap.size := by omega
        go_quiet (fail)
        have BR5 := Lib.hid (below_drewN BR4.out nq)
        have s0 : (w4.drewN nq).cell? ⟨w.heap.size, 0, none⟩ = some (.int .i64 n) ∧ (w4.drewN nq).cell? ⟨w.heap.size, 1, none⟩ = some (.slice A l.length c) ∧ (w4.drewN nq).cell? ⟨X, 2, none⟩ = some (.slice x.A x.k x.c) ∧ (w4.drewN nq).cell? ⟨X, 3, none⟩ = some (.int .i64 co) ∧ (w4.drewN nq).cell? ⟨bw, ow + j * 2, none⟩ = some (.int .i64 p) ∧ (w4.drewN nq).cell? ⟨bw, ow + j * 2 + 1, none⟩ = some (.int .i64 q) ∧ (w4.drewN nq).cell? ⟨S6, t, none⟩ = some (.int .i64 mt) := ⟨y0, y1, x2, x3, y2, y3, y4⟩
        have hvv : w.heap.size < (w4.drewN nq).heap.size ∧ X < (w4.drewN nq).heap.size ∧ bw < (w4.drewN nq).heap.size ∧ S6 < (w4.drewN nq).heap.size := ⟨v1, zX, v2, v3⟩
        clear y0 y1 y2 y3 y4 x0 x1 x2 x3 v1 v2 v3 zX BR4 hsz4
        generalize w4.drewN nq = w5 at BR5 s0 hvv ⊢
        obtain ⟨v1, zX, v2, v3⟩ := hvv
        by_cases hmf : mt = far
        · obtain ⟨hcf, hpn⟩ := HFAR.out hmf
          have hk0 : x.k = 0 := by
            have h1 := HPL.out
            have h2 : x.path = [] := hpn
            rw [h2] at h1
            exact h1
          unfold far at hmf hcf
          subst hmf
          rw [hcf] at s0
          rw [hk0] at s0
          obtain ⟨y0, y1, x2, x3, y2, y3, y4⟩ := s0
          have HCF : Hid (co = 1099511627776) := Lib.hid hcf
          clear hcf hk0 HNEAR HFAR
          have hlq : ll = lc s.rds (j + 1) ∧ lc s.rds (j + 1) ≤ far := by
            rw [HLS.out, HCF.out]
            have h1 := HT1.out
            have h2 := HLF.out
            rw [HCF.out] at h1
            unfold far at h2 ⊢
            omega
          have HLQ := Lib.hid hlq
          clear hlq
          go_wp2
          go_roundw
          case rel => exact ⟨j + 1, by go_num, hlt, by rw [← HLQ.out.1], HLQ.out.2, BR5⟩
          case measure => simp [intOf]; omega
        · have hmlt : mt < far := by omega
          obtain ⟨hc01, hcost, hhd, hla, hl64, hw, hge⟩ := HNEAR.out hmlt
          obtain ⟨⟨q1', q2'⟩, p1', p2'⟩ := HPQ.out
          have hmm : (mt == 1099511627776) = false := beq_eq_false_iff_ne.2 hmf
          have hBW5 := B6.out.trans (BR5.out.mono (by omega))
          have hsl5 := (RC6.out.keep BR5.out).ways x HXR.out
          have hk64 : x.k ≤ 64 := by have h1 := HPL.out; have h2 : x.path.length ≤ 64 := hl64; omega
          have hpth : x.rnd.path = x.path := rfl
          rw [hpth] at hcost hhd hla
          have kw := fun (W : World) (hb : Below w5.heap.size w5 W) => walks_any n co f t A c l x.A x.k x.c x.path W (HK.out W (hBW5.trans (hb.mono (by omega)))).2.1.1 (hsl5.keep hb).sl.2 HPL.out.symm hll (by omega) hcost hhd hla
          have hw2 : co * q ≤ p * mt := by rw [Int.mul_comm]; exact hw
          unfold far at hc01 hmlt
          have b1 := Int.mul_le_mul (show co ≤ 1099511627776 by omega) q2' (show 0 ≤ q by omega) (by decide)
          have b2 := Int.mul_le_mul p2' (show mt ≤ 1099511627776 by omega) hlo.1 (by decide)
          have b3 := Int.mul_nonneg hc01.1 (show 0 ≤ q by omega)
          have b4 := Int.mul_nonneg (show 0 ≤ p by omega) hlo.1
          have kt := fun (W : World) => times_any co p q mt W (by omega) (by omega) hw2
          have hcl : ∀ wd : World, Below w5.heap.size w5 wd → wd.cell? ⟨w.heap.size, 0, none⟩ = some (.int .i64 n) ∧ wd.cell? ⟨w.heap.size, 1, none⟩ = some (.slice A l.length c) ∧ wd.cell? ⟨X, 2, none⟩ = some (.slice x.A x.k x.c) ∧ wd.cell? ⟨X, 3, none⟩ = some (.int .i64 co) ∧ wd.cell? ⟨bw, ow + j * 2, none⟩ = some (.int .i64 p) ∧ wd.cell? ⟨bw, ow + j * 2 + 1, none⟩ = some (.int .i64 q) ∧ wd.cell? ⟨S6, t, none⟩ = some (.int .i64 mt) := fun wd hbd => ⟨below_cells hbd v1 s0.1, below_cells hbd v1 s0.2.1, below_cells hbd zX s0.2.2.1, below_cells hbd zX s0.2.2.2.1, below_cells hbd v2 s0.2.2.2.2.1, below_cells hbd v2 s0.2.2.2.2.2.1, below_cells hbd v3 s0.2.2.2.2.2.2⟩
          have hlcf : lc s.rds (j + 1) ≤ far := by rw [HLS.out]; unfold far; omega
          have KW := Lib.hid kw
          have KT := Lib.hid kt
          have HCL := Lib.hid hcl
          have HLC := Lib.hid hlcf
          have HW2 := Lib.hid hw2
          have HGE := Lib.hid hge
          have dc := s0.2.2.2.2.2.2
          clear kw kt hcl hlcf hw2 hw hge b1 b2 b3 b4 hcost hhd hla hl64 hk64 hpth hsl5 hBW5 hc01 hmlt
          go_upto_region 19 with fail
          have s0 := HCL.out w5.drew (Below.refl _ _).drew
          by_cases hp1 : p = 1
          · subst hp1
            by_cases hq1 : q = 1
            · subst hq1
              have hcm : co = mt := by have h1 := HW2.out; have h2 := HGE.out; omega
              subst hcm
              refine Go.wp_region_held_drew (S := (fun w' => w'.cell? ⟨w.heap.size, 0, none⟩ = some (.int .i64 n) ∧ w'.cell? ⟨w.heap.size, 1, none⟩ = some (.slice A l.length c) ∧ w'.cell? ⟨X, 2, none⟩ = some (.slice x.A x.k x.c) ∧ w'.cell? ⟨X, 3, none⟩ = some (.int .i64 co) ∧ w'.cell? ⟨bw, ow + j * 2, none⟩ = some (.int .i64 1) ∧ w'.cell? ⟨bw, ow + j * 2 + 1, none⟩ = some (.int .i64 1) ∧ w'.cell? ⟨S6, t, none⟩ = some (.int .i64 co))) (by kernel_rfl) s0 (fun hHeld => ?_)
              refine Go.wpAnyH_take (fuel := 39) (i := 0) (oi := _) (v := ?_) rfl (by kernel_rfl) (by kernel_rfl) (by kernel_rfl) (fun _ _ _ h => h) (Or.inl ⟨by rfl, ?_⟩) (by assumption) ?_
              rotate_left
              · (intro w hSw; (try dsimp only at hSw); go_simp)
                try with_reducible rfl
              try simp only [Act.put, List.getElem_toArray, List.getElem_cons_succ, List.getElem_cons_zero, List.setIfInBounds_toArray, List.set_cons_zero, List.set_cons_succ]
              refine Go.wpAnyH_take (fuel := 38) (i := 1) (oi := _) (v := ?_) rfl (by kernel_rfl) (by kernel_rfl) (by kernel_rfl) (fun _ _ _ h => h) (Or.inl ⟨by rfl, ?_⟩) (by assumption) ?_
              rotate_left
              · (intro w hSw; (try dsimp only at hSw); go_simp)
                try with_reducible rfl
              try simp only [Act.put, List.getElem_toArray, List.getElem_cons_succ, List.getElem_cons_zero, List.setIfInBounds_toArray, List.set_cons_zero, List.set_cons_succ]
              refine Go.wpAnyH_take (fuel := 37) (i := 2) (oi := _) (v := ?_) rfl (by kernel_rfl) (by kernel_rfl) (by kernel_rfl) (fun _ _ _ h => h) (Or.inl ⟨by rfl, ?_⟩) (by assumption) ?_
              rotate_left
              · (intro w hSw; (try dsimp only at hSw); go_simp)
                try with_reducible rfl
              try simp only [Act.put, List.getElem_toArray, List.getElem_cons_succ, List.getElem_cons_zero, List.setIfInBounds_toArray, List.set_cons_zero, List.set_cons_succ]
              refine Go.wpAnyH_take (fuel := 36) (i := 3) (oi := _) (v := ?_) rfl (by kernel_rfl) (by kernel_rfl) (by kernel_rfl) (fun _ _ _ h => h) (Or.inl ⟨by rfl, ?_⟩) (by assumption) ?_
              rotate_left
              · (intro w hSw; (try dsimp only at hSw); go_simp)
                try with_reducible rfl
              try simp only [Act.put, List.getElem_toArray, List.getElem_cons_succ, List.getElem_cons_zero, List.setIfInBounds_toArray, List.set_cons_zero, List.set_cons_succ]
              refine Go.wpAnyH_take (fuel := 35) (i := 4) (oi := _) (v := ?_) rfl (by kernel_rfl) (by kernel_rfl) (by kernel_rfl) (fun _ _ _ h => h) (Or.inl ⟨by rfl, ?_⟩) (by assumption) ?_
              rotate_left
              · (intro w hSw; (try dsimp only at hSw); go_simp)
                try with_reducible rfl
              try simp only [Act.put, List.getElem_toArray, List.getElem_cons_succ, List.getElem_cons_zero, List.setIfInBounds_toArray, List.set_cons_zero, List.set_cons_succ]
              refine Go.wpAnyH_ready (fuel := 34) (rs := [5]) (by kernel_rfl) (by simp) ?_
              refine Go.AllReadyH.cons (o := _) rfl (fun K hK => ?_) Go.AllReadyH.nil
              have HKX := Lib.hid hK
              clear hK
              go_simp
              go_at_call 21
              refine (KW.out _ (Below.refl _ _).drew).mono ?_
              rintro e w7 ⟨rfl, hb7⟩
              have HB7 := Lib.hid ((Below.refl w5.heap.size w5).drew.trans (hb7.mono (Nat.le_refl _)))
              clear hb7
              have k1s := HCL.out _ HB7.out
              refine HKX.out.out _ _ k1s (fun hHeld => ?_)
              clear HKX
              try simp only [Act.put, List.getElem_toArray, List.getElem_cons_succ, List.getElem_cons_zero, List.setIfInBounds_toArray, List.set_cons_zero, List.set_cons_succ]
              refine Go.wpAnyH_take (fuel := 33) (i := 6) (oi := _) (v := ?_) rfl (by kernel_rfl) (by kernel_rfl) (by kernel_rfl) (fun _ _ _ h => h) (Or.inl ⟨by rfl, ?_⟩) (by assumption) ?_
              rotate_left
              · (intro w hSw; (try dsimp only at hSw); go_simp)
                try with_reducible rfl
              try simp only [Act.put, List.getElem_toArray, List.getElem_cons_succ, List.getElem_cons_zero, List.setIfInBounds_toArray, List.set_cons_zero, List.set_cons_succ]
              refine Go.wpAnyH_take (fuel := 32) (i := 7) (oi := _) (v := ?_) rfl (by kernel_rfl) (by kernel_rfl) (by kernel_rfl) (fun _ _ _ h => h) (Or.inl ⟨by rfl, ?_⟩) (by assumption) ?_
              rotate_left
              · (intro w hSw; (try dsimp only at hSw); go_simp)
                try with_reducible rfl
              try simp only [Act.put, List.getElem_toArray, List.getElem_cons_succ, List.getElem_cons_zero, List.setIfInBounds_toArray, List.set_cons_zero, List.set_cons_succ]
              refine Go.wpAnyH_take (fuel := 31) (i := 8) (oi := _) (v := ?_) rfl (by kernel_rfl) (by kernel_rfl) (by kernel_rfl) (fun _ _ _ h => h) (Or.inl ⟨by rfl, ?_⟩) (by assumption) ?_
              rotate_left
              · (intro w hSw; (try dsimp only at hSw); go_simp)
                try with_reducible rfl
              try simp only [Act.put, List.getElem_toArray, List.getElem_cons_succ, List.getElem_cons_zero, List.setIfInBounds_toArray, List.set_cons_zero, List.set_cons_succ]
              refine Go.wpAnyH_take (fuel := 30) (i := 9) (oi := _) (v := ?_) rfl (by kernel_rfl) (by kernel_rfl) (by kernel_rfl) (fun _ _ _ h => h) (Or.inl ⟨by rfl, ?_⟩) (by assumption) ?_
              rotate_left
              · (intro w hSw; (try dsimp only at hSw); go_simp)
                try with_reducible rfl
              try simp only [Act.put, List.getElem_toArray, List.getElem_cons_succ, List.getElem_cons_zero, List.setIfInBounds_toArray, List.set_cons_zero, List.set_cons_succ]
              refine Go.wpAnyH_take (fuel := 29) (i := 10) (oi := _) (v := ?_) rfl (by kernel_rfl) (by kernel_rfl) (by kernel_rfl) (fun _ _ _ h => h) (Or.inl ⟨by rfl, ?_⟩) (by assumption) ?_
              rotate_left
              · (intro w hSw; (try dsimp only at hSw); go_simp)
                try with_reducible rfl
              try simp only [Act.put, List.getElem_toArray, List.getElem_cons_succ, List.getElem_cons_zero, List.setIfInBounds_toArray, List.set_cons_zero, List.set_cons_succ]
              refine Go.wpAnyH_take (fuel := 28) (i := 11) (oi := _) (v := ?_) rfl (by kernel_rfl) (by kernel_rfl) (by kernel_rfl) (fun _ _ _ h => h) (Or.inl ⟨by rfl, ?_⟩) (by assumption) ?_
              rotate_left
              · (intro w hSw; (try dsimp only at hSw); go_simp)
                try with_reducible rfl
              try simp only [Act.put, List.getElem_toArray, List.getElem_cons_succ, List.getElem_cons_zero, List.setIfInBounds_toArray, List.set_cons_zero, List.set_cons_succ]
              refine Go.wpAnyH_take (fuel := 27) (i := 12) (oi := _) (v := ?_) rfl (by kernel_rfl) (by kernel_rfl) (by kernel_rfl) (fun _ _ _ h => h) (Or.inl ⟨by rfl, ?_⟩) (by assumption) ?_
              rotate_left
              · (intro w hSw; (try dsimp only at hSw); go_simp)
                try with_reducible rfl
              try simp only [Act.put, List.getElem_toArray, List.getElem_cons_succ, List.getElem_cons_zero, List.setIfInBounds_toArray, List.set_cons_zero, List.set_cons_succ]
              refine Go.wpAnyH_take (fuel := 26) (i := 13) (oi := _) (v := ?_) rfl (by kernel_rfl) (by kernel_rfl) (by kernel_rfl) (fun _ _ _ h => h) (Or.inl ⟨by rfl, ?_⟩) (by assumption) ?_
              rotate_left
              · (intro w hSw; (try dsimp only at hSw); go_simp)
                try with_reducible rfl
              try simp only [Act.put, List.getElem_toArray, List.getElem_cons_succ, List.getElem_cons_zero, List.setIfInBounds_toArray, List.set_cons_zero, List.set_cons_succ]
              refine Go.wpAnyH_take (fuel := 25) (i := 14) (oi := _) (v := ?_) rfl (by kernel_rfl) (by kernel_rfl) (by kernel_rfl) (fun _ _ _ h => h) (Or.inl ⟨by rfl, ?_⟩) (by assumption) ?_
              rotate_left
              · (intro w hSw; (try dsimp only at hSw); go_simp)
                try with_reducible rfl
              try simp only [Act.put, List.getElem_toArray, List.getElem_cons_succ, List.getElem_cons_zero, List.setIfInBounds_toArray, List.set_cons_zero, List.set_cons_succ]
              refine Go.wpAnyH_take (fuel := 24) (i := 15) (oi := _) (v := ?_) rfl (by kernel_rfl) (by kernel_rfl) (by kernel_rfl) (fun _ _ _ h => h) (Or.inl ⟨by rfl, ?_⟩) (by assumption) ?_
              rotate_left
              · (intro w hSw; (try dsimp only at hSw); go_simp)
                try with_reducible rfl
              try simp only [Act.put, List.getElem_toArray, List.getElem_cons_succ, List.getElem_cons_zero, List.setIfInBounds_toArray, List.set_cons_zero, List.set_cons_succ]
              refine Go.wpAnyH_take (fuel := 23) (i := 16) (oi := _) (v := ?_) rfl (by kernel_rfl) (by kernel_rfl) (by kernel_rfl) (fun _ _ _ h => h) (Or.inl ⟨by rfl, ?_⟩) (by assumption) ?_
              rotate_left
              · (intro w hSw; (try dsimp only at hSw); go_simp)
                try with_reducible rfl
              try simp only [Act.put, List.getElem_toArray, List.getElem_cons_succ, List.getElem_cons_zero, List.setIfInBounds_toArray, List.set_cons_zero, List.set_cons_succ]
              refine Go.wpAnyH_take (fuel := 22) (i := 17) (oi := _) (v := ?_) rfl (by kernel_rfl) (by kernel_rfl) (by kernel_rfl) (fun _ _ _ h => h) (Or.inl ⟨by rfl, ?_⟩) (by assumption) ?_
              rotate_left
              · (intro w hSw; (try dsimp only at hSw); go_simp)
                try with_reducible rfl
              try simp only [Act.put, List.getElem_toArray, List.getElem_cons_succ, List.getElem_cons_zero, List.setIfInBounds_toArray, List.set_cons_zero, List.set_cons_succ]
              refine Go.wpAnyH_take (fuel := 21) (i := 18) (oi := _) (v := ?_) rfl (by kernel_rfl) (by kernel_rfl) (by kernel_rfl) (fun _ _ _ h => h) (Or.inl ⟨by rfl, ?_⟩) (by assumption) ?_
              rotate_left
              · (intro w hSw; (try dsimp only at hSw); go_simp)
                try with_reducible rfl
              try simp only [Act.put, List.getElem_toArray, List.getElem_cons_succ, List.getElem_cons_zero, List.setIfInBounds_toArray, List.set_cons_zero, List.set_cons_succ]
              refine Go.wpAnyH_ready (fuel := 20) (rs := [19]) (by kernel_rfl) (by simp) ?_
              refine Go.AllReadyH.cons (o := _) rfl (fun K hK => ?_) Go.AllReadyH.nil
              have HKX := Lib.hid hK
              clear hK
              go_simp
              go_at_call 38
              refine (KT.out _).mono ?_
              rintro e w8 ⟨rfl, hb8⟩
              have HB8 := Lib.hid (HB7.out.trans (hb8.mono HB7.out.size))
              clear hb8
              have k2s := HCL.out _ HB8.out
              refine HKX.out.out _ _ k2s (fun hHeld => ?_)
              clear HKX
              try simp only [Act.put, List.getElem_toArray, List.getElem_cons_succ, List.getElem_cons_zero, List.setIfInBounds_toArray, List.set_cons_zero, List.set_cons_succ]
              refine Go.wpAnyH_take (fuel := 19) (i := 20) (oi := _) (v := ?_) rfl (by kernel_rfl) (by kernel_rfl) (by kernel_rfl) (fun _ _ _ h => h) (Or.inl ⟨by rfl, ?_⟩) (by assumption) ?_
              rotate_left
              · (intro w hSw; (try dsimp only at hSw); go_simp)
                try with_reducible rfl
              try simp only [Act.put, List.getElem_toArray, List.getElem_cons_succ, List.getElem_cons_zero, List.setIfInBounds_toArray, List.set_cons_zero, List.set_cons_succ]
              refine Go.wpAnyH_take (fuel := 18) (i := 21) (oi := _) (v := ?_) rfl (by kernel_rfl) (by kernel_rfl) (by kernel_rfl) (fun _ _ _ h => h) (Or.inl ⟨by rfl, ?_⟩) (by assumption) ?_
              rotate_left
              · (intro w hSw; (try dsimp only at hSw); go_simp)
                try with_reducible rfl
              try simp only [Act.put, List.getElem_toArray, List.getElem_cons_succ, List.getElem_cons_zero, List.setIfInBounds_toArray, List.set_cons_zero, List.set_cons_succ]
              refine Go.wpAnyH_take (fuel := 17) (i := 22) (oi := _) (v := ?_) rfl (by kernel_rfl) (by kernel_rfl) (by kernel_rfl) (fun _ _ _ h => h) (Or.inl ⟨by rfl, ?_⟩) (by assumption) ?_
              rotate_left
              · (intro w hSw; (try dsimp only at hSw); go_simp)
                try with_reducible rfl
              try simp only [Act.put, List.getElem_toArray, List.getElem_cons_succ, List.getElem_cons_zero, List.setIfInBounds_toArray, List.set_cons_zero, List.set_cons_succ]
              refine Go.wpAnyH_take (fuel := 16) (i := 23) (oi := _) (v := ?_) rfl (by kernel_rfl) (by kernel_rfl) (by kernel_rfl) (fun _ _ _ h => h) (Or.inl ⟨by rfl, ?_⟩) (by assumption) ?_
              rotate_left
              · (intro w hSw; (try dsimp only at hSw); go_simp)
                try with_reducible rfl
              try simp only [Act.put, List.getElem_toArray, List.getElem_cons_succ, List.getElem_cons_zero, List.setIfInBounds_toArray, List.set_cons_zero, List.set_cons_succ]
              refine Go.wpAnyH_take (fuel := 15) (i := 24) (oi := _) (v := ?_) rfl (by kernel_rfl) (by kernel_rfl) (by kernel_rfl) (fun _ _ _ h => h) (Or.inl ⟨by rfl, ?_⟩) (by assumption) ?_
              rotate_left
              · (intro w hSw; (try dsimp only at hSw); go_simp)
                try with_reducible rfl
              try simp only [Act.put, List.getElem_toArray, List.getElem_cons_succ, List.getElem_cons_zero, List.setIfInBounds_toArray, List.set_cons_zero, List.set_cons_succ]
              refine Go.wpAnyH_take (fuel := 14) (i := 25) (oi := _) (v := ?_) rfl (by kernel_rfl) (by kernel_rfl) (by kernel_rfl) (fun _ _ _ h => h) (Or.inl ⟨by rfl, ?_⟩) (by assumption) ?_
              rotate_left
              · (intro w hSw; (try dsimp only at hSw); go_simp)
                try with_reducible rfl
              try simp only [Act.put, List.getElem_toArray, List.getElem_cons_succ, List.getElem_cons_zero, List.setIfInBounds_toArray, List.set_cons_zero, List.set_cons_succ]
              refine Go.wpAnyH_take (fuel := 13) (i := 26) (oi := _) (v := ?_) rfl (by kernel_rfl) (by kernel_rfl) (by kernel_rfl) (fun _ _ _ h => h) (Or.inl ⟨by rfl, ?_⟩) (by assumption) ?_
              rotate_left
              · (intro w hSw; (try dsimp only at hSw); go_simp)
                try with_reducible rfl
              try simp only [Act.put, List.getElem_toArray, List.getElem_cons_succ, List.getElem_cons_zero, List.setIfInBounds_toArray, List.set_cons_zero, List.set_cons_succ]
              refine Go.wpAnyH_ready (fuel := 12) (rs := [27]) (by kernel_rfl) (by simp) ?_
              refine Go.AllReadyH.cons (o := _) rfl (fun K hK => ?_) Go.AllReadyH.nil
              have HKX := Lib.hid hK
              clear hK
              go_simp
              go_at_call 32
              refine (one_anyA _).mono ?_
              rintro e w9 ⟨rfl, hb9⟩
              have HB9 := Lib.hid (HB8.out.trans (hb9.mono HB8.out.size))
              clear hb9
              have k3s := HCL.out _ HB9.out
              refine HKX.out.out _ _ k3s (fun hHeld => ?_)
              clear HKX
              try simp only [Act.put, List.getElem_toArray, List.getElem_cons_succ, List.getElem_cons_zero, List.setIfInBounds_toArray, List.set_cons_zero, List.set_cons_succ]
              refine Go.wpAnyH_take (fuel := 11) (i := 28) (oi := _) (v := ?_) rfl (by kernel_rfl) (by kernel_rfl) (by kernel_rfl) (fun _ _ _ h => h) (Or.inl ⟨by rfl, ?_⟩) (by assumption) ?_
              rotate_left
              · (intro w hSw; (try dsimp only at hSw); go_simp)
                try with_reducible rfl
              try simp only [Act.put, List.getElem_toArray, List.getElem_cons_succ, List.getElem_cons_zero, List.setIfInBounds_toArray, List.set_cons_zero, List.set_cons_succ]
              refine Go.wpAnyH_take (fuel := 10) (i := 29) (oi := _) (v := ?_) rfl (by kernel_rfl) (by kernel_rfl) (by kernel_rfl) (fun _ _ _ h => h) (Or.inl ⟨by rfl, ?_⟩) (by assumption) ?_
              rotate_left
              · (intro w hSw; (try dsimp only at hSw); go_simp)
                try with_reducible rfl
              try simp only [Act.put, List.getElem_toArray, List.getElem_cons_succ, List.getElem_cons_zero, List.setIfInBounds_toArray, List.set_cons_zero, List.set_cons_succ]
              refine Go.wpAnyH_take (fuel := 9) (i := 30) (oi := _) (v := ?_) rfl (by kernel_rfl) (by kernel_rfl) (by kernel_rfl) (fun _ _ _ h => h) (Or.inl ⟨by rfl, ?_⟩) (by assumption) ?_
              rotate_left
              · (intro w hSw; (try dsimp only at hSw); go_simp)
                try with_reducible rfl
              try simp only [Act.put, List.getElem_toArray, List.getElem_cons_succ, List.getElem_cons_zero, List.setIfInBounds_toArray, List.set_cons_zero, List.set_cons_succ]
              refine Go.wpAnyH_take (fuel := 8) (i := 31) (oi := _) (v := ?_) rfl (by kernel_rfl) (by kernel_rfl) (by kernel_rfl) (fun _ _ _ h => h) (Or.inl ⟨by rfl, ?_⟩) (by assumption) ?_
              rotate_left
              · (intro w hSw; (try dsimp only at hSw); go_simp)
                try with_reducible rfl
              try simp only [Act.put, List.getElem_toArray, List.getElem_cons_succ, List.getElem_cons_zero, List.setIfInBounds_toArray, List.set_cons_zero, List.set_cons_succ]
              refine Go.wpAnyH_take (fuel := 7) (i := 32) (oi := _) (v := ?_) rfl (by kernel_rfl) (by kernel_rfl) (by kernel_rfl) (fun _ _ _ h => h) (Or.inl ⟨by rfl, ?_⟩) (by assumption) ?_
              rotate_left
              · (intro w hSw; (try dsimp only at hSw); go_simp)
                try with_reducible rfl
              try simp only [Act.put, List.getElem_toArray, List.getElem_cons_succ, List.getElem_cons_zero, List.setIfInBounds_toArray, List.set_cons_zero, List.set_cons_succ]
              refine Go.wpAnyH_take (fuel := 6) (i := 33) (oi := _) (v := ?_) rfl (by kernel_rfl) (by kernel_rfl) (by kernel_rfl) (fun _ _ _ h => h) (Or.inl ⟨by rfl, ?_⟩) (by assumption) ?_
              rotate_left
              · (intro w hSw; (try dsimp only at hSw); go_simp)
                try with_reducible rfl
              try simp only [Act.put, List.getElem_toArray, List.getElem_cons_succ, List.getElem_cons_zero, List.setIfInBounds_toArray, List.set_cons_zero, List.set_cons_succ]
              refine Go.wpAnyH_take (fuel := 5) (i := 34) (oi := _) (v := ?_) rfl (by kernel_rfl) (by kernel_rfl) (by kernel_rfl) (fun _ _ _ h => h) (Or.inl ⟨by rfl, ?_⟩) (by assumption) ?_
              rotate_left
              · (intro w hSw; (try dsimp only at hSw); go_simp)
                try with_reducible rfl
              try simp only [Act.put, List.getElem_toArray, List.getElem_cons_succ, List.getElem_cons_zero, List.setIfInBounds_toArray, List.set_cons_zero, List.set_cons_succ]
              refine Go.wpAnyH_take (fuel := 4) (i := 35) (oi := _) (v := ?_) rfl (by kernel_rfl) (by kernel_rfl) (by kernel_rfl) (fun _ _ _ h => h) (Or.inl ⟨by rfl, ?_⟩) (by assumption) ?_
              rotate_left
              · (intro w hSw; (try dsimp only at hSw); go_simp)
                try with_reducible rfl
              try simp only [Act.put, List.getElem_toArray, List.getElem_cons_succ, List.getElem_cons_zero, List.setIfInBounds_toArray, List.set_cons_zero, List.set_cons_succ]
              refine Go.wpAnyH_take (fuel := 3) (i := 36) (oi := _) (v := ?_) rfl (by kernel_rfl) (by kernel_rfl) (by kernel_rfl) (fun _ _ _ h => h) (Or.inl ⟨by rfl, ?_⟩) (by assumption) ?_
              rotate_left
              · (intro w hSw; (try dsimp only at hSw); go_simp)
                try with_reducible rfl
              try simp only [Act.put, List.getElem_toArray, List.getElem_cons_succ, List.getElem_cons_zero, List.setIfInBounds_toArray, List.set_cons_zero, List.set_cons_succ]
              refine Go.wpAnyH_take (fuel := 2) (i := 37) (oi := _) (v := ?_) rfl (by kernel_rfl) (by kernel_rfl) (by kernel_rfl) (fun _ _ _ h => h) (Or.inl ⟨by rfl, ?_⟩) (by assumption) ?_
              rotate_left
              · (intro w hSw; (try dsimp only at hSw); go_simp)
                try with_reducible rfl
              try simp only [Act.put, List.getElem_toArray, List.getElem_cons_succ, List.getElem_cons_zero, List.setIfInBounds_toArray, List.set_cons_zero, List.set_cons_succ]
              refine Go.wpAnyH_take (fuel := 1) (i := 38) (oi := _) (v := ?_) rfl (by kernel_rfl) (by kernel_rfl) (by kernel_rfl) (fun _ _ _ h => h) (Or.inl ⟨by rfl, ?_⟩) (by assumption) ?_
              rotate_left
              · (intro w hSw; (try dsimp only at hSw); go_simp)
                try with_reducible rfl
              try simp only [Act.put, List.getElem_toArray, List.getElem_cons_succ, List.getElem_cons_zero, List.setIfInBounds_toArray, List.set_cons_zero, List.set_cons_succ]
              refine Go.wpAnyH_take (fuel := 0) (i := 39) (oi := _) (v := ?_) rfl (by kernel_rfl) (by kernel_rfl) (by kernel_rfl) (fun _ _ _ h => h) (Or.inl ⟨by rfl, ?_⟩) (by assumption) ?_
              rotate_left
              · (intro w hSw; (try dsimp only at hSw); go_simp)
                try with_reducible rfl
              try simp only [Act.put, List.getElem_toArray, List.getElem_cons_succ, List.getElem_cons_zero, List.setIfInBounds_toArray, List.set_cons_zero, List.set_cons_succ]
              refine Go.wpAnyH_done (by kernel_rfl) ?_ _
              have HBW := Lib.hid (BR5.out.trans (HB9.out.mono BR5.out.size))
              clear k1s k2s k3s s0 HB7 HB8 HB9 HCL KW KT
              go_wp2
              go_roundw
              case rel => exact ⟨j + 1, by go_num, hlt, by rw [HLS.out], HLC.out, HBW⟩
              case measure => simp [intOf]; omega
            · have hq2 : (q == 1) = false := beq_eq_false_iff_ne.2 hq1
              refine Go.wp_region_held_drew (S := (fun w' => w'.cell? ⟨w.heap.size, 0, none⟩ = some (.int .i64 n) ∧ w'.cell? ⟨w.heap.size, 1, none⟩ = some (.slice A l.length c) ∧ w'.cell? ⟨X, 2, none⟩ = some (.slice x.A x.k x.c) ∧ w'.cell? ⟨X, 3, none⟩ = some (.int .i64 co) ∧ w'.cell? ⟨bw, ow + j * 2, none⟩ = some (.int .i64 1) ∧ w'.cell? ⟨bw, ow + j * 2 + 1, none⟩ = some (.int .i64 q) ∧ w'.cell? ⟨S6, t, none⟩ = some (.int .i64 mt))) (by kernel_rfl) s0 (fun hHeld => ?_)
              refine Go.wpAnyH_take (fuel := 39) (i := 0) (oi := _) (v := ?_) rfl (by kernel_rfl) (by kernel_rfl) (by kernel_rfl) (fun _ _ _ h => h) (Or.inl ⟨by rfl, ?_⟩) (by assumption) ?_
              rotate_left
              · (intro w hSw; (try dsimp only at hSw); go_simp)
                try with_reducible rfl
              try simp only [Act.put, List.getElem_toArray, List.getElem_cons_succ, List.getElem_cons_zero, List.setIfInBounds_toArray, List.set_cons_zero, List.set_cons_succ]
              refine Go.wpAnyH_take (fuel := 38) (i := 1) (oi := _) (v := ?_) rfl (by kernel_rfl) (by kernel_rfl) (by kernel_rfl) (fun _ _ _ h => h) (Or.inl ⟨by rfl, ?_⟩) (by assumption) ?_
              rotate_left
              · (intro w hSw; (try dsimp only at hSw); go_simp)
                try with_reducible rfl
              try simp only [Act.put, List.getElem_toArray, List.getElem_cons_succ, List.getElem_cons_zero, List.setIfInBounds_toArray, List.set_cons_zero, List.set_cons_succ]
              refine Go.wpAnyH_take (fuel := 37) (i := 2) (oi := _) (v := ?_) rfl (by kernel_rfl) (by kernel_rfl) (by kernel_rfl) (fun _ _ _ h => h) (Or.inl ⟨by rfl, ?_⟩) (by assumption) ?_
              rotate_left
              · (intro w hSw; (try dsimp only at hSw); go_simp)
                try with_reducible rfl
              try simp only [Act.put, List.getElem_toArray, List.getElem_cons_succ, List.getElem_cons_zero, List.setIfInBounds_toArray, List.set_cons_zero, List.set_cons_succ]
              refine Go.wpAnyH_take (fuel := 36) (i := 3) (oi := _) (v := ?_) rfl (by kernel_rfl) (by kernel_rfl) (by kernel_rfl) (fun _ _ _ h => h) (Or.inl ⟨by rfl, ?_⟩) (by assumption) ?_
              rotate_left
              · (intro w hSw; (try dsimp only at hSw); go_simp)
                try with_reducible rfl
              try simp only [Act.put, List.getElem_toArray, List.getElem_cons_succ, List.getElem_cons_zero, List.setIfInBounds_toArray, List.set_cons_zero, List.set_cons_succ]
              refine Go.wpAnyH_take (fuel := 35) (i := 4) (oi := _) (v := ?_) rfl (by kernel_rfl) (by kernel_rfl) (by kernel_rfl) (fun _ _ _ h => h) (Or.inl ⟨by rfl, ?_⟩) (by assumption) ?_
              rotate_left
              · (intro w hSw; (try dsimp only at hSw); go_simp)
                try with_reducible rfl
              try simp only [Act.put, List.getElem_toArray, List.getElem_cons_succ, List.getElem_cons_zero, List.setIfInBounds_toArray, List.set_cons_zero, List.set_cons_succ]
              refine Go.wpAnyH_ready (fuel := 34) (rs := [5]) (by kernel_rfl) (by simp) ?_
              refine Go.AllReadyH.cons (o := _) rfl (fun K hK => ?_) Go.AllReadyH.nil
              have HKX := Lib.hid hK
              clear hK
              go_simp
              go_at_call 21
              refine (KW.out _ (Below.refl _ _).drew).mono ?_
              rintro e w7 ⟨rfl, hb7⟩
              have HB7 := Lib.hid ((Below.refl w5.heap.size w5).drew.trans (hb7.mono (Nat.le_refl _)))
              clear hb7
              have k1s := HCL.out _ HB7.out
              refine HKX.out.out _ _ k1s (fun hHeld => ?_)
              clear HKX
              try simp only [Act.put, List.getElem_toArray, List.getElem_cons_succ, List.getElem_cons_zero, List.setIfInBounds_toArray, List.set_cons_zero, List.set_cons_succ]
              refine Go.wpAnyH_take (fuel := 33) (i := 6) (oi := _) (v := ?_) rfl (by kernel_rfl) (by kernel_rfl) (by kernel_rfl) (fun _ _ _ h => h) (Or.inl ⟨by rfl, ?_⟩) (by assumption) ?_
              rotate_left
              · (intro w hSw; (try dsimp only at hSw); go_simp)
                try with_reducible rfl
              try simp only [Act.put, List.getElem_toArray, List.getElem_cons_succ, List.getElem_cons_zero, List.setIfInBounds_toArray, List.set_cons_zero, List.set_cons_succ]
              refine Go.wpAnyH_take (fuel := 32) (i := 7) (oi := _) (v := ?_) rfl (by kernel_rfl) (by kernel_rfl) (by kernel_rfl) (fun _ _ _ h => h) (Or.inl ⟨by rfl, ?_⟩) (by assumption) ?_
              rotate_left
              · (intro w hSw; (try dsimp only at hSw); go_simp)
                try with_reducible rfl
              try simp only [Act.put, List.getElem_toArray, List.getElem_cons_succ, List.getElem_cons_zero, List.setIfInBounds_toArray, List.set_cons_zero, List.set_cons_succ]
              refine Go.wpAnyH_take (fuel := 31) (i := 8) (oi := _) (v := ?_) rfl (by kernel_rfl) (by kernel_rfl) (by kernel_rfl) (fun _ _ _ h => h) (Or.inl ⟨by rfl, ?_⟩) (by assumption) ?_
              rotate_left
              · (intro w hSw; (try dsimp only at hSw); go_simp)
                try with_reducible rfl
              try simp only [Act.put, List.getElem_toArray, List.getElem_cons_succ, List.getElem_cons_zero, List.setIfInBounds_toArray, List.set_cons_zero, List.set_cons_succ]
              refine Go.wpAnyH_take (fuel := 30) (i := 9) (oi := _) (v := ?_) rfl (by kernel_rfl) (by kernel_rfl) (by kernel_rfl) (fun _ _ _ h => h) (Or.inl ⟨by rfl, ?_⟩) (by assumption) ?_
              rotate_left
              · (intro w hSw; (try dsimp only at hSw); go_simp)
                try with_reducible rfl
              try simp only [Act.put, List.getElem_toArray, List.getElem_cons_succ, List.getElem_cons_zero, List.setIfInBounds_toArray, List.set_cons_zero, List.set_cons_succ]
              refine Go.wpAnyH_take (fuel := 29) (i := 10) (oi := _) (v := ?_) rfl (by kernel_rfl) (by kernel_rfl) (by kernel_rfl) (fun _ _ _ h => h) (Or.inl ⟨by rfl, ?_⟩) (by assumption) ?_
              rotate_left
              · (intro w hSw; (try dsimp only at hSw); go_simp)
                try with_reducible rfl
              try simp only [Act.put, List.getElem_toArray, List.getElem_cons_succ, List.getElem_cons_zero, List.setIfInBounds_toArray, List.set_cons_zero, List.set_cons_succ]
              refine Go.wpAnyH_take (fuel := 28) (i := 11) (oi := _) (v := ?_) rfl (by kernel_rfl) (by kernel_rfl) (by kernel_rfl) (fun _ _ _ h => h) (Or.inl ⟨by rfl, ?_⟩) (by assumption) ?_
              rotate_left
              · (intro w hSw; (try dsimp only at hSw); go_simp)
                try with_reducible rfl
              try simp only [Act.put, List.getElem_toArray, List.getElem_cons_succ, List.getElem_cons_zero, List.setIfInBounds_toArray, List.set_cons_zero, List.set_cons_succ]
              refine Go.wpAnyH_take (fuel := 27) (i := 12) (oi := _) (v := ?_) rfl (by kernel_rfl) (by kernel_rfl) (by kernel_rfl) (fun _ _ _ h => h) (Or.inl ⟨by rfl, ?_⟩) (by assumption) ?_
              rotate_left
              · (intro w hSw; (try dsimp only at hSw); go_simp)
                try with_reducible rfl
              try simp only [Act.put, List.getElem_toArray, List.getElem_cons_succ, List.getElem_cons_zero, List.setIfInBounds_toArray, List.set_cons_zero, List.set_cons_succ]
              refine Go.wpAnyH_take (fuel := 26) (i := 13) (oi := _) (v := ?_) rfl (by kernel_rfl) (by kernel_rfl) (by kernel_rfl) (fun _ _ _ h => h) (Or.inl ⟨by rfl, ?_⟩) (by assumption) ?_
              rotate_left
              · (intro w hSw; (try dsimp only at hSw); go_simp)
                try with_reducible rfl
              try simp only [Act.put, List.getElem_toArray, List.getElem_cons_succ, List.getElem_cons_zero, List.setIfInBounds_toArray, List.set_cons_zero, List.set_cons_succ]
              refine Go.wpAnyH_take (fuel := 25) (i := 14) (oi := _) (v := ?_) rfl (by kernel_rfl) (by kernel_rfl) (by kernel_rfl) (fun _ _ _ h => h) (Or.inl ⟨by rfl, ?_⟩) (by assumption) ?_
              rotate_left
              · (intro w hSw; (try dsimp only at hSw); go_simp)
                try with_reducible rfl
              try simp only [Act.put, List.getElem_toArray, List.getElem_cons_succ, List.getElem_cons_zero, List.setIfInBounds_toArray, List.set_cons_zero, List.set_cons_succ]
              refine Go.wpAnyH_take (fuel := 24) (i := 15) (oi := _) (v := ?_) rfl (by kernel_rfl) (by kernel_rfl) (by kernel_rfl) (fun _ _ _ h => h) (Or.inl ⟨by rfl, ?_⟩) (by assumption) ?_
              rotate_left
              · (intro w hSw; (try dsimp only at hSw); go_simp)
                try with_reducible rfl
              try simp only [Act.put, List.getElem_toArray, List.getElem_cons_succ, List.getElem_cons_zero, List.setIfInBounds_toArray, List.set_cons_zero, List.set_cons_succ]
              refine Go.wpAnyH_take (fuel := 23) (i := 16) (oi := _) (v := ?_) rfl (by kernel_rfl) (by kernel_rfl) (by kernel_rfl) (fun _ _ _ h => h) (Or.inl ⟨by rfl, ?_⟩) (by assumption) ?_
              rotate_left
              · (intro w hSw; (try dsimp only at hSw); go_simp)
                try with_reducible rfl
              try simp only [Act.put, List.getElem_toArray, List.getElem_cons_succ, List.getElem_cons_zero, List.setIfInBounds_toArray, List.set_cons_zero, List.set_cons_succ]
              refine Go.wpAnyH_take (fuel := 22) (i := 17) (oi := _) (v := ?_) rfl (by kernel_rfl) (by kernel_rfl) (by kernel_rfl) (fun _ _ _ h => h) (Or.inl ⟨by rfl, ?_⟩) (by assumption) ?_
              rotate_left
              · (intro w hSw; (try dsimp only at hSw); go_simp)
                try with_reducible rfl
              try simp only [Act.put, List.getElem_toArray, List.getElem_cons_succ, List.getElem_cons_zero, List.setIfInBounds_toArray, List.set_cons_zero, List.set_cons_succ]
              refine Go.wpAnyH_take (fuel := 21) (i := 18) (oi := _) (v := ?_) rfl (by kernel_rfl) (by kernel_rfl) (by kernel_rfl) (fun _ _ _ h => h) (Or.inl ⟨by rfl, ?_⟩) (by assumption) ?_
              rotate_left
              · (intro w hSw; (try dsimp only at hSw); go_simp)
                try with_reducible rfl
              try simp only [Act.put, List.getElem_toArray, List.getElem_cons_succ, List.getElem_cons_zero, List.setIfInBounds_toArray, List.set_cons_zero, List.set_cons_succ]
              refine Go.wpAnyH_ready (fuel := 20) (rs := [19]) (by kernel_rfl) (by simp) ?_
              refine Go.AllReadyH.cons (o := _) rfl (fun K hK => ?_) Go.AllReadyH.nil
              have HKX := Lib.hid hK
              clear hK
              go_simp
              go_at_call 38
              refine (KT.out _).mono ?_
              rintro e w8 ⟨rfl, hb8⟩
              have HB8 := Lib.hid (HB7.out.trans (hb8.mono HB7.out.size))
              clear hb8
              have k2s := HCL.out _ HB8.out
              refine HKX.out.out _ _ k2s (fun hHeld => ?_)
              clear HKX
              try simp only [Act.put, List.getElem_toArray, List.getElem_cons_succ, List.getElem_cons_zero, List.setIfInBounds_toArray, List.set_cons_zero, List.set_cons_succ]
              refine Go.wpAnyH_take (fuel := 19) (i := 20) (oi := _) (v := ?_) rfl (by kernel_rfl) (by kernel_rfl) (by kernel_rfl) (fun _ _ _ h => h) (Or.inl ⟨by rfl, ?_⟩) (by assumption) ?_
              rotate_left
              · (intro w hSw; (try dsimp only at hSw); go_simp)
                try with_reducible rfl
              try simp only [Act.put, List.getElem_toArray, List.getElem_cons_succ, List.getElem_cons_zero, List.setIfInBounds_toArray, List.set_cons_zero, List.set_cons_succ]
              refine Go.wpAnyH_take (fuel := 18) (i := 21) (oi := _) (v := ?_) rfl (by kernel_rfl) (by kernel_rfl) (by kernel_rfl) (fun _ _ _ h => h) (Or.inl ⟨by rfl, ?_⟩) (by assumption) ?_
              rotate_left
              · (intro w hSw; (try dsimp only at hSw); go_simp)
                try with_reducible rfl
              try simp only [Act.put, List.getElem_toArray, List.getElem_cons_succ, List.getElem_cons_zero, List.setIfInBounds_toArray, List.set_cons_zero, List.set_cons_succ]
              refine Go.wpAnyH_take (fuel := 17) (i := 22) (oi := _) (v := ?_) rfl (by kernel_rfl) (by kernel_rfl) (by kernel_rfl) (fun _ _ _ h => h) (Or.inl ⟨by rfl, ?_⟩) (by assumption) ?_
              rotate_left
              · (intro w hSw; (try dsimp only at hSw); go_simp)
                try with_reducible rfl
              try simp only [Act.put, List.getElem_toArray, List.getElem_cons_succ, List.getElem_cons_zero, List.setIfInBounds_toArray, List.set_cons_zero, List.set_cons_succ]
              refine Go.wpAnyH_take (fuel := 16) (i := 23) (oi := _) (v := ?_) rfl (by kernel_rfl) (by kernel_rfl) (by kernel_rfl) (fun _ _ _ h => h) (Or.inl ⟨by rfl, ?_⟩) (by assumption) ?_
              rotate_left
              · (intro w hSw; (try dsimp only at hSw); go_simp)
                try with_reducible rfl
              try simp only [Act.put, List.getElem_toArray, List.getElem_cons_succ, List.getElem_cons_zero, List.setIfInBounds_toArray, List.set_cons_zero, List.set_cons_succ]
              refine Go.wpAnyH_take (fuel := 15) (i := 24) (oi := _) (v := ?_) rfl (by kernel_rfl) (by kernel_rfl) (by kernel_rfl) (fun _ _ _ h => h) (Or.inl ⟨by rfl, ?_⟩) (by assumption) ?_
              rotate_left
              · (intro w hSw; (try dsimp only at hSw); go_simp)
                try with_reducible rfl
              try simp only [Act.put, List.getElem_toArray, List.getElem_cons_succ, List.getElem_cons_zero, List.setIfInBounds_toArray, List.set_cons_zero, List.set_cons_succ]
              refine Go.wpAnyH_take (fuel := 14) (i := 25) (oi := _) (v := ?_) rfl (by kernel_rfl) (by kernel_rfl) (by kernel_rfl) (fun _ _ _ h => h) (Or.inl ⟨by rfl, ?_⟩) (by assumption) ?_
              rotate_left
              · (intro w hSw; (try dsimp only at hSw); go_simp)
                try with_reducible rfl
              try simp only [Act.put, List.getElem_toArray, List.getElem_cons_succ, List.getElem_cons_zero, List.setIfInBounds_toArray, List.set_cons_zero, List.set_cons_succ]
              refine Go.wpAnyH_take (fuel := 13) (i := 26) (oi := _) (v := ?_) rfl (by kernel_rfl) (by kernel_rfl) (by kernel_rfl) (fun _ _ _ h => h) (Or.inl ⟨by rfl, ?_⟩) (by assumption) ?_
              rotate_left
              · (intro w hSw; (try dsimp only at hSw); go_simp)
                try with_reducible rfl
              try simp only [Act.put, List.getElem_toArray, List.getElem_cons_succ, List.getElem_cons_zero, List.setIfInBounds_toArray, List.set_cons_zero, List.set_cons_succ]
              refine Go.wpAnyH_ready (fuel := 12) (rs := [27]) (by kernel_rfl) (by simp) ?_
              refine Go.AllReadyH.cons (o := _) rfl (fun K hK => ?_) Go.AllReadyH.nil
              have HKX := Lib.hid hK
              clear hK
              go_simp
              go_at_call 32
              refine (one_anyA _).mono ?_
              rintro e w9 ⟨rfl, hb9⟩
              have HB9 := Lib.hid (HB8.out.trans (hb9.mono HB8.out.size))
              clear hb9
              have k3s := HCL.out _ HB9.out
              refine HKX.out.out _ _ k3s (fun hHeld => ?_)
              clear HKX
              try simp only [Act.put, List.getElem_toArray, List.getElem_cons_succ, List.getElem_cons_zero, List.setIfInBounds_toArray, List.set_cons_zero, List.set_cons_succ]
              refine Go.wpAnyH_take (fuel := 11) (i := 28) (oi := _) (v := ?_) rfl (by kernel_rfl) (by kernel_rfl) (by kernel_rfl) (fun _ _ _ h => h) (Or.inl ⟨by rfl, ?_⟩) (by assumption) ?_
              rotate_left
              · (intro w hSw; (try dsimp only at hSw); go_simp)
                try with_reducible rfl
              try simp only [Act.put, List.getElem_toArray, List.getElem_cons_succ, List.getElem_cons_zero, List.setIfInBounds_toArray, List.set_cons_zero, List.set_cons_succ]
              refine Go.wpAnyH_take (fuel := 10) (i := 29) (oi := _) (v := ?_) rfl (by kernel_rfl) (by kernel_rfl) (by kernel_rfl) (fun _ _ _ h => h) (Or.inl ⟨by rfl, ?_⟩) (by assumption) ?_
              rotate_left
              · (intro w hSw; (try dsimp only at hSw); go_simp)
                try with_reducible rfl
              try simp only [Act.put, List.getElem_toArray, List.getElem_cons_succ, List.getElem_cons_zero, List.setIfInBounds_toArray, List.set_cons_zero, List.set_cons_succ]
              refine Go.wpAnyH_take (fuel := 9) (i := 30) (oi := _) (v := undef) rfl (by kernel_rfl) (by kernel_rfl) (by kernel_rfl) (fun _ _ _ h => h) (Or.inr ⟨by rfl, rfl⟩) (by assumption) ?_
              try simp only [Act.put, List.getElem_toArray, List.getElem_cons_succ, List.getElem_cons_zero, List.setIfInBounds_toArray, List.set_cons_zero, List.set_cons_succ]
              refine Go.wpAnyH_take (fuel := 8) (i := 31) (oi := _) (v := undef) rfl (by kernel_rfl) (by kernel_rfl) (by kernel_rfl) (fun _ _ _ h => h) (Or.inr ⟨by rfl, rfl⟩) (by assumption) ?_
              try simp only [Act.put, List.getElem_toArray, List.getElem_cons_succ, List.getElem_cons_zero, List.setIfInBounds_toArray, List.set_cons_zero, List.set_cons_succ]
              refine Go.wpAnyH_take (fuel := 7) (i := 32) (oi := _) (v := undef) rfl (by kernel_rfl) (by kernel_rfl) (by kernel_rfl) (fun _ _ _ h => h) (Or.inr ⟨by rfl, rfl⟩) (by assumption) ?_
              try simp only [Act.put, List.getElem_toArray, List.getElem_cons_succ, List.getElem_cons_zero, List.setIfInBounds_toArray, List.set_cons_zero, List.set_cons_succ]
              refine Go.wpAnyH_take (fuel := 6) (i := 33) (oi := _) (v := undef) rfl (by kernel_rfl) (by kernel_rfl) (by kernel_rfl) (fun _ _ _ h => h) (Or.inr ⟨by rfl, rfl⟩) (by assumption) ?_
              try simp only [Act.put, List.getElem_toArray, List.getElem_cons_succ, List.getElem_cons_zero, List.setIfInBounds_toArray, List.set_cons_zero, List.set_cons_succ]
              refine Go.wpAnyH_take (fuel := 5) (i := 34) (oi := _) (v := undef) rfl (by kernel_rfl) (by kernel_rfl) (by kernel_rfl) (fun _ _ _ h => h) (Or.inr ⟨by rfl, rfl⟩) (by assumption) ?_
              try simp only [Act.put, List.getElem_toArray, List.getElem_cons_succ, List.getElem_cons_zero, List.setIfInBounds_toArray, List.set_cons_zero, List.set_cons_succ]
              refine Go.wpAnyH_take (fuel := 4) (i := 35) (oi := _) (v := undef) rfl (by kernel_rfl) (by kernel_rfl) (by kernel_rfl) (fun _ _ _ h => h) (Or.inr ⟨by rfl, rfl⟩) (by assumption) ?_
              try simp only [Act.put, List.getElem_toArray, List.getElem_cons_succ, List.getElem_cons_zero, List.setIfInBounds_toArray, List.set_cons_zero, List.set_cons_succ]
              refine Go.wpAnyH_take (fuel := 3) (i := 36) (oi := _) (v := undef) rfl (by kernel_rfl) (by kernel_rfl) (by kernel_rfl) (fun _ _ _ h => h) (Or.inr ⟨by rfl, rfl⟩) (by assumption) ?_
              try simp only [Act.put, List.getElem_toArray, List.getElem_cons_succ, List.getElem_cons_zero, List.setIfInBounds_toArray, List.set_cons_zero, List.set_cons_succ]
              refine Go.wpAnyH_take (fuel := 2) (i := 37) (oi := _) (v := undef) rfl (by kernel_rfl) (by kernel_rfl) (by kernel_rfl) (fun _ _ _ h => h) (Or.inr ⟨by rfl, rfl⟩) (by assumption) ?_
              try simp only [Act.put, List.getElem_toArray, List.getElem_cons_succ, List.getElem_cons_zero, List.setIfInBounds_toArray, List.set_cons_zero, List.set_cons_succ]
              refine Go.wpAnyH_take (fuel := 1) (i := 38) (oi := _) (v := ?_) rfl (by kernel_rfl) (by kernel_rfl) (by kernel_rfl) (fun _ _ _ h => h) (Or.inl ⟨by rfl, ?_⟩) (by assumption) ?_
              rotate_left
              · (intro w hSw; (try dsimp only at hSw); go_simp)
                try with_reducible rfl
              try simp only [Act.put, List.getElem_toArray, List.getElem_cons_succ, List.getElem_cons_zero, List.setIfInBounds_toArray, List.set_cons_zero, List.set_cons_succ]
              refine Go.wpAnyH_take (fuel := 0) (i := 39) (oi := _) (v := ?_) rfl (by kernel_rfl) (by kernel_rfl) (by kernel_rfl) (fun _ _ _ h => h) (Or.inl ⟨by rfl, ?_⟩) (by assumption) ?_
              rotate_left
              · (intro w hSw; (try dsimp only at hSw); go_simp)
                try with_reducible rfl
              try simp only [Act.put, List.getElem_toArray, List.getElem_cons_succ, List.getElem_cons_zero, List.setIfInBounds_toArray, List.set_cons_zero, List.set_cons_succ]
              refine Go.wpAnyH_done (by kernel_rfl) ?_ _
              have HBW := Lib.hid (BR5.out.trans (HB9.out.mono BR5.out.size))
              clear k1s k2s k3s s0 HB7 HB8 HB9 HCL KW KT
              go_wp2
              go_roundw
              case rel => exact ⟨j + 1, by go_num, hlt, by rw [HLS.out], HLC.out, HBW⟩
              case measure => simp [intOf]; omega
          · have hp2 : (p == 1) = false := beq_eq_false_iff_ne.2 hp1
            refine Go.wp_region_held_drew (S := (fun w' => w'.cell? ⟨w.heap.size, 0, none⟩ = some (.int .i64 n) ∧ w'.cell? ⟨w.heap.size, 1, none⟩ = some (.slice A l.length c) ∧ w'.cell? ⟨X, 2, none⟩ = some (.slice x.A x.k x.c) ∧ w'.cell? ⟨X, 3, none⟩ = some (.int .i64 co) ∧ w'.cell? ⟨bw, ow + j * 2, none⟩ = some (.int .i64 p) ∧ w'.cell? ⟨bw, ow + j * 2 + 1, none⟩ = some (.int .i64 q) ∧ w'.cell? ⟨S6, t, none⟩ = some (.int .i64 mt))) (by kernel_rfl) s0 (fun hHeld => ?_)
            refine Go.wpAnyH_take (fuel := 39) (i := 0) (oi := _) (v := ?_) rfl (by kernel_rfl) (by kernel_rfl) (by kernel_rfl) (fun _ _ _ h => h) (Or.inl ⟨by rfl, ?_⟩) (by assumption) ?_
            rotate_left
            · (intro w hSw; (try dsimp only at hSw); go_simp)
              try with_reducible rfl
            try simp only [Act.put, List.getElem_toArray, List.getElem_cons_succ, List.getElem_cons_zero, List.setIfInBounds_toArray, List.set_cons_zero, List.set_cons_succ]
            refine Go.wpAnyH_take (fuel := 38) (i := 1) (oi := _) (v := ?_) rfl (by kernel_rfl) (by kernel_rfl) (by kernel_rfl) (fun _ _ _ h => h) (Or.inl ⟨by rfl, ?_⟩) (by assumption) ?_
            rotate_left
            · (intro w hSw; (try dsimp only at hSw); go_simp)
              try with_reducible rfl
            try simp only [Act.put, List.getElem_toArray, List.getElem_cons_succ, List.getElem_cons_zero, List.setIfInBounds_toArray, List.set_cons_zero, List.set_cons_succ]
            refine Go.wpAnyH_take (fuel := 37) (i := 2) (oi := _) (v := ?_) rfl (by kernel_rfl) (by kernel_rfl) (by kernel_rfl) (fun _ _ _ h => h) (Or.inl ⟨by rfl, ?_⟩) (by assumption) ?_
            rotate_left
            · (intro w hSw; (try dsimp only at hSw); go_simp)
              try with_reducible rfl
            try simp only [Act.put, List.getElem_toArray, List.getElem_cons_succ, List.getElem_cons_zero, List.setIfInBounds_toArray, List.set_cons_zero, List.set_cons_succ]
            refine Go.wpAnyH_take (fuel := 36) (i := 3) (oi := _) (v := ?_) rfl (by kernel_rfl) (by kernel_rfl) (by kernel_rfl) (fun _ _ _ h => h) (Or.inl ⟨by rfl, ?_⟩) (by assumption) ?_
            rotate_left
            · (intro w hSw; (try dsimp only at hSw); go_simp)
              try with_reducible rfl
            try simp only [Act.put, List.getElem_toArray, List.getElem_cons_succ, List.getElem_cons_zero, List.setIfInBounds_toArray, List.set_cons_zero, List.set_cons_succ]
            refine Go.wpAnyH_take (fuel := 35) (i := 4) (oi := _) (v := ?_) rfl (by kernel_rfl) (by kernel_rfl) (by kernel_rfl) (fun _ _ _ h => h) (Or.inl ⟨by rfl, ?_⟩) (by assumption) ?_
            rotate_left
            · (intro w hSw; (try dsimp only at hSw); go_simp)
              try with_reducible rfl
            try simp only [Act.put, List.getElem_toArray, List.getElem_cons_succ, List.getElem_cons_zero, List.setIfInBounds_toArray, List.set_cons_zero, List.set_cons_succ]
            refine Go.wpAnyH_ready (fuel := 34) (rs := [5]) (by kernel_rfl) (by simp) ?_
            refine Go.AllReadyH.cons (o := _) rfl (fun K hK => ?_) Go.AllReadyH.nil
            have HKX := Lib.hid hK
            clear hK
            go_simp
            go_at_call 21
            refine (KW.out _ (Below.refl _ _).drew).mono ?_
            rintro e w7 ⟨rfl, hb7⟩
            have HB7 := Lib.hid ((Below.refl w5.heap.size w5).drew.trans (hb7.mono (Nat.le_refl _)))
            clear hb7
            have k1s := HCL.out _ HB7.out
            refine HKX.out.out _ _ k1s (fun hHeld => ?_)
            clear HKX
            try simp only [Act.put, List.getElem_toArray, List.getElem_cons_succ, List.getElem_cons_zero, List.setIfInBounds_toArray, List.set_cons_zero, List.set_cons_succ]
            refine Go.wpAnyH_take (fuel := 33) (i := 6) (oi := _) (v := ?_) rfl (by kernel_rfl) (by kernel_rfl) (by kernel_rfl) (fun _ _ _ h => h) (Or.inl ⟨by rfl, ?_⟩) (by assumption) ?_
            rotate_left
            · (intro w hSw; (try dsimp only at hSw); go_simp)
              try with_reducible rfl
            try simp only [Act.put, List.getElem_toArray, List.getElem_cons_succ, List.getElem_cons_zero, List.setIfInBounds_toArray, List.set_cons_zero, List.set_cons_succ]
            refine Go.wpAnyH_take (fuel := 32) (i := 7) (oi := _) (v := ?_) rfl (by kernel_rfl) (by kernel_rfl) (by kernel_rfl) (fun _ _ _ h => h) (Or.inl ⟨by rfl, ?_⟩) (by assumption) ?_
            rotate_left
            · (intro w hSw; (try dsimp only at hSw); go_simp)
              try with_reducible rfl
            try simp only [Act.put, List.getElem_toArray, List.getElem_cons_succ, List.getElem_cons_zero, List.setIfInBounds_toArray, List.set_cons_zero, List.set_cons_succ]
            refine Go.wpAnyH_take (fuel := 31) (i := 8) (oi := _) (v := ?_) rfl (by kernel_rfl) (by kernel_rfl) (by kernel_rfl) (fun _ _ _ h => h) (Or.inl ⟨by rfl, ?_⟩) (by assumption) ?_
            rotate_left
            · (intro w hSw; (try dsimp only at hSw); go_simp)
              try with_reducible rfl
            try simp only [Act.put, List.getElem_toArray, List.getElem_cons_succ, List.getElem_cons_zero, List.setIfInBounds_toArray, List.set_cons_zero, List.set_cons_succ]
            refine Go.wpAnyH_take (fuel := 30) (i := 9) (oi := _) (v := ?_) rfl (by kernel_rfl) (by kernel_rfl) (by kernel_rfl) (fun _ _ _ h => h) (Or.inl ⟨by rfl, ?_⟩) (by assumption) ?_
            rotate_left
            · (intro w hSw; (try dsimp only at hSw); go_simp)
              try with_reducible rfl
            try simp only [Act.put, List.getElem_toArray, List.getElem_cons_succ, List.getElem_cons_zero, List.setIfInBounds_toArray, List.set_cons_zero, List.set_cons_succ]
            refine Go.wpAnyH_take (fuel := 29) (i := 10) (oi := _) (v := ?_) rfl (by kernel_rfl) (by kernel_rfl) (by kernel_rfl) (fun _ _ _ h => h) (Or.inl ⟨by rfl, ?_⟩) (by assumption) ?_
            rotate_left
            · (intro w hSw; (try dsimp only at hSw); go_simp)
              try with_reducible rfl
            try simp only [Act.put, List.getElem_toArray, List.getElem_cons_succ, List.getElem_cons_zero, List.setIfInBounds_toArray, List.set_cons_zero, List.set_cons_succ]
            refine Go.wpAnyH_take (fuel := 28) (i := 11) (oi := _) (v := ?_) rfl (by kernel_rfl) (by kernel_rfl) (by kernel_rfl) (fun _ _ _ h => h) (Or.inl ⟨by rfl, ?_⟩) (by assumption) ?_
            rotate_left
            · (intro w hSw; (try dsimp only at hSw); go_simp)
              try with_reducible rfl
            try simp only [Act.put, List.getElem_toArray, List.getElem_cons_succ, List.getElem_cons_zero, List.setIfInBounds_toArray, List.set_cons_zero, List.set_cons_succ]
            refine Go.wpAnyH_take (fuel := 27) (i := 12) (oi := _) (v := ?_) rfl (by kernel_rfl) (by kernel_rfl) (by kernel_rfl) (fun _ _ _ h => h) (Or.inl ⟨by rfl, ?_⟩) (by assumption) ?_
            rotate_left
            · (intro w hSw; (try dsimp only at hSw); go_simp)
              try with_reducible rfl
            try simp only [Act.put, List.getElem_toArray, List.getElem_cons_succ, List.getElem_cons_zero, List.setIfInBounds_toArray, List.set_cons_zero, List.set_cons_succ]
            refine Go.wpAnyH_take (fuel := 26) (i := 13) (oi := _) (v := ?_) rfl (by kernel_rfl) (by kernel_rfl) (by kernel_rfl) (fun _ _ _ h => h) (Or.inl ⟨by rfl, ?_⟩) (by assumption) ?_
            rotate_left
            · (intro w hSw; (try dsimp only at hSw); go_simp)
              try with_reducible rfl
            try simp only [Act.put, List.getElem_toArray, List.getElem_cons_succ, List.getElem_cons_zero, List.setIfInBounds_toArray, List.set_cons_zero, List.set_cons_succ]
            refine Go.wpAnyH_take (fuel := 25) (i := 14) (oi := _) (v := ?_) rfl (by kernel_rfl) (by kernel_rfl) (by kernel_rfl) (fun _ _ _ h => h) (Or.inl ⟨by rfl, ?_⟩) (by assumption) ?_
            rotate_left
            · (intro w hSw; (try dsimp only at hSw); go_simp)
              try with_reducible rfl
            try simp only [Act.put, List.getElem_toArray, List.getElem_cons_succ, List.getElem_cons_zero, List.setIfInBounds_toArray, List.set_cons_zero, List.set_cons_succ]
            refine Go.wpAnyH_take (fuel := 24) (i := 15) (oi := _) (v := ?_) rfl (by kernel_rfl) (by kernel_rfl) (by kernel_rfl) (fun _ _ _ h => h) (Or.inl ⟨by rfl, ?_⟩) (by assumption) ?_
            rotate_left
            · (intro w hSw; (try dsimp only at hSw); go_simp)
              try with_reducible rfl
            try simp only [Act.put, List.getElem_toArray, List.getElem_cons_succ, List.getElem_cons_zero, List.setIfInBounds_toArray, List.set_cons_zero, List.set_cons_succ]
            refine Go.wpAnyH_take (fuel := 23) (i := 16) (oi := _) (v := ?_) rfl (by kernel_rfl) (by kernel_rfl) (by kernel_rfl) (fun _ _ _ h => h) (Or.inl ⟨by rfl, ?_⟩) (by assumption) ?_
            rotate_left
            · (intro w hSw; (try dsimp only at hSw); go_simp)
              try with_reducible rfl
            try simp only [Act.put, List.getElem_toArray, List.getElem_cons_succ, List.getElem_cons_zero, List.setIfInBounds_toArray, List.set_cons_zero, List.set_cons_succ]
            refine Go.wpAnyH_take (fuel := 22) (i := 17) (oi := _) (v := ?_) rfl (by kernel_rfl) (by kernel_rfl) (by kernel_rfl) (fun _ _ _ h => h) (Or.inl ⟨by rfl, ?_⟩) (by assumption) ?_
            rotate_left
            · (intro w hSw; (try dsimp only at hSw); go_simp)
              try with_reducible rfl
            try simp only [Act.put, List.getElem_toArray, List.getElem_cons_succ, List.getElem_cons_zero, List.setIfInBounds_toArray, List.set_cons_zero, List.set_cons_succ]
            refine Go.wpAnyH_take (fuel := 21) (i := 18) (oi := _) (v := ?_) rfl (by kernel_rfl) (by kernel_rfl) (by kernel_rfl) (fun _ _ _ h => h) (Or.inl ⟨by rfl, ?_⟩) (by assumption) ?_
            rotate_left
            · (intro w hSw; (try dsimp only at hSw); go_simp)
              try with_reducible rfl
            try simp only [Act.put, List.getElem_toArray, List.getElem_cons_succ, List.getElem_cons_zero, List.setIfInBounds_toArray, List.set_cons_zero, List.set_cons_succ]
            refine Go.wpAnyH_ready (fuel := 20) (rs := [19]) (by kernel_rfl) (by simp) ?_
            refine Go.AllReadyH.cons (o := _) rfl (fun K hK => ?_) Go.AllReadyH.nil
            have HKX := Lib.hid hK
            clear hK
            go_simp
            go_at_call 38
            refine (KT.out _).mono ?_
            rintro e w8 ⟨rfl, hb8⟩
            have HB8 := Lib.hid (HB7.out.trans (hb8.mono HB7.out.size))
            clear hb8
            have k2s := HCL.out _ HB8.out
            refine HKX.out.out _ _ k2s (fun hHeld => ?_)
            clear HKX
            try simp only [Act.put, List.getElem_toArray, List.getElem_cons_succ, List.getElem_cons_zero, List.setIfInBounds_toArray, List.set_cons_zero, List.set_cons_succ]
            refine Go.wpAnyH_take (fuel := 19) (i := 20) (oi := _) (v := ?_) rfl (by kernel_rfl) (by kernel_rfl) (by kernel_rfl) (fun _ _ _ h => h) (Or.inl ⟨by rfl, ?_⟩) (by assumption) ?_
            rotate_left
            · (intro w hSw; (try dsimp only at hSw); go_simp)
              try with_reducible rfl
            try simp only [Act.put, List.getElem_toArray, List.getElem_cons_succ, List.getElem_cons_zero, List.setIfInBounds_toArray, List.set_cons_zero, List.set_cons_succ]
            refine Go.wpAnyH_take (fuel := 18) (i := 21) (oi := _) (v := ?_) rfl (by kernel_rfl) (by kernel_rfl) (by kernel_rfl) (fun _ _ _ h => h) (Or.inl ⟨by rfl, ?_⟩) (by assumption) ?_
            rotate_left
            · (intro w hSw; (try dsimp only at hSw); go_simp)
              try with_reducible rfl
            try simp only [Act.put, List.getElem_toArray, List.getElem_cons_succ, List.getElem_cons_zero, List.setIfInBounds_toArray, List.set_cons_zero, List.set_cons_succ]
            refine Go.wpAnyH_take (fuel := 17) (i := 22) (oi := _) (v := ?_) rfl (by kernel_rfl) (by kernel_rfl) (by kernel_rfl) (fun _ _ _ h => h) (Or.inl ⟨by rfl, ?_⟩) (by assumption) ?_
            rotate_left
            · (intro w hSw; (try dsimp only at hSw); go_simp)
              try with_reducible rfl
            try simp only [Act.put, List.getElem_toArray, List.getElem_cons_succ, List.getElem_cons_zero, List.setIfInBounds_toArray, List.set_cons_zero, List.set_cons_succ]
            refine Go.wpAnyH_take (fuel := 16) (i := 23) (oi := _) (v := ?_) rfl (by kernel_rfl) (by kernel_rfl) (by kernel_rfl) (fun _ _ _ h => h) (Or.inl ⟨by rfl, ?_⟩) (by assumption) ?_
            rotate_left
            · (intro w hSw; (try dsimp only at hSw); go_simp)
              try with_reducible rfl
            try simp only [Act.put, List.getElem_toArray, List.getElem_cons_succ, List.getElem_cons_zero, List.setIfInBounds_toArray, List.set_cons_zero, List.set_cons_succ]
            refine Go.wpAnyH_take (fuel := 15) (i := 24) (oi := _) (v := ?_) rfl (by kernel_rfl) (by kernel_rfl) (by kernel_rfl) (fun _ _ _ h => h) (Or.inl ⟨by rfl, ?_⟩) (by assumption) ?_
            rotate_left
            · (intro w hSw; (try dsimp only at hSw); go_simp)
              try with_reducible rfl
            try simp only [Act.put, List.getElem_toArray, List.getElem_cons_succ, List.getElem_cons_zero, List.setIfInBounds_toArray, List.set_cons_zero, List.set_cons_succ]
            refine Go.wpAnyH_take (fuel := 14) (i := 25) (oi := _) (v := ?_) rfl (by kernel_rfl) (by kernel_rfl) (by kernel_rfl) (fun _ _ _ h => h) (Or.inl ⟨by rfl, ?_⟩) (by assumption) ?_
            rotate_left
            · (intro w hSw; (try dsimp only at hSw); go_simp)
              try with_reducible rfl
            try simp only [Act.put, List.getElem_toArray, List.getElem_cons_succ, List.getElem_cons_zero, List.setIfInBounds_toArray, List.set_cons_zero, List.set_cons_succ]
            refine Go.wpAnyH_take (fuel := 13) (i := 26) (oi := _) (v := ?_) rfl (by kernel_rfl) (by kernel_rfl) (by kernel_rfl) (fun _ _ _ h => h) (Or.inl ⟨by rfl, ?_⟩) (by assumption) ?_
            rotate_left
            · (intro w hSw; (try dsimp only at hSw); go_simp)
              try with_reducible rfl
            try simp only [Act.put, List.getElem_toArray, List.getElem_cons_succ, List.getElem_cons_zero, List.setIfInBounds_toArray, List.set_cons_zero, List.set_cons_succ]
            refine Go.wpAnyH_ready (fuel := 12) (rs := [27]) (by kernel_rfl) (by simp) ?_
            refine Go.AllReadyH.cons (o := _) rfl (fun K hK => ?_) Go.AllReadyH.nil
            have HKX := Lib.hid hK
            clear hK
            go_simp
            go_at_call 32
            refine (one_anyA _).mono ?_
            rintro e w9 ⟨rfl, hb9⟩
            have HB9 := Lib.hid (HB8.out.trans (hb9.mono HB8.out.size))
            clear hb9
            have k3s := HCL.out _ HB9.out
            refine HKX.out.out _ _ k3s (fun hHeld => ?_)
            clear HKX
            try simp only [Act.put, List.getElem_toArray, List.getElem_cons_succ, List.getElem_cons_zero, List.setIfInBounds_toArray, List.set_cons_zero, List.set_cons_succ]
            refine Go.wpAnyH_take (fuel := 11) (i := 28) (oi := _) (v := ?_) rfl (by kernel_rfl) (by kernel_rfl) (by kernel_rfl) (fun _ _ _ h => h) (Or.inl ⟨by rfl, ?_⟩) (by assumption) ?_
            rotate_left
            · (intro w hSw; (try dsimp only at hSw); go_simp)
              try with_reducible rfl
            try simp only [Act.put, List.getElem_toArray, List.getElem_cons_succ, List.getElem_cons_zero, List.setIfInBounds_toArray, List.set_cons_zero, List.set_cons_succ]
            refine Go.wpAnyH_take (fuel := 10) (i := 29) (oi := _) (v := ?_) rfl (by kernel_rfl) (by kernel_rfl) (by kernel_rfl) (fun _ _ _ h => h) (Or.inl ⟨by rfl, ?_⟩) (by assumption) ?_
            rotate_left
            · (intro w hSw; (try dsimp only at hSw); go_simp)
              try with_reducible rfl
            try simp only [Act.put, List.getElem_toArray, List.getElem_cons_succ, List.getElem_cons_zero, List.setIfInBounds_toArray, List.set_cons_zero, List.set_cons_succ]
            refine Go.wpAnyH_take (fuel := 9) (i := 30) (oi := _) (v := undef) rfl (by kernel_rfl) (by kernel_rfl) (by kernel_rfl) (fun _ _ _ h => h) (Or.inr ⟨by rfl, rfl⟩) (by assumption) ?_
            try simp only [Act.put, List.getElem_toArray, List.getElem_cons_succ, List.getElem_cons_zero, List.setIfInBounds_toArray, List.set_cons_zero, List.set_cons_succ]
            refine Go.wpAnyH_take (fuel := 8) (i := 31) (oi := _) (v := undef) rfl (by kernel_rfl) (by kernel_rfl) (by kernel_rfl) (fun _ _ _ h => h) (Or.inr ⟨by rfl, rfl⟩) (by assumption) ?_
            try simp only [Act.put, List.getElem_toArray, List.getElem_cons_succ, List.getElem_cons_zero, List.setIfInBounds_toArray, List.set_cons_zero, List.set_cons_succ]
            refine Go.wpAnyH_take (fuel := 7) (i := 32) (oi := _) (v := undef) rfl (by kernel_rfl) (by kernel_rfl) (by kernel_rfl) (fun _ _ _ h => h) (Or.inr ⟨by rfl, rfl⟩) (by assumption) ?_
            try simp only [Act.put, List.getElem_toArray, List.getElem_cons_succ, List.getElem_cons_zero, List.setIfInBounds_toArray, List.set_cons_zero, List.set_cons_succ]
            refine Go.wpAnyH_take (fuel := 6) (i := 33) (oi := _) (v := undef) rfl (by kernel_rfl) (by kernel_rfl) (by kernel_rfl) (fun _ _ _ h => h) (Or.inr ⟨by rfl, rfl⟩) (by assumption) ?_
            try simp only [Act.put, List.getElem_toArray, List.getElem_cons_succ, List.getElem_cons_zero, List.setIfInBounds_toArray, List.set_cons_zero, List.set_cons_succ]
            refine Go.wpAnyH_take (fuel := 5) (i := 34) (oi := _) (v := undef) rfl (by kernel_rfl) (by kernel_rfl) (by kernel_rfl) (fun _ _ _ h => h) (Or.inr ⟨by rfl, rfl⟩) (by assumption) ?_
            try simp only [Act.put, List.getElem_toArray, List.getElem_cons_succ, List.getElem_cons_zero, List.setIfInBounds_toArray, List.set_cons_zero, List.set_cons_succ]
            refine Go.wpAnyH_take (fuel := 4) (i := 35) (oi := _) (v := undef) rfl (by kernel_rfl) (by kernel_rfl) (by kernel_rfl) (fun _ _ _ h => h) (Or.inr ⟨by rfl, rfl⟩) (by assumption) ?_
            try simp only [Act.put, List.getElem_toArray, List.getElem_cons_succ, List.getElem_cons_zero, List.setIfInBounds_toArray, List.set_cons_zero, List.set_cons_succ]
            refine Go.wpAnyH_take (fuel := 3) (i := 36) (oi := _) (v := undef) rfl (by kernel_rfl) (by kernel_rfl) (by kernel_rfl) (fun _ _ _ h => h) (Or.inr ⟨by rfl, rfl⟩) (by assumption) ?_
            try simp only [Act.put, List.getElem_toArray, List.getElem_cons_succ, List.getElem_cons_zero, List.setIfInBounds_toArray, List.set_cons_zero, List.set_cons_succ]
            refine Go.wpAnyH_take (fuel := 2) (i := 37) (oi := _) (v := undef) rfl (by kernel_rfl) (by kernel_rfl) (by kernel_rfl) (fun _ _ _ h => h) (Or.inr ⟨by rfl, rfl⟩) (by assumption) ?_
            try simp only [Act.put, List.getElem_toArray, List.getElem_cons_succ, List.getElem_cons_zero, List.setIfInBounds_toArray, List.set_cons_zero, List.set_cons_succ]
            refine Go.wpAnyH_take (fuel := 1) (i := 38) (oi := _) (v := ?_) rfl (by kernel_rfl) (by kernel_rfl) (by kernel_rfl) (fun _ _ _ h => h) (Or.inl ⟨by rfl, ?_⟩) (by assumption) ?_
            rotate_left
            · (intro w hSw; (try dsimp only at hSw); go_simp)
              try with_reducible rfl
            try simp only [Act.put, List.getElem_toArray, List.getElem_cons_succ, List.getElem_cons_zero, List.setIfInBounds_toArray, List.set_cons_zero, List.set_cons_succ]
            refine Go.wpAnyH_take (fuel := 0) (i := 39) (oi := _) (v := ?_) rfl (by kernel_rfl) (by kernel_rfl) (by kernel_rfl) (fun _ _ _ h => h) (Or.inl ⟨by rfl, ?_⟩) (by assumption) ?_
            rotate_left
            · (intro w hSw; (try dsimp only at hSw); go_simp)
              try with_reducible rfl
            try simp only [Act.put, List.getElem_toArray, List.getElem_cons_succ, List.getElem_cons_zero, List.setIfInBounds_toArray, List.set_cons_zero, List.set_cons_succ]
            refine Go.wpAnyH_done (by kernel_rfl) ?_ _
            have HBW := Lib.hid (BR5.out.trans (HB9.out.mono BR5.out.size))
            clear k1s k2s k3s s0 HB7 HB8 HB9 HCL KW KT
            go_wp2
            go_roundw
            case rel => exact ⟨j + 1, by go_num, hlt, by rw [HLS.out], HLC.out, HBW⟩
            case measure => simp [intOf]; omega
      · have zj : ¬ ((j : Int) < (k : Int)) := by omega
        have hfin := (HK.out _ hBW).2.2
        have HFIN := Lib.hid hfin
        clear hfin hBW
        go_wp2
        go_ret
        exact ⟨rfl, HFIN.out⟩
  · have krun := fun W h1 h2 h3 => run_no N a b A c l Ah ch h Aw cw ws W h1 h2 h3 hll hhl hwl hx
    have hne : (ncode N a b l h ws != 0) = true := by rw [bne_iff_ne]; exact hx
    generalize ncode N a b l h ws = z at *
    have KRUN := Lib.hid krun
    clear krun hx hs hss hws n1 n2 n3
    generalize h.length = mh at *
    generalize ws.length = mw at *
    generalize l.length = ml at *
    go_enter Try.func9, Try.ntmps9
    go_wp2_with fail
    refine (two_any _).mono ?_
    rintro e w1 ⟨g, rfl, own1, hb1⟩
    have B1 := HB0.out.trans (hb1.mono (by simp))
    have Z1 : w.heap.size + 1 ≤ w1.heap.size := by have := B1.size; simpa using this
    clear hb1
    go_wp2_with fail
    refine (one_anyA _).mono ?_
    rintro e w1b ⟨rfl, hb1⟩
    have hk1 : Below w1.heap.size w1 w1b := ((Below.refl _ _).alloc (Nat.le_refl _) (.cells #[.int .i64 0, .int .i64 0] 3)).trans (hb1.mono (by simp))
    have hk2 : Below w1b.heap.size w1b (w1b.alloc (.cells #[.int .i64 1, .int .i64 1] 66)) := (Below.refl _ _).alloc (Nat.le_refl _) _
    have sl1 := (own1.keep (hk1.trans (hk2.mono hk1.size))).sl.2
    have si1 := ((((sl_new' (sz := 1) (cell := ci) (by decide) w1 #[.int .i64 0, .int .i64 0] 3 [0, 0] rfl rfl).keep hb1 (Nat.le_refl _)).more hb1.size).keep hk2 (Nat.le_refl _)).more hk2.size
    have sr1 := sl_new' (sz := 2) (cell := cp) (by decide) w1b #[.int .i64 1, .int .i64 1] 66 [(1, 1)] rfl rfl
    have B1b := (B1.alloc Z1 (.cells #[.int .i64 0, .int .i64 0] 3)).trans (hb1.mono (by simp; omega))
    have Z1b : w.heap.size + 1 ≤ w1b.heap.size := by have := B1b.size; simpa using this
    have B1c := B1b.alloc Z1b (.cells #[.int .i64 1, .int .i64 1] 66)
    have Z1c : w.heap.size + 1 ≤ (w1b.alloc (.cells #[.int .i64 1, .int .i64 1] 66)).heap.size := by have := B1c.size; simpa using this
    clear hb1 own1 B1 Z1 hk1 hk2 B1b Z1b
    go_wp2_with fail
    refine (KEY0.out _ _ sl1 _ _ si1 _ _ sr1).mono ?_
    rintro e w2 ⟨S2, c2, rfl, l2, d3, d4, hb2⟩
    have B2 := B1c.trans (hb2.mono Z1c)
    clear sl1 si1 sr1 B1c Z1c hb2
    obtain ⟨⟨q0, q1, Z2⟩, ⟨sg, sh, sw⟩, H2⟩ := HK.out _ B2
    go_wp2_with fail
    refine (KRUN.out _ sg sh sw).mono ?_
    rintro e w3 ⟨rfl, hb3⟩
    have hfin := (HK.out _ (B2.trans (hb3.mono Z2))).2.2
    have HFIN := Lib.hid hfin
    clear q0 q1 Z2 sg sh sw H2 B2 hb3 hfin
    go_wp2
    go_ret
    exact ⟨rfl, HFIN.out⟩

theorem own : ownKnob Try.prog.godebug = none := by kernel_rfl
theorem laidOut : laidOutB Try.prog = true := by kernel_rfl

set_option maxRecDepth 100000 in
theorem lifted (os : Os) (started : os.Started) (H : Type) (enc : TypeId × Value → H) :
    ReturnsInHanded {} Try.checked os 9 .any (Rows.araBoundSpec.pre6 enc Try.prog Try.f9 Rows.araBoundRow.domain false) (Rows.araBoundSpec.post enc Try.prog Try.f9 false true false false) := by
  refine returnsInHanded_of_change (C := Try.checked) own started (by kernel_rfl) Try.func9
    (ChangeSpec.witness6 (enc := enc) (C := Try.checked) false ⟨#[], #[.agg #[.int .i64 0, .slice none 0 0], .int .i64 0, .int .i64 0, .slice none 0 0, .slice none 0 0], []⟩ 8 (by kernel_rfl) (by kernel_rfl) (by kernel_rfl) (by kernel_rfl)) ?_
  intro W base args ds gs before hval0 hW hcnd _
  have hval : ∀ (j : Nat) t v, Try.f9.params[j]? = some t → args[j]? = some v → Value.okWide Try.prog W .any base t v := hval0
  have hW' := hW
  obtain ⟨p, q, hA0, hV, rfl, hfz, hnd⟩ := hW
  have hA : DataW.TrodAll enc Try.prog W 0 (fun _ => true) true Try.f9.params.toList args.toList ds p := hA0
  rw [Try.params9] at hA hval
  obtain ⟨v0, vs0, d0, ds0, p0, q0, hargs, rfl, rfl, h0, r0⟩ := trodAll_cons hA
  obtain ⟨v1, vs1, d1, ds1, p1, q1, rfl, rfl, rfl, h1, r1⟩ := trodAll_cons r0
  obtain ⟨v2, vs2, d2, ds2, p2, q2, rfl, rfl, rfl, h2, r2⟩ := trodAll_cons r1
  obtain ⟨v3, vs3, d3, ds3, p3, q3, rfl, rfl, rfl, h3, r3⟩ := trodAll_cons r2
  obtain ⟨v4, vs4, d4, ds4, p4, q4, rfl, rfl, rfl, h4, r4⟩ := trodAll_cons r3
  obtain ⟨rfl, rfl, rfl⟩ := trodAll_nil r4
  obtain rfl : args = #[v0, v1, v2, v3, v4] := by cases args; simp_all
  obtain ⟨rfl, rfl⟩ := trodVars_none hV
  obtain ⟨N0, A0, c0, l0, dd0, rfl, hN0, hG0, hb0, rfl, hd0⟩ := open_net Try.underlying24 (by kernel_rfl) (by kernel_rfl) Try.underlying3 Try.underlying22 Try.underlying27 (by kernel_rfl) (by kernel_rfl) Try.underlying3 Try.underlying3 Try.underlying3 (hval 0 24 v0 rfl rfl) h0
  obtain ⟨a1, rfl, rfl, rfl, wa1⟩ := open_int Try.underlying3 (hval 1 3 v1 rfl rfl) h1
  obtain ⟨a2, rfl, rfl, rfl, wa2⟩ := open_int Try.underlying3 (hval 2 3 v2 rfl rfl) h2
  obtain ⟨A3, c3, l3, rfl, hG3, hd3, hb3⟩ := open_sl1 Try.underlying34 Try.underlying3 (by kernel_rfl) (hval 3 34 v3 rfl rfl) h3
  obtain ⟨A4, c4, l4, rfl, hG4, hd4, hb4⟩ := open_sl2 Try.underlying61 Try.underlying66 (by kernel_rfl) (by kernel_rfl) Try.underlying3 Try.underlying3 (hval 4 61 v4 rfl rfl) h4
  refine (walk W N0 A0 c0 l0 hG0 a1 (wf_bd wa1) a2 (wf_bd wa2) A3 c3 l3 hG3 A4 c4 l4 hG4).mono fun e W' ⟨he, hB⟩ => ?_
  subst he
  exact ⟨_, rfl, post_of_law laidOut rfl Try.underlying4 rfl (by intro t ht; rw [Try.params9] at ht; simp at ht; rcases ht with rfl | rfl | rfl | rfl | rfl <;> exact ⟨by kernel_rfl, of_decide_eq_true (by kernel_rfl)⟩) hW' rfl hB⟩

theorem holds : Rows.AraBoundSaid :=
  OpenClaim.holds_of_wide 9 Try.f9 rfl rfl rfl rfl rfl rfl rfl ⟨rfl, rfl, rfl, rfl, rfl⟩ rfl rfl rfl rfl rfl (by kernel_rfl) Try.func9 (by kernel_rfl)
    (of_decide_eq_true (by kernel_rfl)) (by unfold Func.isWrapper; first | (rw [if_pos (by decide +kernel)]; kernel_rfl) | (rw [if_neg (by decide +kernel)]; exact ⟨rfl, rfl⟩))
    (fun os started H enc _ => lifted os started H enc)
#print axioms holds
end Go.Proofs.Ytamphgcpfncenaa.AraBoundLaw
