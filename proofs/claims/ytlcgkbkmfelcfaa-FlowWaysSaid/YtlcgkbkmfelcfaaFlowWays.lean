/- For every net and two places: FlowWays answers true (no less goes through than along one way, and no more than leaves the first place, or comes to the last), and the arguments read as before. No condition. -/
import Derived.Test.YtlcgkbkmfelcfaaRows
import Derived.Test.YtlcgkbkmfelcfaaOpen
import Derived.Test.YtlcgkbkmfelcfaaFlowUse
import Derived.Test.YtlcgkbkmfelcfaaFlowWay
import Derived.Test.YtlcgkbkmfelcfaaDijkWay
import Derived.Test.YtlcgkbkmfelcfaaRefs
import Derived.Deep.CutRange
import Derived.BigQuiet
namespace Go.Proofs.Ytlcgkbkmfelcfaa.FlowWaysLaw
open Go.ChangeShapes Go.WideShapes Go.ChangeAt Go.RowKit Go.Proofs.Ytlcgkbkmfelcfaa NetLaw FlowLaw FlowWay Go.Proofs.Ytlcgkbkmfelcfaa.Net Go.Proofs.Ytlcgkbkmfelcfaa.Flow Go.Proofs.Ytlcgkbkmfelcfaa.Refs Go.Proofs.Ytlcgkbkmfelcfaa.Std
set_option linter.unusedSimpArgs false
set_option linter.unusedVariables false
/-- what Way tells -/
def WayFact (n : Nat) (s t : Nat) (l : List E) (v er : Int) (p : List Int) : Prop := (er = 5 ∧ v = 0) ∨ (er = 0 ∧ p.head? = some (s : Int) ∧ p.getLast? = some (t : Int) ∧ p.length ≤ n ∧ 1 ≤ p.length)
theorem way_fact (n s t : Nat) (A : Option Addr) (c : Nat) (l : List E) (v : Int) (hx : ferr n l s t = 0) (hv : Mx l s t v) (W : World) (h : Sl W W.heap.size 3 ce A l) (hll : l.length ≤ 9223372036854775807) :
    Calls Try.prog 52 #[.agg #[.int .i64 n, .slice A l.length c], .int .i64 s, .int .i64 t] W fun e w' => ∃ A' c' p co er, e = .returned (.tuple #[.agg #[.slice A' p.length c', .int .i64 co], .int .i64 er]) ∧ Sl w' w'.heap.size 1 ci A' p ∧ Below W.heap.size W w' ∧ Hid (WayFact n s t l v er p) := by
  obtain ⟨hg, hc, hs, ht, hst⟩ := ferr_zero.1 hx
  have hlk : Dijk.look n l [(s : Int), (t : Int)] = 0 := look_good hg hc (by intro y hy; simp at hy; rcases hy with rfl | rfl <;> omega)
  refine (DijkWay.way_any n A c l s t W h hll).mono ?_
  rintro e w' ⟨_, k2, k3⟩
  obtain ⟨D, hD, k4, k5⟩ := k2 hlk
  by_cases hf : BellLaw.dg D t < BellLaw.far
  · obtain ⟨A', c', p, e1, e2, e3⟩ := k5 hf
    rw [Int.toNat_natCast] at e3
    exact ⟨A', c', p, _, 0, e1, e2.sl.2, k3, Lib.hid (.inr ⟨rfl, e3.head, e3.last, e3.len.1, e3.len.2⟩)⟩
  · have hfe : BellLaw.dg D t = BellLaw.far := by have := (hD.lo t (by omega) (by omega)).2; omega
    exact ⟨none, 0, [], 0, 5, k4 hfe, Sl.nil, k3, Lib.hid (.inl ⟨rfl, no_way hg hc hD (by omega) hf hv⟩)⟩

set_option maxRecDepth 100000 in
set_option maxHeartbeats 8000000 in
theorem walk (w : World) (N : Int) (A : Option Addr) (c : Nat) (l : List E) (hA : Arg w 3 ce A c l) (a : Int) (ha : -9223372036854775808 ≤ a ∧ a ≤ 9223372036854775807) (b : Int) (hb : -9223372036854775808 ≤ b ∧ b ≤ 9223372036854775807) :
    Calls Try.prog 14 #[.agg #[.int .i64 N, .slice A l.length c], .int .i64 a, .int .i64 b] w fun e w' => e = .returned (.bool true) ∧ Below w.heap.size w w' := by
  have hs := hA.sl
  have hll : l.length ≤ 9223372036854775807 := Nat.le_trans hA.cap hA.max
  clear hA ha hb
  have hw0 : Below w.heap.size w (w.alloc (.cells #[.int .i64 N, .slice A l.length c] 24)) := (Below.refl _ _).alloc (Nat.le_refl _) _
  have hkeep : ∀ W, Below (w.heap.size + 1) (w.alloc (.cells #[.int .i64 N, .slice A l.length c] 24)) W → W.cell? ⟨w.heap.size, 0, none⟩ = some (.int .i64 N) ∧ W.cell? ⟨w.heap.size, 1, none⟩ = some (.slice A l.length c) ∧ w.heap.size + 1 ≤ W.heap.size ∧ Sl W W.heap.size 3 ce A l ∧ Below w.heap.size w W := fun W hW => by
    obtain ⟨cc, _⟩ := keepAt hW (Nat.lt_succ_self _)
    have q0 := cc 0
    have q1 := cc 1
    simp at q0 q1
    have H := hw0.trans (hW.mono (Nat.le_succ _))
    have hz := hW.size
    simp at hz
    exact ⟨q0, q1, hz, (hs.keep H (Nat.le_refl _)).more H.size, H⟩
  have HK := Lib.hid hkeep
  clear hkeep
  have key0 := fun W g h => max_two0 W g h
  have KEY0 := Lib.hid key0
  clear key0
  by_cases hx : ferr N l a b = 0
  · obtain ⟨hg, hc, ⟨s0, s1⟩, ⟨t0, t1⟩, hst⟩ := ferr_zero.1 hx
    have hN1 := hg.lo
    have hN2 := hg.hi
    have h6 := hg.len
    obtain ⟨n, rfl⟩ := Int.eq_ofNat_of_zero_le (show 0 ≤ N by omega)
    obtain ⟨s, rfl⟩ := Int.eq_ofNat_of_zero_le s0
    obtain ⟨t, rfl⟩ := Int.eq_ofNat_of_zero_le t0
    have k2 := fun W h => max_some n s t A c l W h hll
    have k5 := fun v (hv : Mx l s t v) W h => way_fact n s t A c l v hx hv W h hll
    have hcb := cpt_bd hg hc
    have hlaw1 := fun v (hv : Mx l s t v) => And.intro (le_so (fun i => (hcb i).1) hv hst) (le_si (fun i => (hcb i).1) hv hst)
    have hlaw2 := fun v (hv : Mx l s t v) p h1 h2 => ge_lst (fun i => (hcb i).1) hv (p := p) h1 h2
    have K2 := Lib.hid k2
    have K5 := Lib.hid k5
    have HCB := Lib.hid hcb
    have LAW1 := Lib.hid hlaw1
    have LAW2 := Lib.hid hlaw2
    have HX := Lib.hid hx
    clear k2 k5 hcb hlaw1 hlaw2 hx hg hc s0 s1 t0 t1 hst
    go_enter Try.func14, Try.ntmps14
    go_wp2_with fail
    refine (two_any _).mono ?_
    rintro e w1 ⟨g, rfl, own1, hb1⟩
    have B1 : Below (w.heap.size + 1) (w.alloc (.cells #[.int .i64 n, .slice A l.length c] 24)) w1 := hb1.mono (by simp)
    have Z1 : w.heap.size + 1 ≤ w1.heap.size := by have := hb1.size; simp at this; omega
    clear hb1
    go_wp2_with fail
    refine (KEY0.out _ _ own1.sl.2).mono ?_
    rintro e w3 ⟨A2, n2, c2, rfl, hb3⟩
    have B3 := B1.trans (hb3.mono Z1)
    have z3 : w.heap.size < w3.heap.size := by have := hb3.size; omega
    clear hb3 own1 B1 Z1
    obtain ⟨q0, q1, Z3, sg, H3⟩ := HK.out _ B3
    clear H3
    go_wp2_with fail
    refine (K2.out _ sg).mono ?_
    rintro e w4 ⟨v, A4, n4, c4, er1, rfl, hb4, F4⟩
    have B4 := B3.trans (hb4.mono Z3)
    clear q0 q1 sg Z3
    obtain ⟨q0, q1, Z4, sg, H4⟩ := HK.out _ B4
    have z4 : w.heap.size < w4.heap.size := by omega
    have he1 : er1 = 0 := F4.out.1.trans HX.out
    subst he1
    have MX := Lib.hid (F4.out.2.2 rfl)
    have BB4 := Lib.hid B4
    obtain ⟨hl1, hl2⟩ := LAW1.out v MX.out
    have LS := Lib.hid (And.intro hl1 hl2)
    clear hb4 B3 F4 B4 H4 hl1 hl2
    go_wp2
    go_loopw [13, 14, 55] (fun s13 s14 i wr => ∃ k : Nat, k ≤ l.length ∧ i = .int .i64 k ∧ s13 = .int .i64 (so l s k) ∧ s14 = .int .i64 (si l t k) ∧ Hid (Below w4.heap.size w4 wr)) (fun _ _ i _ => l.length - (intOf i).toNat)
    case atStart => exact ⟨0, Nat.zero_le _, rfl, rfl, rfl, Lib.hid (Below.refl _ _)⟩
    case round =>
      obtain ⟨k, hk, rfl, rfl, rfl, HB⟩ := hrel
      have B5 := BB4.out.trans (HB.out.mono Z4)
      have hz4 := HB.out.size
      clear q0 q1 sg
      obtain ⟨q0, q1, Z5, sg, H5⟩ := HK.out _ B5
      have z5 : w.heap.size < wr.heap.size := by omega
      have hso := bd_sum (fun i => if fr l i = (s : Int) then cpt l i else 0) (fun i => by have := HCB.out i; split <;> omega) k
      have hsi := bd_sum (fun i => if en l i = (t : Int) then cpt l i else 0) (fun i => by have := HCB.out i; split <;> omega) k
      have hso : 0 ≤ so l s k ∧ so l s k ≤ 10000 * k := hso
      have hsi : 0 ≤ si l t k ∧ si l t k ≤ 10000 * k := hsi
      by_cases hlt : k < l.length
      · obtain ⟨bE, oE, f, u, co, rfl, hbE, he, hcf, hct, hcc⟩ := sg.atE hlt
        have hed : ed l k = (f, u, co) := by rw [ed_at hlt, he]
        have hfr : fr l k = f := by rw [fr, hed]
        have hen : en l k = u := by rw [en, hed]
        have hcp : cpt l k = co := by rw [cpt, hed]
        have hco := HCB.out k
        rw [hcp] at hco
        have e1 : so l s (k + 1) = so l s k + (if f = (s : Int) then co else 0) := by rw [← hfr, ← hcp]; rfl
        have e2 : si l t (k + 1) = si l t k + (if u = (t : Int) then co else 0) := by rw [← hen, ← hcp]; rfl
        have HE1 := Lib.hid e1
        have HE2 := Lib.hid e2
        obtain ⟨x, hx⟩ : ∃ x, so l s k = x := ⟨_, rfl⟩
        obtain ⟨y, hy⟩ : ∃ y, si l t k = y := ⟨_, rfl⟩
        rw [hx] at HE1 hso
        rw [hy] at HE2 hsi
        rw [hx, hy]
        obtain ⟨c0, c1⟩ := hco
        have wx : IntKind.i64.wrap (x + co) = x + co := by simp [IntKind.wrap, IntKind.bits, IntKind.signed]; omega
        have wy : IntKind.i64.wrap (y + co) = y + co := by simp [IntKind.wrap, IntKind.bits, IntKind.signed]; omega
        have zk : (k : Int) < (l.length : Int) := by omega
        have HB' := Lib.hid (HB.out.alloc hz4 (.cells #[.int .i64 f, .int .i64 u, .int .i64 co] 27))
        clear hed hfr hen hcp he e1 e2 hx hy hso hsi HB B5 H5 sg
        by_cases hf : f = (s : Int)
        · have d1 : (f == (s : Int)) = true := by simp [hf]
          by_cases hu : u = (t : Int)
          · have d2 : (u == (t : Int)) = true := by simp [hu]
            have g1 := HE1.out
            have g2 := HE2.out
            rw [if_pos hf] at g1
            rw [if_pos hu] at g2
            have G1 := Lib.hid g1
            have G2 := Lib.hid g2
            clear hf hu g1 g2
            go_wp2
            go_roundw
            case rel => exact ⟨k + 1, by omega, by go_num, by rw [G1.out], by rw [G2.out], HB'⟩
            case measure => simp [intOf]; omega
          · have d2 : (u == (t : Int)) = false := by simp [hu]
            have g1 := HE1.out
            have g2 := HE2.out
            rw [if_pos hf] at g1
            rw [if_neg hu, Int.add_zero] at g2
            have G1 := Lib.hid g1
            have G2 := Lib.hid g2
            clear hf hu g1 g2
            go_wp2
            go_roundw
            case rel => exact ⟨k + 1, by omega, by go_num, by rw [G1.out], by rw [G2.out], HB'⟩
            case measure => simp [intOf]; omega
        · have d1 : (f == (s : Int)) = false := by simp [hf]
          by_cases hu : u = (t : Int)
          · have d2 : (u == (t : Int)) = true := by simp [hu]
            have g1 := HE1.out
            have g2 := HE2.out
            rw [if_neg hf, Int.add_zero] at g1
            rw [if_pos hu] at g2
            have G1 := Lib.hid g1
            have G2 := Lib.hid g2
            clear hf hu g1 g2
            go_wp2
            go_roundw
            case rel => exact ⟨k + 1, by omega, by go_num, by rw [G1.out], by rw [G2.out], HB'⟩
            case measure => simp [intOf]; omega
          · have d2 : (u == (t : Int)) = false := by simp [hu]
            have g1 := HE1.out
            have g2 := HE2.out
            rw [if_neg hf, Int.add_zero] at g1
            rw [if_neg hu, Int.add_zero] at g2
            have G1 := Lib.hid g1
            have G2 := Lib.hid g2
            clear hf hu g1 g2
            go_wp2
            go_roundw
            case rel => exact ⟨k + 1, by omega, by go_num, by rw [G1.out], by rw [G2.out], HB'⟩
            case measure => simp [intOf]; omega
      · obtain rfl : k = l.length := by omega
        obtain ⟨l1, l2⟩ := LS.out
        obtain ⟨x, hx⟩ : ∃ x, so l s l.length = x := ⟨_, rfl⟩
        obtain ⟨y, hy⟩ : ∃ y, si l t l.length = y := ⟨_, rfl⟩
        rw [hx] at hso l1
        rw [hy] at hsi l2
        rw [hx, hy]
        have BB5 := Lib.hid B5
        have hll2 : l.length ≤ 600 := h6
        clear hx hy HB LS hlt B5 H5 hz4 BB4
        go_wp2_with fail
        refine (K5.out v MX.out _ sg).mono ?_
        rintro e w6 ⟨Ap, cp', p, cw, er, rfl, slp, hb6, F6⟩
        have B6 := BB5.out.trans (hb6.mono Z5)
        clear q0 q1 sg Z5
        obtain ⟨q0, q1, Z6, sg, H6⟩ := HK.out _ B6
        have z6 : w.heap.size < w6.heap.size := by omega
        rcases F6.out with ⟨he, hv0⟩ | ⟨he, hh1, hh2, hpl, hp1⟩
        · subst he hv0
          have H7 := H6.alloc H6.size (.cells #[.slice Ap p.length cp', .int .i64 cw] 79)
          clear q0 q1 sg B6 hb6 slp F6 BB5 H6 l1 l2
          go_wp2
          go_ret
          exact ⟨by first | rfl | simp, H7⟩
        · subst he
          have hlw := LAW2.out v MX.out p hh1 hh2
          have HLW := Lib.hid hlw
          obtain ⟨m, hm⟩ : ∃ m, p.length = m := ⟨_, rfl⟩
          obtain ⟨W7, hW7⟩ : ∃ W7 : World, W7 = w6.alloc (.cells #[.slice Ap m cp', .int .i64 cw] 79) := ⟨_, rfl⟩
          have hbx : W7.heap[w6.heap.size]? = some (.cells #[.slice Ap m cp', .int .i64 cw] 79 (0, 0)) := by rw [hW7]; exact heap_alloc_new w6 _
          have hb67 : Below w6.heap.size w6 W7 := by rw [hW7]; exact (Below.refl _ _).alloc (Nat.le_refl _) _
          have SLP := Lib.hid (slp.keep hb67 (Nat.le_refl _))
          have BX7 := Lib.hid hbx
          have BB7 := Lib.hid (B6.trans (hb67.mono Z6))
          have HW7 := Lib.hid hW7
          have HM := Lib.hid hm
          have z67 : w6.heap.size < W7.heap.size := lt_of_block hbx
          rw [hm] at hpl hp1 ⊢
          clear q0 q1 sg B6 hb6 slp F6 BB5 H6 hlw hbx hb67 hm hh1 hh2 hso hsi
          clear hW7
          obtain ⟨r0, hr0⟩ : ∃ r0, m = r0 + 1 := ⟨m - 1, by omega⟩
          have HR0 := Lib.hid hr0
          clear hr0
          go_wp2
          rw [← HW7.out]
          go_loopw [18, 19] (fun s18 s19 wr => ∃ j : Nat, j + 1 ≤ m ∧ s19 = .int .i64 ((j : Int) + 1) ∧ s18 = .int .i64 (lst l p j) ∧ Hid (Below W7.heap.size W7 wr)) (fun _ i _ => m - (intOf i).toNat)
          case atStart => exact ⟨0, by omega, rfl, rfl, Lib.hid (Below.refl _ _)⟩
          case round =>
            obtain ⟨j, hj, rfl, rfl, HB⟩ := hrel
            have B8 := BB7.out.trans (HB.out.mono (by have := BB7.out.size; simp at this; omega))
            obtain ⟨q0, q1, Z8, sg, H8⟩ := HK.out _ B8
            have z8 : w.heap.size < wr.heap.size := by omega
            have hz8 := HB.out.size
            have hb8 := blk_below BX7.out HB.out z67
            have r0' := blk_cell hb8 0
            simp only [List.getElem?_toArray, List.getElem?_cons_zero, List.getElem?_cons_succ] at r0'
            have zr := lt_of_block hb8
            have hls := lst_bd HCB.out p j
            by_cases hjm : j + 1 < m
            · have hjl : j < p.length := by rw [HM.out]; omega
              have hjl2 : j + 1 < p.length := by rw [HM.out]; omega
              obtain ⟨W8, rfl⟩ : ∃ W8 : World, W8 = wr := ⟨_, rfl⟩
              have BB8 := Lib.hid B8
              have R8 := Lib.hid hb8
              have HB8 := Lib.hid HB.out
              obtain ⟨zl, hzl⟩ : ∃ zl, lst l p j = zl := ⟨_, rfl⟩
              rw [hzl] at hls ⊢
              have HZL := Lib.hid hzl
              obtain ⟨pu, hpu⟩ : ∃ pu, p.getD j 0 = pu := ⟨_, rfl⟩
              obtain ⟨pv, hpv⟩ : ∃ pv, p.getD (j + 1) 0 = pv := ⟨_, rfl⟩
              have HPU := Lib.hid hpu
              have HPV := Lib.hid hpv
              have dj : decide ((j : Int) + 1 < (m : Int)) = true := decide_eq_true (by omega)
              have zj : (j : Int) + 1 < (m : Int) := by omega
              clear hzl hpu hpv hb8 B8 HB
              go_wp2
              go_loopw [20, 101] (fun s20 i wr => ∃ k : Nat, k ≤ l.length ∧ i = .int .i64 k ∧ s20 = .int .i64 (wd l pu pv k) ∧ Hid (Below W8.heap.size W8 wr)) (fun _ i _ => l.length - (intOf i).toNat)
              case atStart => exact ⟨0, Nat.zero_le _, rfl, rfl, Lib.hid (Below.refl _ _)⟩
              case round =>
                obtain ⟨k, hk, rfl, rfl, HB⟩ := hrel
                have B9 := BB8.out.trans (HB.out.mono (by have := BB8.out.size; simp at this; omega))
                clear q0 q1 sg
                obtain ⟨q0, q1, Z9, sg, H9⟩ := HK.out _ B9
                have z9 : w.heap.size < wr.heap.size := by omega
                have hz9 := HB.out.size
                have hb9 := blk_below R8.out HB.out zr
                have r1' := blk_cell hb9 0
                simp only [List.getElem?_toArray, List.getElem?_cons_zero, List.getElem?_cons_succ] at r1'
                have zr9 := lt_of_block hb9
                have hwd := bd_sum (fun i => if fr l i = pu ∧ en l i = pv then cpt l i else 0) (fun i => by have := HCB.out i; split <;> omega) k
                have hwd : 0 ≤ wd l pu pv k ∧ wd l pu pv k ≤ 10000 * k := hwd
                by_cases hlt : k < l.length
                · obtain ⟨bE, oE, f, u, co, rfl, hbE, he, hcf, hct, hcc⟩ := sg.atE hlt
                  have hed : ed l k = (f, u, co) := by rw [ed_at hlt, he]
                  have hfr : fr l k = f := by rw [fr, hed]
                  have hen : en l k = u := by rw [en, hed]
                  have hcp : cpt l k = co := by rw [cpt, hed]
                  have hco := HCB.out k
                  rw [hcp] at hco
                  have e1 : wd l pu pv (k + 1) = wd l pu pv k + (if f = pu ∧ u = pv then co else 0) := by rw [← hfr, ← hen, ← hcp]; rfl
                  have HE1 := Lib.hid e1
                  obtain ⟨x9, hx9⟩ : ∃ x9, wd l pu pv k = x9 := ⟨_, rfl⟩
                  rw [hx9] at HE1 hwd
                  rw [hx9]
                  obtain ⟨c0, c1⟩ := hco
                  have wx : IntKind.i64.wrap (x9 + co) = x9 + co := by simp [IntKind.wrap, IntKind.bits, IntKind.signed]; omega
                  have zk : (k : Int) < (l.length : Int) := by omega
                  have hB79 := (HB8.out.trans (HB.out.mono hz8))
                  obtain ⟨bp, op, rfl, hbp, hc1⟩ := ((SLP.out.keep (hB79.mono (show w6.heap.size ≤ W7.heap.size by omega)) (Nat.le_refl _))).atI hjl
                  obtain ⟨bp', op', hA, _, hc2⟩ := ((SLP.out.keep (hB79.mono (show w6.heap.size ≤ W7.heap.size by omega)) (Nat.le_refl _))).atI hjl2
                  injection hA with hA
                  injection hA with hA1 hA2
                  subst hA1 hA2
                  have g1 : p[j] = pu := by rw [← HPU.out, List.getD_eq_getElem?_getD, List.getElem?_eq_getElem hjl]; rfl
                  have g2 : p[j + 1] = pv := by rw [← HPV.out, List.getD_eq_getElem?_getD, List.getElem?_eq_getElem hjl2]; rfl
                  rw [g1] at hc1
                  rw [g2] at hc2
                  have zbp : bp < wr.heap.size := by omega
                  have wj : IntKind.i64.wrap ((j : Int) + 1 - 1) = (j : Int) := by simp [IntKind.wrap, IntKind.bits, IntKind.signed]; omega
                  have zj1 : (j : Int) < (m : Int) := by omega
                  have HB' := Lib.hid (HB.out.alloc hz9 (.cells #[.int .i64 f, .int .i64 u, .int .i64 co] 27))
                  clear hed hfr hen hcp he e1 hx9 HB B9 H9 sg hB79 g1 g2 hb9
                  by_cases hf : f = pu
                  · have d1 : (f == pu) = true := by simp [hf]
                    by_cases hu : u = pv
                    · have d2 : (u == pv) = true := by simp [hu]
                      have g1 := HE1.out
                      rw [if_pos ⟨hf, hu⟩] at g1
                      have G1 := Lib.hid g1
                      clear hf hu g1
                      go_wp2
                      go_quiet (fail)
                      go_wp2
                      go_roundw
                      case rel => exact ⟨k + 1, by omega, by go_num, by rw [G1.out], Lib.hid (below_drewN HB'.out _)⟩
                      case measure => simp [intOf]; omega
                    · have d2 : (u == pv) = false := by simp [hu]
                      have g1 := HE1.out
                      rw [if_neg (fun h => hu h.2), Int.add_zero] at g1
                      have G1 := Lib.hid g1
                      clear hf hu g1
                      go_wp2
                      go_quiet (fail)
                      go_wp2
                      go_roundw
                      case rel => exact ⟨k + 1, by omega, by go_num, by rw [G1.out], Lib.hid (below_drewN HB'.out _)⟩
                      case measure => simp [intOf]; omega
                  · have d1 : (f == pu) = false := by simp [hf]
                    have g1 := HE1.out
                    rw [if_neg (fun h => hf h.1), Int.add_zero] at g1
                    have G1 := Lib.hid g1
                    clear hf g1
                    go_wp2
                    go_quiet (fail)
                    go_wp2
                    go_roundw
                    case rel => exact ⟨k + 1, by omega, by go_num, by rw [G1.out], Lib.hid (below_drewN HB'.out _)⟩
                    case measure => simp [intOf]; omega
                · obtain rfl : k = l.length := by omega
                  obtain ⟨x9, hx9⟩ : ∃ x9, wd l pu pv l.length = x9 := ⟨_, rfl⟩
                  have hnx : lst l p (j + 1) = min zl x9 := by rw [lst, HZL.out, HPU.out, HPV.out, hx9]
                  rw [hx9] at hwd
                  rw [hx9]
                  obtain ⟨mn, hmn⟩ : ∃ mn, min zl x9 = mn := ⟨_, rfl⟩
                  rw [hmn] at hnx
                  have hif : (if x9 < zl then x9 else zl) = mn := by split <;> omega
                  have HNX := Lib.hid hnx
                  have HBF := Lib.hid (HB8.out.trans (HB.out.mono hz8))
                  have wj2 : IntKind.i64.wrap ((j : Int) + 1 + 1) = (j : Int) + 1 + 1 := by simp [IntKind.wrap, IntKind.bits, IntKind.signed]; omega
                  clear hx9 hnx hmn HB B9 H9 sg hb9 hlt
                  go_wp2
                  go_roundw
                  case rel => exact ⟨j + 1, by omega, by first | go_num | (congr 1; omega), by rw [HNX.out], HBF⟩
                  case measure => simp [intOf]; omega
            · have hjr : p.length - 1 = j := by rw [HM.out]; omega
              have hlw := HLW.out
              rw [hjr] at hlw
              have dj : decide ((j : Int) + 1 < (m : Int)) = false := decide_eq_false (by omega)
              obtain ⟨z, hz⟩ : ∃ z, lst l p j = z := ⟨_, rfl⟩
              rw [hz] at hlw
              rw [hz]
              have d1 : decide (v ≤ x) = true := decide_eq_true l1
              have d2 : decide (v ≤ y) = true := decide_eq_true l2
              have d3 : decide (v ≥ z) = true := decide_eq_true hlw
              have d4 : decide (z ≤ v) = true := decide_eq_true hlw
              clear hz hjr sg hb8 B8 HB hls hlw l1 l2
              go_wp2
              go_ret
              exact ⟨by first | rfl | simp, H8⟩
  · have k2 := fun W h => max_any N a b A c l W h hll
    have hne : (ferr N l a b != 0) = true := by rw [bne_iff_ne]; exact hx
    have kn : ∀ W e w', MaxSays N a b l W e w' → e = .returned (.tuple #[.int .i64 0, .slice none 0 0, .int .i64 (ferr N l a b)]) ∧ Below W.heap.size W w' := fun W e w' h => ⟨h.1 hx, h.2.2⟩
    generalize ferr N l a b = x at *
    have K2 := Lib.hid k2
    have KN := Lib.hid kn
    clear k2 kn hx
    go_enter Try.func14, Try.ntmps14
    go_wp2_with fail
    refine (two_any _).mono ?_
    rintro e w1 ⟨g, rfl, own1, hb1⟩
    have B1 : Below (w.heap.size + 1) (w.alloc (.cells #[.int .i64 N, .slice A l.length c] 24)) w1 := hb1.mono (by simp)
    have Z1 : w.heap.size + 1 ≤ w1.heap.size := by have := hb1.size; simp at this; omega
    clear hb1
    go_wp2_with fail
    refine (KEY0.out _ _ own1.sl.2).mono ?_
    rintro e w3 ⟨A2, n2, c2, rfl, hb3⟩
    have B3 := B1.trans (hb3.mono Z1)
    have z3 : w.heap.size < w3.heap.size := by have := hb3.size; omega
    clear hb3 own1 B1 Z1
    obtain ⟨q0, q1, Z3, sg, H3⟩ := HK.out _ B3
    clear H3
    go_wp2_with fail
    refine (K2.out _ sg).mono ?_
    intro e w4 hms
    obtain ⟨rfl, hb4⟩ := KN.out _ _ _ hms
    have B4 := B3.trans (hb4.mono Z3)
    clear q0 q1 sg hms
    obtain ⟨q0, q1, Z4, sg, H4⟩ := HK.out _ B4
    clear hb4 B4 sg q0 q1 B3 Z3
    go_wp2
    go_ret
    exact ⟨by first | rfl | simp, H4⟩

theorem own : ownKnob Try.prog.godebug = none := by kernel_rfl
theorem laidOut : laidOutB Try.prog = true := by kernel_rfl

set_option maxRecDepth 100000 in
theorem lifted (os : Os) (started : os.Started) (H : Type) (enc : TypeId × Value → H) :
    ReturnsInHanded {} Try.checked os 14 .any (Rows.flowWaysSpec.pre6 enc Try.prog Try.f14 Rows.flowWaysRow.domain false) (Rows.flowWaysSpec.post enc Try.prog Try.f14 false true false false) := by
  refine returnsInHanded_of_change (C := Try.checked) own started (by kernel_rfl) Try.func14
    (ChangeSpec.witness6 (enc := enc) (C := Try.checked) false ⟨#[], #[.agg #[.int .i64 0, .slice none 0 0], .int .i64 0, .int .i64 0], []⟩ 8 (by kernel_rfl) (by kernel_rfl) (by kernel_rfl) (by kernel_rfl)) ?_
  intro W base args ds gs before hval0 hW hcnd _
  have hval : ∀ (j : Nat) t v, Try.f14.params[j]? = some t → args[j]? = some v → Value.okWide Try.prog W .any base t v := hval0
  have hW' := hW
  obtain ⟨p, q, hA0, hV, rfl, hfz, hnd⟩ := hW
  have hA : DataW.TrodAll enc Try.prog W 0 (fun _ => true) true Try.f14.params.toList args.toList ds p := hA0
  rw [Try.params14] at hA hval
  obtain ⟨v0, vs0, d0, ds0, p0, q0, hargs, rfl, rfl, h0, r0⟩ := trodAll_cons hA
  obtain ⟨v1, vs1, d1, ds1, p1, q1, rfl, rfl, rfl, h1, r1⟩ := trodAll_cons r0
  obtain ⟨v2, vs2, d2, ds2, p2, q2, rfl, rfl, rfl, h2, r2⟩ := trodAll_cons r1
  obtain ⟨rfl, rfl, rfl⟩ := trodAll_nil r2
  obtain rfl : args = #[v0, v1, v2] := by cases args; simp_all
  obtain ⟨rfl, rfl⟩ := trodVars_none hV
  obtain ⟨N0, A0, c0, l0, dd0, rfl, hN0, hG0, hb0, rfl, hd0⟩ := open_net Try.underlying24 (by kernel_rfl) (by kernel_rfl) Try.underlying3 Try.underlying22 Try.underlying27 (by kernel_rfl) (by kernel_rfl) Try.underlying3 Try.underlying3 Try.underlying3 (hval 0 24 v0 rfl rfl) h0
  obtain ⟨a1, rfl, rfl, rfl, wa1⟩ := open_int Try.underlying3 (hval 1 3 v1 rfl rfl) h1
  obtain ⟨a2, rfl, rfl, rfl, wa2⟩ := open_int Try.underlying3 (hval 2 3 v2 rfl rfl) h2
  refine (walk W N0 A0 c0 l0 hG0 a1 (wf_bd wa1) a2 (wf_bd wa2)).mono fun e W' ⟨he, hB⟩ => ?_
  subst he
  exact ⟨_, rfl, post_of_law laidOut rfl Try.underlying4 rfl (by intro t ht; rw [Try.params14] at ht; simp at ht; rcases ht with rfl | rfl | rfl <;> exact ⟨by kernel_rfl, of_decide_eq_true (by kernel_rfl)⟩) hW' rfl hB⟩

theorem holds : Rows.FlowWaysSaid :=
  OpenClaim.holds_of_wide 14 Try.f14 rfl rfl rfl rfl rfl rfl rfl ⟨rfl, rfl, rfl, rfl, rfl⟩ rfl rfl rfl rfl rfl (by kernel_rfl) Try.func14 (by kernel_rfl)
    (of_decide_eq_true (by kernel_rfl)) (by unfold Func.isWrapper; first | (rw [if_pos (by decide +kernel)]; kernel_rfl) | (rw [if_neg (by decide +kernel)]; exact ⟨rfl, rfl⟩))
    (fun os started H enc _ => lifted os started H enc)
#print axioms holds
end Go.Proofs.Ytlcgkbkmfelcfaa.FlowWaysLaw
