/- For every grid, side of squares and two places: HierInside answers true (within a square it never costs less than it may; between two squares there is no way within; in one square that is the whole ground it is the same), and the arguments read as before. No condition. -/
import Derived.Test.YtbgkkmcobijkgaaRows
import Derived.Test.YtbgkkmcobijkgaaOpen
import Derived.Test.YtbgkkmcobijkgaaHierFn2
namespace Go.Proofs.Ytbgkkmcobijkgaa.HierInsideLaw
open NetLaw hiding E
open Go.ChangeShapes Go.WideShapes Go.ChangeAt Go.RowKit Go.Proofs.Ytbgkkmcobijkgaa BellLaw DijkLaw GridLaw GroundLaw HierLaw Go.Proofs.Ytbgkkmcobijkgaa.Grid Go.Proofs.Ytbgkkmcobijkgaa.Net Go.Proofs.Ytbgkkmcobijkgaa.NetOf Go.Proofs.Ytbgkkmcobijkgaa.Std Go.Proofs.Ytbgkkmcobijkgaa.Hier
set_option linter.unusedSimpArgs false
set_option linter.unusedVariables false

/-- what the three costs are to each other -/
theorem three {W H k : Int} {l : List Int} {a b : Nat} (gg : GGood W H l) (ha : a < l.length) (hb : b < l.length) {x y z : Int} (hx : BtwP l.length (inn W k (allM W H l l.length)) a b x) (hy : DistP l.length (allM W H l l.length) a b y) (hz : BtwP l.length (inn W 8 (allM W H l l.length)) a b z) : y = z := by
  have hgood := ground_good gg
  have hlen := gg.len
  obtain ⟨D3, hD3, hz⟩ := hz
  rw [inn_all (fun e he => by
    obtain ⟨a1, a2, a3, a4⟩ := hgood.ends e he
    rw [sq_zero gg.w1 gg.w8 gg.h8 a1 (by omega), sq_zero gg.w1 gg.w8 gg.h8 a3 (by omega)])] at hD3
  rw [← hz]
  exact (hy.1 D3 hD3).symm
theorem two_of {W H k : Int} {l : List Int} {a b : Nat} (gg : GGood W H l) (ha : a < l.length) (hb : b < l.length) {x y : Int} (hx : BtwP l.length (inn W k (allM W H l l.length)) a b x) (hy : DistP l.length (allM W H l l.length) a b y) (hxf : x < far) : y ≤ x ∧ sq W k a = sq W k b := by
  obtain ⟨D, hD, hx⟩ := hx
  have hw := hD.wk b (by omega) (by omega) (by rw [hx]; exact hxf)
  rw [hx] at hw
  refine ⟨hy.2 x ?_ hxf, (in_square hw).symm⟩
  clear hD hx hxf hy
  generalize (b : Int) = bb at hw ⊢
  induction hw with
  | here => exact Wk.here
  | step hu he hf ih => exact Wk.step ih (inn_sub he) hf

set_option maxRecDepth 100000 in
set_option maxHeartbeats 4000000 in
theorem walk (w : World) (W H : Int) (A : Option Addr) (c : Nat) (l : List Int) (hW : -9223372036854775808 ≤ W ∧ W ≤ 9223372036854775807) (hH : -9223372036854775808 ≤ H ∧ H ≤ 9223372036854775807) (hA : Arg w 1 ci A c l) (k : Int) (hk : -9223372036854775808 ≤ k ∧ k ≤ 9223372036854775807) (a : Int) (ha : -9223372036854775808 ≤ a ∧ a ≤ 9223372036854775807) (b : Int) (hb : -9223372036854775808 ≤ b ∧ b ≤ 9223372036854775807) :
    Calls Try.prog 7 #[.agg #[.int .i64 W, .int .i64 H, .slice A l.length c], .int .i64 k, .int .i64 a, .int .i64 b] w fun e w' => e = .returned (.bool true) ∧ Below w.heap.size w w' := by
  have hs := hA.sl
  have hll : l.length ≤ 9223372036854775807 := Nat.le_trans hA.cap hA.max
  clear hA hW hH hk ha hb
  have KG := Lib.hid (fun W' => ground_k W')
  have K1 := Lib.hid (fun S W' h => between_one S W' h)
  have gb := fun X hX => gbox (c := c) (W := W) (H := H) (X := X) hs hX
  have GB := Lib.hid gb
  have hb0 : Below (w.heap.size + 1) (w.alloc (.cells #[.int .i64 W, .int .i64 H, .slice A l.length c] 24)) (w.alloc (.cells #[.int .i64 W, .int .i64 H, .slice A l.length c] 24)) := Below.refl _ _
  have HB0 := Lib.hid hb0
  have ksq := fun (v : Int) W' h => Square_any W H k v A l.length c l W' rfl h hll
  by_cases hg : lk W H l k = 0
  · obtain ⟨gg, k1, k8⟩ := lk_zero.1 hg
    have hsz := size_bd gg
    have hsq : ∀ v : Int, 0 ≤ v → v < (l.length : Int) → sqr W H l k v = (sq W k v, 0) := fun v h0 h1 => by rw [sqr, if_neg (by simp [hg]), if_neg (by omega)]
    have hsn : ∀ v : Int, ¬ (0 ≤ v ∧ v < (l.length : Int)) → sqr W H l k v = (0, 1) := fun v h => by rw [sqr, if_neg (by simp [hg]), if_pos (by omega)]
    by_cases hok : (0 ≤ a ∧ a < l.length) ∧ (0 ≤ b ∧ b < l.length)
    · obtain ⟨⟨a0, a1⟩, b0, b1⟩ := hok
      obtain ⟨a, rfl⟩ := Int.eq_ofNat_of_zero_le a0
      obtain ⟨b, rfl⟩ := Int.eq_ofNat_of_zero_le b0
      have kb := fun W' h => between_yes W H k a b A l.length c l W' rfl h gg k1 k8 (by omega) (by omega)
      have k3 := fun W' h => between_yes W H 8 a b A l.length c l W' rfl h gg (by decide) (by decide) (by omega) (by omega)
      have kd := fun W' h => dist_yes W H k a b A l.length c l W' rfl h gg k1 k8 (by omega) (by omega)
      have ka := fun W' h => ksq a W' h
      have kbb := fun W' h => ksq b W' h
      simp only [hsq a a0 a1] at ka
      simp only [hsq b b0 b1] at kbb
      have h3 := fun x y z => @three W H k l a b gg (by omega) (by omega) x y z
      have h2 := fun x y => @two_of W H k l a b gg (by omega) (by omega) x y
      have KB := Lib.hid kb
      have KT := Lib.hid k3
      have KD := Lib.hid kd
      have KA := Lib.hid ka
      have KBB := Lib.hid kbb
      have H3 := Lib.hid h3
      have H2 := Lib.hid h2
      clear kb k3 kd ka kbb h3 h2 hsq hsn ksq gg hg gb hb0 hs
      go_enter Try.func7, Try.ntmps7
      go_wp2_with fail
      refine (KG.out _).mono ?_
      rintro e w1 ⟨S1, rfl, s1, hb1⟩
      have B1 := HB0.out.trans (hb1.mono (by simp))
      have Z1 : w.heap.size + 1 ≤ w1.heap.size := by have := B1.size; simpa using this
      clear hb1
      go_wp2_with fail
      refine (K1.out _ _ s1).mono ?_
      rintro e w2 ⟨rfl, hb2⟩
      have B2 := B1.trans (hb2.mono Z1)
      have Z2 : w.heap.size + 1 ≤ w2.heap.size := Nat.le_trans Z1 hb2.size
      clear hb2 s1 B1
      obtain ⟨⟨q0, q1, q2⟩, sl, HX, _⟩ := GB.out _ B2
      go_wp2_with fail
      refine (KB.out _ sl).mono ?_
      rintro e w3 ⟨x, HX3, hx0, hb3, hc3⟩
      rcases hc3 with ⟨hx, rfl⟩ | ⟨hx, rfl⟩
      · cases hsb : (sq W k a != sq W k b)
        all_goals
          have B3 := B2.trans (hb3.out.mono Z2)
          have Z3 := Nat.le_trans Z2 hb3.out.size
          clear q0 q1 q2 sl HX B2
          obtain ⟨⟨q0, q1, q2⟩, sl, HX, _⟩ := GB.out _ B3
          go_wp2_with fail
          refine (KD.out _ sl).mono ?_
          rintro e w4 ⟨y, HY4, hy0, hb4, hc4⟩
          rcases hc4 with ⟨hy, rfl⟩ | ⟨hy, rfl⟩
          · skip
            have B4 := B3.trans (hb4.out.mono Z3)
            have Z4 := Nat.le_trans Z3 hb4.out.size
            clear q0 q1 q2 sl HX B3
            obtain ⟨⟨q0, q1, q2⟩, sl, HX, _⟩ := GB.out _ B4
            go_wp2_with fail
            refine (KA.out _ sl).mono ?_
            rintro e w5 ⟨rfl, hb5⟩
            have B5 := B4.trans (hb5.mono Z4)
            have Z5 := Nat.le_trans Z4 hb5.size
            clear q0 q1 q2 sl HX B4
            obtain ⟨⟨q0, q1, q2⟩, sl, HX, _⟩ := GB.out _ B5
            go_wp2_with fail
            refine (KBB.out _ sl).mono ?_
            rintro e w6 ⟨rfl, hb6⟩
            have B6 := B5.trans (hb6.mono Z5)
            have Z6 := Nat.le_trans Z5 hb6.size
            clear q0 q1 q2 sl HX B5
            obtain ⟨⟨q0, q1, q2⟩, sl, HX, _⟩ := GB.out _ B6
            go_wp2_with fail
            refine (KT.out _ sl).mono ?_
            rintro e w7 ⟨z, HZ7, hz0, hb7, hc7⟩
            have hz := H3.out x y z HX3.out HY4.out HZ7.out
            have B7 := B6.trans (hb7.out.mono Z6)
            have HF := Lib.hid (GB.out _ B7).2.2.1
            clear q0 q1 q2 sl HX B6 B7
            rcases hc7 with ⟨h7, rfl⟩ | ⟨h7, rfl⟩
            · clear hx hy h7 hz
              go_wp2
              go_ret
              exact ⟨rfl, HF.out⟩
            · exact absurd h7 (by rw [← hz, hy]; decide)
          · skip
            have B4 := B3.trans (hb4.out.mono Z3)
            have Z4 := Nat.le_trans Z3 hb4.out.size
            clear q0 q1 q2 sl HX B3
            obtain ⟨⟨q0, q1, q2⟩, sl, HX, _⟩ := GB.out _ B4
            go_wp2_with fail
            refine (KA.out _ sl).mono ?_
            rintro e w5 ⟨rfl, hb5⟩
            have B5 := B4.trans (hb5.mono Z4)
            have Z5 := Nat.le_trans Z4 hb5.size
            clear q0 q1 q2 sl HX B4
            obtain ⟨⟨q0, q1, q2⟩, sl, HX, _⟩ := GB.out _ B5
            go_wp2_with fail
            refine (KBB.out _ sl).mono ?_
            rintro e w6 ⟨rfl, hb6⟩
            have B6 := B5.trans (hb6.mono Z5)
            have Z6 := Nat.le_trans Z5 hb6.size
            clear q0 q1 q2 sl HX B5
            obtain ⟨⟨q0, q1, q2⟩, sl, HX, _⟩ := GB.out _ B6
            go_wp2_with fail
            refine (KT.out _ sl).mono ?_
            rintro e w7 ⟨z, HZ7, hz0, hb7, hc7⟩
            have hz := H3.out x y z HX3.out HY4.out HZ7.out
            have B7 := B6.trans (hb7.out.mono Z6)
            have HF := Lib.hid (GB.out _ B7).2.2.1
            clear q0 q1 q2 sl HX B6 B7
            rcases hc7 with ⟨h7, rfl⟩ | ⟨h7, rfl⟩
            · exact absurd hy (by rw [hz, h7]; decide)
            · subst hz
              clear hx hy h7
              go_wp2
              go_ret
              exact ⟨rfl, HF.out⟩
      · skip
        have B3 := B2.trans (hb3.out.mono Z2)
        have Z3 := Nat.le_trans Z2 hb3.out.size
        clear q0 q1 q2 sl HX B2
        obtain ⟨⟨q0, q1, q2⟩, sl, HX, _⟩ := GB.out _ B3
        go_wp2_with fail
        refine (KD.out _ sl).mono ?_
        rintro e w4 ⟨y, HY4, hy0, hb4, hc4⟩
        obtain ⟨hyx, hss⟩ := H2.out x y HX3.out HY4.out hx
        have hss2 : (sq W k a != sq W k b) = false := by rw [hss]; simp
        have HSS := Lib.hid hss
        rcases hc4 with ⟨hy, rfl⟩ | ⟨hy, rfl⟩
        · exact absurd hx (by rw [hy] at hyx; omega)
        · skip
          have hyx2 : ¬ x < y := by omega
          clear hss
          have B4 := B3.trans (hb4.out.mono Z3)
          have Z4 := Nat.le_trans Z3 hb4.out.size
          clear q0 q1 q2 sl HX B3
          obtain ⟨⟨q0, q1, q2⟩, sl, HX, _⟩ := GB.out _ B4
          go_wp2_with fail
          refine (KA.out _ sl).mono ?_
          rintro e w5 ⟨rfl, hb5⟩
          have B5 := B4.trans (hb5.mono Z4)
          have Z5 := Nat.le_trans Z4 hb5.size
          clear q0 q1 q2 sl HX B4
          obtain ⟨⟨q0, q1, q2⟩, sl, HX, _⟩ := GB.out _ B5
          go_wp2_with fail
          refine (KBB.out _ sl).mono ?_
          rintro e w6 ⟨rfl, hb6⟩
          have B6 := B5.trans (hb6.mono Z5)
          have Z6 := Nat.le_trans Z5 hb6.size
          clear q0 q1 q2 sl HX B5
          obtain ⟨⟨q0, q1, q2⟩, sl, HX, _⟩ := GB.out _ B6
          go_wp2_with fail
          refine (KT.out _ sl).mono ?_
          rintro e w7 ⟨z, HZ7, hz0, hb7, hc7⟩
          have hz := H3.out x y z HX3.out HY4.out HZ7.out
          have B7 := B6.trans (hb7.out.mono Z6)
          have HF := Lib.hid (GB.out _ B7).2.2.1
          clear q0 q1 q2 sl HX B6 B7
          rcases hc7 with ⟨h7, rfl⟩ | ⟨h7, rfl⟩
          · exact absurd hy (by rw [hz, h7]; decide)
          · subst hz
            clear hx hy h7
            go_wp2
            go_ret
            exact ⟨rfl, HF.out⟩
    · have kb := fun W' h => between_bad W H k a b A l.length c l W' rfl h hll hg hok
      have kd := fun W' h => dist_bad W H k a b A l.length c l W' rfl h hll hg hok
      have KB := Lib.hid kb
      have KD := Lib.hid kd
      by_cases haa : 0 ≤ a ∧ a < (l.length : Int)
      · have hbb : ¬ (0 ≤ b ∧ b < (l.length : Int)) := fun h => hok ⟨haa, h⟩
        have ka := fun W' h => ksq a W' h
        have kbb := fun W' h => ksq b W' h
        simp only [hsq a haa.1 haa.2] at ka
        simp only [hsn b hbb] at kbb
        have KA := Lib.hid ka
        have KBB := Lib.hid kbb
        clear kb kd ka kbb hsq hsn ksq gg hg gb hb0 hs hok haa hbb
        go_enter Try.func7, Try.ntmps7
        go_wp2_with fail
        refine (KG.out _).mono ?_
        rintro e w1 ⟨S1, rfl, s1, hb1⟩
        have B1 := HB0.out.trans (hb1.mono (by simp))
        have Z1 : w.heap.size + 1 ≤ w1.heap.size := by have := B1.size; simpa using this
        clear hb1
        go_wp2_with fail
        refine (K1.out _ _ s1).mono ?_
        rintro e w2 ⟨rfl, hb2⟩
        have B2 := B1.trans (hb2.mono Z1)
        have Z2 : w.heap.size + 1 ≤ w2.heap.size := Nat.le_trans Z1 hb2.size
        clear hb2 s1 B1
        obtain ⟨⟨q0, q1, q2⟩, sl, HX, _⟩ := GB.out _ B2
        go_wp2_with fail
        refine (KB.out _ sl).mono ?_
        rintro e w3 ⟨rfl, hb3⟩
        have B3 := B2.trans (hb3.mono Z2)
        have Z3 := Nat.le_trans Z2 hb3.size
        clear q0 q1 q2 sl HX B2
        obtain ⟨⟨q0, q1, q2⟩, sl, HX, _⟩ := GB.out _ B3
        go_wp2_with fail
        refine (KD.out _ sl).mono ?_
        rintro e w4 ⟨rfl, hb4⟩
        have B4 := B3.trans (hb4.mono Z3)
        have Z4 := Nat.le_trans Z3 hb4.size
        clear q0 q1 q2 sl HX B3
        obtain ⟨⟨q0, q1, q2⟩, sl, HX, _⟩ := GB.out _ B4
        go_wp2_with fail
        refine (KA.out _ sl).mono ?_
        rintro e w5 ⟨rfl, hb5⟩
        have B5 := B4.trans (hb5.mono Z4)
        have Z5 := Nat.le_trans Z4 hb5.size
        clear q0 q1 q2 sl HX B4
        obtain ⟨⟨q0, q1, q2⟩, sl, HX, _⟩ := GB.out _ B5
        go_wp2_with fail
        refine (KBB.out _ sl).mono ?_
        rintro e w6 ⟨rfl, hb6⟩
        have HF := Lib.hid (HX.trans (hb6.mono HX.size))
        clear q0 q1 q2 sl HX B5 hb6
        go_wp2
        go_ret
        exact ⟨rfl, HF.out⟩
      · have ka := fun W' h => ksq a W' h
        simp only [hsn a haa] at ka
        have kbb := fun W' h => ksq b W' h
        generalize sqr W H l k b = rb at *
        have KA := Lib.hid ka
        have KBB := Lib.hid kbb
        clear kb kd ka kbb hsq hsn ksq gg hg gb hb0 hs hok haa
        go_enter Try.func7, Try.ntmps7
        go_wp2_with fail
        refine (KG.out _).mono ?_
        rintro e w1 ⟨S1, rfl, s1, hb1⟩
        have B1 := HB0.out.trans (hb1.mono (by simp))
        have Z1 : w.heap.size + 1 ≤ w1.heap.size := by have := B1.size; simpa using this
        clear hb1
        go_wp2_with fail
        refine (K1.out _ _ s1).mono ?_
        rintro e w2 ⟨rfl, hb2⟩
        have B2 := B1.trans (hb2.mono Z1)
        have Z2 : w.heap.size + 1 ≤ w2.heap.size := Nat.le_trans Z1 hb2.size
        clear hb2 s1 B1
        obtain ⟨⟨q0, q1, q2⟩, sl, HX, _⟩ := GB.out _ B2
        go_wp2_with fail
        refine (KB.out _ sl).mono ?_
        rintro e w3 ⟨rfl, hb3⟩
        have B3 := B2.trans (hb3.mono Z2)
        have Z3 := Nat.le_trans Z2 hb3.size
        clear q0 q1 q2 sl HX B2
        obtain ⟨⟨q0, q1, q2⟩, sl, HX, _⟩ := GB.out _ B3
        go_wp2_with fail
        refine (KD.out _ sl).mono ?_
        rintro e w4 ⟨rfl, hb4⟩
        have B4 := B3.trans (hb4.mono Z3)
        have Z4 := Nat.le_trans Z3 hb4.size
        clear q0 q1 q2 sl HX B3
        obtain ⟨⟨q0, q1, q2⟩, sl, HX, _⟩ := GB.out _ B4
        go_wp2_with fail
        refine (KA.out _ sl).mono ?_
        rintro e w5 ⟨rfl, hb5⟩
        have B5 := B4.trans (hb5.mono Z4)
        have Z5 := Nat.le_trans Z4 hb5.size
        clear q0 q1 q2 sl HX B4
        obtain ⟨⟨q0, q1, q2⟩, sl, HX, _⟩ := GB.out _ B5
        go_wp2_with fail
        refine (KBB.out _ sl).mono ?_
        rintro e w6 ⟨rfl, hb6⟩
        have HF := Lib.hid (HX.trans (hb6.mono HX.size))
        clear q0 q1 q2 sl HX B5 hb6
        go_wp2
        go_ret
        exact ⟨rfl, HF.out⟩
  · have kb := fun W' h => between_no W H k a b A l.length c l W' rfl h hll hg
    have kd := fun W' h => dist_no W H k a b A l.length c l W' rfl h hll hg
    have hsn : ∀ v : Int, sqr W H l k v = (0, lk W H l k) := fun v => by rw [sqr, if_pos hg]
    have ka := fun W' h => ksq a W' h
    have kbb := fun W' h => ksq b W' h
    simp only [hsn] at ka kbb
    have hne : (lk W H l k != 0) = true := by rw [bne_iff_ne]; exact hg
    generalize lk W H l k = er at *
    have KB := Lib.hid kb
    have KD := Lib.hid kd
    have KA := Lib.hid ka
    have KBB := Lib.hid kbb
    clear kb kd ka kbb hsn ksq hg gb hb0 hs
    go_enter Try.func7, Try.ntmps7
    go_wp2_with fail
    refine (KG.out _).mono ?_
    rintro e w1 ⟨S1, rfl, s1, hb1⟩
    have B1 := HB0.out.trans (hb1.mono (by simp))
    have Z1 : w.heap.size + 1 ≤ w1.heap.size := by have := B1.size; simpa using this
    clear hb1
    go_wp2_with fail
    refine (K1.out _ _ s1).mono ?_
    rintro e w2 ⟨rfl, hb2⟩
    have B2 := B1.trans (hb2.mono Z1)
    have Z2 : w.heap.size + 1 ≤ w2.heap.size := Nat.le_trans Z1 hb2.size
    clear hb2 s1 B1
    obtain ⟨⟨q0, q1, q2⟩, sl, HX, _⟩ := GB.out _ B2
    go_wp2_with fail
    refine (KB.out _ sl).mono ?_
    rintro e w3 ⟨rfl, hb3⟩
    have B3 := B2.trans (hb3.mono Z2)
    have Z3 := Nat.le_trans Z2 hb3.size
    clear q0 q1 q2 sl HX B2
    obtain ⟨⟨q0, q1, q2⟩, sl, HX, _⟩ := GB.out _ B3
    go_wp2_with fail
    refine (KD.out _ sl).mono ?_
    rintro e w4 ⟨rfl, hb4⟩
    have B4 := B3.trans (hb4.mono Z3)
    have Z4 := Nat.le_trans Z3 hb4.size
    clear q0 q1 q2 sl HX B3
    obtain ⟨⟨q0, q1, q2⟩, sl, HX, _⟩ := GB.out _ B4
    go_wp2_with fail
    refine (KA.out _ sl).mono ?_
    rintro e w5 ⟨rfl, hb5⟩
    have B5 := B4.trans (hb5.mono Z4)
    have Z5 := Nat.le_trans Z4 hb5.size
    clear q0 q1 q2 sl HX B4
    obtain ⟨⟨q0, q1, q2⟩, sl, HX, _⟩ := GB.out _ B5
    go_wp2_with fail
    refine (KBB.out _ sl).mono ?_
    rintro e w6 ⟨rfl, hb6⟩
    have HF := Lib.hid (HX.trans (hb6.mono HX.size))
    clear q0 q1 q2 sl HX B5 hb6
    go_wp2
    go_ret
    exact ⟨rfl, HF.out⟩

theorem own : ownKnob Try.prog.godebug = none := by kernel_rfl
theorem laidOut : laidOutB Try.prog = true := by kernel_rfl

set_option maxRecDepth 100000 in
theorem lifted (os : Os) (started : os.Started) (H : Type) (enc : TypeId × Value → H) :
    ReturnsInHanded {} Try.checked os 7 .any (Rows.hierInsideSpec.pre6 enc Try.prog Try.f7 Rows.hierInsideRow.domain false) (Rows.hierInsideSpec.post enc Try.prog Try.f7 false true false false) := by
  refine returnsInHanded_of_change (C := Try.checked) own started (by kernel_rfl) Try.func7
    (ChangeSpec.witness6 (enc := enc) (C := Try.checked) false ⟨#[], #[.agg #[.int .i64 0, .int .i64 0, .slice none 0 0], .int .i64 0, .int .i64 0, .int .i64 0], []⟩ 8 (by kernel_rfl) (by kernel_rfl) (by kernel_rfl) (by kernel_rfl)) ?_
  intro W base args ds gs before hval0 hW hcnd _
  have hval : ∀ (j : Nat) t v, Try.f7.params[j]? = some t → args[j]? = some v → Value.okWide Try.prog W .any base t v := hval0
  have hW' := hW
  obtain ⟨p, q, hA0, hV, rfl, hfz, hnd⟩ := hW
  have hA : DataW.TrodAll enc Try.prog W 0 (fun _ => true) true Try.f7.params.toList args.toList ds p := hA0
  rw [Try.params7] at hA hval
  obtain ⟨v0, vs0, d0, ds0, p0, q0, hargs, rfl, rfl, h0, r0⟩ := trodAll_cons hA
  obtain ⟨v1, vs1, d1, ds1, p1, q1, rfl, rfl, rfl, h1, r1⟩ := trodAll_cons r0
  obtain ⟨v2, vs2, d2, ds2, p2, q2, rfl, rfl, rfl, h2, r2⟩ := trodAll_cons r1
  obtain ⟨v3, vs3, d3, ds3, p3, q3, rfl, rfl, rfl, h3, r3⟩ := trodAll_cons r2
  obtain ⟨rfl, rfl, rfl⟩ := trodAll_nil r3
  obtain rfl : args = #[v0, v1, v2, v3] := by cases args; simp_all
  obtain ⟨rfl, rfl⟩ := trodVars_none hV
  obtain ⟨W0, H0, A0, c0, l0, dd0, rfl, hW0, hH0, hG0, hb0, rfl, hd0⟩ := open_grid Try.underlying24 (by kernel_rfl) (by kernel_rfl) Try.underlying3 Try.underlying3 Try.underlying22 Try.underlying3 (by kernel_rfl) (hval 0 24 v0 rfl rfl) h0
  obtain ⟨a1, rfl, rfl, rfl, wa1⟩ := open_int Try.underlying3 (hval 1 3 v1 rfl rfl) h1
  obtain ⟨a2, rfl, rfl, rfl, wa2⟩ := open_int Try.underlying3 (hval 2 3 v2 rfl rfl) h2
  obtain ⟨a3, rfl, rfl, rfl, wa3⟩ := open_int Try.underlying3 (hval 3 3 v3 rfl rfl) h3
  refine (walk W W0 H0 A0 c0 l0 hW0 hH0 hG0 a1 (wf_bd wa1) a2 (wf_bd wa2) a3 (wf_bd wa3)).mono fun e W' ⟨he, hB⟩ => ?_
  subst he
  exact ⟨_, rfl, post_of_law laidOut rfl Try.underlying4 rfl (by intro t ht; rw [Try.params7] at ht; simp at ht; rcases ht with rfl | rfl | rfl | rfl <;> exact ⟨by kernel_rfl, of_decide_eq_true (by kernel_rfl)⟩) hW' rfl hB⟩

theorem holds : Rows.HierInsideSaid :=
  OpenClaim.holds_of_wide 7 Try.f7 rfl rfl rfl rfl rfl rfl rfl ⟨rfl, rfl, rfl, rfl, rfl⟩ rfl rfl rfl rfl rfl (by kernel_rfl) Try.func7 (by kernel_rfl)
    (of_decide_eq_true (by kernel_rfl)) (by unfold Func.isWrapper; first | (rw [if_pos (by decide +kernel)]; kernel_rfl) | (rw [if_neg (by decide +kernel)]; exact ⟨rfl, rfl⟩))
    (fun os started H enc _ => lifted os started H enc)
#print axioms holds
end Go.Proofs.Ytbgkkmcobijkgaa.HierInsideLaw
