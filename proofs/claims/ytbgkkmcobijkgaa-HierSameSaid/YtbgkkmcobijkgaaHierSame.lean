/- For every grid, side of squares and two places: HierSame answers true (over doors it costs what it costs without), and the arguments read as before. No condition. -/
import Derived.Test.YtbgkkmcobijkgaaRows
import Derived.Test.YtbgkkmcobijkgaaOpen
import Derived.Test.YtbgkkmcobijkgaaHierFn2
namespace Go.Proofs.Ytbgkkmcobijkgaa.HierSameLaw
open NetLaw hiding E
open Go.ChangeShapes Go.WideShapes Go.ChangeAt Go.RowKit Go.Proofs.Ytbgkkmcobijkgaa BellLaw DijkLaw GridLaw GroundLaw HierLaw Go.Proofs.Ytbgkkmcobijkgaa.Grid Go.Proofs.Ytbgkkmcobijkgaa.Net Go.Proofs.Ytbgkkmcobijkgaa.NetOf Go.Proofs.Ytbgkkmcobijkgaa.Std Go.Proofs.Ytbgkkmcobijkgaa.Hier
set_option linter.unusedSimpArgs false
set_option linter.unusedVariables false

set_option maxRecDepth 100000 in
set_option maxHeartbeats 4000000 in
theorem walk (w : World) (W H : Int) (A : Option Addr) (c : Nat) (l : List Int) (hW : -9223372036854775808 ≤ W ∧ W ≤ 9223372036854775807) (hH : -9223372036854775808 ≤ H ∧ H ≤ 9223372036854775807) (hA : Arg w 1 ci A c l) (k : Int) (hk : -9223372036854775808 ≤ k ∧ k ≤ 9223372036854775807) (a : Int) (ha : -9223372036854775808 ≤ a ∧ a ≤ 9223372036854775807) (b : Int) (hb : -9223372036854775808 ≤ b ∧ b ≤ 9223372036854775807) :
    Calls Try.prog 9 #[.agg #[.int .i64 W, .int .i64 H, .slice A l.length c], .int .i64 k, .int .i64 a, .int .i64 b] w fun e w' => e = .returned (.bool true) ∧ Below w.heap.size w w' := by
  have hs := hA.sl
  have hll : l.length ≤ 9223372036854775807 := Nat.le_trans hA.cap hA.max
  clear hA hW hH hk ha hb
  have KG := Lib.hid (fun W' => ground_k W')
  have K1 := Lib.hid (fun S W' h => dist_one S W' h)
  have gb := fun X hX => gbox (c := c) (W := W) (H := H) (X := X) hs hX
  have GB := Lib.hid gb
  have hb0 : Below (w.heap.size + 1) (w.alloc (.cells #[.int .i64 W, .int .i64 H, .slice A l.length c] 24)) (w.alloc (.cells #[.int .i64 W, .int .i64 H, .slice A l.length c] 24)) := Below.refl _ _
  have HB0 := Lib.hid hb0
  by_cases hg : gchk W H l = 0
  · have gg := gchk_zero.1 hg
    have hgood := ground_good gg
    have hpos := ground_pos gg
    have hsz := size_bd gg
    have ko := fun W' h => of_yes W H A c l W' h gg
    have hml : (allM W H l l.length).length ≤ 600 := by
      have h2 := allM_len W H l l.length
      omega
    have hlk := look_ground (a := a) hgood hpos
    have hm := allM_len W H l l.length
    generalize hall : allM W H l l.length = m at *
    have kn := fun (h1 : a < 0 ∨ (l.length : Int) ≤ a) A c W' h => DijkTwo.dist_no l.length A c m a (by omega) (by rw [hlk, if_pos h1]; decide) W' h
    have ky := fun (h1 : ¬ (a < 0 ∨ (l.length : Int) ≤ a)) A c W' h => DijkTwo.dist_yes l.length A c m a (by omega) (by rw [hlk, if_neg h1]) W' h
    by_cases hok : (1 ≤ k ∧ k ≤ 8) ∧ (0 ≤ a ∧ a < l.length) ∧ (0 ≤ b ∧ b < l.length)
    · obtain ⟨⟨k1, k8⟩, ⟨a0, a1⟩, b0, b1⟩ := hok
      have ky' := ky (by omega)
      obtain ⟨a, rfl⟩ := Int.eq_ofNat_of_zero_le a0
      obtain ⟨b, rfl⟩ := Int.eq_ofNat_of_zero_le b0
      have kd := fun W' h => dist_yes W H k a b A l.length c l W' rfl h gg k1 k8 (by omega) (by omega)
      have KO := Lib.hid ko
      have KY := Lib.hid ky'
      have KD := Lib.hid kd
      have HALL := Lib.hid hall
      clear ko ky ky' kn kd hgood hpos hlk hs gb hb0 gg hg hall
      go_enter Try.func9, Try.ntmps9
      go_wp2_with fail
      refine (KG.out _).mono ?_
      rintro e w1 ⟨S1, rfl, s1, hb1⟩
      have B1 := HB0.out.trans (hb1.mono (by simp))
      have Z1 : w.heap.size + 1 ≤ w1.heap.size := by have := B1.size; simpa using this
      clear hb1
      go_wp2_with fail
      refine (K1.out _ _ s1).mono ?_
      rintro e w2 ⟨rfl, hb2⟩
      have B2 := B1.trans (hb2.mono Z1)
      have Z2 : w.heap.size + 1 ≤ w2.heap.size := Nat.le_trans Z1 hb2.size
      clear hb2 s1 B1
      obtain ⟨⟨q0, q1, q2⟩, sl, HX, _⟩ := GB.out _ B2
      go_wp2_with fail
      refine (KD.out _ sl).mono ?_
      rintro e w3 ⟨x, HX3, hx0, HB3, h3⟩
      have B3 := B2.trans (HB3.out.mono Z2)
      have Z3 := Nat.le_trans Z2 HB3.out.size
      clear q0 q1 q2 sl HX B2
      obtain ⟨⟨q0, q1, q2⟩, sl, HX, _⟩ := GB.out _ B3
      rcases h3 with ⟨hx, rfl⟩ | ⟨hx, rfl⟩
      · skip
        go_wp2_with fail
        refine (KO.out _ sl).mono ?_
        rintro e w4 ⟨A4, c4, rfl, o4, hb4⟩
        have B4 := B3.trans (hb4.mono Z3)
        have Z4 := Nat.le_trans Z3 hb4.size
        have hn4 := heap_alloc_new w4 (.cells #[.int .i64 l.length, .slice A4 m.length c4] 32)
        have sl4 := (o4.alloc (.cells #[.int .i64 l.length, .slice A4 m.length c4] 32)).sl.2
        have B4' := B4.alloc Z4 (.cells #[.int .i64 l.length, .slice A4 m.length c4] 32)
        have H4 := Lib.hid (GB.out _ B4').2.2.1
        have HN4 := Lib.hid hn4
        have SL4 := Lib.hid sl4
        clear q0 q1 q2 sl HX hb4 o4 B3 B4 B4' hn4 sl4
        go_wp2_with fail
        refine (KY.out A4 c4 _ SL4.out).mono ?_
        rintro e w5 ⟨S, D, rfl, own5, hb5, HSH⟩
        have hD := HX3.out.1
        rw [HALL.out] at hD
        have hxd := hD D HSH.out
        have hdl := HSH.out.len
        have hDl : D.length = l.length := by omega
        rw [show ((l.length : Int)).toNat = l.length by simp] at own5
        obtain ⟨dc, _⟩ := own_at1 hDl own5 (show b < l.length by omega)
        have hdg : dg D (b : Int) = D.getD b 0 := by rw [dg, Int.toNat_natCast]
        rw [← hdg, hxd] at dc
        have HF := Lib.hid (H4.out.trans (hb5.mono H4.out.size))
        have hq4 := blk_below HN4.out hb5 (by simp)
        have n0 := blk_cell hq4 0
        simp only [List.getElem?_toArray, List.getElem?_cons_zero, List.getElem?_cons_succ] at n0
        have hS5 := (own5.base_ S rfl).2
        have hS6 := lt_of_block hq4
        have zt : ((l.length : Int)).toNat = l.length := by simp
        rw [hx] at dc
        unfold far at dc
        clear own5 hD hxd hdl hDl hdg hb5 hq4 hx
        go_wp2
        go_ret
        exact ⟨rfl, HF.out⟩
      · skip
        go_wp2_with fail
        refine (KO.out _ sl).mono ?_
        rintro e w4 ⟨A4, c4, rfl, o4, hb4⟩
        have B4 := B3.trans (hb4.mono Z3)
        have Z4 := Nat.le_trans Z3 hb4.size
        have hn4 := heap_alloc_new w4 (.cells #[.int .i64 l.length, .slice A4 m.length c4] 32)
        have sl4 := (o4.alloc (.cells #[.int .i64 l.length, .slice A4 m.length c4] 32)).sl.2
        have B4' := B4.alloc Z4 (.cells #[.int .i64 l.length, .slice A4 m.length c4] 32)
        have H4 := Lib.hid (GB.out _ B4').2.2.1
        have HN4 := Lib.hid hn4
        have SL4 := Lib.hid sl4
        clear q0 q1 q2 sl HX hb4 o4 B3 B4 B4' hn4 sl4
        go_wp2_with fail
        refine (KY.out A4 c4 _ SL4.out).mono ?_
        rintro e w5 ⟨S, D, rfl, own5, hb5, HSH⟩
        have hD := HX3.out.1
        rw [HALL.out] at hD
        have hxd := hD D HSH.out
        have hdl := HSH.out.len
        have hDl : D.length = l.length := by omega
        rw [show ((l.length : Int)).toNat = l.length by simp] at own5
        obtain ⟨dc, _⟩ := own_at1 hDl own5 (show b < l.length by omega)
        have hdg : dg D (b : Int) = D.getD b 0 := by rw [dg, Int.toNat_natCast]
        rw [← hdg, hxd] at dc
        have HF := Lib.hid (H4.out.trans (hb5.mono H4.out.size))
        have hq4 := blk_below HN4.out hb5 (by simp)
        have n0 := blk_cell hq4 0
        simp only [List.getElem?_toArray, List.getElem?_cons_zero, List.getElem?_cons_succ] at n0
        have hS5 := (own5.base_ S rfl).2
        have hS6 := lt_of_block hq4
        have zt : ((l.length : Int)).toNat = l.length := by simp
        have hx3 : ¬ x = 1099511627776 := by have := hx; unfold far at this; omega
        clear own5 hD hxd hdl hDl hdg hb5 hq4 hx
        go_wp2
        go_ret
        exact ⟨rfl, HF.out⟩
    · have kd : ∀ W', Sl W' W'.heap.size 1 ci A l → Calls Try.prog 32 #[.agg #[.int .i64 W, .int .i64 H, .slice A l.length c], .int .i64 k, .int .i64 a, .int .i64 b] W' fun e w' => e = .returned (.tuple #[.int .i64 0, .int .i64 1]) ∧ Below W'.heap.size W' w' := fun W' h => by
        by_cases hkk : 1 ≤ k ∧ k ≤ 8
        · exact dist_bad W H k a b A l.length c l W' rfl h hll (lk_zero.2 ⟨gg, hkk⟩) (fun h => hok ⟨hkk, h⟩)
        · have := dist_no W H k a b A l.length c l W' rfl h hll (by rw [lk_k hg hkk]; decide)
          rwa [lk_k hg hkk] at this
      have KO := Lib.hid ko
      have KD := Lib.hid kd
      by_cases haa : a < 0 ∨ (l.length : Int) ≤ a
      · have kn' := kn haa
        have hl1 : Dijk.look l.length m [a] = 1 := by rw [hlk, if_pos haa]
        rw [hl1] at kn'
        have KN := Lib.hid kn'
        clear ko kd ky kn kn' hgood hpos hlk hs gb hb0 gg hg hall hok hl1 haa
        go_enter Try.func9, Try.ntmps9
        go_wp2_with fail
        refine (KG.out _).mono ?_
        rintro e w1 ⟨S1, rfl, s1, hb1⟩
        have B1 := HB0.out.trans (hb1.mono (by simp))
        have Z1 : w.heap.size + 1 ≤ w1.heap.size := by have := B1.size; simpa using this
        clear hb1
        go_wp2_with fail
        refine (K1.out _ _ s1).mono ?_
        rintro e w2 ⟨rfl, hb2⟩
        have B2 := B1.trans (hb2.mono Z1)
        have Z2 : w.heap.size + 1 ≤ w2.heap.size := Nat.le_trans Z1 hb2.size
        clear hb2 s1 B1
        obtain ⟨⟨q0, q1, q2⟩, sl, HX, _⟩ := GB.out _ B2
        go_wp2_with fail
        refine (KD.out _ sl).mono ?_
        rintro e w3 ⟨rfl, hb3⟩
        have B3 := B2.trans (hb3.mono Z2)
        have Z3 := Nat.le_trans Z2 hb3.size
        clear q0 q1 q2 sl HX B2 hb3
        obtain ⟨⟨q0, q1, q2⟩, sl, HX, _⟩ := GB.out _ B3
        go_wp2_with fail
        refine (KO.out _ sl).mono ?_
        rintro e w4 ⟨A4, c4, rfl, o4, hb4⟩
        have B4 := B3.trans (hb4.mono Z3)
        have Z4 := Nat.le_trans Z3 hb4.size
        have hn4 := heap_alloc_new w4 (.cells #[.int .i64 l.length, .slice A4 m.length c4] 32)
        have sl4 := (o4.alloc (.cells #[.int .i64 l.length, .slice A4 m.length c4] 32)).sl.2
        have B4' := B4.alloc Z4 (.cells #[.int .i64 l.length, .slice A4 m.length c4] 32)
        have H4 := Lib.hid (GB.out _ B4').2.2.1
        have HN4 := Lib.hid hn4
        have SL4 := Lib.hid sl4
        clear q0 q1 q2 sl HX hb4 o4 B3 B4 B4' hn4 sl4
        go_wp2_with fail
        refine (KN.out A4 c4 _ SL4.out).mono ?_
        rintro e w5 ⟨rfl, hb5⟩
        have HF := Lib.hid (H4.out.trans (hb5.mono H4.out.size))
        clear hb5
        go_wp2
        go_ret
        exact ⟨rfl, HF.out⟩
      · have ky' := ky haa
        have KY := Lib.hid ky'
        have hcs : b < 0 ∨ (0 ≤ b ∧ (l.length : Int) ≤ b) ∨ ((0 ≤ b ∧ b < l.length) ∧ k < 1) ∨ ((0 ≤ b ∧ b < l.length) ∧ 1 ≤ k ∧ 8 < k) := by omega
        clear ko kd ky ky' kn hgood hpos hlk hs gb hb0 gg hg hall hok haa
        rcases hcs with h | ⟨h, h2⟩ | ⟨⟨h, h2⟩, h3⟩ | ⟨⟨h, h2⟩, h3, h4⟩
        all_goals
          go_enter Try.func9, Try.ntmps9
          go_wp2_with fail
          refine (KG.out _).mono ?_
          rintro e w1 ⟨S1, rfl, s1, hb1⟩
          have B1 := HB0.out.trans (hb1.mono (by simp))
          have Z1 : w.heap.size + 1 ≤ w1.heap.size := by have := B1.size; simpa using this
          clear hb1
          go_wp2_with fail
          refine (K1.out _ _ s1).mono ?_
          rintro e w2 ⟨rfl, hb2⟩
          have B2 := B1.trans (hb2.mono Z1)
          have Z2 : w.heap.size + 1 ≤ w2.heap.size := Nat.le_trans Z1 hb2.size
          clear hb2 s1 B1
          obtain ⟨⟨q0, q1, q2⟩, sl, HX, _⟩ := GB.out _ B2
          go_wp2_with fail
          refine (KD.out _ sl).mono ?_
          rintro e w3 ⟨rfl, hb3⟩
          have B3 := B2.trans (hb3.mono Z2)
          have Z3 := Nat.le_trans Z2 hb3.size
          clear q0 q1 q2 sl HX B2 hb3
          obtain ⟨⟨q0, q1, q2⟩, sl, HX, _⟩ := GB.out _ B3
          go_wp2_with fail
          refine (KO.out _ sl).mono ?_
          rintro e w4 ⟨A4, c4, rfl, o4, hb4⟩
          have B4 := B3.trans (hb4.mono Z3)
          have Z4 := Nat.le_trans Z3 hb4.size
          have hn4 := heap_alloc_new w4 (.cells #[.int .i64 l.length, .slice A4 m.length c4] 32)
          have sl4 := (o4.alloc (.cells #[.int .i64 l.length, .slice A4 m.length c4] 32)).sl.2
          have B4' := B4.alloc Z4 (.cells #[.int .i64 l.length, .slice A4 m.length c4] 32)
          have H4 := Lib.hid (GB.out _ B4').2.2.1
          have HN4 := Lib.hid hn4
          have SL4 := Lib.hid sl4
          clear q0 q1 q2 sl HX hb4 o4 B3 B4 B4' hn4 sl4
          go_wp2_with fail
          refine (KY.out A4 c4 _ SL4.out).mono ?_
          rintro e w5 ⟨S, D, rfl, own5, hb5, HSH⟩
          have HF := Lib.hid (H4.out.trans (hb5.mono H4.out.size))
          have hq4 := blk_below HN4.out hb5 (by simp)
          have n0 := blk_cell hq4 0
          simp only [List.getElem?_toArray, List.getElem?_cons_zero, List.getElem?_cons_succ] at n0
          have hS6 := lt_of_block hq4
          clear own5 hb5 hq4
          go_wp2
          go_ret
          exact ⟨rfl, HF.out⟩
  · have kd : ∀ W', Sl W' W'.heap.size 1 ci A l → Calls Try.prog 32 #[.agg #[.int .i64 W, .int .i64 H, .slice A l.length c], .int .i64 k, .int .i64 a, .int .i64 b] W' fun e w' => e = .returned (.tuple #[.int .i64 0, .int .i64 (gchk W H l)]) ∧ Below W'.heap.size W' w' := fun W' h => by
      have := dist_no W H k a b A l.length c l W' rfl h hll (by rw [lk_g hg]; exact hg)
      rwa [lk_g hg] at this
    have ko := fun W' h => of_no W H A c l W' h hll hg
    have hne : (gchk W H l != 0) = true := by rw [bne_iff_ne]; exact hg
    generalize gchk W H l = er at *
    have KO := Lib.hid ko
    have KD := Lib.hid kd
    clear ko kd hs gb hb0 hg
    go_enter Try.func9, Try.ntmps9
    go_wp2_with fail
    refine (KG.out _).mono ?_
    rintro e w1 ⟨S1, rfl, s1, hb1⟩
    have B1 := HB0.out.trans (hb1.mono (by simp))
    have Z1 : w.heap.size + 1 ≤ w1.heap.size := by have := B1.size; simpa using this
    clear hb1
    go_wp2_with fail
    refine (K1.out _ _ s1).mono ?_
    rintro e w2 ⟨rfl, hb2⟩
    have B2 := B1.trans (hb2.mono Z1)
    have Z2 : w.heap.size + 1 ≤ w2.heap.size := Nat.le_trans Z1 hb2.size
    clear hb2 s1 B1
    obtain ⟨⟨q0, q1, q2⟩, sl, HX, _⟩ := GB.out _ B2
    go_wp2_with fail
    refine (KD.out _ sl).mono ?_
    rintro e w3 ⟨rfl, hb3⟩
    have B3 := B2.trans (hb3.mono Z2)
    have Z3 := Nat.le_trans Z2 hb3.size
    clear q0 q1 q2 sl HX B2 hb3
    obtain ⟨⟨q0, q1, q2⟩, sl, HX, _⟩ := GB.out _ B3
    go_wp2_with fail
    refine (KO.out _ sl).mono ?_
    rintro e w4 ⟨rfl, hb4⟩
    have H4 := HX.trans (hb4.mono HX.size)
    have z4 := H4.size
    have H5 := H4.alloc z4 (.cells #[.int .i64 0, .slice none 0 0] 32)
    have HF := Lib.hid H5
    clear q0 q1 q2 sl HX hb4 B3 H4 H5
    go_wp2
    go_ret
    exact ⟨rfl, HF.out⟩

theorem own : ownKnob Try.prog.godebug = none := by kernel_rfl
theorem laidOut : laidOutB Try.prog = true := by kernel_rfl

set_option maxRecDepth 100000 in
theorem lifted (os : Os) (started : os.Started) (H : Type) (enc : TypeId × Value → H) :
    ReturnsInHanded {} Try.checked os 9 .any (Rows.hierSameSpec.pre6 enc Try.prog Try.f9 Rows.hierSameRow.domain false) (Rows.hierSameSpec.post enc Try.prog Try.f9 false true false false) := by
  refine returnsInHanded_of_change (C := Try.checked) own started (by kernel_rfl) Try.func9
    (ChangeSpec.witness6 (enc := enc) (C := Try.checked) false ⟨#[], #[.agg #[.int .i64 0, .int .i64 0, .slice none 0 0], .int .i64 0, .int .i64 0, .int .i64 0], []⟩ 8 (by kernel_rfl) (by kernel_rfl) (by kernel_rfl) (by kernel_rfl)) ?_
  intro W base args ds gs before hval0 hW hcnd _
  have hval : ∀ (j : Nat) t v, Try.f9.params[j]? = some t → args[j]? = some v → Value.okWide Try.prog W .any base t v := hval0
  have hW' := hW
  obtain ⟨p, q, hA0, hV, rfl, hfz, hnd⟩ := hW
  have hA : DataW.TrodAll enc Try.prog W 0 (fun _ => true) true Try.f9.params.toList args.toList ds p := hA0
  rw [Try.params9] at hA hval
  obtain ⟨v0, vs0, d0, ds0, p0, q0, hargs, rfl, rfl, h0, r0⟩ := trodAll_cons hA
  obtain ⟨v1, vs1, d1, ds1, p1, q1, rfl, rfl, rfl, h1, r1⟩ := trodAll_cons r0
  obtain ⟨v2, vs2, d2, ds2, p2, q2, rfl, rfl, rfl, h2, r2⟩ := trodAll_cons r1
  obtain ⟨v3, vs3, d3, ds3, p3, q3, rfl, rfl, rfl, h3, r3⟩ := trodAll_cons r2
  obtain ⟨rfl, rfl, rfl⟩ := trodAll_nil r3
  obtain rfl : args = #[v0, v1, v2, v3] := by cases args; simp_all
  obtain ⟨rfl, rfl⟩ := trodVars_none hV
  obtain ⟨W0, H0, A0, c0, l0, dd0, rfl, hW0, hH0, hG0, hb0, rfl, hd0⟩ := open_grid Try.underlying24 (by kernel_rfl) (by kernel_rfl) Try.underlying3 Try.underlying3 Try.underlying22 Try.underlying3 (by kernel_rfl) (hval 0 24 v0 rfl rfl) h0
  obtain ⟨a1, rfl, rfl, rfl, wa1⟩ := open_int Try.underlying3 (hval 1 3 v1 rfl rfl) h1
  obtain ⟨a2, rfl, rfl, rfl, wa2⟩ := open_int Try.underlying3 (hval 2 3 v2 rfl rfl) h2
  obtain ⟨a3, rfl, rfl, rfl, wa3⟩ := open_int Try.underlying3 (hval 3 3 v3 rfl rfl) h3
  refine (walk W W0 H0 A0 c0 l0 hW0 hH0 hG0 a1 (wf_bd wa1) a2 (wf_bd wa2) a3 (wf_bd wa3)).mono fun e W' ⟨he, hB⟩ => ?_
  subst he
  exact ⟨_, rfl, post_of_law laidOut rfl Try.underlying4 rfl (by intro t ht; rw [Try.params9] at ht; simp at ht; rcases ht with rfl | rfl | rfl | rfl <;> exact ⟨by kernel_rfl, of_decide_eq_true (by kernel_rfl)⟩) hW' rfl hB⟩

theorem holds : Rows.HierSameSaid :=
  OpenClaim.holds_of_wide 9 Try.f9 rfl rfl rfl rfl rfl rfl rfl ⟨rfl, rfl, rfl, rfl, rfl⟩ rfl rfl rfl rfl rfl (by kernel_rfl) Try.func9 (by kernel_rfl)
    (of_decide_eq_true (by kernel_rfl)) (by unfold Func.isWrapper; first | (rw [if_pos (by decide +kernel)]; kernel_rfl) | (rw [if_neg (by decide +kernel)]; exact ⟨rfl, rfl⟩))
    (fun os started H enc _ => lifted os started H enc)
#print axioms holds
end Go.Proofs.Ytbgkkmcobijkgaa.HierSameLaw
