/- For every grid, two places, list of weights and list of numbers that are not too long in all: ServeFair answers true (of requests alike, asked together, none is a step behind another by more than one), and the arguments read as before. Condition: the lists together are no longer than 1048576. -/
import Derived.Test.YtpoolpaagbeokaaRows
import Derived.Test.YtpoolpaagbeokaaVServeUse
import Derived.Test.YtpoolpaagbeokaaVAraUse2
import Derived.Test.YtpoolpaagbeokaaVBulk
import Derived.IntWalk
namespace Go.Proofs.Ytpoolpaagbeokaa.ServeFairLaw
open Go.ChangeShapes Go.WideShapes Go.ChangeAt Go.RowKit Go.Proofs.Ytpoolpaagbeokaa NetLaw BellLaw StarLaw AraLaw Go.Proofs.Ytpoolpaagbeokaa.Net Go.Proofs.Ytpoolpaagbeokaa.Std Go.Proofs.Ytpoolpaagbeokaa.Flow Go.Proofs.Ytpoolpaagbeokaa.Ara Go.Proofs.Ytpoolpaagbeokaa.GroundLaw
open Go.Proofs.Ytpoolpaagbeokaa.GridLaw hiding E
open Go.Proofs.Ytpoolpaagbeokaa.ServeLaw Go.Proofs.Ytpoolpaagbeokaa.Serve
open Go.Proofs.Ytpoolpaagbeokaa.StarF (slook slook_any slook_zero)
set_option linter.unusedSimpArgs false
set_option linter.unusedVariables false
set_option maxRecDepth 100000 in
set_option maxHeartbeats 16000000 in
theorem walk (w : World) (W H : Int) (A : Option Addr) (c : Nat) (l : List Int) (hW : -9223372036854775808 ≤ W ∧ W ≤ 9223372036854775807) (hH : -9223372036854775808 ≤ H ∧ H ≤ 9223372036854775807) (hA : Arg w 1 ci A c l) (f : Int) (hf : -9223372036854775808 ≤ f ∧ f ≤ 9223372036854775807) (t : Int) (ht : -9223372036854775808 ≤ t ∧ t ≤ 9223372036854775807) (Aw : Option Addr) (cw : Nat) (ws : List (Int × Int)) (hAw : Arg w 2 cp Aw cw ws) (Af : Option Addr) (cf : Nat) (fr : List Int) (hAf : Arg w 1 ci Af cf fr) (hbulk : l.length + (ws.length + fr.length) ≤ 1048576) :
    Calls Try.prog 4 #[.agg #[.int .i64 W, .int .i64 H, .slice A l.length c], .int .i64 f, .int .i64 t, .slice Aw ws.length cw, .slice Af fr.length cf] w fun e w' => e = .returned (.bool true) ∧ Below w.heap.size w w' := by
  have hs := hA.sl
  have hws := hAw.sl
  have hfr := hAf.sl
  have n1 := hA.nil
  have n2 := hAw.nil
  have hwl : ws.length ≤ 1048576 := by omega
  have hfl : fr.length ≤ 1048576 := by omega
  have hll : l.length ≤ 9223372036854775807 := by omega
  clear hA hAw hAf hW hH hf ht hbulk
  have HK := Lib.hid (fun X hX => sbox (X := X) (W := W) (H := H) (c := c) hs hX)
  have HB0 := Lib.hid (Below.refl (w.heap.size + 1) (w.alloc (.cells #[.int .i64 W, .int .i64 H, .slice A l.length c] 24)))
  have HWS := Lib.hid hws
  have HFR := Lib.hid hfr
  have HN1 := Lib.hid n1
  have HN2 := Lib.hid n2
  clear hs hws hfr n1 n2
  obtain ⟨mf, hmf⟩ : ∃ mf, fr.length = mf := ⟨_, rfl⟩
  have HMF := Lib.hid hmf
  rw [hmf] at hfl ⊢
  clear hmf
  go_enter Try.func4, Try.ntmps4
  go_wp2_with fail
  refine (ground_s _).mono ?_
  rintro e w1 ⟨S1, rfl, s1, hb1⟩
  have B1 := HB0.out.trans (hb1.mono (by simp))
  have Z1 : w.heap.size + 1 ≤ w1.heap.size := by have := B1.size; simpa using this
  clear hb1
  go_wp2_with fail
  refine (new_s _ _ s1).mono ?_
  rintro e w2 ⟨Z2, A2, c2, rfl, sv2, hb2⟩
  have B2 := B1.trans (hb2.mono Z1)
  have KF := Lib.hid (frame_any sv2 5 (by decide) (by decide))
  have SV2 := Lib.hid sv2
  clear hb2 B1 s1 sv2
  go_wp2_with fail
  refine KF.out.mono ?_
  rintro e w3 ⟨u3, t3, σ3, D3, rfl, _, _, hr3, _, _, ho3, _⟩
  obtain rfl : u3 = 0 := run_none hr3
  have B3 := B2.trans ((SV2.out.lo ho3).mono Z1)
  clear hr3 ho3 KF SV2 B2
  obtain ⟨⟨q0, q1, q2⟩, sl3, H3, Z3⟩ := HK.out _ B3
  by_cases hg : gchk W H l = 0
  · have gg := gchk_zero.1 hg
    clear hg
    have kn := new_g W H A c l w3 sl3 HN1.out gg
    have KN := Lib.hid kn
    have HGG := Lib.hid gg
    clear kn gg sl3
    go_wp2_with fail
    refine KN.out.mono ?_
    rintro e w4 ⟨Z4, A4, c4, rfl, sv4, hb4⟩
    have B4 := Lib.hid (B3.trans (hb4.mono Z3))
    have SV4 := Lib.hid sv4
    clear q0 q1 q2 KN sv4 hb4 B3
    by_cases hx : ncode l.length f t (allM W H l l.length) (zs l.length) ws = 0
    · obtain ⟨hx0, hy0⟩ := ncode_zero.1 hx
      obtain ⟨⟨f0, f1⟩, t0, t1⟩ := ask_in hx0
      obtain ⟨fn, rfl⟩ := Int.eq_ofNat_of_zero_le f0
      obtain ⟨tn, rfl⟩ := Int.eq_ofNat_of_zero_le t0
      have hfl0 : fn < l.length := by omega
      have htl0 : tn < l.length := by omega
      have HX := Lib.hid hx0
      have HY := Lib.hid hy0
      clear hx hx0 hy0 f0 f1 t0 t1
      go_wp2
      go_loopw [69] (fun i wr => ∃ (k : Nat) (σ : Nat → Option Slt) (D : Nat → Nat → Prop), i = .int .i64 k ∧ k ≤ 3 ∧ Hid (SV w3.heap.size wr Z4 W H A4 c4 l 0 σ D) ∧ Hid (Al σ k fn tn ws) ∧ Hid (Below (w.heap.size + 1) (w.alloc (.cells #[.int .i64 W, .int .i64 H, .slice A l.length c] 24)) wr)) (fun i _ => 3 - (intOf i).toNat)
      case atStart => exact ⟨0, _, _, rfl, by decide, SV4, Lib.hid Al.start, B4⟩
      case round =>
        obtain ⟨k, σ, D, rfl, hk3, HSV, HAL, HBW⟩ := hrel
        clear SV4 B4
        by_cases hk : k < 3
        · obtain ⟨_, _, HL, HZ⟩ := HK.out _ HBW.out
          have ka := ask_yes HSV.out fn tn Aw cw ws ((HWS.out.keep HL (Nat.le_refl _)).more HL.size) HN2.out hwl hfl0 htl0 HY.out k (by omega) (fun _ => HAL.out.non k (Nat.le_refl _)) (fun j hj e => by obtain ⟨g, e2, _⟩ := HAL.out.som j hj; rw [e] at e2; cases e2)
          have KA := Lib.hid ka
          have zk : (k : Int) < 3 := by omega
          clear ka HL HZ
          go_wp2_with fail
          refine KA.out.mono ?_
          rintro e w5 (⟨h6, _⟩ | ⟨_, g, D', rfl, sv5, ho5, g1, g2, g3, g4, g5, _⟩)
          · omega
          have HA5 := Lib.hid (HAL.out.add g2 g3 g1 g4 g5)
          have SV5 := Lib.hid sv5
          have HB5 := Lib.hid (HBW.out.trans ((HSV.out.loZ ho5).mono Z3))
          clear KA g1 g2 g3 g4 g5 sv5 ho5 HAL HSV HBW
          go_wp2
          go_roundw
          case rel => exact ⟨k + 1, _, _, by go_num, by omega, SV5, HA5, HB5⟩
          case measure => simp [intOf]; omega
        · obtain rfl : k = 3 := by omega
          rename World => w5
          obtain ⟨⟨q0, q1, q2⟩, sl5, H5, Z5⟩ := HK.out _ HBW.out
          have kof := NetOf.of_yes W H A c l w5 sl5 HGG.out
          have KOF := Lib.hid kof
          clear kof sl5
          go_wp2_with fail
          refine KOF.out.mono ?_
          rintro e w6 ⟨A6, c6, rfl, own6, hb6⟩
          have hn6 : A6 = none → (allM W H l l.length).length = 0 ∧ c6 = 0 := by
            obtain ⟨A9, c9, e9, _, h9⟩ := own6.form
            injection e9 with e1 e2 e3
            subst e1 e3
            exact h9
          have HN6 := Lib.hid hn6
          have HNO : Hid (∀ g, w5.heap.size ≤ g → ¬ (g = Z4 ∨ DS D g)) := Lib.hid (fun g hg hx => by
            rcases hx with e | ⟨i, hi, hd⟩
            · have := HSV.out.zs.2.2.2.2.2; omega
            · have := (HSV.out.dom i hi g hd).2; omega)
          have SV6 := HSV.out.keep hb6
          have B6 := HBW.out.trans (hb6.mono Z5)
          have Z6 : w.heap.size + 1 ≤ w6.heap.size := Nat.le_trans Z5 hb6.size
          have hx56 := hb6.size
          clear q0 q1 q2 KOF HSV HBW hb6 hn6
          go_upto_region 20 with fail
          have hbn := heap_alloc_new w6 (.cells #[.int .i64 l.length, .slice A6 (allM W H l l.length).length c6] 52)
          have h67 : Below w6.heap.size w6 (w6.alloc (.cells #[.int .i64 l.length, .slice A6 (allM W H l l.length).length c6] 52)) := (Below.refl _ _).alloc (Nat.le_refl _) _
          have SV7 := Lib.hid (SV6.keep h67)
          have OW7 := Lib.hid (own6.keep h67)
          have B7 := Lib.hid (B6.trans (h67.mono Z6))
          clear SV6 own6 B6 h67
          generalize w6.alloc (.cells #[.int .i64 l.length, .slice A6 (allM W H l l.length).length c6] 52) = w7 at hbn SV7 OW7 B7 ⊢
          generalize w6.heap.size = X at hbn Z6 hx56 ⊢
          have HBN := Lib.hid hbn
          have HX5 := Lib.hid hx56
          have Z7 : w.heap.size + 1 ≤ w7.heap.size := by have := B7.out.size; simpa using this
          clear hbn hx56 hk hk3 H5
          go_wp2
          go_loopw [91, 20] (fun i x wr => ∃ (j sum turn : Nat) (σ1 : Nat → Option Slt) (D1 : Nat → Nat → Prop), i = .int .i64 j ∧ x = .int .i64 sum ∧ j ≤ mf ∧ Hid (SV w3.heap.size wr Z4 W H A4 c4 l turn σ1 D1) ∧ Hid (Went σ σ1) ∧ Hid (Run (Tk l.length (allM W H l l.length) σ) 0 (cnt σ) sum turn (cnt σ1)) ∧ Hid (Off (fun g => g = Z4 ∨ DS D g) w7 wr) ∧ Hid (∀ g, DS D1 g → DS D g ∨ w7.heap.size ≤ g)) (fun i _ _ => mf - (intOf i).toNat)
          case atStart => exact ⟨0, 0, 0, σ, D, rfl, rfl, Nat.zero_le _, SV7, Lib.hid (Went.refl σ), Lib.hid Run.zero, Lib.hid (Off.refl _ _), Lib.hid (fun g h => .inl h)⟩
          case round =>
            obtain ⟨j, sum, turn, σ1, D1, rfl, rfl, hj, HSV, HWT, HRN, HOF, HND⟩ := hrel
            have hsum := HSV.out.sum_le_ HRN.out
            have hb7 := (SV7.out.lo HOF.out).mono Z3
            by_cases hlt : j < mf
            · have hjl : j < fr.length := by rw [HMF.out]; exact hlt
              obtain ⟨_, _, HL, HZ⟩ := HK.out _ (B7.out.trans hb7)
              obtain ⟨bq, oq, hA8, hbq, hcq⟩ := ((HFR.out.keep HL (Nat.le_refl _)).more HL.size).atI hjl
              obtain ⟨x, hx⟩ : ∃ x, fr[j] = x := ⟨_, rfl⟩
              rw [hx] at hcq
              have zj : (j : Int) < (mf : Int) := by omega
              clear hx hjl HL HZ hb7
              go_wp2_with fail
              refine (Within.within_any x 30 (by decide) (by decide) _).mono ?_
              rintro e wq ⟨rfl, rfl⟩
              have hwi := (Within.wi_spec x 30 (by decide) (by decide)).2
              have kf := frame_any HSV.out (Within.wi x 30) (by omega) (by omega)
              have KF := Lib.hid kf
              clear kf hwi hA8 hbq hcq
              go_wp2_with fail
              refine KF.out.mono ?_
              rintro e w9 ⟨u9, t9, σ9, D9, rfl, sv9, wt9, rn9, le9, _, of9, nd9⟩
              have hu9 : u9 ≤ 30 := by have := (Within.wi_spec x 30 (by decide) (by decide)).2; omega
              rw [HWT.out.tk] at rn9
              have HSV9 := Lib.hid sv9
              have HWT9 := Lib.hid (HWT.out.trans wt9)
              have HRN9 := Lib.hid (HRN.out.append rn9)
              have HOF9 := Lib.hid (HOF.out.trans of9 (fun y hy => by
                rcases hy with e | hy
                · exact .inl (.inl e)
                · rcases HND.out y hy with e | e
                  · exact .inl (.inr e)
                  · exact .inr e))
              have HND9 : Hid (∀ g, DS D9 g → DS D g ∨ w7.heap.size ≤ g) := Lib.hid (fun y hy => by
                rcases nd9 y hy with e | e
                · exact HND.out y e
                · exact .inr (Nat.le_trans HOF.out.size e))
              have hww : IntKind.i64.wrap ((sum : Int) + (u9 : Int)) = ((sum + u9 : Nat) : Int) := by rw [IntWalk.i64_in _ (by omega)]; omega
              clear KF sv9 wt9 rn9 le9 of9 nd9 HSV HWT HRN HOF HND hsum
              go_wp2
              go_roundw
              case rel => exact ⟨j + 1, sum + u9, t9, σ9, D9, by go_num, by go_num, hlt, HSV9, HWT9, HRN9, HOF9, HND9⟩
              case measure => simp [intOf]; omega
            · obtain rfl : j = mf := by omega
              rename World => w8
              have hcnt := fair3 (fun i hi => by obtain ⟨g, e1, e2, e3, e4, e5, _⟩ := HAL.out.som i hi; exact ⟨g, e1, e2, e3, e4, e5⟩) HAL.out.non HRN.out
              have HCNT := Lib.hid hcnt
              have hbn8 := blk_off HBN.out HOF.out (HNO.out X HX5.out)
              have own8 := own_off OW7.out HOF.out (fun g e => HNO.out g (OW7.out.base_ g ((ob_ ..).trans e)).1)
              have B8 := Lib.hid (B7.out.trans hb7)
              have Z8 : w.heap.size + 1 ≤ w8.heap.size := by have := B8.out.size; simpa using this
              have HBN8 := Lib.hid hbn8
              have OW8 := Lib.hid own8
              have SV8 := HSV
              clear hcnt hbn8 own8 hb7 HBN OW7 B7 HOF HND HNO HSV SV7 Z7 HRN
              have zjm : ¬ ((j : Int) < (j : Int)) := by omega
              go_wp2
              go_loopw [108] (fun i wr => ∃ (i' : Nat), i = .int .i64 i' ∧ i' ≤ 3 ∧ Hid (Below w8.heap.size w8 wr)) (fun i _ => 3 - (intOf i).toNat)
              case atStart => exact ⟨0, rfl, by decide, Lib.hid (Below.refl _ _)⟩
              case round =>
                obtain ⟨i, rfl, hi3, HB⟩ := hrel
                by_cases hi : i < 3
                · have zi : (i : Int) < 3 := by omega
                  rename World => w9
                  go_upto_region 31 with fail
                  have hbn9 := blk_below HBN8.out HB.out (lt_of_block HBN8.out)
                  have own9 := OW8.out.keep HB.out
                  have hB9 := B8.out.trans (HB.out.mono Z8)
                  obtain ⟨_, _, HL, HZ⟩ := HK.out _ hB9
                  have hl64 := size_bd HGG.out
                  have hss : SN X l.length (allM W H l l.length).length A6 c6 w9.drew := ⟨blk_cell hbn9 0, blk_cell hbn9 1, lt_of_block hbn9⟩
                  have hmk : ∀ w, (Instr.makeSlice 22 (.int .i64 (l.length : Int)) (.int .i64 (l.length : Int))).run Try.prog w = .ok (.slice (some ⟨w.heap.size, 0, none⟩) l.length l.length) (w.alloc (.cells (madeCells #[.int .i64 0] l.length) 3)) := run_make_row' (P := Try.prog) 22 3 (.int .i64 0) 8 Try.underlying22 (by kernel_rfl) rfl .i64 .i64 l.length (by omega) (by omega)
                  have h4 : Below w9.drew.heap.size w9.drew (w9.drew.alloc (.cells (madeCells #[.int .i64 0] l.length) 3)) := (Below.refl _ _).alloc (Nat.le_refl _) _
                  have ownz := own_madeI l.length w9.drew.heap.size w9.drew (Nat.le_refl _) (by omega) rfl
                  have HSA := Lib.hid (hss.keep h4)
                  have h94 : Below w9.heap.size w9 (w9.drew.alloc (.cells (madeCells #[.int .i64 0] l.length) 3)) := (Below.refl _ _).drew.alloc (Nat.le_refl _) _
                  have kn := Ara.new_yes l.length fn tn A6 c6 (allM W H l l.length) (some ⟨w9.drew.heap.size, 0, none⟩) l.length (ServeLaw.zs l.length) Aw cw ws (w9.drew.alloc (.cells (madeCells #[.int .i64 0] l.length) 3)) (((own9.sl.2.keep h94 (Nat.le_refl _)).more h94.size)) HN6.out (ownz.sl.2.more (Nat.le_refl _)) (fun e => by cases e) ((HWS.out.keep (HL.trans (h94.mono HL.size)) (Nat.le_refl _)).more (HL.trans (h94.mono HL.size)).size) HN2.out HX.out HY.out
                  have hzl : (ServeLaw.zs l.length).length = l.length := by simp [ServeLaw.zs]
                  rw [hzl] at kn
                  have KN := Lib.hid kn
                  have HSS := Lib.hid hss
                  have HH94 := Lib.hid h94
                  obtain ⟨g0, hg0, ht0, hws0, hf0, hk0, hsm0⟩ := HAL.out.som i hi
                  obtain ⟨Y1, s1, k1, hg1⟩ := HWT.out.get hg0
                  have hk1 : k1 = (sum + 2 - i) / 3 := by
                    rw [← HCNT.out i hi]
                    unfold cnt
                    rw [hg1]
                  have HG1 := Lib.hid hg1
                  have HG0 := Lib.hid (And.intro ht0 (And.intro hws0 (And.intro hf0 hsm0)))
                  have HK1 := Lib.hid hk1
                  clear kn hss h94 h4 ownz hzl hbn9 own9 hB9 HL HZ hg0 ht0 hws0 hf0 hk0 hsm0 hg1 hk1
                  refine Go.wp_region_held_drew (S := SN X l.length (allM W H l l.length).length A6 c6) (by kernel_rfl) HSS.out (fun hHeld => ?_)
                  refine Go.wpAnyH_take (fuel := 12) (i := 0) (oi := _) (v := ?_) rfl (by kernel_rfl) (by kernel_rfl) (by kernel_rfl) (fun _ _ _ h => h) (Or.inl ⟨by rfl, ?_⟩) (by first | exact hHeld | assumption) ?_
                  rotate_left
                  · (intro w hSw; (try dsimp only at hSw); (try unfold SN at hSw); go_simp)
                    try with_reducible rfl
                  try simp only [Act.put, List.getElem_toArray, List.getElem_cons_succ, List.getElem_cons_zero, List.setIfInBounds_toArray, List.set_cons_zero, List.set_cons_succ]
                  refine Go.wpAnyH_take (fuel := 11) (i := 1) (oi := _) (v := ?_) rfl (by kernel_rfl) (by kernel_rfl) (by kernel_rfl) (fun _ _ _ h => h) (Or.inl ⟨by rfl, ?_⟩) (by first | exact hHeld | assumption) ?_
                  rotate_left
                  · (intro w hSw; (try dsimp only at hSw); (try unfold SN at hSw); go_simp)
                    try with_reducible rfl
                  try simp only [Act.put, List.getElem_toArray, List.getElem_cons_succ, List.getElem_cons_zero, List.setIfInBounds_toArray, List.set_cons_zero, List.set_cons_succ]
                  refine Go.wpAnyH_take (fuel := 10) (i := 2) (oi := _) (v := ?_) rfl (by kernel_rfl) (by kernel_rfl) (by kernel_rfl) (fun _ _ _ h => h) (Or.inl ⟨by rfl, ?_⟩) (by first | exact hHeld | assumption) ?_
                  rotate_left
                  · (intro w hSw; (try dsimp only at hSw); (try unfold SN at hSw); go_simp)
                    try with_reducible rfl
                  try simp only [Act.put, List.getElem_toArray, List.getElem_cons_succ, List.getElem_cons_zero, List.setIfInBounds_toArray, List.set_cons_zero, List.set_cons_succ]
                  refine Go.wpAnyH_take (fuel := 9) (i := 3) (oi := _) (v := ?_) rfl (by kernel_rfl) (by kernel_rfl) (by kernel_rfl) (fun _ _ _ h => h) (Or.inl ⟨by rfl, ?_⟩) (by first | exact hHeld | assumption) ?_
                  rotate_left
                  · (intro w hSw; (try dsimp only at hSw); (try unfold SN at hSw); go_simp)
                    try with_reducible rfl
                  try simp only [Act.put, List.getElem_toArray, List.getElem_cons_succ, List.getElem_cons_zero, List.setIfInBounds_toArray, List.set_cons_zero, List.set_cons_succ]
                  refine Go.wpAnyH_take (fuel := 8) (i := 4) (oi := _) (v := ?_) rfl (by kernel_rfl) (by kernel_rfl) (by kernel_rfl) (fun _ _ _ h => h) (Or.inl ⟨by rfl, ?_⟩) (by first | exact hHeld | assumption) ?_
                  rotate_left
                  · (intro w hSw; (try dsimp only at hSw); (try unfold SN at hSw); go_simp)
                    try with_reducible rfl
                  try simp only [Act.put, List.getElem_toArray, List.getElem_cons_succ, List.getElem_cons_zero, List.setIfInBounds_toArray, List.set_cons_zero, List.set_cons_succ]
                  refine Go.wpAnyH_take (fuel := 7) (i := 6) (oi := _) (v := ?_) rfl (by kernel_rfl) (by kernel_rfl) (by kernel_rfl) (fun _ _ _ h => h) (Or.inl ⟨by rfl, ?_⟩) (by first | exact hHeld | assumption) ?_
                  rotate_left
                  · (intro w hSw; (try dsimp only at hSw); (try unfold SN at hSw); go_simp)
                    try with_reducible rfl
                  try simp only [Act.put, List.getElem_toArray, List.getElem_cons_succ, List.getElem_cons_zero, List.setIfInBounds_toArray, List.set_cons_zero, List.set_cons_succ]
                  refine Go.wpAnyH_ready (fuel := 6) (rs := [5]) (by kernel_rfl) (by simp) ?_
                  refine Go.AllReadyH.cons (o := _) rfl (fun K hK => ?_) Go.AllReadyH.nil
                  have HKX := Lib.hid hK
                  clear hK
                  go_simp
                  refine HKX.out.out _ _ HSA.out (fun hHeld => ?_)
                  clear HKX
                  try simp only [Act.put, List.getElem_toArray, List.getElem_cons_succ, List.getElem_cons_zero, List.setIfInBounds_toArray, List.set_cons_zero, List.set_cons_succ]
                  refine Go.wpAnyH_ready (fuel := 5) (rs := [7]) (by kernel_rfl) (by simp) ?_
                  refine Go.AllReadyH.cons (o := _) rfl (fun K hK => ?_) Go.AllReadyH.nil
                  have HKX := Lib.hid hK
                  clear hK
                  go_simp
                  go_at_call 17
                  refine KN.out.mono ?_
                  rintro e w10 ⟨Zs, FF, Y, s, rfl, e1, e2, e3, e4, e5, hO, hP, sr, hb10⟩
                  have HBN := Lib.hid hb10
                  refine HKX.out.out _ _ (SN.keep HSA.out HBN.out) (fun hHeld => ?_)
                  clear HKX
                  try simp only [Act.put, List.getElem_toArray, List.getElem_cons_succ, List.getElem_cons_zero, List.setIfInBounds_toArray, List.set_cons_zero, List.set_cons_succ]
                  refine Go.wpAnyH_take (fuel := 4) (i := 8) (oi := _) (v := ?_) rfl (by kernel_rfl) (by kernel_rfl) (by kernel_rfl) (fun _ _ _ h => h) (Or.inl ⟨by rfl, ?_⟩) (by first | exact hHeld | assumption) ?_
                  rotate_left
                  · (intro w hSw; (try dsimp only at hSw); (try unfold SN at hSw); go_simp)
                    try with_reducible rfl
                  try simp only [Act.put, List.getElem_toArray, List.getElem_cons_succ, List.getElem_cons_zero, List.setIfInBounds_toArray, List.set_cons_zero, List.set_cons_succ]
                  refine Go.wpAnyH_take (fuel := 3) (i := 9) (oi := _) (v := ?_) rfl (by kernel_rfl) (by kernel_rfl) (by kernel_rfl) (fun _ _ _ h => h) (Or.inl ⟨by rfl, ?_⟩) (by first | exact hHeld | assumption) ?_
                  rotate_left
                  · (intro w hSw; (try dsimp only at hSw); (try unfold SN at hSw); go_simp)
                    try with_reducible rfl
                  try simp only [Act.put, List.getElem_toArray, List.getElem_cons_succ, List.getElem_cons_zero, List.setIfInBounds_toArray, List.set_cons_zero, List.set_cons_succ]
                  refine Go.wpAnyH_take (fuel := 2) (i := 10) (oi := _) (v := ?_) rfl (by kernel_rfl) (by kernel_rfl) (by kernel_rfl) (fun _ _ _ h => h) (Or.inl ⟨by rfl, ?_⟩) (by first | exact hHeld | assumption) ?_
                  rotate_left
                  · (intro w hSw; (try dsimp only at hSw); (try unfold SN at hSw); go_simp)
                    try with_reducible rfl
                  try simp only [Act.put, List.getElem_toArray, List.getElem_cons_succ, List.getElem_cons_zero, List.setIfInBounds_toArray, List.set_cons_zero, List.set_cons_succ]
                  refine Go.wpAnyH_take (fuel := 1) (i := 11) (oi := _) (v := ?_) rfl (by kernel_rfl) (by kernel_rfl) (by kernel_rfl) (fun _ _ _ h => h) (Or.inl ⟨by rfl, ?_⟩) (by first | exact hHeld | assumption) ?_
                  rotate_left
                  · (intro w hSw; (try dsimp only at hSw); (try unfold SN at hSw); go_simp)
                    try with_reducible rfl
                  try simp only [Act.put, List.getElem_toArray, List.getElem_cons_succ, List.getElem_cons_zero, List.setIfInBounds_toArray, List.set_cons_zero, List.set_cons_succ]
                  refine Go.wpAnyH_take (fuel := 0) (i := 12) (oi := _) (v := ?_) rfl (by kernel_rfl) (by kernel_rfl) (by kernel_rfl) (fun _ _ _ h => h) (Or.inl ⟨by rfl, ?_⟩) (by first | exact hHeld | assumption) ?_
                  rotate_left
                  · (intro w hSw; (try dsimp only at hSw); (try unfold SN at hSw); go_simp)
                    try with_reducible rfl
                  try simp only [Act.put, List.getElem_toArray, List.getElem_cons_succ, List.getElem_cons_zero, List.setIfInBounds_toArray, List.set_cons_zero, List.set_cons_succ]
                  refine Go.wpAnyH_done (by kernel_rfl) ?_ _
                  go_upto_region 34 with fail
                  have hm94 : w9.heap.size ≤ w10.heap.size := Nat.le_trans HH94.out.size hb10.size
                  have HB10 := Lib.hid (HB.out.trans ((HH94.out.trans (hb10.mono HH94.out.size)).mono HB.out.size))
                  have HSR := Lib.hid sr
                  have HFO := Lib.hid hO
                  have HPO := Lib.hid hP
                  have HEE := Lib.hid (And.intro e1 (And.intro e2 (And.intro e3 (And.intro e4 e5))))
                  have hbl : w8.heap.size ≤ (w9.drew.alloc (.cells (madeCells #[.int .i64 0] l.length) 3)).heap.size := Nat.le_trans HB.out.size HH94.out.size
                  generalize (w9.drew.alloc (.cells (madeCells #[.int .i64 0] l.length) 3)).heap.size = bs at HSR hbl
                  obtain ⟨mm, hmm⟩ : ∃ mm, (sum + 2 - i) / 3 = mm := ⟨_, rfl⟩
                  have hz1 : IntKind.i64.wrap ((sum : Int) + 2) = sum + 2 := IntWalk.i64_in _ (by omega)
                  have hz2 : IntKind.i64.wrap ((sum : Int) + 2 - (i : Int)) = sum + 2 - i := IntWalk.i64_in _ (by omega)
                  have hq3 : Int.tdiv ((sum : Int) + 2 - (i : Int)) 3 = (mm : Int) := by rw [Int.tdiv_eq_ediv_of_nonneg (by omega)]; omega
                  have hz4 : IntKind.i64.wrap (mm : Int) = (mm : Int) := IntWalk.i64_in _ (by omega)
                  have kst := step_any HFO.out HPO.out HSR.out (mm : Int) (by omega)
                  have KST := Lib.hid kst
                  have HMM := Lib.hid hmm
                  clear hmm
                  clear kst sr hO hP e1 e2 e3 e4 e5 hb10 HBN HSA HSS HH94 hm94 KN hmk HB
                  go_wp2_with fail
                  refine KST.out.mono ?_
                  rintro e w11 ⟨jj, s11, Y11, rfl, sr11, fr11, hj1, hj2⟩
                  obtain ⟨e1, e2, e3, e4, e5⟩ := HEE.out
                  obtain ⟨ht0, hws0, hf0, hsm0⟩ := HG0.out
                  have hsl := SV8.out.slot i (by omega) _ HG1.out
                  have hs11 : s11 = s1 := by
                    have hr := sr11.run
                    rw [e1, e2, e3, e4, e5, Nat.zero_add] at hr
                    refine hsl.same (j := jj) ?_ ?_ ?_
                    · show Rn l.length g0.F.tt (allM W H l l.length) (ServeLaw.zs l.length) g0.F.ws g0.f jj s11
                      rw [ht0, hws0, hf0]
                      exact hr
                    · show jj ≤ k1
                      have := HK1.out; have := HMM.out; omega
                    · intro hlt
                      have hlt2 : jj < k1 := hlt
                      have h9 := hj2 (by have := HK1.out; have := HMM.out; omega)
                      rw [e5] at h9
                      show s11.rds.length = g0.F.ws.length
                      rw [hws0]
                      exact h9
                  subst hs11
                  have B811 := HB10.out.trans ((HSR.out.sm.am.lo fr11).mono hbl)
                  obtain ⟨hp11, hl11⟩ := SI.paths (sr11.si HFO.out HPO.out)
                  have kro := rounds_any sr11.sm.am hp11 (by have := HFO.out.wl; omega)
                  have KRO := Lib.hid kro
                  have B11 := Lib.hid B811
                  have HP11 := Lib.hid hp11
                  clear e1 e2 e3 e4 e5 ht0 hws0 hf0 hsl sr11 fr11 hj1 hj2 kro B811 hp11 hl11 HSR HFO HPO HEE HB10 KST hz1 hz2 hq3 hz4 HMM
                  go_wp2_with fail
                  refine KRO.out.mono ?_
                  rintro e w12 ⟨A12, k12, c12, R12, rfl, rc12, hb12⟩
                  have B12 := Lib.hid (B11.out.trans (hb12.mono B11.out.size))
                  have RC12 := Lib.hid rc12
                  have sv12 := SV8.out.keep B12.out
                  clear KRO hb12 rc12 B11
                  rcases List.eq_nil_or_concat s11.rds with hr | ⟨R0, r, hr⟩
                  · have kp := poll_empty sv12 (by omega) HG1.out hr hsm0
                    have KP := Lib.hid kp
                    obtain rfl : k12 = 0 := by rw [← RC12.out.len.2, hr]; rfl
                    clear kp sv12 hr hsm0
                    go_wp2_with fail
                    refine KP.out.mono ?_
                    rintro e w13 ⟨rfl, hb13⟩
                    have B13 := Lib.hid (B12.out.trans (hb13.mono B12.out.size))
                    clear hb13 KP B12 RC12
                    go_upto_region 37 with fail
                    have hbq := heap_alloc_new w13 (.cells #[.int .i64 1, .int .i64 0, .int .i64 0, .slice none 0 0, .int .i64 0, .int .i64 0] 45)
                    have HBQ := Lib.hid (B13.out.trans (((Below.refl w13.heap.size w13).alloc (Nat.le_refl _) (.cells #[.int .i64 1, .int .i64 0, .int .i64 0, .slice none 0 0, .int .i64 0, .int .i64 0] 45)).mono B13.out.size))
                    generalize w13.alloc (.cells #[.int .i64 1, .int .i64 0, .int .i64 0, .slice none 0 0, .int .i64 0, .int .i64 0] 45) = w14 at hbq HBQ ⊢
                    generalize w13.heap.size = XA at hbq ⊢
                    have q0 := blk_cell hbq 0
                    have zq := lt_of_block hbq
                    simp only [List.getElem?_toArray, List.getElem?_cons_zero, List.getElem?_cons_succ] at q0
                    clear hbq
                    go_region
                    have HBR := Lib.hid (HBQ.out.trans ((below_drewN (Below.refl _ _) 1).mono HBQ.out.size))
                    clear HBQ q0 zq
                    go_wp2
                    go_roundw
                    case rel => exact ⟨i + 1, by go_num, hi, HBR⟩
                    case measure => simp [intOf]; omega
                  · rw [List.concat_eq_append] at hr
                    have kp := poll_good sv12 (by omega) HG1.out hr
                    have KP := Lib.hid kp
                    obtain rfl : k12 = R0.length + 1 := by rw [← RC12.out.len.2, hr]; simp
                    have HR := Lib.hid hr
                    clear kp sv12 hr hsm0
                    go_wp2_with fail
                    refine KP.out.mono ?_
                    rintro e w13 ⟨A13, c13, rfl, own13, hb13⟩
                    have B13 := Lib.hid (B12.out.trans (hb13.mono B12.out.size))
                    have OW13 := Lib.hid own13
                    have RC13 := Lib.hid (RC12.out.keep hb13)
                    clear hb13 KP B12 own13 RC12
                    obtain ⟨x, S12, _, hxm, hxr, hA12, _, hS12, ⟨c0, c1, c2, c3, c4⟩, _⟩ := RC13.out.at_ (j := R0.length) (Nat.lt_succ_self _)
                    rw [HR.out, List.getElem?_append_right (Nat.le_refl _), Nat.sub_self] at hxr
                    have hxr2 : x.rnd = r := by simpa using hxr.symm
                    subst hA12
                    have hxo := RC13.out.ways x hxm
                    have hxk := hxo.sl.1
                    have hx64 : x.k ≤ 64 := by
                      have h2 := HP11.out r (by rw [HR.out]; simp)
                      have h3 : x.path.length ≤ 64 := by rw [← hxr2] at h2; exact h2
                      omega
                    change w13.cell? ⟨S12, R0.length * 5, none⟩ = _ at c0
                    obtain ⟨st, hst⟩ : ∃ st : Int, (if s11.rds.length = g0.F.ws.length then (4 : Int) else 2) = st := ⟨_, rfl⟩
                    have hst1 : ¬ st = 1 := by rw [← hst]; split <;> decide
                    have hk8 : R0.length ≤ 8 := by have h2 := congrArg List.length HR.out; have h3 := RC13.out.len.2; have h4 := SV8.out.slot i (by omega) _ HG1.out; have h5 := (SI.paths (h4.sr.si h4.fo h4.po)).2; have h6 := h4.fo.wl; have h7 : s11.rds.length ≤ g0.F.ws.length := h5; have h8 : g0.F.ws.length ≤ 8 := h6; simp only [List.length_append, List.length_singleton] at h2; omega
                    go_upto_region 37 with fail
                    have hbq := heap_alloc_new w13 (.cells #[.int .i64 st, .int .i64 r.num, .int .i64 r.den, .slice A13 r.path.length c13, .int .i64 r.cost, .int .i64 r.done] 45)
                    have hb34 : Below w13.heap.size w13 (w13.alloc (.cells #[.int .i64 st, .int .i64 r.num, .int .i64 r.den, .slice A13 r.path.length c13, .int .i64 r.cost, .int .i64 r.done] 45)) := (Below.refl _ _).alloc (Nat.le_refl _) _
                    have HBQ := Lib.hid (B13.out.trans (hb34.mono B13.out.size))
                    have own14 := OW13.out.keep hb34
                    have hxo14 := hxo.keep hb34
                    have d0 := (hb34.cell (p := ⟨S12, R0.length * 5, none⟩) hS12).trans c0
                    have d1 := (hb34.cell (p := ⟨S12, R0.length * 5 + 1, none⟩) hS12).trans c1
                    have d2 := (hb34.cell (p := ⟨S12, R0.length * 5 + 2, none⟩) hS12).trans c2
                    have d3 := (hb34.cell (p := ⟨S12, R0.length * 5 + 3, none⟩) hS12).trans c3
                    have d4 := (hb34.cell (p := ⟨S12, R0.length * 5 + 4, none⟩) hS12).trans c4
                    have zS := Nat.lt_of_lt_of_le hS12 hb34.size
                    generalize w13.alloc (.cells #[.int .i64 st, .int .i64 r.num, .int .i64 r.den, .slice A13 r.path.length c13, .int .i64 r.cost, .int .i64 r.done] 45) = w14 at hbq HBQ own14 hxo14 d0 d1 d2 d3 d4 zS ⊢
                    clear hb34 c0 c1 c2 c3 c4 hS12
                    generalize w13.heap.size = XA at hbq ⊢
                    have q0 := blk_cell hbq 0
                    have q1 := blk_cell hbq 1
                    have q2 := blk_cell hbq 2
                    have q3 := blk_cell hbq 3
                    have q4 := blk_cell hbq 4
                    have q5 := blk_cell hbq 5
                    have zq := lt_of_block hbq
                    simp only [List.getElem?_toArray, List.getElem?_cons_zero, List.getElem?_cons_succ] at q0 q1 q2 q3 q4 q5
                    have keq := fun W (hW : Below w14.heap.size w14 W) => same_round x ⟨r.num, r.den, A13, r.path.length, c13, r.cost, r.done, r.path⟩ W (hxo14.keep hW).sl.2 (own14.keep hW).sl.2 hxk.symm rfl (by omega) hxr2
                    unfold rv at keq
                    dsimp only at keq
                    have hcl : ∀ W, Below w14.heap.size w14 W → W.cell? ⟨XA, 0, none⟩ = some (.int .i64 st) ∧ W.cell? ⟨XA, 1, none⟩ = some (.int .i64 r.num) ∧ W.cell? ⟨XA, 2, none⟩ = some (.int .i64 r.den) ∧ W.cell? ⟨XA, 3, none⟩ = some (.slice A13 r.path.length c13) ∧ W.cell? ⟨XA, 4, none⟩ = some (.int .i64 r.cost) ∧ W.cell? ⟨XA, 5, none⟩ = some (.int .i64 r.done) ∧ W.cell? ⟨S12, R0.length * 5, none⟩ = some (.int .i64 x.num) ∧ W.cell? ⟨S12, R0.length * 5 + 1, none⟩ = some (.int .i64 x.den) ∧ W.cell? ⟨S12, R0.length * 5 + 2, none⟩ = some (.slice x.A x.k x.c) ∧ W.cell? ⟨S12, R0.length * 5 + 3, none⟩ = some (.int .i64 x.cost) ∧ W.cell? ⟨S12, R0.length * 5 + 4, none⟩ = some (.int .i64 x.done) := fun W hW => ⟨(hW.cell (p := ⟨XA, 0, none⟩) zq).trans q0, (hW.cell (p := ⟨XA, 1, none⟩) zq).trans q1, (hW.cell (p := ⟨XA, 2, none⟩) zq).trans q2, (hW.cell (p := ⟨XA, 3, none⟩) zq).trans q3, (hW.cell (p := ⟨XA, 4, none⟩) zq).trans q4, (hW.cell (p := ⟨XA, 5, none⟩) zq).trans q5, (hW.cell (p := ⟨S12, R0.length * 5, none⟩) zS).trans d0, (hW.cell (p := ⟨S12, R0.length * 5 + 1, none⟩) zS).trans d1, (hW.cell (p := ⟨S12, R0.length * 5 + 2, none⟩) zS).trans d2, (hW.cell (p := ⟨S12, R0.length * 5 + 3, none⟩) zS).trans d3, (hW.cell (p := ⟨S12, R0.length * 5 + 4, none⟩) zS).trans d4⟩
                    have KEQ := Lib.hid keq
                    have HCL := Lib.hid hcl
                    have HST := Lib.hid hst
                    have HXK := Lib.hid hxk
                    clear keq hcl hst hbq own14 hxo14 hxo hxk hxr hxr2 hxm
                    have hn1 : ((R0.length : Int) + 1 == 0) = false := by rw [beq_eq_false_iff_ne]; omega
                    have hn2 : (0 < (R0.length : Int) + 1) = True := eq_true (by omega)
                    have hn3 : (st == 1) = false := by rw [beq_eq_false_iff_ne]; exact hst1
                    have hn4 : IntKind.i64.wrap ((R0.length : Int) + 1 - 1) = R0.length := by rw [IntWalk.i64_in _ (by omega)]; omega
                    have hn5 : IntKind.i64.wrap (R0.length : Int) = R0.length := IntWalk.i64_in _ (by omega)
                    have hn6 : (R0.length : Int) < (R0.length : Int) + 1 := by omega
                    clear hst1
                    go_region_held3 (fun w' => w'.cell? ⟨XA, 0, none⟩ = some (.int .i64 st) ∧ w'.cell? ⟨XA, 1, none⟩ = some (.int .i64 r.num) ∧ w'.cell? ⟨XA, 2, none⟩ = some (.int .i64 r.den) ∧ w'.cell? ⟨XA, 3, none⟩ = some (.slice A13 r.path.length c13) ∧ w'.cell? ⟨XA, 4, none⟩ = some (.int .i64 r.cost) ∧ w'.cell? ⟨XA, 5, none⟩ = some (.int .i64 r.done) ∧ w'.cell? ⟨S12, R0.length * 5, none⟩ = some (.int .i64 x.num) ∧ w'.cell? ⟨S12, R0.length * 5 + 1, none⟩ = some (.int .i64 x.den) ∧ w'.cell? ⟨S12, R0.length * 5 + 2, none⟩ = some (.slice x.A x.k x.c) ∧ w'.cell? ⟨S12, R0.length * 5 + 3, none⟩ = some (.int .i64 x.cost) ∧ w'.cell? ⟨S12, R0.length * 5 + 4, none⟩ = some (.int .i64 x.done)) (first | go_keep | exact hcw) (first | (go_at_call 20; refine (KEQ.out _ (Below.refl _ _).drew).mono ?_; rintro e wd ⟨rfl, hbd⟩; have hbw := ((Below.refl w14.heap.size w14).drew).trans hbd; have hcw := HCL.out _ hbw))
                    have HBR := Lib.hid (HBQ.out.trans (hbw.mono HBQ.out.size))
                    clear HBQ hbw hcw hbd HCL KEQ
                    go_wp2
                    go_roundw
                    case rel => exact ⟨i + 1, by go_num, hi, HBR⟩
                    case measure => simp [intOf]; omega
                · obtain rfl : i = 3 := by omega
                  have hfin := (HK.out _ (B8.out.trans (HB.out.mono Z8))).2.2.1
                  have HFIN := Lib.hid hfin
                  clear hfin
                  go_wp2
                  go_ret
                  exact ⟨rfl, HFIN.out⟩
    · have HX := Lib.hid hx
      clear hx
      go_wp2
      go_loopw [69] (fun i wr => ∃ (k : Nat), i = .int .i64 k ∧ k = 0 ∧ Hid (SV w3.heap.size wr Z4 W H A4 c4 l 0 (fun _ => none) (fun _ _ => False)) ∧ Hid (Below (w.heap.size + 1) (w.alloc (.cells #[.int .i64 W, .int .i64 H, .slice A l.length c] 24)) wr)) (fun i _ => 3 - (intOf i).toNat)
      case atStart => exact ⟨0, rfl, rfl, SV4, B4⟩
      case round =>
        obtain ⟨k, rfl, hk0, HSV, HBW⟩ := hrel
        subst hk0
        clear SV4 B4
        obtain ⟨_, _, HL, HZ⟩ := HK.out _ HBW.out
        have ka := ask_no HSV.out f t Aw cw ws ((HWS.out.keep HL (Nat.le_refl _)).more HL.size) HN2.out hwl HX.out
        have KA := Lib.hid ka
        generalize hcode : ncode l.length f t (allM W H l l.length) (zs l.length) ws = cd at *
        have hcd : (cd != 0) = true := by rw [bne_iff_ne]; exact HX.out
        clear ka HL HX hcode
        go_wp2_with fail
        refine KA.out.mono ?_
        rintro e w5 ⟨rfl, hb5⟩
        have HB5 := Lib.hid ((HK.out _ (HBW.out.trans (hb5.mono HZ))).2.2.1)
        clear KA hb5 HSV HBW HZ
        go_wp2
        go_ret
        exact ⟨rfl, HB5.out⟩
  · have kn := new_no W H A c l w3 sl3 hll hg
    have hne : (gchk W H l != 0) = true := by rw [bne_iff_ne]; exact hg
    have KN := Lib.hid kn
    clear kn sl3 hg
    generalize gchk W H l = z at *
    go_wp2_with fail
    refine KN.out.mono ?_
    rintro e w4 ⟨rfl, hb4⟩
    have HB4 := Lib.hid ((HK.out _ (B3.trans (hb4.mono Z3))).2.2.1)
    clear q0 q1 q2 KN hb4 B3
    go_wp2
    go_ret
    exact ⟨rfl, HB4.out⟩

theorem own : ownKnob Try.prog.godebug = none := by kernel_rfl
theorem laidOut : laidOutB Try.prog = true := by kernel_rfl

set_option maxRecDepth 100000 in
theorem contract (H : Type) (enc : TypeId × Value → H) (W : World) (base : Nat) (args : Array Value) (ds gs : List (DataW H)) (before : List MemPlace)
    (hval0 : ∀ (j : Nat) t v, Try.f4.params[j]? = some t → args[j]? = some v → Value.okWide Try.prog W .any base t v)
    (hW : DataW.Whole enc Try.prog Try.f4.params.toList Rows.serveFairSpec.vars false W args.toList ds gs before) (hk : Rows.uptoSmall H (ds ++ gs) = true) :
    Calls Try.prog 4 args W fun e W' => ∃ v, e = .returned v ∧ Rows.serveFairSpec.post enc Try.prog Try.f4 false true false false W args v W' := by
  have hval : ∀ (j : Nat) t v, Try.f4.params[j]? = some t → args[j]? = some v → Value.okWide Try.prog W .any base t v := hval0
  have hW' := hW
  obtain ⟨p, q, hA0, hV, rfl, hfz, hnd⟩ := hW
  have hA : DataW.TrodAll enc Try.prog W 0 (fun _ => true) true Try.f4.params.toList args.toList ds p := hA0
  rw [Try.params4] at hA hval
  obtain ⟨v0, vs0, d0, ds0, p0, q0, hargs, rfl, rfl, h0, r0⟩ := trodAll_cons hA
  obtain ⟨v1, vs1, d1, ds1, p1, q1, rfl, rfl, rfl, h1, r1⟩ := trodAll_cons r0
  obtain ⟨v2, vs2, d2, ds2, p2, q2, rfl, rfl, rfl, h2, r2⟩ := trodAll_cons r1
  obtain ⟨v3, vs3, d3, ds3, p3, q3, rfl, rfl, rfl, h3, r3⟩ := trodAll_cons r2
  obtain ⟨v4, vs4, d4, ds4, p4, q4, rfl, rfl, rfl, h4, r4⟩ := trodAll_cons r3
  obtain ⟨rfl, rfl, rfl⟩ := trodAll_nil r4
  obtain rfl : args = #[v0, v1, v2, v3, v4] := by cases args; simp_all
  obtain ⟨rfl, rfl⟩ := trodVars_none hV
  obtain ⟨W0, H0, A0, c0, l0, dd0, rfl, hW0, hH0, hG0, hb0, rfl, hd0⟩ := open_grid Try.underlying24 (by kernel_rfl) (by kernel_rfl) Try.underlying3 Try.underlying3 Try.underlying22 Try.underlying3 (by kernel_rfl) (hval 0 24 v0 rfl rfl) h0
  obtain ⟨a1, rfl, rfl, rfl, wa1⟩ := open_int Try.underlying3 (hval 1 3 v1 rfl rfl) h1
  obtain ⟨a2, rfl, rfl, rfl, wa2⟩ := open_int Try.underlying3 (hval 2 3 v2 rfl rfl) h2
  obtain ⟨A3, c3, l3, rfl, hG3, hd3, hb3⟩ := open_sl2 Try.underlying26 Try.underlying39 (by kernel_rfl) (by kernel_rfl) Try.underlying3 Try.underlying3 (hval 3 26 v3 rfl rfl) h3
  obtain ⟨A4, c4, l4, rfl, hG4, hd4, hb4⟩ := open_sl1 Try.underlying22 Try.underlying3 (by kernel_rfl) (hval 4 22 v4 rfl rfl) h4
  have hbulk := bulk_bound hk
  simp only [List.cons_append, List.nil_append, List.append_nil, Rows.uptoBulkAll] at hbulk
  have hq0 := bulk_agg3 (x := .lit (.int .i64 W0)) (y := .lit (.int .i64 H0)) hd0
  have hq1 := bulk_len hd3
  have hq2 := bulk_len hd4
  refine (walk W W0 H0 A0 c0 l0 hW0 hH0 hG0 a1 (wf_bd wa1) a2 (wf_bd wa2) A3 c3 l3 hG3 A4 c4 l4 hG4 (by omega)).mono fun e W' ⟨he, hB⟩ => ?_
  subst he
  exact ⟨_, rfl, post_of_law laidOut rfl Try.underlying4 rfl (by intro t ht; rw [Try.params4] at ht; simp at ht; rcases ht with rfl | rfl | rfl | rfl | rfl <;> exact ⟨by kernel_rfl, of_decide_eq_true (by kernel_rfl)⟩) hW' rfl hB⟩

set_option maxRecDepth 100000 in
theorem lifted (os : Os) (started : os.Started) (H : Type) (enc : TypeId × Value → H) (F : Stop.Interp) :
    ReturnsInHanded {} Try.checked os 4 .any ((Rows.OpenSpec.upto Rows.serveFairSpec).pre6 enc Try.prog Try.f4 Rows.serveFairUptoRow.domain false) (((Rows.OpenSpec.upto Rows.serveFairSpec).at F).post enc Try.prog Try.f4 false true false false) := by
  refine returnsInHanded_of_cond (C := Try.checked) (s := Rows.OpenSpec.upto Rows.serveFairSpec) (k := Rows.uptoSmall) rfl own started (by kernel_rfl) Try.func4
    (OpenSpec.witness (enc := enc) (C := Try.checked) (s := Rows.OpenSpec.upto Rows.serveFairSpec) (k := Rows.uptoSmall) rfl false ⟨#[], #[.agg #[.int .i64 0, .int .i64 0, .slice none 0 0], .int .i64 0, .int .i64 0, .slice none 0 0, .slice none 0 0], []⟩ 8 (by kernel_rfl) (by kernel_rfl) (by kernel_rfl)
      (x := ([.agg [.lit (.int .i64 0), .lit (.int .i64 0), .nil], .lit (.int .i64 0), .lit (.int .i64 0), .nil, .nil], [], [])) (by kernel_rfl) rfl (by kernel_rfl)) ?_
  intro W base args ds gs before hval hW _ hk _
  exact contract H enc W base args ds gs before hval hW hk

theorem holds : Rows.ServeFairUptoSaid :=
  OpenClaim.holds_of_cond 4 Try.f4 rfl rfl rfl rfl rfl rfl rfl ⟨rfl, rfl, rfl, rfl, rfl⟩ rfl rfl rfl rfl rfl (by kernel_rfl) Try.func4 (by kernel_rfl)
    (of_decide_eq_true (by kernel_rfl)) (by unfold Func.isWrapper; first | (rw [if_pos (by decide +kernel)]; kernel_rfl) | (rw [if_neg (by decide +kernel)]; exact ⟨rfl, rfl⟩))
    (fun os started H enc _ F => lifted os started H enc F)
#print axioms holds
end Go.Proofs.Ytpoolpaagbeokaa.ServeFairLaw
