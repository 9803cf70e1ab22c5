/- For every grid, list of pairs, list of weights and list of numbers that are not too long in all: ServeFrames answers true (however steps are cut into frames, the answers are the same), and the arguments read as before. Condition: the lists together are no longer than 1048576. -/
import Derived.Test.YtpoolpaagbeokaaRows
import Derived.Test.YtpoolpaagbeokaaVServeDuo
import Derived.Test.YtpoolpaagbeokaaVBulk
import Derived.IntWalk
namespace Go.Proofs.Ytpoolpaagbeokaa.ServeFramesLaw
open Go.ChangeShapes Go.WideShapes Go.ChangeAt Go.RowKit Go.Proofs.Ytpoolpaagbeokaa NetLaw BellLaw StarLaw AraLaw Go.Proofs.Ytpoolpaagbeokaa.Net Go.Proofs.Ytpoolpaagbeokaa.Std Go.Proofs.Ytpoolpaagbeokaa.Flow Go.Proofs.Ytpoolpaagbeokaa.Ara Go.Proofs.Ytpoolpaagbeokaa.GroundLaw
open Go.Proofs.Ytpoolpaagbeokaa.GridLaw hiding E
open Go.Proofs.Ytpoolpaagbeokaa.ServeLaw Go.Proofs.Ytpoolpaagbeokaa.Serve
open Go.Proofs.Ytpoolpaagbeokaa.StarF (slook slook_any slook_zero)
set_option linter.unusedSimpArgs false
set_option linter.unusedVariables false
set_option maxRecDepth 100000 in
set_option maxHeartbeats 16000000 in
theorem walk (w : World) (W H : Int) (A : Option Addr) (c : Nat) (l : List Int) (hW : -9223372036854775808 ≤ W ∧ W ≤ 9223372036854775807) (hH : -9223372036854775808 ≤ H ∧ H ≤ 9223372036854775807) (hA : Arg w 1 ci A c l) (Ap : Option Addr) (cp_ : Nat) (ps : List (Int × Int)) (hAp : Arg w 2 cp Ap cp_ ps) (Aw : Option Addr) (cw : Nat) (ws : List (Int × Int)) (hAw : Arg w 2 cp Aw cw ws) (Af : Option Addr) (cf : Nat) (fr : List Int) (hAf : Arg w 1 ci Af cf fr) (hbulk : l.length + (ps.length + (ws.length + fr.length)) ≤ 1048576) :
    Calls Try.prog 3 #[.agg #[.int .i64 W, .int .i64 H, .slice A l.length c], .slice Ap ps.length cp_, .slice Aw ws.length cw, .slice Af fr.length cf] w fun e w' => e = .returned (.bool true) ∧ Below w.heap.size w w' := by
  have hs := hA.sl
  have n1 := hA.nil
  have hll : l.length ≤ 1048576 := by omega
  have hws := hAw.sl
  have hps := hAp.sl
  have hfr := hAf.sl
  have n2 := hAw.nil
  have hwl : ws.length ≤ 1048576 := by omega
  have hpl : ps.length ≤ 1048576 := by omega
  have hfl : fr.length ≤ 1048576 := by omega
  clear hA hAw hAp hAf hW hH hbulk
  have HK := Lib.hid (fun X hX => sbox (X := X) (W := W) (H := H) (c := c) hs hX)
  have HB0 := Lib.hid (Below.refl (w.heap.size + 1) (w.alloc (.cells #[.int .i64 W, .int .i64 H, .slice A l.length c] 24)))
  have HWS := Lib.hid hws
  have HPS := Lib.hid hps
  have HFR := Lib.hid hfr
  have HN1 := Lib.hid n1
  have HN2 := Lib.hid n2
  clear hs hws hps hfr n1 n2
  obtain ⟨mp, hmp⟩ : ∃ mp, ps.length = mp := ⟨_, rfl⟩
  have HMP := Lib.hid hmp
  rw [hmp] at hpl ⊢
  clear hmp
  obtain ⟨mf, hmf⟩ : ∃ mf, fr.length = mf := ⟨_, rfl⟩
  have HMF := Lib.hid hmf
  rw [hmf] at hfl ⊢
  clear hmf
  go_enter Try.func3, Try.ntmps3
  go_wp2_with fail
  refine (ground_s _).mono ?_
  rintro e w1 ⟨S1, rfl, s1, hb1⟩
  have B1 := HB0.out.trans (hb1.mono (by simp))
  have Z1 : w.heap.size + 1 ≤ w1.heap.size := by have := B1.size; simpa using this
  clear hb1
  go_wp2_with fail
  refine (new_s _ _ s1).mono ?_
  rintro e w3 ⟨Z2, A2, c2, rfl, sv2, hb2⟩
  have B3 := B1.trans (hb2.mono Z1)
  clear hb2 B1 s1 sv2
  obtain ⟨⟨q0, q1, q2⟩, sl3, H3, Z3⟩ := HK.out _ B3
  by_cases hg : gchk W H l = 0
  · have gg := gchk_zero.1 hg
    clear hg
    have kn := new_g W H A c l w3 sl3 HN1.out gg
    have KN := Lib.hid kn
    have HGG := Lib.hid gg
    clear kn gg sl3
    go_wp2_with fail
    refine KN.out.mono ?_
    rintro e w4 ⟨Z4, A4, c4, rfl, sv4, hb4⟩
    have B4 := B3.trans (hb4.mono Z3)
    have SV4 := Lib.hid sv4
    clear q0 q1 q2 KN sv4 hb4 B3 H3
    obtain ⟨⟨q0, q1, q2⟩, sl4, H4, Z4'⟩ := HK.out _ B4
    have kn := new_g W H A c l w4 sl4 HN1.out HGG.out
    have KN := Lib.hid kn
    clear kn sl4
    go_wp2_with fail
    refine KN.out.mono ?_
    rintro e w5 ⟨Z5, A5, c5, rfl, sv5, hb5⟩
    have duo : Duo w3.heap.size w4.heap.size w5 W H l Z4 A4 c4 0 (fun _ => none) (fun _ _ => False) Z5 A5 c5 0 (fun _ => none) (fun _ _ => False) :=
      ⟨SV4.out.keep hb5, sv5, fun x h1 h2 => by have a1 := (SV4.out.sb h1).2; have a2 := (sv5.sb h2).1; omega⟩
    have DUO := Lib.hid duo
    have B5 := Lib.hid (B4.trans (hb5.mono Z4'))
    have Z44 := Z4'
    clear q0 q1 q2 KN sv5 hb5 duo SV4 H4 B4
    go_wp2
    go_loopw [77] (fun i wr => ∃ (j k : Nat) (σ : Nat → Option Slt) (D : Nat → Nat → Prop) (σ' : Nat → Option Slt) (D' : Nat → Nat → Prop), i = .int .i64 j ∧ j ≤ mp ∧ k ≤ 6 ∧ Hid (Duo w3.heap.size w4.heap.size wr W H l Z4 A4 c4 0 σ D Z5 A5 c5 0 σ' D') ∧ Hid (Lk σ σ' k) ∧ Hid (Below (w.heap.size + 1) (w.alloc (.cells #[.int .i64 W, .int .i64 H, .slice A l.length c] 24)) wr)) (fun i _ => mp - (intOf i).toNat)
    case atStart => exact ⟨0, 0, _, _, _, _, rfl, Nat.zero_le _, by decide, DUO, Lib.hid Lk.start, B5⟩
    case round =>
      obtain ⟨j, k, σ, D, σ', D', rfl, hj, hk6, HD, HLK, HBW⟩ := hrel
      clear DUO B5
      by_cases hlt : j < mp
      · have hjl : j < ps.length := by rw [HMP.out]; exact hlt
        obtain ⟨_, _, HL, HZ⟩ := HK.out _ HBW.out
        obtain ⟨bq, oq, x, y, hA8, hbq, -, hcx, hcy⟩ := sl_pair ((HPS.out.keep HL (Nat.le_refl _)).more HL.size) hjl
        have zj : (j : Int) < (mp : Int) := by omega
        clear HL hjl
        go_upto_region 11 with fail
        have hbx := heap_alloc_new wr (.cells #[.int .i64 x, .int .i64 y] 33)
        have hb6 : Below wr.heap.size wr (wr.alloc (.cells #[.int .i64 x, .int .i64 y] 33)) := (Below.refl _ _).alloc (Nat.le_refl _) _
        have D6 := Lib.hid (HD.out.keep hb6)
        have B6 := Lib.hid (HBW.out.trans (hb6.mono HZ))
        have hXZ : wr.heap.size ≠ Z4 := fun e => by have := HD.out.one.Zlt; omega
        generalize wr.alloc (.cells #[.int .i64 x, .int .i64 y] 33) = w6 at hbx D6 B6 ⊢
        generalize wr.heap.size = XP at hbx hXZ ⊢
        have HBX := Lib.hid hbx
        have HXZ := Lib.hid hXZ
        have q0 := blk_cell hbx 0
        have q1 := blk_cell hbx 1
        have zq := lt_of_block hbx
        simp only [List.getElem?_toArray, List.getElem?_cons_zero, List.getElem?_cons_succ] at q0 q1
        clear hbx hb6 HD HBW HZ hcx hcy hbq hA8 hXZ
        obtain ⟨_, _, HL, HZ⟩ := HK.out _ B6.out
        have hsw := (HWS.out.keep HL (Nat.le_refl _)).more HL.size
        by_cases hx : ncode l.length x y (allM W H l l.length) (zs l.length) ws = 0
        · obtain ⟨hx0, hy0⟩ := ncode_zero.1 hx
          obtain ⟨⟨f0, f1⟩, t0, t1⟩ := ask_in hx0
          obtain ⟨fn, rfl⟩ := Int.eq_ofNat_of_zero_le f0
          obtain ⟨tn, rfl⟩ := Int.eq_ofNat_of_zero_le t0
          have hfl0 : fn < l.length := by omega
          have htl0 : tn < l.length := by omega
          have ka := ask_yes D6.out.one fn tn Aw cw ws hsw HN2.out hwl hfl0 htl0 hy0 k hk6 (fun _ => (HLK.out.non k (Nat.le_refl _)).1) (fun m hm e => by obtain ⟨g, _, e2, _⟩ := HLK.out.som m hm; rw [e] at e2; cases e2)
          have KA := Lib.hid ka
          have HY := Lib.hid hy0
          clear ka HL hx hx0 hy0 f0 f1 t0 t1 HZ hsw
          go_wp2_with fail
          refine KA.out.mono ?_
          rintro e w7 (⟨rfl, rfl, hb7⟩ | ⟨hk5, g, Dg, rfl, sv7, ho7, g1, g2, g3, g4, g5, gd⟩)
          · have D7 := Lib.hid (D6.out.keep hb7)
            have B7 := Lib.hid (B6.out.trans (hb7.mono (HK.out _ B6.out).2.2.2))
            have hbx7 := blk_below HBX.out hb7 (lt_of_block HBX.out)
            have q0 := blk_cell hbx7 0
            have q1 := blk_cell hbx7 1
            have zq := lt_of_block hbx7
            simp only [List.getElem?_toArray, List.getElem?_cons_zero, List.getElem?_cons_succ] at q0 q1
            have hsw := (HWS.out.keep (HK.out _ B7.out).2.2.1 (Nat.le_refl _)).more (HK.out _ B7.out).2.2.1.size
            have ka := ask_yes D7.out.two fn tn Aw cw ws hsw HN2.out hwl hfl0 htl0 HY.out 6 (Nat.le_refl _) (fun h => absurd h (by decide)) (fun m hm e => by obtain ⟨_, g, _, e2, _⟩ := HLK.out.som m hm; rw [e] at e2; cases e2)
            have KB := Lib.hid ka
            clear ka hsw KA hb7 hbx7 HBX D6 B6
            go_wp2_with fail
            refine KB.out.mono ?_
            rintro e w8 (⟨_, rfl, hb8⟩ | ⟨h6, _⟩)
            · have D8 := Lib.hid (D7.out.keep hb8)
              have B8 := Lib.hid (B7.out.trans (hb8.mono (HK.out _ B7.out).2.2.2))
              clear KB hb8 D7 B7 q0 q1 zq
              go_wp2
              go_roundw
              case rel => exact ⟨j + 1, 6, σ, D, σ', D', by go_num, hlt, hk6, D8, HLK, B8⟩
              case measure => simp [intOf]; omega
            · exact absurd h6 (by decide)
          · have hof7 : Off (SB Z4 A4 D) w6 w7 := ho7.more fun x e => .inl e
            have D7 := Lib.hid (D6.out.on sv7 hof7 (ds_upd gd))
            have B7 := Lib.hid (B6.out.trans ((D6.out.one.loZ ho7).mono Z3))
            have hbx7 := blk_off HBX.out ho7 HXZ.out
            have q0 := blk_cell hbx7 0
            have q1 := blk_cell hbx7 1
            have zq := lt_of_block hbx7
            simp only [List.getElem?_toArray, List.getElem?_cons_zero, List.getElem?_cons_succ] at q0 q1
            have hsw := (HWS.out.keep (HK.out _ B7.out).2.2.1 (Nat.le_refl _)).more (HK.out _ B7.out).2.2.1.size
            have ka := ask_yes D7.out.two fn tn Aw cw ws hsw HN2.out hwl hfl0 htl0 HY.out k hk6 (fun _ => (HLK.out.non k (Nat.le_refl _)).2) (fun m hm e => by obtain ⟨_, g, _, e2, _⟩ := HLK.out.som m hm; rw [e] at e2; cases e2)
            have KB := Lib.hid ka
            have HG := Lib.hid (And.intro g1 (And.intro g2 (And.intro g3 (And.intro g4 g5))))
            clear ka hsw KA hbx7 HBX D6 B6 sv7 ho7 hof7 g1 g2 g3 g4 g5 gd
            go_wp2_with fail
            refine KB.out.mono ?_
            rintro e w8 (⟨h6, _⟩ | ⟨_, g', Dg', rfl, sv8, ho8, g1', g2', g3', g4', g5', gd'⟩)
            · omega
            · obtain ⟨g1, g2, g3, g4, g5⟩ := HG.out
              have hof8 : Off (SB Z5 A5 D') w7 w8 := ho8.more fun x e => .inl e
              have D8 := Lib.hid (D7.out.swap.on sv8 hof8 (ds_upd gd')).swap
              have B8 := Lib.hid (B7.out.trans ((D7.out.two.loZ ho8).mono Z44))
              have HLK8 := Lib.hid (HLK.out.add (g := g) (g' := g') (g1'.trans g1.symm) (g2'.trans g2.symm) (g3'.trans g3.symm) g4 g4' g5 g5')
              clear KB sv8 ho8 hof8 D7 B7 q0 q1 zq g1 g2 g3 g4 g5 g1' g2' g3' g4' g5' gd' HG HLK
              go_wp2
              go_roundw
              case rel => exact ⟨j + 1, k + 1, _, _, _, _, by go_num, hlt, by omega, D8, HLK8, B8⟩
              case measure => simp [intOf]; omega
        · have ka := ask_no D6.out.one x y Aw cw ws hsw HN2.out hwl hx
          have KA := Lib.hid ka
          have HX := Lib.hid hx
          obtain ⟨cd, hcd⟩ : ∃ cd, ncode l.length x y (allM W H l l.length) (zs l.length) ws = cd := ⟨_, rfl⟩
          rw [hcd] at KA
          have HCD := Lib.hid hcd
          clear ka hx HL HZ hsw hcd
          go_wp2_with fail
          refine KA.out.mono ?_
          rintro e w7 ⟨rfl, hb7⟩
          have D7 := Lib.hid (D6.out.keep hb7)
          have B7 := Lib.hid (B6.out.trans (hb7.mono (HK.out _ B6.out).2.2.2))
          have hbx7 := blk_below HBX.out hb7 (lt_of_block HBX.out)
          have q0 := blk_cell hbx7 0
          have q1 := blk_cell hbx7 1
          have zq := lt_of_block hbx7
          simp only [List.getElem?_toArray, List.getElem?_cons_zero, List.getElem?_cons_succ] at q0 q1
          have hsw := (HWS.out.keep (HK.out _ B7.out).2.2.1 (Nat.le_refl _)).more (HK.out _ B7.out).2.2.1.size
          have ka := ask_no D7.out.two x y Aw cw ws hsw HN2.out hwl HX.out
          rw [HCD.out] at ka
          have KB := Lib.hid ka
          clear ka hsw KA hb7 hbx7 HBX D6 B6 HCD HX
          go_wp2_with fail
          refine KB.out.mono ?_
          rintro e w8 ⟨rfl, hb8⟩
          have D8 := Lib.hid (D7.out.keep hb8)
          have B8 := Lib.hid (B7.out.trans (hb8.mono (HK.out _ B7.out).2.2.2))
          clear KB hb8 D7 B7 q0 q1 zq
          go_wp2
          go_roundw
          case rel => exact ⟨j + 1, k, σ, D, σ', D', by go_num, hlt, hk6, D8, HLK, B8⟩
          case measure => simp [intOf]; omega
      · obtain rfl : j = mp := by omega
        have zjm : ¬ ((j : Int) < (j : Int)) := by omega
        rename World => w6
        have HB6 := Lib.hid HBW.out
        have DU6 := Lib.hid HD.out
        clear HBW HD
        go_wp2
        go_loopw [112, 21] (fun i x wr => ∃ (m sum turn : Nat) (σ1 : Nat → Option Slt) (D1 : Nat → Nat → Prop), i = .int .i64 m ∧ x = .int .i64 sum ∧ m ≤ mf ∧ Hid (Duo w3.heap.size w4.heap.size wr W H l Z4 A4 c4 turn σ1 D1 Z5 A5 c5 0 σ' D') ∧ Hid (Went σ σ1) ∧ Hid (Run (Tk l.length (allM W H l l.length) σ) 0 (cnt σ) sum turn (cnt σ1)) ∧ Hid (Below (w.heap.size + 1) (w.alloc (.cells #[.int .i64 W, .int .i64 H, .slice A l.length c] 24)) wr)) (fun i _ _ => mf - (intOf i).toNat)
        case atStart => exact ⟨0, 0, 0, σ, D, rfl, rfl, Nat.zero_le _, DU6, Lib.hid (Went.refl σ), Lib.hid Run.zero, HB6⟩
        case round =>
          obtain ⟨m, sum, turn, σ1, D1, rfl, rfl, hm, HD, HWT, HRN, HBW⟩ := hrel
          clear HB6 DU6
          have hsum := HD.out.one.sum_le_ HRN.out
          by_cases hlt2 : m < mf
          · have hjl : m < fr.length := by rw [HMF.out]; exact hlt2
            obtain ⟨_, _, HL, HZ⟩ := HK.out _ HBW.out
            obtain ⟨bq, oq, hA8, hbq, hcq⟩ := ((HFR.out.keep HL (Nat.le_refl _)).more HL.size).atI hjl
            obtain ⟨x, hx⟩ : ∃ x, fr[m] = x := ⟨_, rfl⟩
            rw [hx] at hcq
            have zj : (m : Int) < (mf : Int) := by omega
            clear hx hjl HL HZ
            go_wp2_with fail
            refine (Within.within_any x 30 (by decide) (by decide) _).mono ?_
            rintro e wq ⟨rfl, rfl⟩
            have hwi := (Within.wi_spec x 30 (by decide) (by decide)).2
            generalize Within.wi x 30 = wi at *
            have kf := frame_any HD.out.one wi (by omega) (by omega)
            have KF := Lib.hid kf
            clear kf hA8 hbq hcq
            go_wp2_with fail
            refine KF.out.mono ?_
            rintro e w9 ⟨u9, t9, σ9, D9, rfl, sv9, wt9, rn9, le9, _, of9, nd9⟩
            rw [HWT.out.tk] at rn9
            have hof9 : Off (SB Z4 A4 D1) wq w9 := of9.more (fun x hx => by
              rcases hx with e | e
              · exact .inl e
              · exact .inr (.inr e))
            have D9 := Lib.hid (HD.out.on sv9 hof9 nd9)
            have HWT9 := Lib.hid (HWT.out.trans wt9)
            have HRN9 := Lib.hid (HRN.out.append rn9)
            have B9 := Lib.hid (HBW.out.trans ((HD.out.one.lo of9).mono Z3))
            have hww : IntKind.i64.wrap ((sum : Int) + (u9 : Int)) = ((sum + u9 : Nat) : Int) := by rw [IntWalk.i64_in _ (by omega)]; omega
            have zle : ¬ ((u9 : Int) > (wi : Int)) := by omega
            clear KF sv9 wt9 rn9 of9 nd9 hof9 HD HWT HRN HBW hsum
            go_wp2
            go_roundw
            case rel => exact ⟨m + 1, sum + u9, t9, σ9, _, by go_num, by go_num, hlt2, D9, HWT9, HRN9, B9⟩
            case measure => simp [intOf]; omega
          · obtain rfl : m = mf := by omega
            have zmm : ¬ ((m : Int) < (m : Int)) := by omega
            rename World => w7
            have kf := frame_any HD.out.two sum (by omega) (by omega)
            have KF := Lib.hid kf
            clear kf
            go_wp2_with fail
            refine KF.out.mono ?_
            rintro e w8 ⟨u8, t8, σ8, D8, rfl, sv8, wt8, rn8, le8, st8, of8, nd8⟩
            rw [HLK.out.tk_, HLK.out.cnt_] at rn8
            rw [HLK.out.tk_] at st8
            obtain ⟨hu8, htt, hcc⟩ := Run.same HRN.out rn8 (by omega) (fun h => st8 (by omega))
            subst hu8
            have hof8 : Off (SB Z5 A5 D') w7 w8 := of8.more (fun x hx => by
              rcases hx with e | e
              · exact .inl e
              · exact .inr (.inr e))
            have D8' := Lib.hid (HD.out.swap.on sv8 hof8 nd8).swap
            have B8 := Lib.hid (HBW.out.trans ((HD.out.two.lo of8).mono Z44))
            have HSS := Lib.hid (fun i (hi : i < 6) => same_state HLK.out D8'.out.one D8'.out.two HWT.out wt8 hcc hi)
            clear KF sv8 wt8 rn8 le8 st8 of8 nd8 hof8 htt hcc HD HBW HRN HWT hsum
            go_wp2
            go_loopw [148] (fun i wr => ∃ (q : Nat), i = .int .i64 q ∧ q ≤ 6 ∧ Hid (Below w8.heap.size w8 wr)) (fun i _ => 6 - (intOf i).toNat)
            case atStart => exact ⟨0, rfl, by decide, Lib.hid (Below.refl _ _)⟩
            case round =>
              obtain ⟨q, rfl, hq6, HB⟩ := hrel
              have hZ8 : w.heap.size + 1 ≤ w8.heap.size := (HK.out _ B8.out).2.2.2
              rename World => w9
              by_cases hq : q < 6
              · have zq6 : (q : Int) < 6 := by omega
                have d9 := D8'.out.keep HB.out
                rcases HSS.out q hq with ⟨e1, e2⟩ | ⟨g, g', e1, e2, hss, hwl2, hm1, hm2⟩
                · have kp := poll_none d9.one hq e1
                  have KP := Lib.hid kp
                  have D9 := Lib.hid d9
                  have HE := Lib.hid (And.intro e1 e2)
                  clear kp d9 e1 e2
                  go_wp2_with fail
                  refine KP.out.mono ?_
                  rintro e w10 ⟨rfl, hb10⟩
                  have h11 : Below w10.heap.size w10 (w10.alloc (.cells #[.int .i64 0, .int .i64 0, .int .i64 0, .slice none 0 0, .int .i64 0, .int .i64 0] 45)) := (Below.refl _ _).alloc (Nat.le_refl _) _
                  have D10 := Lib.hid ((D9.out.keep hb10).keep h11)
                  have B10 := Lib.hid (HB.out.trans ((hb10.trans (h11.mono hb10.size)).mono HB.out.size))
                  have hbn := heap_alloc_new w10 (.cells #[.int .i64 0, .int .i64 0, .int .i64 0, .slice none 0 0, .int .i64 0, .int .i64 0] 45)
                  clear hb10 KP D9 HB h11
                  go_upto_region 33 with fail
                  generalize w10.alloc (.cells #[.int .i64 0, .int .i64 0, .int .i64 0, .slice none 0 0, .int .i64 0, .int .i64 0] 45) = w11 at D10 B10 hbn ⊢
                  generalize w10.heap.size = X1 at hbn ⊢
                  have kp := poll_none D10.out.two hq HE.out.2
                  have KP := Lib.hid kp
                  have HBN := Lib.hid hbn
                  clear kp hbn
                  go_wp2_with fail
                  refine KP.out.mono ?_
                  rintro e w12 ⟨rfl, hb12⟩
                  have hbn12 := blk_below HBN.out hb12 (lt_of_block HBN.out)
                  have B12 := Lib.hid (B10.out.trans (hb12.mono B10.out.size))
                  clear hb12 KP D10 B10 HBN
                  go_upto_region 34 with fail
                  have h13 : Below w12.heap.size w12 (w12.alloc (.cells #[.int .i64 0, .int .i64 0, .int .i64 0, .slice none 0 0, .int .i64 0, .int .i64 0] 45)) := (Below.refl _ _).alloc (Nat.le_refl _) _
                  have hbm := heap_alloc_new w12 (.cells #[.int .i64 0, .int .i64 0, .int .i64 0, .slice none 0 0, .int .i64 0, .int .i64 0] 45)
                  have hbn13 := blk_below hbn12 h13 (lt_of_block hbn12)
                  have B13 := Lib.hid (B12.out.trans (h13.mono B12.out.size))
                  generalize w12.alloc (.cells #[.int .i64 0, .int .i64 0, .int .i64 0, .slice none 0 0, .int .i64 0, .int .i64 0] 45) = w13 at hbm hbn13 B13 ⊢
                  generalize w12.heap.size = X2 at hbm ⊢
                  have ks := same_answer 0 ⟨0, 0, [], 0, 0⟩ none 0 none 0 w13 Sl.nil Sl.nil (by decide)
                  have KS := Lib.hid ks
                  have o0 := blk_cell hbn13 0
                  have o1 := blk_cell hbn13 1
                  have o2 := blk_cell hbn13 2
                  have o3 := blk_cell hbn13 3
                  have o4 := blk_cell hbn13 4
                  have o5 := blk_cell hbn13 5
                  have zo := lt_of_block hbn13
                  have p0 := blk_cell hbm 0
                  have p1 := blk_cell hbm 1
                  have p2 := blk_cell hbm 2
                  have p3 := blk_cell hbm 3
                  have p4 := blk_cell hbm 4
                  have p5 := blk_cell hbm 5
                  have zp := lt_of_block hbm
                  simp only [List.getElem?_toArray, List.getElem?_cons_zero, List.getElem?_cons_succ] at o0 o1 o2 o3 o4 o5 p0 p1 p2 p3 p4 p5
                  clear ks hbm hbn13 hbn12 h13 B12
                  go_wp2_with fail
                  refine KS.out.mono ?_
                  rintro e w14 ⟨rfl, hb14⟩
                  have B14 := Lib.hid (B13.out.trans (hb14.mono B13.out.size))
                  clear hb14 KS B13 o0 o1 o2 o3 o4 o5 p0 p1 p2 p3 p4 p5 zo zp
                  go_wp2
                  go_roundw
                  case rel => exact ⟨q + 1, by go_num, hq, B14⟩
                  case measure => simp [intOf]; omega
                · rcases List.eq_nil_or_concat g.s.rds with hr | ⟨R0, r, hr⟩
                  · have kp := poll_empty d9.one hq e1 hr hm1
                    have KP := Lib.hid kp
                    have D9 := Lib.hid d9
                    have HE := Lib.hid (And.intro e2 (And.intro (hss ▸ hr : g'.s.rds = []) hm2))
                    clear kp d9 e1 e2 hss hr hm1 hm2 hwl2
                    go_wp2_with fail
                    refine KP.out.mono ?_
                    rintro e w10 ⟨rfl, hb10⟩
                    have h11 : Below w10.heap.size w10 (w10.alloc (.cells #[.int .i64 1, .int .i64 0, .int .i64 0, .slice none 0 0, .int .i64 0, .int .i64 0] 45)) := (Below.refl _ _).alloc (Nat.le_refl _) _
                    have D10 := Lib.hid ((D9.out.keep hb10).keep h11)
                    have B10 := Lib.hid (HB.out.trans ((hb10.trans (h11.mono hb10.size)).mono HB.out.size))
                    have hbn := heap_alloc_new w10 (.cells #[.int .i64 1, .int .i64 0, .int .i64 0, .slice none 0 0, .int .i64 0, .int .i64 0] 45)
                    clear hb10 KP D9 HB h11
                    go_upto_region 33 with fail
                    generalize w10.alloc (.cells #[.int .i64 1, .int .i64 0, .int .i64 0, .slice none 0 0, .int .i64 0, .int .i64 0] 45) = w11 at D10 B10 hbn ⊢
                    generalize w10.heap.size = X1 at hbn ⊢
                    have kp := poll_empty D10.out.two hq HE.out.1 HE.out.2.1 HE.out.2.2
                    have KP := Lib.hid kp
                    have HBN := Lib.hid hbn
                    clear kp hbn
                    go_wp2_with fail
                    refine KP.out.mono ?_
                    rintro e w12 ⟨rfl, hb12⟩
                    have hbn12 := blk_below HBN.out hb12 (lt_of_block HBN.out)
                    have B12 := Lib.hid (B10.out.trans (hb12.mono B10.out.size))
                    clear hb12 KP D10 B10 HBN
                    go_upto_region 34 with fail
                    have h13 : Below w12.heap.size w12 (w12.alloc (.cells #[.int .i64 1, .int .i64 0, .int .i64 0, .slice none 0 0, .int .i64 0, .int .i64 0] 45)) := (Below.refl _ _).alloc (Nat.le_refl _) _
                    have hbm := heap_alloc_new w12 (.cells #[.int .i64 1, .int .i64 0, .int .i64 0, .slice none 0 0, .int .i64 0, .int .i64 0] 45)
                    have hbn13 := blk_below hbn12 h13 (lt_of_block hbn12)
                    have B13 := Lib.hid (B12.out.trans (h13.mono B12.out.size))
                    generalize w12.alloc (.cells #[.int .i64 1, .int .i64 0, .int .i64 0, .slice none 0 0, .int .i64 0, .int .i64 0] 45) = w13 at hbm hbn13 B13 ⊢
                    generalize w12.heap.size = X2 at hbm ⊢
                    have ks := same_answer 1 ⟨0, 0, [], 0, 0⟩ none 0 none 0 w13 Sl.nil Sl.nil (by decide)
                    have KS := Lib.hid ks
                    have o0 := blk_cell hbn13 0
                    have o1 := blk_cell hbn13 1
                    have o2 := blk_cell hbn13 2
                    have o3 := blk_cell hbn13 3
                    have o4 := blk_cell hbn13 4
                    have o5 := blk_cell hbn13 5
                    have zo := lt_of_block hbn13
                    have p0 := blk_cell hbm 0
                    have p1 := blk_cell hbm 1
                    have p2 := blk_cell hbm 2
                    have p3 := blk_cell hbm 3
                    have p4 := blk_cell hbm 4
                    have p5 := blk_cell hbm 5
                    have zp := lt_of_block hbm
                    simp only [List.getElem?_toArray, List.getElem?_cons_zero, List.getElem?_cons_succ] at o0 o1 o2 o3 o4 o5 p0 p1 p2 p3 p4 p5
                    clear ks hbm hbn13 hbn12 h13 B12
                    go_wp2_with fail
                    refine KS.out.mono ?_
                    rintro e w14 ⟨rfl, hb14⟩
                    have B14 := Lib.hid (B13.out.trans (hb14.mono B13.out.size))
                    clear hb14 KS B13 o0 o1 o2 o3 o4 o5 p0 p1 p2 p3 p4 p5 zo zp
                    go_wp2
                    go_roundw
                    case rel => exact ⟨q + 1, by go_num, hq, B14⟩
                    case measure => simp [intOf]; omega
                  · rw [List.concat_eq_append] at hr
                    have hsl := d9.one.slot q hq g e1
                    have hpl2 := (SI.paths (hsl.sr.si hsl.fo hsl.po)).1 r (by rw [hr]; simp)
                    obtain ⟨st, hst⟩ : ∃ st : Int, (if g.s.rds.length = g.F.ws.length then (4 : Int) else 2) = st := ⟨_, rfl⟩
                    have kp := poll_good d9.one hq e1 hr
                    rw [hst] at kp
                    have hr' : g'.s.rds = R0 ++ [r] := by rw [hss]; exact hr
                    have hst' : (if g'.s.rds.length = g'.F.ws.length then (4 : Int) else 2) = st := by rw [hss, hwl2]; exact hst
                    have KP := Lib.hid kp
                    have D9 := Lib.hid d9
                    have HE := Lib.hid (And.intro e2 (And.intro hr' hst'))
                    have hpl3 : r.path.length ≤ 64 := hpl2
                    clear kp d9 e1 e2 hss hr hm1 hm2 hwl2 hr' hst' hst hsl hpl2
                    go_wp2_with fail
                    refine KP.out.mono ?_
                    rintro e w10 ⟨A10, c10, rfl, own10, hb10⟩
                    have h11 : Below w10.heap.size w10 (w10.alloc (.cells #[.int .i64 st, .int .i64 r.num, .int .i64 r.den, .slice A10 r.path.length c10, .int .i64 r.cost, .int .i64 r.done] 45)) := (Below.refl _ _).alloc (Nat.le_refl _) _
                    have D10 := Lib.hid ((D9.out.keep hb10).keep h11)
                    have B10 := Lib.hid (HB.out.trans ((hb10.trans (h11.mono hb10.size)).mono HB.out.size))
                    have OW10 := Lib.hid (own10.keep h11)
                    have hbn := heap_alloc_new w10 (.cells #[.int .i64 st, .int .i64 r.num, .int .i64 r.den, .slice A10 r.path.length c10, .int .i64 r.cost, .int .i64 r.done] 45)
                    clear hb10 KP D9 HB h11 own10
                    go_upto_region 33 with fail
                    generalize w10.alloc (.cells #[.int .i64 st, .int .i64 r.num, .int .i64 r.den, .slice A10 r.path.length c10, .int .i64 r.cost, .int .i64 r.done] 45) = w11 at D10 B10 OW10 hbn ⊢
                    generalize w10.heap.size = X1 at hbn ⊢
                    have kp := poll_good D10.out.two hq HE.out.1 HE.out.2.1
                    rw [HE.out.2.2] at kp
                    have KP := Lib.hid kp
                    have HBN := Lib.hid hbn
                    clear kp hbn
                    go_wp2_with fail
                    refine KP.out.mono ?_
                    rintro e w12 ⟨A12, c12, rfl, own12, hb12⟩
                    have hbn12 := blk_below HBN.out hb12 (lt_of_block HBN.out)
                    have B12 := Lib.hid (B10.out.trans (hb12.mono B10.out.size))
                    have OW12 := Lib.hid (OW10.out.keep hb12)
                    have OV12 := Lib.hid own12
                    clear hb12 KP D10 B10 HBN OW10 own12
                    go_upto_region 34 with fail
                    have h13 : Below w12.heap.size w12 (w12.alloc (.cells #[.int .i64 st, .int .i64 r.num, .int .i64 r.den, .slice A12 r.path.length c12, .int .i64 r.cost, .int .i64 r.done] 45)) := (Below.refl _ _).alloc (Nat.le_refl _) _
                    have hbm := heap_alloc_new w12 (.cells #[.int .i64 st, .int .i64 r.num, .int .i64 r.den, .slice A12 r.path.length c12, .int .i64 r.cost, .int .i64 r.done] 45)
                    have hbn13 := blk_below hbn12 h13 (lt_of_block hbn12)
                    have B13 := Lib.hid (B12.out.trans (h13.mono B12.out.size))
                    have h13b := h13
                    generalize w12.alloc (.cells #[.int .i64 st, .int .i64 r.num, .int .i64 r.den, .slice A12 r.path.length c12, .int .i64 r.cost, .int .i64 r.done] 45) = w13 at h13b hbm hbn13 B13 ⊢
                    generalize w12.heap.size = X2 at hbm ⊢
                    have ks := same_answer st r A10 c10 A12 c12 w13 ((OW12.out.keep h13b).sl.2) ((OV12.out.keep h13b).sl.2) (by omega)
                    have KS := Lib.hid ks
                    have o0 := blk_cell hbn13 0
                    have o1 := blk_cell hbn13 1
                    have o2 := blk_cell hbn13 2
                    have o3 := blk_cell hbn13 3
                    have o4 := blk_cell hbn13 4
                    have o5 := blk_cell hbn13 5
                    have zo := lt_of_block hbn13
                    have p0 := blk_cell hbm 0
                    have p1 := blk_cell hbm 1
                    have p2 := blk_cell hbm 2
                    have p3 := blk_cell hbm 3
                    have p4 := blk_cell hbm 4
                    have p5 := blk_cell hbm 5
                    have zp := lt_of_block hbm
                    simp only [List.getElem?_toArray, List.getElem?_cons_zero, List.getElem?_cons_succ] at o0 o1 o2 o3 o4 o5 p0 p1 p2 p3 p4 p5
                    clear h13b ks hbm hbn13 hbn12 h13 B12
                    go_wp2_with fail
                    refine KS.out.mono ?_
                    rintro e w14 ⟨rfl, hb14⟩
                    have B14 := Lib.hid (B13.out.trans (hb14.mono B13.out.size))
                    clear hb14 KS B13 o0 o1 o2 o3 o4 o5 p0 p1 p2 p3 p4 p5 zo zp
                    go_wp2
                    go_roundw
                    case rel => exact ⟨q + 1, by go_num, hq, B14⟩
                    case measure => simp [intOf]; omega
              · obtain rfl : q = 6 := by omega
                have HFIN := Lib.hid (HK.out _ (B8.out.trans (HB.out.mono hZ8))).2.2.1
                clear HB
                go_wp2
                go_ret
                exact ⟨rfl, HFIN.out⟩
  · have kn := new_no W H A c l w3 sl3 (by omega) hg
    have hne : (gchk W H l != 0) = true := by rw [bne_iff_ne]; exact hg
    have KN := Lib.hid kn
    have HG := Lib.hid hg
    obtain ⟨z, hz⟩ : ∃ z, gchk W H l = z := ⟨_, rfl⟩
    have HZ := Lib.hid hz
    rw [hz] at KN hne
    clear kn sl3 hg hz
    go_wp2_with fail
    refine KN.out.mono ?_
    rintro e w4 ⟨rfl, hb4⟩
    have B4 := B3.trans (hb4.mono Z3)
    clear q0 q1 q2 KN hb4 B3
    obtain ⟨⟨q0, q1, q2⟩, sl4, H4, Z4⟩ := HK.out _ B4
    have kn := new_no W H A c l w4 sl4 (by omega) HG.out
    rw [HZ.out] at kn
    have KN := Lib.hid kn
    clear kn sl4
    go_wp2_with fail
    refine KN.out.mono ?_
    rintro e w5 ⟨rfl, hb5⟩
    have HB5 := Lib.hid ((HK.out _ (B4.trans (hb5.mono Z4))).2.2.1)
    clear q0 q1 q2 KN hb5 B4 H3 H4 HZ
    go_wp2
    go_ret
    exact ⟨rfl, HB5.out⟩

theorem own : ownKnob Try.prog.godebug = none := by kernel_rfl
theorem laidOut : laidOutB Try.prog = true := by kernel_rfl

set_option maxRecDepth 100000 in
theorem contract (H : Type) (enc : TypeId × Value → H) (W : World) (base : Nat) (args : Array Value) (ds gs : List (DataW H)) (before : List MemPlace)
    (hval0 : ∀ (j : Nat) t v, Try.f3.params[j]? = some t → args[j]? = some v → Value.okWide Try.prog W .any base t v)
    (hW : DataW.Whole enc Try.prog Try.f3.params.toList Rows.serveFramesSpec.vars false W args.toList ds gs before) (hk : Rows.uptoSmall H (ds ++ gs) = true) :
    Calls Try.prog 3 args W fun e W' => ∃ v, e = .returned v ∧ Rows.serveFramesSpec.post enc Try.prog Try.f3 false true false false W args v W' := by
  have hval : ∀ (j : Nat) t v, Try.f3.params[j]? = some t → args[j]? = some v → Value.okWide Try.prog W .any base t v := hval0
  have hW' := hW
  obtain ⟨p, q, hA0, hV, rfl, hfz, hnd⟩ := hW
  have hA : DataW.TrodAll enc Try.prog W 0 (fun _ => true) true Try.f3.params.toList args.toList ds p := hA0
  rw [Try.params3] at hA hval
  obtain ⟨v0, vs0, d0, ds0, p0, q0, hargs, rfl, rfl, h0, r0⟩ := trodAll_cons hA
  obtain ⟨v1, vs1, d1, ds1, p1, q1, rfl, rfl, rfl, h1, r1⟩ := trodAll_cons r0
  obtain ⟨v2, vs2, d2, ds2, p2, q2, rfl, rfl, rfl, h2, r2⟩ := trodAll_cons r1
  obtain ⟨v3, vs3, d3, ds3, p3, q3, rfl, rfl, rfl, h3, r3⟩ := trodAll_cons r2
  obtain ⟨rfl, rfl, rfl⟩ := trodAll_nil r3
  obtain rfl : args = #[v0, v1, v2, v3] := by cases args; simp_all
  obtain ⟨rfl, rfl⟩ := trodVars_none hV
  obtain ⟨W0, H0, A0, c0, l0, dd0, rfl, hW0, hH0, hG0, hb0, rfl, hd0⟩ := open_grid Try.underlying24 (by kernel_rfl) (by kernel_rfl) Try.underlying3 Try.underlying3 Try.underlying22 Try.underlying3 (by kernel_rfl) (hval 0 24 v0 rfl rfl) h0
  obtain ⟨A1, c1, l1, rfl, hG1, hd1, hb1⟩ := open_sl2 Try.underlying25 Try.underlying33 (by kernel_rfl) (by kernel_rfl) Try.underlying3 Try.underlying3 (hval 1 25 v1 rfl rfl) h1
  obtain ⟨A2, c2, l2, rfl, hG2, hd2, hb2⟩ := open_sl2 Try.underlying26 Try.underlying39 (by kernel_rfl) (by kernel_rfl) Try.underlying3 Try.underlying3 (hval 2 26 v2 rfl rfl) h2
  obtain ⟨A3, c3, l3, rfl, hG3, hd3, hb3⟩ := open_sl1 Try.underlying22 Try.underlying3 (by kernel_rfl) (hval 3 22 v3 rfl rfl) h3
  have hbulk := bulk_bound hk
  simp only [List.cons_append, List.nil_append, List.append_nil, Rows.uptoBulkAll] at hbulk
  have hq0 := bulk_agg3 (x := .lit (.int .i64 W0)) (y := .lit (.int .i64 H0)) hd0
  have hq1 := bulk_len hd1
  have hq2 := bulk_len hd2
  have hq3 := bulk_len hd3
  refine (walk W W0 H0 A0 c0 l0 hW0 hH0 hG0 A1 c1 l1 hG1 A2 c2 l2 hG2 A3 c3 l3 hG3 (by omega)).mono fun e W' ⟨he, hB⟩ => ?_
  subst he
  exact ⟨_, rfl, post_of_law laidOut rfl Try.underlying4 rfl (by intro t ht; rw [Try.params3] at ht; simp at ht; rcases ht with rfl | rfl | rfl | rfl <;> exact ⟨by kernel_rfl, of_decide_eq_true (by kernel_rfl)⟩) hW' rfl hB⟩

set_option maxRecDepth 100000 in
theorem lifted (os : Os) (started : os.Started) (H : Type) (enc : TypeId × Value → H) (F : Stop.Interp) :
    ReturnsInHanded {} Try.checked os 3 .any ((Rows.OpenSpec.upto Rows.serveFramesSpec).pre6 enc Try.prog Try.f3 Rows.serveFramesUptoRow.domain false) (((Rows.OpenSpec.upto Rows.serveFramesSpec).at F).post enc Try.prog Try.f3 false true false false) := by
  refine returnsInHanded_of_cond (C := Try.checked) (s := Rows.OpenSpec.upto Rows.serveFramesSpec) (k := Rows.uptoSmall) rfl own started (by kernel_rfl) Try.func3
    (OpenSpec.witness (enc := enc) (C := Try.checked) (s := Rows.OpenSpec.upto Rows.serveFramesSpec) (k := Rows.uptoSmall) rfl false ⟨#[], #[.agg #[.int .i64 0, .int .i64 0, .slice none 0 0], .slice none 0 0, .slice none 0 0, .slice none 0 0], []⟩ 8 (by kernel_rfl) (by kernel_rfl) (by kernel_rfl)
      (x := ([.agg [.lit (.int .i64 0), .lit (.int .i64 0), .nil], .nil, .nil, .nil], [], [])) (by kernel_rfl) rfl (by kernel_rfl)) ?_
  intro W base args ds gs before hval hW _ hk _
  exact contract H enc W base args ds gs before hval hW hk

theorem holds : Rows.ServeFramesUptoSaid :=
  OpenClaim.holds_of_cond 3 Try.f3 rfl rfl rfl rfl rfl rfl rfl ⟨rfl, rfl, rfl, rfl, rfl⟩ rfl rfl rfl rfl rfl (by kernel_rfl) Try.func3 (by kernel_rfl)
    (of_decide_eq_true (by kernel_rfl)) (by unfold Func.isWrapper; first | (rw [if_pos (by decide +kernel)]; kernel_rfl) | (rw [if_neg (by decide +kernel)]; exact ⟨rfl, rfl⟩))
    (fun os started H enc _ F => lifted os started H enc F)
#print axioms holds
end Go.Proofs.Ytpoolpaagbeokaa.ServeFramesLaw
