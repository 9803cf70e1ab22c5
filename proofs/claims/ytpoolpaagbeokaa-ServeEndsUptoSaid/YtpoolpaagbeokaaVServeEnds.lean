/- For every grid, list of pairs and list of weights that are not too long in all: ServeEnds answers true (where nothing is edited any longer all requests are over in the end, and told as well as they may be), and the arguments read as before. Condition: the lists together are no longer than 1048576. -/
import Derived.Test.YtpoolpaagbeokaaRows
import Derived.Test.YtpoolpaagbeokaaVServeApart
import Derived.Test.YtpoolpaagbeokaaVBulk
import Derived.IntWalk
namespace Go.Proofs.Ytpoolpaagbeokaa.ServeEndsLaw
open Go.ChangeShapes Go.WideShapes Go.ChangeAt Go.RowKit Go.Proofs.Ytpoolpaagbeokaa NetLaw BellLaw StarLaw AraLaw Go.Proofs.Ytpoolpaagbeokaa.Net Go.Proofs.Ytpoolpaagbeokaa.Std Go.Proofs.Ytpoolpaagbeokaa.Flow Go.Proofs.Ytpoolpaagbeokaa.Ara Go.Proofs.Ytpoolpaagbeokaa.GroundLaw
open Go.Proofs.Ytpoolpaagbeokaa.GridLaw hiding E
open Go.Proofs.Ytpoolpaagbeokaa.ServeLaw Go.Proofs.Ytpoolpaagbeokaa.Serve
open Go.Proofs.Ytpoolpaagbeokaa.StarF (slook slook_any slook_zero)
set_option linter.unusedSimpArgs false
set_option linter.unusedVariables false
theorem infoAsked : (Try.prog.info? 66).map (fun i => (i.zero, i.size, i.bytes)) = some (some (.agg #[.int .i64 0, .int .i64 0, .int .i64 0]), 3, 24) := by kernel_rfl
set_option maxRecDepth 100000 in
set_option maxHeartbeats 16000000 in
theorem walk (w : World) (W H : Int) (A : Option Addr) (c : Nat) (l : List Int) (hW : -9223372036854775808 ≤ W ∧ W ≤ 9223372036854775807) (hH : -9223372036854775808 ≤ H ∧ H ≤ 9223372036854775807) (hA : Arg w 1 ci A c l) (Ap : Option Addr) (cp_ : Nat) (ps : List (Int × Int)) (hAp : Arg w 2 cp Ap cp_ ps) (Aw : Option Addr) (cw : Nat) (ws : List (Int × Int)) (hAw : Arg w 2 cp Aw cw ws) (hbulk : l.length + (ps.length + ws.length) ≤ 1048576) :
    Calls Try.prog 5 #[.agg #[.int .i64 W, .int .i64 H, .slice A l.length c], .slice Ap ps.length cp_, .slice Aw ws.length cw] w fun e w' => e = .returned (.bool true) ∧ Below w.heap.size w w' := by
  have hs := hA.sl
  have n1 := hA.nil
  have hll : l.length ≤ 1048576 := by omega
  have hws := hAw.sl
  have hps := hAp.sl
  have n2 := hAw.nil
  have hwl : ws.length ≤ 1048576 := by omega
  have hpl : ps.length ≤ 1048576 := by omega
  obtain ⟨i3, hi3, hx0, hx1, hx2⟩ := info_parts infoAsked
  clear hA hAw hAp hW hH hbulk
  have HK := Lib.hid (fun X hX => sbox (X := X) (W := W) (H := H) (c := c) hs hX)
  have HB0 := Lib.hid (Below.refl (w.heap.size + 1) (w.alloc (.cells #[.int .i64 W, .int .i64 H, .slice A l.length c] 24)))
  have HWS := Lib.hid hws
  have HPS := Lib.hid hps
  have HN1 := Lib.hid n1
  have HN2 := Lib.hid n2
  clear hs hws hps n1 n2
  obtain ⟨mp, hmp⟩ : ∃ mp, ps.length = mp := ⟨_, rfl⟩
  have HMP := Lib.hid hmp
  rw [hmp] at hpl ⊢
  clear hmp
  go_enter Try.func5, Try.ntmps5
  go_wp2_with fail
  refine (ground_s _).mono ?_
  rintro e w1 ⟨S1, rfl, s1, hb1⟩
  have B1 := HB0.out.trans (hb1.mono (by simp))
  have Z1 : w.heap.size + 1 ≤ w1.heap.size := by have := B1.size; simpa using this
  clear hb1
  go_wp2_with fail
  refine (new_s _ _ s1).mono ?_
  rintro e w2 ⟨Z2, A2, c2, rfl, sv2, hb2⟩
  have B2 := B1.trans (hb2.mono Z1)
  have SV2 := Lib.hid sv2
  clear hb2 B1 s1 sv2
  go_wp2_with fail
  refine (one_anyA _).mono ?_
  rintro e w2b ⟨rfl, hb2⟩
  have hk2 : Below w2b.heap.size w2b (w2b.alloc (.cells #[.int .i64 1, .int .i64 1] 39)) := (Below.refl _ _).alloc (Nat.le_refl _) _
  have Z2b : w.heap.size + 1 ≤ w2b.heap.size := by have h1 := B2.size; have h2 := hb2.size; simp at h1; omega
  have B2c := (B2.trans (hb2.mono (by have h1 := B2.size; simpa using h1))).trans (hk2.mono Z2b)
  have SV2c := (SV2.out.keep hb2).keep hk2
  have sr1 := sl_new' (sz := 2) (cell := cp) (by decide) w2b #[.int .i64 1, .int .i64 1] 39 [(1, 1)] rfl rfl
  have ka := ask_s SV2c _ sr1
  have KA := Lib.hid ka
  have SV2d := Lib.hid SV2c
  clear hb2 hk2 SV2 SV2c sr1 ka B2
  go_wp2_with fail
  refine KA.out.mono ?_
  rintro e w2e ⟨g3, D3, rfl, sv3, ho3, gf3, gt3, gw3, gk3⟩
  have B2e := B2c.trans ((SV2d.out.loZ ho3).mono Z1)
  have SV2e := Lib.hid sv3
  have HG3 := Lib.hid (And.intro gf3 (And.intro gt3 (And.intro gw3 gk3)))
  clear KA SV2d B2c ho3 sv3 gf3 gt3 gw3 gk3
  have kf := frame_any SV2e.out 9 (by decide) (by decide)
  have KF := Lib.hid kf
  clear kf
  go_wp2_with fail
  refine KF.out.mono ?_
  rintro e w3 ⟨u3, t3, σ3, D3', rfl, _, _, hr3, _, hst3, ho3, _⟩
  obtain rfl : u3 = 1 := frame_s HG3.out.1 HG3.out.2.1 HG3.out.2.2.1 HG3.out.2.2.2 hr3 (fun hu => hst3 (by omega))
  have B3 := B2e.trans ((SV2e.out.lo ho3).mono Z1)
  clear hr3 hst3 ho3 KF SV2e B2e HG3
  obtain ⟨⟨q0, q1, q2⟩, sl3, H3, Z3⟩ := HK.out _ B3
  by_cases hg : gchk W H l = 0
  · have gg := gchk_zero.1 hg
    clear hg
    have kn := new_g W H A c l w3 sl3 HN1.out gg
    have KN := Lib.hid kn
    have HGG := Lib.hid gg
    clear kn gg sl3
    go_wp2_with fail
    refine KN.out.mono ?_
    rintro e w4 ⟨Z4, A4, c4, rfl, sv4, hb4⟩
    have B4 := Lib.hid (B3.trans (hb4.mono Z3))
    have SV4 := Lib.hid sv4
    clear q0 q1 q2 KN sv4 hb4 B3 H3
    go_wp2
    go_loopw [77, 15] (fun i sl wr => ∃ (j k : Nat) (σ : Nat → Option Slt) (D : Nat → Nat → Prop) (A9 : Option Addr) (c9 : Nat) (R : List E), i = .int .i64 j ∧ sl = .slice A9 k c9 ∧ j ≤ mp ∧ k ≤ 6 ∧ Hid (SV w3.heap.size wr Z4 W H A4 c4 l 0 σ D) ∧ Hid (Own wr w3.heap.size 66 3 ce (.slice A9 k c9) R) ∧ Hid (Reqs σ k R) ∧ Hid (∀ x, ob A9 = some x → x ≠ Z4 ∧ ∀ i, i < 6 → ¬ D i x) ∧ Hid (Below (w.heap.size + 1) (w.alloc (.cells #[.int .i64 W, .int .i64 H, .slice A l.length c] 24)) wr)) (fun i _ _ => mp - (intOf i).toNat)
    case atStart => exact ⟨0, 0, _, _, none, 0, [], rfl, rfl, Nat.zero_le _, by decide, SV4, Lib.hid Own.nil_, Lib.hid Reqs.start, Lib.hid (fun x e => nomatch e), B4⟩
    case round =>
      obtain ⟨j, k, σ, D, A9, c9, R, rfl, rfl, hj, hk6, HSV, HOR, HRQ, HAP, HBW⟩ := hrel
      clear SV4 B4
      by_cases hlt : j < mp
      · have hjl : j < ps.length := by rw [HMP.out]; exact hlt
        obtain ⟨_, _, HL, HZ⟩ := HK.out _ HBW.out
        obtain ⟨bq, oq, x, y, hA8, hbq, -, hcx, hcy⟩ := sl_pair ((HPS.out.keep HL (Nat.le_refl _)).more HL.size) hjl
        have zj : (j : Int) < (mp : Int) := by omega
        clear HL hjl
        go_upto_region 17 with fail
        have hbx := heap_alloc_new wr (.cells #[.int .i64 x, .int .i64 y] 33)
        have hb6 : Below wr.heap.size wr (wr.alloc (.cells #[.int .i64 x, .int .i64 y] 33)) := (Below.refl _ _).alloc (Nat.le_refl _) _
        have SV6 := Lib.hid (HSV.out.keep hb6)
        have OR6 := Lib.hid (HOR.out.keep hb6)
        have B6 := Lib.hid (HBW.out.trans (hb6.mono HZ))
        generalize wr.alloc (.cells #[.int .i64 x, .int .i64 y] 33) = w6 at hbx SV6 OR6 B6 ⊢
        generalize wr.heap.size = XP at hbx ⊢
        have HBX := Lib.hid hbx
        have q0 := blk_cell hbx 0
        have q1 := blk_cell hbx 1
        have zq := lt_of_block hbx
        simp only [List.getElem?_toArray, List.getElem?_cons_zero, List.getElem?_cons_succ] at q0 q1
        clear hbx hb6 HSV HOR HBW HZ hcx hcy hbq hA8
        obtain ⟨_, _, HL, HZ⟩ := HK.out _ B6.out
        have hsw := (HWS.out.keep HL (Nat.le_refl _)).more HL.size
        by_cases hx : ncode l.length x y (allM W H l l.length) (zs l.length) ws = 0
        · obtain ⟨hx0, hy0⟩ := ncode_zero.1 hx
          obtain ⟨⟨f0, f1⟩, t0, t1⟩ := ask_in hx0
          obtain ⟨fn, rfl⟩ := Int.eq_ofNat_of_zero_le f0
          obtain ⟨tn, rfl⟩ := Int.eq_ofNat_of_zero_le t0
          have hfl0 : fn < l.length := by omega
          have htl0 : tn < l.length := by omega
          have ka := ask_yes SV6.out fn tn Aw cw ws hsw HN2.out hwl hfl0 htl0 hy0 k hk6 (fun _ => HRQ.out.non k (Nat.le_refl _)) (fun m hm e => by obtain ⟨g, e2, _⟩ := HRQ.out.som m hm; rw [e] at e2; cases e2)
          have KA := Lib.hid ka
          clear ka HL hx hx0 hy0 f0 f1 t0 t1 HZ hsw
          go_wp2_with fail
          refine KA.out.mono ?_
          rintro e w7 (⟨rfl, rfl, hb7⟩ | ⟨hk5, g, D', rfl, sv7, ho7, g1, g2, g3, g4, g5, gd⟩)
          · have SV7 := Lib.hid (SV6.out.keep hb7)
            have OR7 := Lib.hid (OR6.out.keep hb7)
            have B7 := Lib.hid (B6.out.trans (hb7.mono (HK.out _ B6.out).2.2.2))
            clear KA hb7 SV6 OR6 B6 q0 q1 zq HBX
            go_wp2
            go_roundw
            case rel => exact ⟨j + 1, 6, σ, D, A9, c9, R, by go_num, rfl, hlt, hk6, SV7, OR7, HRQ, HAP, B7⟩
            case measure => simp [intOf]; omega
          · have SV7 := Lib.hid sv7
            have OR7 := Lib.hid (own_off OR6.out ho7 (fun x e => (HAP.out x e).1))
            have B7 := Lib.hid (B6.out.trans ((SV6.out.loZ ho7).mono Z3))
            have hsz67 := ho7.size
            have HAP7 : Hid (∀ x, ob A9 = some x → x ≠ Z4 ∧ ∀ i, i < 6 → ¬ upd1 D k D' i x) := Lib.hid (fun x e => ⟨(HAP.out x e).1, fun i hi hd => by
              by_cases e2 : i = k
              · subst e2
                rw [upd1_eq] at hd
                have h1 := gd x hd
                have h2 := (OR6.out.base_ x ((ob_ ..).trans e)).2
                omega
              · rw [upd1_ne _ _ e2] at hd
                exact (HAP.out x e).2 i hi hd⟩)
            have HRQ7 := HRQ.out.add g
            rw [g1, g2] at HRQ7
            have HR7 := Lib.hid HRQ7
            have hXZ : XP ≠ Z4 := fun e => by have := blk_ne HBX.out SV6.out.z (by decide); exact this e
            have hbx7 := blk_off HBX.out ho7 hXZ
            have q0 := blk_cell hbx7 0
            have q1 := blk_cell hbx7 1
            have zq := lt_of_block hbx7
            simp only [List.getElem?_toArray, List.getElem?_cons_zero, List.getElem?_cons_succ] at q0 q1
            have HZ4 := Lib.hid SV6.out.Zlt
            clear KA g1 g2 g3 g4 g5 gd sv7 ho7 HRQ7 HRQ HAP OR6 B6 hbx7 HBX hXZ
            have h78 : Below w7.heap.size w7 (w7.alloc (.cells #[.int .i64 k, .int .i64 fn, .int .i64 tn] 66)) := (Below.refl _ _).alloc (Nat.le_refl _) _
            have SV8 := Lib.hid (SV7.out.keep h78)
            have OR8 := Lib.hid (OR7.out.keep h78)
            have B8 := Lib.hid (B7.out.trans (h78.mono (HK.out _ B7.out).2.2.2))
            have h38 : w3.heap.size ≤ (w7.alloc (.cells #[.int .i64 k, .int .i64 fn, .int .i64 tn] 66)).heap.size := SV8.out.size
            have HRL := Lib.hid HR7.out.len
            have hrl : R.length = k := by have := HR7.out.len; simp at this; exact this
            clear h78
            go_upto_region 20 with (at_builtin; go_must (refine wpList_push _ rfl (.tmp 93) (.tmp 100) _ rfl w3.heap.size 66 i3 _ 3 24 ce Try.underlying64 hi3 hx0 hx1 hx2 rfl (by decide) _ R k hrl rfl OR8.out w7.heap.size 1 ((k : Int), (fn : Int), (tn : Int)) rfl news3 (fun _ _ => one_ce _ _) (by omega) (by omega) h38 ?_; intro A10 c10 w9 hown9 hgrow9 hat9; have HOW9 := Lib.hid hown9; have HGR9 : Hid (World.grownBy (w7.alloc (.cells #[.int .i64 k, .int .i64 fn, .int .i64 tn] 66)) w9 (Value.slice A9 k c9).ownBlock) := Lib.hid hgrow9; have HAT9 : Hid ((Value.slice A10 (k + 1) c10).ownBlock = (Value.slice A9 k c9).ownBlock ∨ (Value.slice A10 (k + 1) c10).ownBlock = some (w7.alloc (.cells #[.int .i64 k, .int .i64 fn, .int .i64 tn] 66)).heap.size) := Lib.hid hat9; clear hown9 hgrow9 hat9))
            have hof9 := Off.grown HGR9.out
            have sv9 := SV8.out.off hof9 (fun e => (HAP7.out Z4 ((ob_ ..).symm.trans e)).1 rfl) (fun x e e2 => by
              rcases Ara.own_apart OR8.out SV8.out.cells (by decide) with h | h
              · rw [e2] at h; cases h
              · exact h (e2.trans ((ob_ ..).trans e).symm)) (fun i hi x hd e => (HAP7.out x ((ob_ ..).symm.trans e)).2 i hi hd)
            have SV9 := Lib.hid sv9
            have B9 := Lib.hid (B8.out.trans ((hof9.below h38 (fun g e => (OR8.out.base_ g e).1)).mono Z3))
            have HAP9 : Hid (∀ x, ob A10 = some x → x ≠ Z4 ∧ ∀ i, i < 6 → ¬ upd1 D k D' i x) := Lib.hid (fun x e => by
              rcases HAT9.out with h | h
              · exact HAP7.out x ((ob_ ..).symm.trans (h.symm.trans ((ob_ ..).trans e)))
              · have hx : x = (w7.alloc (.cells #[.int .i64 k, .int .i64 fn, .int .i64 tn] 66)).heap.size := by
                  have h2 := ((ob_ ..).trans e).symm.trans h
                  injection h2
                rw [hx]
                exact ⟨fun e3 => by have := SV8.out.Zlt; omega, fun i hi hd => by have := (SV8.out.dom i hi _ hd).2; omega⟩)
            clear hof9 sv9 hrl h38 HAT9 HGR9 SV8 OR8 B8 HAP7 SV7 OR7 B7 HRL q0 q1 zq
            go_wp2
            go_roundw
            case rel => exact ⟨j + 1, k + 1, _, _, A10, c10, _, by go_num, rfl, hlt, by omega, SV9, HOW9, HR7, HAP9, B9⟩
            case measure => simp [intOf]; omega
        · have ka := ask_no SV6.out x y Aw cw ws hsw HN2.out hwl hx
          have KA := Lib.hid ka
          have hcd : (ncode l.length x y (allM W H l l.length) (zs l.length) ws == 0) = false := by rw [beq_eq_false_iff_ne]; exact hx
          generalize ncode l.length x y (allM W H l l.length) (zs l.length) ws = cd at *
          clear ka hx HL HZ hsw
          go_wp2_with fail
          refine KA.out.mono ?_
          rintro e w7 ⟨rfl, hb7⟩
          have SV7 := Lib.hid (SV6.out.keep hb7)
          have OR7 := Lib.hid (OR6.out.keep hb7)
          have B7 := Lib.hid (B6.out.trans (hb7.mono (HK.out _ B6.out).2.2.2))
          clear KA hb7 SV6 OR6 B6 q0 q1 zq HBX
          go_wp2
          go_roundw
          case rel => exact ⟨j + 1, k, σ, D, A9, c9, R, by go_num, rfl, hlt, hk6, SV7, OR7, HRQ, HAP, B7⟩
          case measure => simp [intOf]; omega
      · obtain rfl : j = mp := by omega
        have zj : ¬ ((j : Int) < (j : Int)) := by omega
        rename World => w4r
        have kf := frame_any HSV.out 10000 (by decide) (by decide)
        have KF := Lib.hid kf
        clear kf
        go_wp2_with fail
        refine KF.out.mono ?_
        rintro e w5 ⟨u5, t5, σ5, D5, rfl, sv5, wt5, rn5, le5, st5, of5, nd5⟩
        have hu : u5 ≤ 6006 := sv5.sum_le_ rn5
        have hst := st5 (by omega)
        have hov := sv5.stuck_over wt5 hst
        have hu2 : u5 ≤ 3072 := sv5.sum_over hov rn5
        have SV5 := Lib.hid sv5
        have OR5 := Lib.hid (own_off HOR.out of5 (fun x e hx => by
          rcases hx with e2 | ⟨i, hi, hd⟩
          · exact (HAP.out x e).1 e2
          · exact (HAP.out x e).2 i hi hd))
        have B5 := Lib.hid (HBW.out.trans ((HSV.out.lo of5).mono Z3))
        have HRQ5 := Lib.hid (HRQ.out.went wt5)
        have HOV := Lib.hid hov
        have HST5 : Hid (Stuck (Tk l.length (allM W H l l.length) σ5) (cnt σ5)) := Lib.hid (by rw [wt5.tk]; exact hst)
        have zu : ¬ ((u5 : Int) > 3072) := by omega
        clear KF sv5 wt5 rn5 le5 st5 of5 nd5 hu hst hov HSV HOR HRQ HAP HBW
        go_wp2
        go_loopw [116] (fun i wr => ∃ (m : Nat), i = .int .i64 m ∧ m ≤ k ∧ Hid (Below w5.heap.size w5 wr)) (fun i _ => k - (intOf i).toNat)
        case atStart => exact ⟨0, rfl, Nat.zero_le _, Lib.hid (Below.refl _ _)⟩
        case round =>
          obtain ⟨m, rfl, hm, HB⟩ := hrel
          have hZ5 : w.heap.size + 1 ≤ w5.heap.size := (HK.out _ B5.out).2.2.2
          rename World => w6r
          by_cases hlt2 : m < k
          · obtain ⟨g, hg, hR⟩ := HRQ5.out.som m hlt2
            have hm6 : m < 6 := by omega
            have OR6 := OR5.out.keep HB.out
            have SV6 := SV5.out.keep HB.out
            obtain ⟨bq, oq, x, y, z, hA8, hbq, hxyz, hcx, hcy, hcz⟩ := OR6.sl.2.atE (show m < R.length by rw [HRQ5.out.len]; exact hlt2)
            rw [List.getElem?_eq_getElem (by rw [HRQ5.out.len]; exact hlt2), hxyz] at hR
            injection hR with hR
            injection hR with h1 h2
            injection h2 with h2 h3
            subst h1 h2 h3
            have zm : (m : Int) < (k : Int) := by omega
            have zm0 : (0 : Int) ≤ m := by omega
            have B6 := Lib.hid (B5.out.trans (HB.out.mono hZ5))
            have HG := Lib.hid hg
            clear hg hxyz OR6
            go_upto_region 27 with fail
            have hbx := heap_alloc_new w6r (.cells #[.int .i64 m, .int .i64 g.f, .int .i64 g.F.tt] 66)
            have hb7 : Below w6r.heap.size w6r (w6r.alloc (.cells #[.int .i64 m, .int .i64 g.f, .int .i64 g.F.tt] 66)) := (Below.refl _ _).alloc (Nat.le_refl _) _
            have SV7 := SV6.keep hb7
            have B7 := Lib.hid (HB.out.trans (hb7.mono HB.out.size))
            generalize w6r.alloc (.cells #[.int .i64 m, .int .i64 g.f, .int .i64 g.F.tt] 66) = w7 at hbx SV7 B7 ⊢
            generalize w6r.heap.size = XP at hbx ⊢
            have q0 := blk_cell hbx 0
            have zq := lt_of_block hbx
            simp only [List.getElem?_toArray, List.getElem?_cons_zero, List.getElem?_cons_succ] at q0
            have hsl7 := SV7.slot m hm6 g HG.out
            have hov := HOV.out m hm6 g HG.out
            obtain ⟨R0, r, hr⟩ := hsl7.last_ hov
            have kp := poll_good SV7 hm6 HG.out hr
            rw [if_pos hov] at kp
            have KP := Lib.hid kp
            have HBX := Lib.hid hbx
            have SV7h := Lib.hid SV7
            clear kp hr hsl7 hov hbx SV7 SV6 hb7 B6 HB hcx hcy hcz hA8 hbq
            go_wp2_with fail
            refine KP.out.mono ?_
            rintro e w8 ⟨A8, c8, rfl, own8, hb8⟩
            have SV8 := SV7h.out.keep hb8
            have hbx8 := blk_below HBX.out hb8 (lt_of_block HBX.out)
            have B8 := Lib.hid (B7.out.trans (hb8.mono B7.out.size))
            clear own8 hb8 KP SV7h HBX B7 q0 zq
            go_upto_region 28 with fail
            have hbn := heap_alloc_new w8 (.cells #[.int .i64 4, .int .i64 r.num, .int .i64 r.den, .slice A8 r.path.length c8, .int .i64 r.cost, .int .i64 r.done] 45)
            have hb9 : Below w8.heap.size w8 (w8.alloc (.cells #[.int .i64 4, .int .i64 r.num, .int .i64 r.den, .slice A8 r.path.length c8, .int .i64 r.cost, .int .i64 r.done] 45)) := (Below.refl _ _).alloc (Nat.le_refl _) _
            have SV9 := SV8.keep hb9
            have hbx9 := blk_below hbx8 hb9 (lt_of_block hbx8)
            have B9 := Lib.hid (B8.out.trans (hb9.mono B8.out.size))
            generalize w8.alloc (.cells #[.int .i64 4, .int .i64 r.num, .int .i64 r.den, .slice A8 r.path.length c8, .int .i64 r.cost, .int .i64 r.done] 45) = w9 at hbn SV9 hbx9 B9 ⊢
            generalize w8.heap.size = XA at hbn ⊢
            have q0 := blk_cell hbx9 0
            have q1 := blk_cell hbx9 1
            have q2 := blk_cell hbx9 2
            have zq := lt_of_block hbx9
            have n0 := blk_cell hbn 0
            have zn := lt_of_block hbn
            simp only [List.getElem?_toArray, List.getElem?_cons_zero, List.getElem?_cons_succ] at q0 q1 q2 n0
            have kg := ServeG.good_any SV9 hm6 HG.out
            have KG := Lib.hid kg
            clear kg SV9 SV8 hbx8 hbx9 hb9 B8 hbn
            go_wp2_with fail
            refine KG.out.mono ?_
            rintro e w10 ⟨rfl, hb10⟩
            have B10 := Lib.hid (B9.out.trans (hb10.mono B9.out.size))
            clear hb10 KG B9 q0 q1 q2 zq n0 zn
            go_wp2
            go_roundw
            case rel => exact ⟨m + 1, by go_num, hlt2, B10⟩
            case measure => simp [intOf]; omega
          · obtain rfl : m = k := by omega
            have zk : ¬ ((m : Int) < (m : Int)) := by omega
            have SV6 := SV5.out.keep HB.out
            have kf := frame_any SV6 10000 (by decide) (by decide)
            have KF := Lib.hid kf
            have SV7 := Lib.hid SV6
            have B6 := Lib.hid (B5.out.trans (HB.out.mono hZ5))
            clear kf SV6
            go_wp2_with fail
            refine KF.out.mono ?_
            rintro e w7 ⟨u7, t7, σ7, D7, rfl, _, _, rn7, _, _, of7, _⟩
            obtain rfl : u7 = 0 := rn7.stuck HST5.out
            have HFIN := Lib.hid (HK.out _ (B6.out.trans ((SV7.out.lo of7).mono Z3))).2.2.1
            clear KF rn7 of7 SV7 B6
            go_wp2
            go_ret
            exact ⟨rfl, HFIN.out⟩
  · have kn := new_no W H A c l w3 sl3 (by omega) hg
    have hne : (gchk W H l != 0) = true := by rw [bne_iff_ne]; exact hg
    have KN := Lib.hid kn
    clear kn sl3 hg
    generalize gchk W H l = z at *
    go_wp2_with fail
    refine KN.out.mono ?_
    rintro e w4 ⟨rfl, hb4⟩
    have HB4 := Lib.hid ((HK.out _ (B3.trans (hb4.mono Z3))).2.2.1)
    clear q0 q1 q2 KN hb4 B3
    go_wp2
    go_ret
    exact ⟨rfl, HB4.out⟩

theorem own : ownKnob Try.prog.godebug = none := by kernel_rfl
theorem laidOut : laidOutB Try.prog = true := by kernel_rfl

set_option maxRecDepth 100000 in
theorem contract (H : Type) (enc : TypeId × Value → H) (W : World) (base : Nat) (args : Array Value) (ds gs : List (DataW H)) (before : List MemPlace)
    (hval0 : ∀ (j : Nat) t v, Try.f5.params[j]? = some t → args[j]? = some v → Value.okWide Try.prog W .any base t v)
    (hW : DataW.Whole enc Try.prog Try.f5.params.toList Rows.serveEndsSpec.vars false W args.toList ds gs before) (hk : Rows.uptoSmall H (ds ++ gs) = true) :
    Calls Try.prog 5 args W fun e W' => ∃ v, e = .returned v ∧ Rows.serveEndsSpec.post enc Try.prog Try.f5 false true false false W args v W' := by
  have hval : ∀ (j : Nat) t v, Try.f5.params[j]? = some t → args[j]? = some v → Value.okWide Try.prog W .any base t v := hval0
  have hW' := hW
  obtain ⟨p, q, hA0, hV, rfl, hfz, hnd⟩ := hW
  have hA : DataW.TrodAll enc Try.prog W 0 (fun _ => true) true Try.f5.params.toList args.toList ds p := hA0
  rw [Try.params5] at hA hval
  obtain ⟨v0, vs0, d0, ds0, p0, q0, hargs, rfl, rfl, h0, r0⟩ := trodAll_cons hA
  obtain ⟨v1, vs1, d1, ds1, p1, q1, rfl, rfl, rfl, h1, r1⟩ := trodAll_cons r0
  obtain ⟨v2, vs2, d2, ds2, p2, q2, rfl, rfl, rfl, h2, r2⟩ := trodAll_cons r1
  obtain ⟨rfl, rfl, rfl⟩ := trodAll_nil r2
  obtain rfl : args = #[v0, v1, v2] := by cases args; simp_all
  obtain ⟨rfl, rfl⟩ := trodVars_none hV
  obtain ⟨W0, H0, A0, c0, l0, dd0, rfl, hW0, hH0, hG0, hb0, rfl, hd0⟩ := open_grid Try.underlying24 (by kernel_rfl) (by kernel_rfl) Try.underlying3 Try.underlying3 Try.underlying22 Try.underlying3 (by kernel_rfl) (hval 0 24 v0 rfl rfl) h0
  obtain ⟨A1, c1, l1, rfl, hG1, hd1, hb1⟩ := open_sl2 Try.underlying25 Try.underlying33 (by kernel_rfl) (by kernel_rfl) Try.underlying3 Try.underlying3 (hval 1 25 v1 rfl rfl) h1
  obtain ⟨A2, c2, l2, rfl, hG2, hd2, hb2⟩ := open_sl2 Try.underlying26 Try.underlying39 (by kernel_rfl) (by kernel_rfl) Try.underlying3 Try.underlying3 (hval 2 26 v2 rfl rfl) h2
  have hbulk := bulk_bound hk
  simp only [List.cons_append, List.nil_append, List.append_nil, Rows.uptoBulkAll] at hbulk
  have hq0 := bulk_agg3 (x := .lit (.int .i64 W0)) (y := .lit (.int .i64 H0)) hd0
  have hq1 := bulk_len hd1
  have hq2 := bulk_len hd2
  refine (walk W W0 H0 A0 c0 l0 hW0 hH0 hG0 A1 c1 l1 hG1 A2 c2 l2 hG2 (by omega)).mono fun e W' ⟨he, hB⟩ => ?_
  subst he
  exact ⟨_, rfl, post_of_law laidOut rfl Try.underlying4 rfl (by intro t ht; rw [Try.params5] at ht; simp at ht; rcases ht with rfl | rfl | rfl <;> exact ⟨by kernel_rfl, of_decide_eq_true (by kernel_rfl)⟩) hW' rfl hB⟩

set_option maxRecDepth 100000 in
theorem lifted (os : Os) (started : os.Started) (H : Type) (enc : TypeId × Value → H) (F : Stop.Interp) :
    ReturnsInHanded {} Try.checked os 5 .any ((Rows.OpenSpec.upto Rows.serveEndsSpec).pre6 enc Try.prog Try.f5 Rows.serveEndsUptoRow.domain false) (((Rows.OpenSpec.upto Rows.serveEndsSpec).at F).post enc Try.prog Try.f5 false true false false) := by
  refine returnsInHanded_of_cond (C := Try.checked) (s := Rows.OpenSpec.upto Rows.serveEndsSpec) (k := Rows.uptoSmall) rfl own started (by kernel_rfl) Try.func5
    (OpenSpec.witness (enc := enc) (C := Try.checked) (s := Rows.OpenSpec.upto Rows.serveEndsSpec) (k := Rows.uptoSmall) rfl false ⟨#[], #[.agg #[.int .i64 0, .int .i64 0, .slice none 0 0], .slice none 0 0, .slice none 0 0], []⟩ 8 (by kernel_rfl) (by kernel_rfl) (by kernel_rfl)
      (x := ([.agg [.lit (.int .i64 0), .lit (.int .i64 0), .nil], .nil, .nil], [], [])) (by kernel_rfl) rfl (by kernel_rfl)) ?_
  intro W base args ds gs before hval hW _ hk _
  exact contract H enc W base args ds gs before hval hW hk

theorem holds : Rows.ServeEndsUptoSaid :=
  OpenClaim.holds_of_cond 5 Try.f5 rfl rfl rfl rfl rfl rfl rfl ⟨rfl, rfl, rfl, rfl, rfl⟩ rfl rfl rfl rfl rfl (by kernel_rfl) Try.func5 (by kernel_rfl)
    (of_decide_eq_true (by kernel_rfl)) (by unfold Func.isWrapper; first | (rw [if_pos (by decide +kernel)]; kernel_rfl) | (rw [if_neg (by decide +kernel)]; exact ⟨rfl, rfl⟩))
    (fun os started H enc _ F => lifted os started H enc F)
#print axioms holds
end Go.Proofs.Ytpoolpaagbeokaa.ServeEndsLaw
