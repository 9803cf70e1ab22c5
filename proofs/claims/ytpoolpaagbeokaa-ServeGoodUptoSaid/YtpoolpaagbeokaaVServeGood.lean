/- For every grid, two places, list of weights and list of pairs that are not too long in all: ServeGood answers true (whatever was edited in between, what is told as good, or over, is a walk on the ground of now that costs no more than its weight times the least), and the arguments read as before. Condition: the lists together are no longer than 1048576. -/
import Derived.Test.YtpoolpaagbeokaaRows
import Derived.Test.YtpoolpaagbeokaaVServeEditAny
import Derived.Test.YtpoolpaagbeokaaVBulk
import Derived.IntWalk
namespace Go.Proofs.Ytpoolpaagbeokaa.ServeGoodLaw
open Go.ChangeShapes Go.WideShapes Go.ChangeAt Go.RowKit Go.Proofs.Ytpoolpaagbeokaa NetLaw BellLaw StarLaw AraLaw Go.Proofs.Ytpoolpaagbeokaa.Net Go.Proofs.Ytpoolpaagbeokaa.Std Go.Proofs.Ytpoolpaagbeokaa.Flow Go.Proofs.Ytpoolpaagbeokaa.Ara Go.Proofs.Ytpoolpaagbeokaa.GroundLaw
open Go.Proofs.Ytpoolpaagbeokaa.GridLaw hiding E
open Go.Proofs.Ytpoolpaagbeokaa.ServeLaw Go.Proofs.Ytpoolpaagbeokaa.Serve
open Go.Proofs.Ytpoolpaagbeokaa.StarF (slook slook_any slook_zero)
set_option linter.unusedSimpArgs false
set_option linter.unusedVariables false
set_option maxRecDepth 100000 in
set_option maxHeartbeats 16000000 in
theorem walk (w : World) (W H : Int) (A : Option Addr) (c : Nat) (l : List Int) (hW : -9223372036854775808 ≤ W ∧ W ≤ 9223372036854775807) (hH : -9223372036854775808 ≤ H ∧ H ≤ 9223372036854775807) (hA : Arg w 1 ci A c l) (f : Int) (hf : -9223372036854775808 ≤ f ∧ f ≤ 9223372036854775807) (t : Int) (ht : -9223372036854775808 ≤ t ∧ t ≤ 9223372036854775807) (Aw : Option Addr) (cw : Nat) (ws : List (Int × Int)) (hAw : Arg w 2 cp Aw cw ws) (Ap : Option Addr) (cp_ : Nat) (ps : List (Int × Int)) (hAp : Arg w 2 cp Ap cp_ ps) (hbulk : l.length + (ws.length + ps.length) ≤ 1048576) :
    Calls Try.prog 8 #[.agg #[.int .i64 W, .int .i64 H, .slice A l.length c], .int .i64 f, .int .i64 t, .slice Aw ws.length cw, .slice Ap ps.length cp_] w fun e w' => e = .returned (.bool true) ∧ Below w.heap.size w w' := by
  have hs := hA.sl
  have n1 := hA.nil
  have hll : l.length ≤ 1048576 := by omega
  have hws := hAw.sl
  have hps := hAp.sl
  have n2 := hAw.nil
  have hwl : ws.length ≤ 1048576 := by omega
  have hpl : ps.length ≤ 1048576 := by omega
  clear hA hAw hAp hW hH hf ht hbulk
  have HK := Lib.hid (fun X hX => sbox (X := X) (W := W) (H := H) (c := c) hs hX)
  have HB0 := Lib.hid (Below.refl (w.heap.size + 1) (w.alloc (.cells #[.int .i64 W, .int .i64 H, .slice A l.length c] 24)))
  have HWS := Lib.hid hws
  have HPS := Lib.hid hps
  have HN1 := Lib.hid n1
  have HN2 := Lib.hid n2
  clear hs hws hps n1 n2
  obtain ⟨mp, hmp⟩ : ∃ mp, ps.length = mp := ⟨_, rfl⟩
  have HMP := Lib.hid hmp
  rw [hmp] at hpl ⊢
  clear hmp
  go_enter Try.func8, Try.ntmps8
  go_wp2_with fail
  refine (ground_s _).mono ?_
  rintro e w1 ⟨S1, rfl, s1, hb1⟩
  have B1 := HB0.out.trans (hb1.mono (by simp))
  have Z1 : w.heap.size + 1 ≤ w1.heap.size := by have := B1.size; simpa using this
  clear hb1
  go_wp2_with fail
  refine (new_s _ _ s1).mono ?_
  rintro e w2 ⟨Z2, A2, c2, rfl, sv2, hb2⟩
  have B2 := B1.trans (hb2.mono Z1)
  have SV2 := Lib.hid sv2
  clear hb2 B1 s1 sv2
  go_wp2_with fail
  refine (one_anyA _).mono ?_
  rintro e w2b ⟨rfl, hb2⟩
  have hk2 : Below w2b.heap.size w2b (w2b.alloc (.cells #[.int .i64 1, .int .i64 1] 39)) := (Below.refl _ _).alloc (Nat.le_refl _) _
  have Z2b : w.heap.size + 1 ≤ w2b.heap.size := by have h1 := B2.size; have h2 := hb2.size; simp at h1; omega
  have B2c := (B2.trans (hb2.mono (by have h1 := B2.size; simpa using h1))).trans (hk2.mono Z2b)
  have SV2c := (SV2.out.keep hb2).keep hk2
  have sr1 := sl_new' (sz := 2) (cell := cp) (by decide) w2b #[.int .i64 1, .int .i64 1] 39 [(1, 1)] rfl rfl
  have ka := ask_s SV2c _ sr1
  have KA := Lib.hid ka
  have SV2d := Lib.hid SV2c
  clear hb2 hk2 SV2 SV2c sr1 ka B2
  go_wp2_with fail
  refine KA.out.mono ?_
  rintro e w3 ⟨g3, D3, rfl, sv3, ho3, gf3, gt3, gw3, gk3⟩
  have B3 := B2c.trans ((SV2d.out.loZ ho3).mono Z1)
  have SV3 := Lib.hid sv3
  have HG3 := Lib.hid (And.intro gf3 (And.intro gt3 (And.intro gw3 gk3)))
  clear KA SV2d B2c ho3 sv3 gf3 gt3 gw3 gk3
  obtain ⟨⟨q0, q1, q2⟩, sl3, H3, Z3⟩ := HK.out _ B3
  by_cases hg : gchk W H l = 0
  · have gg := gchk_zero.1 hg
    clear hg
    have kn := new_g W H A c l w3 sl3 HN1.out gg
    have KN := Lib.hid kn
    have HGG := Lib.hid gg
    clear kn gg sl3
    go_wp2_with fail
    refine KN.out.mono ?_
    rintro e w4 ⟨Z4, A4, c4, rfl, sv4, hb4⟩
    have B4 := Lib.hid (B3.trans (hb4.mono Z3))
    have SV4 := Lib.hid sv4
    clear q0 q1 q2 KN sv4 hb4 B3 H3
    by_cases hx : ncode l.length f t (allM W H l l.length) (zs l.length) ws = 0
    · obtain ⟨hx0, hy0⟩ := ncode_zero.1 hx
      obtain ⟨⟨f0, f1⟩, t0, t1⟩ := ask_in hx0
      obtain ⟨fn, rfl⟩ := Int.eq_ofNat_of_zero_le f0
      obtain ⟨tn, rfl⟩ := Int.eq_ofNat_of_zero_le t0
      have hfl0 : fn < l.length := by omega
      have htl0 : tn < l.length := by omega
      obtain ⟨_, _, HL, HZ⟩ := HK.out _ B4.out
      have ka := ask_yes SV4.out fn tn Aw cw ws ((HWS.out.keep HL (Nat.le_refl _)).more HL.size) HN2.out hwl hfl0 htl0 hy0 0 (by decide) (fun _ => rfl) (fun j hj => by omega)
      have KA := Lib.hid ka
      clear ka HL hx hx0 hy0 f0 f1 t0 t1 HZ
      go_wp2_with fail
      refine KA.out.mono ?_
      rintro e w5 (⟨h6, _⟩ | ⟨_, g5, D5, rfl, sv5, ho5, g1, g2, g3, g4, g5', _⟩)
      · cases h6
      have SV5 := Lib.hid sv5
      have B5 := Lib.hid (B4.out.trans ((SV4.out.loZ ho5).mono Z3))
      have HG5 : Hid (∃ g, upd1 (fun _ => none) 0 (some g5) 0 = some g ∧ g.f = fn ∧ g.F.tt = tn) := Lib.hid ⟨g5, upd1_eq .., g1, g2⟩
      clear KA g1 g2 g3 g4 g5' sv5 ho5 SV4 B4
      go_wp2
      go_loopw [75] (fun i wr => ∃ (j turn : Nat) (l2 : List Int) (σ : Nat → Option Slt) (D : Nat → Nat → Prop), i = .int .i64 j ∧ j ≤ mp ∧ Hid (SV w3.heap.size wr Z4 W H A4 c4 l2 turn σ D) ∧ Hid (l2.length = l.length) ∧ Hid (∃ g, σ 0 = some g ∧ g.f = fn ∧ g.F.tt = tn) ∧ Hid (Below (w.heap.size + 1) (w.alloc (.cells #[.int .i64 W, .int .i64 H, .slice A l.length c] 24)) wr)) (fun i _ => mp - (intOf i).toNat)
      case atStart => exact ⟨0, 0, l, _, _, rfl, Nat.zero_le _, SV5, Lib.hid rfl, HG5, B5⟩
      case round =>
        obtain ⟨j, turn, l2, σ, D, rfl, hj, HSV, HLE, HG, HBW⟩ := hrel
        clear SV5 HG5 B5
        by_cases hlt : j < mp
        · have hjl : j < ps.length := by rw [HMP.out]; exact hlt
          obtain ⟨_, _, HL, HZ⟩ := HK.out _ HBW.out
          obtain ⟨bq, oq, x, y, hA8, hbq, -, hcx, hcy⟩ := sl_pair ((HPS.out.keep HL (Nat.le_refl _)).more HL.size) hjl
          have zj : (j : Int) < (mp : Int) := by omega
          clear HL hjl
          go_upto_region 16 with fail
          have hbx := heap_alloc_new wr (.cells #[.int .i64 x, .int .i64 y] 33)
          have hb6 : Below wr.heap.size wr (wr.alloc (.cells #[.int .i64 x, .int .i64 y] 33)) := (Below.refl _ _).alloc (Nat.le_refl _) _
          have SV6 := Lib.hid (HSV.out.keep hb6)
          have B6 := Lib.hid (HBW.out.trans (hb6.mono HZ))
          generalize wr.alloc (.cells #[.int .i64 x, .int .i64 y] 33) = w6 at hbx SV6 B6 ⊢
          generalize wr.heap.size = XP at hbx ⊢
          have q0 := blk_cell hbx 0
          have q1 := blk_cell hbx 1
          have zq := lt_of_block hbx
          simp only [List.getElem?_toArray, List.getElem?_cons_zero, List.getElem?_cons_succ] at q0 q1
          clear hbx hb6 HSV HBW HZ hcx hcy hbq hA8
          obtain ⟨g, hg, hgf, hgt⟩ := HG.out
          by_cases hy : 0 ≤ y ∧ y ≤ 9
          · obtain ⟨y0, y9⟩ := hy
            have ke := edit_any SV6.out x y y0 y9 hg
            have KE := Lib.hid ke
            have HGF := Lib.hid (And.intro hgf hgt)
            clear ke hg hgf hgt
            go_wp2_with fail
            refine KE.out.mono ?_
            rintro e w7 ⟨r7, l7, t7, σ7, D7, rfl, sv7, len7, ⟨g7, hg7, h7f, h7t⟩, of7⟩
            have kg := ServeG.good_any sv7 (i := 0) (by decide) hg7
            rw [h7f, h7t, HGF.out.1, HGF.out.2] at kg
            have B7 := Lib.hid (B6.out.trans ((SV6.out.loE of7).mono Z3))
            have SV7 := Lib.hid sv7
            have HLE7 := Lib.hid (len7.trans HLE.out)
            have HG7 : Hid (∃ g, σ7 0 = some g ∧ g.f = fn ∧ g.F.tt = tn) := Lib.hid ⟨g7, hg7, h7f.trans HGF.out.1, h7t.trans HGF.out.2⟩
            have KG := Lib.hid kg
            clear kg sv7 len7 hg7 h7f h7t of7 SV6 B6 KE q0 q1 zq y0 y9 HG HLE HGF
            go_wp2_with fail
            refine KG.out.mono ?_
            rintro e w8 ⟨rfl, hb8⟩
            have SV8 := Lib.hid (SV7.out.keep hb8)
            have B8 := Lib.hid (B7.out.trans (hb8.mono (HK.out _ B7.out).2.2.2))
            clear hb8 KG SV7 B7
            go_wp2
            go_roundw
            case rel => exact ⟨j + 1, t7, l7, σ7, D7, by go_num, hlt, SV8, HLE7, HG7, B8⟩
            case measure => simp [intOf]; omega
          · have hwi := (Within.wi_spec x 20 (by decide) (by decide)).2
            have kf := frame_any SV6.out (Within.wi x 20) (by omega) (by omega)
            have KF := Lib.hid kf
            have HGF := Lib.hid (And.intro hg (And.intro hgf hgt))
            have hyc : (¬ 0 ≤ y) ∨ (0 ≤ y ∧ ¬ y ≤ 9) := by omega
            clear kf hg hgf hgt hwi hy
            rcases hyc with y0 | ⟨y0, y9⟩
            all_goals
              go_wp2_with fail
              refine (Within.within_any x 20 (by decide) (by decide) _).mono ?_
              rintro e wq ⟨rfl, rfl⟩
              go_wp2_with fail
              refine KF.out.mono ?_
              rintro e w7 ⟨u7, t7, σ7, D7, rfl, sv7, wt7, _, _, _, of7, _⟩
              obtain ⟨Y7, s7, k7, hg7⟩ := wt7.get HGF.out.1
              have kg := ServeG.good_any sv7 (i := 0) (by decide) hg7
              have hgf := HGF.out.2.1
              have hgt := HGF.out.2.2
              dsimp only at kg
              rw [hgf, hgt] at kg
              have B7 := Lib.hid (B6.out.trans ((SV6.out.lo of7).mono Z3))
              have SV7 := Lib.hid sv7
              have HG7 : Hid (∃ g, σ7 0 = some g ∧ g.f = fn ∧ g.F.tt = tn) := Lib.hid ⟨_, hg7, hgf, hgt⟩
              have KG := Lib.hid kg
              clear kg sv7 wt7 hg7 hgf hgt of7 SV6 B6 KF q0 q1 zq HG HGF
              go_wp2_with fail
              refine KG.out.mono ?_
              rintro e w8 ⟨rfl, hb8⟩
              have SV8 := Lib.hid (SV7.out.keep hb8)
              have B8 := Lib.hid (B7.out.trans (hb8.mono (HK.out _ B7.out).2.2.2))
              clear hb8 KG SV7 B7
              go_wp2
              go_roundw
              case rel => exact ⟨j + 1, t7, l2, σ7, D7, by go_num, hlt, SV8, HLE, HG7, B8⟩
              case measure => simp [intOf]; omega
        · obtain rfl : j = mp := by omega
          have HFIN := Lib.hid (HK.out _ HBW.out).2.2.1
          have zj : ¬ ((j : Int) < (j : Int)) := by omega
          clear HBW HSV HG
          go_wp2
          go_ret
          exact ⟨rfl, HFIN.out⟩
    · have ka := ask_no SV4.out f t Aw cw ws ((HWS.out.keep (HK.out _ B4.out).2.2.1 (Nat.le_refl _)).more (HK.out _ B4.out).2.2.1.size) HN2.out hwl hx
      have KA := Lib.hid ka
      have hcd : (ncode l.length f t (allM W H l l.length) (zs l.length) ws != 0) = true := by rw [bne_iff_ne]; exact hx
      generalize ncode l.length f t (allM W H l l.length) (zs l.length) ws = cd at *
      clear ka hx
      go_wp2_with fail
      refine KA.out.mono ?_
      rintro e w5 ⟨rfl, hb5⟩
      have HB5 := Lib.hid ((HK.out _ (B4.out.trans (hb5.mono (HK.out _ B4.out).2.2.2))).2.2.1)
      clear KA hb5 SV4 B4
      go_wp2
      go_ret
      exact ⟨rfl, HB5.out⟩
  · have kn := new_no W H A c l w3 sl3 (by omega) hg
    have hne : (gchk W H l != 0) = true := by rw [bne_iff_ne]; exact hg
    have KN := Lib.hid kn
    clear kn sl3 hg
    generalize gchk W H l = z at *
    go_wp2_with fail
    refine KN.out.mono ?_
    rintro e w4 ⟨rfl, hb4⟩
    have HB4 := Lib.hid ((HK.out _ (B3.trans (hb4.mono Z3))).2.2.1)
    clear q0 q1 q2 KN hb4 B3
    go_wp2
    go_ret
    exact ⟨rfl, HB4.out⟩

theorem own : ownKnob Try.prog.godebug = none := by kernel_rfl
theorem laidOut : laidOutB Try.prog = true := by kernel_rfl

set_option maxRecDepth 100000 in
theorem contract (H : Type) (enc : TypeId × Value → H) (W : World) (base : Nat) (args : Array Value) (ds gs : List (DataW H)) (before : List MemPlace)
    (hval0 : ∀ (j : Nat) t v, Try.f8.params[j]? = some t → args[j]? = some v → Value.okWide Try.prog W .any base t v)
    (hW : DataW.Whole enc Try.prog Try.f8.params.toList Rows.serveGoodSpec.vars false W args.toList ds gs before) (hk : Rows.uptoSmall H (ds ++ gs) = true) :
    Calls Try.prog 8 args W fun e W' => ∃ v, e = .returned v ∧ Rows.serveGoodSpec.post enc Try.prog Try.f8 false true false false W args v W' := by
  have hval : ∀ (j : Nat) t v, Try.f8.params[j]? = some t → args[j]? = some v → Value.okWide Try.prog W .any base t v := hval0
  have hW' := hW
  obtain ⟨p, q, hA0, hV, rfl, hfz, hnd⟩ := hW
  have hA : DataW.TrodAll enc Try.prog W 0 (fun _ => true) true Try.f8.params.toList args.toList ds p := hA0
  rw [Try.params8] at hA hval
  obtain ⟨v0, vs0, d0, ds0, p0, q0, hargs, rfl, rfl, h0, r0⟩ := trodAll_cons hA
  obtain ⟨v1, vs1, d1, ds1, p1, q1, rfl, rfl, rfl, h1, r1⟩ := trodAll_cons r0
  obtain ⟨v2, vs2, d2, ds2, p2, q2, rfl, rfl, rfl, h2, r2⟩ := trodAll_cons r1
  obtain ⟨v3, vs3, d3, ds3, p3, q3, rfl, rfl, rfl, h3, r3⟩ := trodAll_cons r2
  obtain ⟨v4, vs4, d4, ds4, p4, q4, rfl, rfl, rfl, h4, r4⟩ := trodAll_cons r3
  obtain ⟨rfl, rfl, rfl⟩ := trodAll_nil r4
  obtain rfl : args = #[v0, v1, v2, v3, v4] := by cases args; simp_all
  obtain ⟨rfl, rfl⟩ := trodVars_none hV
  obtain ⟨W0, H0, A0, c0, l0, dd0, rfl, hW0, hH0, hG0, hb0, rfl, hd0⟩ := open_grid Try.underlying24 (by kernel_rfl) (by kernel_rfl) Try.underlying3 Try.underlying3 Try.underlying22 Try.underlying3 (by kernel_rfl) (hval 0 24 v0 rfl rfl) h0
  obtain ⟨a1, rfl, rfl, rfl, wa1⟩ := open_int Try.underlying3 (hval 1 3 v1 rfl rfl) h1
  obtain ⟨a2, rfl, rfl, rfl, wa2⟩ := open_int Try.underlying3 (hval 2 3 v2 rfl rfl) h2
  obtain ⟨A3, c3, l3, rfl, hG3, hd3, hb3⟩ := open_sl2 Try.underlying26 Try.underlying39 (by kernel_rfl) (by kernel_rfl) Try.underlying3 Try.underlying3 (hval 3 26 v3 rfl rfl) h3
  obtain ⟨A4, c4, l4, rfl, hG4, hd4, hb4⟩ := open_sl2 Try.underlying25 Try.underlying33 (by kernel_rfl) (by kernel_rfl) Try.underlying3 Try.underlying3 (hval 4 25 v4 rfl rfl) h4
  have hbulk := bulk_bound hk
  simp only [List.cons_append, List.nil_append, List.append_nil, Rows.uptoBulkAll] at hbulk
  have hq0 := bulk_agg3 (x := .lit (.int .i64 W0)) (y := .lit (.int .i64 H0)) hd0
  have hq1 := bulk_len hd3
  have hq2 := bulk_len hd4
  refine (walk W W0 H0 A0 c0 l0 hW0 hH0 hG0 a1 (wf_bd wa1) a2 (wf_bd wa2) A3 c3 l3 hG3 A4 c4 l4 hG4 (by omega)).mono fun e W' ⟨he, hB⟩ => ?_
  subst he
  exact ⟨_, rfl, post_of_law laidOut rfl Try.underlying4 rfl (by intro t ht; rw [Try.params8] at ht; simp at ht; rcases ht with rfl | rfl | rfl | rfl | rfl <;> exact ⟨by kernel_rfl, of_decide_eq_true (by kernel_rfl)⟩) hW' rfl hB⟩

set_option maxRecDepth 100000 in
theorem lifted (os : Os) (started : os.Started) (H : Type) (enc : TypeId × Value → H) (F : Stop.Interp) :
    ReturnsInHanded {} Try.checked os 8 .any ((Rows.OpenSpec.upto Rows.serveGoodSpec).pre6 enc Try.prog Try.f8 Rows.serveGoodUptoRow.domain false) (((Rows.OpenSpec.upto Rows.serveGoodSpec).at F).post enc Try.prog Try.f8 false true false false) := by
  refine returnsInHanded_of_cond (C := Try.checked) (s := Rows.OpenSpec.upto Rows.serveGoodSpec) (k := Rows.uptoSmall) rfl own started (by kernel_rfl) Try.func8
    (OpenSpec.witness (enc := enc) (C := Try.checked) (s := Rows.OpenSpec.upto Rows.serveGoodSpec) (k := Rows.uptoSmall) rfl false ⟨#[], #[.agg #[.int .i64 0, .int .i64 0, .slice none 0 0], .int .i64 0, .int .i64 0, .slice none 0 0, .slice none 0 0], []⟩ 8 (by kernel_rfl) (by kernel_rfl) (by kernel_rfl)
      (x := ([.agg [.lit (.int .i64 0), .lit (.int .i64 0), .nil], .lit (.int .i64 0), .lit (.int .i64 0), .nil, .nil], [], [])) (by kernel_rfl) rfl (by kernel_rfl)) ?_
  intro W base args ds gs before hval hW _ hk _
  exact contract H enc W base args ds gs before hval hW hk

theorem holds : Rows.ServeGoodUptoSaid :=
  OpenClaim.holds_of_cond 8 Try.f8 rfl rfl rfl rfl rfl rfl rfl ⟨rfl, rfl, rfl, rfl, rfl⟩ rfl rfl rfl rfl rfl (by kernel_rfl) Try.func8 (by kernel_rfl)
    (of_decide_eq_true (by kernel_rfl)) (by unfold Func.isWrapper; first | (rw [if_pos (by decide +kernel)]; kernel_rfl) | (rw [if_neg (by decide +kernel)]; exact ⟨rfl, rfl⟩))
    (fun os started H enc _ F => lifted os started H enc F)
#print axioms holds
end Go.Proofs.Ytpoolpaagbeokaa.ServeGoodLaw
