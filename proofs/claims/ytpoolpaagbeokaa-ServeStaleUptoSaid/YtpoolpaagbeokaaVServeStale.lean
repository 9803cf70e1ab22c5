/- For every grid, two places, list of weights, cell and ground, the lists not too long in all: ServeStale answers true (what was told ahead of an edit is stale till something is told anew), and the arguments read as before. Condition: the lists together are no longer than 1048576. -/
import Derived.Test.YtpoolpaagbeokaaRows
import Derived.Test.YtpoolpaagbeokaaVServeWts
import Derived.Test.YtpoolpaagbeokaaVBulk
import Derived.IntWalk
namespace Go.Proofs.Ytpoolpaagbeokaa.ServeStaleLaw
open Go.ChangeShapes Go.WideShapes Go.ChangeAt Go.RowKit Go.Proofs.Ytpoolpaagbeokaa NetLaw BellLaw StarLaw AraLaw Go.Proofs.Ytpoolpaagbeokaa.Net Go.Proofs.Ytpoolpaagbeokaa.Std Go.Proofs.Ytpoolpaagbeokaa.Flow Go.Proofs.Ytpoolpaagbeokaa.Ara Go.Proofs.Ytpoolpaagbeokaa.GroundLaw
open Go.Proofs.Ytpoolpaagbeokaa.GridLaw hiding E
open Go.Proofs.Ytpoolpaagbeokaa.ServeLaw Go.Proofs.Ytpoolpaagbeokaa.Serve
open Go.Proofs.Ytpoolpaagbeokaa.StarF (slook slook_any slook_zero)
set_option linter.unusedSimpArgs false
set_option linter.unusedVariables false
set_option maxRecDepth 100000 in
set_option maxHeartbeats 16000000 in
theorem walk (w : World) (W H : Int) (A : Option Addr) (c : Nat) (l : List Int) (hW : -9223372036854775808 ≤ W ∧ W ≤ 9223372036854775807) (hH : -9223372036854775808 ≤ H ∧ H ≤ 9223372036854775807) (hA : Arg w 1 ci A c l) (f : Int) (hf : -9223372036854775808 ≤ f ∧ f ≤ 9223372036854775807) (t : Int) (ht : -9223372036854775808 ≤ t ∧ t ≤ 9223372036854775807) (Aw : Option Addr) (cw : Nat) (ws : List (Int × Int)) (hAw : Arg w 2 cp Aw cw ws) (x : Int) (hx0 : -9223372036854775808 ≤ x ∧ x ≤ 9223372036854775807) (y : Int) (hy0 : -9223372036854775808 ≤ y ∧ y ≤ 9223372036854775807) (hbulk : l.length + ws.length ≤ 1048576) :
    Calls Try.prog 6 #[.agg #[.int .i64 W, .int .i64 H, .slice A l.length c], .int .i64 f, .int .i64 t, .slice Aw ws.length cw, .int .i64 x, .int .i64 y] w fun e w' => e = .returned (.bool true) ∧ Below w.heap.size w w' := by
  have hs := hA.sl
  have n1 := hA.nil
  have hll : l.length ≤ 1048576 := by omega
  have hws := hAw.sl
  have n2 := hAw.nil
  have hwl : ws.length ≤ 1048576 := by omega
  clear hA hAw hW hH hf ht hx0 hy0 hbulk
  have HK := Lib.hid (fun X hX => sbox (X := X) (W := W) (H := H) (c := c) hs hX)
  have HB0 := Lib.hid (Below.refl (w.heap.size + 1) (w.alloc (.cells #[.int .i64 W, .int .i64 H, .slice A l.length c] 24)))
  have HWS := Lib.hid hws
  have HN1 := Lib.hid n1
  have HN2 := Lib.hid n2
  clear hs hws n1 n2
  go_enter Try.func6, Try.ntmps6
  go_wp2_with fail
  refine (ground_s _).mono ?_
  rintro e w1 ⟨S1, rfl, s1, hb1⟩
  have B1 := HB0.out.trans (hb1.mono (by simp))
  have Z1 : w.heap.size + 1 ≤ w1.heap.size := by have := B1.size; simpa using this
  clear hb1
  go_wp2_with fail
  refine (new_s _ _ s1).mono ?_
  rintro e w2 ⟨Z2, A2, c2, rfl, sv2, hb2⟩
  have B2 := B1.trans (hb2.mono Z1)
  have SV2 := Lib.hid sv2
  clear hb2 B1 s1 sv2
  have ke := edit_yes SV2.out 0 (by decide) 9 (by decide) (by decide) (by decide)
  have KE := Lib.hid ke
  clear ke
  have hfld : ∀ (a : Option Addr) (n m : Nat) (u : World), (Instr.field 24 (.agg #[.int .i64 2, .int .i64 1, .slice a n m]) 2).run Try.prog u = .ok (.slice a n m) u := fun a n m u => by kernel_rfl
  go_wp2_with fail
  refine KE.out.mono ?_
  rintro e w2b ⟨rfl, σ2, D2, sv2, _, of2, _⟩
  have B2b := B2.trans ((SV2.out.loE of2).mono Z1)
  obtain ⟨z0, z1, z2, _, _, zp⟩ := sv2.zs
  have kg := Serve.ground_any Z2 2 1 A2 c2 [9, 2] w2b sv2.cells.sl.2 sv2.nil_ (by decide) z0 z1 z2 zp
  have KG := Lib.hid kg
  clear kg KE SV2 sv2 of2 B2 z0 z1 z2 zp
  go_wp2_with fail
  refine KG.out.mono ?_
  rintro e w3 ⟨A3, c3, rfl, own3, hb3⟩
  have B3 := B2b.trans (hb3.mono (HK.out _ B2b).2.2.2)
  obtain ⟨S3, c3', hv3, -, hS3, -, hc3⟩ := own3.some_ (by decide)
  injection hv3 with hA3 e2 e3
  clear e2 e3
  subst hA3
  have q9 : w3.cell? ⟨S3, 0, none⟩ = some (.int .i64 9) := (hc3 0 (by decide) 0 (by decide)).1
  clear hc3 own3 hb3 KG B2b
  obtain ⟨⟨q0, q1, q2⟩, sl3, H3, Z3⟩ := HK.out _ B3
  by_cases hg : gchk W H l = 0
  · have gg := gchk_zero.1 hg
    clear hg
    have kn := new_g W H A c l w3 sl3 HN1.out gg
    have KN := Lib.hid kn
    have HGG := Lib.hid gg
    clear kn gg sl3
    go_wp2_with fail
    refine KN.out.mono ?_
    rintro e w4 ⟨Z4, A4, c4, rfl, sv4, hb4⟩
    have B4 := Lib.hid (B3.trans (hb4.mono Z3))
    have SV4 := Lib.hid sv4
    clear q0 q1 q2 KN sv4 hb4 B3 H3
    have hl64 := size_bd HGG.out
    by_cases hx : ncode l.length f t (allM W H l l.length) (zs l.length) ws = 0
    · obtain ⟨hx0, hy0⟩ := ncode_zero.1 hx
      obtain ⟨⟨f0, f1⟩, t0, t1⟩ := ask_in hx0
      obtain ⟨fn, rfl⟩ := Int.eq_ofNat_of_zero_le f0
      obtain ⟨tn, rfl⟩ := Int.eq_ofNat_of_zero_le t0
      have hfl0 : fn < l.length := by omega
      have htl0 : tn < l.length := by omega
      obtain ⟨_, _, HL, HZ⟩ := HK.out _ B4.out
      have ka := ask_yes SV4.out fn tn Aw cw ws ((HWS.out.keep HL (Nat.le_refl _)).more HL.size) HN2.out hwl hfl0 htl0 hy0 0 (by decide) (fun _ => rfl) (fun j hj => by omega)
      have KA := Lib.hid ka
      clear ka HL hx hx0 hy0 f0 f1 t0 t1 HZ
      go_wp2_with fail
      refine KA.out.mono ?_
      rintro e w5 (⟨h6, _⟩ | ⟨_, g5, D5, rfl, sv5, ho5, g1, g2, g3, g4, g5', _⟩)
      · cases h6
      have SV5 := Lib.hid sv5
      have B5 := Lib.hid (B4.out.trans ((SV4.out.loZ ho5).mono Z3))
      have kf := frame_over sv5
      have KF := Lib.hid kf
      clear KA g1 g2 g3 g4 g5' sv5 ho5 SV4 B4 kf
      go_wp2_with fail
      refine KF.out.mono ?_
      rintro e w6 ⟨u6, t6, σ6, D6, rfl, sv6, wt6, ov6, of6, _⟩
      obtain ⟨Y6, s6, k6, hg6⟩ := wt6.get (upd1_eq (fun _ => none) 0 (some g5))
      generalize hgg : ({ g5 with Y := Y6, s := s6, k := k6 } : Slt) = g6 at hg6
      clear hgg
      have B6 := Lib.hid (B5.out.trans ((SV5.out.lo of6).mono Z3))
      have hov := ov6 0 (by decide) g6 hg6
      have hsl6 := sv6.slot 0 (by decide) g6 hg6
      obtain ⟨R0, r, hr⟩ := hsl6.last_ hov
      have hr64 : r.path.length ≤ 64 := (hsl6.wt_ hr).2.2
      have kp : Calls Try.prog 14 #[.pointer (some ⟨Z4, 0, none⟩), .int .i64 0] w6 fun e w' => AnsSays 4 r w6 e w' := by
        have := poll_good sv6 (i := 0) (by decide) hg6 hr
        rw [if_pos hov] at this
        exact this
      have KP := Lib.hid kp
      have SV6 := Lib.hid sv6
      have HG6 := Lib.hid hg6
      have HR6 := Lib.hid (And.intro hr hov)
      clear kp sv6 wt6 ov6 of6 hov hsl6 hr KF SV5 B5 hg6
      go_wp2_with fail
      refine KP.out.mono ?_
      rintro e w7 ⟨A7, c7, rfl, own7, hb7⟩
      have OW7 := Lib.hid own7
      have hle67 := hb7.size
      have HNX := Lib.hid (And.intro (fun i (hi : i < 6) z (hz : D6 i z) => (SV6.out.dom i hi z hz).2) (And.intro SV6.out.Zlt (fun z (e : ob A4 = some z) => (SV6.out.cells.base_ z ((ob_ ..).trans e)).2)))
      have SV7 := Lib.hid (SV6.out.keep hb7)
      have B7 := Lib.hid (B6.out.trans (hb7.mono (HK.out _ B6.out).2.2.2))
      clear own7 hb7 KP SV6 B6
      go_upto_region 12 with fail
      have hbx := heap_alloc_new w7 (.cells #[.int .i64 4, .int .i64 r.num, .int .i64 r.den, .slice A7 r.path.length c7, .int .i64 r.cost, .int .i64 r.done] 45)
      have h78 : Below w7.heap.size w7 (w7.alloc (.cells #[.int .i64 4, .int .i64 r.num, .int .i64 r.den, .slice A7 r.path.length c7, .int .i64 r.cost, .int .i64 r.done] 45)) := (Below.refl _ _).alloc (Nat.le_refl _) _
      have SV8 := Lib.hid (SV7.out.keep h78)
      have OW8 := Lib.hid (OW7.out.keep h78)
      have B8 := Lib.hid (B7.out.trans (h78.mono (HK.out _ B7.out).2.2.2))
      generalize w7.alloc (.cells #[.int .i64 4, .int .i64 r.num, .int .i64 r.den, .slice A7 r.path.length c7, .int .i64 r.cost, .int .i64 r.done] 45) = w8 at hbx SV8 OW8 B8 ⊢
      have hXA7 : w.heap.size + 1 ≤ w7.heap.size := (HK.out _ B7.out).2.2.2
      generalize w7.heap.size = XA at hbx hXA7 hle67 ⊢
      have HBX := Lib.hid hbx
      have q0 := blk_cell hbx 0
      have zq := lt_of_block hbx
      simp only [List.getElem?_toArray, List.getElem?_cons_zero, List.getElem?_cons_succ] at q0
      clear hbx h78 OW7 SV7 B7
      go_upto_region 14 with fail
      clear q0 zq
      by_cases hb : x < 0 ∨ (l.length : Int) ≤ x ∨ y < 0 ∨ 9 < y
      · have ke := edit_bad SV8.out.keepD x y hb
        by_cases hc : x < 0 ∨ (l.length : Int) ≤ x
        · rw [if_pos hc] at ke
          have KE := Lib.hid ke
          clear ke
          refine Go.wp_region_held_drew (S := (fun w' => w'.cell? ⟨w.heap.size, 0, none⟩ = some (.int .i64 W) ∧ w'.cell? ⟨w.heap.size, 1, none⟩ = some (.int .i64 H) ∧ w'.cell? ⟨w.heap.size, 2, none⟩ = some (.slice A l.length c))) (by kernel_rfl) (HK.out _ B8.out.drew).1 (fun hHeld => ?_)
          refine Go.wpAnyH_take (fuel := 10) (i := 0) (oi := _) (v := ?_) rfl (by kernel_rfl) (by kernel_rfl) (by kernel_rfl) (fun _ _ _ h => h) (Or.inl ⟨by rfl, ?_⟩) (by first | exact hHeld | assumption) ?_
          rotate_left
          · (intro w hSw; (try dsimp only at hSw); (try unfold SN at hSw); go_simp)
            try with_reducible rfl
          try simp only [Act.put, List.getElem_toArray, List.getElem_cons_succ, List.getElem_cons_zero, List.setIfInBounds_toArray, List.set_cons_zero, List.set_cons_succ]
          refine Go.wpAnyH_take (fuel := 9) (i := 1) (oi := _) (v := ?_) rfl (by kernel_rfl) (by kernel_rfl) (by kernel_rfl) (fun _ _ _ h => h) (Or.inl ⟨by rfl, ?_⟩) (by first | exact hHeld | assumption) ?_
          rotate_left
          · (intro w hSw; (try dsimp only at hSw); (try unfold SN at hSw); go_simp)
            try with_reducible rfl
          try simp only [Act.put, List.getElem_toArray, List.getElem_cons_succ, List.getElem_cons_zero, List.setIfInBounds_toArray, List.set_cons_zero, List.set_cons_succ]
          refine Go.wpAnyH_take (fuel := 8) (i := 2) (oi := _) (v := ?_) rfl (by kernel_rfl) (by kernel_rfl) (by kernel_rfl) (fun _ _ _ h => h) (Or.inl ⟨by rfl, ?_⟩) (by first | exact hHeld | assumption) ?_
          rotate_left
          · (intro w hSw; (try dsimp only at hSw); (try unfold SN at hSw); go_simp)
            try with_reducible rfl
          try simp only [Act.put, List.getElem_toArray, List.getElem_cons_succ, List.getElem_cons_zero, List.setIfInBounds_toArray, List.set_cons_zero, List.set_cons_succ]
          refine Go.wpAnyH_ready (fuel := 7) (rs := [3]) (by kernel_rfl) (by simp) ?_
          refine Go.AllReadyH.cons (o := _) rfl (fun K hK => ?_) Go.AllReadyH.nil
          have HKX := Lib.hid hK
          clear hK
          go_simp
          go_at_call 23
          refine KE.out.mono ?_
          rintro e wa ⟨rfl, hba⟩
          have hb8a := ((Below.refl w8.heap.size w8).drew).trans hba
          have HBA := Lib.hid hb8a
          have s1 := (HK.out _ (B8.out.trans (hb8a.mono (HK.out _ B8.out).2.2.2))).1
          refine HKX.out.out _ _ s1 (fun hHeld => ?_)
          clear HKX
          try simp only [Act.put, List.getElem_toArray, List.getElem_cons_succ, List.getElem_cons_zero, List.setIfInBounds_toArray, List.set_cons_zero, List.set_cons_succ]
          refine Go.wpAnyH_take (fuel := 6) (i := 4) (oi := _) (v := ?_) rfl (by kernel_rfl) (by kernel_rfl) (by kernel_rfl) (fun _ _ _ h => h) (Or.inl ⟨by rfl, ?_⟩) (by first | exact hHeld | assumption) ?_
          rotate_left
          · (intro w hSw; (try dsimp only at hSw); (try unfold SN at hSw); go_simp)
            try with_reducible rfl
          try simp only [Act.put, List.getElem_toArray, List.getElem_cons_succ, List.getElem_cons_zero, List.setIfInBounds_toArray, List.set_cons_zero, List.set_cons_succ]
          refine Go.wpAnyH_take (fuel := 5) (i := 5) (oi := _) (v := ?_) rfl (by kernel_rfl) (by kernel_rfl) (by kernel_rfl) (fun _ _ _ h => h) (Or.inl ⟨by rfl, ?_⟩) (by first | exact hHeld | assumption) ?_
          rotate_left
          · (intro w hSw; (try dsimp only at hSw); (try unfold SN at hSw); go_simp)
            try with_reducible rfl
          try simp only [Act.put, List.getElem_toArray, List.getElem_cons_succ, List.getElem_cons_zero, List.setIfInBounds_toArray, List.set_cons_zero, List.set_cons_succ]
          refine Go.wpAnyH_take (fuel := 4) (i := 6) (oi := _) (v := undef) rfl (by kernel_rfl) (by kernel_rfl) (by kernel_rfl) (fun _ _ _ h => h) (Or.inr ⟨by rfl, rfl⟩) (by first | exact hHeld | assumption) ?_
          try simp only [Act.put, List.getElem_toArray, List.getElem_cons_succ, List.getElem_cons_zero, List.setIfInBounds_toArray, List.set_cons_zero, List.set_cons_succ]
          refine Go.wpAnyH_take (fuel := 3) (i := 7) (oi := _) (v := undef) rfl (by kernel_rfl) (by kernel_rfl) (by kernel_rfl) (fun _ _ _ h => h) (Or.inr ⟨by rfl, rfl⟩) (by first | exact hHeld | assumption) ?_
          try simp only [Act.put, List.getElem_toArray, List.getElem_cons_succ, List.getElem_cons_zero, List.setIfInBounds_toArray, List.set_cons_zero, List.set_cons_succ]
          refine Go.wpAnyH_take (fuel := 2) (i := 8) (oi := _) (v := undef) rfl (by kernel_rfl) (by kernel_rfl) (by kernel_rfl) (fun _ _ _ h => h) (Or.inr ⟨by rfl, rfl⟩) (by first | exact hHeld | assumption) ?_
          try simp only [Act.put, List.getElem_toArray, List.getElem_cons_succ, List.getElem_cons_zero, List.setIfInBounds_toArray, List.set_cons_zero, List.set_cons_succ]
          refine Go.wpAnyH_take (fuel := 1) (i := 9) (oi := _) (v := undef) rfl (by kernel_rfl) (by kernel_rfl) (by kernel_rfl) (fun _ _ _ h => h) (Or.inr ⟨by rfl, rfl⟩) (by first | exact hHeld | assumption) ?_
          try simp only [Act.put, List.getElem_toArray, List.getElem_cons_succ, List.getElem_cons_zero, List.setIfInBounds_toArray, List.set_cons_zero, List.set_cons_succ]
          refine Go.wpAnyH_take (fuel := 0) (i := 10) (oi := _) (v := ?_) rfl (by kernel_rfl) (by kernel_rfl) (by kernel_rfl) (fun _ _ _ h => h) (Or.inl ⟨by rfl, ?_⟩) (by first | exact hHeld | assumption) ?_
          rotate_left
          · (intro w hSw; (try dsimp only at hSw); (try unfold SN at hSw); go_simp)
            try with_reducible rfl
          try simp only [Act.put, List.getElem_toArray, List.getElem_cons_succ, List.getElem_cons_zero, List.setIfInBounds_toArray, List.set_cons_zero, List.set_cons_succ]
          refine Go.wpAnyH_done (by kernel_rfl) ?_ _
          have hb89 := HBA.out
          clear s1 hb8a hba HBA KE hHeld
          generalize wa = w9 at hb89 ⊢
          have sv9 := SV8.out.keep hb89
          have kp : Calls Try.prog 14 #[.pointer (some ⟨Z4, 0, none⟩), .int .i64 0] w9 fun e w' => AnsSays 4 r w9 e w' := by
            have := poll_good sv9 (i := 0) (by decide) HG6.out HR6.out.1
            rw [if_pos HR6.out.2] at this
            exact this
          have KP := Lib.hid kp
          have HBX9 := Lib.hid (blk_below HBX.out hb89 (lt_of_block HBX.out))
          have OX9 := Lib.hid (OW8.out.keep hb89)
          have B9 := Lib.hid (B8.out.trans (hb89.mono (HK.out _ B8.out).2.2.2))
          clear kp sv9 hb89 HBX OW8 SV8 B8
          go_wp2_with fail
          refine KP.out.mono ?_
          rintro e w10 ⟨A10, c10, rfl, own10, hb10⟩
          have OW10 := Lib.hid own10
          have hbx10 := blk_below HBX9.out hb10 (lt_of_block HBX9.out)
          have OX10 := Lib.hid (OX9.out.keep hb10)
          have B10 := Lib.hid (B9.out.trans (hb10.mono (HK.out _ B9.out).2.2.2))
          clear own10 hb10 KP B9 OX9 HBX9
          go_upto_region 16 with fail
          have hby := heap_alloc_new w10 (.cells #[.int .i64 4, .int .i64 r.num, .int .i64 r.den, .slice A10 r.path.length c10, .int .i64 r.cost, .int .i64 r.done] 45)
          have h1011 : Below w10.heap.size w10 (w10.alloc (.cells #[.int .i64 4, .int .i64 r.num, .int .i64 r.den, .slice A10 r.path.length c10, .int .i64 r.cost, .int .i64 r.done] 45)) := (Below.refl _ _).alloc (Nat.le_refl _) _
          have hbx11 := blk_below hbx10 h1011 (lt_of_block hbx10)
          have OX11 := OX10.out.keep h1011
          have OW11 := OW10.out.keep h1011
          have B11 := Lib.hid (B10.out.trans (h1011.mono (HK.out _ B10.out).2.2.2))
          generalize w10.alloc (.cells #[.int .i64 4, .int .i64 r.num, .int .i64 r.den, .slice A10 r.path.length c10, .int .i64 r.cost, .int .i64 r.done] 45) = w11 at hby hbx11 OX11 OW11 B11 ⊢
          generalize w10.heap.size = XB at hby ⊢
          have ks := same_answer 4 r A7 c7 A10 c10 w11 OX11.sl.2 OW11.sl.2 (by omega)
          have KS := Lib.hid ks
          have o0 := blk_cell hbx11 0
          have o1 := blk_cell hbx11 1
          have o2 := blk_cell hbx11 2
          have o3 := blk_cell hbx11 3
          have o4 := blk_cell hbx11 4
          have o5 := blk_cell hbx11 5
          have zo := lt_of_block hbx11
          have p0 := blk_cell hby 0
          have p1 := blk_cell hby 1
          have p2 := blk_cell hby 2
          have p3 := blk_cell hby 3
          have p4 := blk_cell hby 4
          have p5 := blk_cell hby 5
          have zp := lt_of_block hby
          simp only [List.getElem?_toArray, List.getElem?_cons_zero, List.getElem?_cons_succ] at o0 o1 o2 o3 o4 o5 p0 p1 p2 p3 p4 p5
          clear ks hby hbx11 hbx10 h1011 OX11 OW11 OX10 OW10 B10
          go_wp2_with fail
          refine KS.out.mono ?_
          rintro e w12 ⟨rfl, hb12⟩
          have HFIN := Lib.hid (HK.out _ (B11.out.trans (hb12.mono (HK.out _ B11.out).2.2.2))).2.2.1
          clear hb12 KS B11 o0 o1 o2 o3 o4 o5 p0 p1 p2 p3 p4 p5 zo zp
          go_wp2
          go_ret
          exact ⟨rfl, HFIN.out⟩
        · rw [if_neg hc] at ke
          have KE := Lib.hid ke
          clear ke
          refine Go.wp_region_held_drew (S := (fun w' => w'.cell? ⟨w.heap.size, 0, none⟩ = some (.int .i64 W) ∧ w'.cell? ⟨w.heap.size, 1, none⟩ = some (.int .i64 H) ∧ w'.cell? ⟨w.heap.size, 2, none⟩ = some (.slice A l.length c))) (by kernel_rfl) (HK.out _ B8.out.drew).1 (fun hHeld => ?_)
          refine Go.wpAnyH_take (fuel := 10) (i := 0) (oi := _) (v := ?_) rfl (by kernel_rfl) (by kernel_rfl) (by kernel_rfl) (fun _ _ _ h => h) (Or.inl ⟨by rfl, ?_⟩) (by first | exact hHeld | assumption) ?_
          rotate_left
          · (intro w hSw; (try dsimp only at hSw); (try unfold SN at hSw); go_simp)
            try with_reducible rfl
          try simp only [Act.put, List.getElem_toArray, List.getElem_cons_succ, List.getElem_cons_zero, List.setIfInBounds_toArray, List.set_cons_zero, List.set_cons_succ]
          refine Go.wpAnyH_take (fuel := 9) (i := 1) (oi := _) (v := ?_) rfl (by kernel_rfl) (by kernel_rfl) (by kernel_rfl) (fun _ _ _ h => h) (Or.inl ⟨by rfl, ?_⟩) (by first | exact hHeld | assumption) ?_
          rotate_left
          · (intro w hSw; (try dsimp only at hSw); (try unfold SN at hSw); go_simp)
            try with_reducible rfl
          try simp only [Act.put, List.getElem_toArray, List.getElem_cons_succ, List.getElem_cons_zero, List.setIfInBounds_toArray, List.set_cons_zero, List.set_cons_succ]
          refine Go.wpAnyH_take (fuel := 8) (i := 2) (oi := _) (v := ?_) rfl (by kernel_rfl) (by kernel_rfl) (by kernel_rfl) (fun _ _ _ h => h) (Or.inl ⟨by rfl, ?_⟩) (by first | exact hHeld | assumption) ?_
          rotate_left
          · (intro w hSw; (try dsimp only at hSw); (try unfold SN at hSw); go_simp)
            try with_reducible rfl
          try simp only [Act.put, List.getElem_toArray, List.getElem_cons_succ, List.getElem_cons_zero, List.setIfInBounds_toArray, List.set_cons_zero, List.set_cons_succ]
          refine Go.wpAnyH_ready (fuel := 7) (rs := [3]) (by kernel_rfl) (by simp) ?_
          refine Go.AllReadyH.cons (o := _) rfl (fun K hK => ?_) Go.AllReadyH.nil
          have HKX := Lib.hid hK
          clear hK
          go_simp
          go_at_call 23
          refine KE.out.mono ?_
          rintro e wa ⟨rfl, hba⟩
          have hb8a := ((Below.refl w8.heap.size w8).drew).trans hba
          have HBA := Lib.hid hb8a
          have s1 := (HK.out _ (B8.out.trans (hb8a.mono (HK.out _ B8.out).2.2.2))).1
          refine HKX.out.out _ _ s1 (fun hHeld => ?_)
          clear HKX
          try simp only [Act.put, List.getElem_toArray, List.getElem_cons_succ, List.getElem_cons_zero, List.setIfInBounds_toArray, List.set_cons_zero, List.set_cons_succ]
          refine Go.wpAnyH_take (fuel := 6) (i := 4) (oi := _) (v := ?_) rfl (by kernel_rfl) (by kernel_rfl) (by kernel_rfl) (fun _ _ _ h => h) (Or.inl ⟨by rfl, ?_⟩) (by first | exact hHeld | assumption) ?_
          rotate_left
          · (intro w hSw; (try dsimp only at hSw); (try unfold SN at hSw); go_simp)
            try with_reducible rfl
          try simp only [Act.put, List.getElem_toArray, List.getElem_cons_succ, List.getElem_cons_zero, List.setIfInBounds_toArray, List.set_cons_zero, List.set_cons_succ]
          refine Go.wpAnyH_take (fuel := 5) (i := 5) (oi := _) (v := ?_) rfl (by kernel_rfl) (by kernel_rfl) (by kernel_rfl) (fun _ _ _ h => h) (Or.inl ⟨by rfl, ?_⟩) (by first | exact hHeld | assumption) ?_
          rotate_left
          · (intro w hSw; (try dsimp only at hSw); (try unfold SN at hSw); go_simp)
            try with_reducible rfl
          try simp only [Act.put, List.getElem_toArray, List.getElem_cons_succ, List.getElem_cons_zero, List.setIfInBounds_toArray, List.set_cons_zero, List.set_cons_succ]
          refine Go.wpAnyH_take (fuel := 4) (i := 6) (oi := _) (v := undef) rfl (by kernel_rfl) (by kernel_rfl) (by kernel_rfl) (fun _ _ _ h => h) (Or.inr ⟨by rfl, rfl⟩) (by first | exact hHeld | assumption) ?_
          try simp only [Act.put, List.getElem_toArray, List.getElem_cons_succ, List.getElem_cons_zero, List.setIfInBounds_toArray, List.set_cons_zero, List.set_cons_succ]
          refine Go.wpAnyH_take (fuel := 3) (i := 7) (oi := _) (v := undef) rfl (by kernel_rfl) (by kernel_rfl) (by kernel_rfl) (fun _ _ _ h => h) (Or.inr ⟨by rfl, rfl⟩) (by first | exact hHeld | assumption) ?_
          try simp only [Act.put, List.getElem_toArray, List.getElem_cons_succ, List.getElem_cons_zero, List.setIfInBounds_toArray, List.set_cons_zero, List.set_cons_succ]
          refine Go.wpAnyH_take (fuel := 2) (i := 8) (oi := _) (v := undef) rfl (by kernel_rfl) (by kernel_rfl) (by kernel_rfl) (fun _ _ _ h => h) (Or.inr ⟨by rfl, rfl⟩) (by first | exact hHeld | assumption) ?_
          try simp only [Act.put, List.getElem_toArray, List.getElem_cons_succ, List.getElem_cons_zero, List.setIfInBounds_toArray, List.set_cons_zero, List.set_cons_succ]
          refine Go.wpAnyH_take (fuel := 1) (i := 9) (oi := _) (v := undef) rfl (by kernel_rfl) (by kernel_rfl) (by kernel_rfl) (fun _ _ _ h => h) (Or.inr ⟨by rfl, rfl⟩) (by first | exact hHeld | assumption) ?_
          try simp only [Act.put, List.getElem_toArray, List.getElem_cons_succ, List.getElem_cons_zero, List.setIfInBounds_toArray, List.set_cons_zero, List.set_cons_succ]
          refine Go.wpAnyH_take (fuel := 0) (i := 10) (oi := _) (v := ?_) rfl (by kernel_rfl) (by kernel_rfl) (by kernel_rfl) (fun _ _ _ h => h) (Or.inl ⟨by rfl, ?_⟩) (by first | exact hHeld | assumption) ?_
          rotate_left
          · (intro w hSw; (try dsimp only at hSw); (try unfold SN at hSw); go_simp)
            try with_reducible rfl
          try simp only [Act.put, List.getElem_toArray, List.getElem_cons_succ, List.getElem_cons_zero, List.setIfInBounds_toArray, List.set_cons_zero, List.set_cons_succ]
          refine Go.wpAnyH_done (by kernel_rfl) ?_ _
          have hb89 := HBA.out
          clear s1 hb8a hba HBA KE hHeld
          generalize wa = w9 at hb89 ⊢
          have sv9 := SV8.out.keep hb89
          have kp : Calls Try.prog 14 #[.pointer (some ⟨Z4, 0, none⟩), .int .i64 0] w9 fun e w' => AnsSays 4 r w9 e w' := by
            have := poll_good sv9 (i := 0) (by decide) HG6.out HR6.out.1
            rw [if_pos HR6.out.2] at this
            exact this
          have KP := Lib.hid kp
          have HBX9 := Lib.hid (blk_below HBX.out hb89 (lt_of_block HBX.out))
          have OX9 := Lib.hid (OW8.out.keep hb89)
          have B9 := Lib.hid (B8.out.trans (hb89.mono (HK.out _ B8.out).2.2.2))
          clear kp sv9 hb89 HBX OW8 SV8 B8
          go_wp2_with fail
          refine KP.out.mono ?_
          rintro e w10 ⟨A10, c10, rfl, own10, hb10⟩
          have OW10 := Lib.hid own10
          have hbx10 := blk_below HBX9.out hb10 (lt_of_block HBX9.out)
          have OX10 := Lib.hid (OX9.out.keep hb10)
          have B10 := Lib.hid (B9.out.trans (hb10.mono (HK.out _ B9.out).2.2.2))
          clear own10 hb10 KP B9 OX9 HBX9
          go_upto_region 16 with fail
          have hby := heap_alloc_new w10 (.cells #[.int .i64 4, .int .i64 r.num, .int .i64 r.den, .slice A10 r.path.length c10, .int .i64 r.cost, .int .i64 r.done] 45)
          have h1011 : Below w10.heap.size w10 (w10.alloc (.cells #[.int .i64 4, .int .i64 r.num, .int .i64 r.den, .slice A10 r.path.length c10, .int .i64 r.cost, .int .i64 r.done] 45)) := (Below.refl _ _).alloc (Nat.le_refl _) _
          have hbx11 := blk_below hbx10 h1011 (lt_of_block hbx10)
          have OX11 := OX10.out.keep h1011
          have OW11 := OW10.out.keep h1011
          have B11 := Lib.hid (B10.out.trans (h1011.mono (HK.out _ B10.out).2.2.2))
          generalize w10.alloc (.cells #[.int .i64 4, .int .i64 r.num, .int .i64 r.den, .slice A10 r.path.length c10, .int .i64 r.cost, .int .i64 r.done] 45) = w11 at hby hbx11 OX11 OW11 B11 ⊢
          generalize w10.heap.size = XB at hby ⊢
          have ks := same_answer 4 r A7 c7 A10 c10 w11 OX11.sl.2 OW11.sl.2 (by omega)
          have KS := Lib.hid ks
          have o0 := blk_cell hbx11 0
          have o1 := blk_cell hbx11 1
          have o2 := blk_cell hbx11 2
          have o3 := blk_cell hbx11 3
          have o4 := blk_cell hbx11 4
          have o5 := blk_cell hbx11 5
          have zo := lt_of_block hbx11
          have p0 := blk_cell hby 0
          have p1 := blk_cell hby 1
          have p2 := blk_cell hby 2
          have p3 := blk_cell hby 3
          have p4 := blk_cell hby 4
          have p5 := blk_cell hby 5
          have zp := lt_of_block hby
          simp only [List.getElem?_toArray, List.getElem?_cons_zero, List.getElem?_cons_succ] at o0 o1 o2 o3 o4 o5 p0 p1 p2 p3 p4 p5
          clear ks hby hbx11 hbx10 h1011 OX11 OW11 OX10 OW10 B10
          go_wp2_with fail
          refine KS.out.mono ?_
          rintro e w12 ⟨rfl, hb12⟩
          have HFIN := Lib.hid (HK.out _ (B11.out.trans (hb12.mono (HK.out _ B11.out).2.2.2))).2.2.1
          clear hb12 KS B11 o0 o1 o2 o3 o4 o5 p0 p1 p2 p3 p4 p5 zo zp
          go_wp2
          go_ret
          exact ⟨rfl, HFIN.out⟩
      · obtain ⟨k, rfl⟩ := Int.eq_ofNat_of_zero_le (show 0 ≤ x by omega)
        have hkl : k < l.length := by omega
        have y0 : 0 ≤ y := by omega
        have y9 : y ≤ 9 := by omega
        clear hb
        by_cases hsame : l.getD k 0 = y
        · have ke := edit_same SV8.out.keepD k hkl y y0 y9 hsame
          have KE := Lib.hid ke
          clear ke
          refine Go.wp_region_held_drew (S := (fun w' => w'.cell? ⟨w.heap.size, 0, none⟩ = some (.int .i64 W) ∧ w'.cell? ⟨w.heap.size, 1, none⟩ = some (.int .i64 H) ∧ w'.cell? ⟨w.heap.size, 2, none⟩ = some (.slice A l.length c))) (by kernel_rfl) (HK.out _ B8.out.drew).1 (fun hHeld => ?_)
          refine Go.wpAnyH_take (fuel := 10) (i := 0) (oi := _) (v := ?_) rfl (by kernel_rfl) (by kernel_rfl) (by kernel_rfl) (fun _ _ _ h => h) (Or.inl ⟨by rfl, ?_⟩) (by first | exact hHeld | assumption) ?_
          rotate_left
          · (intro w hSw; (try dsimp only at hSw); (try unfold SN at hSw); go_simp)
            try with_reducible rfl
          try simp only [Act.put, List.getElem_toArray, List.getElem_cons_succ, List.getElem_cons_zero, List.setIfInBounds_toArray, List.set_cons_zero, List.set_cons_succ]
          refine Go.wpAnyH_take (fuel := 9) (i := 1) (oi := _) (v := ?_) rfl (by kernel_rfl) (by kernel_rfl) (by kernel_rfl) (fun _ _ _ h => h) (Or.inl ⟨by rfl, ?_⟩) (by first | exact hHeld | assumption) ?_
          rotate_left
          · (intro w hSw; (try dsimp only at hSw); (try unfold SN at hSw); go_simp)
            try with_reducible rfl
          try simp only [Act.put, List.getElem_toArray, List.getElem_cons_succ, List.getElem_cons_zero, List.setIfInBounds_toArray, List.set_cons_zero, List.set_cons_succ]
          refine Go.wpAnyH_take (fuel := 8) (i := 2) (oi := _) (v := ?_) rfl (by kernel_rfl) (by kernel_rfl) (by kernel_rfl) (fun _ _ _ h => h) (Or.inl ⟨by rfl, ?_⟩) (by first | exact hHeld | assumption) ?_
          rotate_left
          · (intro w hSw; (try dsimp only at hSw); (try unfold SN at hSw); go_simp)
            try with_reducible rfl
          try simp only [Act.put, List.getElem_toArray, List.getElem_cons_succ, List.getElem_cons_zero, List.setIfInBounds_toArray, List.set_cons_zero, List.set_cons_succ]
          refine Go.wpAnyH_ready (fuel := 7) (rs := [3]) (by kernel_rfl) (by simp) ?_
          refine Go.AllReadyH.cons (o := _) rfl (fun K hK => ?_) Go.AllReadyH.nil
          have HKX := Lib.hid hK
          clear hK
          go_simp
          go_at_call 23
          refine KE.out.mono ?_
          rintro e wa ⟨rfl, hba⟩
          have hb8a := ((Below.refl w8.heap.size w8).drew).trans hba
          have hba2 := Lib.hid hb8a
          have s1 := (HK.out _ (B8.out.trans (hb8a.mono (HK.out _ B8.out).2.2.2))).1
          have sva := SV8.out.keep hb8a
          obtain ⟨z0, z1, z2, _, _, zp⟩ := sva.zs
          have kg := Serve.ground_any Z4 W H A4 c4 l wa sva.cells.sl.2 sva.nil_ (by omega) z0 z1 z2 zp
          have KG := Lib.hid kg
          clear kg z0 z1 z2 zp sva
          refine HKX.out.out _ _ s1 (fun hHeld => ?_)
          clear HKX
          try simp only [Act.put, List.getElem_toArray, List.getElem_cons_succ, List.getElem_cons_zero, List.setIfInBounds_toArray, List.set_cons_zero, List.set_cons_succ]
          refine Go.wpAnyH_take (fuel := 6) (i := 4) (oi := _) (v := ?_) rfl (by kernel_rfl) (by kernel_rfl) (by kernel_rfl) (fun _ _ _ h => h) (Or.inl ⟨by rfl, ?_⟩) (by first | exact hHeld | assumption) ?_
          rotate_left
          · (intro w hSw; (try dsimp only at hSw); (try unfold SN at hSw); go_simp)
            try with_reducible rfl
          try simp only [Act.put, List.getElem_toArray, List.getElem_cons_succ, List.getElem_cons_zero, List.setIfInBounds_toArray, List.set_cons_zero, List.set_cons_succ]
          refine Go.wpAnyH_take (fuel := 5) (i := 5) (oi := _) (v := ?_) rfl (by kernel_rfl) (by kernel_rfl) (by kernel_rfl) (fun _ _ _ h => h) (Or.inl ⟨by rfl, ?_⟩) (by first | exact hHeld | assumption) ?_
          rotate_left
          · (intro w hSw; (try dsimp only at hSw); (try unfold SN at hSw); go_simp)
            try with_reducible rfl
          try simp only [Act.put, List.getElem_toArray, List.getElem_cons_succ, List.getElem_cons_zero, List.setIfInBounds_toArray, List.set_cons_zero, List.set_cons_succ]
          refine Go.wpAnyH_take (fuel := 4) (i := 6) (oi := _) (v := ?_) rfl (by kernel_rfl) (by kernel_rfl) (by kernel_rfl) (fun _ _ _ h => h) (Or.inl ⟨by rfl, ?_⟩) (by first | exact hHeld | assumption) ?_
          rotate_left
          · (intro w hSw; (try dsimp only at hSw); (try unfold SN at hSw); go_simp)
            try with_reducible rfl
          try simp only [Act.put, List.getElem_toArray, List.getElem_cons_succ, List.getElem_cons_zero, List.setIfInBounds_toArray, List.set_cons_zero, List.set_cons_succ]
          refine Go.wpAnyH_take (fuel := 3) (i := 8) (oi := _) (v := ?_) rfl (by kernel_rfl) (by kernel_rfl) (by kernel_rfl) (fun _ _ _ h => h) (Or.inl ⟨by rfl, ?_⟩) (by first | exact hHeld | assumption) ?_
          rotate_left
          · (intro w hSw; (try dsimp only at hSw); (try unfold SN at hSw); go_simp)
            try with_reducible rfl
          try simp only [Act.put, List.getElem_toArray, List.getElem_cons_succ, List.getElem_cons_zero, List.setIfInBounds_toArray, List.set_cons_zero, List.set_cons_succ]
          refine Go.wpAnyH_ready (fuel := 2) (rs := [7]) (by kernel_rfl) (by simp) ?_
          refine Go.AllReadyH.cons (o := _) rfl (fun K hK => ?_) Go.AllReadyH.nil
          have HKX := Lib.hid hK
          clear hK
          go_simp
          go_at_call 24
          refine KG.out.mono ?_
          rintro e wb ⟨Ab, cb_, rfl, ownb, hbb⟩
          have hbab := hba2.out.trans (hbb.mono hba2.out.size)
          have HBB := Lib.hid hbab
          have OWB := Lib.hid ownb
          have s2 := (HK.out _ (B8.out.trans (hbab.mono (HK.out _ B8.out).2.2.2))).1
          refine HKX.out.out _ _ s2 (fun hHeld => ?_)
          clear HKX
          try simp only [Act.put, List.getElem_toArray, List.getElem_cons_succ, List.getElem_cons_zero, List.setIfInBounds_toArray, List.set_cons_zero, List.set_cons_succ]
          refine Go.wpAnyH_ready (fuel := 1) (rs := [9]) (by kernel_rfl) (by simp) ?_
          refine Go.AllReadyH.cons (o := _) rfl (fun K hK => ?_) Go.AllReadyH.nil
          have HKX := Lib.hid hK
          clear hK
          go_simp
          go_at_call 25
          have ksg := same_cells W H Ab A cb_ c l l true (by simp) wb OWB.out.sl.2 (HK.out _ (B8.out.trans (HBB.out.mono (HK.out _ B8.out).2.2.2))).2.1 hll
          refine Calls.mono ksg ?_
          rintro e wc ⟨rfl, hbc⟩
          have hbabc := HBB.out.trans (hbc.mono HBB.out.size)
          have HBC := Lib.hid hbabc
          have s3 := (HK.out _ (B8.out.trans (hbabc.mono (HK.out _ B8.out).2.2.2))).1
          refine HKX.out.out _ _ s3 (fun hHeld => ?_)
          clear HKX
          try simp only [Act.put, List.getElem_toArray, List.getElem_cons_succ, List.getElem_cons_zero, List.setIfInBounds_toArray, List.set_cons_zero, List.set_cons_succ]
          refine Go.wpAnyH_take (fuel := 0) (i := 10) (oi := _) (v := ?_) rfl (by kernel_rfl) (by kernel_rfl) (by kernel_rfl) (fun _ _ _ h => h) (Or.inl ⟨by rfl, ?_⟩) (by first | exact hHeld | assumption) ?_
          rotate_left
          · (intro w hSw; (try dsimp only at hSw); (try unfold SN at hSw); go_simp)
            try with_reducible rfl
          try simp only [Act.put, List.getElem_toArray, List.getElem_cons_succ, List.getElem_cons_zero, List.setIfInBounds_toArray, List.set_cons_zero, List.set_cons_succ]
          refine Go.wpAnyH_done (by kernel_rfl) ?_ _
          have hb89 := HBC.out
          clear s1 s2 s3 hb8a hba hba2 HBB HBC hbb hbc hbab hbabc ksg OWB ownb KG KE hHeld
          generalize wc = w9 at hb89 ⊢
          have sv9 := SV8.out.keep hb89
          have kp : Calls Try.prog 14 #[.pointer (some ⟨Z4, 0, none⟩), .int .i64 0] w9 fun e w' => AnsSays 4 r w9 e w' := by
            have := poll_good sv9 (i := 0) (by decide) HG6.out HR6.out.1
            rw [if_pos HR6.out.2] at this
            exact this
          have KP := Lib.hid kp
          have HBX9 := Lib.hid (blk_below HBX.out hb89 (lt_of_block HBX.out))
          have OX9 := Lib.hid (OW8.out.keep hb89)
          have B9 := Lib.hid (B8.out.trans (hb89.mono (HK.out _ B8.out).2.2.2))
          clear kp sv9 hb89 HBX OW8 SV8 B8
          go_wp2_with fail
          refine KP.out.mono ?_
          rintro e w10 ⟨A10, c10, rfl, own10, hb10⟩
          have OW10 := Lib.hid own10
          have hbx10 := blk_below HBX9.out hb10 (lt_of_block HBX9.out)
          have OX10 := Lib.hid (OX9.out.keep hb10)
          have B10 := Lib.hid (B9.out.trans (hb10.mono (HK.out _ B9.out).2.2.2))
          clear own10 hb10 KP B9 OX9 HBX9
          go_upto_region 16 with fail
          have hby := heap_alloc_new w10 (.cells #[.int .i64 4, .int .i64 r.num, .int .i64 r.den, .slice A10 r.path.length c10, .int .i64 r.cost, .int .i64 r.done] 45)
          have h1011 : Below w10.heap.size w10 (w10.alloc (.cells #[.int .i64 4, .int .i64 r.num, .int .i64 r.den, .slice A10 r.path.length c10, .int .i64 r.cost, .int .i64 r.done] 45)) := (Below.refl _ _).alloc (Nat.le_refl _) _
          have hbx11 := blk_below hbx10 h1011 (lt_of_block hbx10)
          have OX11 := OX10.out.keep h1011
          have OW11 := OW10.out.keep h1011
          have B11 := Lib.hid (B10.out.trans (h1011.mono (HK.out _ B10.out).2.2.2))
          generalize w10.alloc (.cells #[.int .i64 4, .int .i64 r.num, .int .i64 r.den, .slice A10 r.path.length c10, .int .i64 r.cost, .int .i64 r.done] 45) = w11 at hby hbx11 OX11 OW11 B11 ⊢
          generalize w10.heap.size = XB at hby ⊢
          have ks := same_answer 4 r A7 c7 A10 c10 w11 OX11.sl.2 OW11.sl.2 (by omega)
          have KS := Lib.hid ks
          have o0 := blk_cell hbx11 0
          have o1 := blk_cell hbx11 1
          have o2 := blk_cell hbx11 2
          have o3 := blk_cell hbx11 3
          have o4 := blk_cell hbx11 4
          have o5 := blk_cell hbx11 5
          have zo := lt_of_block hbx11
          have p0 := blk_cell hby 0
          have p1 := blk_cell hby 1
          have p2 := blk_cell hby 2
          have p3 := blk_cell hby 3
          have p4 := blk_cell hby 4
          have p5 := blk_cell hby 5
          have zp := lt_of_block hby
          simp only [List.getElem?_toArray, List.getElem?_cons_zero, List.getElem?_cons_succ] at o0 o1 o2 o3 o4 o5 p0 p1 p2 p3 p4 p5
          clear ks hby hbx11 hbx10 h1011 OX11 OW11 OX10 OW10 B10
          go_wp2_with fail
          refine KS.out.mono ?_
          rintro e w12 ⟨rfl, hb12⟩
          have HFIN := Lib.hid (HK.out _ (B11.out.trans (hb12.mono (HK.out _ B11.out).2.2.2))).2.2.1
          clear hb12 KS B11 o0 o1 o2 o3 o4 o5 p0 p1 p2 p3 p4 p5 zo zp
          go_wp2
          go_ret
          exact ⟨rfl, HFIN.out⟩
        · have ke := edit_yes SV8.out.keepD k hkl y y0 y9 hsame
          have HNE : Hid (decide (l.set k y = l) = false) := Lib.hid (decide_eq_false (fun e => hsame (by rw [← e, List.getD_eq_getElem?_getD, List.getElem?_set_self hkl]; rfl)))
          have KE := Lib.hid ke
          clear ke
          refine Go.wp_region_held_drew (S := (fun w' => w'.cell? ⟨w.heap.size, 0, none⟩ = some (.int .i64 W) ∧ w'.cell? ⟨w.heap.size, 1, none⟩ = some (.int .i64 H) ∧ w'.cell? ⟨w.heap.size, 2, none⟩ = some (.slice A l.length c))) (by kernel_rfl) (HK.out _ B8.out.drew).1 (fun hHeld => ?_)
          refine Go.wpAnyH_take (fuel := 10) (i := 0) (oi := _) (v := ?_) rfl (by kernel_rfl) (by kernel_rfl) (by kernel_rfl) (fun _ _ _ h => h) (Or.inl ⟨by rfl, ?_⟩) (by first | exact hHeld | assumption) ?_
          rotate_left
          · (intro w hSw; (try dsimp only at hSw); (try unfold SN at hSw); go_simp)
            try with_reducible rfl
          try simp only [Act.put, List.getElem_toArray, List.getElem_cons_succ, List.getElem_cons_zero, List.setIfInBounds_toArray, List.set_cons_zero, List.set_cons_succ]
          refine Go.wpAnyH_take (fuel := 9) (i := 1) (oi := _) (v := ?_) rfl (by kernel_rfl) (by kernel_rfl) (by kernel_rfl) (fun _ _ _ h => h) (Or.inl ⟨by rfl, ?_⟩) (by first | exact hHeld | assumption) ?_
          rotate_left
          · (intro w hSw; (try dsimp only at hSw); (try unfold SN at hSw); go_simp)
            try with_reducible rfl
          try simp only [Act.put, List.getElem_toArray, List.getElem_cons_succ, List.getElem_cons_zero, List.setIfInBounds_toArray, List.set_cons_zero, List.set_cons_succ]
          refine Go.wpAnyH_take (fuel := 8) (i := 2) (oi := _) (v := ?_) rfl (by kernel_rfl) (by kernel_rfl) (by kernel_rfl) (fun _ _ _ h => h) (Or.inl ⟨by rfl, ?_⟩) (by first | exact hHeld | assumption) ?_
          rotate_left
          · (intro w hSw; (try dsimp only at hSw); (try unfold SN at hSw); go_simp)
            try with_reducible rfl
          try simp only [Act.put, List.getElem_toArray, List.getElem_cons_succ, List.getElem_cons_zero, List.setIfInBounds_toArray, List.set_cons_zero, List.set_cons_succ]
          refine Go.wpAnyH_ready (fuel := 7) (rs := [3]) (by kernel_rfl) (by simp) ?_
          refine Go.AllReadyH.cons (o := _) rfl (fun K hK => ?_) Go.AllReadyH.nil
          have HKX := Lib.hid hK
          clear hK
          go_simp
          go_at_call 23
          refine KE.out.mono ?_
          rintro e wa ⟨rfl, σ9, D9, sv9, ed9, of9, nd9⟩
          have hba2 := Lib.hid ((B8.out.drew).trans ((SV8.out.keepD.loE of9).mono Z3))
          have SVA := Lib.hid sv9
          have HED := Lib.hid ed9
          have HOF := Lib.hid of9
          have s1 := (HK.out _ hba2.out).1
          obtain ⟨z0, z1, z2, _, _, zp⟩ := sv9.zs
          have kg := Serve.ground_any Z4 W H A4 c4 (l.set k y) wa sv9.cells.sl.2 sv9.nil_ (by rw [List.length_set]; omega) z0 z1 z2 zp
          have KG := Lib.hid kg
          clear kg z0 z1 z2 zp sv9 ed9 of9 nd9
          refine HKX.out.out _ _ s1 (fun hHeld => ?_)
          clear HKX
          try simp only [Act.put, List.getElem_toArray, List.getElem_cons_succ, List.getElem_cons_zero, List.setIfInBounds_toArray, List.set_cons_zero, List.set_cons_succ]
          refine Go.wpAnyH_take (fuel := 6) (i := 4) (oi := _) (v := ?_) rfl (by kernel_rfl) (by kernel_rfl) (by kernel_rfl) (fun _ _ _ h => h) (Or.inl ⟨by rfl, ?_⟩) (by first | exact hHeld | assumption) ?_
          rotate_left
          · (intro w hSw; (try dsimp only at hSw); (try unfold SN at hSw); go_simp)
            try with_reducible rfl
          try simp only [Act.put, List.getElem_toArray, List.getElem_cons_succ, List.getElem_cons_zero, List.setIfInBounds_toArray, List.set_cons_zero, List.set_cons_succ]
          refine Go.wpAnyH_take (fuel := 5) (i := 5) (oi := _) (v := ?_) rfl (by kernel_rfl) (by kernel_rfl) (by kernel_rfl) (fun _ _ _ h => h) (Or.inl ⟨by rfl, ?_⟩) (by first | exact hHeld | assumption) ?_
          rotate_left
          · (intro w hSw; (try dsimp only at hSw); (try unfold SN at hSw); go_simp)
            try with_reducible rfl
          try simp only [Act.put, List.getElem_toArray, List.getElem_cons_succ, List.getElem_cons_zero, List.setIfInBounds_toArray, List.set_cons_zero, List.set_cons_succ]
          refine Go.wpAnyH_take (fuel := 4) (i := 6) (oi := _) (v := ?_) rfl (by kernel_rfl) (by kernel_rfl) (by kernel_rfl) (fun _ _ _ h => h) (Or.inl ⟨by rfl, ?_⟩) (by first | exact hHeld | assumption) ?_
          rotate_left
          · (intro w hSw; (try dsimp only at hSw); (try unfold SN at hSw); go_simp)
            try with_reducible rfl
          try simp only [Act.put, List.getElem_toArray, List.getElem_cons_succ, List.getElem_cons_zero, List.setIfInBounds_toArray, List.set_cons_zero, List.set_cons_succ]
          refine Go.wpAnyH_take (fuel := 3) (i := 8) (oi := _) (v := ?_) rfl (by kernel_rfl) (by kernel_rfl) (by kernel_rfl) (fun _ _ _ h => h) (Or.inl ⟨by rfl, ?_⟩) (by first | exact hHeld | assumption) ?_
          rotate_left
          · (intro w hSw; (try dsimp only at hSw); (try unfold SN at hSw); go_simp)
            try with_reducible rfl
          try simp only [Act.put, List.getElem_toArray, List.getElem_cons_succ, List.getElem_cons_zero, List.setIfInBounds_toArray, List.set_cons_zero, List.set_cons_succ]
          refine Go.wpAnyH_ready (fuel := 2) (rs := [7]) (by kernel_rfl) (by simp) ?_
          refine Go.AllReadyH.cons (o := _) rfl (fun K hK => ?_) Go.AllReadyH.nil
          have HKX := Lib.hid hK
          clear hK
          go_simp
          go_at_call 24
          refine KG.out.mono ?_
          rintro e wb ⟨Ab, cb_, rfl, ownb, hbb⟩
          have hbab := hba2.out.trans (hbb.mono (HK.out _ hba2.out).2.2.2)
          have HBB := Lib.hid hbab
          have HB9b := Lib.hid hbb
          have OWB := Lib.hid ownb
          have s2 := (HK.out _ hbab).1
          refine HKX.out.out _ _ s2 (fun hHeld => ?_)
          clear HKX
          try simp only [Act.put, List.getElem_toArray, List.getElem_cons_succ, List.getElem_cons_zero, List.setIfInBounds_toArray, List.set_cons_zero, List.set_cons_succ]
          refine Go.wpAnyH_ready (fuel := 1) (rs := [9]) (by kernel_rfl) (by simp) ?_
          refine Go.AllReadyH.cons (o := _) rfl (fun K hK => ?_) Go.AllReadyH.nil
          have HKX := Lib.hid hK
          clear hK
          go_simp
          go_at_call 25
          have ksg := same_cells W H Ab A cb_ c (l.set k y) l false HNE.out wb OWB.out.sl.2 (HK.out _ HBB.out).2.1 (by rw [List.length_set]; exact hll)
          rw [List.length_set] at ksg
          refine Calls.mono ksg ?_
          rintro e wc ⟨rfl, hbc⟩
          have hbabc := HBB.out.trans (hbc.mono (HK.out _ HBB.out).2.2.2)
          have HBC := Lib.hid hbabc
          have HB9c := Lib.hid (HB9b.out.trans (hbc.mono HB9b.out.size))
          have s3 := (HK.out _ hbabc).1
          refine HKX.out.out _ _ s3 (fun hHeld => ?_)
          clear HKX
          try simp only [Act.put, List.getElem_toArray, List.getElem_cons_succ, List.getElem_cons_zero, List.setIfInBounds_toArray, List.set_cons_zero, List.set_cons_succ]
          refine Go.wpAnyH_take (fuel := 0) (i := 10) (oi := _) (v := ?_) rfl (by kernel_rfl) (by kernel_rfl) (by kernel_rfl) (fun _ _ _ h => h) (Or.inl ⟨by rfl, ?_⟩) (by first | exact hHeld | assumption) ?_
          rotate_left
          · (intro w hSw; (try dsimp only at hSw); (try unfold SN at hSw); go_simp)
            try with_reducible rfl
          try simp only [Act.put, List.getElem_toArray, List.getElem_cons_succ, List.getElem_cons_zero, List.setIfInBounds_toArray, List.set_cons_zero, List.set_cons_succ]
          refine Go.wpAnyH_done (by kernel_rfl) ?_ _
          clear s1 s2 s3 hbb hbc hbab hbabc ksg OWB ownb KG KE hHeld HBB HNE hsame
          have HBA2 := hba2
          obtain ⟨g9, hg9, hT9, hm9⟩ : ∃ g9, σ9 0 = some g9 ∧ g9.T.rnd = r ∧ g9.sm = true := by
            rcases HED.out 0 with ⟨e1, _⟩ | ⟨g1, g9, e1, e2, h1, _⟩
            · rw [HG6.out] at e1; cases e1
            · rw [HG6.out] at e1
              injection e1 with e1
              subst e1
              rcases (h1 (by decide)).told with ⟨h2, _⟩ | ⟨R1, r1, h2, h3, h4⟩
              · rw [HR6.out.1] at h2; simp at h2
              · rw [HR6.out.1] at h2
                have h5 := congrArg List.getLast? h2
                simp at h5
                exact ⟨g9, e2, h3.trans h5.symm, h4⟩
          have hof8 : Off (fun g => g = Z4 ∨ ob A4 = some g ∨ DS D6 g) w8 wa := (Off.of (D := fun g => g = Z4 ∨ ob A4 = some g ∨ DS D6 g) ((Below.refl w8.heap.size w8).drew)).trans HOF.out (fun z hz => .inl hz)
          have hXno : ¬ (XA = Z4 ∨ ob A4 = some XA ∨ DS D6 XA) := fun h => by
            obtain ⟨h1, h2, h3⟩ := HNX.out
            rcases h with e | e | ⟨i, hi, hd⟩
            · omega
            · have := h3 XA e; omega
            · have := h1 i hi XA hd; omega
          have hAno : ∀ z, ob A7 = some z → ¬ (z = Z4 ∨ ob A4 = some z ∨ DS D6 z) := fun z e h => by
            obtain ⟨h1, h2, h3⟩ := HNX.out
            have h9 := (OW8.out.base_ z ((ob_ ..).trans e)).1
            rcases h with e2 | e2 | ⟨i, hi, hd⟩
            · omega
            · have := h3 z e2; omega
            · have := h1 i hi z hd; omega
          have hbxa := blk_off HBX.out hof8 hXno
          have HBXc := Lib.hid (blk_below hbxa HB9c.out (lt_of_block hbxa))
          have OWc := Lib.hid ((own_off OW8.out hof8 hAno).keep HB9c.out)
          have HD9 := Lib.hid (And.intro (fun i (hi : i < 6) z (hz : D9 i z) => (SVA.out.dom i hi z hz).2) SVA.out.Zlt)
          have hac := HB9c.out.size
          have SVc := Lib.hid (SVA.out.keep HB9c.out)
          have HG9 := Lib.hid (And.intro hg9 (And.intro hT9 hm9))
          clear hbxa hof8 hXno hAno hg9 hT9 hm9 HB9c HED HOF SVA HBX OW8 SV8 B8 HG6 HR6 HNX hle67
          rcases List.eq_nil_or_concat g9.s.rds with hr9 | ⟨R1, r1, hr9⟩
          · have kp : Calls Try.prog 14 #[.pointer (some ⟨Z4, 0, none⟩), .int .i64 0] wc fun e w' => AnsSays 3 r wc e w' := by
              have := poll_stale SVc.out (i := 0) (by decide) HG9.out.1 hr9 HG9.out.2.2
              rw [HG9.out.2.1] at this
              exact this
            clear hr9
            have KP := Lib.hid kp
            clear kp
            go_wp2_with fail
            refine KP.out.mono ?_
            rintro e w10 ⟨A10, c10, rfl, own10, hb10⟩
            have hbx10 := blk_below HBXc.out hb10 (lt_of_block HBXc.out)
            have OX10 := OWc.out.keep hb10
            have B10 := HBC.out.trans (hb10.mono (HK.out _ HBC.out).2.2.2)
            have SV10 := SVc.out.keep hb10
            have hsz10 := hb10.size
            clear hb10 KP SVc OWc HBXc HBC
            go_upto_region 18 with fail
            have hby := heap_alloc_new w10 (.cells #[.int .i64 3, .int .i64 r.num, .int .i64 r.den, .slice A10 r.path.length c10, .int .i64 r.cost, .int .i64 r.done] 45)
            have h1011 : Below w10.heap.size w10 (w10.alloc (.cells #[.int .i64 3, .int .i64 r.num, .int .i64 r.den, .slice A10 r.path.length c10, .int .i64 r.cost, .int .i64 r.done] 45)) := (Below.refl _ _).alloc (Nat.le_refl _) _
            have hbx11 := blk_below hbx10 h1011 (lt_of_block hbx10)
            have OX11 := Lib.hid (OX10.keep h1011)
            have OW11 := Lib.hid (own10.keep h1011)
            have SV11 := Lib.hid (SV10.keep h1011)
            have B11 := Lib.hid (B10.trans (h1011.mono (HK.out _ B10).2.2.2))
            generalize w10.alloc (.cells #[.int .i64 3, .int .i64 r.num, .int .i64 r.den, .slice A10 r.path.length c10, .int .i64 r.cost, .int .i64 r.done] 45) = w11 at hby hbx11 OX11 OW11 SV11 B11 ⊢
            generalize w10.heap.size = XC at hby hsz10 ⊢
            have HBY := Lib.hid hby
            have p0 := blk_cell hby 0
            have p1 := blk_cell hby 1
            have p2 := blk_cell hby 2
            have p3 := blk_cell hby 3
            have p4 := blk_cell hby 4
            have p5 := blk_cell hby 5
            have zp := lt_of_block hby
            have o1 := blk_cell hbx11 1
            have o2 := blk_cell hbx11 2
            have o3 := blk_cell hbx11 3
            have o4 := blk_cell hbx11 4
            have o5 := blk_cell hbx11 5
            have zo := lt_of_block hbx11
            simp only [List.getElem?_toArray, List.getElem?_cons_zero, List.getElem?_cons_succ] at p0 p1 p2 p3 p4 p5 o1 o2 o3 o4 o5
            clear hby hbx11 hbx10 h1011 OX10 own10 SV10 B10
            have ks := same_round ⟨r.num, r.den, A7, r.path.length, c7, r.cost, r.done, r.path⟩ ⟨r.num, r.den, A10, r.path.length, c10, r.cost, r.done, r.path⟩ w11 OX11.out.sl.2 OW11.out.sl.2 rfl rfl (by dsimp only; omega) rfl
            unfold rv at ks
            dsimp only at ks
            have KS := Lib.hid ks
            clear ks
            go_wp2_with fail
            refine KS.out.mono ?_
            rintro e w12 ⟨rfl, hb12⟩
            have SV12 := Lib.hid (SV11.out.keep hb12)
            have B12 := Lib.hid (B11.out.trans (hb12.mono (HK.out _ B11.out).2.2.2))
            have HBZ := Lib.hid (blk_below HBY.out hb12 (lt_of_block HBY.out))
            clear hb12 KS OX11 OW11 SV11 B11 HBY p0 p1 p2 p3 p4 p5 zp o1 o2 o3 o4 o5 zo
            have kf := frame_over SV12.out
            have KF := Lib.hid kf
            clear kf
            go_wp2_with fail
            refine KF.out.mono ?_
            rintro e w13 ⟨u13, t13, σ13, D13, rfl, sv13, wt13, ov13, of13, _⟩
            obtain ⟨Y13, s13, k13, hg13⟩ := wt13.get HG9.out.1
            generalize hgg : ({ g9 with Y := Y13, s := s13, k := k13 } : Slt) = g13 at hg13
            clear hgg
            have hov := ov13 0 (by decide) g13 hg13
            have hsl13 := sv13.slot 0 (by decide) g13 hg13
            obtain ⟨R2, r2, hr2⟩ := hsl13.last_ hov
            have hok := (hsl13.wt_ hr2).2.1
            have kp : Calls Try.prog 14 #[.pointer (some ⟨Z4, 0, none⟩), .int .i64 0] w13 fun e w' => AnsSays 4 r2 w13 e w' := by
              have := poll_good sv13 (i := 0) (by decide) hg13 hr2
              rw [if_pos hov] at this
              exact this
            have KP := Lib.hid kp
            have HOK := Lib.hid hok
            have hXno : ¬ (XC = Z4 ∨ DS D9 XC) := fun h => by
              obtain ⟨h1, h2⟩ := HD9.out
              rcases h with e | ⟨i, hi, hd⟩
              · omega
              · have := h1 i hi XC hd; omega
            have hbz13 := blk_off HBZ.out of13 hXno
            have B13 := Lib.hid (B12.out.trans ((SV12.out.lo of13).mono Z3))
            have HBZ13 := Lib.hid hbz13
            clear kp hok hXno hbz13 hsl13 hr2 hov hg13 sv13 wt13 ov13 of13 KF SV12 B12 HBZ 
            go_wp2_with fail
            refine KP.out.mono ?_
            rintro e w14 ⟨A14, c14, rfl, own14, hb14⟩
            have hz := blk_below HBZ13.out hb14 (lt_of_block HBZ13.out)
            have B14 := B13.out.trans (hb14.mono (HK.out _ B13.out).2.2.2)
            have Z14 := (HK.out _ B14).2.2.2
            have m0 := blk_cell hz 0
            have m1 := blk_cell hz 1
            have m2 := blk_cell hz 2
            have m3 := blk_cell hz 3
            have m4 := blk_cell hz 4
            have m5 := blk_cell hz 5
            have f0 := blk_free hz 0
            have f1 := blk_free hz 1
            have f2 := blk_free hz 2
            have f3 := blk_free hz 3
            have f4 := blk_free hz 4
            have f5 := blk_free hz 5
            have zm := lt_of_block hz
            simp only [List.getElem?_toArray, List.getElem?_cons_zero, List.getElem?_cons_succ] at m0 m1 m2 m3 m4 m5
            clear own14 hb14 KP B13 HBZ13
            go_upto_region 22 with fail
            have hz15 : ((((((w14.setCell ⟨XC, 0, none⟩ (.int .i64 4)).setCell ⟨XC, 1, none⟩ (.int .i64 r2.num)).setCell ⟨XC, 2, none⟩ (.int .i64 r2.den)).setCell ⟨XC, 3, none⟩ (.slice A14 r2.path.length c14)).setCell ⟨XC, 4, none⟩ (.int .i64 r2.cost)).setCell ⟨XC, 5, none⟩ (.int .i64 r2.done)).heap[XC]? = some (.cells #[.int .i64 4, .int .i64 r2.num, .int .i64 r2.den, .slice A14 r2.path.length c14, .int .i64 r2.cost, .int .i64 r2.done] 45 (0, 0)) := blk_set (blk_set (blk_set (blk_set (blk_set (blk_set hz 0 _) 1 _) 2 _) 3 _) 4 _) 5 _
            have hXlow : w.heap.size + 1 ≤ XC := by have := (HK.out _ HBA2.out).2.2.2; omega
            have B15 := Lib.hid ((((((B14.setCell (p := ⟨XC, 0, none⟩) hXlow (.int .i64 4)).setCell (p := ⟨XC, 1, none⟩) hXlow (.int .i64 r2.num)).setCell (p := ⟨XC, 2, none⟩) hXlow (.int .i64 r2.den)).setCell (p := ⟨XC, 3, none⟩) hXlow (.slice A14 r2.path.length c14)).setCell (p := ⟨XC, 4, none⟩) hXlow (.int .i64 r2.cost)).setCell (p := ⟨XC, 5, none⟩) hXlow (.int .i64 r2.done))
            generalize (((((w14.setCell ⟨XC, 0, none⟩ (.int .i64 4)).setCell ⟨XC, 1, none⟩ (.int .i64 r2.num)).setCell ⟨XC, 2, none⟩ (.int .i64 r2.den)).setCell ⟨XC, 3, none⟩ (.slice A14 r2.path.length c14)).setCell ⟨XC, 4, none⟩ (.int .i64 r2.cost)).setCell ⟨XC, 5, none⟩ (.int .i64 r2.done) = w15 at hz15 B15 ⊢
            clear hz m0 m1 m2 m3 m4 m5 f0 f1 f2 f3 f4 f5 zm B14 Z14
            have n0 := blk_cell hz15 0
            have n1 := blk_cell hz15 1
            have n2 := blk_cell hz15 2
            have zn := lt_of_block hz15
            simp only [List.getElem?_toArray, List.getElem?_cons_zero, List.getElem?_cons_succ] at n0 n1 n2
            have kc := Ratio.check_yes r2.num r2.den w15 HOK.out
            have KC := Lib.hid kc
            clear kc hz15
            go_wp2_with fail
            refine KC.out.mono ?_
            rintro e w16 ⟨rfl, hb16⟩
            have HFIN := Lib.hid (HK.out _ (B15.out.trans (hb16.mono (HK.out _ B15.out).2.2.2))).2.2.1
            clear hb16 KC B15 n0 n1 n2 zn
            go_wp2
            go_ret
            exact ⟨rfl, HFIN.out⟩
          · rw [List.concat_eq_append] at hr9
            have kp0 := poll_good SVc.out (i := 0) (by decide) HG9.out.1 hr9
            by_cases ho : g9.s.rds.length = g9.F.ws.length
            · rw [if_pos ho] at kp0
              have kp : Calls Try.prog 14 #[.pointer (some ⟨Z4, 0, none⟩), .int .i64 0] wc fun e w' => AnsSays 4 r1 wc e w' := kp0
              clear hr9 ho kp0
              have KP := Lib.hid kp
              clear kp
              go_wp2_with fail
              refine KP.out.mono ?_
              rintro e w10 ⟨A10, c10, rfl, own10, hb10⟩
              have hbx10 := blk_below HBXc.out hb10 (lt_of_block HBXc.out)
              have OX10 := OWc.out.keep hb10
              have B10 := HBC.out.trans (hb10.mono (HK.out _ HBC.out).2.2.2)
              have SV10 := SVc.out.keep hb10
              have hsz10 := hb10.size
              clear hb10 KP SVc OWc HBXc HBC
              go_upto_region 18 with fail
              have hby := heap_alloc_new w10 (.cells #[.int .i64 4, .int .i64 r1.num, .int .i64 r1.den, .slice A10 r1.path.length c10, .int .i64 r1.cost, .int .i64 r1.done] 45)
              have h1011 : Below w10.heap.size w10 (w10.alloc (.cells #[.int .i64 4, .int .i64 r1.num, .int .i64 r1.den, .slice A10 r1.path.length c10, .int .i64 r1.cost, .int .i64 r1.done] 45)) := (Below.refl _ _).alloc (Nat.le_refl _) _
              have hbx11 := blk_below hbx10 h1011 (lt_of_block hbx10)
              have OX11 := Lib.hid (OX10.keep h1011)
              have OW11 := Lib.hid (own10.keep h1011)
              have SV11 := Lib.hid (SV10.keep h1011)
              have B11 := Lib.hid (B10.trans (h1011.mono (HK.out _ B10).2.2.2))
              generalize w10.alloc (.cells #[.int .i64 4, .int .i64 r1.num, .int .i64 r1.den, .slice A10 r1.path.length c10, .int .i64 r1.cost, .int .i64 r1.done] 45) = w11 at hby hbx11 OX11 OW11 SV11 B11 ⊢
              generalize w10.heap.size = XC at hby hsz10 ⊢
              have HBY := Lib.hid hby
              have p0 := blk_cell hby 0
              have p1 := blk_cell hby 1
              have p2 := blk_cell hby 2
              have p3 := blk_cell hby 3
              have p4 := blk_cell hby 4
              have p5 := blk_cell hby 5
              have zp := lt_of_block hby
              have o1 := blk_cell hbx11 1
              have o2 := blk_cell hbx11 2
              have o3 := blk_cell hbx11 3
              have o4 := blk_cell hbx11 4
              have o5 := blk_cell hbx11 5
              have zo := lt_of_block hbx11
              simp only [List.getElem?_toArray, List.getElem?_cons_zero, List.getElem?_cons_succ] at p0 p1 p2 p3 p4 p5 o1 o2 o3 o4 o5
              clear hby hbx11 hbx10 h1011 OX10 own10 SV10 B10
              have SV12 := SV11
              have B12 := B11
              have HBZ := HBY
              have kf := frame_over SV12.out
              have KF := Lib.hid kf
              clear kf OX11 OW11 SV11 B11 HBY o1 o2 o3 o4 o5 zo
              go_wp2_with fail
              refine KF.out.mono ?_
              rintro e w13 ⟨u13, t13, σ13, D13, rfl, sv13, wt13, ov13, of13, _⟩
              obtain ⟨Y13, s13, k13, hg13⟩ := wt13.get HG9.out.1
              generalize hgg : ({ g9 with Y := Y13, s := s13, k := k13 } : Slt) = g13 at hg13
              clear hgg
              have hov := ov13 0 (by decide) g13 hg13
              have hsl13 := sv13.slot 0 (by decide) g13 hg13
              obtain ⟨R2, r2, hr2⟩ := hsl13.last_ hov
              have hok := (hsl13.wt_ hr2).2.1
              have kp : Calls Try.prog 14 #[.pointer (some ⟨Z4, 0, none⟩), .int .i64 0] w13 fun e w' => AnsSays 4 r2 w13 e w' := by
                have := poll_good sv13 (i := 0) (by decide) hg13 hr2
                rw [if_pos hov] at this
                exact this
              have KP := Lib.hid kp
              have HOK := Lib.hid hok
              have hXno : ¬ (XC = Z4 ∨ DS D9 XC) := fun h => by
                obtain ⟨h1, h2⟩ := HD9.out
                rcases h with e | ⟨i, hi, hd⟩
                · omega
                · have := h1 i hi XC hd; omega
              have hbz13 := blk_off HBZ.out of13 hXno
              have B13 := Lib.hid (B12.out.trans ((SV12.out.lo of13).mono Z3))
              have HBZ13 := Lib.hid hbz13
              clear kp hok hXno hbz13 hsl13 hr2 hov hg13 sv13 wt13 ov13 of13 KF SV12 B12 HBZ p0 p1 p2 p3 p4 p5 zp
              go_wp2_with fail
              refine KP.out.mono ?_
              rintro e w14 ⟨A14, c14, rfl, own14, hb14⟩
              have hz := blk_below HBZ13.out hb14 (lt_of_block HBZ13.out)
              have B14 := B13.out.trans (hb14.mono (HK.out _ B13.out).2.2.2)
              have Z14 := (HK.out _ B14).2.2.2
              have m0 := blk_cell hz 0
              have m1 := blk_cell hz 1
              have m2 := blk_cell hz 2
              have m3 := blk_cell hz 3
              have m4 := blk_cell hz 4
              have m5 := blk_cell hz 5
              have f0 := blk_free hz 0
              have f1 := blk_free hz 1
              have f2 := blk_free hz 2
              have f3 := blk_free hz 3
              have f4 := blk_free hz 4
              have f5 := blk_free hz 5
              have zm := lt_of_block hz
              simp only [List.getElem?_toArray, List.getElem?_cons_zero, List.getElem?_cons_succ] at m0 m1 m2 m3 m4 m5
              clear own14 hb14 KP B13 HBZ13
              go_upto_region 22 with fail
              have hz15 : ((((((w14.setCell ⟨XC, 0, none⟩ (.int .i64 4)).setCell ⟨XC, 1, none⟩ (.int .i64 r2.num)).setCell ⟨XC, 2, none⟩ (.int .i64 r2.den)).setCell ⟨XC, 3, none⟩ (.slice A14 r2.path.length c14)).setCell ⟨XC, 4, none⟩ (.int .i64 r2.cost)).setCell ⟨XC, 5, none⟩ (.int .i64 r2.done)).heap[XC]? = some (.cells #[.int .i64 4, .int .i64 r2.num, .int .i64 r2.den, .slice A14 r2.path.length c14, .int .i64 r2.cost, .int .i64 r2.done] 45 (0, 0)) := blk_set (blk_set (blk_set (blk_set (blk_set (blk_set hz 0 _) 1 _) 2 _) 3 _) 4 _) 5 _
              have hXlow : w.heap.size + 1 ≤ XC := by have := (HK.out _ HBA2.out).2.2.2; omega
              have B15 := Lib.hid ((((((B14.setCell (p := ⟨XC, 0, none⟩) hXlow (.int .i64 4)).setCell (p := ⟨XC, 1, none⟩) hXlow (.int .i64 r2.num)).setCell (p := ⟨XC, 2, none⟩) hXlow (.int .i64 r2.den)).setCell (p := ⟨XC, 3, none⟩) hXlow (.slice A14 r2.path.length c14)).setCell (p := ⟨XC, 4, none⟩) hXlow (.int .i64 r2.cost)).setCell (p := ⟨XC, 5, none⟩) hXlow (.int .i64 r2.done))
              generalize (((((w14.setCell ⟨XC, 0, none⟩ (.int .i64 4)).setCell ⟨XC, 1, none⟩ (.int .i64 r2.num)).setCell ⟨XC, 2, none⟩ (.int .i64 r2.den)).setCell ⟨XC, 3, none⟩ (.slice A14 r2.path.length c14)).setCell ⟨XC, 4, none⟩ (.int .i64 r2.cost)).setCell ⟨XC, 5, none⟩ (.int .i64 r2.done) = w15 at hz15 B15 ⊢
              clear hz m0 m1 m2 m3 m4 m5 f0 f1 f2 f3 f4 f5 zm B14 Z14
              have n0 := blk_cell hz15 0
              have n1 := blk_cell hz15 1
              have n2 := blk_cell hz15 2
              have zn := lt_of_block hz15
              simp only [List.getElem?_toArray, List.getElem?_cons_zero, List.getElem?_cons_succ] at n0 n1 n2
              have kc := Ratio.check_yes r2.num r2.den w15 HOK.out
              have KC := Lib.hid kc
              clear kc hz15
              go_wp2_with fail
              refine KC.out.mono ?_
              rintro e w16 ⟨rfl, hb16⟩
              have HFIN := Lib.hid (HK.out _ (B15.out.trans (hb16.mono (HK.out _ B15.out).2.2.2))).2.2.1
              clear hb16 KC B15 n0 n1 n2 zn
              go_wp2
              go_ret
              exact ⟨rfl, HFIN.out⟩
            · rw [if_neg ho] at kp0
              have kp : Calls Try.prog 14 #[.pointer (some ⟨Z4, 0, none⟩), .int .i64 0] wc fun e w' => AnsSays 2 r1 wc e w' := kp0
              clear hr9 ho kp0
              have KP := Lib.hid kp
              clear kp
              go_wp2_with fail
              refine KP.out.mono ?_
              rintro e w10 ⟨A10, c10, rfl, own10, hb10⟩
              have hbx10 := blk_below HBXc.out hb10 (lt_of_block HBXc.out)
              have OX10 := OWc.out.keep hb10
              have B10 := HBC.out.trans (hb10.mono (HK.out _ HBC.out).2.2.2)
              have SV10 := SVc.out.keep hb10
              have hsz10 := hb10.size
              clear hb10 KP SVc OWc HBXc HBC
              go_upto_region 18 with fail
              have hby := heap_alloc_new w10 (.cells #[.int .i64 2, .int .i64 r1.num, .int .i64 r1.den, .slice A10 r1.path.length c10, .int .i64 r1.cost, .int .i64 r1.done] 45)
              have h1011 : Below w10.heap.size w10 (w10.alloc (.cells #[.int .i64 2, .int .i64 r1.num, .int .i64 r1.den, .slice A10 r1.path.length c10, .int .i64 r1.cost, .int .i64 r1.done] 45)) := (Below.refl _ _).alloc (Nat.le_refl _) _
              have hbx11 := blk_below hbx10 h1011 (lt_of_block hbx10)
              have OX11 := Lib.hid (OX10.keep h1011)
              have OW11 := Lib.hid (own10.keep h1011)
              have SV11 := Lib.hid (SV10.keep h1011)
              have B11 := Lib.hid (B10.trans (h1011.mono (HK.out _ B10).2.2.2))
              generalize w10.alloc (.cells #[.int .i64 2, .int .i64 r1.num, .int .i64 r1.den, .slice A10 r1.path.length c10, .int .i64 r1.cost, .int .i64 r1.done] 45) = w11 at hby hbx11 OX11 OW11 SV11 B11 ⊢
              generalize w10.heap.size = XC at hby hsz10 ⊢
              have HBY := Lib.hid hby
              have p0 := blk_cell hby 0
              have p1 := blk_cell hby 1
              have p2 := blk_cell hby 2
              have p3 := blk_cell hby 3
              have p4 := blk_cell hby 4
              have p5 := blk_cell hby 5
              have zp := lt_of_block hby
              have o1 := blk_cell hbx11 1
              have o2 := blk_cell hbx11 2
              have o3 := blk_cell hbx11 3
              have o4 := blk_cell hbx11 4
              have o5 := blk_cell hbx11 5
              have zo := lt_of_block hbx11
              simp only [List.getElem?_toArray, List.getElem?_cons_zero, List.getElem?_cons_succ] at p0 p1 p2 p3 p4 p5 o1 o2 o3 o4 o5
              clear hby hbx11 hbx10 h1011 OX10 own10 SV10 B10
              have SV12 := SV11
              have B12 := B11
              have HBZ := HBY
              have kf := frame_over SV12.out
              have KF := Lib.hid kf
              clear kf OX11 OW11 SV11 B11 HBY o1 o2 o3 o4 o5 zo
              go_wp2_with fail
              refine KF.out.mono ?_
              rintro e w13 ⟨u13, t13, σ13, D13, rfl, sv13, wt13, ov13, of13, _⟩
              obtain ⟨Y13, s13, k13, hg13⟩ := wt13.get HG9.out.1
              generalize hgg : ({ g9 with Y := Y13, s := s13, k := k13 } : Slt) = g13 at hg13
              clear hgg
              have hov := ov13 0 (by decide) g13 hg13
              have hsl13 := sv13.slot 0 (by decide) g13 hg13
              obtain ⟨R2, r2, hr2⟩ := hsl13.last_ hov
              have hok := (hsl13.wt_ hr2).2.1
              have kp : Calls Try.prog 14 #[.pointer (some ⟨Z4, 0, none⟩), .int .i64 0] w13 fun e w' => AnsSays 4 r2 w13 e w' := by
                have := poll_good sv13 (i := 0) (by decide) hg13 hr2
                rw [if_pos hov] at this
                exact this
              have KP := Lib.hid kp
              have HOK := Lib.hid hok
              have hXno : ¬ (XC = Z4 ∨ DS D9 XC) := fun h => by
                obtain ⟨h1, h2⟩ := HD9.out
                rcases h with e | ⟨i, hi, hd⟩
                · omega
                · have := h1 i hi XC hd; omega
              have hbz13 := blk_off HBZ.out of13 hXno
              have B13 := Lib.hid (B12.out.trans ((SV12.out.lo of13).mono Z3))
              have HBZ13 := Lib.hid hbz13
              clear kp hok hXno hbz13 hsl13 hr2 hov hg13 sv13 wt13 ov13 of13 KF SV12 B12 HBZ p0 p1 p2 p3 p4 p5 zp
              go_wp2_with fail
              refine KP.out.mono ?_
              rintro e w14 ⟨A14, c14, rfl, own14, hb14⟩
              have hz := blk_below HBZ13.out hb14 (lt_of_block HBZ13.out)
              have B14 := B13.out.trans (hb14.mono (HK.out _ B13.out).2.2.2)
              have Z14 := (HK.out _ B14).2.2.2
              have m0 := blk_cell hz 0
              have m1 := blk_cell hz 1
              have m2 := blk_cell hz 2
              have m3 := blk_cell hz 3
              have m4 := blk_cell hz 4
              have m5 := blk_cell hz 5
              have f0 := blk_free hz 0
              have f1 := blk_free hz 1
              have f2 := blk_free hz 2
              have f3 := blk_free hz 3
              have f4 := blk_free hz 4
              have f5 := blk_free hz 5
              have zm := lt_of_block hz
              simp only [List.getElem?_toArray, List.getElem?_cons_zero, List.getElem?_cons_succ] at m0 m1 m2 m3 m4 m5
              clear own14 hb14 KP B13 HBZ13
              go_upto_region 22 with fail
              have hz15 : ((((((w14.setCell ⟨XC, 0, none⟩ (.int .i64 4)).setCell ⟨XC, 1, none⟩ (.int .i64 r2.num)).setCell ⟨XC, 2, none⟩ (.int .i64 r2.den)).setCell ⟨XC, 3, none⟩ (.slice A14 r2.path.length c14)).setCell ⟨XC, 4, none⟩ (.int .i64 r2.cost)).setCell ⟨XC, 5, none⟩ (.int .i64 r2.done)).heap[XC]? = some (.cells #[.int .i64 4, .int .i64 r2.num, .int .i64 r2.den, .slice A14 r2.path.length c14, .int .i64 r2.cost, .int .i64 r2.done] 45 (0, 0)) := blk_set (blk_set (blk_set (blk_set (blk_set (blk_set hz 0 _) 1 _) 2 _) 3 _) 4 _) 5 _
              have hXlow : w.heap.size + 1 ≤ XC := by have := (HK.out _ HBA2.out).2.2.2; omega
              have B15 := Lib.hid ((((((B14.setCell (p := ⟨XC, 0, none⟩) hXlow (.int .i64 4)).setCell (p := ⟨XC, 1, none⟩) hXlow (.int .i64 r2.num)).setCell (p := ⟨XC, 2, none⟩) hXlow (.int .i64 r2.den)).setCell (p := ⟨XC, 3, none⟩) hXlow (.slice A14 r2.path.length c14)).setCell (p := ⟨XC, 4, none⟩) hXlow (.int .i64 r2.cost)).setCell (p := ⟨XC, 5, none⟩) hXlow (.int .i64 r2.done))
              generalize (((((w14.setCell ⟨XC, 0, none⟩ (.int .i64 4)).setCell ⟨XC, 1, none⟩ (.int .i64 r2.num)).setCell ⟨XC, 2, none⟩ (.int .i64 r2.den)).setCell ⟨XC, 3, none⟩ (.slice A14 r2.path.length c14)).setCell ⟨XC, 4, none⟩ (.int .i64 r2.cost)).setCell ⟨XC, 5, none⟩ (.int .i64 r2.done) = w15 at hz15 B15 ⊢
              clear hz m0 m1 m2 m3 m4 m5 f0 f1 f2 f3 f4 f5 zm B14 Z14
              have n0 := blk_cell hz15 0
              have n1 := blk_cell hz15 1
              have n2 := blk_cell hz15 2
              have zn := lt_of_block hz15
              simp only [List.getElem?_toArray, List.getElem?_cons_zero, List.getElem?_cons_succ] at n0 n1 n2
              have kc := Ratio.check_yes r2.num r2.den w15 HOK.out
              have KC := Lib.hid kc
              clear kc hz15
              go_wp2_with fail
              refine KC.out.mono ?_
              rintro e w16 ⟨rfl, hb16⟩
              have HFIN := Lib.hid (HK.out _ (B15.out.trans (hb16.mono (HK.out _ B15.out).2.2.2))).2.2.1
              clear hb16 KC B15 n0 n1 n2 zn
              go_wp2
              go_ret
              exact ⟨rfl, HFIN.out⟩
    · have ka := ask_no SV4.out f t Aw cw ws ((HWS.out.keep (HK.out _ B4.out).2.2.1 (Nat.le_refl _)).more (HK.out _ B4.out).2.2.1.size) HN2.out hwl hx
      have KA := Lib.hid ka
      have hcd : (ncode l.length f t (allM W H l l.length) (zs l.length) ws != 0) = true := by rw [bne_iff_ne]; exact hx
      generalize ncode l.length f t (allM W H l l.length) (zs l.length) ws = cd at *
      clear ka hx
      go_wp2_with fail
      refine KA.out.mono ?_
      rintro e w5 ⟨rfl, hb5⟩
      have HB5 := Lib.hid ((HK.out _ (B4.out.trans (hb5.mono (HK.out _ B4.out).2.2.2))).2.2.1)
      clear KA hb5 SV4 B4
      go_wp2
      go_ret
      exact ⟨rfl, HB5.out⟩
  · have kn := new_no W H A c l w3 sl3 (by omega) hg
    have hne : (gchk W H l != 0) = true := by rw [bne_iff_ne]; exact hg
    have KN := Lib.hid kn
    clear kn sl3 hg
    generalize gchk W H l = z at *
    go_wp2_with fail
    refine KN.out.mono ?_
    rintro e w4 ⟨rfl, hb4⟩
    have HB4 := Lib.hid ((HK.out _ (B3.trans (hb4.mono Z3))).2.2.1)
    clear q0 q1 q2 KN hb4 B3
    go_wp2
    go_ret
    exact ⟨rfl, HB4.out⟩

theorem own : ownKnob Try.prog.godebug = none := by kernel_rfl
theorem laidOut : laidOutB Try.prog = true := by kernel_rfl

set_option maxRecDepth 100000 in
theorem contract (H : Type) (enc : TypeId × Value → H) (W : World) (base : Nat) (args : Array Value) (ds gs : List (DataW H)) (before : List MemPlace)
    (hval0 : ∀ (j : Nat) t v, Try.f6.params[j]? = some t → args[j]? = some v → Value.okWide Try.prog W .any base t v)
    (hW : DataW.Whole enc Try.prog Try.f6.params.toList Rows.serveStaleSpec.vars false W args.toList ds gs before) (hk : Rows.uptoSmall H (ds ++ gs) = true) :
    Calls Try.prog 6 args W fun e W' => ∃ v, e = .returned v ∧ Rows.serveStaleSpec.post enc Try.prog Try.f6 false true false false W args v W' := by
  have hval : ∀ (j : Nat) t v, Try.f6.params[j]? = some t → args[j]? = some v → Value.okWide Try.prog W .any base t v := hval0
  have hW' := hW
  obtain ⟨p, q, hA0, hV, rfl, hfz, hnd⟩ := hW
  have hA : DataW.TrodAll enc Try.prog W 0 (fun _ => true) true Try.f6.params.toList args.toList ds p := hA0
  rw [Try.params6] at hA hval
  obtain ⟨v0, vs0, d0, ds0, p0, q0, hargs, rfl, rfl, h0, r0⟩ := trodAll_cons hA
  obtain ⟨v1, vs1, d1, ds1, p1, q1, rfl, rfl, rfl, h1, r1⟩ := trodAll_cons r0
  obtain ⟨v2, vs2, d2, ds2, p2, q2, rfl, rfl, rfl, h2, r2⟩ := trodAll_cons r1
  obtain ⟨v3, vs3, d3, ds3, p3, q3, rfl, rfl, rfl, h3, r3⟩ := trodAll_cons r2
  obtain ⟨v4, vs4, d4, ds4, p4, q4, rfl, rfl, rfl, h4, r4⟩ := trodAll_cons r3
  obtain ⟨v5, vs5, d5, ds5, p5, q5, rfl, rfl, rfl, h5, r5⟩ := trodAll_cons r4
  obtain ⟨rfl, rfl, rfl⟩ := trodAll_nil r5
  obtain rfl : args = #[v0, v1, v2, v3, v4, v5] := by cases args; simp_all
  obtain ⟨rfl, rfl⟩ := trodVars_none hV
  obtain ⟨W0, H0, A0, c0, l0, dd0, rfl, hW0, hH0, hG0, hb0, rfl, hd0⟩ := open_grid Try.underlying24 (by kernel_rfl) (by kernel_rfl) Try.underlying3 Try.underlying3 Try.underlying22 Try.underlying3 (by kernel_rfl) (hval 0 24 v0 rfl rfl) h0
  obtain ⟨a1, rfl, rfl, rfl, wa1⟩ := open_int Try.underlying3 (hval 1 3 v1 rfl rfl) h1
  obtain ⟨a2, rfl, rfl, rfl, wa2⟩ := open_int Try.underlying3 (hval 2 3 v2 rfl rfl) h2
  obtain ⟨A3, c3, l3, rfl, hG3, hd3, hb3⟩ := open_sl2 Try.underlying26 Try.underlying39 (by kernel_rfl) (by kernel_rfl) Try.underlying3 Try.underlying3 (hval 3 26 v3 rfl rfl) h3
  obtain ⟨a4, rfl, rfl, rfl, wa4⟩ := open_int Try.underlying3 (hval 4 3 v4 rfl rfl) h4
  obtain ⟨a5, rfl, rfl, rfl, wa5⟩ := open_int Try.underlying3 (hval 5 3 v5 rfl rfl) h5
  have hbulk := bulk_bound hk
  simp only [List.cons_append, List.nil_append, List.append_nil, Rows.uptoBulkAll] at hbulk
  have hq0 := bulk_agg3 (x := .lit (.int .i64 W0)) (y := .lit (.int .i64 H0)) hd0
  have hq1 := bulk_len hd3
  refine (walk W W0 H0 A0 c0 l0 hW0 hH0 hG0 a1 (wf_bd wa1) a2 (wf_bd wa2) A3 c3 l3 hG3 a4 (wf_bd wa4) a5 (wf_bd wa5) (by omega)).mono fun e W' ⟨he, hB⟩ => ?_
  subst he
  exact ⟨_, rfl, post_of_law laidOut rfl Try.underlying4 rfl (by intro t ht; rw [Try.params6] at ht; simp at ht; rcases ht with rfl | rfl | rfl | rfl | rfl | rfl <;> exact ⟨by kernel_rfl, of_decide_eq_true (by kernel_rfl)⟩) hW' rfl hB⟩

set_option maxRecDepth 100000 in
theorem lifted (os : Os) (started : os.Started) (H : Type) (enc : TypeId × Value → H) (F : Stop.Interp) :
    ReturnsInHanded {} Try.checked os 6 .any ((Rows.OpenSpec.upto Rows.serveStaleSpec).pre6 enc Try.prog Try.f6 Rows.serveStaleUptoRow.domain false) (((Rows.OpenSpec.upto Rows.serveStaleSpec).at F).post enc Try.prog Try.f6 false true false false) := by
  refine returnsInHanded_of_cond (C := Try.checked) (s := Rows.OpenSpec.upto Rows.serveStaleSpec) (k := Rows.uptoSmall) rfl own started (by kernel_rfl) Try.func6
    (OpenSpec.witness (enc := enc) (C := Try.checked) (s := Rows.OpenSpec.upto Rows.serveStaleSpec) (k := Rows.uptoSmall) rfl false ⟨#[], #[.agg #[.int .i64 0, .int .i64 0, .slice none 0 0], .int .i64 0, .int .i64 0, .slice none 0 0, .int .i64 0, .int .i64 0], []⟩ 8 (by kernel_rfl) (by kernel_rfl) (by kernel_rfl)
      (x := ([.agg [.lit (.int .i64 0), .lit (.int .i64 0), .nil], .lit (.int .i64 0), .lit (.int .i64 0), .nil, .lit (.int .i64 0), .lit (.int .i64 0)], [], [])) (by kernel_rfl) rfl (by kernel_rfl)) ?_
  intro W base args ds gs before hval hW _ hk _
  exact contract H enc W base args ds gs before hval hW hk

theorem holds : Rows.ServeStaleUptoSaid :=
  OpenClaim.holds_of_cond 6 Try.f6 rfl rfl rfl rfl rfl rfl rfl ⟨rfl, rfl, rfl, rfl, rfl⟩ rfl rfl rfl rfl rfl (by kernel_rfl) Try.func6 (by kernel_rfl)
    (of_decide_eq_true (by kernel_rfl)) (by unfold Func.isWrapper; first | (rw [if_pos (by decide +kernel)]; kernel_rfl) | (rw [if_neg (by decide +kernel)]; exact ⟨rfl, rfl⟩))
    (fun os started H enc _ F => lifted os started H enc F)
#print axioms holds
end Go.Proofs.Ytpoolpaagbeokaa.ServeStaleLaw
