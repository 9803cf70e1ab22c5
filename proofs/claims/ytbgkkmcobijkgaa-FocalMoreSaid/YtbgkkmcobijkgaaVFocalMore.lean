/- For every net, two places, list of guesses, weight, list of tastes and number: FocalMore answers true (with more steps it is the same; with as many as it takes it is found; with fewer it is not), and the arguments read as before. No condition. -/
import Derived.Test.YtbgkkmcobijkgaaRows
import Derived.Test.YtbgkkmcobijkgaaVOpen
import Derived.Test.YtbgkkmcobijkgaaVWithin
import Derived.Test.YtbgkkmcobijkgaaVWeighSame
import Derived.IntWalk
namespace Go.Proofs.Ytbgkkmcobijkgaa.FocalMoreLaw
open Go.ChangeShapes Go.WideShapes Go.ChangeAt Go.RowKit Go.Proofs.Ytbgkkmcobijkgaa NetLaw BellLaw DijkLaw HeurLaw StarLaw FocalLaw Go.Proofs.Ytbgkkmcobijkgaa.Net Go.Proofs.Ytbgkkmcobijkgaa.Dijk Go.Proofs.Ytbgkkmcobijkgaa.DijkTwo Go.Proofs.Ytbgkkmcobijkgaa.Refs Go.Proofs.Ytbgkkmcobijkgaa.Std Go.Proofs.Ytbgkkmcobijkgaa.Heur Go.Proofs.Ytbgkkmcobijkgaa.StarF Go.Proofs.Ytbgkkmcobijkgaa.Focal Go.Proofs.Ytbgkkmcobijkgaa.Within
set_option linter.unusedSimpArgs false
set_option linter.unusedVariables false
set_option maxRecDepth 100000 in
set_option maxHeartbeats 8000000 in
theorem walk (w : World) (N : Int) (A : Option Addr) (c : Nat) (l : List E) (hA : Arg w 3 ce A c l) (a : Int) (ha : -9223372036854775808 ≤ a ∧ a ≤ 9223372036854775807) (b : Int) (hb : -9223372036854775808 ≤ b ∧ b ≤ 9223372036854775807) (Ah : Option Addr) (ch : Nat) (h : List Int) (hAh : Arg w 1 ci Ah ch h) (p q : Int) (hp : -9223372036854775808 ≤ p ∧ p ≤ 9223372036854775807) (hq : -9223372036854775808 ≤ q ∧ q ≤ 9223372036854775807) (At : Option Addr) (ct : Nat) (ta : List Int) (hAt : Arg w 1 ci At ct ta) (k : Int) (hk : -9223372036854775808 ≤ k ∧ k ≤ 9223372036854775807) :
    Calls Try.prog 8 #[.agg #[.int .i64 N, .slice A l.length c], .int .i64 a, .int .i64 b, .slice Ah h.length ch, .agg #[.int .i64 p, .int .i64 q], .slice At ta.length ct, .int .i64 k] w fun e w' => e = .returned (.bool true) ∧ Below w.heap.size w w' := by
  have hs := hA.sl
  have hss := hAh.sl
  have hst := hAt.sl
  have hll : l.length ≤ 9223372036854775807 := Nat.le_trans hA.cap hA.max
  have hhl : h.length ≤ 9223372036854775807 := Nat.le_trans hAh.cap hAh.max
  clear hA hAh hAt ha hb hp hq hk
  have KEY0 := Lib.hid (fun W g hl A' ch hh At ct ht => ftwo_one W g hl A' ch hh At ct ht)
  have HK := Lib.hid (fun W hW => nbox2 (N := N) (p := p) (q := q) (c := c) (W := W) hs hss hW)
  have HKT := Lib.hid (fun W (hW : Below w.heap.size w W) => (hst.keep hW (Nat.le_refl _)).more hW.size)
  have HB0 := Lib.hid (Below.refl (w.heap.size + 1 + 1) ((w.alloc (.cells #[.int .i64 N, .slice A l.length c] 32)).alloc (.cells #[.int .i64 p, .int .i64 q] 54)))
  by_cases hbad : slook N a b l h ≠ 0 ∨ wgt p q ≠ 0 ∨ (ta.length : Int) ≠ N
  · have krun := fun W h1 h2 => frun_bad N a b A c l Ah ch h p q At ct ta 100000 W h1 h2 hll hhl hbad
    have KRUN := Lib.hid krun
    clear krun hbad hs hss hst hhl
    go_enter Try.func8, Try.ntmps8
    go_wp2_with fail
    refine (two_any _).mono ?_
    rintro e w1 ⟨g, rfl, own1, hb1⟩
    have B1 := HB0.out.trans (hb1.mono (by simp))
    have Z1 : w.heap.size + 1 + 1 ≤ w1.heap.size := by have := B1.size; simpa using this
    clear hb1
    go_wp2_with fail
    refine (one_any _).mono ?_
    rintro e w1b ⟨rfl, hb1⟩
    have hk1 : Below w1.heap.size w1 w1b := ((Below.refl _ _).alloc (Nat.le_refl _) (.cells #[.int .i64 0, .int .i64 0] 3)).trans (hb1.mono (by simp))
    have own1b := own1.keep hk1
    have si1 := ((sl_new' (sz := 1) (cell := ci) (by decide) w1 #[.int .i64 0, .int .i64 0] 3 [0, 0] rfl rfl).keep hb1 (Nat.le_refl _)).more hb1.size
    have B1b := (B1.alloc Z1 (.cells #[.int .i64 0, .int .i64 0] 3)).trans (hb1.mono (by simp; omega))
    have Z1b : w.heap.size + 1 + 1 ≤ w1b.heap.size := by have := B1b.size; simpa using this
    clear hb1 own1 B1 Z1 hk1
    go_wp2_with fail
    refine (KEY0.out _ _ (own1b.alloc _).sl.2 _ _ ((si1.keep ((Below.refl _ _).alloc (Nat.le_refl _) (.cells #[.int .i64 0, .int .i64 0] 3)) (Nat.le_refl _)).more (by simp)) _ _ (sl_new' (by decide) w1b #[.int .i64 0, .int .i64 0] _ _ (by simp) rfl)).mono ?_
    rintro e w2 ⟨rfl, hb2⟩
    have B2 := (B1b.alloc Z1b (.cells #[.int .i64 0, .int .i64 0] 3)).trans (hb2.mono (by simp; omega))
    have Z2 : w.heap.size + 1 + 1 ≤ w2.heap.size := by have := B2.size; simpa using this
    have B3 := B2.alloc Z2 (.cells #[.slice none 0 0, .int .i64 0, .slice none 0 0] 45)
    clear hb2 own1b si1 B1b Z1b B2 Z2
    obtain ⟨q0, q1, r0, r1, Z3, sg, sh, H3⟩ := HK.out _ B3
    go_wp2_with fail
    refine (KRUN.out _ sg sh).mono ?_
    rintro e w4 ⟨er, her, rfl, hb4⟩
    have H4 := H3.trans (hb4.mono H3.size)
    have H5 := H4.alloc H4.size (.cells #[.slice none 0 0, .int .i64 0, .slice none 0 0] 45)
    clear q0 q1 r0 r1 sg sh Z3 hb4 B3 H4
    go_wp2
    go_ret
    exact ⟨rfl, H5⟩
  · have hx : slook N a b l h = 0 := Classical.byContradiction fun e => hbad (.inl e)
    have hy : wgt p q = 0 := Classical.byContradiction fun e => hbad (.inr (.inl e))
    have hz : (ta.length : Int) = N := Classical.byContradiction fun e => hbad (.inr (.inr e))
    obtain ⟨hlk, hC⟩ := slook_zero.1 hx
    obtain ⟨hg, hc, ⟨a0, a1⟩, b0, b1⟩ := DijkWay.looks_zero hlk
    have hN1 := hg.lo
    obtain ⟨n, rfl⟩ := Int.eq_ofNat_of_zero_le (show 0 ≤ N by omega)
    obtain ⟨f, rfl⟩ := Int.eq_ofNat_of_zero_le a0
    obtain ⟨t, rfl⟩ := Int.eq_ofNat_of_zero_le b0
    have hhn : h.length = n := by have := hC.len; omega
    have htn : ta.length = n := by omega
    rw [hhn, htn]
    have krun := fun st W h1 h2 h3 (hs : st ≤ 100000) => frun_main n f t A c l Ah ch h At ct ta p q st W h1 h2 h3 hx hy htn hs
    have krun0 : ∀ W, Sl W W.heap.size 3 ce A l → Sl W W.heap.size 1 ci Ah h → Sl W W.heap.size 1 ci At ta → Calls Try.prog 33 #[.agg #[.int .i64 n, .slice A l.length c], .int .i64 f, .int .i64 t, .slice Ah n ch, .agg #[.int .i64 p, .int .i64 q], .slice At n ct, .int .i64 100000] W fun e w' => FSays n f t l h ta p q 100000 W e w' := fun W h1 h2 h3 => krun 100000 W h1 h2 h3 (Nat.le_refl _)
    have hway : ∀ s ord, Fr n f t l h ta p q s ord → pick n h ta s.1 s.2.2 p q = (t : Int) → ∀ cs, Ch s.2.1 t cs → cs.length ≤ 64 := fun s ord hr hpk cs hch => by
      have hi := hr.fi hg.ends hc (by omega)
      obtain ⟨v, hv, he, hbv, _⟩ := pick_some (h := h) (ta := ta) (C := s.1) (B := s.2.2) (p := p) (q := q) (n := n) (by rw [hpk]; omega)
      rw [hpk] at he
      obtain rfl : t = v := by omega
      obtain ⟨cs', h1, _, h3, _⟩ := hi.way hg hc (v := (t : Int)) (by omega) (by omega) (hi.wt t hv hbv).1
      rw [hch.unique h1]
      exact h3
    have HWAY := Lib.hid hway
    clear hway
    have KRUN := Lib.hid krun
    have KRUN0 := Lib.hid krun0
    clear krun krun0 hbad hs hss hst hhl hx hy hz hC hg hc hlk hhn htn
    go_enter Try.func8, Try.ntmps8
    go_wp2_with fail
    refine (two_any _).mono ?_
    rintro e w1 ⟨g, rfl, own1, hb1⟩
    have B1 := HB0.out.trans (hb1.mono (by simp))
    have Z1 : w.heap.size + 1 + 1 ≤ w1.heap.size := by have := B1.size; simpa using this
    clear hb1
    go_wp2_with fail
    refine (one_any _).mono ?_
    rintro e w1b ⟨rfl, hb1⟩
    have hk1 : Below w1.heap.size w1 w1b := ((Below.refl _ _).alloc (Nat.le_refl _) (.cells #[.int .i64 0, .int .i64 0] 3)).trans (hb1.mono (by simp))
    have own1b := own1.keep hk1
    have si1 := ((sl_new' (sz := 1) (cell := ci) (by decide) w1 #[.int .i64 0, .int .i64 0] 3 [0, 0] rfl rfl).keep hb1 (Nat.le_refl _)).more hb1.size
    have B1b := (B1.alloc Z1 (.cells #[.int .i64 0, .int .i64 0] 3)).trans (hb1.mono (by simp; omega))
    have Z1b : w.heap.size + 1 + 1 ≤ w1b.heap.size := by have := B1b.size; simpa using this
    clear hb1 own1 B1 Z1 hk1
    go_wp2_with fail
    refine (KEY0.out _ _ (own1b.alloc _).sl.2 _ _ ((si1.keep ((Below.refl _ _).alloc (Nat.le_refl _) (.cells #[.int .i64 0, .int .i64 0] 3)) (Nat.le_refl _)).more (by simp)) _ _ (sl_new' (by decide) w1b #[.int .i64 0, .int .i64 0] _ _ (by simp) rfl)).mono ?_
    rintro e w2 ⟨rfl, hb2⟩
    have B2 := (B1b.alloc Z1b (.cells #[.int .i64 0, .int .i64 0] 3)).trans (hb2.mono (by simp; omega))
    have Z2 : w.heap.size + 1 + 1 ≤ w2.heap.size := by have := B2.size; simpa using this
    have B3 := B2.alloc Z2 (.cells #[.slice none 0 0, .int .i64 0, .slice none 0 0] 45)
    clear hb2 own1b si1 B1b Z1b B2 Z2
    obtain ⟨q0, q1, r0, r1, Z3, sg, sh, H3⟩ := HK.out _ B3
    go_wp2_with fail
    refine (KRUN0.out _ sg sh (HKT.out _ H3)).mono ?_
    rintro e w4 hsays
    obtain ⟨A3, m3, c3, co3, A4, k4, c4, xe, rfl, hb4, hcase⟩ := fsays_first hsays
    clear hsays
    have B4 := B3.trans (hb4.mono Z3)
    have Z4 := (HK.out _ B4).2.2.2.2.1
    have B5 := B4.alloc Z4 (.cells #[.slice A3 m3 c3, .int .i64 co3, .slice A4 k4 c4] 45)
    clear q0 q1 r0 r1 sg sh Z3 H3 hb4 B3 B4
    rcases hcase with hxe | ⟨rfl, s, ord, pa, HFR, HPI, HLT, HCH, o1, o2, HPL, HOL, HCO⟩
    · have H5 := (HK.out _ B5).2.2.2.2.2.2.2
      clear B5
      go_wp2
      go_ret
      exact ⟨rfl, H5⟩
    · obtain ⟨q0, q1, r0, r1, Z5, sg, sh, H5⟩ := HK.out _ B5
      have hfb := heap_alloc_new w4 (.cells #[.slice A3 m3 c3, .int .i64 co3, .slice A4 k4 c4] 45)
      have oa1 := o1.alloc (.cells #[.slice A3 m3 c3, .int .i64 co3, .slice A4 k4 c4] 45)
      have oa2 := o2.alloc (.cells #[.slice A3 m3 c3, .int .i64 co3, .slice A4 k4 c4] 45)
      have hk1 := HOL.out
      have hk2 := HLT.out
      have hk0 : ((k4 : Int) == 0) = false := beq_eq_false_iff_ne.2 (by omega)
      have HFB := Lib.hid hfb
      have OA1 := Lib.hid oa1
      have OA2 := Lib.hid oa2
      clear hfb oa1 oa2 o1 o2
      go_wp2_with fail
      refine (KRUN.out k4 _ sg sh (HKT.out _ H5) (by omega)).mono ?_
      rintro e w6 hsays
      obtain ⟨A5, c5, A6, c6, he, p1, p2, hb6⟩ := fsays_again HFR.out HPI.out HCH.out (by omega) hsays
      rw [HPL.out, HOL.out, ← HCO.out] at he
      rw [HPL.out] at p1
      rw [HOL.out] at p2
      subst he
      clear hsays
      have B6 := B5.trans (hb6.mono Z5)
      have Z6 := (HK.out _ B6).2.2.2.2.1
      have B7 := B6.alloc Z6 (.cells #[.slice A5 m3 c5, .int .i64 co3, .slice A6 k4 c6] 45)
      have hfa := blk_alloc (blk_below HFB.out hb6 (by simp)) (.cells #[.slice A5 m3 c5, .int .i64 co3, .slice A6 k4 c6] 45)
      have hfc := heap_alloc_new w6 (.cells #[.slice A5 m3 c5, .int .i64 co3, .slice A6 k4 c6] 45)
      have oa1 := (OA1.out.keep hb6).alloc (.cells #[.slice A5 m3 c5, .int .i64 co3, .slice A6 k4 c6] 45)
      have oa2 := (OA2.out.keep hb6).alloc (.cells #[.slice A5 m3 c5, .int .i64 co3, .slice A6 k4 c6] 45)
      have oc1 := p1.alloc (.cells #[.slice A5 m3 c5, .int .i64 co3, .slice A6 k4 c6] 45)
      have oc2 := p2.alloc (.cells #[.slice A5 m3 c5, .int .i64 co3, .slice A6 k4 c6] 45)
      clear q0 q1 r0 r1 sg sh Z5 H5 hb6 B5 B6 Z6 p1 p2 HFB OA1 OA2
      go_upto_region 9 with fail
      obtain ⟨gA, hgA⟩ : ∃ gA, gA = w4.heap.size := ⟨_, rfl⟩
      obtain ⟨gC, hgC⟩ : ∃ gC, gC = w6.heap.size := ⟨_, rfl⟩
      rw [← hgA] at hfa ⊢
      rw [← hgC] at hfc ⊢
      generalize w6.alloc (.cells #[.slice A5 m3 c5, .int .i64 co3, .slice A6 k4 c6] 45) = w7 at B7 hfa hfc oa1 oa2 oc1 oc2 ⊢
      clear hgA hgC
      have hwi := wi_spec k k4 (by omega) (by omega)
      have kwi := fun W => within_any k k4 (by omega) (by omega) W
      obtain ⟨kk, hkk⟩ : ∃ kk, wi k k4 = kk := ⟨_, rfl⟩
      rw [hkk] at hwi kwi
      obtain ⟨_, hwi2⟩ := hwi
      obtain ⟨q0, q1, r0, r1, Z7, sg, sh, H7⟩ := HK.out _ B7
      have kless := fun W (hW : Below w7.heap.size w7 W) => (KRUN.out kk W ((sg.keep hW (Nat.le_refl _)).more hW.size) ((sh.keep hW (Nat.le_refl _)).more hW.size) (HKT.out W (H7.trans (hW.mono H7.size))) (by omega)).mono (fun e W' hh => fsays_less HFR.out HPI.out (by omega) hh)
      have KWI := Lib.hid kwi
      have KLESS := Lib.hid kless
      have BD := Lib.hid (Below.refl w7.heap.size w7).drew
      have BFd := Lib.hid ((Below.refl w7.heap.size w7).alloc (Nat.le_refl _) (.cells #[.slice none 0 0, .int .i64 0, .slice none 0 0] 45)).drew
      have rfd : (w7.alloc (.cells #[.slice none 0 0, .int .i64 0, .slice none 0 0] 45)).drew.heap[w7.heap.size]? = some (.cells #[.slice none 0 0, .int .i64 0, .slice none 0 0] 45 (0, 0)) := heap_alloc_new w7 (.cells #[.slice none 0 0, .int .i64 0, .slice none 0 0] 45)
      have RFd := Lib.hid rfd
      have z70 : w.heap.size < w7.heap.size := by omega
      have z71 : w.heap.size + 1 < w7.heap.size := by omega
      have HFA := Lib.hid hfa
      have HFC := Lib.hid hfc
      have OA1 := Lib.hid oa1
      have OA2 := Lib.hid oa2
      have OC1 := Lib.hid oc1
      have OC2 := Lib.hid oc2
      clear kwi kless rfd hfa hfc oa1 oa2 oc1 oc2 hkk sg sh
      go_cut [23] from 68 to 80 (fun s23 wx => s23 = .int .i64 8 ∧ Hid (Below w7.heap.size w7 wx))
      case first =>
        go_region_held3 (fun w' => w'.cell? ⟨w.heap.size, 0, none⟩ = some (.int .i64 n) ∧ w'.cell? ⟨w.heap.size, 1, none⟩ = some (.slice A l.length c) ∧ w'.cell? ⟨w.heap.size + 1, 0, none⟩ = some (.int .i64 p) ∧ w'.cell? ⟨w.heap.size + 1, 1, none⟩ = some (.int .i64 q))
          (first
            | go_keep
            | (go_split_ands
               exact ⟨far3 x0 (by omega) _ _ _, far3 x1 (by omega) _ _ _, far3 x2 (by omega) _ _ _, far3 x3 (by omega) _ _ _⟩)
            | (go_split_ands
               exact ⟨x0, x1, x2, x3⟩))
          (first
            | (go_at_call 34; refine (KWI.out _).mono ?_; rintro e wx ⟨rfl, rfl⟩)
            | (go_at_call 33; refine (KLESS.out _ (by with_reducible exact BD.out)).mono ?_; go_must (rintro e w8 ⟨rfl, hb8⟩; have BW := BD.out.trans (hb8.mono BD.out.size); obtain ⟨x0, x1, x2, x3, _⟩ := HK.out _ (B7.trans (BW.mono Z7))))
            | (go_at_call 33; refine (KLESS.out _ (by with_reducible exact BFd.out)).mono ?_; go_must (rintro e w8 ⟨rfl, hb8⟩; have BW := BFd.out.trans (hb8.mono BFd.out.size); have hr8 := blk_below RFd.out hb8 (by simp); obtain ⟨d0, d1, d2, e0, e1, e2⟩ := fnd_cells hr8; have hR8 := lt_of_block hr8; obtain ⟨x0, x1, x2, x3, _⟩ := HK.out _ (B7.trans (BW.mono Z7)))))
        all_goals
          try simp only [Act.put, List.getElem_toArray, List.getElem_cons_succ, List.getElem_cons_zero, List.setIfInBounds_toArray, List.set_cons_zero, List.set_cons_succ]
          go_wp2_with fail
          go_meet
          first
            | exact ⟨rfl, Lib.hid (BW.alloc BW.size _)⟩
            | exact ⟨rfl, Lib.hid (((BW.setCell (Nat.le_refl _) _).setCell (Nat.le_refl _) _).setCell (Nat.le_refl _) _)⟩
      case rest =>
        obtain ⟨rfl, HBC⟩ := hcut
        have hfa := blk_below HFA.out HBC.out (lt_of_block HFA.out)
        have hfc := blk_below HFC.out HBC.out (lt_of_block HFC.out)
        have oa1 := OA1.out.keep HBC.out
        have oa2 := OA2.out.keep HBC.out
        have oc1 := OC1.out.keep HBC.out
        have oc2 := OC2.out.keep HBC.out
        have H9 := H7.trans (HBC.out.mono H7.size)
        have hm64 : m3 ≤ 9223372036854775807 := by
          have h8 := HWAY.out s ord HFR.out HPI.out _ HCH.out
          rw [List.length_reverse, HPL.out] at h8
          omega
        have ksf := found_same A5 A3 A6 A4 m3 m3 c5 c3 k4 k4 c6 c4 pa pa (ord ++ [(t : Int)]) (ord ++ [(t : Int)]) co3 co3 wc oc1.sl.2 oa1.sl.2 HPL.out HPL.out hm64 oc2.sl.2 oa2.sl.2 (by rw [List.length_append, List.length_singleton]; exact HOL.out) (by rw [List.length_append, List.length_singleton]; exact HOL.out) (by omega) rfl rfl rfl
        obtain ⟨y0, y1, y2, _⟩ := fnd_cells hfa
        obtain ⟨u0, u1, u2, _⟩ := fnd_cells hfc
        have ga := lt_of_block hfa
        have gc := lt_of_block hfc
        have KSF := Lib.hid ksf
        clear hfa hfc oa1 oa2 oc1 oc2 ksf q0 q1 r0 r1 hm64
        go_wp2_with fail
        refine KSF.out.mono ?_
        rintro e w10 ⟨rfl, hb10⟩
        have H10 := H9.trans (hb10.mono H9.size)
        clear y0 y1 y2 u0 u1 u2 hb10
        go_wp2
        go_ret
        exact ⟨rfl, H10⟩

theorem own : ownKnob Try.prog.godebug = none := by kernel_rfl
theorem laidOut : laidOutB Try.prog = true := by kernel_rfl

set_option maxRecDepth 100000 in
theorem lifted (os : Os) (started : os.Started) (H : Type) (enc : TypeId × Value → H) :
    ReturnsInHanded {} Try.checked os 8 .any (Rows.focalMoreSpec.pre6 enc Try.prog Try.f8 Rows.focalMoreRow.domain false) (Rows.focalMoreSpec.post enc Try.prog Try.f8 false true false false) := by
  refine returnsInHanded_of_change (C := Try.checked) own started (by kernel_rfl) Try.func8
    (ChangeSpec.witness6 (enc := enc) (C := Try.checked) false ⟨#[], #[.agg #[.int .i64 0, .slice none 0 0], .int .i64 0, .int .i64 0, .slice none 0 0, .agg #[.int .i64 0, .int .i64 0], .slice none 0 0, .int .i64 0], []⟩ 8 (by kernel_rfl) (by kernel_rfl) (by kernel_rfl) (by kernel_rfl)) ?_
  intro W base args ds gs before hval0 hW hcnd _
  have hval : ∀ (j : Nat) t v, Try.f8.params[j]? = some t → args[j]? = some v → Value.okWide Try.prog W .any base t v := hval0
  have hW' := hW
  obtain ⟨p, q, hA0, hV, rfl, hfz, hnd⟩ := hW
  have hA : DataW.TrodAll enc Try.prog W 0 (fun _ => true) true Try.f8.params.toList args.toList ds p := hA0
  rw [Try.params8] at hA hval
  obtain ⟨v0, vs0, d0, ds0, p0, q0, hargs, rfl, rfl, h0, r0⟩ := trodAll_cons hA
  obtain ⟨v1, vs1, d1, ds1, p1, q1, rfl, rfl, rfl, h1, r1⟩ := trodAll_cons r0
  obtain ⟨v2, vs2, d2, ds2, p2, q2, rfl, rfl, rfl, h2, r2⟩ := trodAll_cons r1
  obtain ⟨v3, vs3, d3, ds3, p3, q3, rfl, rfl, rfl, h3, r3⟩ := trodAll_cons r2
  obtain ⟨v4, vs4, d4, ds4, p4, q4, rfl, rfl, rfl, h4, r4⟩ := trodAll_cons r3
  obtain ⟨v5, vs5, d5, ds5, p5, q5, rfl, rfl, rfl, h5, r5⟩ := trodAll_cons r4
  obtain ⟨v6, vs6, d6, ds6, p6, q6, rfl, rfl, rfl, h6, r6⟩ := trodAll_cons r5
  obtain ⟨rfl, rfl, rfl⟩ := trodAll_nil r6
  obtain rfl : args = #[v0, v1, v2, v3, v4, v5, v6] := by cases args; simp_all
  obtain ⟨rfl, rfl⟩ := trodVars_none hV
  obtain ⟨N0, A0, c0, l0, dd0, rfl, hN0, hG0, hb0, rfl, hd0⟩ := open_net Try.underlying32 (by kernel_rfl) (by kernel_rfl) Try.underlying3 Try.underlying30 Try.underlying37 (by kernel_rfl) (by kernel_rfl) Try.underlying3 Try.underlying3 Try.underlying3 (hval 0 32 v0 rfl rfl) h0
  obtain ⟨a1, rfl, rfl, rfl, wa1⟩ := open_int Try.underlying3 (hval 1 3 v1 rfl rfl) h1
  obtain ⟨a2, rfl, rfl, rfl, wa2⟩ := open_int Try.underlying3 (hval 2 3 v2 rfl rfl) h2
  obtain ⟨A3, c3, l3, rfl, hG3, hd3, hb3⟩ := open_sl1 Try.underlying22 Try.underlying3 (by kernel_rfl) (hval 3 22 v3 rfl rfl) h3
  obtain ⟨a4, b4, rfl, rfl, rfl, ha4, hb4⟩ := open_ii Try.underlying54 (by kernel_rfl) (by kernel_rfl) Try.underlying3 Try.underlying3 (hval 4 54 v4 rfl rfl) h4
  obtain ⟨A5, c5, l5, rfl, hG5, hd5, hb5⟩ := open_sl1 Try.underlying22 Try.underlying3 (by kernel_rfl) (hval 5 22 v5 rfl rfl) h5
  obtain ⟨a6, rfl, rfl, rfl, wa6⟩ := open_int Try.underlying3 (hval 6 3 v6 rfl rfl) h6
  refine (walk W N0 A0 c0 l0 hG0 a1 (wf_bd wa1) a2 (wf_bd wa2) A3 c3 l3 hG3 a4 b4 ha4 hb4 A5 c5 l5 hG5 a6 (wf_bd wa6)).mono fun e W' ⟨he, hB⟩ => ?_
  subst he
  exact ⟨_, rfl, post_of_law laidOut rfl Try.underlying4 rfl (by intro t ht; rw [Try.params8] at ht; simp at ht; rcases ht with rfl | rfl | rfl | rfl | rfl | rfl | rfl <;> exact ⟨by kernel_rfl, of_decide_eq_true (by kernel_rfl)⟩) hW' rfl hB⟩

theorem holds : Rows.FocalMoreSaid :=
  OpenClaim.holds_of_wide 8 Try.f8 rfl rfl rfl rfl rfl rfl rfl ⟨rfl, rfl, rfl, rfl, rfl⟩ rfl rfl rfl rfl rfl (by kernel_rfl) Try.func8 (by kernel_rfl)
    (of_decide_eq_true (by kernel_rfl)) (by unfold Func.isWrapper; first | (rw [if_pos (by decide +kernel)]; kernel_rfl) | (rw [if_neg (by decide +kernel)]; exact ⟨rfl, rfl⟩))
    (fun os started H enc _ => lifted os started H enc)
#print axioms holds
end Go.Proofs.Ytbgkkmcobijkgaa.FocalMoreLaw
