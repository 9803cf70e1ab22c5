/- For every net, two places, list of guesses and weight: WeighOne answers true (with the weight 1 it is the search without a weight; without guesses the weight makes no difference), and the arguments read as before. No condition. -/
import Derived.Test.YtbgkkmcobijkgaaRows
import Derived.Test.YtbgkkmcobijkgaaVOpen
import Derived.Test.YtbgkkmcobijkgaaVWeighSame
import Derived.Test.YtbgkkmcobijkgaaVStdCI
import Derived.IntWalk
namespace Go.Proofs.Ytbgkkmcobijkgaa.WeighOneLaw
open Go.ChangeShapes Go.WideShapes Go.ChangeAt Go.RowKit Go.Proofs.Ytbgkkmcobijkgaa NetLaw BellLaw DijkLaw HeurLaw StarLaw RatioLaw Go.Proofs.Ytbgkkmcobijkgaa.Net Go.Proofs.Ytbgkkmcobijkgaa.Dijk Go.Proofs.Ytbgkkmcobijkgaa.DijkTwo Go.Proofs.Ytbgkkmcobijkgaa.Refs Go.Proofs.Ytbgkkmcobijkgaa.Std Go.Proofs.Ytbgkkmcobijkgaa.Heur Go.Proofs.Ytbgkkmcobijkgaa.StarF
set_option linter.unusedSimpArgs false
set_option linter.unusedVariables false
set_option maxRecDepth 100000 in
set_option maxHeartbeats 16000000 in
theorem walk (w : World) (N : Int) (A : Option Addr) (c : Nat) (l : List E) (hA : Arg w 3 ce A c l) (a : Int) (ha : -9223372036854775808 ≤ a ∧ a ≤ 9223372036854775807) (b : Int) (hb : -9223372036854775808 ≤ b ∧ b ≤ 9223372036854775807) (Ah : Option Addr) (ch : Nat) (h : List Int) (hAh : Arg w 1 ci Ah ch h) (p q : Int) (hp : -9223372036854775808 ≤ p ∧ p ≤ 9223372036854775807) (hq : -9223372036854775808 ≤ q ∧ q ≤ 9223372036854775807) :
    Calls Try.prog 6 #[.agg #[.int .i64 N, .slice A l.length c], .int .i64 a, .int .i64 b, .slice Ah h.length ch, .agg #[.int .i64 p, .int .i64 q]] w fun e w' => e = .returned (.bool true) ∧ Below w.heap.size w w' := by
  have hs := hA.sl
  have hss := hAh.sl
  have hll : l.length ≤ 9223372036854775807 := Nat.le_trans hA.cap hA.max
  have hhl : h.length ≤ 9223372036854775807 := Nat.le_trans hAh.cap hAh.max
  clear hA hAh ha hb hp hq
  have KEY0 := Lib.hid (fun W g hl A' ch hh => wtwo_run 3 2 (by decide +kernel) [0, 0] (.inr rfl) W g hl A' ch hh)
  have KEY1 := Lib.hid (fun W A A' c c' h h' => equal_int' A A' 2 2 c c' [0, 1] [0, 1] W.heap.size W.heap.size W h h' rfl rfl (by decide) true (by decide))
  have HK := Lib.hid (fun W hW => nbox2 (N := N) (p := p) (q := q) (c := c) (W := W) hs hss hW)
  have HB0 := Lib.hid (Below.refl (w.heap.size + 1 + 1) ((w.alloc (.cells #[.int .i64 N, .slice A l.length c] 32)).alloc (.cells #[.int .i64 p, .int .i64 q] 54)))
  have KRUNH := Lib.hid (fun W h1 h2 => run_form N a b A c l Ah ch h W h1 h2 hll hhl)
  have KRUNW := Lib.hid (fun W h1 h2 => wrun_form N a b A c l Ah ch h 1 1 W h1 h2 hll hhl)
  have KWGT := Lib.hid (fun W => weight_any p q W)
  obtain ⟨mN, hm1⟩ : ∃ mN, (if (64 : Int) < N then (64 : Int) else N) = mN := ⟨_, rfl⟩
  obtain ⟨zi, hm2⟩ : ∃ zi, (if (0 : Int) < mN then mN else (0 : Int)) = zi := ⟨_, rfl⟩
  have hz0 : 0 ≤ zi ∧ zi ≤ 64 := by
    have h1 := hm1
    have h2 := hm2
    split at h1 <;> split at h2 <;> omega
  obtain ⟨z, rfl⟩ := Int.eq_ofNat_of_zero_le hz0.1
  have hz64 : z ≤ 64 := by omega
  have hrl : (List.replicate z (0 : Int)).length = z := by simp
  have kruz := fun W Ah h1 h2 => run_form N a b A c l Ah z (List.replicate z 0) W h1 h2 hll (by omega)
  have kruw := fun W Ah h1 h2 => wrun_form N a b A c l Ah z (List.replicate z 0) p q W h1 h2 hll (by omega)
  rw [hrl] at kruz kruw
  have hmk : ∀ w, (Instr.makeSlice 22 (.int .i64 (z : Int)) (.int .i64 (z : Int))).run Try.prog w = .ok (.slice (some ⟨w.heap.size, 0, none⟩) z z) (w.alloc (.cells (madeCells #[.int .i64 0] z) 3)) :=
    run_make_row' (P := Try.prog) 22 3 (.int .i64 0) 8 Try.underlying22 (by kernel_rfl) rfl .i64 .i64 z (by omega) (by omega)
  have KRUZ := Lib.hid kruz
  have KRUWZ := Lib.hid kruw
  clear kruz kruw hrl hz0 hs hss
  go_enter Try.func6, Try.ntmps6
  go_wp2_with fail
  refine (two_any _).mono ?_
  rintro e w1 ⟨g, rfl, own1, hb1⟩
  have B1 := HB0.out.trans (hb1.mono (by simp))
  have Z1 : w.heap.size + 1 + 1 ≤ w1.heap.size := by have := B1.size; simpa using this
  clear hb1
  go_wp2_with fail
  refine (KEY0.out _ _ (own1.alloc _).sl.2 _ _ (sl_new' (by decide) w1 #[.int .i64 0, .int .i64 0] _ _ (by simp) rfl)).mono ?_
  rintro e w2 ⟨A1, c1, A2, c2, rfl, o1, o2, hb2⟩
  have B2 := (B1.alloc Z1 (.cells #[.int .i64 0, .int .i64 0] 3)).trans (hb2.mono (by simp; omega))
  have Z2 : w.heap.size + 1 + 1 ≤ w2.heap.size := by have := B2.size; simpa using this
  clear hb2 own1 B1 Z1
  go_wp2_with fail
  refine (KEY1.out _ _ _ _ _ ((o2.alloc _).alloc _).sl.2 (sl_new' (by decide) (w2.alloc (.cells #[.slice A1 2 c1, .int .i64 5, .slice A2 2 c2] 45)) #[.int .i64 0, .int .i64 1] 3 [0, 1] (by simp) rfl)).mono ?_
  rintro e w3 ⟨rfl, k3, rfl⟩
  have B3 := below_drewN ((B2.alloc Z2 (.cells #[.slice A1 2 c1, .int .i64 5, .slice A2 2 c2] 45)).alloc (by simp; omega) (.cells #[.int .i64 0, .int .i64 1] 3)) k3
  obtain ⟨w3, hw3⟩ : ∃ w3, w3 = (((w2.alloc (.cells #[.slice A1 2 c1, .int .i64 5, .slice A2 2 c2] 45)).alloc (.cells #[.int .i64 0, .int .i64 1] 3)).drewN k3) := ⟨_, rfl⟩
  rw [← hw3] at B3 ⊢
  clear hw3 o1 o2 B2 Z2
  obtain ⟨q0, q1, r0, r1, Z3, sg, sh, H3⟩ := HK.out _ B3
  go_wp2_with fail
  refine (KRUNH.out _ sg sh).mono ?_
  rintro e w4 ⟨A3, m3, c3, co3, A4, k4, c4, xh, rfl, hb4, HSAYH⟩
  have B4 := B3.trans (hb4.mono Z3)
  have Z4 := (HK.out _ B4).2.2.2.2.1
  have B5 := B4.alloc Z4 (.cells #[.slice A3 m3 c3, .int .i64 co3, .slice A4 k4 c4] 45)
  have hfh := heap_alloc_new w4 (.cells #[.slice A3 m3 c3, .int .i64 co3, .slice A4 k4 c4] 45)
  have says5 := says_alloc HSAYH.out (Below.refl _ _) (.cells #[.slice A3 m3 c3, .int .i64 co3, .slice A4 k4 c4] 45)
  have z45' : w4.heap.size < (w4.alloc (.cells #[.slice A3 m3 c3, .int .i64 co3, .slice A4 k4 c4] 45)).heap.size := by simp
  have b45 := (Below.refl w4.heap.size w4).alloc (Nat.le_refl _) (.cells #[.slice A3 m3 c3, .int .i64 co3, .slice A4 k4 c4] 45)
  clear q0 q1 r0 r1 sg sh Z3 H3 hb4 B4 HSAYH B3
  go_upto_region 5 with fail
  generalize w4.alloc (.cells #[.slice A3 m3 c3, .int .i64 co3, .slice A4 k4 c4] 45) = w5 at B5 hfh says5 z45' b45 ⊢
  have HFH := Lib.hid hfh
  have SAYH := Lib.hid says5
  clear hfh says5
  obtain ⟨q0, q1, r0, r1, Z5, sg, sh, _⟩ := HK.out _ B5
  have z5 : w.heap.size < w5.heap.size := by omega
  have BD := Lib.hid (Below.refl w5.heap.size w5).drew
  have BFd := Lib.hid ((Below.refl w5.heap.size w5).alloc (Nat.le_refl _) (.cells #[.slice none 0 0, .int .i64 0, .slice none 0 0] 45)).drew
  have rfd : (w5.alloc (.cells #[.slice none 0 0, .int .i64 0, .slice none 0 0] 45)).drew.heap[w5.heap.size]? = some (.cells #[.slice none 0 0, .int .i64 0, .slice none 0 0] 45 (0, 0)) := heap_alloc_new w5 (.cells #[.slice none 0 0, .int .i64 0, .slice none 0 0] 45)
  have RFd := Lib.hid rfd
  have krg := fun W (h : Below w5.heap.size w5 W) => KRUNW.out W ((sg.keep h (Nat.le_refl _)).more h.size) ((sh.keep h (Nat.le_refl _)).more h.size)
  have KRG := Lib.hid krg
  have KONE := Lib.hid (fun W => one_any W)
  clear rfd krg
  try go_upto_region 5 with fail
  go_cut [16, 15] from 43 to 50 (fun sE sF wx => ∃ (R : Nat) (xe : Int) (A1 : Option Addr) (m c1 : Nat) (co : Int) (A2 : Option Addr) (k c2 : Nat), sE = .int .i64 xe ∧ sF = .pointer (some ⟨R, 0, none⟩) ∧ Hid (wx.heap[R]? = some (.cells #[.slice A1 m c1, .int .i64 co, .slice A2 k c2] 45 (0, 0))) ∧ Hid (WRunSays N a b l h 1 1 w5 (.returned (.tuple #[.agg #[.slice A1 m c1, .int .i64 co, .slice A2 k c2], .int .i64 xe])) wx) ∧ w5.heap.size ≤ R)
  case first =>
    go_region_held3 (fun w' => w'.cell? ⟨w.heap.size, 0, none⟩ = some (.int .i64 N) ∧ w'.cell? ⟨w.heap.size, 1, none⟩ = some (.slice A l.length c))
      (first
        | go_keep
        | (go_split_ands
           exact ⟨far3 x0 (by omega) _ _ _, far3 x1 (by omega) _ _ _⟩)
        | (go_split_ands
           exact ⟨x0, x1⟩))
      (first
        | (go_at_call 28; refine (KONE.out _).mono ?_; rintro e wo ⟨rfl, hbo⟩; have BO : Below w5.heap.size w5 wo := (by with_reducible exact BFd.out.trans (hbo.mono BFd.out.size)); go_must (have hro := blk_below RFd.out hbo (by simp); obtain ⟨x0, x1, _⟩ := HK.out _ (B5.trans (BO.mono (by omega))); have zo := BO.size))
        | (go_at_call 28; refine (KONE.out _).mono ?_; rintro e wo ⟨rfl, hbo⟩; have BO : Below w5.heap.size w5 wo := (by with_reducible exact BD.out.trans (hbo.mono BD.out.size)); go_must (obtain ⟨x0, x1, _⟩ := HK.out _ (B5.trans (BO.mono (by omega))); have zo := BO.size))
        | (go_at_call 27; refine (KRG.out _ (by with_reducible exact BO)).mono ?_; rintro e w6 ⟨A1, m, c1, co, A2, k, c2, xe, rfl, hb6, HSAYS⟩; have hr6 := blk_below hro hb6 (lt_of_block hro); go_must (have BW := Lib.hid BO; obtain ⟨d0, d1, d2, e0, e1, e2⟩ := fnd_cells hr6; have hR6 := lt_of_block hr6; obtain ⟨x0, x1, _⟩ := HK.out _ (B5.trans ((BO.trans (hb6.mono BO.size)).mono (by omega)))))
        | (go_at_call 27; refine (KRG.out _ (by with_reducible exact BO)).mono ?_; go_must (rintro e w6 ⟨A1, m, c1, co, A2, k, c2, xe, rfl, hb6, HSAYS⟩; have BW := Lib.hid BO; have hz6 := hb6.size; obtain ⟨x0, x1, _⟩ := HK.out _ (B5.trans ((BO.trans (hb6.mono BO.size)).mono (by omega)))))
        | (go_at_call 27; refine (KRG.out _ (by with_reducible exact BO.alloc BO.size _)).mono ?_; go_must (rintro e w6 ⟨A1, m, c1, co, A2, k, c2, xe, rfl, hb6, HSAYS⟩; have BOA := BO.alloc BO.size (.cells #[.slice none 0 0, .int .i64 0, .slice none 0 0] 45); have BW := Lib.hid BOA; have hr6 := blk_below (heap_alloc_new wo (.cells #[.slice none 0 0, .int .i64 0, .slice none 0 0] 45)) hb6 (by simp); obtain ⟨d0, d1, d2, e0, e1, e2⟩ := fnd_cells hr6; have hR6 := lt_of_block hr6; obtain ⟨x0, x1, _⟩ := HK.out _ (B5.trans ((BOA.trans (hb6.mono BOA.size)).mono (by omega))))))
    all_goals
      try simp only [Act.put, List.getElem_toArray, List.getElem_cons_succ, List.getElem_cons_zero, List.setIfInBounds_toArray, List.set_cons_zero, List.set_cons_succ]
      go_wp2_with fail
      go_meet
      first
        | exact ⟨_, xe, A1, m, c1, co, A2, k, c2, rfl, rfl, Lib.hid (heap_alloc_new _ _), Lib.hid (wsays_alloc HSAYS.out BW.out _), Nat.le_trans BW.out.size hz6⟩
        | exact ⟨_, xe, A1, m, c1, co, A2, k, c2, rfl, rfl, Lib.hid (fnd_set hr6 _ _ _), Lib.hid (wsays_set HSAYS.out hr6 BW.out (by first | exact Nat.le_refl _ | exact BO.size) _ _ _), by first | exact Nat.le_refl _ | exact BO.size⟩
  case rest =>
  obtain ⟨R, xe, A1, m, c1, co, A2, k, c2, rfl, rfl, HRB, HSAYS, hR⟩ := hcut
  clear BD BFd RFd KRG KONE
  have BC := HSAYS.out.2.2.2
  have b4c := b45.trans (BC.mono (Nat.le_of_lt z45'))
  have hzR : w.heap.size + 1 + 1 ≤ R := by omega
  have hR4 : w4.heap.size < R := by omega
  have B9 := B5.trans (BC.mono Z5)
  have hR9 := lt_of_block HRB.out
  have hf9 := blk_below HFH.out BC z45'
  have h49 := lt_of_block hf9
  obtain ⟨hxx, hcc, pa, o, hal⟩ := both SAYH.out HSAYS.out (by decide +kernel) (fun n D ord v _ _ => nx_w1 n h D ord v)
  subst hxx hcc
  have ha1 := hal.a1.keep BC
  have ha2 := hal.a2.keep BC
  obtain ⟨c0', c1', c2', _⟩ := fnd_cells hf9
  obtain ⟨d0', d1', d2', _⟩ := fnd_cells HRB.out
  have hlo := hal.lo
  have ksf := found_same A3 A1 A4 A2 m3 m c3 c1 k4 k c4 c2 pa pa o o co3 co3 wc ha1.sl.2 hal.b1.sl.2 hal.em hal.em' (by omega) ha2.sl.2 hal.b2.sl.2 hal.ek hal.ek' (by omega) rfl rfl rfl
  have hxn : (xh != xh) = false := by simp
  have KSF := Lib.hid ksf
  have HF9 := Lib.hid hf9
  have Z9 := (HK.out _ B9).2.2.2.2.1
  clear q0 q1 r0 r1 sg sh B5 Z5 z5 z45' hf9 ksf hal ha1 ha2 hlo SAYH HFH
  go_wp2_with fail
  refine KSF.out.mono ?_
  rintro e w6 ⟨rfl, hb6⟩
  have B10 := B9.trans (hb6.mono Z9)
  have hf10 := blk_below HF9.out hb6 h49
  have hr10 := blk_below HRB.out hb6 hR9
  have b46 := b4c.trans (hb6.mono b4c.size)
  clear c0' c1' c2' d0' d1' d2' KSF hb6 hxn B9 Z9 b4c b45
  obtain ⟨q0, q1, r0, r1, Z10, sg, sh, H10⟩ := HK.out _ B10
  have z60 : w.heap.size < w6.heap.size := by omega
  have z61 : w.heap.size + 1 < w6.heap.size := by omega
  have HF10 := Lib.hid hf10
  have HR10 := Lib.hid hr10
  have h410 := lt_of_block hf10
  have hR10 := lt_of_block hr10
  clear hf10 hr10
  go_wp2_with fail
  refine (KWGT.out _).mono ?_
  rintro e w7 ⟨rfl, hb7⟩
  have B11 := B10.trans (hb7.mono Z10)
  have hf11 := blk_below HF10.out hb7 h410
  have hr11 := blk_below HR10.out hb7 hR10
  have b47 := b46.trans (hb7.mono b46.size)
  clear q0 q1 r0 r1 sg sh H10 hb7 B10 Z10 z60 z61 h410 hR10 b46
  obtain ⟨q0, q1, r0, r1, Z11, sg, sh, H11⟩ := HK.out _ B11
  have z70 : w.heap.size < w7.heap.size := by omega
  have z71 : w.heap.size + 1 < w7.heap.size := by omega
  have HF11 := Lib.hid hf11
  have HR11 := Lib.hid hr11
  have h411 := lt_of_block hf11
  have hR11 := lt_of_block hr11
  have hz4 : w.heap.size + 1 + 1 ≤ w4.heap.size := Z4
  clear hf11 hr11
  by_cases hy : wgt p q = 0
  · rw [hy]
    obtain ⟨⟨q1', _, _, _, _⟩, _⟩ := wgt_zero.1 hy
    have hnx := fun (n : Nat) (D ord : List Int) (v : Int) => nx_w0 (p := p) q1' n z D ord v
    have HNX0 := Lib.hid hnx
    have HY := Lib.hid hy
    have own0 := Grid.own_made z w7.heap.size w7 (Nat.le_refl _) hz64 rfl
    have BZ := B11.alloc Z11 (.cells (madeCells #[.int .i64 0] z) 3)
    have hzb := (Below.refl w7.heap.size w7).alloc (Nat.le_refl _) (.cells (madeCells #[.int .i64 0] z) 3)
    have hf12 := blk_below HF11.out hzb h411
    have hr12 := blk_below HR11.out hzb hR11
    have hown8 : w7.heap.size < (w7.alloc (.cells (madeCells #[.int .i64 0] z) 3)).heap.size := by simp
    have OWN0 := Lib.hid own0
    have b48 := b47.alloc b47.size (.cells (madeCells #[.int .i64 0] z) 3)
    clear hnx hy own0 hzb sg sh H11 q1'
    go_upto_region 11 with fail
    generalize w7.alloc (.cells (madeCells #[.int .i64 0] z) 3) = w8 at BZ hf12 hr12 hown8 OWN0 b48 ⊢
    clear q0 q1 r0 r1 B11 Z11 z70 z71 HF11 HR11 h411 hR11
    obtain ⟨q0, q1, r0, r1, Z12, sg, sh, _⟩ := HK.out _ BZ
    have z80 : w.heap.size < w8.heap.size := by omega
    have sz8 := OWN0.out.sl.2
    have HF12 := Lib.hid hf12
    have HR12 := Lib.hid hr12
    have h412 := lt_of_block hf12
    have hR12 := lt_of_block hr12
    clear hf12 hr12
    go_wp2_with fail
    refine (KRUZ.out _ _ sg sz8).mono ?_
    rintro e w10 ⟨E1, em, e1, eo, E2, ek, e2, xz, rfl, hb10, SAYZ⟩
    have B13 := BZ.trans (hb10.mono Z12)
    have b410 := b48.trans (hb10.mono b48.size)
    have hf13 := blk_below HF12.out hb10 h412
    have hr13 := blk_below HR12.out hb10 hR12
    have sz10 := (sz8.keep hb10 (Nat.le_refl _)).more hb10.size
    have own10 := OWN0.out.keep hb10
    obtain ⟨c0', c1', c2', e0', e1', e2'⟩ := fnd_cells hf13
    have h413 := lt_of_block hf13
    have HF13 := Lib.hid hf13
    have HR13 := Lib.hid hr13
    have HB10 := Lib.hid hb10
    have OWN10 := Lib.hid own10
    clear q0 q1 r0 r1 Z12 sg sh sz8 hb10 hf13 hr13 z80 BZ sz10 own10
    go_upto_region 12 with fail
    have hset := fnd_set HF13.out (.slice E1 em e1) (.int .i64 eo) (.slice E2 ek e2)
    have hsetR := blk_far (blk_far (blk_far HR13.out (p := ⟨w4.heap.size, 0, none⟩) (by dsimp only; omega) (.slice E1 em e1)) (p := ⟨w4.heap.size, 1, none⟩) (by dsimp only; omega) (.int .i64 eo)) (p := ⟨w4.heap.size, 2, none⟩) (by dsimp only; omega) (.slice E2 ek e2)
    have says14 := says_set (w := w4) SAYZ.out HF13.out b48 (Nat.le_refl _) (.slice E1 em e1) (.int .i64 eo) (.slice E2 ek e2)
    have own14 := StarS.res_kept OWN10.out HF13.out (.slice E1 em e1) (.int .i64 eo) (.slice E2 ek e2)
    have B14 := ((B13.setCell Z4 (p := ⟨w4.heap.size, 0, none⟩) (.slice E1 em e1)).setCell Z4 (p := ⟨w4.heap.size, 1, none⟩) (.int .i64 eo)).setCell Z4 (p := ⟨w4.heap.size, 2, none⟩) (.slice E2 ek e2)
    have b411 := ((b410.setCell (p := ⟨w4.heap.size, 0, none⟩) (Nat.le_refl _) (.slice E1 em e1)).setCell (p := ⟨w4.heap.size, 1, none⟩) (Nat.le_refl _) (.int .i64 eo)).setCell (p := ⟨w4.heap.size, 2, none⟩) (Nat.le_refl _) (.slice E2 ek e2)
    generalize ((w10.setCell ⟨w4.heap.size, 0, none⟩ (.slice E1 em e1)).setCell ⟨w4.heap.size, 1, none⟩ (.int .i64 eo)).setCell ⟨w4.heap.size, 2, none⟩ (.slice E2 ek e2) = w11 at hset hsetR says14 own14 B14 b411 ⊢
    have HSET := Lib.hid hset
    have HSETR := Lib.hid hsetR
    have SAYZ11 := Lib.hid says14
    have hz4b := lt_of_block hset
    have hRb := lt_of_block hsetR
    have sz11 := own14.sl.2
    clear c0' c1' c2' e0' e1' e2' HF13 HR13 OWN10 hset hsetR says14 own14 B13 h413
    obtain ⟨q0, q1, r0, r1, Z14, sg, sh, _⟩ := HK.out _ B14
    have z80 : w.heap.size < w11.heap.size := by omega
    have z81 : w.heap.size + 1 < w11.heap.size := by omega
    go_wp2_with fail
    refine (KRUWZ.out _ _ sg sz11).mono ?_
    rintro e w12 ⟨F1, fm, f1, fo, F2, fk, f2, xw, rfl, hb12, SAYW⟩
    have B15 := B14.trans (hb12.mono Z14)
    have hf15 := blk_below HSET.out hb12 hz4b
    have hr15 := blk_below HSETR.out hb12 hRb
    obtain ⟨d0', d1', d2', g0', g1', g2'⟩ := fnd_cells hr15
    have hRc := lt_of_block hr15
    have h4c := lt_of_block hf15
    have HF15 := Lib.hid hf15
    have HR15 := Lib.hid hr15
    have HB12 := Lib.hid hb12
    clear q0 q1 r0 r1 Z14 sg sh sz11 hb12 hf15 hr15 z80 z81 B14
    go_upto_region 13 with fail
    have hset := fnd_set HR15.out (.slice F1 fm f1) (.int .i64 fo) (.slice F2 fk f2)
    have hsetF := blk_far (blk_far (blk_far HF15.out (p := ⟨R, 0, none⟩) (by dsimp only; omega) (.slice F1 fm f1)) (p := ⟨R, 1, none⟩) (by dsimp only; omega) (.int .i64 fo)) (p := ⟨R, 2, none⟩) (by dsimp only; omega) (.slice F2 fk f2)
    have says16 := wsays_set (w := w4) SAYW.out HR15.out b411 (by omega) (.slice F1 fm f1) (.int .i64 fo) (.slice F2 fk f2)
    obtain ⟨hxx, hcc, pb, ob, hal⟩ := both SAYZ11.out says16 HY.out (fun n D ord v _ _ => HNX0.out n D ord v)
    subst hxx hcc
    have ha1 := StarS.res_kept (hal.a1.keep HB12.out) HR15.out (.slice F1 fm f1) (.int .i64 eo) (.slice F2 fk f2)
    have ha2 := StarS.res_kept (hal.a2.keep HB12.out) HR15.out (.slice F1 fm f1) (.int .i64 eo) (.slice F2 fk f2)
    have hlo := hal.lo
    have B16 := ((B15.setCell hzR (p := ⟨R, 0, none⟩) (.slice F1 fm f1)).setCell hzR (p := ⟨R, 1, none⟩) (.int .i64 eo)).setCell hzR (p := ⟨R, 2, none⟩) (.slice F2 fk f2)
    have ksf := found_same E1 F1 E2 F2 em fm e1 f1 ek fk e2 f2 pb pb ob ob eo eo _ ha1.sl.2 hal.b1.sl.2 hal.em hal.em' (by omega) ha2.sl.2 hal.b2.sl.2 hal.ek hal.ek' (by omega) rfl rfl rfl
    generalize ((w12.setCell ⟨R, 0, none⟩ (.slice F1 fm f1)).setCell ⟨R, 1, none⟩ (.int .i64 eo)).setCell ⟨R, 2, none⟩ (.slice F2 fk f2) = w13 at hset hsetF ksf B16 ⊢
    obtain ⟨c0', c1', c2', _⟩ := fnd_cells hsetF
    obtain ⟨k0', k1', k2', _⟩ := fnd_cells hset
    have hz4d := lt_of_block hsetF
    have hRd := lt_of_block hset
    have H16 := (HK.out _ B16).2.2.2.2.2.2.2
    have hxe : (xz == xz) = true := by simp
    have KSF2 := Lib.hid ksf
    clear d0' d1' d2' g0' g1' g2' hset hsetF says16 ha1 ha2 hlo hal ksf B15 B16
    go_wp2_with fail
    refine KSF2.out.mono ?_
    rintro e w14 ⟨rfl, hb14⟩
    have H17 := H16.trans (hb14.mono H16.size)
    clear hb14 c0' c1' c2' k0' k1' k2'
    go_wp2
    go_ret
    exact ⟨rfl, H17⟩
  · have hne : (wgt p q != 0) = true := by rw [bne_iff_ne]; exact hy
    clear hy sg sh
    go_wp2
    go_ret
    exact ⟨rfl, H11⟩

theorem own : ownKnob Try.prog.godebug = none := by kernel_rfl
theorem laidOut : laidOutB Try.prog = true := by kernel_rfl

set_option maxRecDepth 100000 in
theorem lifted (os : Os) (started : os.Started) (H : Type) (enc : TypeId × Value → H) :
    ReturnsInHanded {} Try.checked os 6 .any (Rows.weighOneSpec.pre6 enc Try.prog Try.f6 Rows.weighOneRow.domain false) (Rows.weighOneSpec.post enc Try.prog Try.f6 false true false false) := by
  refine returnsInHanded_of_change (C := Try.checked) own started (by kernel_rfl) Try.func6
    (ChangeSpec.witness6 (enc := enc) (C := Try.checked) false ⟨#[], #[.agg #[.int .i64 0, .slice none 0 0], .int .i64 0, .int .i64 0, .slice none 0 0, .agg #[.int .i64 0, .int .i64 0]], []⟩ 8 (by kernel_rfl) (by kernel_rfl) (by kernel_rfl) (by kernel_rfl)) ?_
  intro W base args ds gs before hval0 hW hcnd _
  have hval : ∀ (j : Nat) t v, Try.f6.params[j]? = some t → args[j]? = some v → Value.okWide Try.prog W .any base t v := hval0
  have hW' := hW
  obtain ⟨p, q, hA0, hV, rfl, hfz, hnd⟩ := hW
  have hA : DataW.TrodAll enc Try.prog W 0 (fun _ => true) true Try.f6.params.toList args.toList ds p := hA0
  rw [Try.params6] at hA hval
  obtain ⟨v0, vs0, d0, ds0, p0, q0, hargs, rfl, rfl, h0, r0⟩ := trodAll_cons hA
  obtain ⟨v1, vs1, d1, ds1, p1, q1, rfl, rfl, rfl, h1, r1⟩ := trodAll_cons r0
  obtain ⟨v2, vs2, d2, ds2, p2, q2, rfl, rfl, rfl, h2, r2⟩ := trodAll_cons r1
  obtain ⟨v3, vs3, d3, ds3, p3, q3, rfl, rfl, rfl, h3, r3⟩ := trodAll_cons r2
  obtain ⟨v4, vs4, d4, ds4, p4, q4, rfl, rfl, rfl, h4, r4⟩ := trodAll_cons r3
  obtain ⟨rfl, rfl, rfl⟩ := trodAll_nil r4
  obtain rfl : args = #[v0, v1, v2, v3, v4] := by cases args; simp_all
  obtain ⟨rfl, rfl⟩ := trodVars_none hV
  obtain ⟨N0, A0, c0, l0, dd0, rfl, hN0, hG0, hb0, rfl, hd0⟩ := open_net Try.underlying32 (by kernel_rfl) (by kernel_rfl) Try.underlying3 Try.underlying30 Try.underlying37 (by kernel_rfl) (by kernel_rfl) Try.underlying3 Try.underlying3 Try.underlying3 (hval 0 32 v0 rfl rfl) h0
  obtain ⟨a1, rfl, rfl, rfl, wa1⟩ := open_int Try.underlying3 (hval 1 3 v1 rfl rfl) h1
  obtain ⟨a2, rfl, rfl, rfl, wa2⟩ := open_int Try.underlying3 (hval 2 3 v2 rfl rfl) h2
  obtain ⟨A3, c3, l3, rfl, hG3, hd3, hb3⟩ := open_sl1 Try.underlying22 Try.underlying3 (by kernel_rfl) (hval 3 22 v3 rfl rfl) h3
  obtain ⟨a4, b4, rfl, rfl, rfl, ha4, hb4⟩ := open_ii Try.underlying54 (by kernel_rfl) (by kernel_rfl) Try.underlying3 Try.underlying3 (hval 4 54 v4 rfl rfl) h4
  refine (walk W N0 A0 c0 l0 hG0 a1 (wf_bd wa1) a2 (wf_bd wa2) A3 c3 l3 hG3 a4 b4 ha4 hb4).mono fun e W' ⟨he, hB⟩ => ?_
  subst he
  exact ⟨_, rfl, post_of_law laidOut rfl Try.underlying4 rfl (by intro t ht; rw [Try.params6] at ht; simp at ht; rcases ht with rfl | rfl | rfl | rfl | rfl <;> exact ⟨by kernel_rfl, of_decide_eq_true (by kernel_rfl)⟩) hW' rfl hB⟩

theorem holds : Rows.WeighOneSaid :=
  OpenClaim.holds_of_wide 6 Try.f6 rfl rfl rfl rfl rfl rfl rfl ⟨rfl, rfl, rfl, rfl, rfl⟩ rfl rfl rfl rfl rfl (by kernel_rfl) Try.func6 (by kernel_rfl)
    (of_decide_eq_true (by kernel_rfl)) (by unfold Func.isWrapper; first | (rw [if_pos (by decide +kernel)]; kernel_rfl) | (rw [if_neg (by decide +kernel)]; exact ⟨rfl, rfl⟩))
    (fun os started H enc _ => lifted os started H enc)
#print axioms holds
end Go.Proofs.Ytbgkkmcobijkgaa.WeighOneLaw
