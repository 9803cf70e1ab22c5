/- For every net, two places and list of guesses: StarSpares answers true (with guesses that agree no place is looked from that is not without, but those that cost as much as the end), and the arguments read as before. No condition. -/
import Derived.Test.YtbgkkmcobijkgaaRows
import Derived.Test.YtbgkkmcobijkgaaVOpen
import Derived.Test.YtbgkkmcobijkgaaVStarUse
import Derived.Test.YtbgkkmcobijkgaaVStdCI
import Derived.IntWalk
namespace Go.Proofs.Ytbgkkmcobijkgaa.StarSparesLaw
open Go.ChangeShapes Go.WideShapes Go.ChangeAt Go.RowKit Go.Proofs.Ytbgkkmcobijkgaa NetLaw BellLaw DijkLaw HeurLaw StarLaw Go.Proofs.Ytbgkkmcobijkgaa.Net Go.Proofs.Ytbgkkmcobijkgaa.Dijk Go.Proofs.Ytbgkkmcobijkgaa.DijkTwo Go.Proofs.Ytbgkkmcobijkgaa.Refs Go.Proofs.Ytbgkkmcobijkgaa.Std Go.Proofs.Ytbgkkmcobijkgaa.Heur Go.Proofs.Ytbgkkmcobijkgaa.StarF
set_option linter.unusedSimpArgs false
set_option linter.unusedVariables false
set_option maxRecDepth 100000 in
set_option maxHeartbeats 16000000 in
theorem walk (w : World) (N : Int) (A : Option Addr) (c : Nat) (l : List E) (hA : Arg w 3 ce A c l) (a : Int) (ha : -9223372036854775808 ≤ a ∧ a ≤ 9223372036854775807) (b : Int) (hb : -9223372036854775808 ≤ b ∧ b ≤ 9223372036854775807) (Ah : Option Addr) (ch : Nat) (h : List Int) (hAh : Arg w 1 ci Ah ch h) :
    Calls Try.prog 5 #[.agg #[.int .i64 N, .slice A l.length c], .int .i64 a, .int .i64 b, .slice Ah h.length ch] w fun e w' => e = .returned (.bool true) ∧ Below w.heap.size w w' := by
  have hs := hA.sl
  have hss := hAh.sl
  have hll : l.length ≤ 9223372036854775807 := Nat.le_trans hA.cap hA.max
  have hhl : h.length ≤ 9223372036854775807 := Nat.le_trans hAh.cap hAh.max
  clear hA hAh ha hb
  have KEY0 := Lib.hid (fun W g hl A' ch hh => two_run_here W g hl A' ch hh)
  have KEY1 := Lib.hid (fun W A A' c c' h h' => equal_int' A A' 1 1 c c' [1] [1] W.heap.size W.heap.size W h h' rfl rfl (by decide) true (by decide))
  have HK := Lib.hid (fun W hW => nbox (N := N) (c := c) (W := W) hs hss hW)
  have HB0 := Lib.hid (Below.refl (w.heap.size + 1) (w.alloc (.cells #[.int .i64 N, .slice A l.length c] 32)))
  have KRUNH := Lib.hid (fun W h1 h2 => run_form N a b A c l Ah ch h W h1 h2 hll hhl)
  by_cases hlk : Dijk.look N l [a, b] = 0
  · obtain ⟨hg, hc, ⟨a0, a1⟩, b0, b1⟩ := DijkWay.looks_zero hlk
    have hN1 := hg.lo
    have hN2 := hg.hi
    obtain ⟨n, rfl⟩ := Int.eq_ofNat_of_zero_le (show 0 ≤ N by omega)
    obtain ⟨f, rfl⟩ := Int.eq_ofNat_of_zero_le a0
    obtain ⟨t, rfl⟩ := Int.eq_ofNat_of_zero_le b0
    have hsl := slook_zeros hlk
    have hCz := cons_zero (t := t) hg hc (by omega)
    have hrl : (List.replicate n (0 : Int)).length = n := by simp
    have krun := fun W Ah h1 h2 => run_form n f t A c l Ah n (List.replicate n 0) W h1 h2 hll (by omega)
    rw [hrl] at krun
    have kdist := fun W h1 => dist_yes n A c l f hll (look_fst hlk) W h1
    simp only [Int.toNat_natCast] at kdist
    have hcc : ∀ e ∈ l, 1 ≤ e.2.2 ∧ e.2.2 ≤ 10000 := fun e he => ⟨hc e he, (hg.cost e he).2⟩
    have hcase := fun W e W' (h : RunSays n f t l (List.replicate n 0) W e W') => says_cases h hsl
    have hstarz := fun (D P ord M : List Int) (h1 : Rch (StarS.KK 1 1) n f t l (List.replicate n 0) D P ord) (h2 : Nx (StarS.KK 1 1) n (List.replicate n 0) D ord t) (h3 : Sh n f l M) => Rch.star (K := StarS.KK 1 1) (fun c g => rfl) hCz hg.ends hcc (by omega) (by omega) (by omega) h1 h2 h3
    have hstar := fun (hC : Cons n t l h) (D P ord M : List Int) (h1 : Rch (StarS.KK 1 1) n f t l h D P ord) (h2 : Nx (StarS.KK 1 1) n h D ord t) (h3 : Sh n f l M) => Rch.star (K := StarS.KK 1 1) (fun c g => rfl) hC hg.ends hcc (by omega) (by omega) (by omega) h1 h2 h3
    have hzz : ∀ v : Int, 0 ≤ v → v < n → dg (List.replicate n 0) v = 0 := fun v h0 h1 => rep_dg h0 h1
    have hmk : ∀ w, (Instr.makeSlice 22 (.int .i64 (n : Int)) (.int .i64 (n : Int))).run Try.prog w = .ok (.slice (some ⟨w.heap.size, 0, none⟩) n n) (w.alloc (.cells (madeCells #[.int .i64 0] n) 3)) :=
      run_make_row' (P := Try.prog) 22 3 (.int .i64 0) 8 Try.underlying22 (by kernel_rfl) rfl .i64 .i64 n (by omega) (by omega)
    have KRUN := Lib.hid krun
    have KDIST := Lib.hid kdist
    have HSTAR := Lib.hid hstar
    have HSTARZ := Lib.hid hstarz
    have HCASE := Lib.hid hcase
    have HZZ := Lib.hid hzz
    have HLK := Lib.hid hlk
    have htn : t < n := by omega
    have hn64 : n ≤ 64 := by omega
    have htn' : (t : Int) < (n : Int) := by omega
    have hn0' : 0 < (n : Int) := by omega
    have hm1 : (if (64 : Int) < (n : Int) then (64 : Int) else (n : Int)) = (n : Int) := if_neg (by omega)
    have hm2 : (if (0 : Int) < (n : Int) then (n : Int) else (0 : Int)) = (n : Int) := if_pos hn0'
    clear krun kdist hstar hstarz hcase hzz hCz hg hc hcc hlk hs hss hsl hrl
    go_enter Try.func5, Try.ntmps5
    go_wp2_with fail
    refine (two_any _).mono ?_
    rintro e w1 ⟨g, rfl, own1, hb1⟩
    have B1 := HB0.out.trans (hb1.mono (by simp))
    have Z1 : w.heap.size + 1 ≤ w1.heap.size := by have := B1.size; simpa using this
    clear hb1
    go_wp2_with fail
    refine (KEY0.out _ _ (own1.alloc _).sl.2 _ _ (sl_new' (by decide) w1 #[.int .i64 0, .int .i64 0] _ _ (by simp) rfl)).mono ?_
    rintro e w2 ⟨A1, c1, A2, c2, rfl, o1, o2, hb2⟩
    have B2 := (B1.alloc Z1 (.cells #[.int .i64 0, .int .i64 0] 3)).trans (hb2.mono (by simp; omega))
    have Z2 : w.heap.size + 1 ≤ w2.heap.size := by have := B2.size; simpa using this
    clear hb2 own1 B1 Z1
    go_wp2_with fail
    refine (KEY1.out _ _ _ _ _ ((o2.alloc _).alloc _).sl.2 (sl_new' (by decide) (w2.alloc (.cells #[.slice A1 1 c1, .int .i64 0, .slice A2 1 c2] 45)) #[.int .i64 1] 3 [1] (by simp) rfl)).mono ?_
    rintro e w3 ⟨rfl, k3, rfl⟩
    have B3 := below_drewN ((B2.alloc Z2 (.cells #[.slice A1 1 c1, .int .i64 0, .slice A2 1 c2] 45)).alloc (by simp; omega) (.cells #[.int .i64 1] 3)) k3
    obtain ⟨w3, hw3⟩ : ∃ w3, w3 = (((w2.alloc (.cells #[.slice A1 1 c1, .int .i64 0, .slice A2 1 c2] 45)).alloc (.cells #[.int .i64 1] 3)).drewN k3) := ⟨_, rfl⟩
    rw [← hw3] at B3 ⊢
    clear hw3 o1 o2 B2 Z2
    obtain ⟨q0, q1, Z3, sg, sh, H3⟩ := HK.out _ B3
    go_wp2_with fail
    refine (KRUNH.out _ sg sh).mono ?_
    rintro e w4 ⟨A3, m3, c3, co3, A4, k4, c4, xh, rfl, hb4, HSAYH⟩
    have B4 := B3.trans (hb4.mono Z3)
    have B5 := B4.alloc (HK.out _ B4).2.2.1 (.cells #[.slice A3 m3 c3, .int .i64 co3, .slice A4 k4 c4] 45)
    have hfh := heap_alloc_new w4 (.cells #[.slice A3 m3 c3, .int .i64 co3, .slice A4 k4 c4] 45)
    have h35 := hb4.alloc hb4.size (.cells #[.slice A3 m3 c3, .int .i64 co3, .slice A4 k4 c4] 45)
    have says5 := says_alloc HSAYH.out (Below.refl _ _) (.cells #[.slice A3 m3 c3, .int .i64 co3, .slice A4 k4 c4] 45)
    have z45' : w4.heap.size < (w4.alloc (.cells #[.slice A3 m3 c3, .int .i64 co3, .slice A4 k4 c4] 45)).heap.size := by simp
    clear q0 q1 sg sh Z3 H3 hb4 B4 HSAYH B3
    go_upto_region 5 with fail
    generalize w4.alloc (.cells #[.slice A3 m3 c3, .int .i64 co3, .slice A4 k4 c4] 45) = w5 at B5 hfh h35 says5 z45' ⊢
    have HFH := Lib.hid hfh
    have SAYH := Lib.hid says5
    clear hfh says5 h35
    obtain ⟨q0, q1, Z5, sg, sh, _⟩ := HK.out _ B5
    have z5 : w.heap.size < w5.heap.size := by omega
    have hz64 : n ≤ 64 := by omega
    have hmd := fun (W : World) (g : Nat) (h2 : W.heap.size = g) => (Grid.own_made n W.heap.size W (Nat.le_refl _) hz64 h2).sl.2
    have BZ := Lib.hid ((Below.refl w5.heap.size w5).alloc (Nat.le_refl _) (.cells (madeCells #[.int .i64 0] n) 3))
    have SZ := Lib.hid (hmd w5 w5.heap.size rfl)
    have hzf : Below (w5.heap.size + 1) (w5.alloc (.cells (madeCells #[.int .i64 0] n) 3)) ((w5.alloc (.cells (madeCells #[.int .i64 0] n) 3)).alloc (.cells #[.slice none 0 0, .int .i64 0, .slice none 0 0] 45)) := (Below.refl _ _).alloc (by simp) _
    have BZF := Lib.hid (BZ.out.trans (hzf.mono (Nat.le_succ _)))
    have SZF := Lib.hid ((SZ.out.keep hzf (by simp)).more hzf.size)
    have RZF : Hid (((w5.alloc (.cells (madeCells #[.int .i64 0] n) 3)).alloc (.cells #[.slice none 0 0, .int .i64 0, .slice none 0 0] 45)).heap[w5.heap.size + 1]? = some (.cells #[.slice none 0 0, .int .i64 0, .slice none 0 0] 45 (0, 0))) := Lib.hid (by
      have h := heap_alloc_new (w5.alloc (.cells (madeCells #[.int .i64 0] n) 3)) (.cells #[.slice none 0 0, .int .i64 0, .slice none 0 0] 45)
      simpa using h)
    have BFZ := Lib.hid (((Below.refl w5.heap.size w5).alloc (Nat.le_refl _) (.cells #[.slice none 0 0, .int .i64 0, .slice none 0 0] 45)).alloc (by simp) (.cells (madeCells #[.int .i64 0] n) 3))
    have SFZ := Lib.hid (hmd (w5.alloc (.cells #[.slice none 0 0, .int .i64 0, .slice none 0 0] 45)) (w5.heap.size + 1) (by simp))
    have RFZ := Lib.hid (blk_alloc (heap_alloc_new w5 (.cells #[.slice none 0 0, .int .i64 0, .slice none 0 0] 45)) (.cells (madeCells #[.int .i64 0] n) 3))
    have BZd := Lib.hid BZ.out.drew
    have BZFd := Lib.hid BZF.out.drew
    have BFZd := Lib.hid BFZ.out.drew
    have slz : Sl (w5.alloc (.cells (madeCells #[.int .i64 0] n) 3)).drew (w5.alloc (.cells (madeCells #[.int .i64 0] n) 3)).drew.heap.size 1 ci (some ⟨w5.heap.size, 0, none⟩) (List.replicate n 0) := SZ.out.keep (Below.refl _ _).drew (Nat.le_refl _)
    have slzf : Sl ((w5.alloc (.cells (madeCells #[.int .i64 0] n) 3)).alloc (.cells #[.slice none 0 0, .int .i64 0, .slice none 0 0] 45)).drew ((w5.alloc (.cells (madeCells #[.int .i64 0] n) 3)).alloc (.cells #[.slice none 0 0, .int .i64 0, .slice none 0 0] 45)).drew.heap.size 1 ci (some ⟨w5.heap.size, 0, none⟩) (List.replicate n 0) := SZF.out.keep (Below.refl _ _).drew (Nat.le_refl _)
    have slfz : Sl ((w5.alloc (.cells #[.slice none 0 0, .int .i64 0, .slice none 0 0] 45)).alloc (.cells (madeCells #[.int .i64 0] n) 3)).drew ((w5.alloc (.cells #[.slice none 0 0, .int .i64 0, .slice none 0 0] 45)).alloc (.cells (madeCells #[.int .i64 0] n) 3)).drew.heap.size 1 ci (some ⟨w5.heap.size + 1, 0, none⟩) (List.replicate n 0) := SFZ.out.keep (Below.refl _ _).drew (Nat.le_refl _)
    have rzf : ((w5.alloc (.cells (madeCells #[.int .i64 0] n) 3)).alloc (.cells #[.slice none 0 0, .int .i64 0, .slice none 0 0] 45)).drew.heap[w5.heap.size + 1]? = some (.cells #[.slice none 0 0, .int .i64 0, .slice none 0 0] 45 (0, 0)) := RZF.out
    have rfz : ((w5.alloc (.cells #[.slice none 0 0, .int .i64 0, .slice none 0 0] 45)).alloc (.cells (madeCells #[.int .i64 0] n) 3)).drew.heap[w5.heap.size]? = some (.cells #[.slice none 0 0, .int .i64 0, .slice none 0 0] 45 (0, 0)) := RFZ.out
    have SLZ := Lib.hid slz
    have SLZF := Lib.hid slzf
    have SLFZ := Lib.hid slfz
    have RZFd := Lib.hid rzf
    have RFZd := Lib.hid rfz
    clear slz slzf slfz rzf rfz BZ BZF BFZ SZ SZF SFZ RZF RFZ
    have krung := fun W g (h : Below w5.heap.size w5 W) h2 => KRUN.out W (some ⟨g, 0, none⟩) ((sg.keep h (Nat.le_refl _)).more h.size) h2
    have KRG := Lib.hid krung
    clear hmd hzf krung
    try go_upto_region 5 with fail
    go_cut [14, 13] from 42 to 52 (fun sE sF wx => ∃ (R : Nat) (xe : Int) (A1 : Option Addr) (m c1 : Nat) (co : Int) (A2 : Option Addr) (k c2 : Nat), sE = .int .i64 xe ∧ sF = .pointer (some ⟨R, 0, none⟩) ∧ Hid (wx.heap[R]? = some (.cells #[.slice A1 m c1, .int .i64 co, .slice A2 k c2] 45 (0, 0))) ∧ Hid (RunSays n f t l (List.replicate n 0) w5 (.returned (.tuple #[.agg #[.slice A1 m c1, .int .i64 co, .slice A2 k c2], .int .i64 xe])) wx) ∧ w5.heap.size ≤ R)
    case first =>
      go_region_held3 (fun w' => w'.cell? ⟨w.heap.size, 0, none⟩ = some (.int .i64 n) ∧ w'.cell? ⟨w.heap.size, 1, none⟩ = some (.slice A l.length c))
        (first
          | go_keep
          | (go_split_ands
             exact ⟨far3 x0 (by omega) _ _ _, far3 x1 (by omega) _ _ _⟩)
          | (go_split_ands
             exact ⟨x0, x1⟩))
        (first
          | (go_at_call 23; refine (KRG.out _ _ (by with_reducible exact BZd.out) (by with_reducible exact SLZ.out)).mono ?_; rintro e w6 ⟨A1, m, c1, co, A2, k, c2, xe, rfl, hb6, HSAYS⟩; have BW := BZd; have hz6 := hb6.size; obtain ⟨x0, x1, _⟩ := HK.out _ (B5.trans ((BW.out.trans (hb6.mono BW.out.size)).mono (by omega))))
          | (go_at_call 23; refine (KRG.out _ _ (by with_reducible exact BZFd.out) (by with_reducible exact SLZF.out)).mono ?_; rintro e w6 ⟨A1, m, c1, co, A2, k, c2, xe, rfl, hb6, HSAYS⟩; have BW := BZFd; have hr6 := blk_below RZFd.out hb6 (by simp); obtain ⟨d0, d1, d2, e0, e1, e2⟩ := fnd_cells hr6; have hR6 := lt_of_block hr6; obtain ⟨x0, x1, _⟩ := HK.out _ (B5.trans ((BW.out.trans (hb6.mono BW.out.size)).mono (by omega))))
          | (go_at_call 23; refine (KRG.out _ _ (by with_reducible exact BFZd.out) (by with_reducible exact SLFZ.out)).mono ?_; rintro e w6 ⟨A1, m, c1, co, A2, k, c2, xe, rfl, hb6, HSAYS⟩; have BW := BFZd; have hr6 := blk_below RFZd.out hb6 (by simp; omega); obtain ⟨d0, d1, d2, e0, e1, e2⟩ := fnd_cells hr6; have hR6 := lt_of_block hr6; obtain ⟨x0, x1, _⟩ := HK.out _ (B5.trans ((BW.out.trans (hb6.mono BW.out.size)).mono (by omega))))
          | (go_at_call 23; go_must (exact Nat.zero)))
      all_goals
        try simp only [Act.put, List.getElem_toArray, List.getElem_cons_succ, List.getElem_cons_zero, List.setIfInBounds_toArray, List.set_cons_zero, List.set_cons_succ]
        go_wp2_with fail
        go_meet
        first
          | exact ⟨_, xe, A1, m, c1, co, A2, k, c2, rfl, rfl, Lib.hid (heap_alloc_new _ _), Lib.hid (says_alloc HSAYS.out BW.out _), Nat.le_trans BW.out.size hz6⟩
          | exact ⟨_, xe, A1, m, c1, co, A2, k, c2, rfl, rfl, Lib.hid (fnd_set hr6 _ _ _), Lib.hid (says_set HSAYS.out hr6 BW.out (by simp) _ _ _), by simp⟩
    case rest =>
    obtain ⟨R, xe, A1, m, c1, co, A2, k, c2, rfl, rfl, HRB, HSAYS, hR⟩ := hcut
    clear BZd BZFd BFZd SLZ SLZF SLFZ RZFd RFZd KRG hz64
    have BC := HSAYS.out.2.2
    have B9 := B5.trans (BC.mono Z5)
    have Z9 := (HK.out _ B9).2.2.1
    have H9 := (HK.out _ B9).2.2.2.2.2
    have z9 : w.heap.size < wc.heap.size := by omega
    have hR9 := lt_of_block HRB.out
    have hf9 := blk_below HFH.out BC z45'
    have h49 := lt_of_block hf9
    have HF9 := Lib.hid hf9
    clear q0 q1 sg sh B5 Z5 z5 z45' hf9
    by_cases hsh : slook n f t l h = 0
    · obtain ⟨_, hC⟩ := slook_zero.1 hsh
      have HCH := Lib.hid hC
      obtain ⟨D, P, ord, HR, hc⟩ := found_inv (says_cases SAYH.out hsh)
      clear hsh hC
      rcases hc with ⟨rfl, pa, o1, o2, HNX, HFN, HPL, HOL, HDT, _⟩ | ⟨rfl, HNO⟩
      · obtain ⟨Dz, Pz, ordz, HRz, hcz⟩ := found_inv (HCASE.out w5 _ wc HSAYS.out)
        rcases hcz with ⟨rfl, paz, o1z, o2z, HNXz, HFNz, HPLz, HOLz, HDTz, _⟩ | ⟨rfl, HNOz⟩
        · obtain ⟨q0, q1, _, sg, _⟩ := HK.out _ B9
          go_wp2_with fail
          refine (KDIST.out _ sg).mono ?_
          rintro e w6 ⟨S6, M, rfl, own6, hb6, hsh6⟩
          obtain ⟨s1, s2, s3, s4, s5, s6⟩ := HSTAR.out HCH.out D P ord M HR.out HNX.out hsh6.out
          obtain ⟨r1, r2, r3, r4, r5, r6⟩ := HSTARZ.out Dz Pz ordz M HRz.out HNXz.out hsh6.out
          have B10 := B9.trans (hb6.mono Z9)
          have Z10 := (HK.out _ B10).2.2.1
          have hMl : M.length = n := by have := hsh6.out.len; omega
          obtain ⟨dc, _⟩ := own_at1 hMl own6 htn
          rw [getD_dg] at dc
          have hS6 := (own6.base_ S6 rfl).2
          obtain ⟨_, _, c2', _⟩ := fnd_cells (blk_below HF9.out hb6 h49)
          obtain ⟨_, _, d2', _⟩ := fnd_cells (blk_below HRB.out hb6 hR9)
          have z6 := hb6.size
          have hk64 : k4 ≤ 64 := by have := HFN.out.olen; have := HOL.out; omega
          have hkz64 : k ≤ 64 := by have := HFNz.out.olen; have := HOLz.out; omega
          have HOSL := Lib.hid (fun W (hW : Below w6.heap.size w6 W) => (((o2.sl.2.keep (BC.trans (hb6.mono BC.size)) (Nat.le_refl _)).more (Nat.le_trans BC.size z6)).keep hW (Nat.le_refl _)).more hW.size)
          have kc := fun W (hW : Below w6.heap.size w6 W) (v : Int) b hb => contains_int A2 c2 k (ordz ++ [(t : Int)]) v W.heap.size W ((((o2z.sl.2.keep hb6 (Nat.le_refl _)).more z6).keep hW (Nat.le_refl _)).more hW.size) HOLz.out (by omega) b hb
          have KC := Lib.hid kc
          have hrng : ∀ v ∈ ord ++ [(t : Int)], (0 ≤ v ∧ v < n) ∧ dg M v ≤ dg M t ∧ (dg M v < dg M t → v ∈ ordz ++ [(t : Int)]) := fun v hv => by
            obtain ⟨⟨v0, v1⟩, _, _, h4⟩ := s3 v hv
            have h5 := HCH.out.bd v0 v1
            exact ⟨⟨v0, v1⟩, by omega, fun h6 => List.mem_append_left _ (r6 v v0 v1 (by rw [HZZ.out v v0 v1]; omega))⟩
          have HRNG := Lib.hid hrng
          have HML := Lib.hid hMl
          have OWN6 := Lib.hid own6
          obtain ⟨y, hy⟩ : ∃ y, dg M (t : Int) = y := ⟨_, rfl⟩
          rw [hy] at dc HRNG
          have zz1 : w4.heap.size < w6.heap.size := by omega
          have zz2 : R < w6.heap.size := by omega
          clear s1 s2 s3 s4 s5 s6 r1 r2 r3 r4 r5 r6 hMl own6 hsh6 o1 o2 o1z o2z kc hrng hy q0 q1 sg hb6 BC B9 Z9 H9 z9
          go_wp2
          go_loopw [70] (fun i wr => ∃ j : Nat, j ≤ k4 ∧ i = .int .i64 j ∧ Hid (Below w6.heap.size w6 wr)) (fun i _ => k4 - (intOf i).toNat)
          case atStart => exact ⟨0, Nat.zero_le _, rfl, Lib.hid (Below.refl _ _)⟩
          case round =>
            obtain ⟨j, hj, rfl, HB⟩ := hrel
            have hBW := HB.out
            have B11 := B10.trans (hBW.mono Z10)
            obtain ⟨q0, q1, _, _, _, H11⟩ := HK.out _ B11
            have hzr := hBW.size
            have e2 := ((keepAt hBW zz2).1 2).trans d2'
            have ed := ((keepAt hBW hS6).1 t).trans dc
            have hS9 : S6 < wr.heap.size := by omega
            have hRr : R < wr.heap.size := by omega
            have hwr0 : w.heap.size < wr.heap.size := by omega
            clear c2' d2' dc q1
            by_cases hlt : j < k4
            · have hjo : j < (ord ++ [(t : Int)]).length := by rw [HOL.out]; exact hlt
              obtain ⟨bo, oo, rfl, hbo, hco⟩ := (HOSL.out wr hBW).atI hjo
              have hv := HRNG.out _ (List.getElem_mem hjo)
              obtain ⟨vv, hvv⟩ : ∃ vv, (ord ++ [(t : Int)])[j] = vv := ⟨_, rfl⟩
              rw [hvv] at hco hv
              obtain ⟨⟨v0, v1⟩, hle, hin⟩ := hv
              clear hvv
              obtain ⟨v, rfl⟩ := Int.eq_ofNat_of_zero_le v0
              have hvn : v < n := by omega
              obtain ⟨mc, _⟩ := own_at1 HML.out (OWN6.out.keep hBW) hvn
              rw [getD_dg] at mc
              obtain ⟨x, hx⟩ : ∃ x, dg M (v : Int) = x := ⟨_, rfl⟩
              rw [hx] at mc hle hin
              clear hx
              have d1 : ¬ ((v : Int) < 0) := by omega
              have d2 : ¬ ((v : Int) ≥ (n : Int)) := by omega
              have d3 : ¬ (x > y) := by omega
              have e1 : decide ((v : Int) < 0) = false := decide_eq_false d1
              have e2a : decide ((v : Int) ≥ (n : Int)) = false := decide_eq_false d2
              have e2b : decide ((n : Int) ≤ (v : Int)) = false := decide_eq_false d2
              have e3 : decide (x > y) = false := decide_eq_false d3
              have e3b : decide (y < x) = false := decide_eq_false d3
              have hjk : (j : Int) < (k4 : Int) := by omega
              by_cases hxy : x < y
              · have hm := hin hxy
                have e4 : decide (x < y) = true := decide_eq_true hxy
                have KX : Hid (∀ q, Calls Try.prog 22 #[.slice A2 k c2, .int .i64 v] (wr.drewN q) fun e w' => e = .returned (.bool true) ∧ w' = wr.drewN q) := Lib.hid (fun q => KC.out (wr.drewN q) (below_drewN hBW q) v true (by simp only [hm, decide_true]))
                clear hm hin hle hBW hjo
                go_wp2
                go_quiet ((go_at_call 22; with_reducible exact Calls.quiet_of_same (KX.out _)))
                go_wp2
                go_roundw
                case rel => exact ⟨j + 1, by omega, by go_num, Lib.hid (by first | exact HB.out | exact HB.out.drew | exact below_drewN HB.out _)⟩
                case measure => simp [intOf]; omega
              · have e4 : decide (x < y) = false := decide_eq_false hxy
                clear hin hle hBW hjo
                go_wp2
                go_quiet (fail)
                go_wp2
                go_roundw
                case rel => exact ⟨j + 1, by omega, by go_num, Lib.hid (by first | exact HB.out | exact HB.out.drew | exact below_drewN HB.out _)⟩
                case measure => simp [intOf]; omega
            · obtain rfl : j = k4 := by omega
              go_wp2
              go_ret
              exact ⟨rfl, H11⟩
        · clear o1 o2
          go_wp2
          go_ret
          exact ⟨rfl, H9⟩
      · go_wp2
        go_ret
        exact ⟨rfl, H9⟩
    · have he := SAYH.out.1 hsh
      simp only [Ending.returned.injEq, Value.tuple.injEq, Value.int.injEq, Array.mk.injEq, List.cons.injEq, true_and, and_true] at he
      have hne : (xh != 0) = true := by rw [bne_iff_ne, he.2]; exact hsh
      clear he hsh
      go_wp2
      go_ret
      exact ⟨rfl, H9⟩
  · have hsl : slook N a b l h ≠ 0 := fun h1 => hlk (slook_zero.1 h1).1
    have krunh := fun W h1 h2 => run_bad N a b A c l Ah ch h W h1 h2 hll hhl hsl
    have hne : (slook N a b l h != 0) = true := by rw [bne_iff_ne]; exact hsl
    obtain ⟨mN, hm1⟩ : ∃ mN, (if (64 : Int) < N then (64 : Int) else N) = mN := ⟨_, rfl⟩
    obtain ⟨zi, hm2⟩ : ∃ zi, (if (0 : Int) < mN then mN else (0 : Int)) = zi := ⟨_, rfl⟩
    have hz0 : 0 ≤ zi ∧ zi ≤ 64 := by
      have h1 := hm1
      have h2 := hm2
      split at h1 <;> split at h2 <;> omega
    obtain ⟨z, rfl⟩ := Int.eq_ofNat_of_zero_le hz0.1
    have hrl : (List.replicate z (0 : Int)).length = z := by simp
    have krun := fun W Ah h1 h2 => run_form N a b A c l Ah z (List.replicate z 0) W h1 h2 hll (by omega)
    rw [hrl] at krun
    have hmk : ∀ w, (Instr.makeSlice 22 (.int .i64 (z : Int)) (.int .i64 (z : Int))).run Try.prog w = .ok (.slice (some ⟨w.heap.size, 0, none⟩) z z) (w.alloc (.cells (madeCells #[.int .i64 0] z) 3)) :=
      run_make_row' (P := Try.prog) 22 3 (.int .i64 0) 8 Try.underlying22 (by kernel_rfl) rfl .i64 .i64 z (by omega) (by omega)
    have hz64' : z ≤ 64 := by omega
    generalize slook N a b l h = er at *
    have KRUN := Lib.hid krun
    have KRUNB := Lib.hid krunh
    clear krun krunh KRUNH hs hss hsl hlk hrl hz0
    go_enter Try.func5, Try.ntmps5
    go_wp2_with fail
    refine (two_any _).mono ?_
    rintro e w1 ⟨g, rfl, own1, hb1⟩
    have B1 := HB0.out.trans (hb1.mono (by simp))
    have Z1 : w.heap.size + 1 ≤ w1.heap.size := by have := B1.size; simpa using this
    clear hb1
    go_wp2_with fail
    refine (KEY0.out _ _ (own1.alloc _).sl.2 _ _ (sl_new' (by decide) w1 #[.int .i64 0, .int .i64 0] _ _ (by simp) rfl)).mono ?_
    rintro e w2 ⟨A1, c1, A2, c2, rfl, o1, o2, hb2⟩
    have B2 := (B1.alloc Z1 (.cells #[.int .i64 0, .int .i64 0] 3)).trans (hb2.mono (by simp; omega))
    have Z2 : w.heap.size + 1 ≤ w2.heap.size := by have := B2.size; simpa using this
    clear hb2 own1 B1 Z1
    go_wp2_with fail
    refine (KEY1.out _ _ _ _ _ ((o2.alloc _).alloc _).sl.2 (sl_new' (by decide) (w2.alloc (.cells #[.slice A1 1 c1, .int .i64 0, .slice A2 1 c2] 45)) #[.int .i64 1] 3 [1] (by simp) rfl)).mono ?_
    rintro e w3 ⟨rfl, k3, rfl⟩
    have B3 := below_drewN ((B2.alloc Z2 (.cells #[.slice A1 1 c1, .int .i64 0, .slice A2 1 c2] 45)).alloc (by simp; omega) (.cells #[.int .i64 1] 3)) k3
    obtain ⟨w3, hw3⟩ : ∃ w3, w3 = (((w2.alloc (.cells #[.slice A1 1 c1, .int .i64 0, .slice A2 1 c2] 45)).alloc (.cells #[.int .i64 1] 3)).drewN k3) := ⟨_, rfl⟩
    rw [← hw3] at B3 ⊢
    clear hw3 o1 o2 B2 Z2
    obtain ⟨q0, q1, Z3, sg, sh, H3⟩ := HK.out _ B3
    go_wp2_with fail
    refine (KRUNB.out _ sg sh).mono ?_
    rintro e w4 ⟨rfl, hb4⟩
    have B4 := B3.trans (hb4.mono Z3)
    have B5 := B4.alloc (HK.out _ B4).2.2.1 (.cells #[.slice none 0 0, .int .i64 0, .slice none 0 0] 45)
    clear q0 q1 sg sh Z3 H3 hb4 B4 B3
    go_upto_region 5 with fail
    generalize w4.alloc (.cells #[.slice none 0 0, .int .i64 0, .slice none 0 0] 45) = w5 at B5 ⊢
    obtain ⟨q0, q1, Z5, sg, sh, _⟩ := HK.out _ B5
    have z5 : w.heap.size < w5.heap.size := by omega
    have hz64 : z ≤ 64 := by omega
    have hmd := fun (W : World) (g : Nat) (h2 : W.heap.size = g) => (Grid.own_made z W.heap.size W (Nat.le_refl _) hz64 h2).sl.2
    have BZ := Lib.hid ((Below.refl w5.heap.size w5).alloc (Nat.le_refl _) (.cells (madeCells #[.int .i64 0] z) 3))
    have SZ := Lib.hid (hmd w5 w5.heap.size rfl)
    have hzf : Below (w5.heap.size + 1) (w5.alloc (.cells (madeCells #[.int .i64 0] z) 3)) ((w5.alloc (.cells (madeCells #[.int .i64 0] z) 3)).alloc (.cells #[.slice none 0 0, .int .i64 0, .slice none 0 0] 45)) := (Below.refl _ _).alloc (by simp) _
    have BZF := Lib.hid (BZ.out.trans (hzf.mono (Nat.le_succ _)))
    have SZF := Lib.hid ((SZ.out.keep hzf (by simp)).more hzf.size)
    have RZF : Hid (((w5.alloc (.cells (madeCells #[.int .i64 0] z) 3)).alloc (.cells #[.slice none 0 0, .int .i64 0, .slice none 0 0] 45)).heap[w5.heap.size + 1]? = some (.cells #[.slice none 0 0, .int .i64 0, .slice none 0 0] 45 (0, 0))) := Lib.hid (by
      have h := heap_alloc_new (w5.alloc (.cells (madeCells #[.int .i64 0] z) 3)) (.cells #[.slice none 0 0, .int .i64 0, .slice none 0 0] 45)
      simpa using h)
    have BFZ := Lib.hid (((Below.refl w5.heap.size w5).alloc (Nat.le_refl _) (.cells #[.slice none 0 0, .int .i64 0, .slice none 0 0] 45)).alloc (by simp) (.cells (madeCells #[.int .i64 0] z) 3))
    have SFZ := Lib.hid (hmd (w5.alloc (.cells #[.slice none 0 0, .int .i64 0, .slice none 0 0] 45)) (w5.heap.size + 1) (by simp))
    have RFZ := Lib.hid (blk_alloc (heap_alloc_new w5 (.cells #[.slice none 0 0, .int .i64 0, .slice none 0 0] 45)) (.cells (madeCells #[.int .i64 0] z) 3))
    have BZd := Lib.hid BZ.out.drew
    have BZFd := Lib.hid BZF.out.drew
    have BFZd := Lib.hid BFZ.out.drew
    have slz : Sl (w5.alloc (.cells (madeCells #[.int .i64 0] z) 3)).drew (w5.alloc (.cells (madeCells #[.int .i64 0] z) 3)).drew.heap.size 1 ci (some ⟨w5.heap.size, 0, none⟩) (List.replicate z 0) := SZ.out.keep (Below.refl _ _).drew (Nat.le_refl _)
    have slzf : Sl ((w5.alloc (.cells (madeCells #[.int .i64 0] z) 3)).alloc (.cells #[.slice none 0 0, .int .i64 0, .slice none 0 0] 45)).drew ((w5.alloc (.cells (madeCells #[.int .i64 0] z) 3)).alloc (.cells #[.slice none 0 0, .int .i64 0, .slice none 0 0] 45)).drew.heap.size 1 ci (some ⟨w5.heap.size, 0, none⟩) (List.replicate z 0) := SZF.out.keep (Below.refl _ _).drew (Nat.le_refl _)
    have slfz : Sl ((w5.alloc (.cells #[.slice none 0 0, .int .i64 0, .slice none 0 0] 45)).alloc (.cells (madeCells #[.int .i64 0] z) 3)).drew ((w5.alloc (.cells #[.slice none 0 0, .int .i64 0, .slice none 0 0] 45)).alloc (.cells (madeCells #[.int .i64 0] z) 3)).drew.heap.size 1 ci (some ⟨w5.heap.size + 1, 0, none⟩) (List.replicate z 0) := SFZ.out.keep (Below.refl _ _).drew (Nat.le_refl _)
    have rzf : ((w5.alloc (.cells (madeCells #[.int .i64 0] z) 3)).alloc (.cells #[.slice none 0 0, .int .i64 0, .slice none 0 0] 45)).drew.heap[w5.heap.size + 1]? = some (.cells #[.slice none 0 0, .int .i64 0, .slice none 0 0] 45 (0, 0)) := RZF.out
    have rfz : ((w5.alloc (.cells #[.slice none 0 0, .int .i64 0, .slice none 0 0] 45)).alloc (.cells (madeCells #[.int .i64 0] z) 3)).drew.heap[w5.heap.size]? = some (.cells #[.slice none 0 0, .int .i64 0, .slice none 0 0] 45 (0, 0)) := RFZ.out
    have SLZ := Lib.hid slz
    have SLZF := Lib.hid slzf
    have SLFZ := Lib.hid slfz
    have RZFd := Lib.hid rzf
    have RFZd := Lib.hid rfz
    clear slz slzf slfz rzf rfz BZ BZF BFZ SZ SZF SFZ RZF RFZ
    have krung := fun W g (h : Below w5.heap.size w5 W) h2 => KRUN.out W (some ⟨g, 0, none⟩) ((sg.keep h (Nat.le_refl _)).more h.size) h2
    have KRG := Lib.hid krung
    clear hmd hzf krung
    try go_upto_region 5 with fail
    go_cut [14, 13] from 42 to 52 (fun sE sF wx => ∃ (R : Nat) (xe : Int) (A1 : Option Addr) (m c1 : Nat) (co : Int) (A2 : Option Addr) (k c2 : Nat), sE = .int .i64 xe ∧ sF = .pointer (some ⟨R, 0, none⟩) ∧ Hid (wx.heap[R]? = some (.cells #[.slice A1 m c1, .int .i64 co, .slice A2 k c2] 45 (0, 0))) ∧ Hid (RunSays N a b l (List.replicate z 0) w5 (.returned (.tuple #[.agg #[.slice A1 m c1, .int .i64 co, .slice A2 k c2], .int .i64 xe])) wx) ∧ w5.heap.size ≤ R)
    case first =>
      go_region_held3 (fun w' => w'.cell? ⟨w.heap.size, 0, none⟩ = some (.int .i64 N) ∧ w'.cell? ⟨w.heap.size, 1, none⟩ = some (.slice A l.length c))
        (first
          | go_keep
          | (go_split_ands
             exact ⟨far3 x0 (by omega) _ _ _, far3 x1 (by omega) _ _ _⟩)
          | (go_split_ands
             exact ⟨x0, x1⟩))
        (first
          | (go_at_call 23; refine (KRG.out _ _ (by with_reducible exact BZd.out) (by with_reducible exact SLZ.out)).mono ?_; rintro e w6 ⟨A1, m, c1, co, A2, k, c2, xe, rfl, hb6, HSAYS⟩; have BW := BZd; have hz6 := hb6.size; obtain ⟨x0, x1, _⟩ := HK.out _ (B5.trans ((BW.out.trans (hb6.mono BW.out.size)).mono (by omega))))
          | (go_at_call 23; refine (KRG.out _ _ (by with_reducible exact BZFd.out) (by with_reducible exact SLZF.out)).mono ?_; rintro e w6 ⟨A1, m, c1, co, A2, k, c2, xe, rfl, hb6, HSAYS⟩; have BW := BZFd; have hr6 := blk_below RZFd.out hb6 (by simp); obtain ⟨d0, d1, d2, e0, e1, e2⟩ := fnd_cells hr6; have hR6 := lt_of_block hr6; obtain ⟨x0, x1, _⟩ := HK.out _ (B5.trans ((BW.out.trans (hb6.mono BW.out.size)).mono (by omega))))
          | (go_at_call 23; refine (KRG.out _ _ (by with_reducible exact BFZd.out) (by with_reducible exact SLFZ.out)).mono ?_; rintro e w6 ⟨A1, m, c1, co, A2, k, c2, xe, rfl, hb6, HSAYS⟩; have BW := BFZd; have hr6 := blk_below RFZd.out hb6 (by simp; omega); obtain ⟨d0, d1, d2, e0, e1, e2⟩ := fnd_cells hr6; have hR6 := lt_of_block hr6; obtain ⟨x0, x1, _⟩ := HK.out _ (B5.trans ((BW.out.trans (hb6.mono BW.out.size)).mono (by omega))))
          | (go_at_call 23; go_must (exact Nat.zero)))
      all_goals
        try simp only [Act.put, List.getElem_toArray, List.getElem_cons_succ, List.getElem_cons_zero, List.setIfInBounds_toArray, List.set_cons_zero, List.set_cons_succ]
        go_wp2_with fail
        go_meet
        first
          | exact ⟨_, xe, A1, m, c1, co, A2, k, c2, rfl, rfl, Lib.hid (heap_alloc_new _ _), Lib.hid (says_alloc HSAYS.out BW.out _), Nat.le_trans BW.out.size hz6⟩
          | exact ⟨_, xe, A1, m, c1, co, A2, k, c2, rfl, rfl, Lib.hid (fnd_set hr6 _ _ _), Lib.hid (says_set HSAYS.out hr6 BW.out (by simp) _ _ _), by simp⟩
    case rest =>
    obtain ⟨R, xe, A1, m, c1, co, A2, k, c2, rfl, rfl, HRB, HSAYS, hR⟩ := hcut
    clear BZd BZFd BFZd SLZ SLZF SLFZ RZFd RFZd KRG hz64
    have H9 := (HK.out _ (B5.trans (HSAYS.out.2.2.mono Z5))).2.2.2.2.2
    clear q0 q1 sg sh B5 Z5 z5
    go_wp2
    go_ret
    exact ⟨rfl, H9⟩

theorem own : ownKnob Try.prog.godebug = none := by kernel_rfl
theorem laidOut : laidOutB Try.prog = true := by kernel_rfl

set_option maxRecDepth 100000 in
theorem lifted (os : Os) (started : os.Started) (H : Type) (enc : TypeId × Value → H) :
    ReturnsInHanded {} Try.checked os 5 .any (Rows.starSparesSpec.pre6 enc Try.prog Try.f5 Rows.starSparesRow.domain false) (Rows.starSparesSpec.post enc Try.prog Try.f5 false true false false) := by
  refine returnsInHanded_of_change (C := Try.checked) own started (by kernel_rfl) Try.func5
    (ChangeSpec.witness6 (enc := enc) (C := Try.checked) false ⟨#[], #[.agg #[.int .i64 0, .slice none 0 0], .int .i64 0, .int .i64 0, .slice none 0 0], []⟩ 8 (by kernel_rfl) (by kernel_rfl) (by kernel_rfl) (by kernel_rfl)) ?_
  intro W base args ds gs before hval0 hW hcnd _
  have hval : ∀ (j : Nat) t v, Try.f5.params[j]? = some t → args[j]? = some v → Value.okWide Try.prog W .any base t v := hval0
  have hW' := hW
  obtain ⟨p, q, hA0, hV, rfl, hfz, hnd⟩ := hW
  have hA : DataW.TrodAll enc Try.prog W 0 (fun _ => true) true Try.f5.params.toList args.toList ds p := hA0
  rw [Try.params5] at hA hval
  obtain ⟨v0, vs0, d0, ds0, p0, q0, hargs, rfl, rfl, h0, r0⟩ := trodAll_cons hA
  obtain ⟨v1, vs1, d1, ds1, p1, q1, rfl, rfl, rfl, h1, r1⟩ := trodAll_cons r0
  obtain ⟨v2, vs2, d2, ds2, p2, q2, rfl, rfl, rfl, h2, r2⟩ := trodAll_cons r1
  obtain ⟨v3, vs3, d3, ds3, p3, q3, rfl, rfl, rfl, h3, r3⟩ := trodAll_cons r2
  obtain ⟨rfl, rfl, rfl⟩ := trodAll_nil r3
  obtain rfl : args = #[v0, v1, v2, v3] := by cases args; simp_all
  obtain ⟨rfl, rfl⟩ := trodVars_none hV
  obtain ⟨N0, A0, c0, l0, dd0, rfl, hN0, hG0, hb0, rfl, hd0⟩ := open_net Try.underlying32 (by kernel_rfl) (by kernel_rfl) Try.underlying3 Try.underlying30 Try.underlying37 (by kernel_rfl) (by kernel_rfl) Try.underlying3 Try.underlying3 Try.underlying3 (hval 0 32 v0 rfl rfl) h0
  obtain ⟨a1, rfl, rfl, rfl, wa1⟩ := open_int Try.underlying3 (hval 1 3 v1 rfl rfl) h1
  obtain ⟨a2, rfl, rfl, rfl, wa2⟩ := open_int Try.underlying3 (hval 2 3 v2 rfl rfl) h2
  obtain ⟨A3, c3, l3, rfl, hG3, hd3, hb3⟩ := open_sl1 Try.underlying22 Try.underlying3 (by kernel_rfl) (hval 3 22 v3 rfl rfl) h3
  refine (walk W N0 A0 c0 l0 hG0 a1 (wf_bd wa1) a2 (wf_bd wa2) A3 c3 l3 hG3).mono fun e W' ⟨he, hB⟩ => ?_
  subst he
  exact ⟨_, rfl, post_of_law laidOut rfl Try.underlying4 rfl (by intro t ht; rw [Try.params5] at ht; simp at ht; rcases ht with rfl | rfl | rfl | rfl <;> exact ⟨by kernel_rfl, of_decide_eq_true (by kernel_rfl)⟩) hW' rfl hB⟩

theorem holds : Rows.StarSparesSaid :=
  OpenClaim.holds_of_wide 5 Try.f5 rfl rfl rfl rfl rfl rfl rfl ⟨rfl, rfl, rfl, rfl, rfl⟩ rfl rfl rfl rfl rfl (by kernel_rfl) Try.func5 (by kernel_rfl)
    (of_decide_eq_true (by kernel_rfl)) (by unfold Func.isWrapper; first | (rw [if_pos (by decide +kernel)]; kernel_rfl) | (rw [if_neg (by decide +kernel)]; exact ⟨rfl, rfl⟩))
    (fun os started H enc _ => lifted os started H enc)
#print axioms holds
end Go.Proofs.Ytbgkkmcobijkgaa.StarSparesLaw
