/- For every net and two places: StarPlain answers true (without guesses what costs less than the end is looked from, and nothing that costs more), and the arguments read as before. No condition. -/
import Derived.Test.YtbgkkmcobijkgaaRows
import Derived.Test.YtbgkkmcobijkgaaVOpen
import Derived.Test.YtbgkkmcobijkgaaVStarUse
import Derived.Test.YtbgkkmcobijkgaaVStdCI
import Derived.IntWalk
namespace Go.Proofs.Ytbgkkmcobijkgaa.StarPlainLaw
open Go.ChangeShapes Go.WideShapes Go.ChangeAt Go.RowKit Go.Proofs.Ytbgkkmcobijkgaa NetLaw BellLaw DijkLaw HeurLaw StarLaw Go.Proofs.Ytbgkkmcobijkgaa.Net Go.Proofs.Ytbgkkmcobijkgaa.Dijk Go.Proofs.Ytbgkkmcobijkgaa.DijkTwo Go.Proofs.Ytbgkkmcobijkgaa.Refs Go.Proofs.Ytbgkkmcobijkgaa.Std Go.Proofs.Ytbgkkmcobijkgaa.Heur Go.Proofs.Ytbgkkmcobijkgaa.StarF
set_option linter.unusedSimpArgs false
set_option linter.unusedVariables false
theorem look_both {N : Int} {l : List E} {a b : Int} (h : Dijk.look N l [a] = 0) (h2 : Dijk.look N l [b] = 0) : Dijk.look N l [a, b] = 0 := by
  unfold Dijk.look at h h2 ⊢
  split at h
  · rename_i h1; exact absurd h h1
  · rename_i h1
    rw [if_neg h1] at h2 ⊢
    simp only [lookE] at h h2 ⊢
    split at h
    · omega
    · rename_i h3; rw [if_neg h3]; exact h2
set_option maxRecDepth 100000 in
set_option maxHeartbeats 4000000 in
theorem walk (w : World) (N : Int) (A : Option Addr) (c : Nat) (l : List E) (hA : Arg w 3 ce A c l) (a : Int) (ha : -9223372036854775808 ≤ a ∧ a ≤ 9223372036854775807) (b : Int) (hb : -9223372036854775808 ≤ b ∧ b ≤ 9223372036854775807) :
    Calls Try.prog 4 #[.agg #[.int .i64 N, .slice A l.length c], .int .i64 a, .int .i64 b] w fun e w' => e = .returned (.bool true) ∧ Below w.heap.size w w' := by
  have hs := hA.sl
  have hll : l.length ≤ 9223372036854775807 := Nat.le_trans hA.cap hA.max
  clear hA ha hb
  have KEY0 := Lib.hid (fun W g hl A' ch hh => two_run [0, 0] (.inr rfl) W g hl A' ch hh)
  have KEY1 := Lib.hid (fun W A A' c c' h h' => equal_int' A A' 2 2 c c' [0, 1] [0, 1] W.heap.size W.heap.size W h h' rfl rfl (by decide) true (by decide))
  have HK := Lib.hid (fun W hW => nbox (N := N) (c := c) (W := W) (Ah := none) (h := []) hs Sl.nil hW)
  have HB0 := Lib.hid (Below.refl (w.heap.size + 1) (w.alloc (.cells #[.int .i64 N, .slice A l.length c] 32)))
  have klook := fun W A' h1 h2 => Dijk.look_any N A c l A' 1 1 [b] W h1 h2 rfl hll (by decide)
  by_cases hx : Dijk.look N l [a] = 0
  · have kdist := fun W h1 => dist_yes N A c l a hll hx W h1
    by_cases hy : Dijk.look N l [b] = 0
    · have hlk := look_both hx hy
      obtain ⟨hg, hc, ⟨a0, a1⟩, b0, b1⟩ := DijkWay.looks_zero hlk
      have hN1 := hg.lo
      have hN2 := hg.hi
      obtain ⟨n, rfl⟩ := Int.eq_ofNat_of_zero_le (show 0 ≤ N by omega)
      obtain ⟨f, rfl⟩ := Int.eq_ofNat_of_zero_le a0
      obtain ⟨t, rfl⟩ := Int.eq_ofNat_of_zero_le b0
      have hsl := slook_zeros hlk
      have hC := cons_zero (t := t) hg hc (by omega)
      have hrl : (List.replicate n (0 : Int)).length = n := by simp
      have krun := fun W Ah h1 h2 => run_form n f t A c l Ah n (List.replicate n 0) W h1 h2 hll (by omega)
      rw [hrl] at krun
      rw [hy] at klook
      simp only [Int.toNat_natCast] at kdist
      have hcc : ∀ e ∈ l, 1 ≤ e.2.2 ∧ e.2.2 ≤ 10000 := fun e he => ⟨hc e he, (hg.cost e he).2⟩
      have hcase := fun W e W' (h : RunSays n f t l (List.replicate n 0) W e W') => says_cases h hsl
      have hnone := fun (D P ord M : List Int) (h1 : Rch (StarS.KK 1 1) n f t l (List.replicate n 0) D P ord) (h2 : ∀ u, ¬ Opn n D ord u) (h3 : Sh n f l M) => Rch.none (q := 1) (p := 1) (fun c g => by unfold StarS.KK; omega) hC hg.ends hcc (by omega) (by omega) (by omega) (by decide) (by decide) h1 h2 h3
      have hstar := fun (D P ord M : List Int) (h1 : Rch (StarS.KK 1 1) n f t l (List.replicate n 0) D P ord) (h2 : Nx (StarS.KK 1 1) n (List.replicate n 0) D ord t) (h3 : Sh n f l M) => Rch.star (K := StarS.KK 1 1) (fun c g => rfl) hC hg.ends hcc (by omega) (by omega) (by omega) h1 h2 h3
      have hzz : ∀ v : Int, 0 ≤ v → v < n → dg (List.replicate n 0) v = 0 := fun v h0 h1 => rep_dg h0 h1
      have hmk : ∀ w, (Instr.makeSlice 22 (.int .i64 (n : Int)) (.int .i64 (n : Int))).run Try.prog w = .ok (.slice (some ⟨w.heap.size, 0, none⟩) n n) (w.alloc (.cells (madeCells #[.int .i64 0] n) 3)) :=
        run_make_row' (P := Try.prog) 22 3 (.int .i64 0) 8 Try.underlying22 (by kernel_rfl) rfl .i64 .i64 n (by omega) (by omega)
      have hmade := fun (W : World) (base g : Nat) (h1 : base ≤ W.heap.size) (h2 : W.heap.size = g) => Grid.own_made n base W h1 (by omega) h2
      have KRUN := Lib.hid krun
      have KLOOK := Lib.hid klook
      have KDIST := Lib.hid kdist
      have HNONE := Lib.hid hnone
      have HSTAR := Lib.hid hstar
      have HCASE := Lib.hid hcase
      have HZZ := Lib.hid hzz
      have HMADE := Lib.hid hmade
      have htn : t < n := by omega
      have hn64 : n ≤ 64 := by omega
      have htn' : (t : Int) < (n : Int) := by omega
      clear krun klook kdist hnone hstar hcase hzz hmade hC hg hc hcc hlk hx hy hs hsl hrl
      go_enter Try.func4, Try.ntmps4
      go_wp2_with fail
      refine (two_any _).mono ?_
      rintro e w1 ⟨g, rfl, own1, hb1⟩
      have B1 := HB0.out.trans (hb1.mono (by simp))
      have Z1 : w.heap.size + 1 ≤ w1.heap.size := by have := B1.size; simpa using this
      clear hb1
      go_wp2_with fail
      refine (KEY0.out _ _ (own1.alloc _).sl.2 _ _ (sl_new' (by decide) w1 #[.int .i64 0, .int .i64 0] _ _ (by simp) rfl)).mono ?_
      rintro e w2 ⟨A1, c1, A2, c2, rfl, o1, o2, hb2⟩
      have B2 := (B1.alloc Z1 (.cells #[.int .i64 0, .int .i64 0] 3)).trans (hb2.mono (by simp; omega))
      have Z2 : w.heap.size + 1 ≤ w2.heap.size := by have := B2.size; simpa using this
      clear hb2 own1 B1 Z1
      go_wp2_with fail
      refine (KEY1.out _ _ _ _ _ ((o2.alloc _).alloc _).sl.2 (sl_new' (by decide) (w2.alloc (.cells #[.slice A1 2 c1, .int .i64 5, .slice A2 2 c2] 45)) #[.int .i64 0, .int .i64 1] 3 [0, 1] (by simp) rfl)).mono ?_
      rintro e w3 ⟨rfl, k3, rfl⟩
      have B3 := below_drewN ((B2.alloc Z2 (.cells #[.slice A1 2 c1, .int .i64 5, .slice A2 2 c2] 45)).alloc (by simp; omega) (.cells #[.int .i64 0, .int .i64 1] 3)) k3
      obtain ⟨w3, hw3⟩ : ∃ w3, w3 = (((w2.alloc (.cells #[.slice A1 2 c1, .int .i64 5, .slice A2 2 c2] 45)).alloc (.cells #[.int .i64 0, .int .i64 1] 3)).drewN k3) := ⟨_, rfl⟩
      rw [← hw3] at B3 ⊢
      clear hw3 o1 o2 B2 Z2
      obtain ⟨q0, q1, Z3, sg, sh, H3⟩ := HK.out _ B3
      go_wp2_with fail
      refine (KDIST.out _ sg).mono ?_
      rintro e w4 ⟨S6, M, rfl, own6, hb4, hsh⟩
      have B4 := B3.trans (hb4.mono Z3)
      have Z4 := (HK.out _ B4).2.2.1
      have hMl : M.length = n := by have := hsh.out.len; omega
      clear q0 q1 sg sh H3 hb4 B3 Z3
      obtain ⟨q0, q1, _, sg, _⟩ := HK.out _ B4
      go_wp2_with fail
      refine (KLOOK.out _ _ ((sg.keep ((Below.refl _ _).alloc (Nat.le_refl _) (.cells #[.int .i64 t] 3)) (Nat.le_refl _)).more (by simp)) (sl_new' (by decide) w4 #[.int .i64 t] 3 [(t : Int)] (by simp) rfl)).mono ?_
      rintro e w5 ⟨rfl, hb5⟩
      have b45 := ((Below.refl w4.heap.size w4).alloc (Nat.le_refl _) (.cells #[.int .i64 t] 3)).trans (hb5.mono (by simp))
      have B5 := B4.trans (b45.mono Z4)
      have Z5 := (HK.out _ B5).2.2.1
      have own5 := own6.keep b45
      clear q0 q1 sg hb5 B4 Z4
      obtain ⟨q0, q1, _, sg, _⟩ := HK.out _ B5
      have z5 : w.heap.size < w5.heap.size := by omega
      have OWN5 := Lib.hid own5
      have HSH := Lib.hid hsh
      have HML := Lib.hid hMl
      clear own5 own6 hsh b45 hMl
      have hz64 : n ≤ 64 := by omega
      have hmd := fun (W : World) (g : Nat) (h2 : W.heap.size = g) => (Grid.own_made n W.heap.size W (Nat.le_refl _) hz64 h2).sl.2
      have BZ := Lib.hid ((Below.refl w5.heap.size w5).alloc (Nat.le_refl _) (.cells (madeCells #[.int .i64 0] n) 3))
      have SZ := Lib.hid (hmd w5 w5.heap.size rfl)
      have hzf : Below (w5.heap.size + 1) (w5.alloc (.cells (madeCells #[.int .i64 0] n) 3)) ((w5.alloc (.cells (madeCells #[.int .i64 0] n) 3)).alloc (.cells #[.slice none 0 0, .int .i64 0, .slice none 0 0] 45)) := (Below.refl _ _).alloc (by simp) _
      have BZF := Lib.hid (BZ.out.trans (hzf.mono (Nat.le_succ _)))
      have SZF := Lib.hid ((SZ.out.keep hzf (by simp)).more hzf.size)
      have RZF : Hid (((w5.alloc (.cells (madeCells #[.int .i64 0] n) 3)).alloc (.cells #[.slice none 0 0, .int .i64 0, .slice none 0 0] 45)).heap[w5.heap.size + 1]? = some (.cells #[.slice none 0 0, .int .i64 0, .slice none 0 0] 45 (0, 0))) := Lib.hid (by
        have h := heap_alloc_new (w5.alloc (.cells (madeCells #[.int .i64 0] n) 3)) (.cells #[.slice none 0 0, .int .i64 0, .slice none 0 0] 45)
        simpa using h)
      have BFZ := Lib.hid (((Below.refl w5.heap.size w5).alloc (Nat.le_refl _) (.cells #[.slice none 0 0, .int .i64 0, .slice none 0 0] 45)).alloc (by simp) (.cells (madeCells #[.int .i64 0] n) 3))
      have SFZ := Lib.hid (hmd (w5.alloc (.cells #[.slice none 0 0, .int .i64 0, .slice none 0 0] 45)) (w5.heap.size + 1) (by simp))
      have RFZ := Lib.hid (blk_alloc (heap_alloc_new w5 (.cells #[.slice none 0 0, .int .i64 0, .slice none 0 0] 45)) (.cells (madeCells #[.int .i64 0] n) 3))
      have BZd := Lib.hid BZ.out.drew
      have BZFd := Lib.hid BZF.out.drew
      have BFZd := Lib.hid BFZ.out.drew
      have slz : Sl (w5.alloc (.cells (madeCells #[.int .i64 0] n) 3)).drew (w5.alloc (.cells (madeCells #[.int .i64 0] n) 3)).drew.heap.size 1 ci (some ⟨w5.heap.size, 0, none⟩) (List.replicate n 0) := SZ.out.keep (Below.refl _ _).drew (Nat.le_refl _)
      have slzf : Sl ((w5.alloc (.cells (madeCells #[.int .i64 0] n) 3)).alloc (.cells #[.slice none 0 0, .int .i64 0, .slice none 0 0] 45)).drew ((w5.alloc (.cells (madeCells #[.int .i64 0] n) 3)).alloc (.cells #[.slice none 0 0, .int .i64 0, .slice none 0 0] 45)).drew.heap.size 1 ci (some ⟨w5.heap.size, 0, none⟩) (List.replicate n 0) := SZF.out.keep (Below.refl _ _).drew (Nat.le_refl _)
      have slfz : Sl ((w5.alloc (.cells #[.slice none 0 0, .int .i64 0, .slice none 0 0] 45)).alloc (.cells (madeCells #[.int .i64 0] n) 3)).drew ((w5.alloc (.cells #[.slice none 0 0, .int .i64 0, .slice none 0 0] 45)).alloc (.cells (madeCells #[.int .i64 0] n) 3)).drew.heap.size 1 ci (some ⟨w5.heap.size + 1, 0, none⟩) (List.replicate n 0) := SFZ.out.keep (Below.refl _ _).drew (Nat.le_refl _)
      have rzf : ((w5.alloc (.cells (madeCells #[.int .i64 0] n) 3)).alloc (.cells #[.slice none 0 0, .int .i64 0, .slice none 0 0] 45)).drew.heap[w5.heap.size + 1]? = some (.cells #[.slice none 0 0, .int .i64 0, .slice none 0 0] 45 (0, 0)) := RZF.out
      have rfz : ((w5.alloc (.cells #[.slice none 0 0, .int .i64 0, .slice none 0 0] 45)).alloc (.cells (madeCells #[.int .i64 0] n) 3)).drew.heap[w5.heap.size]? = some (.cells #[.slice none 0 0, .int .i64 0, .slice none 0 0] 45 (0, 0)) := RFZ.out
      have SLZ := Lib.hid slz
      have SLZF := Lib.hid slzf
      have SLFZ := Lib.hid slfz
      have RZFd := Lib.hid rzf
      have RFZd := Lib.hid rfz
      clear slz slzf slfz rzf rfz BZ BZF BFZ SZ SZF SFZ RZF RFZ
      have krung := fun W g (h : Below w5.heap.size w5 W) h2 => KRUN.out W (some ⟨g, 0, none⟩) ((sg.keep h (Nat.le_refl _)).more h.size) h2
      have KRG := Lib.hid krung
      clear hmd hzf krung
      go_upto_region 7 with fail
      go_cut [10, 11] from 45 to 53 (fun sE sF wx => ∃ (R : Nat) (xe : Int) (A1 : Option Addr) (m c1 : Nat) (co : Int) (A2 : Option Addr) (k c2 : Nat), sE = .int .i64 xe ∧ sF = .pointer (some ⟨R, 0, none⟩) ∧ Hid (wx.heap[R]? = some (.cells #[.slice A1 m c1, .int .i64 co, .slice A2 k c2] 45 (0, 0))) ∧ Hid (RunSays n f t l (List.replicate n 0) w5 (.returned (.tuple #[.agg #[.slice A1 m c1, .int .i64 co, .slice A2 k c2], .int .i64 xe])) wx) ∧ w5.heap.size ≤ R)
      case first =>
        go_region_held3 (fun w' => w'.cell? ⟨w.heap.size, 0, none⟩ = some (.int .i64 n) ∧ w'.cell? ⟨w.heap.size, 1, none⟩ = some (.slice A l.length c))
          (first
            | go_keep
            | (go_split_ands
               exact ⟨far3 x0 (by omega) _ _ _, far3 x1 (by omega) _ _ _⟩)
            | (go_split_ands
               exact ⟨x0, x1⟩))
          (first
            | (go_at_call 23; refine (KRG.out _ _ (by with_reducible exact BZd.out) (by with_reducible exact SLZ.out)).mono ?_; rintro e w6 ⟨A1, m, c1, co, A2, k, c2, xe, rfl, hb6, HSAYS⟩; have BW := BZd; have hz6 := hb6.size; obtain ⟨x0, x1, _⟩ := HK.out _ (B5.trans ((BW.out.trans (hb6.mono BW.out.size)).mono (by omega))))
            | (go_at_call 23; refine (KRG.out _ _ (by with_reducible exact BZFd.out) (by with_reducible exact SLZF.out)).mono ?_; rintro e w6 ⟨A1, m, c1, co, A2, k, c2, xe, rfl, hb6, HSAYS⟩; have BW := BZFd; have hr6 := blk_below RZFd.out hb6 (by simp); obtain ⟨d0, d1, d2, e0, e1, e2⟩ := fnd_cells hr6; have hR6 := lt_of_block hr6; obtain ⟨x0, x1, _⟩ := HK.out _ (B5.trans ((BW.out.trans (hb6.mono BW.out.size)).mono (by omega))))
            | (go_at_call 23; refine (KRG.out _ _ (by with_reducible exact BFZd.out) (by with_reducible exact SLFZ.out)).mono ?_; rintro e w6 ⟨A1, m, c1, co, A2, k, c2, xe, rfl, hb6, HSAYS⟩; have BW := BFZd; have hr6 := blk_below RFZd.out hb6 (by simp; omega); obtain ⟨d0, d1, d2, e0, e1, e2⟩ := fnd_cells hr6; have hR6 := lt_of_block hr6; obtain ⟨x0, x1, _⟩ := HK.out _ (B5.trans ((BW.out.trans (hb6.mono BW.out.size)).mono (by omega))))
            | (go_at_call 23; go_must (exact Nat.zero)))
        all_goals
          try simp only [Act.put, List.getElem_toArray, List.getElem_cons_succ, List.getElem_cons_zero, List.setIfInBounds_toArray, List.set_cons_zero, List.set_cons_succ]
          go_wp2_with fail
          go_meet
          first
            | exact ⟨_, xe, A1, m, c1, co, A2, k, c2, rfl, rfl, Lib.hid (heap_alloc_new _ _), Lib.hid (says_alloc HSAYS.out BW.out _), Nat.le_trans BW.out.size hz6⟩
            | exact ⟨_, xe, A1, m, c1, co, A2, k, c2, rfl, rfl, Lib.hid (fnd_set hr6 _ _ _), Lib.hid (says_set HSAYS.out hr6 BW.out (by simp) _ _ _), by simp⟩
      case rest =>
      obtain ⟨R, xe, A1, m, c1, co, A2, k, c2, rfl, rfl, HRB, HSAYS, hR⟩ := hcut
      clear BZd BZFd BFZd SLZ SLZF SLFZ RZFd RFZd KRG hz64
      have BC := HSAYS.out.2.2
      have B9 := B5.trans (BC.mono Z5)
      obtain ⟨D, P, ord, HR, hc⟩ := found_inv (HCASE.out w5 _ wc HSAYS.out)
      have hR9 := lt_of_block HRB.out
      have Z9 := (HK.out _ B9).2.2.1
      have H9 := (HK.out _ B9).2.2.2.2.2
      have own9 := OWN5.out.keep BC
      obtain ⟨dc, _⟩ := own_at1 HML.out own9 htn
      rw [getD_dg] at dc
      have hS6 := (own9.base_ S6 rfl).2
      have OWN9 := Lib.hid own9
      have HB9 := Lib.hid B9
      clear own9 q0 q1 sg B5 Z5 z5 B9
      rcases hc with ⟨rfl, pa, o1, o2, HNX, HFN, HPL, HOL, HDT, _⟩ | ⟨rfl, HNO⟩
      · obtain ⟨s1, s2, s3, s4, s5, s6⟩ := HSTAR.out D P ord M HR.out HNX.out HSH.out
        have hcin : ∀ v : Int, 0 ≤ v → v < n → dg M v < dg M t → v ∈ ord ++ [(t : Int)] := fun v h0 h1 h2 => List.mem_append_left _ (s6 v h0 h1 (by rw [HZZ.out v h0 h1]; omega))
        have hcout : ∀ v : Int, 0 ≤ v → v < n → dg M t < dg M v → v ∉ ord ++ [(t : Int)] := fun v h0 h1 h2 h3 => by
          have h4 := (s3 v h3).2.2.2
          rw [HZZ.out v h0 h1] at h4
          omega
        obtain ⟨c0', c1', c2', _⟩ := fnd_cells HRB.out
        have HCIN := Lib.hid hcin
        have HCOUT := Lib.hid hcout
        have hk64 : k ≤ 64 := by have := HFN.out.olen; have := HOL.out; omega
        have kc := fun W (hW : Below wc.heap.size wc W) (v : Int) b hb => contains_int A2 c2 k (ord ++ [(t : Int)]) v W.heap.size W ((o2.sl.2.keep hW (Nat.le_refl _)).more hW.size) HOL.out (by omega) b hb
        have KC := Lib.hid kc
        obtain ⟨y, hy⟩ : ∃ y, dg M (t : Int) = y := ⟨_, rfl⟩
        rw [hy] at dc HCIN HCOUT
        clear s1 s2 s3 s4 s5 s6 hcin hcout o1 o2 kc hy c0' c1'
        go_wp2
        go_loopw [67] (fun i wr => ∃ j : Nat, j ≤ n ∧ i = .int .i64 j ∧ Hid (Below wc.heap.size wc wr)) (fun i _ => n - (intOf i).toNat)
        case atStart => exact ⟨0, Nat.zero_le _, rfl, Lib.hid (Below.refl _ _)⟩
        case round =>
          obtain ⟨j, hj, rfl, HB⟩ := hrel
          have hBW := HB.out
          have H10 := H9.trans (hBW.mono H9.size)
          have hzr := hBW.size
          have e2 := ((keepAt hBW hR9).1 2).trans c2'
          have ed := ((keepAt hBW hS6).1 t).trans dc
          have hS9 : S6 < wr.heap.size := by omega
          have hRr : R < wr.heap.size := by omega
          clear c2' dc
          by_cases hlt : j < n
          · obtain ⟨mc, _⟩ := own_at1 HML.out (OWN9.out.keep hBW) hlt
            rw [getD_dg] at mc
            have hi := HCIN.out j (by omega) (by omega)
            have ho := HCOUT.out j (by omega) (by omega)
            have hjn : (j : Int) < (n : Int) := by omega
            obtain ⟨x, hx⟩ : ∃ x, dg M (j : Int) = x := ⟨_, rfl⟩
            rw [hx] at mc hi ho
            clear hx
            rcases Int.lt_trichotomy x y with hxy | hxy | hxy
            · have hm := hi hxy
              have d1 : decide (x < y) = true := decide_eq_true hxy
              have d2 : decide (x > y) = false := decide_eq_false (by omega)
              have d2' : decide (y < x) = false := decide_eq_false (by omega)
              have n2 : ¬ (y < x) := by omega
              have KX := Lib.hid (KC.out wr hBW j true (by simp only [hm, decide_true]))
              clear hi ho hm hBW
              go_wp2_with fail
              refine KX.out.mono ?_
              rintro e w7 ⟨rfl, rfl⟩
              go_wp2
              go_roundw
              case rel => exact ⟨j + 1, by omega, by go_num, HB⟩
              case measure => simp [intOf]; omega
            · subst hxy
              have n1 : ¬ (x < x) := by omega
              have d1 : decide (x < x) = false := decide_eq_false n1
              have d2 : decide (x > x) = false := decide_eq_false n1
              clear hi ho hBW
              go_wp2
              go_roundw
              case rel => exact ⟨j + 1, by omega, by go_num, HB⟩
              case measure => simp [intOf]; omega
            · have hm := ho hxy
              have n1 : ¬ (x < y) := by omega
              have d1 : decide (x < y) = false := decide_eq_false n1
              have d2 : decide (x > y) = true := decide_eq_true hxy
              have d2' : decide (y < x) = true := decide_eq_true hxy
              have KX := Lib.hid (KC.out wr hBW j false (by simp only [hm, decide_false]))
              clear hi ho hm hBW
              go_wp2_with fail
              refine KX.out.mono ?_
              rintro e w7 ⟨rfl, rfl⟩
              go_wp2
              go_roundw
              case rel => exact ⟨j + 1, by omega, by go_num, HB⟩
              case measure => simp [intOf]; omega
          · obtain rfl : j = n := by omega
            go_wp2
            go_ret
            exact ⟨rfl, H10⟩
      · have hfar := HNONE.out D P ord M HR.out HNO.out HSH.out
        unfold far at hfar
        rw [hfar] at dc
        clear hfar
        go_wp2
        go_ret
        exact ⟨rfl, H9⟩
    · have hne : (Dijk.look N l [b] != 0) = true := by rw [bne_iff_ne]; exact hy
      generalize Dijk.look N l [b] = er at *
      have KLOOK := Lib.hid klook
      have KDIST := Lib.hid kdist
      clear klook kdist hx hy hs
      go_enter Try.func4, Try.ntmps4
      go_wp2_with fail
      refine (two_any _).mono ?_
      rintro e w1 ⟨g, rfl, own1, hb1⟩
      have B1 := HB0.out.trans (hb1.mono (by simp))
      have Z1 : w.heap.size + 1 ≤ w1.heap.size := by have := B1.size; simpa using this
      clear hb1
      go_wp2_with fail
      refine (KEY0.out _ _ (own1.alloc _).sl.2 _ _ (sl_new' (by decide) w1 #[.int .i64 0, .int .i64 0] _ _ (by simp) rfl)).mono ?_
      rintro e w2 ⟨A1, c1, A2, c2, rfl, o1, o2, hb2⟩
      have B2 := (B1.alloc Z1 (.cells #[.int .i64 0, .int .i64 0] 3)).trans (hb2.mono (by simp; omega))
      have Z2 : w.heap.size + 1 ≤ w2.heap.size := by have := B2.size; simpa using this
      clear hb2 own1 B1 Z1
      go_wp2_with fail
      refine (KEY1.out _ _ _ _ _ ((o2.alloc _).alloc _).sl.2 (sl_new' (by decide) (w2.alloc (.cells #[.slice A1 2 c1, .int .i64 5, .slice A2 2 c2] 45)) #[.int .i64 0, .int .i64 1] 3 [0, 1] (by simp) rfl)).mono ?_
      rintro e w3 ⟨rfl, k3, rfl⟩
      have B3 := below_drewN ((B2.alloc Z2 (.cells #[.slice A1 2 c1, .int .i64 5, .slice A2 2 c2] 45)).alloc (by simp; omega) (.cells #[.int .i64 0, .int .i64 1] 3)) k3
      obtain ⟨w3, hw3⟩ : ∃ w3, w3 = (((w2.alloc (.cells #[.slice A1 2 c1, .int .i64 5, .slice A2 2 c2] 45)).alloc (.cells #[.int .i64 0, .int .i64 1] 3)).drewN k3) := ⟨_, rfl⟩
      rw [← hw3] at B3 ⊢
      clear hw3 o1 o2 B2 Z2
      obtain ⟨q0, q1, Z3, sg, sh, H3⟩ := HK.out _ B3
      go_wp2_with fail
      refine (KDIST.out _ sg).mono ?_
      rintro e w4 ⟨S6, M, rfl, own6, hb4, _⟩
      have B4 := B3.trans (hb4.mono Z3)
      have Z4 := (HK.out _ B4).2.2.1
      clear q0 q1 sg sh H3 hb4 B3 Z3 own6
      obtain ⟨q0, q1, _, sg, _⟩ := HK.out _ B4
      go_wp2_with fail
      refine (KLOOK.out _ _ ((sg.keep ((Below.refl _ _).alloc (Nat.le_refl _) (.cells #[.int .i64 b] 3)) (Nat.le_refl _)).more (by simp)) (sl_new' (by decide) w4 #[.int .i64 b] 3 [b] (by simp) rfl)).mono ?_
      rintro e w5 ⟨rfl, hb5⟩
      have b45 := ((Below.refl w4.heap.size w4).alloc (Nat.le_refl _) (.cells #[.int .i64 b] 3)).trans (hb5.mono (by simp))
      have H5 := (HK.out _ (B4.trans (b45.mono Z4))).2.2.2.2.2
      clear q0 q1 sg hb5 B4 Z4 b45
      go_wp2
      go_ret
      exact ⟨rfl, H5⟩
  · have kdist := fun W h1 => dist_no N A c l a hll hx W h1
    have hne : (Dijk.look N l [a] != 0) = true := by rw [bne_iff_ne]; exact hx
    generalize Dijk.look N l [a] = er at *
    have KDIST := Lib.hid kdist
    clear kdist klook hx hs
    go_enter Try.func4, Try.ntmps4
    go_wp2_with fail
    refine (two_any _).mono ?_
    rintro e w1 ⟨g, rfl, own1, hb1⟩
    have B1 := HB0.out.trans (hb1.mono (by simp))
    have Z1 : w.heap.size + 1 ≤ w1.heap.size := by have := B1.size; simpa using this
    clear hb1
    go_wp2_with fail
    refine (KEY0.out _ _ (own1.alloc _).sl.2 _ _ (sl_new' (by decide) w1 #[.int .i64 0, .int .i64 0] _ _ (by simp) rfl)).mono ?_
    rintro e w2 ⟨A1, c1, A2, c2, rfl, o1, o2, hb2⟩
    have B2 := (B1.alloc Z1 (.cells #[.int .i64 0, .int .i64 0] 3)).trans (hb2.mono (by simp; omega))
    have Z2 : w.heap.size + 1 ≤ w2.heap.size := by have := B2.size; simpa using this
    clear hb2 own1 B1 Z1
    go_wp2_with fail
    refine (KEY1.out _ _ _ _ _ ((o2.alloc _).alloc _).sl.2 (sl_new' (by decide) (w2.alloc (.cells #[.slice A1 2 c1, .int .i64 5, .slice A2 2 c2] 45)) #[.int .i64 0, .int .i64 1] 3 [0, 1] (by simp) rfl)).mono ?_
    rintro e w3 ⟨rfl, k3, rfl⟩
    have B3 := below_drewN ((B2.alloc Z2 (.cells #[.slice A1 2 c1, .int .i64 5, .slice A2 2 c2] 45)).alloc (by simp; omega) (.cells #[.int .i64 0, .int .i64 1] 3)) k3
    obtain ⟨w3, hw3⟩ : ∃ w3, w3 = (((w2.alloc (.cells #[.slice A1 2 c1, .int .i64 5, .slice A2 2 c2] 45)).alloc (.cells #[.int .i64 0, .int .i64 1] 3)).drewN k3) := ⟨_, rfl⟩
    rw [← hw3] at B3 ⊢
    clear hw3 o1 o2 B2 Z2
    obtain ⟨q0, q1, Z3, sg, sh, H3⟩ := HK.out _ B3
    go_wp2_with fail
    refine (KDIST.out _ sg).mono ?_
    rintro e w4 ⟨rfl, hb4⟩
    have H4 := (HK.out _ (B3.trans (hb4.mono Z3))).2.2.2.2.2
    clear q0 q1 sg sh H3 hb4 B3 Z3
    go_wp2
    go_ret
    exact ⟨rfl, H4⟩

theorem own : ownKnob Try.prog.godebug = none := by kernel_rfl
theorem laidOut : laidOutB Try.prog = true := by kernel_rfl

set_option maxRecDepth 100000 in
theorem lifted (os : Os) (started : os.Started) (H : Type) (enc : TypeId × Value → H) :
    ReturnsInHanded {} Try.checked os 4 .any (Rows.starPlainSpec.pre6 enc Try.prog Try.f4 Rows.starPlainRow.domain false) (Rows.starPlainSpec.post enc Try.prog Try.f4 false true false false) := by
  refine returnsInHanded_of_change (C := Try.checked) own started (by kernel_rfl) Try.func4
    (ChangeSpec.witness6 (enc := enc) (C := Try.checked) false ⟨#[], #[.agg #[.int .i64 0, .slice none 0 0], .int .i64 0, .int .i64 0], []⟩ 8 (by kernel_rfl) (by kernel_rfl) (by kernel_rfl) (by kernel_rfl)) ?_
  intro W base args ds gs before hval0 hW hcnd _
  have hval : ∀ (j : Nat) t v, Try.f4.params[j]? = some t → args[j]? = some v → Value.okWide Try.prog W .any base t v := hval0
  have hW' := hW
  obtain ⟨p, q, hA0, hV, rfl, hfz, hnd⟩ := hW
  have hA : DataW.TrodAll enc Try.prog W 0 (fun _ => true) true Try.f4.params.toList args.toList ds p := hA0
  rw [Try.params4] at hA hval
  obtain ⟨v0, vs0, d0, ds0, p0, q0, hargs, rfl, rfl, h0, r0⟩ := trodAll_cons hA
  obtain ⟨v1, vs1, d1, ds1, p1, q1, rfl, rfl, rfl, h1, r1⟩ := trodAll_cons r0
  obtain ⟨v2, vs2, d2, ds2, p2, q2, rfl, rfl, rfl, h2, r2⟩ := trodAll_cons r1
  obtain ⟨rfl, rfl, rfl⟩ := trodAll_nil r2
  obtain rfl : args = #[v0, v1, v2] := by cases args; simp_all
  obtain ⟨rfl, rfl⟩ := trodVars_none hV
  obtain ⟨N0, A0, c0, l0, dd0, rfl, hN0, hG0, hb0, rfl, hd0⟩ := open_net Try.underlying32 (by kernel_rfl) (by kernel_rfl) Try.underlying3 Try.underlying30 Try.underlying37 (by kernel_rfl) (by kernel_rfl) Try.underlying3 Try.underlying3 Try.underlying3 (hval 0 32 v0 rfl rfl) h0
  obtain ⟨a1, rfl, rfl, rfl, wa1⟩ := open_int Try.underlying3 (hval 1 3 v1 rfl rfl) h1
  obtain ⟨a2, rfl, rfl, rfl, wa2⟩ := open_int Try.underlying3 (hval 2 3 v2 rfl rfl) h2
  refine (walk W N0 A0 c0 l0 hG0 a1 (wf_bd wa1) a2 (wf_bd wa2)).mono fun e W' ⟨he, hB⟩ => ?_
  subst he
  exact ⟨_, rfl, post_of_law laidOut rfl Try.underlying4 rfl (by intro t ht; rw [Try.params4] at ht; simp at ht; rcases ht with rfl | rfl | rfl <;> exact ⟨by kernel_rfl, of_decide_eq_true (by kernel_rfl)⟩) hW' rfl hB⟩

theorem holds : Rows.StarPlainSaid :=
  OpenClaim.holds_of_wide 4 Try.f4 rfl rfl rfl rfl rfl rfl rfl ⟨rfl, rfl, rfl, rfl, rfl⟩ rfl rfl rfl rfl rfl (by kernel_rfl) Try.func4 (by kernel_rfl)
    (of_decide_eq_true (by kernel_rfl)) (by unfold Func.isWrapper; first | (rw [if_pos (by decide +kernel)]; kernel_rfl) | (rw [if_neg (by decide +kernel)]; exact ⟨rfl, rfl⟩))
    (fun os started H enc _ => lifted os started H enc)
#print axioms holds
end Go.Proofs.Ytbgkkmcobijkgaa.StarPlainLaw
