/- For every net, two places, list of guesses and weight: WeighBound answers true (what is found costs no more than the weight times the least; each place is looked from at most once; nothing is found just where there is no walk), and the arguments read as before. No condition. -/
import Derived.Test.YtbgkkmcobijkgaaRows
import Derived.Test.YtbgkkmcobijkgaaVOpen
import Derived.Test.YtbgkkmcobijkgaaVWeighUse
import Derived.Test.YtbgkkmcobijkgaaVStdOnce
import Derived.IntWalk
namespace Go.Proofs.Ytbgkkmcobijkgaa.WeighBoundLaw
open Go.ChangeShapes Go.WideShapes Go.ChangeAt Go.RowKit Go.Proofs.Ytbgkkmcobijkgaa NetLaw BellLaw DijkLaw HeurLaw StarLaw Go.Proofs.Ytbgkkmcobijkgaa.Net Go.Proofs.Ytbgkkmcobijkgaa.Dijk Go.Proofs.Ytbgkkmcobijkgaa.DijkTwo Go.Proofs.Ytbgkkmcobijkgaa.Refs Go.Proofs.Ytbgkkmcobijkgaa.Std Go.Proofs.Ytbgkkmcobijkgaa.Heur Go.Proofs.Ytbgkkmcobijkgaa.StarF
set_option linter.unusedSimpArgs false
set_option linter.unusedVariables false
theorem wbound {n f t : Nat} {l : List E} {h D P ord M : List Int} {q p : Int} (hr : Rch (StarW.KK q p) n f t l h D P ord) (hn : Nx (StarW.KK q p) n h D ord t) (hC : Cons n t l h) (hg : NetLaw.Good n l) (hc : ∀ e ∈ l, 1 ≤ e.2.2) (hf : f < n) (ht : t < n) (hq : 1 ≤ q) (hqp : q ≤ p) (hM : Sh n f l M) : dg D t * q ≤ p * dg M t ∧ 0 ≤ dg M t ∧ dg M t < far := by
  have hcc : ∀ e ∈ l, 1 ≤ e.2.2 ∧ e.2.2 ≤ 10000 := fun e he => ⟨hc e he, (hg.cost e he).2⟩
  have hst := hr.st hg.ends hcc hf
  have hw := hst.wk t (by omega) (by omega) hn.1.2.1
  have hle := hM.walk_le hg.ends hw hn.1.2.1 (fun e he => by have := hc e he; omega)
  have hlo := hM.lo t (by omega) (by omega)
  have hlt : dg M t < far := Int.lt_of_le_of_lt hle hn.1.2.1
  have h1 := Rch.end_cost (q := q) (p := p) (fun c g => rfl) hC hg.ends hcc hf (by have := hg.hi; omega) hq hqp hr hn (dg M t) (hM.wk t (by omega) (by omega) hlt) hlt
  exact ⟨by rw [Int.mul_comm]; exact h1, hlo.1, hlt⟩
set_option maxRecDepth 100000 in
set_option maxHeartbeats 4000000 in
theorem walk (w : World) (N : Int) (A : Option Addr) (c : Nat) (l : List E) (hA : Arg w 3 ce A c l) (a : Int) (ha : -9223372036854775808 ≤ a ∧ a ≤ 9223372036854775807) (b : Int) (hb : -9223372036854775808 ≤ b ∧ b ≤ 9223372036854775807) (Ah : Option Addr) (ch : Nat) (h : List Int) (hAh : Arg w 1 ci Ah ch h) (p q : Int) (hp : -9223372036854775808 ≤ p ∧ p ≤ 9223372036854775807) (hq : -9223372036854775808 ≤ q ∧ q ≤ 9223372036854775807) :
    Calls Try.prog 11 #[.agg #[.int .i64 N, .slice A l.length c], .int .i64 a, .int .i64 b, .slice Ah h.length ch, .agg #[.int .i64 p, .int .i64 q]] w fun e w' => e = .returned (.bool true) ∧ Below w.heap.size w w' := by
  have hs := hA.sl
  have hss := hAh.sl
  have hll : l.length ≤ 9223372036854775807 := Nat.le_trans hA.cap hA.max
  have hhl : h.length ≤ 9223372036854775807 := Nat.le_trans hAh.cap hAh.max
  clear hA hAh ha hb hp hq
  have KEY0 := Lib.hid (fun W g hl A' ch hh => wtwo_run 1 1 (by decide +kernel) [5, 0] (.inl rfl) W g hl A' ch hh)
  have HK := Lib.hid (fun W hW => nbox2 (N := N) (p := p) (q := q) (c := c) (W := W) hs hss hW)
  have HB0 := Lib.hid (Below.refl (w.heap.size + 1 + 1) ((w.alloc (.cells #[.int .i64 N, .slice A l.length c] 32)).alloc (.cells #[.int .i64 p, .int .i64 q] 54)))
  by_cases hx : slook N a b l h = 0 ∧ wgt p q = 0
  · obtain ⟨hx, hy⟩ := hx
    obtain ⟨hlk, hC⟩ := slook_zero.1 hx
    obtain ⟨⟨q1, q2, q3, q4, hq5⟩, hqp⟩ := wgt_zero.1 hy
    obtain ⟨hg, hc, ⟨a0, a1⟩, b0, b1⟩ := DijkWay.looks_zero hlk
    have hN1 := hg.lo
    have hN2 := hg.hi
    obtain ⟨n, rfl⟩ := Int.eq_ofNat_of_zero_le (show 0 ≤ N by omega)
    obtain ⟨f, rfl⟩ := Int.eq_ofNat_of_zero_le a0
    obtain ⟨t, rfl⟩ := Int.eq_ofNat_of_zero_le b0
    have krun := fun W h1 h2 => wrun_good n f t A c l Ah ch h p q W h1 h2 hll hhl hx hy
    have klook := fun W h1 h2 => slook_any n f t A c l Ah ch h W h1 h2 hll hhl
    have kdist := fun W h1 => dist_yes n A c l f hll (look_fst hlk) W h1
    rw [hx] at klook
    have kwgt := fun W => weight_any p q W
    rw [hy] at kwgt
    simp only [Int.toNat_natCast] at kdist
    have hcc : ∀ e ∈ l, 1 ≤ e.2.2 ∧ e.2.2 ≤ 10000 := fun e he => ⟨hc e he, (hg.cost e he).2⟩
    have hnone := fun (D P ord M : List Int) (h1 : Rch (StarW.KK q p) n f t l h D P ord) (h2 : ∀ u, ¬ Opn n D ord u) (h3 : Sh n f l M) => Rch.none (q := q) (p := p) (fun c g => rfl) hC hg.ends hcc (by omega) (by omega) (by omega) q1 hqp h1 h2 h3
    have hstar := fun (D P ord M : List Int) (h1 : Rch (StarW.KK q p) n f t l h D P ord) (h2 : Nx (StarW.KK q p) n h D ord t) (h3 : Sh n f l M) => wbound h1 h2 hC hg hc (by omega) (by omega) q1 hqp h3
    have hlen := hC.len
    have hbd := fun v h0 h1 => hC.bd (v := v) h0 h1
    have KRUN := Lib.hid krun
    have KLOOK := Lib.hid klook
    have KWGT := Lib.hid kwgt
    have KDIST := Lib.hid kdist
    have HNONE := Lib.hid hnone
    have HSTAR := Lib.hid hstar
    have HLEN := Lib.hid hlen
    have HBD := Lib.hid hbd
    have HHL := Lib.hid hhl
    have htn : t < n := by omega
    have htn' : (t : Int) < (n : Int) := by omega
    clear krun klook kwgt kdist hnone hstar hlen hbd hC hg hc hcc hlk hx hy hs hss hhl hq5
    go_enter Try.func11, Try.ntmps11
    go_wp2_with fail
    refine (two_any _).mono ?_
    rintro e w1 ⟨g, rfl, own1, hb1⟩
    have B1 := HB0.out.trans (hb1.mono (by simp))
    have Z1 : w.heap.size + 1 + 1 ≤ w1.heap.size := by have := B1.size; simpa using this
    clear hb1
    go_wp2_with fail
    refine (one_any _).mono ?_
    rintro e w1b ⟨rfl, hb1⟩
    have hk1 : Below w1.heap.size w1 w1b := ((Below.refl _ _).alloc (Nat.le_refl _) (.cells #[.int .i64 5, .int .i64 0] 3)).trans (hb1.mono (by simp))
    have sl1 := (own1.keep hk1).sl.2
    have si1 := ((sl_new' (sz := 1) (cell := ci) (by decide) w1 #[.int .i64 5, .int .i64 0] 3 [5, 0] rfl rfl).keep hb1 (Nat.le_refl _)).more hb1.size
    have B1b := (B1.alloc Z1 (.cells #[.int .i64 5, .int .i64 0] 3)).trans (hb1.mono (by simp; omega))
    have Z1b : w.heap.size + 1 + 1 ≤ w1b.heap.size := by have := B1b.size; simpa using this
    clear hb1 own1 B1 Z1 hk1
    go_wp2_with fail
    refine (KEY0.out _ _ sl1 _ _ si1).mono ?_
    rintro e w2 ⟨A1, c1, A2, c2, rfl, o1, o2, hb2⟩
    have B2 := B1b.trans (hb2.mono Z1b)
    have Z2 : w.heap.size + 1 + 1 ≤ w2.heap.size := by have := B2.size; simpa using this
    have B3 := B2.alloc Z2 (.cells #[.slice A1 2 c1, .int .i64 5, .slice A2 2 c2] 45)
    clear hb2 sl1 si1 B1b Z1b o1 o2 B2 Z2
    obtain ⟨q0, q1, r0, r1, Z3, sg, sh, H3⟩ := HK.out _ B3
    go_wp2_with fail
    refine (KRUN.out _ sg sh).mono ?_
    rintro e w4 ⟨D, P, ord, HR, hcase, hb4⟩
    have B4 := B3.trans (hb4.mono Z3)
    clear q0 q1 r0 r1 sg sh Z3 H3 hb4
    obtain ⟨q0, q1, r0, r1, Z4, sg, sh, H4⟩ := HK.out _ B4
    rcases hcase with ⟨pa, m, A1, c1, k, A2, c2, co, rfl, o1, o2, HNX, HFN, HPL, HOL, HDT, _⟩ | ⟨rfl, HNO⟩
    · have B4' := B4.alloc Z4 (.cells #[.slice A1 m c1, .int .i64 co, .slice A2 k c2] 45)
      have HF := Lib.hid (fun W hW => fbox (W := W) (co := co) o1 o2 hW)
      have hkc := own_kc o2
      have BF4 := Lib.hid (Below.refl (w4.heap.size + 1) (w4.alloc (.cells #[.slice A1 m c1, .int .i64 co, .slice A2 k c2] 45)))
      clear q0 q1 r0 r1 sg sh
      obtain ⟨q0, q1, r0, r1, Z5, sg, sh, H5⟩ := HK.out _ B4'
      clear o1 o2 B3 B4
      go_wp2_with fail
      refine (KLOOK.out _ sg sh).mono ?_
      rintro e w5 ⟨rfl, hb5⟩
      have B5 := B4'.trans (hb5.mono Z5)
      have BF5 := BF4.out.trans (hb5.mono (by simp))
      have ZF5 : w4.heap.size + 1 ≤ w5.heap.size := by have := BF5.size; simpa using this
      clear q0 q1 r0 r1 sg sh Z5 H5 hb5 B4' BF4
      obtain ⟨q0, q1, r0, r1, Z5, sg, sh, H5⟩ := HK.out _ B5
      have z50 : w.heap.size < w5.heap.size := by omega
      have z51 : w.heap.size + 1 < w5.heap.size := by omega
      go_wp2_with fail
      refine (KWGT.out _).mono ?_
      rintro e w5b ⟨rfl, hb5⟩
      have B5b := B5.trans (hb5.mono Z5)
      have BF5b := BF5.trans (hb5.mono ZF5)
      have ZF5b : w4.heap.size + 1 ≤ w5b.heap.size := by have := hb5.size; omega
      clear q0 q1 r0 r1 sg sh Z5 H5 hb5 B5 BF5 ZF5 z50 z51
      obtain ⟨q0, q1, r0, r1, Z5, sg, sh, H5⟩ := HK.out _ B5b
      go_wp2_with fail
      refine (KDIST.out _ sg).mono ?_
      rintro e w6 ⟨S6, M, rfl, own6, hb6, hsh⟩
      have B6 := B5b.trans (hb6.mono Z5)
      have BF6 := BF5b.trans (hb6.mono ZF5b)
      obtain ⟨s1, s2, s3⟩ := HSTAR.out D P ord M HR.out HNX.out hsh.out
      rw [HDT.out] at s1
      have hMl : M.length = n := by have := hsh.out.len; omega
      obtain ⟨dc, _⟩ := own_at1 hMl own6 htn
      rw [getD_dg] at dc
      obtain ⟨mt, hmt⟩ : ∃ mt, dg M (t : Int) = mt := ⟨_, rfl⟩
      rw [hmt] at s1 s2 s3 dc
      clear q0 q1 r0 r1 sg sh Z5 H5 hb6 B5b BF5b ZF5b Z4 H4 hmt
      obtain ⟨q0, q1, r0, r1, Z6, sg, sh, H6⟩ := HK.out _ B6
      obtain ⟨f0, f1, f2, Z46, sp, so⟩ := HF.out _ BF6
      have hS6 := (own6.base_ S6 rfl).2
      have hco := HFN.out.co0
      unfold far at s3 hco
      have hb1 := Int.mul_le_mul (show co ≤ 1099511627776 by omega) q2 (show 0 ≤ q by omega) (by decide)
      have hb2 := Int.mul_le_mul q4 (show mt ≤ 1099511627776 by omega) s2 (by decide)
      have hb3 := Int.mul_nonneg hco.1 (show 0 ≤ q by omega)
      have hb4' := Int.mul_nonneg (show 0 ≤ p by omega) s2
      have kwalks := fun W (h1 : Below (w.heap.size + 1 + 1) ((w.alloc (.cells #[.int .i64 n, .slice A l.length c] 32)).alloc (.cells #[.int .i64 p, .int .i64 q] 54)) W) (h2 : Below (w4.heap.size + 1) (w4.alloc (.cells #[.slice A1 m c1, .int .i64 co, .slice A2 k c2] 45)) W) (h3 : Below w6.heap.size w6 W) => (walks_any n co f t A c l A1 m c1 pa W (HK.out W h1).2.2.2.2.2.1 (HF.out W h2).2.2.2.2.1 HPL.out hll (by have := HFN.out.plen; have := HPL.out; omega) HFN.out.cost HFN.out.head HFN.out.last).mono (fun e W' (hh : _ ∧ Below W.heap.size W W') => (⟨hh.1, h1.trans (hh.2.mono (HK.out W h1).2.2.2.2.1), h2.trans (hh.2.mono (HF.out W h2).2.2.2.1), h3.trans (hh.2.mono h3.size)⟩ : _ ∧ Below (w.heap.size + 1 + 1) ((w.alloc (.cells #[.int .i64 n, .slice A l.length c] 32)).alloc (.cells #[.int .i64 p, .int .i64 q] 54)) W' ∧ Below (w4.heap.size + 1) (w4.alloc (.cells #[.slice A1 m c1, .int .i64 co, .slice A2 k c2] 45)) W' ∧ Below w6.heap.size w6 W'))
      have ktimes := fun W (h1 : Below (w.heap.size + 1 + 1) ((w.alloc (.cells #[.int .i64 n, .slice A l.length c] 32)).alloc (.cells #[.int .i64 p, .int .i64 q] 54)) W) (h2 : Below (w4.heap.size + 1) (w4.alloc (.cells #[.slice A1 m c1, .int .i64 co, .slice A2 k c2] 45)) W) (h3 : Below w6.heap.size w6 W) => (times_any co p q mt W (by omega) (by omega) s1).mono (fun e W' (hh : _ ∧ Below W.heap.size W W') => (⟨hh.1, h1.trans (hh.2.mono (HK.out W h1).2.2.2.2.1), h2.trans (hh.2.mono (HF.out W h2).2.2.2.1), h3.trans (hh.2.mono h3.size)⟩ : _ ∧ Below (w.heap.size + 1 + 1) ((w.alloc (.cells #[.int .i64 n, .slice A l.length c] 32)).alloc (.cells #[.int .i64 p, .int .i64 q] 54)) W' ∧ Below (w4.heap.size + 1) (w4.alloc (.cells #[.slice A1 m c1, .int .i64 co, .slice A2 k c2] 45)) W' ∧ Below w6.heap.size w6 W'))
      have konce := fun W (h2 : Below (w4.heap.size + 1) (w4.alloc (.cells #[.slice A1 m c1, .int .i64 co, .slice A2 k c2] 45)) W) => once_wide A2 c2 k (ord ++ [(t : Int)]) W.heap.size W (HF.out W h2).2.2.2.2.2 HOL.out hkc (by have := HFN.out.olen; have := HOL.out; omega) true (by simp only [HFN.out.nd, decide_true])
      have hkn : ((k : Int) ≤ (n : Int)) = True := eq_true (by have := HFN.out.olenN; have := HOL.out; omega)
      have hkn2 : (k : Int) ≤ (n : Int) := by have := HFN.out.olenN; have := HOL.out; omega
      have KW := Lib.hid kwalks
      have KT := Lib.hid ktimes
      have KO := Lib.hid konce
      have BB6 := Lib.hid (Below.refl w6.heap.size w6)
      have H6H := Lib.hid H6
      clear kwalks ktimes konce s1 s2 s3 hMl sg sh H6 hsh own6 hkc sp so hb1 hb2 hb3 hb4' hco hkn
      go_upto_region 12 with fail
      go_region_held3 (fun w' => w'.cell? ⟨w.heap.size, 0, none⟩ = some (.int .i64 n) ∧ w'.cell? ⟨w.heap.size, 1, none⟩ = some (.slice A l.length c) ∧ w'.cell? ⟨w.heap.size + 1, 0, none⟩ = some (.int .i64 p) ∧ w'.cell? ⟨w.heap.size + 1, 1, none⟩ = some (.int .i64 q) ∧ w'.cell? ⟨w4.heap.size, 0, none⟩ = some (.slice A1 m c1) ∧ w'.cell? ⟨w4.heap.size, 1, none⟩ = some (.int .i64 co) ∧ w'.cell? ⟨w4.heap.size, 2, none⟩ = some (.slice A2 k c2) ∧ w'.cell? ⟨S6, t, none⟩ = some (.int .i64 mt))
        (first
          | go_keep
          | (go_split_ands
             exact ⟨x0, x1, x2, x3, y0, y1, y2, xd⟩))
        (first
          | (go_at_call 36; refine (KW.out _ (by first | exact B6 | exact B6.drew | exact below_drewN B6 _) (by first | exact BF6 | exact BF6.drew | exact below_drewN BF6 _) (by first | exact BB6.out | exact BB6.out.drew | exact below_drewN BB6.out _)).mono ?_; rintro e w7 ⟨rfl, B7, BF7, BB7⟩; obtain ⟨x0, x1, x2, x3, _⟩ := HK.out _ B7; obtain ⟨y0, y1, y2, _⟩ := HF.out _ BF7; have xd := ((keepAt BB7 hS6).1 t).trans dc)
          | (go_at_call 37; refine (KT.out _ (by first | exact B7 | exact B7.drew | exact below_drewN B7 _) (by first | exact BF7 | exact BF7.drew | exact below_drewN BF7 _) (by first | exact BB7 | exact BB7.drew | exact below_drewN BB7 _)).mono ?_; clear x0 x1 x2 x3 y0 y1 y2 xd; rintro e w8 ⟨rfl, B8, BF8, BB8⟩; obtain ⟨x0, x1, x2, x3, _⟩ := HK.out _ B8; obtain ⟨y0, y1, y2, _⟩ := HF.out _ BF8; have xd := ((keepAt BB8 hS6).1 t).trans dc)
          | (go_at_call 20; refine (KO.out _ (by first | exact BF8 | exact BF8.drew | exact below_drewN BF8 _)).mono ?_; rintro e w9 ⟨rfl, rfl⟩))
      all_goals
        have HEND := (HK.out _ B8).2.2.2.2.2.2.2
        clear x0 x1 x2 x3 y0 y1 y2 xd q0 q1 r0 r1 f0 f1 f2 dc
        go_wp2
        go_ret
        exact ⟨rfl, HEND⟩
    · have B4' := B4.alloc Z4 (.cells #[.slice none 0 0, .int .i64 0, .slice none 0 0] 45)
      clear q0 q1 r0 r1 sg sh
      obtain ⟨q0, q1, r0, r1, Z5, sg, sh, H5⟩ := HK.out _ B4'
      clear B3 B4
      go_wp2_with fail
      refine (KLOOK.out _ sg sh).mono ?_
      rintro e w5 ⟨rfl, hb5⟩
      have B5 := B4'.trans (hb5.mono Z5)
      clear q0 q1 r0 r1 sg sh Z5 H5 hb5 B4'
      obtain ⟨q0, q1, r0, r1, Z5, sg, sh, H5⟩ := HK.out _ B5
      have z50 : w.heap.size < w5.heap.size := by omega
      have z51 : w.heap.size + 1 < w5.heap.size := by omega
      go_wp2_with fail
      refine (KWGT.out _).mono ?_
      rintro e w5b ⟨rfl, hb5⟩
      have B5b := B5.trans (hb5.mono Z5)
      clear q0 q1 r0 r1 sg sh Z5 H5 hb5 B5 z50 z51
      obtain ⟨q0, q1, r0, r1, Z5, sg, sh, H5⟩ := HK.out _ B5b
      go_wp2_with fail
      refine (KDIST.out _ sg).mono ?_
      rintro e w6 ⟨S6, M, rfl, own6, hb6, hsh⟩
      have H6 := H5.trans (hb6.mono H5.size)
      have hMl : M.length = n := by have := hsh.out.len; omega
      obtain ⟨dc, _⟩ := own_at1 hMl own6 htn
      have hfar := HNONE.out D P ord M HR.out HNO.out hsh.out
      unfold far at hfar
      rw [getD_dg, hfar] at dc
      have hS6 := (own6.base_ S6 rfl).2
      clear q0 q1 r0 r1 sg sh Z5 H5 hb6 own6 hMl hfar hsh B5b
      go_wp2
      go_ret
      exact ⟨rfl, H6⟩
  · have hbad : slook N a b l h ≠ 0 ∨ wgt p q ≠ 0 := by
      by_cases h1 : slook N a b l h = 0
      · exact .inr (fun h2 => hx ⟨h1, h2⟩)
      · exact .inl h1
    have krun := fun W h1 h2 => wrun_bad N a b A c l Ah ch h p q W h1 h2 hll hhl hbad
    have klook := fun W h1 h2 => slook_any N a b A c l Ah ch h W h1 h2 hll hhl
    have kwgt := fun W => weight_any p q W
    have KRUN := Lib.hid krun
    have KLOOK := Lib.hid klook
    have KWGT := Lib.hid kwgt
    clear krun klook kwgt hx hs hss hhl
    by_cases hs0 : slook N a b l h = 0
    · have hy := hbad.resolve_left (fun h => h hs0)
      have hne : (wgt p q != 0) = true := by rw [bne_iff_ne]; exact hy
      rw [hs0] at KLOOK
      generalize wgt p q = ew at *
      clear hs0 hy hbad
      go_enter Try.func11, Try.ntmps11
      go_wp2_with fail
      refine (two_any _).mono ?_
      rintro e w1 ⟨g, rfl, own1, hb1⟩
      have B1 := HB0.out.trans (hb1.mono (by simp))
      have Z1 : w.heap.size + 1 + 1 ≤ w1.heap.size := by have := B1.size; simpa using this
      clear hb1
      go_wp2_with fail
      refine (one_any _).mono ?_
      rintro e w1b ⟨rfl, hb1⟩
      have hk1 : Below w1.heap.size w1 w1b := ((Below.refl _ _).alloc (Nat.le_refl _) (.cells #[.int .i64 5, .int .i64 0] 3)).trans (hb1.mono (by simp))
      have sl1 := (own1.keep hk1).sl.2
      have si1 := ((sl_new' (sz := 1) (cell := ci) (by decide) w1 #[.int .i64 5, .int .i64 0] 3 [5, 0] rfl rfl).keep hb1 (Nat.le_refl _)).more hb1.size
      have B1b := (B1.alloc Z1 (.cells #[.int .i64 5, .int .i64 0] 3)).trans (hb1.mono (by simp; omega))
      have Z1b : w.heap.size + 1 + 1 ≤ w1b.heap.size := by have := B1b.size; simpa using this
      clear hb1 own1 B1 Z1 hk1
      go_wp2_with fail
      refine (KEY0.out _ _ sl1 _ _ si1).mono ?_
      rintro e w2 ⟨A1, c1, A2, c2, rfl, o1, o2, hb2⟩
      have B2 := B1b.trans (hb2.mono Z1b)
      have Z2 : w.heap.size + 1 + 1 ≤ w2.heap.size := by have := B2.size; simpa using this
      have B3 := B2.alloc Z2 (.cells #[.slice A1 2 c1, .int .i64 5, .slice A2 2 c2] 45)
      clear hb2 sl1 si1 B1b Z1b o1 o2 B2 Z2
      obtain ⟨q0, q1, r0, r1, Z3, sg, sh, H3⟩ := HK.out _ B3
      go_wp2_with fail
      refine (KRUN.out _ sg sh).mono ?_
      rintro e w4 ⟨er, her, _, rfl, hb4⟩
      have B4 := B3.trans (hb4.mono Z3)
      have B4' := B4.alloc (HK.out _ B4).2.2.2.2.1 (.cells #[.slice none 0 0, .int .i64 0, .slice none 0 0] 45)
      clear q0 q1 r0 r1 sg sh Z3 H3 hb4
      obtain ⟨q0, q1, r0, r1, Z5, sg, sh, H5⟩ := HK.out _ B4'
      have hf := heap_alloc_new w4 (.cells #[.slice none 0 0, .int .i64 0, .slice none 0 0] 45)
      have HFB := Lib.hid hf
      clear hf B3 B4
      go_wp2_with fail
      refine (KLOOK.out _ sg sh).mono ?_
      rintro e w5 ⟨rfl, hb5⟩
      have hf := blk_below HFB.out hb5 (by simp)
      have f2 := blk_cell hf 2
      simp only [List.getElem?_toArray, List.getElem?_cons_zero, List.getElem?_cons_succ] at f2
      have z45 : w4.heap.size < w5.heap.size := lt_of_block hf
      have H6 := H5.trans (hb5.mono H5.size)
      have B5 := B4'.trans (hb5.mono Z5)
      clear q0 q1 r0 r1 sg sh Z5 H5 hb5 hf B4'
      obtain ⟨q0, q1, r0, r1, Z5, sg, sh, _⟩ := HK.out _ B5
      have z50 : w.heap.size < w5.heap.size := by omega
      have z51 : w.heap.size + 1 < w5.heap.size := by omega
      go_wp2_with fail
      refine (KWGT.out _).mono ?_
      rintro e w6 ⟨rfl, hb6⟩
      have f2' := ((keepAt hb6 z45).1 2).trans f2
      have H6' := H6.trans (hb6.mono H6.size)
      have z46 : w4.heap.size < w6.heap.size := by have := hb6.size; omega
      clear hb6 f2 q0 q1 r0 r1
      go_wp2
      go_ret
      exact ⟨rfl, H6'⟩
    · have hne : (slook N a b l h != 0) = true := by rw [bne_iff_ne]; exact hs0
      generalize slook N a b l h = es at *
      clear hs0 hbad
      go_enter Try.func11, Try.ntmps11
      go_wp2_with fail
      refine (two_any _).mono ?_
      rintro e w1 ⟨g, rfl, own1, hb1⟩
      have B1 := HB0.out.trans (hb1.mono (by simp))
      have Z1 : w.heap.size + 1 + 1 ≤ w1.heap.size := by have := B1.size; simpa using this
      clear hb1
      go_wp2_with fail
      refine (one_any _).mono ?_
      rintro e w1b ⟨rfl, hb1⟩
      have hk1 : Below w1.heap.size w1 w1b := ((Below.refl _ _).alloc (Nat.le_refl _) (.cells #[.int .i64 5, .int .i64 0] 3)).trans (hb1.mono (by simp))
      have sl1 := (own1.keep hk1).sl.2
      have si1 := ((sl_new' (sz := 1) (cell := ci) (by decide) w1 #[.int .i64 5, .int .i64 0] 3 [5, 0] rfl rfl).keep hb1 (Nat.le_refl _)).more hb1.size
      have B1b := (B1.alloc Z1 (.cells #[.int .i64 5, .int .i64 0] 3)).trans (hb1.mono (by simp; omega))
      have Z1b : w.heap.size + 1 + 1 ≤ w1b.heap.size := by have := B1b.size; simpa using this
      clear hb1 own1 B1 Z1 hk1
      go_wp2_with fail
      refine (KEY0.out _ _ sl1 _ _ si1).mono ?_
      rintro e w2 ⟨A1, c1, A2, c2, rfl, o1, o2, hb2⟩
      have B2 := B1b.trans (hb2.mono Z1b)
      have Z2 : w.heap.size + 1 + 1 ≤ w2.heap.size := by have := B2.size; simpa using this
      have B3 := B2.alloc Z2 (.cells #[.slice A1 2 c1, .int .i64 5, .slice A2 2 c2] 45)
      clear hb2 sl1 si1 B1b Z1b o1 o2 B2 Z2
      obtain ⟨q0, q1, r0, r1, Z3, sg, sh, H3⟩ := HK.out _ B3
      go_wp2_with fail
      refine (KRUN.out _ sg sh).mono ?_
      rintro e w4 ⟨er, her, _, rfl, hb4⟩
      have B4 := B3.trans (hb4.mono Z3)
      have B4' := B4.alloc (HK.out _ B4).2.2.2.2.1 (.cells #[.slice none 0 0, .int .i64 0, .slice none 0 0] 45)
      clear q0 q1 r0 r1 sg sh Z3 H3 hb4
      obtain ⟨q0, q1, r0, r1, Z5, sg, sh, H5⟩ := HK.out _ B4'
      have hf := heap_alloc_new w4 (.cells #[.slice none 0 0, .int .i64 0, .slice none 0 0] 45)
      have HFB := Lib.hid hf
      clear hf B3 B4
      go_wp2_with fail
      refine (KLOOK.out _ sg sh).mono ?_
      rintro e w5 ⟨rfl, hb5⟩
      have hf := blk_below HFB.out hb5 (by simp)
      have f2 := blk_cell hf 2
      simp only [List.getElem?_toArray, List.getElem?_cons_zero, List.getElem?_cons_succ] at f2
      have z45 : w4.heap.size < w5.heap.size := lt_of_block hf
      have H6 := H5.trans (hb5.mono H5.size)
      have B5 := B4'.trans (hb5.mono Z5)
      clear q0 q1 r0 r1 sg sh Z5 H5 hb5 hf B4'
      obtain ⟨q0, q1, r0, r1, Z5, sg, sh, _⟩ := HK.out _ B5
      clear q0 q1 r0 r1
      go_wp2
      go_ret
      exact ⟨rfl, H6⟩

theorem own : ownKnob Try.prog.godebug = none := by kernel_rfl
theorem laidOut : laidOutB Try.prog = true := by kernel_rfl

set_option maxRecDepth 100000 in
theorem lifted (os : Os) (started : os.Started) (H : Type) (enc : TypeId × Value → H) :
    ReturnsInHanded {} Try.checked os 11 .any (Rows.weighBoundSpec.pre6 enc Try.prog Try.f11 Rows.weighBoundRow.domain false) (Rows.weighBoundSpec.post enc Try.prog Try.f11 false true false false) := by
  refine returnsInHanded_of_change (C := Try.checked) own started (by kernel_rfl) Try.func11
    (ChangeSpec.witness6 (enc := enc) (C := Try.checked) false ⟨#[], #[.agg #[.int .i64 0, .slice none 0 0], .int .i64 0, .int .i64 0, .slice none 0 0, .agg #[.int .i64 0, .int .i64 0]], []⟩ 8 (by kernel_rfl) (by kernel_rfl) (by kernel_rfl) (by kernel_rfl)) ?_
  intro W base args ds gs before hval0 hW hcnd _
  have hval : ∀ (j : Nat) t v, Try.f11.params[j]? = some t → args[j]? = some v → Value.okWide Try.prog W .any base t v := hval0
  have hW' := hW
  obtain ⟨p, q, hA0, hV, rfl, hfz, hnd⟩ := hW
  have hA : DataW.TrodAll enc Try.prog W 0 (fun _ => true) true Try.f11.params.toList args.toList ds p := hA0
  rw [Try.params11] at hA hval
  obtain ⟨v0, vs0, d0, ds0, p0, q0, hargs, rfl, rfl, h0, r0⟩ := trodAll_cons hA
  obtain ⟨v1, vs1, d1, ds1, p1, q1, rfl, rfl, rfl, h1, r1⟩ := trodAll_cons r0
  obtain ⟨v2, vs2, d2, ds2, p2, q2, rfl, rfl, rfl, h2, r2⟩ := trodAll_cons r1
  obtain ⟨v3, vs3, d3, ds3, p3, q3, rfl, rfl, rfl, h3, r3⟩ := trodAll_cons r2
  obtain ⟨v4, vs4, d4, ds4, p4, q4, rfl, rfl, rfl, h4, r4⟩ := trodAll_cons r3
  obtain ⟨rfl, rfl, rfl⟩ := trodAll_nil r4
  obtain rfl : args = #[v0, v1, v2, v3, v4] := by cases args; simp_all
  obtain ⟨rfl, rfl⟩ := trodVars_none hV
  obtain ⟨N0, A0, c0, l0, dd0, rfl, hN0, hG0, hb0, rfl, hd0⟩ := open_net Try.underlying32 (by kernel_rfl) (by kernel_rfl) Try.underlying3 Try.underlying30 Try.underlying37 (by kernel_rfl) (by kernel_rfl) Try.underlying3 Try.underlying3 Try.underlying3 (hval 0 32 v0 rfl rfl) h0
  obtain ⟨a1, rfl, rfl, rfl, wa1⟩ := open_int Try.underlying3 (hval 1 3 v1 rfl rfl) h1
  obtain ⟨a2, rfl, rfl, rfl, wa2⟩ := open_int Try.underlying3 (hval 2 3 v2 rfl rfl) h2
  obtain ⟨A3, c3, l3, rfl, hG3, hd3, hb3⟩ := open_sl1 Try.underlying22 Try.underlying3 (by kernel_rfl) (hval 3 22 v3 rfl rfl) h3
  obtain ⟨a4, b4, rfl, rfl, rfl, ha4, hb4⟩ := open_ii Try.underlying54 (by kernel_rfl) (by kernel_rfl) Try.underlying3 Try.underlying3 (hval 4 54 v4 rfl rfl) h4
  refine (walk W N0 A0 c0 l0 hG0 a1 (wf_bd wa1) a2 (wf_bd wa2) A3 c3 l3 hG3 a4 b4 ha4 hb4).mono fun e W' ⟨he, hB⟩ => ?_
  subst he
  exact ⟨_, rfl, post_of_law laidOut rfl Try.underlying4 rfl (by intro t ht; rw [Try.params11] at ht; simp at ht; rcases ht with rfl | rfl | rfl | rfl | rfl <;> exact ⟨by kernel_rfl, of_decide_eq_true (by kernel_rfl)⟩) hW' rfl hB⟩

theorem holds : Rows.WeighBoundSaid :=
  OpenClaim.holds_of_wide 11 Try.f11 rfl rfl rfl rfl rfl rfl rfl ⟨rfl, rfl, rfl, rfl, rfl⟩ rfl rfl rfl rfl rfl (by kernel_rfl) Try.func11 (by kernel_rfl)
    (of_decide_eq_true (by kernel_rfl)) (by unfold Func.isWrapper; first | (rw [if_pos (by decide +kernel)]; kernel_rfl) | (rw [if_neg (by decide +kernel)]; exact ⟨rfl, rfl⟩))
    (fun os started H enc _ => lifted os started H enc)
#print axioms holds
end Go.Proofs.Ytbgkkmcobijkgaa.WeighBoundLaw
