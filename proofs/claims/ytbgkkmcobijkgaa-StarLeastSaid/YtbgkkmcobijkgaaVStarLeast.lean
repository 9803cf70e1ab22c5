/- For every net, two places and list of guesses: StarLeast answers true (what is found costs least; each place is looked from at most once, with sums that never fall; nothing is found just where there is no walk), and the arguments read as before. No condition. -/
import Derived.Test.YtbgkkmcobijkgaaRows
import Derived.Test.YtbgkkmcobijkgaaVOpen
import Derived.Test.YtbgkkmcobijkgaaVStarUse
import Derived.Test.YtbgkkmcobijkgaaVStdOnce
import Derived.IntWalk
namespace Go.Proofs.Ytbgkkmcobijkgaa.StarLeastLaw
open Go.ChangeShapes Go.WideShapes Go.ChangeAt Go.RowKit Go.Proofs.Ytbgkkmcobijkgaa NetLaw BellLaw DijkLaw HeurLaw StarLaw Go.Proofs.Ytbgkkmcobijkgaa.Net Go.Proofs.Ytbgkkmcobijkgaa.Dijk Go.Proofs.Ytbgkkmcobijkgaa.DijkTwo Go.Proofs.Ytbgkkmcobijkgaa.Refs Go.Proofs.Ytbgkkmcobijkgaa.Std Go.Proofs.Ytbgkkmcobijkgaa.Heur Go.Proofs.Ytbgkkmcobijkgaa.StarF
set_option linter.unusedSimpArgs false
set_option linter.unusedVariables false
/-- the sum so far -/
def lv (M h o : List Int) (j : Nat) : Int := if j = 0 then 0 else dg M (o.getD (j - 1) 0) + dg h (o.getD (j - 1) 0)
theorem lv_succ {M h o : List Int} {j : Nat} (hj : j < o.length) : lv M h o (j + 1) = dg M o[j] + dg h o[j] := by
  unfold lv
  rw [if_neg (by omega), Nat.add_sub_cancel, List.getD_eq_getElem?_getD, List.getElem?_eq_getElem hj]
  rfl
theorem lv_le {M h o : List Int} {j : Nat} (hj : j < o.length) (hp : o.Pairwise fun a b => dg M a + dg h a ≤ dg M b + dg h b) (h0 : 0 ≤ dg M o[j] + dg h o[j]) : lv M h o j ≤ dg M o[j] + dg h o[j] := by
  cases j with
  | zero => exact h0
  | succ j =>
    rw [lv_succ (by omega)]
    exact List.pairwise_iff_getElem.1 hp j (j + 1) (by omega) hj (by omega)
set_option maxRecDepth 100000 in
set_option maxHeartbeats 4000000 in
theorem walk (w : World) (N : Int) (A : Option Addr) (c : Nat) (l : List E) (hA : Arg w 3 ce A c l) (a : Int) (ha : -9223372036854775808 ≤ a ∧ a ≤ 9223372036854775807) (b : Int) (hb : -9223372036854775808 ≤ b ∧ b ≤ 9223372036854775807) (Ah : Option Addr) (ch : Nat) (h : List Int) (hAh : Arg w 1 ci Ah ch h) :
    Calls Try.prog 10 #[.agg #[.int .i64 N, .slice A l.length c], .int .i64 a, .int .i64 b, .slice Ah h.length ch] w fun e w' => e = .returned (.bool true) ∧ Below w.heap.size w w' := by
  have hs := hA.sl
  have hss := hAh.sl
  have hll : l.length ≤ 9223372036854775807 := Nat.le_trans hA.cap hA.max
  have hhl : h.length ≤ 9223372036854775807 := Nat.le_trans hAh.cap hAh.max
  clear hA hAh ha hb
  have KEY0 := Lib.hid (fun W g hl A' ch hh => two_run [5, 0] (.inl rfl) W g hl A' ch hh)
  have KEY1 := Lib.hid (fun W A A' B B' c c' d d' h1 h2 h3 h4 => found_same A A' B B' 2 2 c c' 2 2 d d' [0, 1] [0, 1] [0, 1] [0, 1] 5 5 W h1 h2 rfl rfl (by decide) h3 h4 rfl rfl (by decide) rfl rfl rfl)
  have HK := Lib.hid (fun W hW => nbox (N := N) (c := c) (W := W) hs hss hW)
  have HB0 := Lib.hid (Below.refl (w.heap.size + 1) (w.alloc (.cells #[.int .i64 N, .slice A l.length c] 32)))
  by_cases hx : slook N a b l h = 0
  · obtain ⟨hlk, hC⟩ := slook_zero.1 hx
    obtain ⟨hg, hc, ⟨a0, a1⟩, b0, b1⟩ := DijkWay.looks_zero hlk
    have hN1 := hg.lo
    have hN2 := hg.hi
    obtain ⟨n, rfl⟩ := Int.eq_ofNat_of_zero_le (show 0 ≤ N by omega)
    obtain ⟨f, rfl⟩ := Int.eq_ofNat_of_zero_le a0
    obtain ⟨t, rfl⟩ := Int.eq_ofNat_of_zero_le b0
    have krun := fun W h1 h2 => run_good n f t A c l Ah ch h W h1 h2 hll hhl hx
    have klook := fun W h1 h2 => slook_any n f t A c l Ah ch h W h1 h2 hll hhl
    have kdist := fun W h1 => dist_yes n A c l f hll (look_fst hlk) W h1
    rw [hx] at klook
    simp only [Int.toNat_natCast] at kdist
    have hcc : ∀ e ∈ l, 1 ≤ e.2.2 ∧ e.2.2 ≤ 10000 := fun e he => ⟨hc e he, (hg.cost e he).2⟩
    have hnone := fun (D P ord M : List Int) (h1 : Rch (StarS.KK 1 1) n f t l h D P ord) (h2 : ∀ u, ¬ Opn n D ord u) (h3 : Sh n f l M) => Rch.none (q := 1) (p := 1) (fun c g => by unfold StarS.KK; omega) hC hg.ends hcc (by omega) (by omega) (by omega) (by decide) (by decide) h1 h2 h3
    have hstar := fun (D P ord M : List Int) (h1 : Rch (StarS.KK 1 1) n f t l h D P ord) (h2 : Nx (StarS.KK 1 1) n h D ord t) (h3 : Sh n f l M) => Rch.star (K := StarS.KK 1 1) (fun c g => rfl) hC hg.ends hcc (by omega) (by omega) (by omega) h1 h2 h3
    have hlen := hC.len
    have hbd := fun v h0 h1 => hC.bd (v := v) h0 h1
    have KRUN := Lib.hid krun
    have KLOOK := Lib.hid klook
    have KDIST := Lib.hid kdist
    have HNONE := Lib.hid hnone
    have HSTAR := Lib.hid hstar
    have HLEN := Lib.hid hlen
    have HBD := Lib.hid hbd
    have HHL := Lib.hid hhl
    have htn : t < n := by omega
    have htn' : (t : Int) < (n : Int) := by omega
    clear krun klook kdist hnone hstar hlen hbd hC hg hc hcc hlk hx hs hss hhl
    go_enter Try.func10, Try.ntmps10
    go_wp2_with fail
    refine (two_any _).mono ?_
    rintro e w1 ⟨g, rfl, own1, hb1⟩
    have B1 := HB0.out.trans (hb1.mono (by simp))
    have Z1 : w.heap.size + 1 ≤ w1.heap.size := by have := B1.size; simpa using this
    clear hb1
    go_wp2_with fail
    refine (KEY0.out _ _ (own1.alloc _).sl.2 _ _ (sl_new' (by decide) w1 #[.int .i64 5, .int .i64 0] _ _ (by simp) rfl)).mono ?_
    rintro e w2 ⟨A1, c1, A2, c2, rfl, o1, o2, hb2⟩
    have B2 := (B1.alloc Z1 (.cells #[.int .i64 5, .int .i64 0] 3)).trans (hb2.mono (by simp; omega))
    have Z2 : w.heap.size + 1 ≤ w2.heap.size := by have := B2.size; simpa using this
    clear hb2 own1 B1 Z1
    go_wp2_with fail
    refine (KEY1.out _ _ _ _ _ _ _ _ _ (((o1.alloc _).alloc _).alloc _).sl.2 (((sl_new' (by decide) (w2.alloc (.cells #[.slice A1 2 c1, .int .i64 5, .slice A2 2 c2] 45)) #[.int .i64 0, .int .i64 1] 3 [0, 1] (by simp) rfl).keep ((Below.refl _ _).alloc (Nat.le_refl _) (.cells #[.int .i64 0, .int .i64 1] 3)) (Nat.le_refl _)).more (by simp)) (((o2.alloc _).alloc _).alloc _).sl.2 (sl_new' (by decide) ((w2.alloc (.cells #[.slice A1 2 c1, .int .i64 5, .slice A2 2 c2] 45)).alloc (.cells #[.int .i64 0, .int .i64 1] 3)) #[.int .i64 0, .int .i64 1] _ _ (by simp) rfl)).mono ?_
    rintro e w3 ⟨rfl, hb3⟩
    have B3 := (((B2.alloc Z2 (.cells #[.slice A1 2 c1, .int .i64 5, .slice A2 2 c2] 45)).alloc (by simp; omega) (.cells #[.int .i64 0, .int .i64 1] 3)).alloc (by simp; omega) (.cells #[.int .i64 0, .int .i64 1] 3)).trans (hb3.mono (by simp; omega))
    clear o1 o2 B2 Z2 hb3
    obtain ⟨q0, q1, Z3, sg, sh, H3⟩ := HK.out _ B3
    go_wp2_with fail
    refine (KRUN.out _ sg sh).mono ?_
    rintro e w4 ⟨D, P, ord, HR, hcase, hb4⟩
    have B4 := B3.trans (hb4.mono Z3)
    clear q0 q1 sg sh Z3 H3 hb4
    obtain ⟨q0, q1, Z4, sg, sh, H4⟩ := HK.out _ B4
    rcases hcase with ⟨p, m, A1, c1, k, A2, c2, co, rfl, o1, o2, HNX, HFN, HPL, HOL, HDT, _⟩ | ⟨rfl, HNO⟩
    · have B4' := B4.alloc Z4 (.cells #[.slice A1 m c1, .int .i64 co, .slice A2 k c2] 45)
      have HF := Lib.hid (fun W hW => fbox (W := W) (co := co) o1 o2 hW)
      have HF0 := Lib.hid o2
      have BF4 := Lib.hid (Below.refl (w4.heap.size + 1) (w4.alloc (.cells #[.slice A1 m c1, .int .i64 co, .slice A2 k c2] 45)))
      clear q0 q1 sg sh
      obtain ⟨q0, q1, Z5, sg, sh, H5⟩ := HK.out _ B4'
      clear o1 o2 B3 B4
      go_wp2_with fail
      refine (KLOOK.out _ sg sh).mono ?_
      rintro e w5 ⟨rfl, hb5⟩
      have B5 := B4'.trans (hb5.mono Z5)
      have BF5 := BF4.out.trans (hb5.mono (by simp))
      clear q0 q1 sg sh Z5 H5 hb5 B4' BF4
      obtain ⟨q0, q1, Z5, sg, sh, H5⟩ := HK.out _ B5
      go_wp2_with fail
      refine (KDIST.out _ sg).mono ?_
      rintro e w6 ⟨S6, M, rfl, own6, hb6, hsh⟩
      have B6 := B5.trans (hb6.mono Z5)
      have BF6 := BF5.trans (hb6.mono (by have := BF5.size; simp at this; omega))
      obtain ⟨s1, s2, s3, s4, s5, s6⟩ := HSTAR.out D P ord M HR.out HNX.out hsh.out
      rw [HDT.out] at s1
      have hMl : M.length = n := by have := hsh.out.len; omega
      obtain ⟨dc, _⟩ := own_at1 hMl own6 htn
      rw [getD_dg, ← s1] at dc
      clear q0 q1 sg sh Z5 H5 hb6 B5 BF5 Z4 H4
      obtain ⟨q0, q1, Z6, sg, sh, H6⟩ := HK.out _ B6
      obtain ⟨f0, f1, f2, Z46, sp, so⟩ := HF.out _ BF6
      have hS6 := (own6.base_ S6 rfl).2
      have hkc := own_kc (HF0.out)
      have kwalks := fun W (h1 : Below (w.heap.size + 1) (w.alloc (.cells #[.int .i64 n, .slice A l.length c] 32)) W) (h2 : Below (w4.heap.size + 1) (w4.alloc (.cells #[.slice A1 m c1, .int .i64 co, .slice A2 k c2] 45)) W) (h3 : Below w6.heap.size w6 W) => (walks_any n co f t A c l A1 m c1 p W (HK.out W h1).2.2.2.1 (HF.out W h2).2.2.2.2.1 HPL.out hll (by have := HFN.out.plen; have := HPL.out; omega) HFN.out.cost HFN.out.head HFN.out.last).mono (fun e W' (hh : _ ∧ Below W.heap.size W W') => (⟨hh.1, h1.trans (hh.2.mono (HK.out W h1).2.2.1), h2.trans (hh.2.mono (HF.out W h2).2.2.2.1), h3.trans (hh.2.mono h3.size)⟩ : _ ∧ Below (w.heap.size + 1) (w.alloc (.cells #[.int .i64 n, .slice A l.length c] 32)) W' ∧ Below (w4.heap.size + 1) (w4.alloc (.cells #[.slice A1 m c1, .int .i64 co, .slice A2 k c2] 45)) W' ∧ Below w6.heap.size w6 W'))
      have konce := fun W (h2 : Below (w4.heap.size + 1) (w4.alloc (.cells #[.slice A1 m c1, .int .i64 co, .slice A2 k c2] 45)) W) => once_wide A2 c2 k (ord ++ [(t : Int)]) W.heap.size W (HF.out W h2).2.2.2.2.2 HOL.out hkc (by have := HFN.out.olen; have := HOL.out; omega) true (by simp only [HFN.out.nd, decide_true])
      have KW := Lib.hid kwalks
      have KO := Lib.hid konce
      have S3 := Lib.hid s3
      have S4 := Lib.hid s4
      have HSH := Lib.hid hsh
      have OWN6 := Lib.hid own6
      have BB6 := Lib.hid (Below.refl w6.heap.size w6)
      clear kwalks konce s1 s2 s3 s4 s5 s6 hMl sg sh H6 hsh own6 hkc sp so
      go_upto_region 12 with fail
      go_region_held3 (fun w' => w'.cell? ⟨w.heap.size, 0, none⟩ = some (.int .i64 n) ∧ w'.cell? ⟨w.heap.size, 1, none⟩ = some (.slice A l.length c) ∧ w'.cell? ⟨w4.heap.size, 0, none⟩ = some (.slice A1 m c1) ∧ w'.cell? ⟨w4.heap.size, 1, none⟩ = some (.int .i64 co) ∧ w'.cell? ⟨w4.heap.size, 2, none⟩ = some (.slice A2 k c2) ∧ w'.cell? ⟨S6, t, none⟩ = some (.int .i64 co))
        (first
          | go_keep
          | (go_split_ands
             exact ⟨x0, x1, y0, y1, y2, xd⟩))
        (first
          | (go_at_call 36; refine (KW.out _ (by first | exact B6 | exact B6.drew | exact below_drewN B6 _) (by first | exact BF6 | exact BF6.drew | exact below_drewN BF6 _) (by first | exact BB6.out | exact BB6.out.drew | exact below_drewN BB6.out _)).mono ?_; rintro e w7 ⟨rfl, B7, BF7, BB7⟩; obtain ⟨x0, x1, _⟩ := HK.out _ B7; obtain ⟨y0, y1, y2, _⟩ := HF.out _ BF7; have xd := ((keepAt BB7 hS6).1 t).trans dc)
          | (go_at_call 20; refine (KO.out _ (by first | exact BF7 | exact BF7.drew | exact below_drewN BF7 _)).mono ?_; rintro e w8 ⟨rfl, rfl⟩))
      all_goals
        have Z8 := (HK.out _ B7).2.2.1
        have Z48 := (HF.out _ BF7).2.2.2.1
        have z6 := BB7.size
        have hk64 : k ≤ 64 := by have := HFN.out.olen; have := HOL.out; omega
        clear x0 x1 xd q0 q1 f0 f1 f2 dc
        have hsum : ∀ v, 0 ≤ v → v < (n : Int) → 0 ≤ dg M v ∧ dg M v ≤ far := fun v h0 h1 => HSH.out.lo v h0 h1
        have HSUM := Lib.hid hsum
        have HML : Hid (M.length = n) := Lib.hid (by have := HSH.out.len; omega)
        clear hsum
        go_wp2
        go_loopw [15, 102] (fun s15 i wr => ∃ j : Nat, j ≤ k ∧ i = .int .i64 j ∧ s15 = .int .i64 (lv M h (ord ++ [(t : Int)]) j) ∧ Hid (Below w8.heap.size w8 wr)) (fun _ i _ => k - (intOf i).toNat)
        case atStart => exact ⟨0, Nat.zero_le _, rfl, rfl, Lib.hid (Below.refl _ _)⟩
        case round =>
          obtain ⟨j, hj, rfl, rfl, HB⟩ := hrel
          have B9 := B7.trans (HB.out.mono Z8)
          have BF9 := BF7.trans (HB.out.mono Z48)
          have BB9 := BB7.trans (HB.out.mono z6)
          obtain ⟨q0, q1, Z9, sg, sh, H9⟩ := HK.out _ B9
          obtain ⟨f0, f1, f2, Z49, sp, so⟩ := HF.out _ BF9
          have z9 : w.heap.size < wr.heap.size := by omega
          have z49 : w4.heap.size < wr.heap.size := by omega
          clear y0 y1 y2 f0 f1 q1 sg sp
          by_cases hlt : j < k
          · have hjo : j < (ord ++ [(t : Int)]).length := by rw [HOL.out]; exact hlt
            obtain ⟨bo, oo, rfl, hbo, hco⟩ := so.atI hjo
            have hmem := List.getElem_mem hjo
            have v0 := (S3.out _ hmem).1.1
            have v1 := (S3.out _ hmem).1.2
            have vf := (S3.out _ hmem).2.2.1
            have hl1 := lv_succ (M := M) (h := h) hjo
            have hl2 := lv_le (M := M) (h := h) hjo S4.out
            obtain ⟨vv, hvv⟩ : ∃ vv, (ord ++ [(t : Int)])[j] = vv := ⟨_, rfl⟩
            rw [hvv] at hco v0 v1 vf hl1 hl2
            clear hmem hvv
            obtain ⟨v, rfl⟩ := Int.eq_ofNat_of_zero_le v0
            have hvn : v < n := by omega
            obtain ⟨mc, _⟩ := own_at1 HML.out (OWN6.out.keep BB9) hvn
            rw [getD_dg] at mc
            obtain ⟨bh, oh, rfl, hbh, hc⟩ := atD sh (show v < h.length by have := HLEN.out; omega)
            have g1 := HSUM.out v v0 v1
            have g2 := HBD.out v v0 v1
            have hl3 := hl2 (by omega)
            have hvh : (v : Int) < (h.length : Int) := by have := HLEN.out; omega
            have hS9 : S6 < wr.heap.size := by have := BB9.size; omega
            unfold far at g1 g2 vf
            obtain ⟨x, hx⟩ : ∃ x, dg M (v : Int) = x := ⟨_, rfl⟩
            obtain ⟨y, hy⟩ : ∃ y, dg h (v : Int) = y := ⟨_, rfl⟩
            obtain ⟨z, hz⟩ : ∃ z, lv M h (ord ++ [(t : Int)]) j = z := ⟨_, rfl⟩
            rw [hx] at mc g1 vf hl1 hl3
            rw [hy] at hc g2 hl1 hl3
            rw [hz] at hl3 ⊢
            have d1 : ¬ ((v : Int) < 0) := by omega
            have d2 : ¬ ((v : Int) ≥ (n : Int)) := by omega
            have d3 : ¬ (x + y < z) := by omega
            have d4 : (x == 1099511627776) = false := by simp; omega
            have e1 : decide ((v : Int) < 0) = false := decide_eq_false d1
            have e2 : decide ((v : Int) ≥ (n : Int)) = false := decide_eq_false d2
            have e2' : decide ((n : Int) ≤ (v : Int)) = false := decide_eq_false d2
            have e3 : decide (x + y < z) = false := decide_eq_false d3
            have hwr : IntKind.i64.wrap (x + y) = x + y := IntWalk.i64_in _ (by omega)
            have hjk : (j : Int) < (k : Int) := by omega
            have HL1 := Lib.hid hl1
            have HB9 := HB
            clear hl1 hl2 hl3 hx hy hz sh so HB hjo
            go_wp2
            go_quiet (fail)
            go_wp2
            go_quiet (fail)
            go_wp2
            go_roundw
            case rel => exact ⟨j + 1, by omega, by go_num, by rw [HL1.out], Lib.hid (by first | exact HB9.out | exact HB9.out.drew | exact below_drewN HB9.out _)⟩
            case measure => simp [intOf]; omega
          · obtain rfl : j = k := by omega
            clear sh so
            go_wp2
            go_ret
            exact ⟨rfl, H9⟩
    · have B4' := B4.alloc Z4 (.cells #[.slice none 0 0, .int .i64 0, .slice none 0 0] 45)
      clear q0 q1 sg sh
      obtain ⟨q0, q1, Z5, sg, sh, H5⟩ := HK.out _ B4'
      clear B3 B4
      go_wp2_with fail
      refine (KLOOK.out _ sg sh).mono ?_
      rintro e w5 ⟨rfl, hb5⟩
      have B5 := B4'.trans (hb5.mono Z5)
      clear q0 q1 sg sh Z5 H5 hb5 B4'
      obtain ⟨q0, q1, Z5, sg, sh, H5⟩ := HK.out _ B5
      go_wp2_with fail
      refine (KDIST.out _ sg).mono ?_
      rintro e w6 ⟨S6, M, rfl, own6, hb6, hsh⟩
      have H6 := H5.trans (hb6.mono H5.size)
      have hMl : M.length = n := by have := hsh.out.len; omega
      obtain ⟨dc, _⟩ := own_at1 hMl own6 htn
      have hfar := HNONE.out D P ord M HR.out HNO.out hsh.out
      unfold far at hfar
      rw [getD_dg, hfar] at dc
      have hS6 := (own6.base_ S6 rfl).2
      clear q0 q1 sg sh Z5 H5 hb6 own6 hMl hfar hsh B5
      go_wp2
      go_ret
      exact ⟨rfl, H6⟩
  · have krun := fun W h1 h2 => run_bad N a b A c l Ah ch h W h1 h2 hll hhl hx
    have klook := fun W h1 h2 => slook_any N a b A c l Ah ch h W h1 h2 hll hhl
    have hne : (slook N a b l h != 0) = true := by rw [bne_iff_ne]; exact hx
    generalize slook N a b l h = er at *
    have KRUN := Lib.hid krun
    have KLOOK := Lib.hid klook
    clear krun klook hx hs hss hhl
    go_enter Try.func10, Try.ntmps10
    go_wp2_with fail
    refine (two_any _).mono ?_
    rintro e w1 ⟨g, rfl, own1, hb1⟩
    have B1 := HB0.out.trans (hb1.mono (by simp))
    have Z1 : w.heap.size + 1 ≤ w1.heap.size := by have := B1.size; simpa using this
    clear hb1
    go_wp2_with fail
    refine (KEY0.out _ _ (own1.alloc _).sl.2 _ _ (sl_new' (by decide) w1 #[.int .i64 5, .int .i64 0] _ _ (by simp) rfl)).mono ?_
    rintro e w2 ⟨A1, c1, A2, c2, rfl, o1, o2, hb2⟩
    have B2 := (B1.alloc Z1 (.cells #[.int .i64 5, .int .i64 0] 3)).trans (hb2.mono (by simp; omega))
    have Z2 : w.heap.size + 1 ≤ w2.heap.size := by have := B2.size; simpa using this
    clear hb2 own1 B1 Z1
    go_wp2_with fail
    refine (KEY1.out _ _ _ _ _ _ _ _ _ (((o1.alloc _).alloc _).alloc _).sl.2 (((sl_new' (by decide) (w2.alloc (.cells #[.slice A1 2 c1, .int .i64 5, .slice A2 2 c2] 45)) #[.int .i64 0, .int .i64 1] 3 [0, 1] (by simp) rfl).keep ((Below.refl _ _).alloc (Nat.le_refl _) (.cells #[.int .i64 0, .int .i64 1] 3)) (Nat.le_refl _)).more (by simp)) (((o2.alloc _).alloc _).alloc _).sl.2 (sl_new' (by decide) ((w2.alloc (.cells #[.slice A1 2 c1, .int .i64 5, .slice A2 2 c2] 45)).alloc (.cells #[.int .i64 0, .int .i64 1] 3)) #[.int .i64 0, .int .i64 1] _ _ (by simp) rfl)).mono ?_
    rintro e w3 ⟨rfl, hb3⟩
    have B3 := (((B2.alloc Z2 (.cells #[.slice A1 2 c1, .int .i64 5, .slice A2 2 c2] 45)).alloc (by simp; omega) (.cells #[.int .i64 0, .int .i64 1] 3)).alloc (by simp; omega) (.cells #[.int .i64 0, .int .i64 1] 3)).trans (hb3.mono (by simp; omega))
    clear o1 o2 B2 Z2 hb3
    obtain ⟨q0, q1, Z3, sg, sh, H3⟩ := HK.out _ B3
    go_wp2_with fail
    refine (KRUN.out _ sg sh).mono ?_
    rintro e w4 ⟨rfl, hb4⟩
    have B4 := B3.trans (hb4.mono Z3)
    have B4' := B4.alloc (HK.out _ B4).2.2.1 (.cells #[.slice none 0 0, .int .i64 0, .slice none 0 0] 45)
    clear q0 q1 sg sh Z3 H3 hb4
    obtain ⟨q0, q1, Z5, sg, sh, H5⟩ := HK.out _ B4'
    have hf := heap_alloc_new w4 (.cells #[.slice none 0 0, .int .i64 0, .slice none 0 0] 45)
    have HFB := Lib.hid hf
    clear hf B3 B4
    go_wp2_with fail
    refine (KLOOK.out _ sg sh).mono ?_
    rintro e w5 ⟨rfl, hb5⟩
    have hf := blk_below HFB.out hb5 (by simp)
    have f2 := blk_cell hf 2
    simp only [List.getElem?_toArray, List.getElem?_cons_zero, List.getElem?_cons_succ] at f2
    have z45 : w4.heap.size < w5.heap.size := lt_of_block hf
    have H6 := H5.trans (hb5.mono H5.size)
    clear q0 q1 sg sh Z5 H5 hb5 hf B4'
    go_wp2
    go_ret
    exact ⟨rfl, H6⟩

theorem own : ownKnob Try.prog.godebug = none := by kernel_rfl
theorem laidOut : laidOutB Try.prog = true := by kernel_rfl

set_option maxRecDepth 100000 in
theorem lifted (os : Os) (started : os.Started) (H : Type) (enc : TypeId × Value → H) :
    ReturnsInHanded {} Try.checked os 10 .any (Rows.starLeastSpec.pre6 enc Try.prog Try.f10 Rows.starLeastRow.domain false) (Rows.starLeastSpec.post enc Try.prog Try.f10 false true false false) := by
  refine returnsInHanded_of_change (C := Try.checked) own started (by kernel_rfl) Try.func10
    (ChangeSpec.witness6 (enc := enc) (C := Try.checked) false ⟨#[], #[.agg #[.int .i64 0, .slice none 0 0], .int .i64 0, .int .i64 0, .slice none 0 0], []⟩ 8 (by kernel_rfl) (by kernel_rfl) (by kernel_rfl) (by kernel_rfl)) ?_
  intro W base args ds gs before hval0 hW hcnd _
  have hval : ∀ (j : Nat) t v, Try.f10.params[j]? = some t → args[j]? = some v → Value.okWide Try.prog W .any base t v := hval0
  have hW' := hW
  obtain ⟨p, q, hA0, hV, rfl, hfz, hnd⟩ := hW
  have hA : DataW.TrodAll enc Try.prog W 0 (fun _ => true) true Try.f10.params.toList args.toList ds p := hA0
  rw [Try.params10] at hA hval
  obtain ⟨v0, vs0, d0, ds0, p0, q0, hargs, rfl, rfl, h0, r0⟩ := trodAll_cons hA
  obtain ⟨v1, vs1, d1, ds1, p1, q1, rfl, rfl, rfl, h1, r1⟩ := trodAll_cons r0
  obtain ⟨v2, vs2, d2, ds2, p2, q2, rfl, rfl, rfl, h2, r2⟩ := trodAll_cons r1
  obtain ⟨v3, vs3, d3, ds3, p3, q3, rfl, rfl, rfl, h3, r3⟩ := trodAll_cons r2
  obtain ⟨rfl, rfl, rfl⟩ := trodAll_nil r3
  obtain rfl : args = #[v0, v1, v2, v3] := by cases args; simp_all
  obtain ⟨rfl, rfl⟩ := trodVars_none hV
  obtain ⟨N0, A0, c0, l0, dd0, rfl, hN0, hG0, hb0, rfl, hd0⟩ := open_net Try.underlying32 (by kernel_rfl) (by kernel_rfl) Try.underlying3 Try.underlying30 Try.underlying37 (by kernel_rfl) (by kernel_rfl) Try.underlying3 Try.underlying3 Try.underlying3 (hval 0 32 v0 rfl rfl) h0
  obtain ⟨a1, rfl, rfl, rfl, wa1⟩ := open_int Try.underlying3 (hval 1 3 v1 rfl rfl) h1
  obtain ⟨a2, rfl, rfl, rfl, wa2⟩ := open_int Try.underlying3 (hval 2 3 v2 rfl rfl) h2
  obtain ⟨A3, c3, l3, rfl, hG3, hd3, hb3⟩ := open_sl1 Try.underlying22 Try.underlying3 (by kernel_rfl) (hval 3 22 v3 rfl rfl) h3
  refine (walk W N0 A0 c0 l0 hG0 a1 (wf_bd wa1) a2 (wf_bd wa2) A3 c3 l3 hG3).mono fun e W' ⟨he, hB⟩ => ?_
  subst he
  exact ⟨_, rfl, post_of_law laidOut rfl Try.underlying4 rfl (by intro t ht; rw [Try.params10] at ht; simp at ht; rcases ht with rfl | rfl | rfl | rfl <;> exact ⟨by kernel_rfl, of_decide_eq_true (by kernel_rfl)⟩) hW' rfl hB⟩

theorem holds : Rows.StarLeastSaid :=
  OpenClaim.holds_of_wide 10 Try.f10 rfl rfl rfl rfl rfl rfl rfl ⟨rfl, rfl, rfl, rfl, rfl⟩ rfl rfl rfl rfl rfl (by kernel_rfl) Try.func10 (by kernel_rfl)
    (of_decide_eq_true (by kernel_rfl)) (by unfold Func.isWrapper; first | (rw [if_pos (by decide +kernel)]; kernel_rfl) | (rw [if_neg (by decide +kernel)]; exact ⟨rfl, rfl⟩))
    (fun os started H enc _ => lifted os started H enc)
#print axioms holds
end Go.Proofs.Ytbgkkmcobijkgaa.StarLeastLaw
