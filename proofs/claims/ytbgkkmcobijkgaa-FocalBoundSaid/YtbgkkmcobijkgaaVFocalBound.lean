/- For every net, two places, list of guesses, weight and list of tastes: FocalBound answers true (what is found costs no more than the weight times the least, whatever the taste is; its order begins at the start and ends at the end; nothing is found just where there is no walk, or the steps are used up), and the arguments read as before. No condition. -/
import Derived.Test.YtbgkkmcobijkgaaRows
import Derived.Test.YtbgkkmcobijkgaaVOpen
import Derived.Test.YtbgkkmcobijkgaaVFocalTwo
import Derived.Test.YtbgkkmcobijkgaaVWeighSame
import Derived.IntWalk
namespace Go.Proofs.Ytbgkkmcobijkgaa.FocalBoundLaw
open Go.ChangeShapes Go.WideShapes Go.ChangeAt Go.RowKit Go.Proofs.Ytbgkkmcobijkgaa NetLaw BellLaw DijkLaw HeurLaw StarLaw FocalLaw Go.Proofs.Ytbgkkmcobijkgaa.Net Go.Proofs.Ytbgkkmcobijkgaa.Dijk Go.Proofs.Ytbgkkmcobijkgaa.DijkTwo Go.Proofs.Ytbgkkmcobijkgaa.Refs Go.Proofs.Ytbgkkmcobijkgaa.Std Go.Proofs.Ytbgkkmcobijkgaa.Heur Go.Proofs.Ytbgkkmcobijkgaa.StarF Go.Proofs.Ytbgkkmcobijkgaa.Focal
set_option linter.unusedSimpArgs false
set_option linter.unusedVariables false
theorem ends_at {w : World} {B : Nat} {A : Option Addr} {l : List Int} {k : Nat} {x y : Int} (h : Sl w B 1 ci A l) (h0 : l[0]? = some x) (h1 : l[k]? = some y) : ∃ b off, A = some ⟨b, off, none⟩ ∧ b < B ∧ w.cell? ⟨b, off, none⟩ = some (.int .i64 x) ∧ w.cell? ⟨b, off + k, none⟩ = some (.int .i64 y) := by
  obtain ⟨b, o, rfl, hb, g1⟩ := at_eq h h0
  obtain ⟨b1, o1, e1, _, g2⟩ := at_eq h h1
  injection e1 with e1
  injection e1 with e1 e2
  subst e1 e2
  exact ⟨b, o, rfl, hb, g1, g2⟩
set_option maxRecDepth 100000 in
set_option maxHeartbeats 4000000 in
theorem walk (w : World) (N : Int) (A : Option Addr) (c : Nat) (l : List E) (hA : Arg w 3 ce A c l) (a : Int) (ha : -9223372036854775808 ≤ a ∧ a ≤ 9223372036854775807) (b : Int) (hb : -9223372036854775808 ≤ b ∧ b ≤ 9223372036854775807) (Ah : Option Addr) (ch : Nat) (h : List Int) (hAh : Arg w 1 ci Ah ch h) (p q : Int) (hp : -9223372036854775808 ≤ p ∧ p ≤ 9223372036854775807) (hq : -9223372036854775808 ≤ q ∧ q ≤ 9223372036854775807) (At : Option Addr) (ct : Nat) (ta : List Int) (hAt : Arg w 1 ci At ct ta) :
    Calls Try.prog 12 #[.agg #[.int .i64 N, .slice A l.length c], .int .i64 a, .int .i64 b, .slice Ah h.length ch, .agg #[.int .i64 p, .int .i64 q], .slice At ta.length ct] w fun e w' => e = .returned (.bool true) ∧ Below w.heap.size w w' := by
  have hs := hA.sl
  have hss := hAh.sl
  have hst := hAt.sl
  have hll : l.length ≤ 9223372036854775807 := Nat.le_trans hA.cap hA.max
  have hhl : h.length ≤ 9223372036854775807 := Nat.le_trans hAh.cap hAh.max
  clear hA hAh hAt ha hb hp hq
  have KEY0 := Lib.hid (fun W g hl A' ch hh At ct ht => ftwo_two W g hl A' ch hh At ct ht)
  have HK := Lib.hid (fun W hW => nbox2 (N := N) (p := p) (q := q) (c := c) (W := W) hs hss hW)
  have HKT := Lib.hid (fun W (hW : Below w.heap.size w W) => (hst.keep hW (Nat.le_refl _)).more hW.size)
  have HB0 := Lib.hid (Below.refl (w.heap.size + 1 + 1) ((w.alloc (.cells #[.int .i64 N, .slice A l.length c] 32)).alloc (.cells #[.int .i64 p, .int .i64 q] 54)))
  by_cases hbad : slook N a b l h ≠ 0 ∨ wgt p q ≠ 0 ∨ (ta.length : Int) ≠ N
  · have krun := fun W h1 h2 => frun_bad N a b A c l Ah ch h p q At ct ta 100000 W h1 h2 hll hhl hbad
    have klook := fun W h1 h2 => slook_any N a b A c l Ah ch h W h1 h2 hll hhl
    have kwgt := fun W => weight_any p q W
    have KRUN := Lib.hid krun
    have KLOOK := Lib.hid klook
    have KWGT := Lib.hid kwgt
    clear krun klook kwgt hs hss hst hhl
    by_cases hs0 : slook N a b l h = 0
    · rw [hs0] at KLOOK
      have hbad := hbad.resolve_left (fun h => h hs0)
      by_cases hw0 : wgt p q = 0
      · rw [hw0] at KWGT
        have hne := hbad.resolve_left (fun h => h hw0)
        have hne : ((ta.length : Int) != N) = true := by rw [bne_iff_ne]; exact hne
        clear hs0 hbad hw0
        go_enter Try.func12, Try.ntmps12
        go_wp2_with fail
        refine (two_any _).mono ?_
        rintro e w1 ⟨g, rfl, own1, hb1⟩
        have B1 := HB0.out.trans (hb1.mono (by simp))
        have Z1 : w.heap.size + 1 + 1 ≤ w1.heap.size := by have := B1.size; simpa using this
        clear hb1
        go_wp2_with fail
        refine (one_any _).mono ?_
        rintro e w1b ⟨rfl, hb1⟩
        have hk1 : Below w1.heap.size w1 w1b := ((Below.refl _ _).alloc (Nat.le_refl _) (.cells #[.int .i64 0, .int .i64 0] 3)).trans (hb1.mono (by simp))
        have own1b := own1.keep hk1
        have si1 := ((sl_new' (sz := 1) (cell := ci) (by decide) w1 #[.int .i64 0, .int .i64 0] 3 [0, 0] rfl rfl).keep hb1 (Nat.le_refl _)).more hb1.size
        have B1b := (B1.alloc Z1 (.cells #[.int .i64 0, .int .i64 0] 3)).trans (hb1.mono (by simp; omega))
        have Z1b : w.heap.size + 1 + 1 ≤ w1b.heap.size := by have := B1b.size; simpa using this
        clear hb1 own1 B1 Z1 hk1
        go_wp2_with fail
        refine (KEY0.out _ _ (own1b.alloc _).sl.2 _ _ ((si1.keep ((Below.refl _ _).alloc (Nat.le_refl _) (.cells #[.int .i64 0, .int .i64 0] 3)) (Nat.le_refl _)).more (by simp)) _ _ (sl_new' (by decide) w1b #[.int .i64 0, .int .i64 0] _ _ (by simp) rfl)).mono ?_
        rintro e w2 ⟨A1, c1, A2, c2, rfl, hb2⟩
        have B2 := (B1b.alloc Z1b (.cells #[.int .i64 0, .int .i64 0] 3)).trans (hb2.mono (by simp; omega))
        have Z2 : w.heap.size + 1 + 1 ≤ w2.heap.size := by have := B2.size; simpa using this
        have B3 := B2.alloc Z2 (.cells #[.slice A1 2 c1, .int .i64 5, .slice A2 2 c2] 45)
        clear hb2 own1b si1 B1b Z1b B2 Z2
        obtain ⟨q0, q1, r0, r1, Z3, sg, sh, H3⟩ := HK.out _ B3
        go_wp2_with fail
        refine (KRUN.out _ sg sh).mono ?_
        rintro e w4 ⟨er, her, rfl, hb4⟩
        have B4 := B3.trans (hb4.mono Z3)
        have B4' := B4.alloc (HK.out _ B4).2.2.2.2.1 (.cells #[.slice none 0 0, .int .i64 0, .slice none 0 0] 45)
        clear q0 q1 r0 r1 sg sh Z3 H3 hb4
        obtain ⟨q0, q1, r0, r1, Z5, sg, sh, H5⟩ := HK.out _ B4'
        have hf := heap_alloc_new w4 (.cells #[.slice none 0 0, .int .i64 0, .slice none 0 0] 45)
        have HFB := Lib.hid hf
        clear hf B3 B4
        go_wp2_with fail
        refine (KLOOK.out _ sg sh).mono ?_
        rintro e w5 ⟨rfl, hb5⟩
        have hf := blk_below HFB.out hb5 (by simp)
        have f2 := blk_cell hf 2
        simp only [List.getElem?_toArray, List.getElem?_cons_zero, List.getElem?_cons_succ] at f2
        have z45 : w4.heap.size < w5.heap.size := lt_of_block hf
        have H6 := H5.trans (hb5.mono H5.size)
        have B5 := B4'.trans (hb5.mono Z5)
        clear q0 q1 r0 r1 sg sh Z5 H5 hb5 hf B4'
        obtain ⟨q0, q1, r0, r1, Z5, sg, sh, _⟩ := HK.out _ B5
        have z50 : w.heap.size < w5.heap.size := by omega
        have z51 : w.heap.size + 1 < w5.heap.size := by omega
        go_wp2_with fail
        refine (KWGT.out _).mono ?_
        rintro e w6 ⟨rfl, hb6⟩
        have f2' := ((keepAt hb6 z45).1 2).trans f2
        have H6' := H6.trans (hb6.mono H6.size)
        have z46 : w4.heap.size < w6.heap.size := by have := hb6.size; omega
        have B6 := B5.trans (hb6.mono Z5)
        clear q0 q1 r0 r1 sg sh Z5 hb6 f2 B5
        obtain ⟨q0, q1, r0, r1, Z6, sg, sh, _⟩ := HK.out _ B6
        clear r0 r1 sg sh
        go_wp2
        go_ret
        exact ⟨rfl, H6'⟩
      · have hne : (wgt p q != 0) = true := by rw [bne_iff_ne]; exact hw0
        generalize wgt p q = ew at *
        clear hs0 hbad hw0
        go_enter Try.func12, Try.ntmps12
        go_wp2_with fail
        refine (two_any _).mono ?_
        rintro e w1 ⟨g, rfl, own1, hb1⟩
        have B1 := HB0.out.trans (hb1.mono (by simp))
        have Z1 : w.heap.size + 1 + 1 ≤ w1.heap.size := by have := B1.size; simpa using this
        clear hb1
        go_wp2_with fail
        refine (one_any _).mono ?_
        rintro e w1b ⟨rfl, hb1⟩
        have hk1 : Below w1.heap.size w1 w1b := ((Below.refl _ _).alloc (Nat.le_refl _) (.cells #[.int .i64 0, .int .i64 0] 3)).trans (hb1.mono (by simp))
        have own1b := own1.keep hk1
        have si1 := ((sl_new' (sz := 1) (cell := ci) (by decide) w1 #[.int .i64 0, .int .i64 0] 3 [0, 0] rfl rfl).keep hb1 (Nat.le_refl _)).more hb1.size
        have B1b := (B1.alloc Z1 (.cells #[.int .i64 0, .int .i64 0] 3)).trans (hb1.mono (by simp; omega))
        have Z1b : w.heap.size + 1 + 1 ≤ w1b.heap.size := by have := B1b.size; simpa using this
        clear hb1 own1 B1 Z1 hk1
        go_wp2_with fail
        refine (KEY0.out _ _ (own1b.alloc _).sl.2 _ _ ((si1.keep ((Below.refl _ _).alloc (Nat.le_refl _) (.cells #[.int .i64 0, .int .i64 0] 3)) (Nat.le_refl _)).more (by simp)) _ _ (sl_new' (by decide) w1b #[.int .i64 0, .int .i64 0] _ _ (by simp) rfl)).mono ?_
        rintro e w2 ⟨A1, c1, A2, c2, rfl, hb2⟩
        have B2 := (B1b.alloc Z1b (.cells #[.int .i64 0, .int .i64 0] 3)).trans (hb2.mono (by simp; omega))
        have Z2 : w.heap.size + 1 + 1 ≤ w2.heap.size := by have := B2.size; simpa using this
        have B3 := B2.alloc Z2 (.cells #[.slice A1 2 c1, .int .i64 5, .slice A2 2 c2] 45)
        clear hb2 own1b si1 B1b Z1b B2 Z2
        obtain ⟨q0, q1, r0, r1, Z3, sg, sh, H3⟩ := HK.out _ B3
        go_wp2_with fail
        refine (KRUN.out _ sg sh).mono ?_
        rintro e w4 ⟨er, her, rfl, hb4⟩
        have B4 := B3.trans (hb4.mono Z3)
        have B4' := B4.alloc (HK.out _ B4).2.2.2.2.1 (.cells #[.slice none 0 0, .int .i64 0, .slice none 0 0] 45)
        clear q0 q1 r0 r1 sg sh Z3 H3 hb4
        obtain ⟨q0, q1, r0, r1, Z5, sg, sh, H5⟩ := HK.out _ B4'
        have hf := heap_alloc_new w4 (.cells #[.slice none 0 0, .int .i64 0, .slice none 0 0] 45)
        have HFB := Lib.hid hf
        clear hf B3 B4
        go_wp2_with fail
        refine (KLOOK.out _ sg sh).mono ?_
        rintro e w5 ⟨rfl, hb5⟩
        have hf := blk_below HFB.out hb5 (by simp)
        have f2 := blk_cell hf 2
        simp only [List.getElem?_toArray, List.getElem?_cons_zero, List.getElem?_cons_succ] at f2
        have z45 : w4.heap.size < w5.heap.size := lt_of_block hf
        have H6 := H5.trans (hb5.mono H5.size)
        have B5 := B4'.trans (hb5.mono Z5)
        clear q0 q1 r0 r1 sg sh Z5 H5 hb5 hf B4'
        obtain ⟨q0, q1, r0, r1, Z5, sg, sh, _⟩ := HK.out _ B5
        have z50 : w.heap.size < w5.heap.size := by omega
        have z51 : w.heap.size + 1 < w5.heap.size := by omega
        go_wp2_with fail
        refine (KWGT.out _).mono ?_
        rintro e w6 ⟨rfl, hb6⟩
        have f2' := ((keepAt hb6 z45).1 2).trans f2
        have H6' := H6.trans (hb6.mono H6.size)
        have z46 : w4.heap.size < w6.heap.size := by have := hb6.size; omega
        clear hb6 f2 q0 q1 r0 r1
        go_wp2
        go_ret
        exact ⟨rfl, H6'⟩
    · have hne : (slook N a b l h != 0) = true := by rw [bne_iff_ne]; exact hs0
      generalize slook N a b l h = es at *
      clear hs0 hbad
      go_enter Try.func12, Try.ntmps12
      go_wp2_with fail
      refine (two_any _).mono ?_
      rintro e w1 ⟨g, rfl, own1, hb1⟩
      have B1 := HB0.out.trans (hb1.mono (by simp))
      have Z1 : w.heap.size + 1 + 1 ≤ w1.heap.size := by have := B1.size; simpa using this
      clear hb1
      go_wp2_with fail
      refine (one_any _).mono ?_
      rintro e w1b ⟨rfl, hb1⟩
      have hk1 : Below w1.heap.size w1 w1b := ((Below.refl _ _).alloc (Nat.le_refl _) (.cells #[.int .i64 0, .int .i64 0] 3)).trans (hb1.mono (by simp))
      have own1b := own1.keep hk1
      have si1 := ((sl_new' (sz := 1) (cell := ci) (by decide) w1 #[.int .i64 0, .int .i64 0] 3 [0, 0] rfl rfl).keep hb1 (Nat.le_refl _)).more hb1.size
      have B1b := (B1.alloc Z1 (.cells #[.int .i64 0, .int .i64 0] 3)).trans (hb1.mono (by simp; omega))
      have Z1b : w.heap.size + 1 + 1 ≤ w1b.heap.size := by have := B1b.size; simpa using this
      clear hb1 own1 B1 Z1 hk1
      go_wp2_with fail
      refine (KEY0.out _ _ (own1b.alloc _).sl.2 _ _ ((si1.keep ((Below.refl _ _).alloc (Nat.le_refl _) (.cells #[.int .i64 0, .int .i64 0] 3)) (Nat.le_refl _)).more (by simp)) _ _ (sl_new' (by decide) w1b #[.int .i64 0, .int .i64 0] _ _ (by simp) rfl)).mono ?_
      rintro e w2 ⟨A1, c1, A2, c2, rfl, hb2⟩
      have B2 := (B1b.alloc Z1b (.cells #[.int .i64 0, .int .i64 0] 3)).trans (hb2.mono (by simp; omega))
      have Z2 : w.heap.size + 1 + 1 ≤ w2.heap.size := by have := B2.size; simpa using this
      have B3 := B2.alloc Z2 (.cells #[.slice A1 2 c1, .int .i64 5, .slice A2 2 c2] 45)
      clear hb2 own1b si1 B1b Z1b B2 Z2
      obtain ⟨q0, q1, r0, r1, Z3, sg, sh, H3⟩ := HK.out _ B3
      go_wp2_with fail
      refine (KRUN.out _ sg sh).mono ?_
      rintro e w4 ⟨er, her, rfl, hb4⟩
      have B4 := B3.trans (hb4.mono Z3)
      have B4' := B4.alloc (HK.out _ B4).2.2.2.2.1 (.cells #[.slice none 0 0, .int .i64 0, .slice none 0 0] 45)
      clear q0 q1 r0 r1 sg sh Z3 H3 hb4
      obtain ⟨q0, q1, r0, r1, Z5, sg, sh, H5⟩ := HK.out _ B4'
      have hf := heap_alloc_new w4 (.cells #[.slice none 0 0, .int .i64 0, .slice none 0 0] 45)
      have HFB := Lib.hid hf
      clear hf B3 B4
      go_wp2_with fail
      refine (KLOOK.out _ sg sh).mono ?_
      rintro e w5 ⟨rfl, hb5⟩
      have hf := blk_below HFB.out hb5 (by simp)
      have f2 := blk_cell hf 2
      simp only [List.getElem?_toArray, List.getElem?_cons_zero, List.getElem?_cons_succ] at f2
      have z45 : w4.heap.size < w5.heap.size := lt_of_block hf
      have H6 := H5.trans (hb5.mono H5.size)
      have B5 := B4'.trans (hb5.mono Z5)
      clear q0 q1 r0 r1 sg sh Z5 H5 hb5 hf B4'
      obtain ⟨q0, q1, r0, r1, Z5, sg, sh, _⟩ := HK.out _ B5
      clear q0 q1 r0 r1
      go_wp2
      go_ret
      exact ⟨rfl, H6⟩
  · have hx : slook N a b l h = 0 := Classical.byContradiction fun e => hbad (.inl e)
    have hy : wgt p q = 0 := Classical.byContradiction fun e => hbad (.inr (.inl e))
    have hz : (ta.length : Int) = N := Classical.byContradiction fun e => hbad (.inr (.inr e))
    obtain ⟨⟨q1, q2, q3, q4, hq5⟩, hqp⟩ := wgt_zero.1 hy
    obtain ⟨hlk, hC⟩ := slook_zero.1 hx
    obtain ⟨hg, hc, ⟨a0, a1⟩, b0, b1⟩ := DijkWay.looks_zero hlk
    have hN1 := hg.lo
    have hN2 := hg.hi
    obtain ⟨n, rfl⟩ := Int.eq_ofNat_of_zero_le (show 0 ≤ N by omega)
    obtain ⟨f, rfl⟩ := Int.eq_ofNat_of_zero_le a0
    obtain ⟨t, rfl⟩ := Int.eq_ofNat_of_zero_le b0
    have hhn : h.length = n := by have := hC.len; omega
    have htn : ta.length = n := by omega
    have klook := fun W h1 h2 => slook_any n f t A c l Ah ch h W h1 h2 hll hhl
    rw [hx, hhn] at klook
    rw [hhn, htn]
    have krun : ∀ W, Sl W W.heap.size 3 ce A l → Sl W W.heap.size 1 ci Ah h → Sl W W.heap.size 1 ci At ta → Calls Try.prog 33 #[.agg #[.int .i64 n, .slice A l.length c], .int .i64 f, .int .i64 t, .slice Ah n ch, .agg #[.int .i64 p, .int .i64 q], .slice At n ct, .int .i64 100000] W fun e w' => FSays n f t l h ta p q 100000 W e w' := fun W h1 h2 h3 => frun_main n f t A c l Ah ch h At ct ta p q 100000 W h1 h2 h3 hx hy htn (Nat.le_refl _)
    have kthree := fun W e w' (hh : FSays n f t l h ta p q 100000 W e w') => fsays_three hh hC hg hc (by omega) (by omega) q1 hqp
    have kdist := fun W h1 => dist_yes n A c l f hll (look_fst hlk) W h1
    have kwgt := fun W => weight_any p q W
    rw [hy] at kwgt
    simp only [Int.toNat_natCast] at kdist
    have KRUN := Lib.hid krun
    have K3 := Lib.hid kthree
    have KLOOK := Lib.hid klook
    have KWGT := Lib.hid kwgt
    have KDIST := Lib.hid kdist
    have htt : t < n := by omega
    have htt' : (t : Int) < (n : Int) := by omega
    clear krun kthree klook kwgt kdist hbad hs hss hst hhl hx hy hz hC hg hc hlk hhn htn hq5
    go_enter Try.func12, Try.ntmps12
    go_wp2_with fail
    refine (two_any _).mono ?_
    rintro e w1 ⟨g, rfl, own1, hb1⟩
    have B1 := HB0.out.trans (hb1.mono (by simp))
    have Z1 : w.heap.size + 1 + 1 ≤ w1.heap.size := by have := B1.size; simpa using this
    clear hb1
    go_wp2_with fail
    refine (one_any _).mono ?_
    rintro e w1b ⟨rfl, hb1⟩
    have hk1 : Below w1.heap.size w1 w1b := ((Below.refl _ _).alloc (Nat.le_refl _) (.cells #[.int .i64 0, .int .i64 0] 3)).trans (hb1.mono (by simp))
    have own1b := own1.keep hk1
    have si1 := ((sl_new' (sz := 1) (cell := ci) (by decide) w1 #[.int .i64 0, .int .i64 0] 3 [0, 0] rfl rfl).keep hb1 (Nat.le_refl _)).more hb1.size
    have B1b := (B1.alloc Z1 (.cells #[.int .i64 0, .int .i64 0] 3)).trans (hb1.mono (by simp; omega))
    have Z1b : w.heap.size + 1 + 1 ≤ w1b.heap.size := by have := B1b.size; simpa using this
    clear hb1 own1 B1 Z1 hk1
    go_wp2_with fail
    refine (KEY0.out _ _ (own1b.alloc _).sl.2 _ _ ((si1.keep ((Below.refl _ _).alloc (Nat.le_refl _) (.cells #[.int .i64 0, .int .i64 0] 3)) (Nat.le_refl _)).more (by simp)) _ _ (sl_new' (by decide) w1b #[.int .i64 0, .int .i64 0] _ _ (by simp) rfl)).mono ?_
    rintro e w2 ⟨A1, c1, A2, c2, rfl, hb2⟩
    have B2 := (B1b.alloc Z1b (.cells #[.int .i64 0, .int .i64 0] 3)).trans (hb2.mono (by simp; omega))
    have Z2 : w.heap.size + 1 + 1 ≤ w2.heap.size := by have := B2.size; simpa using this
    have B3 := B2.alloc Z2 (.cells #[.slice A1 2 c1, .int .i64 5, .slice A2 2 c2] 45)
    clear hb2 own1b si1 B1b Z1b B2 Z2
    obtain ⟨q0, q1, r0, r1, Z3, sg, sh, H3⟩ := HK.out _ B3
    go_wp2_with fail
    refine (KRUN.out _ sg sh (HKT.out _ H3)).mono ?_
    rintro e w4 hsays
    obtain ⟨A3, m3, c3, co, A4, k4, c4, xe, rfl, hb4, hcase⟩ := K3.out _ _ _ hsays
    clear hsays
    have B4 := B3.trans (hb4.mono Z3)
    have Z4 := (HK.out _ B4).2.2.2.2.1
    have B4' := B4.alloc Z4 (.cells #[.slice A3 m3 c3, .int .i64 co, .slice A4 k4 c4] 45)
    clear q0 q1 r0 r1 sg sh Z3 H3 hb4 B3
    have hcase' := Lib.hid hcase
    clear hcase
    obtain ⟨q0, q1, r0, r1, Z5, sg, sh, H5⟩ := HK.out _ B4'
    have BF4 := Lib.hid (Below.refl (w4.heap.size + 1) (w4.alloc (.cells #[.slice A3 m3 c3, .int .i64 co, .slice A4 k4 c4] 45)))
    go_wp2_with fail
    refine (KLOOK.out _ sg sh).mono ?_
    rintro e w5 ⟨rfl, hb5⟩
    have B5 := B4'.trans (hb5.mono Z5)
    have BF5 := BF4.out.trans (hb5.mono (by simp))
    have ZF5 : w4.heap.size + 1 ≤ w5.heap.size := by have := BF5.size; simpa using this
    clear q0 q1 r0 r1 sg sh Z5 H5 hb5 B4' BF4
    obtain ⟨q0, q1, r0, r1, Z5, sg, sh, H5⟩ := HK.out _ B5
    have z50 : w.heap.size < w5.heap.size := by omega
    have z51 : w.heap.size + 1 < w5.heap.size := by omega
    go_wp2_with fail
    refine (KWGT.out _).mono ?_
    rintro e w5b ⟨rfl, hb5⟩
    have B5b := B5.trans (hb5.mono Z5)
    have BF5b := BF5.trans (hb5.mono ZF5)
    have ZF5b : w4.heap.size + 1 ≤ w5b.heap.size := by have := hb5.size; omega
    clear q0 q1 r0 r1 sg sh Z5 H5 hb5 B5 BF5 ZF5 z50 z51
    obtain ⟨q0, q1, r0, r1, Z5, sg, sh, H5⟩ := HK.out _ B5b
    go_wp2_with fail
    refine (KDIST.out _ sg).mono ?_
    rintro e w6 ⟨S6, M, rfl, own6, hb6, hsh⟩
    have B6 := B5b.trans (hb6.mono Z5)
    have BF6 := BF5b.trans (hb6.mono ZF5b)
    have hMl : M.length = n := by have := hsh.out.len; omega
    obtain ⟨dc, _⟩ := own_at1 hMl own6 htt
    rw [getD_dg] at dc
    have H6 := H5.trans (hb6.mono H5.size)
    clear q0 q1 r0 r1 sg sh Z5 H5 hb6 B5b BF5b ZF5b
    have hS6 := (own6.base_ S6 rfl).2
    rcases hcase'.out with rfl | ⟨rfl, hfar⟩ | ⟨rfl, pa, ord, o1, o2, HPL, HOL, HFN⟩
    · clear hcase' own6 hMl hsh dc B6 BF6 B4 hS6
      go_wp2
      go_ret
      exact ⟨rfl, H6⟩
    · have hfar := hfar.out M hsh.out
      unfold far at hfar
      rw [hfar] at dc
      clear hcase' own6 hMl hsh B6 BF6 B4 hS6 hfar
      go_wp2
      go_ret
      exact ⟨rfl, H6⟩
    · clear hcase'
      obtain ⟨s1, s2, s3⟩ := HFN.out.bound M hsh.out
      have hco := HFN.out.co0
      have HF := Lib.hid (fun W hW => fbox (W := W) (co := co) o1 o2 hW)
      obtain ⟨mt, hmt⟩ : ∃ mt, dg M (t : Int) = mt := ⟨_, rfl⟩
      rw [hmt] at s1 s2 s3 dc
      clear hmt o1 o2
      obtain ⟨q0, q1, r0, r1, Z6, sg, sh, _⟩ := HK.out _ B6
      obtain ⟨f0, f1, f2, Z46, sp, so⟩ := HF.out _ BF6
      obtain ⟨k5, hk5⟩ : ∃ k5, k5 = ord.length := ⟨_, rfl⟩
      obtain rfl : k4 = k5 + 1 := by have := HOL.out; omega
      have hk5b : k5 < 100000 := by have := HFN.out.olen; omega
      have ho0 : (ord ++ [(t : Int)])[0]? = some (f : Int) := by rw [← List.head?_eq_getElem?]; exact HFN.out.ohead
      have hok : (ord ++ [(t : Int)])[k5]? = some (t : Int) := by rw [hk5]; simp
      obtain ⟨b4, o4, rfl, hb4, g0, gk⟩ := ends_at so ho0 hok
      have hg4 := fun W hW => ends_at (HF.out W hW).2.2.2.2.2 ho0 hok
      have HG4 : Hid (∀ W, Below (w4.heap.size + 1) (w4.alloc (.cells #[.slice A3 m3 c3, .int .i64 co, .slice (some ⟨b4, o4, none⟩) (k5 + 1) c4] 45)) W → W.cell? ⟨b4, o4, none⟩ = some (.int .i64 f) ∧ W.cell? ⟨b4, o4 + k5, none⟩ = some (.int .i64 t)) := Lib.hid (fun W hW => by
        obtain ⟨b1, o1, e1, _, g1, g2⟩ := hg4 W hW
        injection e1 with e1
        injection e1 with e1 e2
        subst e1 e2
        exact ⟨g1, g2⟩)
      unfold far at s3
      have hb1 : -1000000000000 ≤ co * q ∧ co * q ≤ 1000000000000 := by
        have h1 := Int.mul_le_mul_of_nonneg_right hco.2 (show 0 ≤ q by omega)
        have h2 := Int.mul_le_mul_of_nonneg_right hco.1 (show 0 ≤ q by omega)
        omega
      have hb2 := Int.mul_le_mul q4 (show mt ≤ 1099511627776 by omega) s2 (by decide)
      have hb3 := Int.mul_nonneg (show 0 ≤ p by omega) s2
      have kwalks := fun W (h1 : Below (w.heap.size + 1 + 1) ((w.alloc (.cells #[.int .i64 n, .slice A l.length c] 32)).alloc (.cells #[.int .i64 p, .int .i64 q] 54)) W) (h2 : Below (w4.heap.size + 1) (w4.alloc (.cells #[.slice A3 m3 c3, .int .i64 co, .slice (some ⟨b4, o4, none⟩) (k5 + 1) c4] 45)) W) (h3 : Below w6.heap.size w6 W) => (walks_any n co f t A c l A3 m3 c3 pa W (HK.out W h1).2.2.2.2.2.1 (HF.out W h2).2.2.2.2.1 HPL.out hll (by have := HFN.out.plen; have := HPL.out; omega) HFN.out.cost HFN.out.head HFN.out.last).mono (fun e W' (hh : _ ∧ Below W.heap.size W W') => (⟨hh.1, h1.trans (hh.2.mono (HK.out W h1).2.2.2.2.1), h2.trans (hh.2.mono (HF.out W h2).2.2.2.1), h3.trans (hh.2.mono h3.size)⟩ : _ ∧ Below (w.heap.size + 1 + 1) ((w.alloc (.cells #[.int .i64 n, .slice A l.length c] 32)).alloc (.cells #[.int .i64 p, .int .i64 q] 54)) W' ∧ Below (w4.heap.size + 1) (w4.alloc (.cells #[.slice A3 m3 c3, .int .i64 co, .slice (some ⟨b4, o4, none⟩) (k5 + 1) c4] 45)) W' ∧ Below w6.heap.size w6 W'))
      have ktimes := fun W (h1 : Below (w.heap.size + 1 + 1) ((w.alloc (.cells #[.int .i64 n, .slice A l.length c] 32)).alloc (.cells #[.int .i64 p, .int .i64 q] 54)) W) (h2 : Below (w4.heap.size + 1) (w4.alloc (.cells #[.slice A3 m3 c3, .int .i64 co, .slice (some ⟨b4, o4, none⟩) (k5 + 1) c4] 45)) W) (h3 : Below w6.heap.size w6 W) => (times_any co p q mt W (by omega) (by omega) s1).mono (fun e W' (hh : _ ∧ Below W.heap.size W W') => (⟨hh.1, h1.trans (hh.2.mono (HK.out W h1).2.2.2.2.1), h2.trans (hh.2.mono (HF.out W h2).2.2.2.1), h3.trans (hh.2.mono h3.size)⟩ : _ ∧ Below (w.heap.size + 1 + 1) ((w.alloc (.cells #[.int .i64 n, .slice A l.length c] 32)).alloc (.cells #[.int .i64 p, .int .i64 q] 54)) W' ∧ Below (w4.heap.size + 1) (w4.alloc (.cells #[.slice A3 m3 c3, .int .i64 co, .slice (some ⟨b4, o4, none⟩) (k5 + 1) c4] 45)) W' ∧ Below w6.heap.size w6 W'))
      have hw1 : IntKind.i64.wrap (((k5 + 1 : Nat) : Int) - 1) = (k5 : Int) := by rw [show ((k5 + 1 : Nat) : Int) - 1 = (k5 : Int) by omega]; exact IntWalk.i64_in _ (by omega)
      have hw2 : IntKind.i64.wrap ((k5 : Int) + 1 - 1) = (k5 : Int) := by rw [show (k5 : Int) + 1 - 1 = (k5 : Int) by omega]; exact IntWalk.i64_in _ (by omega)
      have hw3 : IntKind.i64.wrap (k5 : Int) = (k5 : Int) := IntWalk.i64_in _ (by omega)
      have hkl : (k5 : Int) < (k5 : Int) + 1 := by omega
      have hk0 : (0 : Int) ≤ (k5 : Int) := by omega
      have KW := Lib.hid kwalks
      have KT := Lib.hid ktimes
      have BB6 := Lib.hid (Below.refl w6.heap.size w6)
      clear kwalks ktimes s1 s2 s3 hMl sg sh H6 hsh own6 sp so hb1 hb2 hb3 hco hk5 ho0 hok hg4 B4
      go_upto_region 12 with fail
      go_region_held3 (fun w' => w'.cell? ⟨w.heap.size, 0, none⟩ = some (.int .i64 n) ∧ w'.cell? ⟨w.heap.size, 1, none⟩ = some (.slice A l.length c) ∧ w'.cell? ⟨w.heap.size + 1, 0, none⟩ = some (.int .i64 p) ∧ w'.cell? ⟨w.heap.size + 1, 1, none⟩ = some (.int .i64 q) ∧ w'.cell? ⟨w4.heap.size, 0, none⟩ = some (.slice A3 m3 c3) ∧ w'.cell? ⟨w4.heap.size, 1, none⟩ = some (.int .i64 co) ∧ w'.cell? ⟨w4.heap.size, 2, none⟩ = some (.slice (some ⟨b4, o4, none⟩) (k5 + 1) c4) ∧ w'.cell? ⟨S6, t, none⟩ = some (.int .i64 mt) ∧ w'.cell? ⟨b4, o4, none⟩ = some (.int .i64 f) ∧ w'.cell? ⟨b4, o4 + k5, none⟩ = some (.int .i64 t))
        (first
          | go_keep
          | (go_split_ands
             exact ⟨x0, x1, x2, x3, y0, y1, y2, xd, z0, z1⟩))
        (first
          | (go_at_call 36; refine (KW.out _ (by first | exact B6 | exact B6.drew | exact below_drewN B6 _) (by first | exact BF6 | exact BF6.drew | exact below_drewN BF6 _) (by first | exact BB6.out | exact BB6.out.drew | exact below_drewN BB6.out _)).mono ?_; rintro e w7 ⟨rfl, B7, BF7, BB7⟩; obtain ⟨x0, x1, x2, x3, _⟩ := HK.out _ B7; obtain ⟨y0, y1, y2, _⟩ := HF.out _ BF7; obtain ⟨z0, z1⟩ := HG4.out _ BF7; have xd := ((keepAt BB7 hS6).1 t).trans dc)
          | (go_at_call 37; refine (KT.out _ (by first | exact B7 | exact B7.drew | exact below_drewN B7 _) (by first | exact BF7 | exact BF7.drew | exact below_drewN BF7 _) (by first | exact BB7 | exact BB7.drew | exact below_drewN BB7 _)).mono ?_; clear x0 x1 x2 x3 y0 y1 y2 xd z0 z1; rintro e w8 ⟨rfl, B8, BF8, BB8⟩; obtain ⟨x0, x1, x2, x3, _⟩ := HK.out _ B8; obtain ⟨y0, y1, y2, _⟩ := HF.out _ BF8; obtain ⟨z0, z1⟩ := HG4.out _ BF8; have xd := ((keepAt BB8 hS6).1 t).trans dc))
      all_goals
        have HEND := (HK.out _ B8).2.2.2.2.2.2.2
        clear x0 x1 x2 x3 y0 y1 y2 xd z0 z1 q0 q1 r0 r1 f0 f1 f2 dc g0 gk
        go_wp2
        go_ret
        exact ⟨rfl, HEND⟩

theorem own : ownKnob Try.prog.godebug = none := by kernel_rfl
theorem laidOut : laidOutB Try.prog = true := by kernel_rfl

set_option maxRecDepth 100000 in
theorem lifted (os : Os) (started : os.Started) (H : Type) (enc : TypeId × Value → H) :
    ReturnsInHanded {} Try.checked os 12 .any (Rows.focalBoundSpec.pre6 enc Try.prog Try.f12 Rows.focalBoundRow.domain false) (Rows.focalBoundSpec.post enc Try.prog Try.f12 false true false false) := by
  refine returnsInHanded_of_change (C := Try.checked) own started (by kernel_rfl) Try.func12
    (ChangeSpec.witness6 (enc := enc) (C := Try.checked) false ⟨#[], #[.agg #[.int .i64 0, .slice none 0 0], .int .i64 0, .int .i64 0, .slice none 0 0, .agg #[.int .i64 0, .int .i64 0], .slice none 0 0], []⟩ 8 (by kernel_rfl) (by kernel_rfl) (by kernel_rfl) (by kernel_rfl)) ?_
  intro W base args ds gs before hval0 hW hcnd _
  have hval : ∀ (j : Nat) t v, Try.f12.params[j]? = some t → args[j]? = some v → Value.okWide Try.prog W .any base t v := hval0
  have hW' := hW
  obtain ⟨p, q, hA0, hV, rfl, hfz, hnd⟩ := hW
  have hA : DataW.TrodAll enc Try.prog W 0 (fun _ => true) true Try.f12.params.toList args.toList ds p := hA0
  rw [Try.params12] at hA hval
  obtain ⟨v0, vs0, d0, ds0, p0, q0, hargs, rfl, rfl, h0, r0⟩ := trodAll_cons hA
  obtain ⟨v1, vs1, d1, ds1, p1, q1, rfl, rfl, rfl, h1, r1⟩ := trodAll_cons r0
  obtain ⟨v2, vs2, d2, ds2, p2, q2, rfl, rfl, rfl, h2, r2⟩ := trodAll_cons r1
  obtain ⟨v3, vs3, d3, ds3, p3, q3, rfl, rfl, rfl, h3, r3⟩ := trodAll_cons r2
  obtain ⟨v4, vs4, d4, ds4, p4, q4, rfl, rfl, rfl, h4, r4⟩ := trodAll_cons r3
  obtain ⟨v5, vs5, d5, ds5, p5, q5, rfl, rfl, rfl, h5, r5⟩ := trodAll_cons r4
  obtain ⟨rfl, rfl, rfl⟩ := trodAll_nil r5
  obtain rfl : args = #[v0, v1, v2, v3, v4, v5] := by cases args; simp_all
  obtain ⟨rfl, rfl⟩ := trodVars_none hV
  obtain ⟨N0, A0, c0, l0, dd0, rfl, hN0, hG0, hb0, rfl, hd0⟩ := open_net Try.underlying32 (by kernel_rfl) (by kernel_rfl) Try.underlying3 Try.underlying30 Try.underlying37 (by kernel_rfl) (by kernel_rfl) Try.underlying3 Try.underlying3 Try.underlying3 (hval 0 32 v0 rfl rfl) h0
  obtain ⟨a1, rfl, rfl, rfl, wa1⟩ := open_int Try.underlying3 (hval 1 3 v1 rfl rfl) h1
  obtain ⟨a2, rfl, rfl, rfl, wa2⟩ := open_int Try.underlying3 (hval 2 3 v2 rfl rfl) h2
  obtain ⟨A3, c3, l3, rfl, hG3, hd3, hb3⟩ := open_sl1 Try.underlying22 Try.underlying3 (by kernel_rfl) (hval 3 22 v3 rfl rfl) h3
  obtain ⟨a4, b4, rfl, rfl, rfl, ha4, hb4⟩ := open_ii Try.underlying54 (by kernel_rfl) (by kernel_rfl) Try.underlying3 Try.underlying3 (hval 4 54 v4 rfl rfl) h4
  obtain ⟨A5, c5, l5, rfl, hG5, hd5, hb5⟩ := open_sl1 Try.underlying22 Try.underlying3 (by kernel_rfl) (hval 5 22 v5 rfl rfl) h5
  refine (walk W N0 A0 c0 l0 hG0 a1 (wf_bd wa1) a2 (wf_bd wa2) A3 c3 l3 hG3 a4 b4 ha4 hb4 A5 c5 l5 hG5).mono fun e W' ⟨he, hB⟩ => ?_
  subst he
  exact ⟨_, rfl, post_of_law laidOut rfl Try.underlying4 rfl (by intro t ht; rw [Try.params12] at ht; simp at ht; rcases ht with rfl | rfl | rfl | rfl | rfl | rfl <;> exact ⟨by kernel_rfl, of_decide_eq_true (by kernel_rfl)⟩) hW' rfl hB⟩

theorem holds : Rows.FocalBoundSaid :=
  OpenClaim.holds_of_wide 12 Try.f12 rfl rfl rfl rfl rfl rfl rfl ⟨rfl, rfl, rfl, rfl, rfl⟩ rfl rfl rfl rfl rfl (by kernel_rfl) Try.func12 (by kernel_rfl)
    (of_decide_eq_true (by kernel_rfl)) (by unfold Func.isWrapper; first | (rw [if_pos (by decide +kernel)]; kernel_rfl) | (rw [if_neg (by decide +kernel)]; exact ⟨rfl, rfl⟩))
    (fun os started H enc _ => lifted os started H enc)
#print axioms holds
end Go.Proofs.Ytbgkkmcobijkgaa.FocalBoundLaw
