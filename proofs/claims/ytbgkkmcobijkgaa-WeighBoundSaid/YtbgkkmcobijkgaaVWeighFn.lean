/- The walks of weigh.Weight, weigh.Key and weigh.Run. -/
import Derived.Test.YtbgkkmcobijkgaaVStarFn
import Derived.Test.YtbgkkmcobijkgaaVStarRunW
import Derived.Test.YtbgkkmcobijkgaaVRatioWalks
namespace Go.Proofs.Ytbgkkmcobijkgaa.StarF
open Go.RowKit Go.Proofs.Ytbgkkmcobijkgaa NetLaw BellLaw DijkLaw HeurLaw StarLaw RatioLaw Go.Proofs.Ytbgkkmcobijkgaa.Net Go.Proofs.Ytbgkkmcobijkgaa.Dijk Go.Proofs.Ytbgkkmcobijkgaa.Std Go.Proofs.Ytbgkkmcobijkgaa.Heur
set_option linter.unusedSimpArgs false
set_option linter.unusedVariables false

/-- what weigh.Weight answers -/
def wgt (a b : Int) : Int := if 1 ≤ b ∧ b ≤ 1000000 ∧ -1000000 ≤ a ∧ a ≤ 1000000 ∧ Int.gcd a b = 1 then (if a < b then 1 else 0) else 3
theorem wgt_zero {a b : Int} : wgt a b = 0 ↔ Ok a b ∧ b ≤ a := by
  unfold wgt
  split
  · rename_i h
    obtain ⟨h1, h2, h3, h4, h5⟩ := h
    split
    · exact ⟨fun x => by omega, fun x => by omega⟩
    · exact ⟨fun _ => ⟨⟨h1, h2, h3, h4, h5⟩, by omega⟩, fun _ => rfl⟩
  · rename_i h
    exact ⟨fun x => by omega, fun x => absurd x.1 h⟩
set_option maxHeartbeats 1000000 in
theorem weight_any (a b : Int) (w : World) :
    Calls Try.prog 30 #[.agg #[.int .i64 a, .int .i64 b]] w fun e w' => e = .returned (.int .i64 (wgt a b)) ∧ Below w.heap.size w w' := by
  have hw0 : Below w.heap.size w (w.alloc (.cells #[.int .i64 a, .int .i64 b] 54)) := (Below.refl _ _).alloc (Nat.le_refl _) _
  have hbox := heap_alloc_new w (.cells #[.int .i64 a, .int .i64 b] 54)
  have HBOX := Lib.hid hbox
  clear hbox
  by_cases hok : 1 ≤ b ∧ b ≤ 1000000 ∧ -1000000 ≤ a ∧ a ≤ 1000000 ∧ Int.gcd a b = 1
  · have hp : wgt a b = if a < b then 1 else 0 := by unfold wgt; rw [if_pos hok]
    have key := fun W => Ratio.check_yes a b W hok
    have KEY := Lib.hid key
    clear key hok
    by_cases hlt : a < b
    · rw [if_pos hlt] at hp
      rw [hp]
      have hd : decide (a < b) = true := decide_eq_true hlt
      clear hp
      go_enter Try.func30, Try.ntmps30
      go_wp2_with fail
      refine (KEY.out _).mono ?_
      rintro e w1 ⟨rfl, hb1⟩
      have H1 := hw0.trans (hb1.mono (by simp))
      have hb := blk_below HBOX.out hb1 (by simp)
      have q0 := blk_cell hb 0
      have q1 := blk_cell hb 1
      simp only [List.getElem?_toArray, List.getElem?_cons_zero, List.getElem?_cons_succ] at q0 q1
      have hz : w.heap.size < w1.heap.size := lt_of_block hb
      clear hb hb1
      go_wp2
      go_ret
      exact ⟨rfl, H1⟩
    · rw [if_neg hlt] at hp
      rw [hp]
      have hd : decide (a < b) = false := decide_eq_false hlt
      clear hp
      go_enter Try.func30, Try.ntmps30
      go_wp2_with fail
      refine (KEY.out _).mono ?_
      rintro e w1 ⟨rfl, hb1⟩
      have H1 := hw0.trans (hb1.mono (by simp))
      have hb := blk_below HBOX.out hb1 (by simp)
      have q0 := blk_cell hb 0
      have q1 := blk_cell hb 1
      simp only [List.getElem?_toArray, List.getElem?_cons_zero, List.getElem?_cons_succ] at q0 q1
      have hz : w.heap.size < w1.heap.size := lt_of_block hb
      clear hb hb1
      go_wp2
      go_ret
      exact ⟨rfl, H1⟩
  · have hp : wgt a b = 3 := by unfold wgt; rw [if_neg hok]
    have key := fun W => Ratio.check_no a b W hok
    have KEY := Lib.hid key
    rw [hp]
    clear key hok hp
    go_enter Try.func30, Try.ntmps30
    go_wp2_with fail
    refine (KEY.out _).mono ?_
    rintro e w1 ⟨rfl, hb1⟩
    have H1 := hw0.trans (hb1.mono (by simp))
    clear hb1
    go_wp2
    go_ret
    exact ⟨rfl, H1⟩
set_option maxHeartbeats 1000000 in
theorem key_new (p q : Int) (w : World) :
    Calls Try.prog 55 #[.agg #[.int .i64 p, .int .i64 q]] w fun e w' => ∃ Bw, e = .returned (StarW.FN Bw) ∧ StarW.KOk w' w'.heap.size Bw q p ∧ Below w.heap.size w w' := by
  go_enter Try.func55, Try.ntmps55
  go_wp2
  go_ret
  refine ⟨w.heap.size, rfl, ⟨by simp, by simp, by simp⟩, (Below.refl _ _).alloc (Nat.le_refl _) _⟩
/-- the three boxes behind what was made since -/
theorem wbox {w w9 W : World} {v0 v1 v2 v3 v4 v5 v6 : Value} {k0 k1 k2 : TypeId} (hbox : w9.heap[w.heap.size]? = some (.cells #[v0, v1] k0 (0, 0))) (hrat : w9.heap[w.heap.size + 1]? = some (.cells #[v2, v3] k1 (0, 0))) (hres : w9.heap[w.heap.size + 1 + 1]? = some (.cells #[v4, v5, v6] k2 (0, 0))) (hw0 : Below w.heap.size w w9) (hz0 : w.heap.size + 3 = w9.heap.size) (hW : Below w9.heap.size w9 W) :
    (W.cell? ⟨w.heap.size, 0, none⟩ = some v0 ∧ W.cell? ⟨w.heap.size, 1, none⟩ = some v1 ∧ W.cell? ⟨w.heap.size + 1, 0, none⟩ = some v2 ∧ W.cell? ⟨w.heap.size + 1, 1, none⟩ = some v3) ∧
    (W.cell? ⟨w.heap.size + 1 + 1, 0, none⟩ = some v4 ∧ W.cell? ⟨w.heap.size + 1 + 1, 1, none⟩ = some v5 ∧ W.cell? ⟨w.heap.size + 1 + 1, 2, none⟩ = some v6 ∧ W.frozen? ⟨w.heap.size + 1 + 1, 0, none⟩ = false ∧ W.frozen? ⟨w.heap.size + 1 + 1, 1, none⟩ = false ∧ W.frozen? ⟨w.heap.size + 1 + 1, 2, none⟩ = false) ∧
    W.heap[w.heap.size + 1 + 1]? = some (.cells #[v4, v5, v6] k2 (0, 0)) ∧ w.heap.size + 3 ≤ W.heap.size ∧ Below w.heap.size w W := by
  have b0 := blk_below hbox hW (by omega)
  have b1 := blk_below hrat hW (by omega)
  have b2 := blk_below hres hW (by omega)
  have c0 := blk_cell b0 0
  have c1 := blk_cell b0 1
  have c2 := blk_cell b1 0
  have c3 := blk_cell b1 1
  have c4 := blk_cell b2 0
  have c5 := blk_cell b2 1
  have c6 := blk_cell b2 2
  simp only [List.getElem?_toArray, List.getElem?_cons_zero, List.getElem?_cons_succ] at c0 c1 c2 c3 c4 c5 c6
  exact ⟨⟨c0, c1, c2, c3⟩, ⟨c4, c5, c6, blk_free b2 0, blk_free b2 1, blk_free b2 2⟩, b2, Nat.le_trans (Nat.le_of_eq hz0) hW.size, hw0.trans (hW.mono (by omega))⟩
theorem says_form {n f t : Nat} {l : List E} {hs : List Int} {q p : Int} {w w' : World} {e : Ending} (h : StarW.SearchSays n f t l hs q p w e w') : ∃ A1 cl c1 dt A2 ol c2 x, e = .returned (.tuple #[.agg #[.slice A1 cl c1, .int .i64 dt, .slice A2 ol c2], .int .i64 x]) ∧ Below w.heap.size w w' := by
  obtain ⟨D, P, ord, _, hc, hb⟩ := h
  rcases hc with ⟨_, cs, A1, c1, A2, c2, _, rfl, _, _⟩ | ⟨_, rfl⟩
  · exact ⟨_, _, _, _, _, _, _, _, rfl, hb⟩
  · exact ⟨_, _, _, _, _, _, _, _, rfl, hb⟩
theorem says_kept {n f t : Nat} {l : List E} {hs : List Int} {q p : Int} {w W w4 : World} {e : Ending} {R : Nat} {cs : Array Value} (h : StarW.SearchSays n f t l hs q p W e w4) (hr : w4.heap[R]? = some (.cells cs 45 (0, 0))) (hz : w.heap.size ≤ W.heap.size) {x y z : Value} (hB : Below w.heap.size w (((w4.setCell ⟨R, 0, none⟩ x).setCell ⟨R, 1, none⟩ y).setCell ⟨R, 2, none⟩ z)) :
    StarW.SearchSays n f t l hs q p w e (((w4.setCell ⟨R, 0, none⟩ x).setCell ⟨R, 1, none⟩ y).setCell ⟨R, 2, none⟩ z) := by
  obtain ⟨D, P, ord, hr', hc, hb⟩ := h
  refine ⟨D, P, ord, hr', ?_, hB⟩
  rcases hc with ⟨hn, cs', A1, c1, A2, c2, hch, he, o1, o2⟩ | ⟨hn, he⟩
  · exact .inl ⟨hn, cs', A1, c1, A2, c2, hch, he, StarW.res_kept (o1.mono hz) hr _ _ _, StarW.res_kept (o2.mono hz) hr _ _ _⟩
  · exact .inr ⟨hn, he⟩
/-- what weigh.Run answers -/
def WRunSays (N fr tt : Int) (l : List E) (hs : List Int) (p q : Int) (w : World) (e : Ending) (w' : World) : Prop :=
  (slook N fr tt l hs ≠ 0 → e = .returned (.tuple #[.agg #[.slice none 0 0, .int .i64 0, .slice none 0 0], .int .i64 (slook N fr tt l hs)])) ∧
  (slook N fr tt l hs = 0 → wgt p q ≠ 0 → e = .returned (.tuple #[.agg #[.slice none 0 0, .int .i64 0, .slice none 0 0], .int .i64 (wgt p q)])) ∧
  (slook N fr tt l hs = 0 → wgt p q = 0 → ∃ n f t : Nat, N = n ∧ fr = f ∧ tt = t ∧ StarW.SearchSays n f t l hs q p w e w') ∧ Below w.heap.size w w'
set_option maxRecDepth 100000 in
set_option maxHeartbeats 4000000 in
theorem wrun_any (N fr tt : Int) (A : Option Addr) (c : Nat) (l : List E) (Ah : Option Addr) (ch : Nat) (hs : List Int) (p q : Int) (w : World) (hl : Sl w w.heap.size 3 ce A l) (hh : Sl w w.heap.size 1 ci Ah hs) (hlen : l.length ≤ 9223372036854775807) (hlen' : hs.length ≤ 9223372036854775807) :
    Calls Try.prog 27 #[.agg #[.int .i64 N, .slice A l.length c], .int .i64 fr, .int .i64 tt, .slice Ah hs.length ch, .agg #[.int .i64 p, .int .i64 q]] w fun e w' => WRunSays N fr tt l hs p q w e w' := by
  obtain ⟨w9, hw9⟩ : ∃ w9, w9 = ((w.alloc (.cells #[.int .i64 N, .slice A l.length c] 32)).alloc (.cells #[.int .i64 p, .int .i64 q] 54)).alloc (.cells #[.slice none 0 0, .int .i64 0, .slice none 0 0] 45) := ⟨_, rfl⟩
  have hw0 : Below w.heap.size w w9 := by rw [hw9]; exact (((Below.refl _ _).alloc (Nat.le_refl _) _).alloc (by simp) _).alloc (by simp; omega) _
  have hz0 : w.heap.size + 3 = w9.heap.size := by rw [hw9]; simp
  have hbox : w9.heap[w.heap.size]? = some (.cells #[.int .i64 N, .slice A l.length c] 32 (0, 0)) := by rw [hw9]; exact blk_alloc (blk_alloc (heap_alloc_new w _) _) _
  have hrat : w9.heap[w.heap.size + 1]? = some (.cells #[.int .i64 p, .int .i64 q] 54 (0, 0)) := by
    have h := blk_alloc (heap_alloc_new (w.alloc (.cells #[.int .i64 N, .slice A l.length c] 32)) (.cells #[.int .i64 p, .int .i64 q] 54)) (.cells #[.slice none 0 0, .int .i64 0, .slice none 0 0] 45)
    rw [hw9]; simpa using h
  have hres : w9.heap[w.heap.size + 1 + 1]? = some (.cells #[.slice none 0 0, .int .i64 0, .slice none 0 0] 45 (0, 0)) := by
    have h := heap_alloc_new ((w.alloc (.cells #[.int .i64 N, .slice A l.length c] 32)).alloc (.cells #[.int .i64 p, .int .i64 q] 54)) (.cells #[.slice none 0 0, .int .i64 0, .slice none 0 0] 45)
    rw [hw9]; simpa using h
  have hk := fun W hW => wbox hbox hrat hres hw0 hz0 (W := W) hW
  have HK := Lib.hid hk
  clear hk hbox hrat hres
  have klook := fun W (hb : Below w.heap.size w W) => slook_any N fr tt A c l Ah ch hs W ((hl.keep hb (Nat.le_refl _)).more hb.size) ((hh.keep hb (Nat.le_refl _)).more hb.size) hlen hlen'
  have kwgt := fun W => weight_any p q W
  have BB := Lib.hid (Below.refl w9.heap.size w9)
  have HW0 := Lib.hid hw0
  unfold WRunSays
  by_cases hx : slook N fr tt l hs = 0
  · rw [hx] at klook
    by_cases hy : wgt p q = 0
    · rw [hy] at kwgt
      obtain ⟨⟨q1, q2, q3, q4, _⟩, q5⟩ := wgt_zero.1 hy
      obtain ⟨hlk, hC⟩ := slook_zero.1 hx
      obtain ⟨hg, hc, ⟨f0, f1⟩, t0, t1⟩ := DijkWay.looks_zero hlk
      have h1 := hg.lo
      obtain ⟨n, rfl⟩ := Int.eq_ofNat_of_zero_le (show 0 ≤ N by omega)
      obtain ⟨f, rfl⟩ := Int.eq_ofNat_of_zero_le f0
      obtain ⟨t, rfl⟩ := Int.eq_ofNat_of_zero_le t0
      have hhl : hs.length = n := by have := hC.len; omega
      have ksrch := fun W Bw (hb : Below w.heap.size w W) hK => StarW.search_any n f t A l.length c l Ah ch hs q p Bw W rfl ((hl.keep hb (Nat.le_refl _)).more hb.size) hg hc ((hh.keep hb (Nat.le_refl _)).more hb.size) hhl hC.lo (by omega) (by omega) ⟨q1, q2⟩ ⟨by omega, q4⟩ hK
      rw [hhl] at klook ⊢
      have KS := Lib.hid ksrch
      have KN := Lib.hid (fun W => key_new p q W)
      have HHL := Lib.hid hhl
      have HX := Lib.hid hx
      have HY := Lib.hid hy
      have KL := Lib.hid klook
      have KW := Lib.hid kwgt
      clear klook kwgt ksrch hhl hg hc hC hlk hx hy q1 q2 q3 q4 q5 hw0 hl hh
      go_enter Try.func27, Try.ntmps27
      go_wp2_with fail
      rw [← hw9]
      refine (KL.out _ HW0.out).mono ?_
      rintro e w1 ⟨rfl, hb1⟩
      have B1 := BB.out.trans (hb1.mono (Nat.le_refl _))
      obtain ⟨⟨n0, n1, r0, r1⟩, _, _, z1, H1⟩ := HK.out _ B1
      have z10 : w.heap.size < w1.heap.size := by omega
      have z11 : w.heap.size + 1 < w1.heap.size := by omega
      clear hb1
      go_wp2_with fail
      refine (KW.out _).mono ?_
      rintro e w2 ⟨rfl, hb2⟩
      have B2 := B1.trans (hb2.mono B1.size)
      clear hb2 n0 n1 r0 r1 z10 z11 z1 H1 B1
      obtain ⟨⟨n0, n1, r0, r1⟩, _, _, z2, H2⟩ := HK.out _ B2
      have z20 : w.heap.size < w2.heap.size := by omega
      have z21 : w.heap.size + 1 < w2.heap.size := by omega
      have z22 : w.heap.size + 1 + 1 < w2.heap.size := by omega
      go_upto_region 7 with fail
      go_region_with (first
        | (go_at_call 55; refine (KN.out _).mono ?_; rintro e w3 ⟨Bw, rfl, kk3, hb3⟩; have B3 : Below w9.heap.size w9 w3 := (by first | exact B2.trans (hb3.mono B2.size) | exact B2.drew.trans (hb3.mono B2.size) | exact (below_drewN B2 _).trans (hb3.mono B2.size)); obtain ⟨⟨n0, n1, r0, r1⟩, _, _, z3, H3⟩ := HK.out _ B3; have z30 : w.heap.size < w3.heap.size := (by omega))
        | (go_at_call 51; go_must (refine (KS.out _ Bw (by first | exact H3 | exact H3.drew | exact below_drewN H3 _) (by first | exact kk3 | exact kk3.keep (Below.refl _ _).drew | exact kk3.keep (below_drewN (Below.refl _ _) _))).mono ?_; rintro e w4 hsays; obtain ⟨A1, cl, c1, dt, A2, ol, c2, xe, rfl, hb4⟩ := says_form hsays; have HSAYS := Lib.hid hsays; clear hsays; have B4 : Below w9.heap.size w9 w4 := (by first | exact B3.trans (hb4.mono B3.size) | exact B3.drew.trans (hb4.mono B3.size) | exact (below_drewN B3 _).trans (hb4.mono B3.size)); obtain ⟨_, ⟨s0, s1, s2, s3, s4, s5⟩, hres4, z4, H4⟩ := HK.out _ B4; have z40 : w.heap.size + 1 + 1 < w4.heap.size := (by omega); have o4 := (show w.heap.size ≤ w3.heap.size by exact H3.size))))
      all_goals
        simp only [Act.put, List.getElem_toArray, List.getElem_cons_succ, List.getElem_cons_zero, List.setIfInBounds_toArray, List.set_cons_zero, List.set_cons_succ]
        have s0' := s0
        clear n0 n1 r0 r1 s0'
        go_wp2
        refine bodyPost_ret (v := .tuple #[.agg #[.slice A1 cl c1, .int .i64 dt, .slice A2 ol c2], .int .i64 xe]) (by simp [results, Try.results27, go_sem, z40, s0, s1, s2, s3, s4, s5]) rfl ?_
        have HB : Below w.heap.size w (((w4.setCell ⟨w.heap.size + 1 + 1, 0, none⟩ (.slice A1 cl c1)).setCell ⟨w.heap.size + 1 + 1, 1, none⟩ (.int .i64 dt)).setCell ⟨w.heap.size + 1 + 1, 2, none⟩ (.slice A2 ol c2)) := ((H4.setCell (by dsimp only; omega) _).setCell (by dsimp only; omega) _).setCell (by dsimp only; omega) _
        refine ⟨fun h => absurd HX.out h, fun _ h => absurd HY.out h, fun _ _ => ⟨n, f, t, rfl, rfl, rfl, ?_⟩, HB⟩
        first
          | exact says_kept HSAYS.out hres4 (by simp; omega) HB
          | exact says_kept HSAYS.out hres4 (by omega) HB
    · rw [show wgt p q = wgt p q from rfl] at kwgt
      have hne : (wgt p q != 0) = true := by rw [bne_iff_ne]; exact hy
      have HX := Lib.hid hx
      have HY := Lib.hid hy
      clear hx hy hl hh hw0
      generalize wgt p q = er at *
      have KL := Lib.hid klook
      have KW := Lib.hid kwgt
      clear klook kwgt
      go_enter Try.func27, Try.ntmps27
      go_wp2_with fail
      rw [← hw9]
      refine (KL.out _ HW0.out).mono ?_
      rintro e w1 ⟨rfl, hb1⟩
      have B1 := BB.out.trans (hb1.mono (Nat.le_refl _))
      obtain ⟨⟨n0, n1, r0, r1⟩, _, _, z1, H1⟩ := HK.out _ B1
      have z10 : w.heap.size < w1.heap.size := by omega
      have z11 : w.heap.size + 1 < w1.heap.size := by omega
      clear hb1
      go_wp2_with fail
      refine (KW.out _).mono ?_
      rintro e w2 ⟨rfl, hb2⟩
      have B2 := B1.trans (hb2.mono B1.size)
      clear hb2 n0 n1 r0 r1 z10 z11 z1 H1 B1
      obtain ⟨_, ⟨s0, s1, s2, s3, s4, s5⟩, _, z2, H2⟩ := HK.out _ B2
      have z22 : w.heap.size + 1 + 1 < w2.heap.size := by omega
      clear hw9
      go_wp2
      refine bodyPost_ret (v := .tuple #[.agg #[.slice none 0 0, .int .i64 0, .slice none 0 0], .int .i64 er]) (by simp [results, Try.results27, go_sem, z22, s0, s1, s2, s3, s4, s5]) rfl ?_
      exact ⟨fun h => absurd HX.out h, fun _ _ => rfl, fun _ h => absurd h HY.out, ((H2.setCell (by dsimp only; omega) _).setCell (by dsimp only; omega) _).setCell (by dsimp only; omega) _⟩
  · have hne : (slook N fr tt l hs != 0) = true := by rw [bne_iff_ne]; exact hx
    have HX := Lib.hid hx
    clear hx hl hh hw0
    generalize slook N fr tt l hs = er at *
    have KL := Lib.hid klook
    clear klook kwgt
    go_enter Try.func27, Try.ntmps27
    go_wp2_with fail
    rw [← hw9]
    refine (KL.out _ HW0.out).mono ?_
    rintro e w1 ⟨rfl, hb1⟩
    have B1 := BB.out.trans (hb1.mono (Nat.le_refl _))
    obtain ⟨_, ⟨s0, s1, s2, s3, s4, s5⟩, _, z2, H2⟩ := HK.out _ B1
    have z22 : w.heap.size + 1 + 1 < w1.heap.size := by omega
    clear hw9 hb1
    go_wp2
    refine bodyPost_ret (v := .tuple #[.agg #[.slice none 0 0, .int .i64 0, .slice none 0 0], .int .i64 er]) (by simp [results, Try.results27, go_sem, z22, s0, s1, s2, s3, s4, s5]) rfl ?_
    exact ⟨fun _ => rfl, fun h => absurd h HX.out, fun h => absurd h HX.out, ((H2.setCell (by dsimp only; omega) _).setCell (by dsimp only; omega) _).setCell (by dsimp only; omega) _⟩
end Go.Proofs.Ytbgkkmcobijkgaa.StarF
