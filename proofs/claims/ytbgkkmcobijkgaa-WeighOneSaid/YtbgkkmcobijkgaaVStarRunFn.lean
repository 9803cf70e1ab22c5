/- The walk of star.Run. -/
import Derived.Test.YtbgkkmcobijkgaaVStarFn
import Derived.Test.YtbgkkmcobijkgaaVStarRunS
namespace Go.Proofs.Ytbgkkmcobijkgaa.StarF
open Go.RowKit Go.Proofs.Ytbgkkmcobijkgaa NetLaw BellLaw DijkLaw HeurLaw StarLaw Go.Proofs.Ytbgkkmcobijkgaa.Net Go.Proofs.Ytbgkkmcobijkgaa.Dijk Go.Proofs.Ytbgkkmcobijkgaa.Std Go.Proofs.Ytbgkkmcobijkgaa.Heur
set_option linter.unusedSimpArgs false
set_option linter.unusedVariables false

/-- what star.Run answers -/
def RunSays (N fr tt : Int) (l : List E) (hs : List Int) (w : World) (e : Ending) (w' : World) : Prop :=
  (slook N fr tt l hs ≠ 0 → e = .returned (.tuple #[.agg #[.slice none 0 0, .int .i64 0, .slice none 0 0], .int .i64 (slook N fr tt l hs)])) ∧
  (slook N fr tt l hs = 0 → ∃ n f t : Nat, N = n ∧ fr = f ∧ tt = t ∧ StarS.SearchSays n f t l hs 1 1 w e w') ∧ Below w.heap.size w w'
set_option maxRecDepth 100000 in
set_option maxHeartbeats 2000000 in
theorem run_any (N fr tt : Int) (A : Option Addr) (c : Nat) (l : List E) (Ah : Option Addr) (ch : Nat) (hs : List Int) (w : World) (hl : Sl w w.heap.size 3 ce A l) (hh : Sl w w.heap.size 1 ci Ah hs) (hlen : l.length ≤ 9223372036854775807) (hlen' : hs.length ≤ 9223372036854775807) :
    Calls Try.prog 23 #[.agg #[.int .i64 N, .slice A l.length c], .int .i64 fr, .int .i64 tt, .slice Ah hs.length ch] w fun e w' => RunSays N fr tt l hs w e w' := by
  have hw0 : Below w.heap.size w ((w.alloc (.cells #[.int .i64 N, .slice A l.length c] 32)).alloc (.cells #[.slice none 0 0, .int .i64 0, .slice none 0 0] 45)) := ((Below.refl _ _).alloc (Nat.le_refl _) _).alloc (by simp) _
  have hz0 : w.heap.size ≤ ((w.alloc (.cells #[.int .i64 N, .slice A l.length c] 32)).alloc (.cells #[.slice none 0 0, .int .i64 0, .slice none 0 0] 45)).heap.size := by simp; omega
  have hbox := blk_alloc (heap_alloc_new w (.cells #[.int .i64 N, .slice A l.length c] 32)) (.cells #[.slice none 0 0, .int .i64 0, .slice none 0 0] 45)
  have hres : ((w.alloc (.cells #[.int .i64 N, .slice A l.length c] 32)).alloc (.cells #[.slice none 0 0, .int .i64 0, .slice none 0 0] 45)).heap[w.heap.size + 1]? = some (.cells #[.slice none 0 0, .int .i64 0, .slice none 0 0] 45 (0, 0)) := by
    have h := heap_alloc_new (w.alloc (.cells #[.int .i64 N, .slice A l.length c] 32)) (.cells #[.slice none 0 0, .int .i64 0, .slice none 0 0] 45)
    simpa using h
  have key := slook_any N fr tt A c l Ah ch hs _ ((hl.keep hw0 (Nat.le_refl _)).more hz0) ((hh.keep hw0 (Nat.le_refl _)).more hz0) hlen hlen'
  have KEY := Lib.hid key
  have HBOX := Lib.hid hbox
  have HRES := Lib.hid hres
  clear key hbox hres
  by_cases hx : slook N fr tt l hs = 0
  · rw [hx] at KEY
    have HX := Lib.hid hx
    obtain ⟨hlk, hC⟩ := slook_zero.1 hx
    obtain ⟨hg, hc, ⟨f0, f1⟩, t0, t1⟩ := DijkWay.looks_zero hlk
    have h1 := hg.lo
    clear hx hlk
    obtain ⟨n, rfl⟩ := Int.eq_ofNat_of_zero_le (show 0 ≤ N by omega)
    obtain ⟨f, rfl⟩ := Int.eq_ofNat_of_zero_le f0
    obtain ⟨t, rfl⟩ := Int.eq_ofNat_of_zero_le t0
    have hhl : hs.length = n := by have := hC.len; omega
    have ksrch := fun W (hb : Below w.heap.size w W) => StarS.search_any n f t A l.length c l Ah ch hs 1 1 0 W rfl ((hl.keep hb (Nat.le_refl _)).more hb.size) hg hc ((hh.keep hb (Nat.le_refl _)).more hb.size) hhl hC.lo (by omega) (by omega) (by decide) (by decide) trivial
    rw [hhl] at KEY ⊢
    have KS := Lib.hid ksrch
    have HHL := Lib.hid hhl
    clear ksrch hhl hg hC hc
    go_enter Try.func23, Try.ntmps23
    go_wp2_with fail
    refine KEY.out.mono ?_
    rintro e w1 ⟨rfl, hb1⟩
    have H1 := hw0.trans (hb1.mono hz0)
    have hb := blk_below HBOX.out hb1 (by simp; omega)
    have hr := blk_below HRES.out hb1 (by simp)
    have q0 := blk_cell hb 0
    have q1 := blk_cell hb 1
    have hzb : w.heap.size < w1.heap.size := lt_of_block hb
    simp only [List.getElem?_toArray, List.getElem?_cons_zero, List.getElem?_cons_succ] at q0 q1
    have HR := Lib.hid hr
    clear hb hr hb1
    go_wp2_with fail
    refine (KS.out _ H1).mono ?_
    rintro e w2 ⟨D, P, ord, hrch, hcase, hb2⟩
    have H2 := H1.trans (hb2.mono H1.size)
    have hr := blk_below HR.out hb2 (lt_of_block HR.out)
    have r0 := blk_cell hr 0
    have r1 := blk_cell hr 1
    have r2 := blk_cell hr 2
    have rf0 := blk_free hr 0
    have rf1 := blk_free hr 1
    have rf2 := blk_free hr 2
    simp only [List.getElem?_toArray, List.getElem?_cons_zero, List.getElem?_cons_succ] at r0 r1 r2
    have hzr : w.heap.size + 1 < w2.heap.size := lt_of_block hr
    have HR2 := Lib.hid hr
    have HRCH := Lib.hid hrch
    have H1s := Lib.hid H1.size
    clear hr q0 q1 hb2 hrch HR
    rcases hcase with ⟨hnx, cs, A1, c1, A2, c2, hch, rfl, ho1, ho2⟩ | ⟨hno, rfl⟩
    · generalize hcl : cs.reverse.length = cl at *
      generalize hol : ord.length + 1 = ol at *
      generalize hdt : dg D (t : Int) = dt at *
      have HCL := Lib.hid hcl
      have HOL := Lib.hid hol
      have HDT := Lib.hid hdt
      have HNX := Lib.hid hnx
      have HO1 := Lib.hid ho1
      have HO2 := Lib.hid ho2
      have HCH := Lib.hid hch
      clear hcl hol hdt hnx ho1 ho2 hch
      go_wp2
      refine bodyPost_ret (v := .tuple #[.agg #[.slice A1 cl c1, .int .i64 dt, .slice A2 ol c2], .int .i64 0]) (by simp [results, Try.results23, go_sem, hzr, r0, r1, r2, rf0, rf1, rf2]) rfl ?_
      refine ⟨fun h => absurd HX.out h, fun _ => ⟨n, f, t, rfl, rfl, rfl, D, P, ord, HRCH.out, .inl ⟨HNX.out, cs, A1, c1, A2, c2, HCH.out, ?_, ?_, ?_⟩, ?_⟩, ?_⟩
      · rw [HCL.out, HOL.out, HDT.out]
      · rw [HCL.out]
        exact StarS.res_kept (HO1.out.mono H1s.out) HR2.out _ _ _
      · rw [HOL.out]
        exact StarS.res_kept (HO2.out.mono H1s.out) HR2.out _ _ _
      · exact ((H2.setCell (by dsimp only; omega) _).setCell (by dsimp only; omega) _).setCell (by dsimp only; omega) _
      · exact ((H2.setCell (by dsimp only; omega) _).setCell (by dsimp only; omega) _).setCell (by dsimp only; omega) _
    · have HNO := Lib.hid hno
      clear hno
      go_wp2
      refine bodyPost_ret (v := .tuple #[.agg #[.slice none 0 0, .int .i64 0, .slice none 0 0], .int .i64 5]) (by simp [results, Try.results23, go_sem, hzr, r0, r1, r2, rf0, rf1, rf2]) rfl ?_
      refine ⟨fun h => absurd HX.out h, fun _ => ⟨n, f, t, rfl, rfl, rfl, D, P, ord, HRCH.out, .inr ⟨HNO.out, rfl⟩, ?_⟩, ?_⟩
      · exact ((H2.setCell (by dsimp only; omega) _).setCell (by dsimp only; omega) _).setCell (by dsimp only; omega) _
      · exact ((H2.setCell (by dsimp only; omega) _).setCell (by dsimp only; omega) _).setCell (by dsimp only; omega) _
  · have hne : (slook N fr tt l hs != 0) = true := by rw [bne_iff_ne]; exact hx
    unfold RunSays
    have HX := Lib.hid hx
    clear hx
    generalize slook N fr tt l hs = er at *
    go_enter Try.func23, Try.ntmps23
    go_wp2_with fail
    refine KEY.out.mono ?_
    rintro e w1 ⟨rfl, hb1⟩
    have H1 := hw0.trans (hb1.mono hz0)
    have hr := blk_below HRES.out hb1 (by simp)
    have r0 := blk_cell hr 0
    have r1 := blk_cell hr 1
    have r2 := blk_cell hr 2
    have rf0 := blk_free hr 0
    have rf1 := blk_free hr 1
    have rf2 := blk_free hr 2
    simp only [List.getElem?_toArray, List.getElem?_cons_zero, List.getElem?_cons_succ] at r0 r1 r2
    have hzr : w.heap.size + 1 < w1.heap.size := lt_of_block hr
    clear hr hb1
    go_wp2
    refine bodyPost_ret (v := .tuple #[.agg #[.slice none 0 0, .int .i64 0, .slice none 0 0], .int .i64 er]) (by simp [results, Try.results23, go_sem, hzr, r0, r1, r2, rf0, rf1, rf2]) rfl ?_
    exact ⟨fun _ => rfl, fun h => absurd h HX.out, ((H1.setCell (by dsimp only; omega) _).setCell (by dsimp only; omega) _).setCell (by dsimp only; omega) _⟩
end Go.Proofs.Ytbgkkmcobijkgaa.StarF
