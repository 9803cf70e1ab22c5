/- The walk of star.Run. -/
/- What a law wants of star.Run: the answers, one by one. -/
import Derived.Test.YtbgkkmcobijkgaaVStarFn
import Derived.Test.YtbgkkmcobijkgaaVStarRunS
import Derived.Test.YtbgkkmcobijkgaaVStarKeep
namespace Go.Proofs.Ytbgkkmcobijkgaa.StarF
open Go.RowKit Go.Proofs.Ytbgkkmcobijkgaa NetLaw BellLaw DijkLaw HeurLaw StarLaw Go.Proofs.Ytbgkkmcobijkgaa.Net Go.Proofs.Ytbgkkmcobijkgaa.Dijk Go.Proofs.Ytbgkkmcobijkgaa.Std Go.Proofs.Ytbgkkmcobijkgaa.Heur
set_option linter.unusedSimpArgs false
set_option linter.unusedVariables false

/-- what star.Run answers -/
def RunSays (N fr tt : Int) (l : List E) (hs : List Int) (w : World) (e : Ending) (w' : World) : Prop :=
  (slook N fr tt l hs ≠ 0 → e = .returned (.tuple #[.agg #[.slice none 0 0, .int .i64 0, .slice none 0 0], .int .i64 (slook N fr tt l hs)])) ∧
  (slook N fr tt l hs = 0 → ∃ n f t : Nat, N = n ∧ fr = f ∧ tt = t ∧ StarS.SearchSays n f t l hs 1 1 w e w') ∧ Below w.heap.size w w'
set_option maxRecDepth 100000 in
set_option maxHeartbeats 2000000 in
theorem run_any (N fr tt : Int) (A : Option Addr) (c : Nat) (l : List E) (Ah : Option Addr) (ch : Nat) (hs : List Int) (w : World) (hl : Sl w w.heap.size 3 ce A l) (hh : Sl w w.heap.size 1 ci Ah hs) (hlen : l.length ≤ 9223372036854775807) (hlen' : hs.length ≤ 9223372036854775807) :
    Calls Try.prog 23 #[.agg #[.int .i64 N, .slice A l.length c], .int .i64 fr, .int .i64 tt, .slice Ah hs.length ch] w fun e w' => RunSays N fr tt l hs w e w' := by
  have hw0 : Below w.heap.size w ((w.alloc (.cells #[.int .i64 N, .slice A l.length c] 32)).alloc (.cells #[.slice none 0 0, .int .i64 0, .slice none 0 0] 45)) := ((Below.refl _ _).alloc (Nat.le_refl _) _).alloc (by simp) _
  have hz0 : w.heap.size ≤ ((w.alloc (.cells #[.int .i64 N, .slice A l.length c] 32)).alloc (.cells #[.slice none 0 0, .int .i64 0, .slice none 0 0] 45)).heap.size := by simp; omega
  have hbox := blk_alloc (heap_alloc_new w (.cells #[.int .i64 N, .slice A l.length c] 32)) (.cells #[.slice none 0 0, .int .i64 0, .slice none 0 0] 45)
  have hres : ((w.alloc (.cells #[.int .i64 N, .slice A l.length c] 32)).alloc (.cells #[.slice none 0 0, .int .i64 0, .slice none 0 0] 45)).heap[w.heap.size + 1]? = some (.cells #[.slice none 0 0, .int .i64 0, .slice none 0 0] 45 (0, 0)) := by
    have h := heap_alloc_new (w.alloc (.cells #[.int .i64 N, .slice A l.length c] 32)) (.cells #[.slice none 0 0, .int .i64 0, .slice none 0 0] 45)
    simpa using h
  have key := slook_any N fr tt A c l Ah ch hs _ ((hl.keep hw0 (Nat.le_refl _)).more hz0) ((hh.keep hw0 (Nat.le_refl _)).more hz0) hlen hlen'
  have KEY := Lib.hid key
  have HBOX := Lib.hid hbox
  have HRES := Lib.hid hres
  clear key hbox hres
  by_cases hx : slook N fr tt l hs = 0
  · rw [hx] at KEY
    have HX := Lib.hid hx
    obtain ⟨hlk, hC⟩ := slook_zero.1 hx
    obtain ⟨hg, hc, ⟨f0, f1⟩, t0, t1⟩ := DijkWay.looks_zero hlk
    have h1 := hg.lo
    clear hx hlk
    obtain ⟨n, rfl⟩ := Int.eq_ofNat_of_zero_le (show 0 ≤ N by omega)
    obtain ⟨f, rfl⟩ := Int.eq_ofNat_of_zero_le f0
    obtain ⟨t, rfl⟩ := Int.eq_ofNat_of_zero_le t0
    have hhl : hs.length = n := by have := hC.len; omega
    have ksrch := fun W (hb : Below w.heap.size w W) => StarS.search_any n f t A l.length c l Ah ch hs 1 1 0 W rfl ((hl.keep hb (Nat.le_refl _)).more hb.size) hg hc ((hh.keep hb (Nat.le_refl _)).more hb.size) hhl hC.lo (by omega) (by omega) (by decide) (by decide) trivial
    rw [hhl] at KEY ⊢
    have KS := Lib.hid ksrch
    have HHL := Lib.hid hhl
    clear ksrch hhl hg hC hc
    go_enter Try.func23, Try.ntmps23
    go_wp2_with fail
    refine KEY.out.mono ?_
    rintro e w1 ⟨rfl, hb1⟩
    have H1 := hw0.trans (hb1.mono hz0)
    have hb := blk_below HBOX.out hb1 (by simp; omega)
    have hr := blk_below HRES.out hb1 (by simp)
    have q0 := blk_cell hb 0
    have q1 := blk_cell hb 1
    have hzb : w.heap.size < w1.heap.size := lt_of_block hb
    simp only [List.getElem?_toArray, List.getElem?_cons_zero, List.getElem?_cons_succ] at q0 q1
    have HR := Lib.hid hr
    clear hb hr hb1
    go_wp2_with fail
    refine (KS.out _ H1).mono ?_
    rintro e w2 ⟨D, P, ord, hrch, hcase, hb2⟩
    have H2 := H1.trans (hb2.mono H1.size)
    have hr := blk_below HR.out hb2 (lt_of_block HR.out)
    have r0 := blk_cell hr 0
    have r1 := blk_cell hr 1
    have r2 := blk_cell hr 2
    have rf0 := blk_free hr 0
    have rf1 := blk_free hr 1
    have rf2 := blk_free hr 2
    simp only [List.getElem?_toArray, List.getElem?_cons_zero, List.getElem?_cons_succ] at r0 r1 r2
    have hzr : w.heap.size + 1 < w2.heap.size := lt_of_block hr
    have HR2 := Lib.hid hr
    have HRCH := Lib.hid hrch
    have H1s := Lib.hid H1.size
    clear hr q0 q1 hb2 hrch HR
    rcases hcase with ⟨hnx, cs, A1, c1, A2, c2, hch, rfl, ho1, ho2⟩ | ⟨hno, rfl⟩
    · generalize hcl : cs.reverse.length = cl at *
      generalize hol : ord.length + 1 = ol at *
      generalize hdt : dg D (t : Int) = dt at *
      have HCL := Lib.hid hcl
      have HOL := Lib.hid hol
      have HDT := Lib.hid hdt
      have HNX := Lib.hid hnx
      have HO1 := Lib.hid ho1
      have HO2 := Lib.hid ho2
      have HCH := Lib.hid hch
      clear hcl hol hdt hnx ho1 ho2 hch
      go_wp2
      refine bodyPost_ret (v := .tuple #[.agg #[.slice A1 cl c1, .int .i64 dt, .slice A2 ol c2], .int .i64 0]) (by simp [results, Try.results23, go_sem, hzr, r0, r1, r2, rf0, rf1, rf2]) rfl ?_
      refine ⟨fun h => absurd HX.out h, fun _ => ⟨n, f, t, rfl, rfl, rfl, D, P, ord, HRCH.out, .inl ⟨HNX.out, cs, A1, c1, A2, c2, HCH.out, ?_, ?_, ?_⟩, ?_⟩, ?_⟩
      · rw [HCL.out, HOL.out, HDT.out]
      · rw [HCL.out]
        exact StarS.res_kept (HO1.out.mono H1s.out) HR2.out _ _ _
      · rw [HOL.out]
        exact StarS.res_kept (HO2.out.mono H1s.out) HR2.out _ _ _
      · exact ((H2.setCell (by dsimp only; omega) _).setCell (by dsimp only; omega) _).setCell (by dsimp only; omega) _
      · exact ((H2.setCell (by dsimp only; omega) _).setCell (by dsimp only; omega) _).setCell (by dsimp only; omega) _
    · have HNO := Lib.hid hno
      clear hno
      go_wp2
      refine bodyPost_ret (v := .tuple #[.agg #[.slice none 0 0, .int .i64 0, .slice none 0 0], .int .i64 5]) (by simp [results, Try.results23, go_sem, hzr, r0, r1, r2, rf0, rf1, rf2]) rfl ?_
      refine ⟨fun h => absurd HX.out h, fun _ => ⟨n, f, t, rfl, rfl, rfl, D, P, ord, HRCH.out, .inr ⟨HNO.out, rfl⟩, ?_⟩, ?_⟩
      · exact ((H2.setCell (by dsimp only; omega) _).setCell (by dsimp only; omega) _).setCell (by dsimp only; omega) _
      · exact ((H2.setCell (by dsimp only; omega) _).setCell (by dsimp only; omega) _).setCell (by dsimp only; omega) _
  · have hne : (slook N fr tt l hs != 0) = true := by rw [bne_iff_ne]; exact hx
    unfold RunSays
    have HX := Lib.hid hx
    clear hx
    generalize slook N fr tt l hs = er at *
    go_enter Try.func23, Try.ntmps23
    go_wp2_with fail
    refine KEY.out.mono ?_
    rintro e w1 ⟨rfl, hb1⟩
    have H1 := hw0.trans (hb1.mono hz0)
    have hr := blk_below HRES.out hb1 (by simp)
    have r0 := blk_cell hr 0
    have r1 := blk_cell hr 1
    have r2 := blk_cell hr 2
    have rf0 := blk_free hr 0
    have rf1 := blk_free hr 1
    have rf2 := blk_free hr 2
    simp only [List.getElem?_toArray, List.getElem?_cons_zero, List.getElem?_cons_succ] at r0 r1 r2
    have hzr : w.heap.size + 1 < w1.heap.size := lt_of_block hr
    clear hr hb1
    go_wp2
    refine bodyPost_ret (v := .tuple #[.agg #[.slice none 0 0, .int .i64 0, .slice none 0 0], .int .i64 er]) (by simp [results, Try.results23, go_sem, hzr, r0, r1, r2, rf0, rf1, rf2]) rfl ?_
    exact ⟨fun _ => rfl, fun h => absurd h HX.out, ((H1.setCell (by dsimp only; omega) _).setCell (by dsimp only; omega) _).setCell (by dsimp only; omega) _⟩
end Go.Proofs.Ytbgkkmcobijkgaa.StarF

namespace Go.Proofs.Ytbgkkmcobijkgaa.StarF
open Go.RowKit Go.Proofs.Ytbgkkmcobijkgaa NetLaw BellLaw DijkLaw HeurLaw StarLaw Go.Proofs.Ytbgkkmcobijkgaa.Net Go.Proofs.Ytbgkkmcobijkgaa.Dijk Go.Proofs.Ytbgkkmcobijkgaa.Std Go.Proofs.Ytbgkkmcobijkgaa.Heur
set_option linter.unusedSimpArgs false
set_option linter.unusedVariables false
theorem stop_of {n f t : Nat} {l : List E} {hs : List Int} {q p : Int} {w w' : World} {e : Ending} (h : StarS.SearchSays n f t l hs q p w e w') : ∃ D P ord, Rch (StarS.KK q p) n f t l hs D P ord ∧ Stop (StarS.KK q p) n t hs D ord := by
  obtain ⟨D, P, ord, h1, h2, _⟩ := h
  exact ⟨D, P, ord, h1, h2.imp (fun x => x.1) (fun x => x.1)⟩
theorem two_run (hs : List Int) (hhs : hs = [5, 0] ∨ hs = [0, 0]) (W : World) (g : Nat) (h : Sl W W.heap.size 3 ce (some ⟨g, 0, none⟩) [(0, 1, 5)]) (A' : Option Addr) (ch : Nat) (hh : Sl W W.heap.size 1 ci A' hs) :
    Calls Try.prog 23 #[.agg #[.int .i64 2, .slice (some ⟨g, 0, none⟩) 1 1], .int .i64 0, .int .i64 1, .slice A' 2 ch] W fun e w' => ∃ A1 c1 A2 c2, e = .returned (.tuple #[.agg #[.slice A1 2 c1, .int .i64 5, .slice A2 2 c2], .int .i64 0]) ∧ Own w' W.heap.size 3 1 ci (.slice A1 2 c1) [0, 1] ∧ Own w' W.heap.size 3 1 ci (.slice A2 2 c2) [0, 1] ∧ Below W.heap.size W w' := by
  have h2 : hs.length = 2 := by rcases hhs with rfl | rfl <;> rfl
  have k := run_any 2 0 1 (some ⟨g, 0, none⟩) 1 [(0, 1, 5)] A' ch hs W h hh (by decide) (by omega)
  rw [h2] at k
  refine k.mono ?_
  rintro e w' ⟨_, k2, k3⟩
  obtain ⟨n, f, t, hn, hf, ht, D, P, ord, hr, hc, _⟩ := k2 (by rcases hhs with rfl | rfl <;> decide +kernel)
  obtain rfl : n = 2 := by omega
  obtain rfl : f = 0 := by omega
  obtain rfl : t = 1 := by omega
  obtain ⟨rfl, rfl, rfl⟩ := two_end hhs hr (hc.imp (fun x => x.1) (fun x => x.1))
  rcases hc with ⟨_, cs, A1, c1, A2, c2, hch, he, o1, o2⟩ | ⟨hno, _⟩
  · obtain rfl := two_way hch
    exact ⟨A1, c1, A2, c2, he, o1, o2, k3⟩
  · exact absurd ⟨by decide, by decide, by decide⟩ (hno 1)
theorem two_run_here (W : World) (g : Nat) (h : Sl W W.heap.size 3 ce (some ⟨g, 0, none⟩) [(0, 1, 5)]) (A' : Option Addr) (ch : Nat) (hh : Sl W W.heap.size 1 ci A' [0, 0]) :
    Calls Try.prog 23 #[.agg #[.int .i64 2, .slice (some ⟨g, 0, none⟩) 1 1], .int .i64 1, .int .i64 1, .slice A' 2 ch] W fun e w' => ∃ A1 c1 A2 c2, e = .returned (.tuple #[.agg #[.slice A1 1 c1, .int .i64 0, .slice A2 1 c2], .int .i64 0]) ∧ Own w' W.heap.size 3 1 ci (.slice A1 1 c1) [1] ∧ Own w' W.heap.size 3 1 ci (.slice A2 1 c2) [1] ∧ Below W.heap.size W w' := by
  refine (run_any 2 1 1 (some ⟨g, 0, none⟩) 1 [(0, 1, 5)] A' ch [0, 0] W h hh (by decide) (by decide)).mono ?_
  rintro e w' ⟨_, k2, k3⟩
  obtain ⟨n, f, t, hn, hf, ht, D, P, ord, hr, hc, _⟩ := k2 (by decide +kernel)
  obtain rfl : n = 2 := by omega
  obtain rfl : f = 1 := by omega
  obtain rfl : t = 1 := by omega
  obtain ⟨rfl, rfl, rfl⟩ := two_here hr (hc.imp (fun x => x.1) (fun x => x.1))
  rcases hc with ⟨_, cs, A1, c1, A2, c2, hch, he, o1, o2⟩ | ⟨hno, _⟩
  · obtain rfl := two_here_way hch
    exact ⟨A1, c1, A2, c2, he, o1, o2, k3⟩
  · exact absurd ⟨by decide, by decide, by decide⟩ (hno 1)
/-- Run where the arguments are not right -/
theorem run_bad (N fr tt : Int) (A : Option Addr) (c : Nat) (l : List E) (Ah : Option Addr) (ch : Nat) (hs : List Int) (w : World) (hl : Sl w w.heap.size 3 ce A l) (hh : Sl w w.heap.size 1 ci Ah hs) (hlen : l.length ≤ 9223372036854775807) (hlen' : hs.length ≤ 9223372036854775807) (hx : slook N fr tt l hs ≠ 0) :
    Calls Try.prog 23 #[.agg #[.int .i64 N, .slice A l.length c], .int .i64 fr, .int .i64 tt, .slice Ah hs.length ch] w fun e w' => e = .returned (.tuple #[.agg #[.slice none 0 0, .int .i64 0, .slice none 0 0], .int .i64 (slook N fr tt l hs)]) ∧ Below w.heap.size w w' := by
  refine (run_any N fr tt A c l Ah ch hs w hl hh hlen hlen').mono ?_
  rintro e w' ⟨k1, _, k3⟩
  exact ⟨k1 hx, k3⟩
/-- what Run answers where they are: the way, or none -/
def Found (n f t : Nat) (l : List E) (hs : List Int) (w : World) (e : Ending) (w' : World) : Prop :=
  ∃ D P ord, Hid (Rch (StarS.KK 1 1) n f t l hs D P ord) ∧
    ((∃ (p : List Int) (m : Nat) (A1 : Option Addr) (c1 k : Nat) (A2 : Option Addr) (c2 : Nat) (co : Int), e = .returned (.tuple #[.agg #[.slice A1 m c1, .int .i64 co, .slice A2 k c2], .int .i64 0]) ∧ Own w' w.heap.size 3 1 ci (.slice A1 m c1) p ∧ Own w' w.heap.size 3 1 ci (.slice A2 k c2) (ord ++ [(t : Int)]) ∧ Hid (Nx (StarS.KK 1 1) n hs D ord t) ∧ Hid (Fnd n f t l p co (ord ++ [(t : Int)])) ∧ Hid (p.length = m) ∧ Hid ((ord ++ [(t : Int)]).length = k) ∧ Hid (dg D t = co) ∧ Hid (Ch P t p.reverse))
     ∨ (e = .returned (.tuple #[.agg #[.slice none 0 0, .int .i64 0, .slice none 0 0], .int .i64 5]) ∧ Hid (∀ u, ¬ Opn n D ord u))) ∧ Below w.heap.size w w'
theorem run_good (n f t : Nat) (A : Option Addr) (c : Nat) (l : List E) (Ah : Option Addr) (ch : Nat) (hs : List Int) (w : World) (hl : Sl w w.heap.size 3 ce A l) (hh : Sl w w.heap.size 1 ci Ah hs) (hlen : l.length ≤ 9223372036854775807) (hlen' : hs.length ≤ 9223372036854775807) (hx : slook n f t l hs = 0) :
    Calls Try.prog 23 #[.agg #[.int .i64 n, .slice A l.length c], .int .i64 f, .int .i64 t, .slice Ah hs.length ch] w fun e w' => Found n f t l hs w e w' := by
  refine (run_any n f t A c l Ah ch hs w hl hh hlen hlen').mono ?_
  rintro e w' ⟨_, k2, k3⟩
  obtain ⟨n', f', t', hn, hf, ht, D, P, ord, hr, hc, _⟩ := k2 hx
  obtain rfl : n = n' := by omega
  obtain rfl : f = f' := by omega
  obtain rfl : t = t' := by omega
  obtain ⟨hlk, _⟩ := slook_zero.1 hx
  obtain ⟨hg, hcc, ⟨f0, f1⟩, t0, t1⟩ := DijkWay.looks_zero hlk
  refine ⟨D, P, ord, Lib.hid hr, ?_, k3⟩
  rcases hc with ⟨hnx, cs, A1, c1, A2, c2, hch, he, o1, o2⟩ | ⟨hno, he⟩
  · refine .inl ⟨cs.reverse, cs.reverse.length, A1, c1, ord.length + 1, A2, c2, dg D t, he, o1, o2, Lib.hid hnx, Lib.hid (fnd hr hnx hch hg hcc (by omega) (by omega)), Lib.hid rfl, Lib.hid (by simp), Lib.hid rfl, Lib.hid (by rw [List.reverse_reverse]; exact hch)⟩
  · exact .inr ⟨he, Lib.hid hno⟩
/-- the net's box and the arguments, behind what was made since -/
theorem nbox {w W : World} {N : Int} {A Ah : Option Addr} {c : Nat} {l : List E} {h : List Int} (hl : Sl w w.heap.size 3 ce A l) (hh : Sl w w.heap.size 1 ci Ah h) (hW : Below (w.heap.size + 1) (w.alloc (.cells #[.int .i64 N, .slice A l.length c] 32)) W) :
    W.cell? ⟨w.heap.size, 0, none⟩ = some (.int .i64 N) ∧ W.cell? ⟨w.heap.size, 1, none⟩ = some (.slice A l.length c) ∧ w.heap.size + 1 ≤ W.heap.size ∧ Sl W W.heap.size 3 ce A l ∧ Sl W W.heap.size 1 ci Ah h ∧ Below w.heap.size w W := by
  have hz : w.heap.size + 1 ≤ W.heap.size := by have := hW.size; simpa using this
  have hX := ((Below.refl w.heap.size w).alloc (Nat.le_refl _) (.cells #[.int .i64 N, .slice A l.length c] 32)).trans (hW.mono (Nat.le_succ _))
  obtain ⟨c1, _⟩ := keepAt hW (Nat.lt_succ_self _)
  exact ⟨(c1 0).trans (by simp), (c1 1).trans (by simp), hz, (hl.keep hX (Nat.le_refl _)).more (by omega), (hh.keep hX (Nat.le_refl _)).more (by omega), hX⟩
/-- guesses of nothing agree -/
theorem cons_zero {n t : Nat} {l : List E} (hg : NetLaw.Good n l) (hc : ∀ e ∈ l, 1 ≤ e.2.2) (ht : t < n) : Cons n t l (List.replicate n 0) := by
  have hz : ∀ v : Int, 0 ≤ v → v < n → dg (List.replicate n 0) v = 0 := fun v h0 h1 => rep_dg h0 h1
  refine ⟨by simp, fun x hx => ?_, hz _ (by omega) (by omega), fun e he => ?_⟩
  · rw [List.eq_of_mem_replicate hx]; unfold far; omega
  · have h1 := hg.ends e he
    rw [hz _ h1.1 h1.2.1, hz _ h1.2.2.1 h1.2.2.2]
    have := hc e he
    omega
theorem slook_zeros {n f t : Nat} {l : List E} (h : Dijk.look n l [(f : Int), (t : Int)] = 0) : slook n f t l (List.replicate n 0) = 0 := by
  obtain ⟨hg, hc, _, t0, t1⟩ := DijkWay.looks_zero h
  exact slook_zero.2 ⟨h, cons_zero hg hc (by omega)⟩
/-- what Run answers, in one form -/
theorem run_form (N fr tt : Int) (A : Option Addr) (c : Nat) (l : List E) (Ah : Option Addr) (ch : Nat) (hs : List Int) (w : World) (hl : Sl w w.heap.size 3 ce A l) (hh : Sl w w.heap.size 1 ci Ah hs) (hlen : l.length ≤ 9223372036854775807) (hlen' : hs.length ≤ 9223372036854775807) :
    Calls Try.prog 23 #[.agg #[.int .i64 N, .slice A l.length c], .int .i64 fr, .int .i64 tt, .slice Ah hs.length ch] w fun e w' => ∃ A1 m c1 co A2 k c2 x, e = .returned (.tuple #[.agg #[.slice A1 m c1, .int .i64 co, .slice A2 k c2], .int .i64 x]) ∧ Below w.heap.size w w' ∧ Hid (RunSays N fr tt l hs w (.returned (.tuple #[.agg #[.slice A1 m c1, .int .i64 co, .slice A2 k c2], .int .i64 x])) w') := by
  refine (run_any N fr tt A c l Ah ch hs w hl hh hlen hlen').mono ?_
  rintro e w' ⟨k1, k2, k3⟩
  by_cases hx : slook N fr tt l hs = 0
  · have k4 := k2 hx
    obtain ⟨n, f, t, _, _, _, D, P, ord, _, hc, _⟩ := k4
    rcases hc with ⟨_, cs, A1, c1, A2, c2, _, rfl, _, _⟩ | ⟨_, rfl⟩
    · exact ⟨_, _, _, _, _, _, _, _, rfl, k3, Lib.hid ⟨k1, k2, k3⟩⟩
    · exact ⟨_, _, _, _, _, _, _, _, rfl, k3, Lib.hid ⟨k1, k2, k3⟩⟩
  · obtain rfl := k1 hx
    exact ⟨_, _, _, _, _, _, _, _, rfl, k3, Lib.hid ⟨k1, k2, k3⟩⟩
/-- what was answered, behind a store into a box of Found -/
theorem says_set {N fr tt : Int} {l : List E} {hs : List Int} {w W w4 : World} {e : Ending} {R : Nat} {cs : Array Value} (h : RunSays N fr tt l hs W e w4) (hr : w4.heap[R]? = some (.cells cs 45 (0, 0))) (hz : Below w.heap.size w W) (hR : w.heap.size ≤ R) (x y z : Value) :
    RunSays N fr tt l hs w e (((w4.setCell ⟨R, 0, none⟩ x).setCell ⟨R, 1, none⟩ y).setCell ⟨R, 2, none⟩ z) := by
  obtain ⟨k1, k2, k3⟩ := h
  have hB : Below w.heap.size w (((w4.setCell ⟨R, 0, none⟩ x).setCell ⟨R, 1, none⟩ y).setCell ⟨R, 2, none⟩ z) := (((hz.trans (k3.mono hz.size)).setCell hR _).setCell hR _).setCell hR _
  refine ⟨k1, fun hx => ?_, hB⟩
  obtain ⟨n, f, t, h1, h2, h3, D, P, ord, hr', hc, hb⟩ := k2 hx
  refine ⟨n, f, t, h1, h2, h3, D, P, ord, hr', ?_, hB⟩
  rcases hc with ⟨hn, cs', A1, c1, A2, c2, hch, he, o1, o2⟩ | ⟨hn, he⟩
  · exact .inl ⟨hn, cs', A1, c1, A2, c2, hch, he, StarS.res_kept (o1.mono hz.size) hr _ _ _, StarS.res_kept (o2.mono hz.size) hr _ _ _⟩
  · exact .inr ⟨hn, he⟩
theorem says_alloc {N fr tt : Int} {l : List E} {hs : List Int} {w W w4 : World} {e : Ending} (h : RunSays N fr tt l hs W e w4) (hz : Below w.heap.size w W) (o : Obj) : RunSays N fr tt l hs w e (w4.alloc o) := by
  obtain ⟨k1, k2, k3⟩ := h
  have hB : Below w.heap.size w (w4.alloc o) := (hz.trans (k3.mono hz.size)).alloc (Nat.le_trans hz.size k3.size) o
  refine ⟨k1, fun hx => ?_, hB⟩
  obtain ⟨n, f, t, h1, h2, h3, D, P, ord, hr', hc, hb⟩ := k2 hx
  refine ⟨n, f, t, h1, h2, h3, D, P, ord, hr', ?_, hB⟩
  rcases hc with ⟨hn, cs', A1, c1, A2, c2, hch, he, o1, o2⟩ | ⟨hn, he⟩
  · exact .inl ⟨hn, cs', A1, c1, A2, c2, hch, he, (o1.mono hz.size).alloc _, (o2.mono hz.size).alloc _⟩
  · exact .inr ⟨hn, he⟩
theorem far3 {W : World} {b o R : Nat} {v : Value} (h : W.cell? ⟨b, o, none⟩ = some v) (hR : b + 1 ≤ R) (x y z : Value) : (((W.setCell ⟨R, 0, none⟩ x).setCell ⟨R, 1, none⟩ y).setCell ⟨R, 2, none⟩ z).cell? ⟨b, o, none⟩ = some v :=
  ((keepAt ((((Below.refl (b + 1) W).setCell hR x).setCell hR y).setCell hR z) (Nat.lt_succ_self b)).1 o).trans h
/-- the cells of a box of Found -/
theorem fnd_cells {W : World} {R : Nat} {v0 v1 v2 : Value} (hr : W.heap[R]? = some (.cells #[v0, v1, v2] 45 (0, 0))) : W.cell? ⟨R, 0, none⟩ = some v0 ∧ W.cell? ⟨R, 1, none⟩ = some v1 ∧ W.cell? ⟨R, 2, none⟩ = some v2 ∧ W.frozen? ⟨R, 0, none⟩ = false ∧ W.frozen? ⟨R, 1, none⟩ = false ∧ W.frozen? ⟨R, 2, none⟩ = false := by
  have c0 := blk_cell hr 0
  have c1 := blk_cell hr 1
  have c2 := blk_cell hr 2
  simp only [List.getElem?_toArray, List.getElem?_cons_zero, List.getElem?_cons_succ] at c0 c1 c2
  exact ⟨c0, c1, c2, blk_free hr 0, blk_free hr 1, blk_free hr 2⟩
theorem fnd_set {W : World} {R : Nat} {v0 v1 v2 : Value} (hr : W.heap[R]? = some (.cells #[v0, v1, v2] 45 (0, 0))) (x y z : Value) : (((W.setCell ⟨R, 0, none⟩ x).setCell ⟨R, 1, none⟩ y).setCell ⟨R, 2, none⟩ z).heap[R]? = some (.cells #[x, y, z] 45 (0, 0)) := by
  have h1 := blk_set hr 0 x
  have h2 := blk_set h1 1 y
  have h3 := blk_set h2 2 z
  simpa using h3
/-- the cases of the one form: found, or none -/
theorem says_cases {n f t : Nat} {l : List E} {hs : List Int} {w w' : World} {e : Ending} (h : RunSays n f t l hs w e w') (hx : slook n f t l hs = 0) : Found n f t l hs w e w' := by
  obtain ⟨_, k2, k3⟩ := h
  obtain ⟨n', f', t', hn, hf, ht, D, P, ord, hr, hc, _⟩ := k2 hx
  obtain rfl : n = n' := by omega
  obtain rfl : f = f' := by omega
  obtain rfl : t = t' := by omega
  obtain ⟨hlk, _⟩ := slook_zero.1 hx
  obtain ⟨hg, hcc, ⟨f0, f1⟩, t0, t1⟩ := DijkWay.looks_zero hlk
  refine ⟨D, P, ord, Lib.hid hr, ?_, k3⟩
  rcases hc with ⟨hnx, cs, A1, c1, A2, c2, hch, he, o1, o2⟩ | ⟨hno, he⟩
  · refine .inl ⟨cs.reverse, cs.reverse.length, A1, c1, ord.length + 1, A2, c2, dg D t, he, o1, o2, Lib.hid hnx, Lib.hid (fnd hr hnx hch hg hcc (by omega) (by omega)), Lib.hid rfl, Lib.hid (by simp), Lib.hid rfl, Lib.hid (by rw [List.reverse_reverse]; exact hch)⟩
  · exact .inr ⟨he, Lib.hid hno⟩
/-- the one form, taken apart -/
theorem found_inv {n f t : Nat} {l : List E} {hs : List Int} {w w' : World} {A1 : Option Addr} {m c1 : Nat} {co : Int} {A2 : Option Addr} {k c2 : Nat} {xe : Int} (h : Found n f t l hs w (.returned (.tuple #[.agg #[.slice A1 m c1, .int .i64 co, .slice A2 k c2], .int .i64 xe])) w') :
    ∃ D P ord, Hid (Rch (StarS.KK 1 1) n f t l hs D P ord) ∧
    ((xe = 0 ∧ ∃ pa, Own w' w.heap.size 3 1 ci (.slice A1 m c1) pa ∧ Own w' w.heap.size 3 1 ci (.slice A2 k c2) (ord ++ [(t : Int)]) ∧ Hid (Nx (StarS.KK 1 1) n hs D ord t) ∧ Hid (Fnd n f t l pa co (ord ++ [(t : Int)])) ∧ Hid (pa.length = m) ∧ Hid ((ord ++ [(t : Int)]).length = k) ∧ Hid (dg D t = co) ∧ Hid (Ch P t pa.reverse))
     ∨ (xe = 5 ∧ Hid (∀ u, ¬ Opn n D ord u))) := by
  obtain ⟨D, P, ord, hr, hc, _⟩ := h
  refine ⟨D, P, ord, hr, ?_⟩
  rcases hc with ⟨pa, m', A1', c1', k', A2', c2', co', he, h1, h2, h3, h4, h5, h6, h7, h8⟩ | ⟨he, hn⟩
  · simp only [Ending.returned.injEq, Value.tuple.injEq, Value.agg.injEq, Value.slice.injEq, Value.int.injEq, Array.mk.injEq, List.cons.injEq, true_and, and_true] at he
    obtain ⟨⟨⟨rfl, rfl, rfl⟩, rfl, rfl, rfl, rfl⟩, rfl⟩ := he
    exact .inl ⟨rfl, pa, h1, h2, h3, h4, h5, h6, h7, h8⟩
  · simp only [Ending.returned.injEq, Value.tuple.injEq, Value.agg.injEq, Value.slice.injEq, Value.int.injEq, Array.mk.injEq, List.cons.injEq, true_and, and_true] at he
    exact .inr ⟨he.2, hn⟩
end Go.Proofs.Ytbgkkmcobijkgaa.StarF
