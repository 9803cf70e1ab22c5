/- What a law wants of weigh.Run: the answers, one by one. -/
import Derived.Test.YtbgkkmcobijkgaaVWeighFn
import Derived.Test.YtbgkkmcobijkgaaVStarKeep
import Derived.Test.YtbgkkmcobijkgaaVStarEnd
namespace Go.Proofs.Ytbgkkmcobijkgaa.StarF
open Go.RowKit Go.Proofs.Ytbgkkmcobijkgaa NetLaw BellLaw DijkLaw HeurLaw StarLaw RatioLaw Go.Proofs.Ytbgkkmcobijkgaa.Net Go.Proofs.Ytbgkkmcobijkgaa.Dijk Go.Proofs.Ytbgkkmcobijkgaa.Std Go.Proofs.Ytbgkkmcobijkgaa.Heur
set_option linter.unusedSimpArgs false
set_option linter.unusedVariables false
theorem wtwo_run (p q : Int) (hw : wgt p q = 0) (hs : List Int) (hhs : hs = [5, 0] ∨ hs = [0, 0]) (W : World) (g : Nat) (h : Sl W W.heap.size 3 ce (some ⟨g, 0, none⟩) [(0, 1, 5)]) (A' : Option Addr) (ch : Nat) (hh : Sl W W.heap.size 1 ci A' hs) :
    Calls Try.prog 27 #[.agg #[.int .i64 2, .slice (some ⟨g, 0, none⟩) 1 1], .int .i64 0, .int .i64 1,   .slice A' 2 ch, .agg #[.int .i64 p, .int .i64 q]] W fun e w' => ∃ A1 c1 A2 c2, e = .returned (.tuple #[.agg #[.slice A1 2 c1, .int .i64 5, .slice A2 2 c2], .int .i64 0]) ∧ Own w' W.heap.size 3 1 ci (.slice A1 2 c1) [0, 1] ∧ Own w' W.heap.size 3 1 ci (.slice A2 2 c2) [0, 1] ∧ Below W.heap.size W w' := by
  have h2 : hs.length = 2 := by rcases hhs with rfl | rfl <;> rfl
  have k := wrun_any 2 0 1 (some ⟨g, 0, none⟩) 1 [(0, 1, 5)] A' ch hs p q W h hh (by decide) (by omega)
  rw [h2] at k
  refine k.mono ?_
  rintro e w' ⟨_, _, k2, k3⟩
  obtain ⟨n, f, t, hn, hf, ht, D, P, ord, hr, hc, _⟩ := k2 (by rcases hhs with rfl | rfl <;> decide +kernel) hw
  obtain rfl : n = 2 := by omega
  obtain rfl : f = 0 := by omega
  obtain rfl : t = 1 := by omega
  obtain ⟨rfl, rfl, rfl⟩ := two_end hhs hr (hc.imp (fun x => x.1) (fun x => x.1))
  rcases hc with ⟨_, cs, A1, c1, A2, c2, hch, he, o1, o2⟩ | ⟨hno, _⟩
  · obtain rfl := two_way hch
    exact ⟨A1, c1, A2, c2, he, o1, o2, k3⟩
  · exact absurd ⟨by decide, by decide, by decide⟩ (hno 1)
/-- Run where something is not right -/
theorem wrun_bad (N fr tt : Int) (A : Option Addr) (c : Nat) (l : List E) (Ah : Option Addr) (ch : Nat) (hs : List Int) (p q : Int) (w : World) (hl : Sl w w.heap.size 3 ce A l) (hh : Sl w w.heap.size 1 ci Ah hs) (hlen : l.length ≤ 9223372036854775807) (hlen' : hs.length ≤ 9223372036854775807) (hx : slook N fr tt l hs ≠ 0 ∨ wgt p q ≠ 0) :
    Calls Try.prog 27 #[.agg #[.int .i64 N, .slice A l.length c], .int .i64 fr, .int .i64 tt, .slice Ah hs.length ch, .agg #[.int .i64 p, .int .i64 q]] w fun e w' => ∃ er : Int, (er != 0) = true ∧ Hid (slook N fr tt l hs ≠ 0 → er = slook N fr tt l hs) ∧ e = .returned (.tuple #[.agg #[.slice none 0 0, .int .i64 0, .slice none 0 0], .int .i64 er]) ∧ Below w.heap.size w w' := by
  refine (wrun_any N fr tt A c l Ah ch hs p q w hl hh hlen hlen').mono ?_
  rintro e w' ⟨k1, k2, _, k3⟩
  by_cases hs0 : slook N fr tt l hs = 0
  · have hw : wgt p q ≠ 0 := hx.resolve_left (fun h => h hs0)
    exact ⟨_, by rw [bne_iff_ne]; exact hw, Lib.hid (fun h => absurd hs0 h), k2 hs0 hw, k3⟩
  · exact ⟨_, by rw [bne_iff_ne]; exact hs0, Lib.hid (fun _ => rfl), k1 hs0, k3⟩
/-- what Run answers where they are: the way, or none -/
def WFound (n f t : Nat) (l : List E) (hs : List Int) (p q : Int) (w : World) (e : Ending) (w' : World) : Prop :=
  ∃ D P ord, Hid (Rch (StarW.KK q p) n f t l hs D P ord) ∧
    ((∃ (pa : List Int) (m : Nat) (A1 : Option Addr) (c1 k : Nat) (A2 : Option Addr) (c2 : Nat) (co : Int), e = .returned (.tuple #[.agg #[.slice A1 m c1, .int .i64 co, .slice A2 k c2], .int .i64 0]) ∧ Own w' w.heap.size 3 1 ci (.slice A1 m c1) pa ∧ Own w' w.heap.size 3 1 ci (.slice A2 k c2) (ord ++ [(t : Int)]) ∧ Hid (Nx (StarW.KK q p) n hs D ord t) ∧ Hid (Fnd n f t l pa co (ord ++ [(t : Int)])) ∧ Hid (pa.length = m) ∧ Hid ((ord ++ [(t : Int)]).length = k) ∧ Hid (dg D t = co) ∧ Hid (Ch P t pa.reverse))
     ∨ (e = .returned (.tuple #[.agg #[.slice none 0 0, .int .i64 0, .slice none 0 0], .int .i64 5]) ∧ Hid (∀ u, ¬ Opn n D ord u))) ∧ Below w.heap.size w w'
theorem wrun_good (n f t : Nat) (A : Option Addr) (c : Nat) (l : List E) (Ah : Option Addr) (ch : Nat) (hs : List Int) (p q : Int) (w : World) (hl : Sl w w.heap.size 3 ce A l) (hh : Sl w w.heap.size 1 ci Ah hs) (hlen : l.length ≤ 9223372036854775807) (hlen' : hs.length ≤ 9223372036854775807) (hx : slook n f t l hs = 0) (hy : wgt p q = 0) :
    Calls Try.prog 27 #[.agg #[.int .i64 n, .slice A l.length c], .int .i64 f, .int .i64 t, .slice Ah hs.length ch, .agg #[.int .i64 p, .int .i64 q]] w fun e w' => WFound n f t l hs p q w e w' := by
  refine (wrun_any n f t A c l Ah ch hs p q w hl hh hlen hlen').mono ?_
  rintro e w' ⟨_, _, k2, k3⟩
  obtain ⟨n', f', t', hn, hf, ht, D, P, ord, hr, hc, _⟩ := k2 hx hy
  obtain rfl : n = n' := by omega
  obtain rfl : f = f' := by omega
  obtain rfl : t = t' := by omega
  obtain ⟨hlk, _⟩ := slook_zero.1 hx
  obtain ⟨hg, hcc, ⟨f0, f1⟩, t0, t1⟩ := DijkWay.looks_zero hlk
  refine ⟨D, P, ord, Lib.hid hr, ?_, k3⟩
  rcases hc with ⟨hnx, cs, A1, c1, A2, c2, hch, he, o1, o2⟩ | ⟨hno, he⟩
  · refine .inl ⟨cs.reverse, cs.reverse.length, A1, c1, ord.length + 1, A2, c2, dg D t, he, o1, o2, Lib.hid hnx, Lib.hid (fnd hr hnx hch hg hcc (by omega) (by omega)), Lib.hid rfl, Lib.hid (by simp), Lib.hid rfl, Lib.hid (by rw [List.reverse_reverse]; exact hch)⟩
  · exact .inr ⟨he, Lib.hid hno⟩
/-- the boxes of net and weight, and the arguments, behind what was made since -/
theorem nbox2 {w W : World} {N p q : Int} {A Ah : Option Addr} {c : Nat} {l : List E} {h : List Int} (hl : Sl w w.heap.size 3 ce A l) (hh : Sl w w.heap.size 1 ci Ah h) (hW : Below (w.heap.size + 1 + 1) ((w.alloc (.cells #[.int .i64 N, .slice A l.length c] 32)).alloc (.cells #[.int .i64 p, .int .i64 q] 54)) W) :
    W.cell? ⟨w.heap.size, 0, none⟩ = some (.int .i64 N) ∧ W.cell? ⟨w.heap.size, 1, none⟩ = some (.slice A l.length c) ∧ W.cell? ⟨w.heap.size + 1, 0, none⟩ = some (.int .i64 p) ∧ W.cell? ⟨w.heap.size + 1, 1, none⟩ = some (.int .i64 q) ∧ w.heap.size + 1 + 1 ≤ W.heap.size ∧ Sl W W.heap.size 3 ce A l ∧ Sl W W.heap.size 1 ci Ah h ∧ Below w.heap.size w W := by
  have hz : w.heap.size + 1 + 1 ≤ W.heap.size := by have := hW.size; simpa using this
  have hX := (((Below.refl w.heap.size w).alloc (Nat.le_refl _) (.cells #[.int .i64 N, .slice A l.length c] 32)).alloc (by simp) (.cells #[.int .i64 p, .int .i64 q] 54)).trans (hW.mono (by omega))
  have b0 := blk_below (blk_alloc (heap_alloc_new w (.cells #[.int .i64 N, .slice A l.length c] 32)) (.cells #[.int .i64 p, .int .i64 q] 54)) hW (by omega)
  have b1 : W.heap[w.heap.size + 1]? = some (.cells #[.int .i64 p, .int .i64 q] 54 (0, 0)) := blk_below (by
    have h := heap_alloc_new (w.alloc (.cells #[.int .i64 N, .slice A l.length c] 32)) (.cells #[.int .i64 p, .int .i64 q] 54)
    simpa using h) hW (by omega)
  have c0 := blk_cell b0 0
  have c1 := blk_cell b0 1
  have c2 := blk_cell b1 0
  have c3 := blk_cell b1 1
  simp only [List.getElem?_toArray, List.getElem?_cons_zero, List.getElem?_cons_succ] at c0 c1 c2 c3
  exact ⟨c0, c1, c2, c3, hz, (hl.keep hX (Nat.le_refl _)).more (by omega), (hh.keep hX (Nat.le_refl _)).more (by omega), hX⟩
/-- fellkeep.one -/
theorem one_any (w : World) : Calls Try.prog 28 #[] w fun e w' => e = .returned (.agg #[.int .i64 1, .int .i64 1]) ∧ Below w.heap.size w w' := by
  go_enter Try.func28, Try.ntmps28
  go_wp2
  refine bodyPost_ret (v := .agg #[.int .i64 1, .int .i64 1]) (by simp [results, Try.results28, go_sem]) rfl ⟨rfl, ?_⟩
  exact (Below.refl _ _).alloc (Nat.le_refl _) _
end Go.Proofs.Ytbgkkmcobijkgaa.StarF
