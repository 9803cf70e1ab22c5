/- What a law wants of star.Run: the answers, one by one. -/
import Derived.Test.YtbgkkmcobijkgaaVStarRunFn
import Derived.Test.YtbgkkmcobijkgaaVStarKeep
import Derived.Test.YtbgkkmcobijkgaaVStarEnd
namespace Go.Proofs.Ytbgkkmcobijkgaa.StarF
open Go.RowKit Go.Proofs.Ytbgkkmcobijkgaa NetLaw BellLaw DijkLaw HeurLaw StarLaw Go.Proofs.Ytbgkkmcobijkgaa.Net Go.Proofs.Ytbgkkmcobijkgaa.Dijk Go.Proofs.Ytbgkkmcobijkgaa.Std Go.Proofs.Ytbgkkmcobijkgaa.Heur
set_option linter.unusedSimpArgs false
set_option linter.unusedVariables false
theorem stop_of {n f t : Nat} {l : List E} {hs : List Int} {q p : Int} {w w' : World} {e : Ending} (h : StarS.SearchSays n f t l hs q p w e w') : ∃ D P ord, Rch (StarS.KK q p) n f t l hs D P ord ∧ Stop (StarS.KK q p) n t hs D ord := by
  obtain ⟨D, P, ord, h1, h2, _⟩ := h
  exact ⟨D, P, ord, h1, h2.imp (fun x => x.1) (fun x => x.1)⟩
theorem two_run (hs : List Int) (hhs : hs = [5, 0] ∨ hs = [0, 0]) (W : World) (g : Nat) (h : Sl W W.heap.size 3 ce (some ⟨g, 0, none⟩) [(0, 1, 5)]) (A' : Option Addr) (ch : Nat) (hh : Sl W W.heap.size 1 ci A' hs) :
    Calls Try.prog 23 #[.agg #[.int .i64 2, .slice (some ⟨g, 0, none⟩) 1 1], .int .i64 0, .int .i64 1, .slice A' 2 ch] W fun e w' => ∃ A1 c1 A2 c2, e = .returned (.tuple #[.agg #[.slice A1 2 c1, .int .i64 5, .slice A2 2 c2], .int .i64 0]) ∧ Own w' W.heap.size 3 1 ci (.slice A1 2 c1) [0, 1] ∧ Own w' W.heap.size 3 1 ci (.slice A2 2 c2) [0, 1] ∧ Below W.heap.size W w' := by
  have h2 : hs.length = 2 := by rcases hhs with rfl | rfl <;> rfl
  have k := run_any 2 0 1 (some ⟨g, 0, none⟩) 1 [(0, 1, 5)] A' ch hs W h hh (by decide) (by omega)
  rw [h2] at k
  refine k.mono ?_
  rintro e w' ⟨_, k2, k3⟩
  obtain ⟨n, f, t, hn, hf, ht, D, P, ord, hr, hc, _⟩ := k2 (by rcases hhs with rfl | rfl <;> decide +kernel)
  obtain rfl : n = 2 := by omega
  obtain rfl : f = 0 := by omega
  obtain rfl : t = 1 := by omega
  obtain ⟨rfl, rfl, rfl⟩ := two_end hhs hr (hc.imp (fun x => x.1) (fun x => x.1))
  rcases hc with ⟨_, cs, A1, c1, A2, c2, hch, he, o1, o2⟩ | ⟨hno, _⟩
  · obtain rfl := two_way hch
    exact ⟨A1, c1, A2, c2, he, o1, o2, k3⟩
  · exact absurd ⟨by decide, by decide, by decide⟩ (hno 1)
theorem two_run_here (W : World) (g : Nat) (h : Sl W W.heap.size 3 ce (some ⟨g, 0, none⟩) [(0, 1, 5)]) (A' : Option Addr) (ch : Nat) (hh : Sl W W.heap.size 1 ci A' [0, 0]) :
    Calls Try.prog 23 #[.agg #[.int .i64 2, .slice (some ⟨g, 0, none⟩) 1 1], .int .i64 1, .int .i64 1, .slice A' 2 ch] W fun e w' => ∃ A1 c1 A2 c2, e = .returned (.tuple #[.agg #[.slice A1 1 c1, .int .i64 0, .slice A2 1 c2], .int .i64 0]) ∧ Own w' W.heap.size 3 1 ci (.slice A1 1 c1) [1] ∧ Own w' W.heap.size 3 1 ci (.slice A2 1 c2) [1] ∧ Below W.heap.size W w' := by
  refine (run_any 2 1 1 (some ⟨g, 0, none⟩) 1 [(0, 1, 5)] A' ch [0, 0] W h hh (by decide) (by decide)).mono ?_
  rintro e w' ⟨_, k2, k3⟩
  obtain ⟨n, f, t, hn, hf, ht, D, P, ord, hr, hc, _⟩ := k2 (by decide +kernel)
  obtain rfl : n = 2 := by omega
  obtain rfl : f = 1 := by omega
  obtain rfl : t = 1 := by omega
  obtain ⟨rfl, rfl, rfl⟩ := two_here hr (hc.imp (fun x => x.1) (fun x => x.1))
  rcases hc with ⟨_, cs, A1, c1, A2, c2, hch, he, o1, o2⟩ | ⟨hno, _⟩
  · obtain rfl := two_here_way hch
    exact ⟨A1, c1, A2, c2, he, o1, o2, k3⟩
  · exact absurd ⟨by decide, by decide, by decide⟩ (hno 1)
/-- Run where the arguments are not right -/
theorem run_bad (N fr tt : Int) (A : Option Addr) (c : Nat) (l : List E) (Ah : Option Addr) (ch : Nat) (hs : List Int) (w : World) (hl : Sl w w.heap.size 3 ce A l) (hh : Sl w w.heap.size 1 ci Ah hs) (hlen : l.length ≤ 9223372036854775807) (hlen' : hs.length ≤ 9223372036854775807) (hx : slook N fr tt l hs ≠ 0) :
    Calls Try.prog 23 #[.agg #[.int .i64 N, .slice A l.length c], .int .i64 fr, .int .i64 tt, .slice Ah hs.length ch] w fun e w' => e = .returned (.tuple #[.agg #[.slice none 0 0, .int .i64 0, .slice none 0 0], .int .i64 (slook N fr tt l hs)]) ∧ Below w.heap.size w w' := by
  refine (run_any N fr tt A c l Ah ch hs w hl hh hlen hlen').mono ?_
  rintro e w' ⟨k1, _, k3⟩
  exact ⟨k1 hx, k3⟩
/-- what Run answers where they are: the way, or none -/
def Found (n f t : Nat) (l : List E) (hs : List Int) (w : World) (e : Ending) (w' : World) : Prop :=
  ∃ D P ord, Hid (Rch (StarS.KK 1 1) n f t l hs D P ord) ∧
    ((∃ (p : List Int) (m : Nat) (A1 : Option Addr) (c1 k : Nat) (A2 : Option Addr) (c2 : Nat) (co : Int), e = .returned (.tuple #[.agg #[.slice A1 m c1, .int .i64 co, .slice A2 k c2], .int .i64 0]) ∧ Own w' w.heap.size 3 1 ci (.slice A1 m c1) p ∧ Own w' w.heap.size 3 1 ci (.slice A2 k c2) (ord ++ [(t : Int)]) ∧ Hid (Nx (StarS.KK 1 1) n hs D ord t) ∧ Hid (Fnd n f t l p co (ord ++ [(t : Int)])) ∧ Hid (p.length = m) ∧ Hid ((ord ++ [(t : Int)]).length = k) ∧ Hid (dg D t = co) ∧ Hid (Ch P t p.reverse))
     ∨ (e = .returned (.tuple #[.agg #[.slice none 0 0, .int .i64 0, .slice none 0 0], .int .i64 5]) ∧ Hid (∀ u, ¬ Opn n D ord u))) ∧ Below w.heap.size w w'
theorem run_good (n f t : Nat) (A : Option Addr) (c : Nat) (l : List E) (Ah : Option Addr) (ch : Nat) (hs : List Int) (w : World) (hl : Sl w w.heap.size 3 ce A l) (hh : Sl w w.heap.size 1 ci Ah hs) (hlen : l.length ≤ 9223372036854775807) (hlen' : hs.length ≤ 9223372036854775807) (hx : slook n f t l hs = 0) :
    Calls Try.prog 23 #[.agg #[.int .i64 n, .slice A l.length c], .int .i64 f, .int .i64 t, .slice Ah hs.length ch] w fun e w' => Found n f t l hs w e w' := by
  refine (run_any n f t A c l Ah ch hs w hl hh hlen hlen').mono ?_
  rintro e w' ⟨_, k2, k3⟩
  obtain ⟨n', f', t', hn, hf, ht, D, P, ord, hr, hc, _⟩ := k2 hx
  obtain rfl : n = n' := by omega
  obtain rfl : f = f' := by omega
  obtain rfl : t = t' := by omega
  obtain ⟨hlk, _⟩ := slook_zero.1 hx
  obtain ⟨hg, hcc, ⟨f0, f1⟩, t0, t1⟩ := DijkWay.looks_zero hlk
  refine ⟨D, P, ord, Lib.hid hr, ?_, k3⟩
  rcases hc with ⟨hnx, cs, A1, c1, A2, c2, hch, he, o1, o2⟩ | ⟨hno, he⟩
  · refine .inl ⟨cs.reverse, cs.reverse.length, A1, c1, ord.length + 1, A2, c2, dg D t, he, o1, o2, Lib.hid hnx, Lib.hid (fnd hr hnx hch hg hcc (by omega) (by omega)), Lib.hid rfl, Lib.hid (by simp), Lib.hid rfl, Lib.hid (by rw [List.reverse_reverse]; exact hch)⟩
  · exact .inr ⟨he, Lib.hid hno⟩
/-- the net's box and the arguments, behind what was made since -/
theorem nbox {w W : World} {N : Int} {A Ah : Option Addr} {c : Nat} {l : List E} {h : List Int} (hl : Sl w w.heap.size 3 ce A l) (hh : Sl w w.heap.size 1 ci Ah h) (hW : Below (w.heap.size + 1) (w.alloc (.cells #[.int .i64 N, .slice A l.length c] 32)) W) :
    W.cell? ⟨w.heap.size, 0, none⟩ = some (.int .i64 N) ∧ W.cell? ⟨w.heap.size, 1, none⟩ = some (.slice A l.length c) ∧ w.heap.size + 1 ≤ W.heap.size ∧ Sl W W.heap.size 3 ce A l ∧ Sl W W.heap.size 1 ci Ah h ∧ Below w.heap.size w W := by
  have hz : w.heap.size + 1 ≤ W.heap.size := by have := hW.size; simpa using this
  have hX := ((Below.refl w.heap.size w).alloc (Nat.le_refl _) (.cells #[.int .i64 N, .slice A l.length c] 32)).trans (hW.mono (Nat.le_succ _))
  obtain ⟨c1, _⟩ := keepAt hW (Nat.lt_succ_self _)
  exact ⟨(c1 0).trans (by simp), (c1 1).trans (by simp), hz, (hl.keep hX (Nat.le_refl _)).more (by omega), (hh.keep hX (Nat.le_refl _)).more (by omega), hX⟩
/-- the box of what was found, and its lists, behind what was made since -/
theorem fbox {w W : World} {A1 A2 : Option Addr} {m c1 k c2 : Nat} {co : Int} {p o : List Int} {B : Nat} (h1 : Own w B 3 1 ci (.slice A1 m c1) p) (h2 : Own w B 3 1 ci (.slice A2 k c2) o) (hW : Below (w.heap.size + 1) (w.alloc (.cells #[.slice A1 m c1, .int .i64 co, .slice A2 k c2] 45)) W) :
    W.cell? ⟨w.heap.size, 0, none⟩ = some (.slice A1 m c1) ∧ W.cell? ⟨w.heap.size, 1, none⟩ = some (.int .i64 co) ∧ W.cell? ⟨w.heap.size, 2, none⟩ = some (.slice A2 k c2) ∧ w.heap.size + 1 ≤ W.heap.size ∧ Sl W W.heap.size 1 ci A1 p ∧ Sl W W.heap.size 1 ci A2 o := by
  have hz : w.heap.size + 1 ≤ W.heap.size := by have := hW.size; simpa using this
  have hX := ((Below.refl w.heap.size w).alloc (Nat.le_refl _) (.cells #[.slice A1 m c1, .int .i64 co, .slice A2 k c2] 45)).trans (hW.mono (Nat.le_succ _))
  obtain ⟨c1, _⟩ := keepAt hW (Nat.lt_succ_self _)
  exact ⟨(c1 0).trans (by simp), (c1 1).trans (by simp), (c1 2).trans (by simp), hz, (h1.sl.2.keep hX (Nat.le_refl _)).more (by omega), (h2.sl.2.keep hX (Nat.le_refl _)).more (by omega)⟩
theorem own_kc {w : World} {B : Nat} {e : TypeId} {A : Option Addr} {k c : Nat} {o : List Int} (h : Own w B e 1 ci (.slice A k c) o) : k ≤ c := by
  obtain ⟨A', c', hv, hc, _⟩ := h.form
  injection hv with _ h1 h2
  omega
theorem look_fst {N : Int} {l : List E} {a b : Int} (h : Dijk.look N l [a, b] = 0) : Dijk.look N l [a] = 0 := by
  unfold Dijk.look at h ⊢
  split at h
  · rename_i h1; exact absurd h h1
  · rename_i h1
    rw [if_neg h1]
    simp only [Dijk.lookE] at h ⊢
    split at h
    · omega
    · rename_i h2; rw [if_neg h2]
end Go.Proofs.Ytbgkkmcobijkgaa.StarF
