/- The walk of dijk.Way. -/
import Derived.Test.YtpoolpaagbeokaaVDijkWalks
import Derived.Test.YtpoolpaagbeokaaVWayLaw
import Derived.Test.YtpoolpaagbeokaaVSink
import Derived.Deep.RegionLaw
namespace Go.Proofs.Ytpoolpaagbeokaa.DijkWay
open Go.RowKit Go.Proofs.Ytpoolpaagbeokaa NetLaw BellLaw DijkLaw HeapLaw WayLaw Go.Proofs.Ytpoolpaagbeokaa.Net Go.Proofs.Ytpoolpaagbeokaa.Heap Go.Proofs.Ytpoolpaagbeokaa.Std Go.Proofs.Ytpoolpaagbeokaa.Dijk
set_option linter.unusedSimpArgs false
set_option linter.unusedVariables false
theorem infoIntW : (Try.prog.info? 3).map (fun i => (i.zero, i.size, i.bytes)) = some (some (.int .i64 0), 1, 8) := by kernel_rfl
theorem looks_zero {N : Int} {l : List E} {a b : Int} (h : Dijk.look N l [a, b] = 0) : NetLaw.Good N l ∧ (∀ e ∈ l, 1 ≤ e.2.2) ∧ (0 ≤ a ∧ a < N) ∧ 0 ≤ b ∧ b < N := by
  unfold Dijk.look at h
  split at h
  · rename_i h1; exact absurd h h1
  · rename_i h1
    obtain ⟨x, y⟩ := pos_zero (by simpa using h1)
    simp only [lookE] at h
    split at h
    · omega
    · split at h
      · omega
      · exact ⟨x, y, by omega, by omega⟩
/-- what Way answers -/
def WaySays (N : Int) (l : List E) (fr tt : Int) (w : World) (e : Ending) (w' : World) : Prop :=
  (Dijk.look N l [fr, tt] ≠ 0 → e = .returned (.tuple #[.agg #[.slice none 0 0, .int .i64 0], .int .i64 (Dijk.look N l [fr, tt])])) ∧
  (Dijk.look N l [fr, tt] = 0 → ∃ D, Sh N fr l D ∧ (dg D tt = far → e = .returned (.tuple #[.agg #[.slice none 0 0, .int .i64 0], .int .i64 5])) ∧
    (dg D tt < far → ∃ A c p, e = .returned (.tuple #[.agg #[.slice A p.length c, .int .i64 (dg D tt)], .int .i64 0]) ∧ Own w' w.heap.size 3 1 ci (.slice A p.length c) p ∧ Wy N.toNat l D fr tt p)) ∧ Below w.heap.size w w'

/-- the way back -/
structure Rl (w wr : World) (n : Nat) (A : Option Addr) (c : Nat) (l : List E) (S : Nat) (D : List Int) (t : Nat) (A' : Option Addr) (c' : Nat) (b : List Int) (v : Int) : Prop where
  own : Own wr w.heap.size 3 1 ci (.slice A' b.length c') b
  dist : Own wr w.heap.size 3 1 ci (.slice (some ⟨S, 0, none⟩) n n) D
  sep : ∀ x y, (Value.slice A' x y).ownBlock ≠ some S
  net : wr.heap[w.heap.size]? = some (.cells #[.int .i64 n, .slice A l.length c] 52 (0, 0))
  res : wr.heap[w.heap.size + 1]? = some (.cells #[.slice none 0 0, .int .i64 0] 41 (0, 0))
  lo : Below w.heap.size w wr
  bk : Bk n l D t v b
theorem Rl.keep {w wr wx : World} {n : Nat} {A : Option Addr} {c : Nat} {l : List E} {S : Nat} {D : List Int} {t : Nat} {A' : Option Addr} {c' : Nat} {b : List Int} {v : Int} (h : Rl w wr n A c l S D t A' c' b v) (hb : Below wr.heap.size wr wx) : Rl w wx n A c l S D t A' c' b v :=
  ⟨h.own.keep hb, h.dist.keep hb, h.sep, blk_below h.net hb (lt_of_block h.net), blk_below h.res hb (lt_of_block h.res), h.lo.trans (hb.mono h.lo.size), h.bk⟩
/-- the way turned -/
structure R3 (w wx : World) (X : Nat) (dt : Int) (A' : Option Addr) (c' : Nat) (b : List Int) (A3 : Option Addr) (c3 k : Nat) : Prop where
  back : Own wx w.heap.size 3 1 ci (.slice A' b.length c') b
  path : Own wx w.heap.size 3 1 ci (.slice A3 k c3) (b.reverse.take k)
  sep : ∀ x y x' y', (Value.slice A' x y).ownBlock ≠ (Value.slice A3 x' y').ownBlock
  box : wx.heap[X]? = some (.cells #[.slice A3 k c3, .int .i64 dt] 41 (0, 0))
  res : wx.heap[w.heap.size + 1]? = some (.cells #[.slice none 0 0, .int .i64 0] 41 (0, 0))
  lo : Below w.heap.size w wx
  hX : w.heap.size + 1 < X
theorem rev_take {b : List Int} {k : Nat} (hk : k < b.length) : b.reverse.take (k + 1) = b.reverse.take k ++ [b[b.length - 1 - k]'(by omega)] := by
  rw [List.take_succ_eq_append_getElem (by rw [List.length_reverse]; exact hk), List.getElem_reverse]

end Go.Proofs.Ytpoolpaagbeokaa.DijkWay
