/- The walk of dijk.Way. -/
/- Go's own slices package at []Edge: what Equal, Index and Contains answer. -/
/- The walks of the laws' own small helpers: two, SameNet. -/
/- What Dijkstra answers at the laws' own small net. -/
/- What a law wants of dijk.Way: the answers, one by one; the walk of SameWay. -/
import Derived.Test.YtjebckehmmbkbaaVDijkWalks
import Derived.Test.YtjebckehmmbkbaaVWayLaw
import Derived.Test.YtjebckehmmbkbaaVSink
import Derived.Deep.RegionLaw
import Derived.Test.YtjebckehmmbkbaaVQueue
import Derived.Laws.StructEq
import Derived.Test.YtjebckehmmbkbaaVNetTurn
import Derived.Test.YtjebckehmmbkbaaVRowSet
import Derived.BigRegion
import Derived.BigQuiet
namespace Go.Proofs.Ytjebckehmmbkbaa.DijkWay
open Go.RowKit Go.Proofs.Ytjebckehmmbkbaa NetLaw BellLaw DijkLaw HeapLaw WayLaw Go.Proofs.Ytjebckehmmbkbaa.Net Go.Proofs.Ytjebckehmmbkbaa.Heap Go.Proofs.Ytjebckehmmbkbaa.Std Go.Proofs.Ytjebckehmmbkbaa.Dijk
set_option linter.unusedSimpArgs false
set_option linter.unusedVariables false
theorem infoIntW : (Try.prog.info? 3).map (fun i => (i.zero, i.size, i.bytes)) = some (some (.int .i64 0), 1, 8) := by kernel_rfl
theorem looks_zero {N : Int} {l : List E} {a b : Int} (h : Dijk.look N l [a, b] = 0) : NetLaw.Good N l ∧ (∀ e ∈ l, 1 ≤ e.2.2) ∧ (0 ≤ a ∧ a < N) ∧ 0 ≤ b ∧ b < N := by
  unfold Dijk.look at h
  split at h
  · rename_i h1; exact absurd h h1
  · rename_i h1
    obtain ⟨x, y⟩ := pos_zero (by simpa using h1)
    simp only [lookE] at h
    split at h
    · omega
    · split at h
      · omega
      · exact ⟨x, y, by omega, by omega⟩
/-- what Way answers -/
def WaySays (N : Int) (l : List E) (fr tt : Int) (w : World) (e : Ending) (w' : World) : Prop :=
  (Dijk.look N l [fr, tt] ≠ 0 → e = .returned (.tuple #[.agg #[.slice none 0 0, .int .i64 0], .int .i64 (Dijk.look N l [fr, tt])])) ∧
  (Dijk.look N l [fr, tt] = 0 → ∃ D, Sh N fr l D ∧ (dg D tt = far → e = .returned (.tuple #[.agg #[.slice none 0 0, .int .i64 0], .int .i64 5])) ∧
    (dg D tt < far → ∃ A c p, e = .returned (.tuple #[.agg #[.slice A p.length c, .int .i64 (dg D tt)], .int .i64 0]) ∧ Own w' w.heap.size 3 1 ci (.slice A p.length c) p ∧ Wy N.toNat l D fr tt p)) ∧ Below w.heap.size w w'

/-- the way back -/
structure Rl (w wr : World) (n : Nat) (A : Option Addr) (c : Nat) (l : List E) (S : Nat) (D : List Int) (t : Nat) (A' : Option Addr) (c' : Nat) (b : List Int) (v : Int) : Prop where
  own : Own wr w.heap.size 3 1 ci (.slice A' b.length c') b
  dist : Own wr w.heap.size 3 1 ci (.slice (some ⟨S, 0, none⟩) n n) D
  sep : ∀ x y, (Value.slice A' x y).ownBlock ≠ some S
  net : wr.heap[w.heap.size]? = some (.cells #[.int .i64 n, .slice A l.length c] 24 (0, 0))
  res : wr.heap[w.heap.size + 1]? = some (.cells #[.slice none 0 0, .int .i64 0] 31 (0, 0))
  lo : Below w.heap.size w wr
  bk : Bk n l D t v b
theorem Rl.keep {w wr wx : World} {n : Nat} {A : Option Addr} {c : Nat} {l : List E} {S : Nat} {D : List Int} {t : Nat} {A' : Option Addr} {c' : Nat} {b : List Int} {v : Int} (h : Rl w wr n A c l S D t A' c' b v) (hb : Below wr.heap.size wr wx) : Rl w wx n A c l S D t A' c' b v :=
  ⟨h.own.keep hb, h.dist.keep hb, h.sep, blk_below h.net hb (lt_of_block h.net), blk_below h.res hb (lt_of_block h.res), h.lo.trans (hb.mono h.lo.size), h.bk⟩
/-- the way turned -/
structure R3 (w wx : World) (X : Nat) (dt : Int) (A' : Option Addr) (c' : Nat) (b : List Int) (A3 : Option Addr) (c3 k : Nat) : Prop where
  back : Own wx w.heap.size 3 1 ci (.slice A' b.length c') b
  path : Own wx w.heap.size 3 1 ci (.slice A3 k c3) (b.reverse.take k)
  sep : ∀ x y x' y', (Value.slice A' x y).ownBlock ≠ (Value.slice A3 x' y').ownBlock
  box : wx.heap[X]? = some (.cells #[.slice A3 k c3, .int .i64 dt] 31 (0, 0))
  res : wx.heap[w.heap.size + 1]? = some (.cells #[.slice none 0 0, .int .i64 0] 31 (0, 0))
  lo : Below w.heap.size w wx
  hX : w.heap.size + 1 < X
theorem rev_take {b : List Int} {k : Nat} (hk : k < b.length) : b.reverse.take (k + 1) = b.reverse.take k ++ [b[b.length - 1 - k]'(by omega)] := by
  rw [List.take_succ_eq_append_getElem (by rw [List.length_reverse]; exact hk), List.getElem_reverse]

end Go.Proofs.Ytjebckehmmbkbaa.DijkWay

namespace Go.Proofs.Ytjebckehmmbkbaa.Std
open Go.RowKit Go.Proofs.Ytjebckehmmbkbaa
set_option linter.unusedSimpArgs false
set_option linter.unusedVariables false
abbrev E3 := Int × Int × Int

theorem eqInE (w : World) (a b c x y z : Int) : (Op.equalIn 10000 48 (.agg #[.int .i64 a, .int .i64 b, .int .i64 c]) (.agg #[.int .i64 x, .int .i64 y, .int .i64 z])).run Try.prog w = .ok (decide ((a, b, c) = (x, y, z))) w := by
  rw [run_equalIn_agg w 9999 _ _ _ (by kernel_rfl) (by kernel_rfl)]
  by_cases h1 : a = x
  · by_cases h2 : b = y
    · by_cases h3 : c = z
      · simp [Program.fieldsOf, Try.underlying48, Op.eqFields, part, Try.underlying3, go_sem, h1, h2, h3]
      · simp [Program.fieldsOf, Try.underlying48, Op.eqFields, part, Try.underlying3, go_sem, h1, h2, h3]
    · simp [Program.fieldsOf, Try.underlying48, Op.eqFields, part, Try.underlying3, go_sem, h1, h2]
  · simp [Program.fieldsOf, Try.underlying48, Op.eqFields, part, Try.underlying3, go_sem, h1]
theorem eqlE (w : World) (a b c x y z : Int) : (binOp .eql 48 (.agg #[.int .i64 a, .int .i64 b, .int .i64 c]) (.agg #[.int .i64 x, .int .i64 y, .int .i64 z])).run Try.prog w = .ok (.bool (decide ((a, b, c) = (x, y, z)))) w := by
  rw [run_eql_struct, eqInE]; rfl
theorem neqE (w : World) (a b c x y z : Int) : (binOp .neq 48 (.agg #[.int .i64 a, .int .i64 b, .int .i64 c]) (.agg #[.int .i64 x, .int .i64 y, .int .i64 z])).run Try.prog w = .ok (.bool (!decide ((a, b, c) = (x, y, z)))) w := by
  rw [run_neq_struct, eqInE]; rfl

/-- what Index answers, and Contains -/
def IndexSays (l : List E3) (v : E3) (w : World) (e : Ending) (w' : World) : Prop :=
  ∃ i : Int, e = .returned (.int .i64 i) ∧ decide (0 ≤ i) = decide (v ∈ l) ∧ Below w.heap.size w w'
end Go.Proofs.Ytjebckehmmbkbaa.Std

namespace Go.Proofs.Ytjebckehmmbkbaa.Refs
open Go.RowKit Go.Proofs.Ytjebckehmmbkbaa NetLaw Go.Proofs.Ytjebckehmmbkbaa.Net Go.Proofs.Ytjebckehmmbkbaa.Std
set_option linter.unusedSimpArgs false
set_option linter.unusedVariables false

theorem two_any (w : World) : Calls Try.prog 5 #[] w fun e w' => ∃ g, e = .returned (.agg #[.int .i64 2, .slice (some ⟨g, 0, none⟩) 1 1]) ∧ Own w' w.heap.size 48 3 ce (.slice (some ⟨g, 0, none⟩) 1 1) [(0, 1, 5)] ∧ Below w.heap.size w w' := by
  have hR := heap_alloc_new w (.cells #[.int .i64 0, .slice none 0 0] 24)
  have hR1 := blk_alloc hR (.cells #[.int .i64 0, .int .i64 1, .int .i64 5] 48)
  have h0 := blk_cell hR1 0
  have h1 := blk_cell hR1 1
  have f0 := blk_free hR1 0
  have f1 := blk_free hR1 1
  simp only [List.getElem?_toArray, List.getElem?_cons_zero, List.getElem?_cons_succ] at h0 h1
  go_enter Try.func5, Try.ntmps5
  go_wp2
  refine bodyPost_ret (v := .agg #[.int .i64 2, .slice (some ⟨w.heap.size + 1, 0, none⟩) 1 1]) (by simp [results, Try.results5, go_sem, h0, h1]) rfl ⟨w.heap.size + 1, rfl, ?_, ?_⟩
  · exact own_new' (w.alloc (.cells #[.int .i64 2, .slice (some ⟨w.heap.size + 1, 0, none⟩) 1 1] 24)) _ _ (by simp) rfl (by simp) (by decide) rfl
  · exact ((Below.refl _ _).alloc (Nat.le_refl _) _).alloc (by simp) _
end Go.Proofs.Ytjebckehmmbkbaa.Refs

namespace Go.Proofs.Ytjebckehmmbkbaa.DijkTwo
open Go.RowKit Go.Proofs.Ytjebckehmmbkbaa NetLaw BellLaw DijkLaw Go.Proofs.Ytjebckehmmbkbaa.Net Go.Proofs.Ytjebckehmmbkbaa.Dijk Go.Proofs.Ytjebckehmmbkbaa.Refs Go.Proofs.Ytjebckehmmbkbaa.Std
set_option linter.unusedSimpArgs false
set_option linter.unusedVariables false

theorem sh0 : Sh 2 0 [(0, 1, 5)] [0, 5] := by
  refine ⟨rfl, fun v v0 v1 => ?_, rfl, fun v v0 v1 h => ?_, fun e he h => ?_⟩
  · rcases (show v = 0 ∨ v = 1 by omega) with rfl | rfl <;> decide
  · rcases (show v = 0 ∨ v = 1 by omega) with rfl | rfl
    · exact Wk.here
    · exact Wk.step (e := (0, 1, 5)) Wk.here (by simp) rfl
  · simp at he; subst he; decide
theorem sh1 : Sh 2 1 [(0, 1, 5)] [far, 0] := by
  refine ⟨rfl, fun v v0 v1 => ?_, rfl, fun v v0 v1 h => ?_, fun e he h => ?_⟩
  · rcases (show v = 0 ∨ v = 1 by omega) with rfl | rfl <;> decide
  · rcases (show v = 0 ∨ v = 1 by omega) with rfl | rfl
    · exact absurd h (by decide)
    · exact Wk.here
  · simp at he; subst he; exact absurd h (by decide)
theorem look0 : Dijk.look 2 [(0, 1, 5)] [0] = 0 := by decide +kernel
theorem look1 : Dijk.look 2 [(0, 1, 5)] [1] = 0 := by decide +kernel
theorem two_ends : ∀ e ∈ ([(0, 1, 5)] : List E), 0 ≤ e.1 ∧ e.1 < 2 ∧ 0 ≤ e.2.1 ∧ e.2.1 < 2 := by decide
theorem two_cost : ∀ e ∈ ([(0, 1, 5)] : List E), 0 ≤ e.2.2 := by decide
theorem dist_two {fr : Int} {D0 : List Int} (hs : Sh 2 fr [(0, 1, 5)] D0) (hk : Dijk.look 2 [(0, 1, 5)] [fr] = 0) (W : World) (g : Nat) (h : Sl W W.heap.size 3 ce (some ⟨g, 0, none⟩) [(0, 1, 5)]) :
    Calls Try.prog 7 #[.agg #[.int .i64 2, .slice (some ⟨g, 0, none⟩) 1 1], .int .i64 fr] W fun e w' => ∃ S, e = .returned (.tuple #[.slice (some ⟨S, 0, none⟩) 2 2, .int .i64 0]) ∧ Own w' W.heap.size 3 1 ci (.slice (some ⟨S, 0, none⟩) 2 2) D0 ∧ Below W.heap.size W w' := by
  refine (Dijk.dist_any 2 (some ⟨g, 0, none⟩) 1 [(0, 1, 5)] fr W h (by decide)).mono ?_
  rintro e w' ⟨_, k2, k3⟩
  obtain ⟨S, D, k4, k5, k6⟩ := k2 hk
  have e := hs.unique k6 two_ends two_cost
  subst e
  exact ⟨S, k4, k5, k3⟩
theorem eq_two (D0 : List Int) (hD : D0.length = 2) (W : World) (A A' : Option Addr) (c c' B B' : Nat) (h : Sl W B 1 ci A D0) (h' : Sl W B' 1 ci A' D0) : Calls Try.prog 23 #[.slice A 2 c, .slice A' 2 c'] W fun e w' => e = .returned (.bool true) ∧ ∃ k, w' = W.drewN k :=
  equal_int' A A' 2 2 c c' D0 D0 B B' W h h' hD hD (by decide) true (by simp)
/-- Dist of any net and place -/
theorem dist_yes (N : Int) (A : Option Addr) (c : Nat) (l : List E) (fr : Int) (hll : l.length ≤ 9223372036854775807) (hk : Dijk.look N l [fr] = 0) (W : World) (h : Sl W W.heap.size 3 ce A l) :
    Calls Try.prog 7 #[.agg #[.int .i64 N, .slice A l.length c], .int .i64 fr] W fun e w' => ∃ S D, e = .returned (.tuple #[.slice (some ⟨S, 0, none⟩) N.toNat N.toNat, .int .i64 0]) ∧ Own w' W.heap.size 3 1 ci (.slice (some ⟨S, 0, none⟩) N.toNat N.toNat) D ∧ Below W.heap.size W w' ∧ Hid (Sh N fr l D) := by
  refine (Dijk.dist_any N A c l fr W h hll).mono ?_
  rintro e w' ⟨_, k2, k3⟩
  obtain ⟨S, D, k4, k5, k6⟩ := k2 hk
  exact ⟨S, D, k4, k5, k3, Lib.hid k6⟩
theorem dist_no (N : Int) (A : Option Addr) (c : Nat) (l : List E) (fr : Int) (hll : l.length ≤ 9223372036854775807) (hk : Dijk.look N l [fr] ≠ 0) (W : World) (h : Sl W W.heap.size 3 ce A l) :
    Calls Try.prog 7 #[.agg #[.int .i64 N, .slice A l.length c], .int .i64 fr] W fun e w' => e = .returned (.tuple #[.slice none 0 0, .int .i64 (Dijk.look N l [fr])]) ∧ Below W.heap.size W w' := by
  refine (Dijk.dist_any N A c l fr W h hll).mono ?_
  rintro e w' ⟨k1, _, k3⟩
  exact ⟨k1 hk, k3⟩
end Go.Proofs.Ytjebckehmmbkbaa.DijkTwo

namespace Go.Proofs.Ytjebckehmmbkbaa.WayUse
open Go.RowKit Go.Proofs.Ytjebckehmmbkbaa NetLaw BellLaw DijkLaw WayLaw Go.Proofs.Ytjebckehmmbkbaa.Net Go.Proofs.Ytjebckehmmbkbaa.Std Go.Proofs.Ytjebckehmmbkbaa.Dijk Go.Proofs.Ytjebckehmmbkbaa.DijkWay Go.Proofs.Ytjebckehmmbkbaa.DijkTwo
set_option linter.unusedSimpArgs false
set_option linter.unusedVariables false
theorem wy_self {n : Nat} {l : List E} {D : List Int} {x : Int} {p : List Int} (h : Wy n l D x x p) : p = [x] := by
  have h1 := h.head
  have h2 := h.last
  cases p with
  | nil => simp at h1
  | cons a r =>
    simp at h1
    subst h1
    cases r with
    | nil => rfl
    | cons b r =>
      exfalso
      have h3 := (List.nodup_cons.1 h.nd).1
      rw [List.getLast?_cons_cons] at h2
      exact h3 (List.mem_of_getLast? h2)
theorem look11 : Dijk.look 2 [(0, 1, 5)] [1, 1] = 0 := by decide +kernel
/-- there is an answer of Dijkstra's to every right question -/
theorem sh_ex {n f : Nat} {l : List E} (hg : NetLaw.Good n l) (hc : ∀ e ∈ l, 1 ≤ e.2.2) (hf : f < n) : True := trivial
theorem links_wk {l : List E} {D : List Int} (p : List Int) (x y : Int) (hx : p.head? = some x) (hy : p.getLast? = some y) (hl : ∀ q ∈ WalkLaw.prs p, Lk l D q.1 q.2) : Wk l x y (dg D y - dg D x) := by
  induction p generalizing x with
  | nil => simp at hx
  | cons a r ih =>
    simp at hx
    subst hx
    cases r with
    | nil =>
      simp at hy
      subst hy
      rw [Int.sub_self]
      exact Wk.here
    | cons b r =>
      obtain ⟨e, he, h1, h2, h3⟩ : Lk l D a b := hl (a, b) (by rw [WalkLaw.prs_cons]; simp)
      have ih2 := ih b rfl (by simpa using hy) (fun q hq => hl q (by rw [WalkLaw.prs_cons]; simp [hq]))
      have hs := Wk.step (l := l) (fr := a) (e := e) Wk.here he h1
      rw [h2, Int.zero_add] at hs
      have hj := DijkMorePlain.wk_join hs ih2
      have e1 : e.2.2 + (dg D y - dg D b) = dg D y - dg D a := by omega
      rwa [e1] at hj
/-- a part of a way costs least -/
theorem part_law {n : Nat} {l : List E} {D D' : List Int} {fr : Int} {u v : Int} (hD : Sh n fr l D) (hD' : Sh n u l D') (hends : ∀ e ∈ l, 0 ≤ e.1 ∧ e.1 < n ∧ 0 ≤ e.2.1 ∧ e.2.1 < n) (hc : ∀ e ∈ l, 0 ≤ e.2.2) (hu : 0 ≤ u ∧ u < n) (hv : 0 ≤ v ∧ v < n) (huf : dg D u < far) (hvf : dg D v < far) (hw : Wk l u v (dg D v - dg D u)) : dg D' v = dg D v - dg D u := by
  have hu0 := (hD.lo u hu.1 hu.2).1
  have h1 := hD'.walk_le hends hw (by omega) hc
  have h2 := hD'.wk v hv.1 hv.2 (by omega)
  have h3 := DijkMorePlain.wk_join (hD.wk u hu.1 hu.2 huf) h2
  by_cases h4 : dg D u + dg D' v < far
  · have := hD.walk_le hends h3 h4 hc
    omega
  · omega
theorem prs_drop (p : List Int) (i : Nat) : ∀ q ∈ WalkLaw.prs (p.drop i), q ∈ WalkLaw.prs p := fun q hq => by
  induction i generalizing p with
  | zero => simpa using hq
  | succ i ih =>
    cases p with
    | nil => simp [WalkLaw.prs] at hq
    | cons a r =>
      have h1 := ih r (by simpa using hq)
      cases r with
      | nil => simp [WalkLaw.prs] at h1
      | cons b r => rw [WalkLaw.prs_cons]; exact List.mem_cons_of_mem _ h1
theorem prs_take (p : List Int) (i : Nat) : ∀ q ∈ WalkLaw.prs (p.take i), q ∈ WalkLaw.prs p := fun q hq => by
  induction i generalizing p with
  | zero => simp [WalkLaw.prs] at hq
  | succ i ih =>
    cases p with
    | nil => simp [WalkLaw.prs] at hq
    | cons a r =>
      cases r with
      | nil => cases i <;> simp [WalkLaw.prs] at hq
      | cons b r =>
        cases i with
        | zero => simp [WalkLaw.prs] at hq
        | succ i =>
          rw [List.take_succ_cons, List.take_succ_cons, WalkLaw.prs_cons] at hq
          rw [WalkLaw.prs_cons]
          rcases List.mem_cons.1 hq with rfl | hq
          · simp
          · refine List.mem_cons_of_mem _ (ih (b :: r) ?_)
            rw [List.take_succ_cons]
            exact hq
end Go.Proofs.Ytjebckehmmbkbaa.WayUse
