/- Go's own slices package at []Edge: what Equal, Index and Contains answer. -/
/- The walks of the laws' own small helpers: two, SameNet. -/
/- What Dijkstra answers at the laws' own small net. -/
import Derived.Test.YtamphgcpfncenaaVStdI
import Derived.Laws.StructEq
import Derived.Test.YtamphgcpfncenaaVNetTurn
import Derived.Test.YtamphgcpfncenaaVRowSet
import Derived.BigRegion
import Derived.BigQuiet
import Derived.Test.YtamphgcpfncenaaVDijkWalks
namespace Go.Proofs.Ytamphgcpfncenaa.Std
open Go.RowKit Go.Proofs.Ytamphgcpfncenaa
set_option linter.unusedSimpArgs false
set_option linter.unusedVariables false
abbrev E3 := Int × Int × Int

theorem eqInE (w : World) (a b c x y z : Int) : (Op.equalIn 10000 27 (.agg #[.int .i64 a, .int .i64 b, .int .i64 c]) (.agg #[.int .i64 x, .int .i64 y, .int .i64 z])).run Try.prog w = .ok (decide ((a, b, c) = (x, y, z))) w := by
  rw [run_equalIn_agg w 9999 _ _ _ (by kernel_rfl) (by kernel_rfl)]
  by_cases h1 : a = x
  · by_cases h2 : b = y
    · by_cases h3 : c = z
      · simp [Program.fieldsOf, Try.underlying27, Op.eqFields, part, Try.underlying3, go_sem, h1, h2, h3]
      · simp [Program.fieldsOf, Try.underlying27, Op.eqFields, part, Try.underlying3, go_sem, h1, h2, h3]
    · simp [Program.fieldsOf, Try.underlying27, Op.eqFields, part, Try.underlying3, go_sem, h1, h2]
  · simp [Program.fieldsOf, Try.underlying27, Op.eqFields, part, Try.underlying3, go_sem, h1]
theorem eqlE (w : World) (a b c x y z : Int) : (binOp .eql 27 (.agg #[.int .i64 a, .int .i64 b, .int .i64 c]) (.agg #[.int .i64 x, .int .i64 y, .int .i64 z])).run Try.prog w = .ok (.bool (decide ((a, b, c) = (x, y, z)))) w := by
  rw [run_eql_struct, eqInE]; rfl
theorem neqE (w : World) (a b c x y z : Int) : (binOp .neq 27 (.agg #[.int .i64 a, .int .i64 b, .int .i64 c]) (.agg #[.int .i64 x, .int .i64 y, .int .i64 z])).run Try.prog w = .ok (.bool (!decide ((a, b, c) = (x, y, z)))) w := by
  rw [run_neq_struct, eqInE]; rfl

set_option maxHeartbeats 1000000 in
theorem equal_edge (A A' : Option Addr) (c c' : Nat) (l m : List E3) (B B' : Nat) (w : World) (hl : Sl w B 3 ce A l) (hm : Sl w B' 3 ce A' m) (hlen : l.length ≤ 9223372036854775807) :
    Calls Try.prog 60 #[.slice A l.length c, .slice A' m.length c'] w fun e w' => e = .returned (.bool (decide (l = m))) ∧ ∃ n, w' = w.drewN n := by
  by_cases he : l.length = m.length
  · have hm' : (l.length : Int) = m.length := by omega
    have h0 : ((l.length : Int) != (m.length : Int)) = false := by rw [bne_eq_false_iff_eq]; exact hm'
    have HE := Lib.hid he
    clear he hm'
    go_enter Try.func60, Try.ntmps60
    go_wp2
    go_loopw [13] (fun i wr => ∃ k : Nat, k ≤ l.length ∧ i = .int .i64 k ∧ l.take k = m.take k ∧ ∃ n, wr = w.drewN n) (fun i _ => l.length - (intOf i).toNat)
    case atStart => exact ⟨0, Nat.zero_le _, rfl, by simp, 0, rfl⟩
    case round =>
      obtain ⟨k, hk, rfl, htk, n, rfl⟩ := hrel
      have HT := Lib.hid htk
      clear htk
      by_cases hlt : k < l.length
      · have hlt' : k < m.length := by have := HE.out; omega
        obtain ⟨b, off, x1, x2, x3, rfl, hbB, hx, c1, c2, c3⟩ := hl.atE hlt
        obtain ⟨b', off', y1, y2, y3, rfl, hbB', hy, d1, d2, d3⟩ := hm.atE hlt'
        have HX := Lib.hid hx.symm
        have HY := Lib.hid hy.symm
        clear hx hy hl hm
        have hq := fun w => neqE w x1 x2 x3 y1 y2 y3
        by_cases hxy : ((x1, x2, x3) : E3) = (y1, y2, y3)
        · have HXY := Lib.hid hxy
          have hd : decide (((x1, x2, x3) : E3) = (y1, y2, y3)) = true := decide_eq_true hxy
          rw [hd] at hq
          clear hxy hd
          go_wp2
          go_quiet (fail)
          go_wp2
          go_roundw
          case rel => exact ⟨k + 1, by omega, by go_num, take_eq HT.out hlt hlt' (HX.out.symm.trans (HXY.out.trans HY.out)), n + nq, by first | rfl | exact World.drewN_drewN _ _ _⟩
          case measure => simp [intOf]; omega
        · have hd : decide (((x1, x2, x3) : E3) = (y1, y2, y3)) = false := decide_eq_false hxy
          rw [hd] at hq
          have HXY := Lib.hid hxy
          clear hd hxy
          go_wp2
          go_quiet (fail)
          go_wp2
          go_ret
          exact ⟨ret_bool (by symm; rw [decide_eq_false_iff_not]; exact fun e => HXY.out (HX.out.trans ((getElem_of_take e hlt hlt').trans HY.out.symm))), n + nq, by first | rfl | exact World.drewN_drewN _ _ _⟩
      · obtain rfl : k = l.length := by omega
        go_wp2
        go_ret
        refine ⟨ret_bool ?_, n, rfl⟩
        have h1 := HT.out
        rw [List.take_length, List.take_of_length_le (by have := HE.out; omega)] at h1
        symm
        rw [decide_eq_true_eq]
        exact h1
  · have hne : ((l.length : Int) != (m.length : Int)) = true := by rw [bne_iff_ne]; omega
    have HE := Lib.hid he
    clear he hl hm
    go_enter Try.func60, Try.ntmps60
    go_wp2
    go_ret
    exact ⟨ret_bool (by symm; rw [decide_eq_false_iff_not]; exact fun e => HE.out (by rw [e])), 0, rfl⟩
theorem equal_edge' (A A' : Option Addr) (n m c c' : Nat) (l r : List E3) (B B' : Nat) (w : World) (hl : Sl w B 3 ce A l) (hm : Sl w B' 3 ce A' r) (hn : l.length = n) (hm' : r.length = m) (hlen : n ≤ 9223372036854775807) (b : Bool) (hb : decide (l = r) = b) :
    Calls Try.prog 60 #[.slice A n c, .slice A' m c'] w fun e w' => e = .returned (.bool b) ∧ ∃ k, w' = w.drewN k := by
  subst hn hm' hb
  exact equal_edge A A' c c' l r B B' w hl hm hlen

/-- what Index answers, and Contains -/
def IndexSays (l : List E3) (v : E3) (w : World) (e : Ending) (w' : World) : Prop :=
  ∃ i : Int, e = .returned (.int .i64 i) ∧ decide (0 ≤ i) = decide (v ∈ l) ∧ Below w.heap.size w w'
end Go.Proofs.Ytamphgcpfncenaa.Std

namespace Go.Proofs.Ytamphgcpfncenaa.Refs
open Go.RowKit Go.Proofs.Ytamphgcpfncenaa NetLaw Go.Proofs.Ytamphgcpfncenaa.Net Go.Proofs.Ytamphgcpfncenaa.Std
set_option linter.unusedSimpArgs false
set_option linter.unusedVariables false

theorem two_any (w : World) : Calls Try.prog 15 #[] w fun e w' => ∃ g, e = .returned (.agg #[.int .i64 2, .slice (some ⟨g, 0, none⟩) 1 1]) ∧ Own w' w.heap.size 27 3 ce (.slice (some ⟨g, 0, none⟩) 1 1) [(0, 1, 5)] ∧ Below w.heap.size w w' := by
  have hR := heap_alloc_new w (.cells #[.int .i64 0, .slice none 0 0] 24)
  have hR1 := blk_alloc hR (.cells #[.int .i64 0, .int .i64 1, .int .i64 5] 27)
  have h0 := blk_cell hR1 0
  have h1 := blk_cell hR1 1
  have f0 := blk_free hR1 0
  have f1 := blk_free hR1 1
  simp only [List.getElem?_toArray, List.getElem?_cons_zero, List.getElem?_cons_succ] at h0 h1
  go_enter Try.func15, Try.ntmps15
  go_wp2
  refine bodyPost_ret (v := .agg #[.int .i64 2, .slice (some ⟨w.heap.size + 1, 0, none⟩) 1 1]) (by simp [results, Try.results15, go_sem, h0, h1]) rfl ⟨w.heap.size + 1, rfl, ?_, ?_⟩
  · exact own_new' (w.alloc (.cells #[.int .i64 2, .slice (some ⟨w.heap.size + 1, 0, none⟩) 1 1] 24)) _ _ (by simp) rfl (by simp) (by decide) rfl
  · exact ((Below.refl _ _).alloc (Nat.le_refl _) _).alloc (by simp) _
set_option maxHeartbeats 1000000 in
/-- SameNet, the answer given -/
theorem same_net (N N' : Int) (A A' : Option Addr) (n m c c' : Nat) (l r : List E) (w : World) (hl : Sl w w.heap.size 3 ce A l) (hm : Sl w w.heap.size 3 ce A' r) (hn : l.length = n) (hm' : r.length = m) (hlen : n ≤ 9223372036854775807) (b : Bool) (hb : (decide (N = N') && decide (l = r)) = b) :
    Calls Try.prog 20 #[.agg #[.int .i64 N, .slice A n c], .agg #[.int .i64 N', .slice A' m c']] w fun e w' => e = .returned (.bool b) ∧ Below w.heap.size w w' := by
  have hb0 : Below w.heap.size w ((w.alloc (.cells #[.int .i64 N, .slice A n c] 24)).alloc (.cells #[.int .i64 N', .slice A' m c'] 24)) := ((Below.refl _ _).alloc (Nat.le_refl _) _).alloc (by simp) _
  have key := equal_edge' A A' n m c c' l r w.heap.size w.heap.size _ (hl.keep hb0 (Nat.le_refl _)) (hm.keep hb0 (Nat.le_refl _)) hn hm' hlen _ rfl
  by_cases h : N = N'
  · subst h
    have hb2 : decide (l = r) = b := by rw [← hb, decide_eq_true rfl, Bool.true_and]
    rw [hb2] at key
    have KEY := Lib.hid key
    clear key hb hb2 hl hm hn hm'
    go_enter Try.func20, Try.ntmps20
    go_wp2_with fail
    refine KEY.out.mono ?_
    rintro e w1 ⟨rfl, k, rfl⟩
    have hB1 := below_drewN hb0 k
    clear hb0
    go_wp2
    go_ret
    exact ⟨rfl, hB1⟩
  · have hbn : (N == N') = false := by simp [h]
    have hb2 : b = false := by rw [← hb, decide_eq_false h, Bool.false_and]
    subst hb2
    clear key hb hl hm hn hm' h
    go_enter Try.func20, Try.ntmps20
    go_wp2
    go_ret
    exact ⟨rfl, hb0⟩
end Go.Proofs.Ytamphgcpfncenaa.Refs

namespace Go.Proofs.Ytamphgcpfncenaa.DijkTwo
open Go.RowKit Go.Proofs.Ytamphgcpfncenaa NetLaw BellLaw DijkLaw Go.Proofs.Ytamphgcpfncenaa.Net Go.Proofs.Ytamphgcpfncenaa.Dijk Go.Proofs.Ytamphgcpfncenaa.Refs Go.Proofs.Ytamphgcpfncenaa.Std
set_option linter.unusedSimpArgs false
set_option linter.unusedVariables false

theorem sh0 : Sh 2 0 [(0, 1, 5)] [0, 5] := by
  refine ⟨rfl, fun v v0 v1 => ?_, rfl, fun v v0 v1 h => ?_, fun e he h => ?_⟩
  · rcases (show v = 0 ∨ v = 1 by omega) with rfl | rfl <;> decide
  · rcases (show v = 0 ∨ v = 1 by omega) with rfl | rfl
    · exact Wk.here
    · exact Wk.step (e := (0, 1, 5)) Wk.here (by simp) rfl
  · simp at he; subst he; decide
theorem sh1 : Sh 2 1 [(0, 1, 5)] [far, 0] := by
  refine ⟨rfl, fun v v0 v1 => ?_, rfl, fun v v0 v1 h => ?_, fun e he h => ?_⟩
  · rcases (show v = 0 ∨ v = 1 by omega) with rfl | rfl <;> decide
  · rcases (show v = 0 ∨ v = 1 by omega) with rfl | rfl
    · exact absurd h (by decide)
    · exact Wk.here
  · simp at he; subst he; exact absurd h (by decide)
theorem look0 : Dijk.look 2 [(0, 1, 5)] [0] = 0 := by decide +kernel
theorem look1 : Dijk.look 2 [(0, 1, 5)] [1] = 0 := by decide +kernel
theorem two_ends : ∀ e ∈ ([(0, 1, 5)] : List E), 0 ≤ e.1 ∧ e.1 < 2 ∧ 0 ≤ e.2.1 ∧ e.2.1 < 2 := by decide
theorem two_cost : ∀ e ∈ ([(0, 1, 5)] : List E), 0 ≤ e.2.2 := by decide
theorem dist_two {fr : Int} {D0 : List Int} (hs : Sh 2 fr [(0, 1, 5)] D0) (hk : Dijk.look 2 [(0, 1, 5)] [fr] = 0) (W : World) (g : Nat) (h : Sl W W.heap.size 3 ce (some ⟨g, 0, none⟩) [(0, 1, 5)]) :
    Calls Try.prog 24 #[.agg #[.int .i64 2, .slice (some ⟨g, 0, none⟩) 1 1], .int .i64 fr] W fun e w' => ∃ S, e = .returned (.tuple #[.slice (some ⟨S, 0, none⟩) 2 2, .int .i64 0]) ∧ Own w' W.heap.size 3 1 ci (.slice (some ⟨S, 0, none⟩) 2 2) D0 ∧ Below W.heap.size W w' := by
  refine (Dijk.dist_any 2 (some ⟨g, 0, none⟩) 1 [(0, 1, 5)] fr W h (by decide)).mono ?_
  rintro e w' ⟨_, k2, k3⟩
  obtain ⟨S, D, k4, k5, k6⟩ := k2 hk
  have e := hs.unique k6 two_ends two_cost
  subst e
  exact ⟨S, k4, k5, k3⟩
theorem eq_two (D0 : List Int) (hD : D0.length = 2) (W : World) (A A' : Option Addr) (c c' B B' : Nat) (h : Sl W B 1 ci A D0) (h' : Sl W B' 1 ci A' D0) : Calls Try.prog 28 #[.slice A 2 c, .slice A' 2 c'] W fun e w' => e = .returned (.bool true) ∧ ∃ k, w' = W.drewN k :=
  equal_int' A A' 2 2 c c' D0 D0 B B' W h h' hD hD (by decide) true (by simp)
/-- Dist of any net and place -/
theorem dist_yes (N : Int) (A : Option Addr) (c : Nat) (l : List E) (fr : Int) (hll : l.length ≤ 9223372036854775807) (hk : Dijk.look N l [fr] = 0) (W : World) (h : Sl W W.heap.size 3 ce A l) :
    Calls Try.prog 24 #[.agg #[.int .i64 N, .slice A l.length c], .int .i64 fr] W fun e w' => ∃ S D, e = .returned (.tuple #[.slice (some ⟨S, 0, none⟩) N.toNat N.toNat, .int .i64 0]) ∧ Own w' W.heap.size 3 1 ci (.slice (some ⟨S, 0, none⟩) N.toNat N.toNat) D ∧ Below W.heap.size W w' ∧ Hid (Sh N fr l D) := by
  refine (Dijk.dist_any N A c l fr W h hll).mono ?_
  rintro e w' ⟨_, k2, k3⟩
  obtain ⟨S, D, k4, k5, k6⟩ := k2 hk
  exact ⟨S, D, k4, k5, k3, Lib.hid k6⟩
theorem dist_no (N : Int) (A : Option Addr) (c : Nat) (l : List E) (fr : Int) (hll : l.length ≤ 9223372036854775807) (hk : Dijk.look N l [fr] ≠ 0) (W : World) (h : Sl W W.heap.size 3 ce A l) :
    Calls Try.prog 24 #[.agg #[.int .i64 N, .slice A l.length c], .int .i64 fr] W fun e w' => e = .returned (.tuple #[.slice none 0 0, .int .i64 (Dijk.look N l [fr])]) ∧ Below W.heap.size W w' := by
  refine (Dijk.dist_any N A c l fr W h hll).mono ?_
  rintro e w' ⟨k1, _, k3⟩
  exact ⟨k1 hk, k3⟩
end Go.Proofs.Ytamphgcpfncenaa.DijkTwo
