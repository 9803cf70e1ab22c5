/- The walks of roomy, filled and spoil, at Edge. -/
import Derived.Test.YtlcgkbkmfelcfaaOwnInt
import Derived.BigRegion
namespace Go.Proofs.Ytlcgkbkmfelcfaa.Room
open Go.RowKit Go.Proofs.Ytlcgkbkmfelcfaa Go.Proofs.Ytlcgkbkmfelcfaa.Net Go.Proofs.Ytlcgkbkmfelcfaa.Std
set_option linter.unusedSimpArgs false
set_option linter.unusedVariables false

set_option maxRecDepth 100000 in
set_option maxHeartbeats 2000000 in
theorem roomy_edge (A : Option Addr) (n c : Nat) (l : List (Int × Int × Int)) (x y z : Int) (w : World) (hl : Sl w w.heap.size 3 ce A l) (hn : l.length = n) (hA : A = none → n = 0 ∧ c = 0) (hlen : n ≤ 1000000000) :
    Calls Try.prog 15 #[.slice A n c, .agg #[.int .i64 x, .int .i64 y, .int .i64 z]] w fun e w' => ∃ S, e = .returned (.slice (some ⟨S, 0, none⟩) n (n + 3)) ∧ Own w' w.heap.size 27 3 ce (.slice (some ⟨S, 0, none⟩) (n + 3) (n + 3)) (l ++ List.replicate 3 (x, y, z)) ∧ Below w.heap.size w w' := by
  obtain ⟨i0, hi, hz0, hz1, hz2⟩ := info_parts infoEdge
  have hmk : ∀ w, (Instr.makeSlice 22 (.int .i64 0) (.int .i64 ((n : Int) + 3))).run Try.prog w = .ok (.slice (some ⟨w.heap.size, 0, none⟩) 0 (n + 3)) (w.alloc (.cells (madeCells #[.int .i64 0, .int .i64 0, .int .i64 0] ((n + 3) * 3)) 27)) := fun w => by
    have h := run_make (P := Try.prog) w 22 27 i0 _ Try.underlying22 hi hz0 .i64 .i64 0 ((n : Int) + 3) (by omega) (by omega) (by rw [hz2]; omega) (by omega)
    rw [hz1] at h
    have e : ((n : Int) + 3).toNat = n + 3 := by omega
    rw [e] at h
    exact h
  have w1 : IntKind.i64.wrap ((n : Int) + 3) = (n : Int) + 3 := IntWalk.i64_in _ (by omega)
  have own0 : Own ((w.alloc (.cells #[.int .i64 x, .int .i64 y, .int .i64 z] 27)).alloc (.cells (madeCells #[.int .i64 0, .int .i64 0, .int .i64 0] ((n + 3) * 3)) 27)) w.heap.size 27 3 ce (.slice (some ⟨w.heap.size + 1, 0, none⟩) 0 (n + 3)) ([] : List (Int × Int × Int)) := by
    have h := own_made (w := (w.alloc (.cells #[.int .i64 x, .int .i64 y, .int .i64 z] 27))) (base := w.heap.size) (α := Int × Int × Int) (e := 27) (sz := 3) (cell := ce) (cap := n + 3) (cur := madeCells #[.int .i64 0, .int .i64 0, .int .i64 0] ((n + 3) * 3)) (by simp) (by unfold maxLen; omega) (by rw [size_madeCells])
    rw [show (w.alloc (.cells #[.int .i64 x, .int .i64 y, .int .i64 z] 27)).heap.size = w.heap.size + 1 by simp] at h
    exact h
  have hB2 : Below w.heap.size w ((w.alloc (.cells #[.int .i64 x, .int .i64 y, .int .i64 z] 27)).alloc (.cells (madeCells #[.int .i64 0, .int .i64 0, .int .i64 0] ((n + 3) * 3)) 27)) := ((Below.refl _ _).alloc (Nat.le_refl _) _).alloc (by simp) _
  have hs1 := (hl.keep hB2 (Nat.le_refl _)).more (show w.heap.size ≤ ((w.alloc (.cells #[.int .i64 x, .int .i64 y, .int .i64 z] 27)).alloc (.cells (madeCells #[.int .i64 0, .int .i64 0, .int .i64 0] ((n + 3) * 3)) 27)).heap.size by simp; omega)
  have hbox2 : ((w.alloc (.cells #[.int .i64 x, .int .i64 y, .int .i64 z] 27)).alloc (.cells (madeCells #[.int .i64 0, .int .i64 0, .int .i64 0] ((n + 3) * 3)) 27)).heap[w.heap.size]? = some (.cells #[.int .i64 x, .int .i64 y, .int .i64 z] 27 (0, 0)) := blk_alloc (heap_alloc_new w (.cells #[.int .i64 x, .int .i64 y, .int .i64 z] 27)) _
  have HN := Lib.hid hn
  clear hl hn
  go_enter Try.func15, Try.ntmps15
  go_wp2_with (at_builtin; refine wpList_pushRoom _ rfl (.tmp 10) (.tmp 11) _ rfl w.heap.size 27 i0 3 ce Try.underlying22 hi hz1 (by decide) (w.heap.size + 1) 0 (n + 3) ([] : List (Int × Int × Int)) rfl own0 _ A n c l HN.out rfl hA hs1 one_ce (by omega) ?_; intro w3 hown3 hgrow3; simp only [Nat.zero_add, List.nil_append] at hown3)
  have hB3 : Below w.heap.size w w3 := hB2.grown hgrow3 (by simp; omega) (fun k e => by injection e with e; omega)
  have hbox := blk_grown hbox2 hgrow3 (fun e => by injection e with e; omega)
  clear own0 hs1 hgrow3 hmk w1 hbox2 hB2
  go_loopw [13] (fun i wr => ∃ k : Nat, k ≤ 3 ∧ i = .int .i64 k ∧ Own wr w.heap.size 27 3 ce (.slice (some ⟨w.heap.size + 1, 0, none⟩) (n + k) (n + 3)) (l ++ List.replicate k (x, y, z)) ∧ wr.heap[w.heap.size]? = some (.cells #[.int .i64 x, .int .i64 y, .int .i64 z] 27 (0, 0)) ∧ Below w.heap.size w wr) (fun i _ => 3 - (intOf i).toNat)
  case atStart => exact ⟨0, by omega, rfl, by simpa using hown3, hbox, hB3⟩
  case round =>
    clear hown3 hB3 hbox
    obtain ⟨k, hk, rfl, hown, hbox, hB⟩ := hrel
    by_cases hlt : k < 3
    · have hk3 : (k : Int) < 3 := by omega
      have w1 : IntKind.i64.wrap ((n : Int) + 3) = (n : Int) + 3 := IntWalk.i64_in _ (by omega)
      have w2 : IntKind.i64.wrap ((n : Int) + k) = (n : Int) + k := IntWalk.i64_in _ (by omega)
      obtain ⟨_, _, _, _, cur, h3, h4, _⟩ := own_open hown
      have x0 := blk_cell hbox 0
      have x1 := blk_cell hbox 1
      have x2 := blk_cell hbox 2
      simp only [List.getElem?_toArray, List.getElem?_cons_zero, List.getElem?_cons_succ] at x0 x1 x2
      have hcell0 := blk_cell h3 ((n + k) * 3)
      have hcell1 := blk_cell h3 ((n + k) * 3 + 1)
      have hcell2 := blk_cell h3 ((n + k) * 3 + 2)
      rw [Array.getElem?_eq_getElem (show (n + k) * 3 < cur.size by omega)] at hcell0
      rw [Array.getElem?_eq_getElem (show (n + k) * 3 + 1 < cur.size by omega)] at hcell1
      rw [Array.getElem?_eq_getElem (show (n + k) * 3 + 2 < cur.size by omega)] at hcell2
      have hfr0 := blk_free h3 ((n + k) * 3)
      have hfr1 := blk_free h3 ((n + k) * 3 + 1)
      have hfr2 := blk_free h3 ((n + k) * 3 + 2)
      generalize cur[(n + k) * 3]'(by omega) = y0 at hcell0
      generalize cur[(n + k) * 3 + 1]'(by omega) = y1 at hcell1
      generalize cur[(n + k) * 3 + 2]'(by omega) = y2 at hcell2
      have hst := own_sets hown (r := [(x, y, z)]) (m := 1) rfl (by omega)
      rw [rep_succ] at hst
      have hst2 : Own (((wr.setCell ⟨w.heap.size + 1, (n + k) * 3, none⟩ (.int .i64 x)).setCell ⟨w.heap.size + 1, (n + k) * 3 + 1, none⟩ (.int .i64 y)).setCell ⟨w.heap.size + 1, (n + k) * 3 + 2, none⟩ (.int .i64 z)).drew w.heap.size 27 3 ce (.slice (some ⟨w.heap.size + 1, 0, none⟩) (n + (k + 1)) (n + 3)) (l ++ List.replicate (k + 1) (x, y, z)) := hst
      have hbx : (((wr.setCell ⟨w.heap.size + 1, (n + k) * 3, none⟩ (.int .i64 x)).setCell ⟨w.heap.size + 1, (n + k) * 3 + 1, none⟩ (.int .i64 y)).setCell ⟨w.heap.size + 1, (n + k) * 3 + 2, none⟩ (.int .i64 z)).heap[w.heap.size]? = some (.cells #[.int .i64 x, .int .i64 y, .int .i64 z] 27 (0, 0)) := blk_far (blk_far (blk_far hbox (by dsimp only; omega) _) (by dsimp only; omega) _) (by dsimp only; omega) _
      have hBx : Below w.heap.size w ((((wr.setCell ⟨w.heap.size + 1, (n + k) * 3, none⟩ (.int .i64 x)).setCell ⟨w.heap.size + 1, (n + k) * 3 + 1, none⟩ (.int .i64 y)).setCell ⟨w.heap.size + 1, (n + k) * 3 + 2, none⟩ (.int .i64 z)).drew) := (((hB.setCell (by dsimp only; omega) _).setCell (by dsimp only; omega) _).setCell (by dsimp only; omega) _).drew
      have HST := Lib.hid hst2
      have HBX := Lib.hid hbx
      clear hst2 hbx
      have HZ := hB.size
      have hb0 := lt_of_block h3
      have hb1 := lt_of_block hbox
      have H3 := Lib.hid h3
      clear hst hown h3 h4
      go_wp2
      go_region
      go_wp2
      go_roundw
      case rel => exact ⟨k + 1, by omega, by go_num, HST.out, HBX.out, hBx⟩
      case measure => simp [intOf]; omega
    · obtain rfl : k = 3 := by omega
      go_wp2
      go_ret
      exact ⟨w.heap.size + 1, rfl, hown, hB⟩

set_option maxRecDepth 100000 in
set_option maxHeartbeats 2000000 in
theorem filled_edge (S n base : Nat) (l : List (Int × Int × Int)) (x y z : Int) (w : World) (h : Own w base 27 3 ce (.slice (some ⟨S, 0, none⟩) (n + 3) (n + 3)) (l ++ List.replicate 3 (x, y, z))) (hn : l.length = n) (hlen : n ≤ 1000000000) :
    Calls Try.prog 20 #[.slice (some ⟨S, 0, none⟩) n (n + 3), .agg #[.int .i64 x, .int .i64 y, .int .i64 z]] w fun e w' => e = .returned (.bool true) ∧ Below w.heap.size w w' := by
  have hcell : ∀ W, Below w.heap.size w W → ∀ k, k < 3 → W.cell? ⟨S, n * 3 + k * 3, none⟩ = some (.int .i64 x) ∧ W.cell? ⟨S, n * 3 + k * 3 + 1, none⟩ = some (.int .i64 y) ∧ W.cell? ⟨S, n * 3 + k * 3 + 2, none⟩ = some (.int .i64 z) := fun W hW k hk => by
    obtain ⟨S', c', he, _, _, _, hc⟩ := (h.keep hW).some_ (by simp)
    injection he with a _ _
    injection a with a
    injection a with a _ _
    subst a
    have hi : n + k < (l ++ List.replicate 3 (x, y, z)).length := by simp; omega
    have e : (l ++ List.replicate 3 (x, y, z))[n + k] = (x, y, z) := by rw [List.getElem_append_right (by omega), List.getElem_replicate]
    have h0 := (hc (n + k) hi 0 (by decide)).1
    have h1 := (hc (n + k) hi 1 (by decide)).1
    have h2 := (hc (n + k) hi 2 (by decide)).1
    rw [e] at h0 h1 h2
    rw [Nat.add_mul] at h0 h1 h2
    exact ⟨h0, h1, h2⟩
  have hS := (h.base_ S rfl).2
  have hbx : ∀ W, Below (w.heap.size + 1) (w.alloc (.cells #[.int .i64 x, .int .i64 y, .int .i64 z] 27)) W → W.cell? ⟨w.heap.size, 0, none⟩ = some (.int .i64 x) ∧ W.cell? ⟨w.heap.size, 1, none⟩ = some (.int .i64 y) ∧ W.cell? ⟨w.heap.size, 2, none⟩ = some (.int .i64 z) ∧ Below w.heap.size w W ∧ w.heap.size < W.heap.size := fun W hW => by
    have hb := blk_below (heap_alloc_new w (.cells #[.int .i64 x, .int .i64 y, .int .i64 z] 27)) hW (Nat.lt_succ_self _)
    have x0 := blk_cell hb 0
    have x1 := blk_cell hb 1
    have x2 := blk_cell hb 2
    simp only [List.getElem?_toArray, List.getElem?_cons_zero, List.getElem?_cons_succ] at x0 x1 x2
    have hz := hW.size
    simp at hz
    exact ⟨x0, x1, x2, ((Below.refl _ _).alloc (Nat.le_refl _) _).trans (hW.mono (Nat.le_succ _)), by omega⟩
  have HC := Lib.hid hcell
  have HB := Lib.hid hbx
  have d0 : decide (x = x) = true := by simp
  clear hcell h hn hbx
  go_enter Try.func20, Try.ntmps20
  go_wp2
  go_loopw [14] (fun i wr => ∃ k : Nat, k ≤ 3 ∧ i = .int .i64 k ∧ Below (w.heap.size + 1) (w.alloc (.cells #[.int .i64 x, .int .i64 y, .int .i64 z] 27)) wr) (fun i _ => 3 - (intOf i).toNat)
  case atStart => exact ⟨0, by omega, rfl, Below.refl _ _⟩
  case round =>
    obtain ⟨k, hk, rfl, hB⟩ := hrel
    obtain ⟨x0, x1, x2, hB0, hz⟩ := HB.out _ hB
    by_cases hlt : k < 3
    · have hk3 : (k : Int) < 3 := by omega
      obtain ⟨c0, c1, c2⟩ := HC.out _ hB0 k hlt
      have hS2 : S < wr.heap.size := by omega
      have hBx := hB.alloc (show w.heap.size + 1 ≤ wr.heap.size by omega) (.cells #[.int .i64 x, .int .i64 y, .int .i64 z] 27)
      have HBX := Lib.hid hBx
      clear hBx hB0
      go_wp2
      go_roundw
      case rel => exact ⟨k + 1, by omega, by go_num, HBX.out⟩
      case measure => simp [intOf]; omega
    · obtain rfl : k = 3 := by omega
      go_wp2
      go_ret
      exact ⟨rfl, hB0⟩

set_option maxRecDepth 100000 in
set_option maxHeartbeats 2000000 in
theorem spoil_edge (A : Option Addr) (n m c base : Nat) (l : List (Int × Int × Int)) (x y z : Int) (w : World) (h : Own w base 27 3 ce (.slice A m c) l) (hnc : n ≤ c) :
    Calls Try.prog 24 #[.slice A n c, .agg #[.int .i64 x, .int .i64 y, .int .i64 z]] w fun e w' => e = .returned (.tuple #[]) ∧ w.grownBy w' (Value.slice A m c).ownBlock := by
  rcases h.2 with ⟨h1, _⟩ | ⟨g, cap, cur, h1, _, h3, _, h5, h6, _⟩
  · injection h1 with a _ b
    subst a b
    obtain rfl : n = 0 := by omega
    clear h hnc
    go_enter Try.func24, Try.ntmps24
    go_wp2
    go_loopw [11] (fun i wr => i = .int .i64 0 ∧ wr = w.alloc (.cells #[.int .i64 x, .int .i64 y, .int .i64 z] 27)) (fun _ _ => 0)
    case atStart => exact ⟨rfl, rfl⟩
    case round =>
      obtain ⟨rfl, rfl⟩ := hrel
      go_wp2
      refine bodyPost_end (v := .tuple #[]) (by simp [results, Try.results24, go_sem]) rfl ⟨rfl, World.grownBy_alloc _ _ _⟩
  · injection h1 with a _ b
    subst a b
    have hg0 := lt_of_block h3
    have hb : ∃ cs : Array Value, (w.alloc (.cells #[.int .i64 x, .int .i64 y, .int .i64 z] 27)).heap[g]? = some (.cells cs 27 (0, 0)) ∧ cs.size = c * 3 := ⟨cur, blk_alloc h3 _, h6⟩
    have hx := heap_alloc_new w (.cells #[.int .i64 x, .int .i64 y, .int .i64 z] 27)
    have hc64 : c ≤ 9223372036854775807 := by unfold maxLen at h5; omega
    have HB := Lib.hid hb
    have HX := Lib.hid hx
    clear h h3 h6 hb h5 hx
    go_enter Try.func24, Try.ntmps24
    go_wp2
    go_loopw [11] (fun i wr => ∃ k : Nat, k ≤ c ∧ i = .int .i64 k ∧ (∃ cs : Array Value, wr.heap[g]? = some (.cells cs 27 (0, 0)) ∧ cs.size = c * 3) ∧ wr.heap[w.heap.size]? = some (.cells #[.int .i64 x, .int .i64 y, .int .i64 z] 27 (0, 0)) ∧ w.grownBy wr (some g)) (fun i _ => c - (intOf i).toNat)
    case atStart => exact ⟨0, by omega, rfl, HB.out, HX.out, World.grownBy_alloc _ _ _⟩
    case round =>
      obtain ⟨k, hk, rfl, ⟨cs, hb, hs⟩, hbox, hG⟩ := hrel
      by_cases hlt : k < c
      · have hk3 : (k : Int) < c := by omega
        have x0 := blk_cell hbox 0
        have x1 := blk_cell hbox 1
        have x2 := blk_cell hbox 2
        simp only [List.getElem?_toArray, List.getElem?_cons_zero, List.getElem?_cons_succ] at x0 x1 x2
        have hcell0 := blk_cell hb (k * 3)
        have hcell1 := blk_cell hb (k * 3 + 1)
        have hcell2 := blk_cell hb (k * 3 + 2)
        rw [Array.getElem?_eq_getElem (show k * 3 < cs.size by omega)] at hcell0
        rw [Array.getElem?_eq_getElem (show k * 3 + 1 < cs.size by omega)] at hcell1
        rw [Array.getElem?_eq_getElem (show k * 3 + 2 < cs.size by omega)] at hcell2
        have hfr0 := blk_free hb (k * 3)
        have hfr1 := blk_free hb (k * 3 + 1)
        have hfr2 := blk_free hb (k * 3 + 2)
        generalize cs[k * 3]'(by omega) = y0 at hcell0
        generalize cs[k * 3 + 1]'(by omega) = y1 at hcell1
        generalize cs[k * 3 + 2]'(by omega) = y2 at hcell2
        have hst : ∃ cs : Array Value, (((wr.setCell ⟨g, k * 3, none⟩ (.int .i64 x)).setCell ⟨g, k * 3 + 1, none⟩ (.int .i64 y)).setCell ⟨g, k * 3 + 2, none⟩ (.int .i64 z)).heap[g]? = some (.cells cs 27 (0, 0)) ∧ cs.size = c * 3 := ⟨_, blk_set (blk_set (blk_set hb _ _) _ _) _ _, by rw [Array.size_setIfInBounds, Array.size_setIfInBounds, Array.size_setIfInBounds]; exact hs⟩
        have hbx : (((wr.setCell ⟨g, k * 3, none⟩ (.int .i64 x)).setCell ⟨g, k * 3 + 1, none⟩ (.int .i64 y)).setCell ⟨g, k * 3 + 2, none⟩ (.int .i64 z)).heap[w.heap.size]? = some (.cells #[.int .i64 x, .int .i64 y, .int .i64 z] 27 (0, 0)) := blk_far (blk_far (blk_far hbox (by dsimp only; omega) _) (by dsimp only; omega) _) (by dsimp only; omega) _
        have hg2 := hG.trans (sets_grown g [.int .i64 x, .int .i64 y, .int .i64 z] (k * 3) wr)
        have hb0 := lt_of_block hb
        have hb1 := lt_of_block hbox
        have HST := Lib.hid hst
        have HBX := Lib.hid hbx
        have HG := Lib.hid hg2
        clear hst hg2 hG hb hs hbox hbx
        go_wp2
        go_roundw
        case rel => exact ⟨k + 1, by omega, by go_num, HST.out, HBX.out, HG.out⟩
        case measure => simp [intOf]; omega
      · obtain rfl : k = c := by omega
        clear hb hs hbox
        go_wp2
        refine bodyPost_end (v := .tuple #[]) (by simp [results, Try.results24, go_sem]) rfl ⟨rfl, hG⟩
end Go.Proofs.Ytlcgkbkmfelcfaa.Room
