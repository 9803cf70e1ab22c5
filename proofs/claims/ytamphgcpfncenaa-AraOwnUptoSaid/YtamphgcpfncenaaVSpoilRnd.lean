/- The walk of spoil, at Round. -/
import Derived.Test.YtamphgcpfncenaaVSpoilRat
import Derived.Test.YtamphgcpfncenaaVAraKey
import Derived.BigRegion
namespace Go.Proofs.Ytamphgcpfncenaa.Room
open Go.RowKit Go.Proofs.Ytamphgcpfncenaa Go.Proofs.Ytamphgcpfncenaa.Net Go.Proofs.Ytamphgcpfncenaa.Std
set_option linter.unusedSimpArgs false
set_option linter.unusedVariables false
set_option maxRecDepth 100000 in
set_option maxHeartbeats 4000000 in
theorem spoil_round (A : Option Addr) (n m c base : Nat) (l : List Ara.RE) (w : World) (h : Own w base 69 5 Ara.cr (.slice A m c) l) (hnc : n ≤ c) :
    Calls Try.prog 48 #[.slice A n c, .agg #[.int .i64 0, .int .i64 0, .slice none 0 0, .int .i64 0, .int .i64 0]] w fun e w' => e = .returned (.tuple #[]) ∧ w.grownBy w' (Value.slice A m c).ownBlock := by
  rcases h.2 with ⟨h1, _⟩ | ⟨g, cap, cur, h1, _, h3, _, h5, h6, _⟩
  · injection h1 with a _ b
    subst a b
    obtain rfl : n = 0 := by omega
    clear h hnc
    go_enter Try.func48, Try.ntmps48
    go_wp2
    go_loopw [11] (fun i wr => i = .int .i64 0 ∧ wr = w.alloc (.cells #[.int .i64 0, .int .i64 0, .slice none 0 0, .int .i64 0, .int .i64 0] 69)) (fun _ _ => 0)
    case atStart => exact ⟨rfl, rfl⟩
    case round =>
      obtain ⟨rfl, rfl⟩ := hrel
      go_wp2
      refine bodyPost_end (v := .tuple #[]) (by simp [results, Try.results48, go_sem]) rfl ⟨rfl, World.grownBy_alloc _ _ _⟩
  · injection h1 with a _ b
    subst a b
    have hg0 := lt_of_block h3
    have hb : ∃ cs : Array Value, (w.alloc (.cells #[.int .i64 0, .int .i64 0, .slice none 0 0, .int .i64 0, .int .i64 0] 69)).heap[g]? = some (.cells cs 69 (0, 0)) ∧ cs.size = c * 5 := ⟨cur, blk_alloc h3 _, h6⟩
    have hx := heap_alloc_new w (.cells #[.int .i64 0, .int .i64 0, .slice none 0 0, .int .i64 0, .int .i64 0] 69)
    have hc64 : c ≤ 9223372036854775807 := by unfold maxLen at h5; omega
    have HB := Lib.hid hb
    have HX := Lib.hid hx
    clear h h3 h6 hb h5 hx
    go_enter Try.func48, Try.ntmps48
    go_wp2
    go_loopw [11] (fun i wr => ∃ k : Nat, k ≤ c ∧ i = .int .i64 k ∧ (∃ cs : Array Value, wr.heap[g]? = some (.cells cs 69 (0, 0)) ∧ cs.size = c * 5) ∧ wr.heap[w.heap.size]? = some (.cells #[.int .i64 0, .int .i64 0, .slice none 0 0, .int .i64 0, .int .i64 0] 69 (0, 0)) ∧ w.grownBy wr (some g)) (fun i _ => c - (intOf i).toNat)
    case atStart => exact ⟨0, by omega, rfl, HB.out, HX.out, World.grownBy_alloc _ _ _⟩
    case round =>
      obtain ⟨k, hk, rfl, ⟨cs, hb, hs⟩, hbox, hG⟩ := hrel
      by_cases hlt : k < c
      · have hk3 : (k : Int) < c := by omega
        have x0 := blk_cell hbox 0
        have x1 := blk_cell hbox 1
        have x2 := blk_cell hbox 2
        have x3 := blk_cell hbox 3
        have x4 := blk_cell hbox 4
        simp only [List.getElem?_toArray, List.getElem?_cons_zero, List.getElem?_cons_succ] at x0 x1 x2 x3 x4
        have hcell0 := blk_cell hb (k * 5)
        rw [Array.getElem?_eq_getElem (show k * 5 < cs.size by omega)] at hcell0
        have hfr0 := blk_free hb (k * 5)
        have hcell1 := blk_cell hb (k * 5 + 1)
        rw [Array.getElem?_eq_getElem (show k * 5 + 1 < cs.size by omega)] at hcell1
        have hfr1 := blk_free hb (k * 5 + 1)
        have hcell2 := blk_cell hb (k * 5 + 2)
        rw [Array.getElem?_eq_getElem (show k * 5 + 2 < cs.size by omega)] at hcell2
        have hfr2 := blk_free hb (k * 5 + 2)
        have hcell3 := blk_cell hb (k * 5 + 3)
        rw [Array.getElem?_eq_getElem (show k * 5 + 3 < cs.size by omega)] at hcell3
        have hfr3 := blk_free hb (k * 5 + 3)
        have hcell4 := blk_cell hb (k * 5 + 4)
        rw [Array.getElem?_eq_getElem (show k * 5 + 4 < cs.size by omega)] at hcell4
        have hfr4 := blk_free hb (k * 5 + 4)
        generalize cs[k * 5]'(by omega) = y0 at hcell0
        generalize cs[k * 5 + 1]'(by omega) = y1 at hcell1
        generalize cs[k * 5 + 2]'(by omega) = y2 at hcell2
        generalize cs[k * 5 + 3]'(by omega) = y3 at hcell3
        generalize cs[k * 5 + 4]'(by omega) = y4 at hcell4
        have hst : ∃ cs : Array Value, (((((wr.setCell ⟨g, k * 5, none⟩ (.int .i64 0)).setCell ⟨g, k * 5 + 1, none⟩ (.int .i64 0)).setCell ⟨g, k * 5 + 2, none⟩ (.slice none 0 0)).setCell ⟨g, k * 5 + 3, none⟩ (.int .i64 0)).setCell ⟨g, k * 5 + 4, none⟩ (.int .i64 0)).heap[g]? = some (.cells cs 69 (0, 0)) ∧ cs.size = c * 5 := ⟨_, (blk_set (blk_set (blk_set (blk_set (blk_set hb _ _) _ _) _ _) _ _) _ _), by simp only [Array.size_setIfInBounds]; exact hs⟩
        have hbx : (((((wr.setCell ⟨g, k * 5, none⟩ (.int .i64 0)).setCell ⟨g, k * 5 + 1, none⟩ (.int .i64 0)).setCell ⟨g, k * 5 + 2, none⟩ (.slice none 0 0)).setCell ⟨g, k * 5 + 3, none⟩ (.int .i64 0)).setCell ⟨g, k * 5 + 4, none⟩ (.int .i64 0)).heap[w.heap.size]? = some (.cells #[.int .i64 0, .int .i64 0, .slice none 0 0, .int .i64 0, .int .i64 0] 69 (0, 0)) := (blk_far (blk_far (blk_far (blk_far (blk_far hbox (by dsimp only; omega) _) (by dsimp only; omega) _) (by dsimp only; omega) _) (by dsimp only; omega) _) (by dsimp only; omega) _)
        have hg2 := hG.trans (sets_grown g [.int .i64 0, .int .i64 0, .slice none 0 0, .int .i64 0, .int .i64 0] (k * 5) wr)
        have hb0 := lt_of_block hb
        have hb1 := lt_of_block hbox
        have HST := Lib.hid hst
        have HBX := Lib.hid hbx
        have HG := Lib.hid hg2
        clear hst hg2 hG hb hs hbox hbx
        go_wp2
        go_roundw
        case rel => exact ⟨k + 1, by omega, by go_num, HST.out, HBX.out, HG.out⟩
        case measure => simp [intOf]; omega
      · obtain rfl : k = c := by omega
        clear hb hs hbox
        go_wp2
        refine bodyPost_end (v := .tuple #[]) (by simp [results, Try.results48, go_sem]) rfl ⟨rfl, hG⟩
end Go.Proofs.Ytamphgcpfncenaa.Room
