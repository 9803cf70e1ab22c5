/- The walks of net.Turned and net.Turn. -/
import Derived.Test.YtamphgcpfncenaaVNetWalks
namespace Go.Proofs.Ytamphgcpfncenaa.Net
open Go.RowKit Go.Proofs.Ytamphgcpfncenaa NetLaw
set_option linter.unusedSimpArgs false
set_option linter.unusedVariables false

theorem blk_set {w : World} {g : Nat} {t : TypeId} {cs : Array Value} (h : w.heap[g]? = some (.cells cs t (0, 0))) (i : Nat) (u : Value) : (w.setCell ⟨g, i, none⟩ u).heap[g]? = some (.cells (cs.setIfInBounds i u) t (0, 0)) := by
  simp [World.setCell, Array.getElem?_modify, h]
theorem blk_cell {w : World} {g : Nat} {t : TypeId} {cs : Array Value} (h : w.heap[g]? = some (.cells cs t (0, 0))) (i : Nat) : w.cell? ⟨g, i, none⟩ = cs[i]? := cell_of_row w g i cs t (0, 0) h
theorem blk_free {w : World} {g : Nat} {t : TypeId} {cs : Array Value} (h : w.heap[g]? = some (.cells cs t (0, 0))) (i : Nat) : w.frozen? ⟨g, i, none⟩ = false := by simp [World.frozen?, h]

theorem blk_alloc {w : World} {g : Nat} {o : Obj} (h : w.heap[g]? = some o) (o' : Obj) : (w.alloc o').heap[g]? = some o := (Below.heap_alloc _ _ _ (lt_of_block h)).trans h
theorem blk_grown {w w1 : World} {g : Nat} {o : Obj} {row : Option Nat} (h : w.heap[g]? = some o) (hg : w.grownBy w1 row) (hne : row ≠ some g) : w1.heap[g]? = some o := (hg.block g (lt_of_block h) (fun e => hne e.symm)).trans h
theorem blk_far {w : World} {g : Nat} {o : Obj} (h : w.heap[g]? = some o) {p : Addr} (hne : g ≠ p.block) (u : Value) : (w.setCell p u).heap[g]? = some o := (Below.heap_setCell _ _ _ _ hne).trans h
theorem blk_below {w w1 : World} {g B : Nat} {o : Obj} (h : w.heap[g]? = some o) (hb : Below B w w1) (hB : g < B) : w1.heap[g]? = some o := (hb.block g hB).trans h
theorem news3' {w : World} {e : TypeId} {x y z : Int} {g : Nat} (hg : w.heap.size = g) : ∀ j, j < 3 → (w.alloc (.cells #[.int .i64 x, .int .i64 y, .int .i64 z] e)).cell? ⟨g, j, none⟩ = some (ce (x, y, z) j) := by
  subst hg
  exact news3
/-- the edges turned -/
def tl (l : List E) : List E := l.map fun e => (e.2.1, e.1, e.2.2)
theorem tl_len (l : List E) : (tl l).length = l.length := by simp [tl]
theorem tl_succ {l : List E} {k : Nat} (h : k < l.length) {f t c : Int} (he : l[k] = (f, t, c)) : tl (l.take (k + 1)) = tl (l.take k) ++ [(t, f, c)] := by
  rw [List.take_succ_eq_append_getElem h, he]
  simp [tl]
theorem infoEdge : (Try.prog.info? 27).map (fun i => (i.zero, i.size, i.bytes)) = some (some (.agg #[.int .i64 0, .int .i64 0, .int .i64 0]), 3, 24) := by kernel_rfl
/-- a net that a call answers, its edges the call's own -/
def SomeNet (N : Int) (l : List E) (w : World) (e : Ending) (w' : World) : Prop :=
  ∃ A c, e = .returned (.agg #[.int .i64 N, .slice A l.length c]) ∧ Own w' w.heap.size 27 3 ce (.slice A l.length c) l ∧ Below w.heap.size w w'

set_option maxRecDepth 100000 in
set_option maxHeartbeats 2000000 in
theorem turned_any (N : Int) (A : Option Addr) (c : Nat) (l : List E) (w : World) (hl : Sl w w.heap.size 3 ce A l) (hlen : l.length ≤ 1000000) :
    Calls Try.prog 57 #[.agg #[.int .i64 N, .slice A l.length c]] w fun e w' => SomeNet N (tl l) w e w' := by
  obtain ⟨i0, hi, hz0, hz1, hz2⟩ := info_parts infoEdge
  go_enter Try.func57, Try.ntmps57
  go_wp2
  go_loopw [12] (fun i wr => ∃ (k : Nat) (A' : Option Addr) (c' : Nat), k ≤ l.length ∧ i = .int .i64 k ∧ wr.heap[w.heap.size + 1 + 1]? = some (.cells #[.int .i64 N, .slice A' k c'] 24 (0, 0)) ∧ (∃ cs, wr.heap[w.heap.size + 1]? = some (.cells cs 24 (0, 0)) ∧ cs.size = 2) ∧
      Own wr w.heap.size 27 3 ce (.slice A' k c') (tl (l.take k)) ∧ Below w.heap.size w wr) (fun i _ => l.length - (intOf i).toNat)
  case atStart => exact ⟨0, none, 0, Nat.zero_le _, rfl, by have h := heap_alloc_new ((w.alloc (.cells #[.int .i64 N, .slice A l.length c] 24)).alloc (.cells #[.int .i64 0, .slice none 0 0] 24)) (.cells #[.int .i64 N, .slice none 0 0] 24); simp at h ⊢; exact h,
    ⟨#[.int .i64 0, .slice none 0 0], by have h := heap_alloc_new (w.alloc (.cells #[.int .i64 N, .slice A l.length c] 24)) (.cells #[.int .i64 0, .slice none 0 0] 24); have h2 := blk_alloc h (.cells #[.int .i64 N, .slice none 0 0] 24); simp at h2 ⊢; exact h2, rfl⟩, Own.nil_, (((Below.refl _ _).alloc (Nat.le_refl _) _).alloc (by simp) _).alloc (by simp; omega) _⟩
  case round =>
    obtain ⟨k, A', c', hk, rfl, hO, ⟨cs, hR, hcs⟩, hown, hB⟩ := hrel
    have hO0 := blk_cell hO 0
    have hO1 := blk_cell hO 1
    have hOz := lt_of_block hO
    simp only [List.getElem?_toArray, List.getElem?_cons_zero, List.getElem?_cons_succ] at hO0 hO1
    have HCS := Lib.hid hcs
    clear hcs
    by_cases hlt : k < l.length
    · obtain ⟨b, off, f, t, cc, rfl, hbB, he, hcf, hct, hcc⟩ := (hl.keep hB (Nat.le_refl _)).atE hlt
      have hst := tl_succ hlt he
      have hln : (tl (l.take k)).length = k := by rw [tl_len, List.length_take]; omega
      have HST := Lib.hid hst
      have HLN := Lib.hid hln
      clear hst hln he
      go_wp2_with (at_builtin; refine wpList_push _ rfl (.tmp 17) (.tmp 25) _ rfl w.heap.size 27 i0 _ 3 24 ce Try.underlying22 hi hz0 hz1 hz2 rfl (by decide) _ (tl (l.take k)) k HLN.out rfl ((hown.alloc _).alloc _) (wr.heap.size + 1) 1 (t, f, cc) rfl (news3' (by simp)) (fun _ _ => one_ce _ _) (by omega) (by omega) (by have := hB.size; simp; omega) ?_; intro A3 c3 w3 hown3 hgrow3 hat3; have hO3 := blk_grown (blk_alloc (blk_alloc hO _) _) hgrow3 (hown.ne_ hO (by decide)); have hR3 := blk_grown (blk_alloc (blk_alloc hR _) _) hgrow3 (hown.ne_ hR (by decide)); have hc3 := blk_cell hO3 1; have hf3 := blk_free hO3 1; simp only [List.getElem?_toArray, List.getElem?_cons_zero, List.getElem?_cons_succ] at hc3; clear hO0 hO1 hO hR)
      have hB3 : Below w.heap.size w w3 := ((hB.alloc hB.size _).alloc (by have := hB.size; simp; omega) _).grown hgrow3 (by have := hB.size; simp; omega) hown.lo
      clear hgrow3
      go_roundw
      case rel =>
        refine ⟨k + 1, A3, c3, by omega, by go_num, blk_set hO3 1 _, ⟨cs, blk_far hR3 (by dsimp only; omega) _, HCS.out⟩, ?_, hB3.setCell (by dsimp only; omega) _⟩
        rw [HST.out]
        exact hown3.setCell (hown3.ne_ hO3 (by decide)) _
      case measure => simp [intOf]; omega
    · obtain rfl : k = l.length := by omega
      have hc0 := blk_cell hR 0
      have hc1 := blk_cell hR 1
      have hf0 := blk_free hR 0
      have hf1 := blk_free hR 1
      obtain ⟨x0, x1, rfl⟩ : ∃ x0 x1, cs = #[x0, x1] := by
        obtain ⟨cl⟩ := cs
        match cl, HCS.out with
        | [x0, x1], _ => exact ⟨x0, x1, rfl⟩
      simp only [List.getElem?_toArray, List.getElem?_cons_zero, List.getElem?_cons_succ] at hc0 hc1
      have hown2 : Own wr w.heap.size 27 3 ce (.slice A' l.length c') (tl l) := by rw [List.take_length] at hown; exact hown
      clear HCS hown hl
      go_wp2
      refine bodyPost_ret (v := .agg #[.int .i64 N, .slice A' l.length c']) (by simp [results, Try.results57, go_sem, hc0, hc1, hO0, hO1]) rfl ⟨A', c', by rw [tl_len], ?_, ?_⟩
      · rw [tl_len]
        have hne := hown2.ne_ hR (by decide)
        exact (hown2.setCell hne _).setCell hne _
      · exact (hB.setCell (by dsimp only; omega) _).setCell (by dsimp only; omega) _

/-- what Turn answers of a right net -/
def SomeTurn (N : Int) (l : List E) (w : World) (e : Ending) (w' : World) : Prop :=
  ∃ A c, e = .returned (.tuple #[.agg #[.int .i64 N, .slice A l.length c], .int .i64 0]) ∧ Own w' w.heap.size 27 3 ce (.slice A l.length c) l ∧ Below w.heap.size w w'

end Go.Proofs.Ytamphgcpfncenaa.Net
