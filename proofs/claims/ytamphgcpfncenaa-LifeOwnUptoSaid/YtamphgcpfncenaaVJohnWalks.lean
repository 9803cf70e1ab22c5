/- The walks of net.Copy, john.flat, john.Flat. -/
import Derived.Test.YtamphgcpfncenaaVNetTurn
import Derived.Test.YtamphgcpfncenaaVJohnLaw
import Derived.Test.YtamphgcpfncenaaVRowSet
import Derived.BigRegion
import Derived.BigQuiet
import Derived.Deep.RegionHeld3
namespace Go.Proofs.Ytamphgcpfncenaa.John
open Go.RowKit Go.Proofs.Ytamphgcpfncenaa NetLaw JohnLaw Go.Proofs.Ytamphgcpfncenaa.Net
set_option linter.unusedSimpArgs false
set_option linter.unusedVariables false

set_option maxRecDepth 100000 in
set_option maxHeartbeats 2000000 in
theorem copy_any (N : Int) (A : Option Addr) (c : Nat) (l : List E) (w : World) (hl : Sl w w.heap.size 3 ce A l) (hA : A = none → l.length = 0 ∧ c = 0) (hlen : l.length ≤ 600) :
    Calls Try.prog 53 #[.agg #[.int .i64 N, .slice A l.length c]] w fun e w' => SomeNet N l w e w' := by
  obtain ⟨i0, hi, hz0, hz1, hz2⟩ := info_parts infoEdge
  obtain ⟨w0, hw0⟩ : ∃ w0, w0 = (w.alloc (.cells #[.int .i64 N, .slice A l.length c] 24)).alloc (.cells #[.int .i64 0, .slice none 0 0] 24) := ⟨_, rfl⟩
  have hb0 : Below w.heap.size w w0 := by rw [hw0]; exact ((Below.refl _ _).alloc (Nat.le_refl _) _).alloc (by simp) _
  have hz : w0.heap.size = w.heap.size + 2 := by rw [hw0]; simp
  have q0 : w0.cell? ⟨w.heap.size, 0, none⟩ = some (.int .i64 N) := by rw [hw0]; simp [go_sem]
  have q1 : w0.cell? ⟨w.heap.size, 1, none⟩ = some (.slice A l.length c) := by rw [hw0]; simp [go_sem]
  have r2 : w0.heap[w.heap.size + 1]? = some (.cells #[.int .i64 0, .slice none 0 0] 24 (0, 0)) := by rw [hw0]; have := heap_alloc_new (w.alloc (.cells #[.int .i64 N, .slice A l.length c] 24)) (.cells #[.int .i64 0, .slice none 0 0] 24); simp at this ⊢; exact this
  have r0 := blk_cell r2 0
  have r1 := blk_cell r2 1
  have f0 := blk_free r2 0
  have f1 := blk_free r2 1
  simp only [List.getElem?_toArray, List.getElem?_cons_zero, List.getElem?_cons_succ] at r0 r1
  have hs0 := hl.keep hb0 (Nat.le_refl _)
  have HA := Lib.hid hA
  have HW := Lib.hid hw0
  have hzz : w.heap.size + 1 < w0.heap.size := by omega
  have hzz0 : w.heap.size < w0.heap.size := by omega
  clear hA hl
  go_enter Try.func53, Try.ntmps53
  go_wp2
  rw [← hw0]
  clear hw0
  go_region_law (first
      | (refine step_pushAll _ rfl (.const (.slice none 0 0)) (.tmp 6) _ rfl w0.heap.size 27 i0 _ 3 24 ce Try.underlying22 hi hz0 hz1 hz2 rfl (by decide) _ [] 0 rfl rfl Own.nil_ w.heap.size A l.length c l rfl rfl HA.out (by first | exact hs0 | exact hs0.keep (below_drewN (Below.refl _ _) 1) (Nat.le_refl _) | exact hs0.keep (below_drewN (Below.refl _ _) 2) (Nat.le_refl _)) one_ce (by omega) (by omega) (Nat.le_refl _) ?_
         intro A3 c3 w3 hown3 hgrow3 hat3
         simp only [Nat.zero_add, List.nil_append] at hown3
         have hB3 : Below w0.heap.size w0 w3 := by (first | exact (Below.refl _ _).grown hgrow3 (Nat.le_refl _) (fun k hk => by cases hk) | exact (below_drewN (Below.refl _ _) 1).grown hgrow3 (Nat.le_refl _) (fun k hk => by cases hk) | exact (below_drewN (Below.refl _ _) 2).grown hgrow3 (Nat.le_refl _) (fun k hk => by cases hk))
         have p0 := ((keepAt hB3 hzz0).1 0).trans q0
         have p1 := ((keepAt hB3 hzz0).1 1).trans q1
         have p2 := ((keepAt hB3 hzz).1 0).trans r0
         have p3 := ((keepAt hB3 hzz).1 1).trans r1
         have p4 := ((keepAt hB3 hzz).2 0).trans f0
         have p5 := ((keepAt hB3 hzz).2 1).trans f1
         clear hgrow3))
  all_goals
    go_wp2
    have hne := hown3.ne_ ((hB3.block _ hzz).trans r2) (by decide)
    refine bodyPost_ret (v := .agg #[.int .i64 N, .slice A3 l.length c3]) (by simp [results, Try.results53, go_sem, p0, p1, p2, p3]) rfl ⟨A3, c3, rfl, ?_, ?_⟩
    · exact (((hown3.mono (by omega)).setCell hne _).setCell hne _)
    · exact ((hb0.trans (hB3.mono (by omega))).setCell (by dsimp only; omega) _).setCell (by dsimp only; omega) _

/-- the first k edges with heights -/
def lk (h : List Int) (l : List E) (k : Nat) : List E := flt h (l.take k) ++ l.drop k
theorem lk_len (h : List Int) (l : List E) (k : Nat) : (lk h l k).length = l.length := by simp [lk, flt]; omega
theorem lk_zero (h : List Int) (l : List E) : lk h l 0 = l := by simp [lk, flt]
theorem lk_all (h : List Int) (l : List E) : lk h l l.length = flt h l := by simp [lk]
theorem lk_get (h : List Int) (l : List E) (k : Nat) (hk : k < l.length) (hk' : k < (lk h l k).length) : (lk h l k)[k] = l[k] := by
  have e : (lk h l k)[k]? = some l[k] := by
    unfold lk
    rw [List.getElem?_append_right (by simp [flt]; omega)]
    simp [flt, Nat.min_eq_left (Nat.le_of_lt hk), hk]
  exact Option.some.inj ((List.getElem?_eq_getElem hk').symm.trans e)
theorem lk_set (h : List Int) (l : List E) (k : Nat) (hk : k < l.length) : (lk h l k).set k (flc h l[k]) = lk h l (k + 1) := by
  unfold lk
  have e : (flt h (l.take k)).length = k := by simp [flt]; omega
  rw [List.set_append_right _ _ (by omega), e, Nat.sub_self, List.drop_eq_getElem_cons hk, List.set_cons_zero, List.take_succ_eq_append_getElem hk, flt, flt, List.map_append, List.append_assoc]
  rfl

/-- what Flat answers -/
def FlatSays (N : Int) (l : List E) (h : List Int) (w : World) (e : Ending) (w' : World) : Prop :=
  (ferr N l h ≠ 0 → e = .returned (.tuple #[.agg #[.int .i64 0, .slice none 0 0], .int .i64 (ferr N l h)])) ∧
  (ferr N l h = 0 → ∃ A c, e = .returned (.tuple #[.agg #[.int .i64 N, .slice A l.length c], .int .i64 0]) ∧ Own w' w.heap.size 27 3 ce (.slice A l.length c) (flt h l)) ∧ Below w.heap.size w w'
theorem FlatSays.no {N : Int} {l : List E} {h : List Int} {w w' : World} {e : Ending} {x : Int} (hx : ferr N l h = x) (h0 : x ≠ 0) (he : e = .returned (.tuple #[.agg #[.int .i64 0, .slice none 0 0], .int .i64 x])) (hb : Below w.heap.size w w') : FlatSays N l h w e w' :=
  ⟨fun _ => by rw [hx]; exact he, fun h => absurd (hx.symm.trans h) h0, hb⟩

end Go.Proofs.Ytamphgcpfncenaa.John
