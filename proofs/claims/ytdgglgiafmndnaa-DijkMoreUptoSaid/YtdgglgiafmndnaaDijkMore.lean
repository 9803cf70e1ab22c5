/- For every net, place and edge: DijkMore answers true (an edge more never makes it dearer, and where it does make it cheaper it goes over that edge), and the arguments read as before. Condition: the form's bound on the list's length. -/
import Derived.Test.YtdgglgiafmndnaaRows
import Derived.Test.YtdgglgiafmndnaaOpen
import Derived.Test.YtdgglgiafmndnaaDijkWalks
import Derived.Test.YtdgglgiafmndnaaDijkTwo
import Derived.Test.YtdgglgiafmndnaaDijkMoreLaw
import Derived.Test.YtdgglgiafmndnaaStdCE
import Derived.Test.YtdgglgiafmndnaaRefs
import Derived.Test.YtdgglgiafmndnaaBulk
import Derived.BigRegion
import Derived.BigQuiet
import Derived.Deep.CutRange
import Derived.Deep.RegionHeld3
namespace Go.Proofs.Ytdgglgiafmndnaa.DijkMoreLaw
open Go.ChangeShapes Go.WideShapes Go.ChangeAt Go.RowKit Go.Proofs.Ytdgglgiafmndnaa NetLaw BellLaw DijkLaw DijkMorePlain Go.Proofs.Ytdgglgiafmndnaa.DijkTwo Go.Proofs.Ytdgglgiafmndnaa.Net Go.Proofs.Ytdgglgiafmndnaa.Dijk Go.Proofs.Ytdgglgiafmndnaa.Refs Go.Proofs.Ytdgglgiafmndnaa.Std
set_option linter.unusedSimpArgs false
set_option linter.unusedVariables false

open Go.ChangeShapes Go.WideShapes Go.Joins Go.Deep in
/-- a struct of three ints by value, opened -/
theorem open_iii {H : Type} {enc : TypeId × Value → H} {P : Program} {w : World} {base : Nat} {spare : Nat → Bool} {held : Bool} {r : Reach} {b0 : Nat} {t : TypeId} {f0 f1 f2 : Field} {v : Value} {d : DataW H} {p : List MemPlace}
    (hs : P.underlying t = some (.struct #[f0, f1, f2])) (hone : oneCellFields P #[f0, f1, f2] = true) (hC : P.cellsOf t = 3) (h0 : P.underlying f0.type = some (.int .i64)) (h1 : P.underlying f1.type = some (.int .i64)) (h2 : P.underlying f2.type = some (.int .i64))
    (hv : Value.okWide P w r b0 t v) (h : DataW.Trod enc P w base spare held t v d p) :
    ∃ a b c : Int, v = .agg #[.int .i64 a, .int .i64 b, .int .i64 c] ∧ d = .agg [.lit (.int .i64 a), .lit (.int .i64 b), .lit (.int .i64 c)] ∧ p = [] ∧ (-9223372036854775808 ≤ a ∧ a ≤ 9223372036854775807) ∧ (-9223372036854775808 ≤ b ∧ b ≤ 9223372036854775807) ∧ (-9223372036854775808 ≤ c ∧ c ≤ 9223372036854775807) := by
  obtain ⟨c0, c1, c2, y0, y1, y2, m, rfl, rfl, rfl, hy0, hy1, hy2⟩ := open_agg3 hs hone hC hv h
  obtain ⟨a, e0, rfl, wa⟩ := DataW.trod_int h0 hy0
  obtain ⟨b, e1, rfl, wb⟩ := DataW.trod_int h1 hy1
  obtain ⟨c, e2, rfl, wc⟩ := DataW.trod_int h2 hy2
  simp at e0 e1 e2
  subst e0 e1 e2
  exact ⟨a, b, c, rfl, rfl, rfl, wf_bd wa, wf_bd wb, wf_bd wc⟩

theorem first_look : Dijk.look 2 [(0, 1, 5)] [0] = 0 := by decide +kernel

theorem cut_set {w3 w4 : World} {g B n c4 : Nat} {N : Int} {A4 : Option Addr} {l : List E} {tn te : TypeId} {z0 z1 : Value} (m4 : w4.heap[g]? = some (.cells #[z0, z1] tn (0, 0))) (ho : Own w4 B te 3 ce (.slice A4 n c4) l) (hne : te ≠ tn) (hB : Below B w3 w4) (hg : B ≤ g) :
    ∃ (X : Nat) (A5 : Option Addr) (c5 : Nat), Value.pointer (some ⟨g, 0, none⟩) = .pointer (some ⟨X, 0, none⟩) ∧ ((w4.setCell ⟨g, 0, none⟩ (.int .i64 N)).setCell ⟨g, 1, none⟩ (.slice A4 n c4)).cell? ⟨X, 0, none⟩ = some (.int .i64 N) ∧ ((w4.setCell ⟨g, 0, none⟩ (.int .i64 N)).setCell ⟨g, 1, none⟩ (.slice A4 n c4)).cell? ⟨X, 1, none⟩ = some (.slice A5 n c5) ∧ Own ((w4.setCell ⟨g, 0, none⟩ (.int .i64 N)).setCell ⟨g, 1, none⟩ (.slice A4 n c4)) B te 3 ce (.slice A5 n c5) l ∧ Below B w3 ((w4.setCell ⟨g, 0, none⟩ (.int .i64 N)).setCell ⟨g, 1, none⟩ (.slice A4 n c4)) ∧ B ≤ X ∧ X < ((w4.setCell ⟨g, 0, none⟩ (.int .i64 N)).setCell ⟨g, 1, none⟩ (.slice A4 n c4)).heap.size := by
  have m0 : w4.cell? ⟨g, 0, none⟩ = some z0 := blk_cell m4 0
  have m1 : w4.cell? ⟨g, 1, none⟩ = some z1 := blk_cell m4 1
  have hlt : g < w4.heap.size := lt_of_block m4
  have ne : (.slice A4 n c4 : Value).ownBlock ≠ some g := ho.ne_ m4 hne
  refine ⟨g, A4, c4, rfl, ?_, ?_, (ho.setCell ne _).setCell ne _, (hB.setCell hg _).setCell hg _, hg, by simpa using hlt⟩
  · rw [World.cell?_setCell_other _ _ _ _ (by simp)]
    exact World.cell?_setCell_same _ _ _ m0
  · exact World.cell?_setCell_same _ _ _ ((World.cell?_setCell_other _ _ ⟨g, 1, none⟩ _ (by simp)).trans m1)
theorem cut_alloc {w3 w4 : World} {B n c4 : Nat} {N : Int} {A4 : Option Addr} {l : List E} {tn te : TypeId} (ho : Own w4 B te 3 ce (.slice A4 n c4) l) (hB : Below B w3 w4) (hg : B ≤ w4.heap.size) :
    ∃ (X : Nat) (A5 : Option Addr) (c5 : Nat), Value.pointer (some ⟨w4.heap.size, 0, none⟩) = .pointer (some ⟨X, 0, none⟩) ∧ (w4.alloc (.cells #[.int .i64 N, .slice A4 n c4] tn)).cell? ⟨X, 0, none⟩ = some (.int .i64 N) ∧ (w4.alloc (.cells #[.int .i64 N, .slice A4 n c4] tn)).cell? ⟨X, 1, none⟩ = some (.slice A5 n c5) ∧ Own (w4.alloc (.cells #[.int .i64 N, .slice A4 n c4] tn)) B te 3 ce (.slice A5 n c5) l ∧ Below B w3 (w4.alloc (.cells #[.int .i64 N, .slice A4 n c4] tn)) ∧ B ≤ X ∧ X < (w4.alloc (.cells #[.int .i64 N, .slice A4 n c4] tn)).heap.size :=
  ⟨w4.heap.size, A4, c4, rfl, blk_cell (heap_alloc_new w4 _) 0, blk_cell (heap_alloc_new w4 _) 1, ho.alloc _, hB.alloc hg _, hg, by simp⟩

theorem dist_some (N : Int) (A : Option Addr) (c : Nat) (l : List E) (fr : Int) (hll : l.length ≤ 9223372036854775807) (W : World) (h : Sl W W.heap.size 3 ce A l) :
    Calls Try.prog 50 #[.agg #[.int .i64 N, .slice A l.length c], .int .i64 fr] W fun e w' => ∃ V z, e = .returned (.tuple #[V, .int .i64 z]) ∧ Below W.heap.size W w' := by
  refine (Dijk.dist_any N A c l fr W h hll).mono ?_
  rintro e w' ⟨k1, k2, k3⟩
  by_cases hk : Dijk.look N l [fr] = 0
  · obtain ⟨S, D, k4, k5, k6⟩ := k2 hk
    exact ⟨_, _, k4, k3⟩
  · exact ⟨_, _, k1 hk, k3⟩

theorem look_turn {N : Int} {l : List E} {a b : Int} (h : Dijk.look N l [a] = 0) (b0 : 0 ≤ b) (b1 : b < N) : Dijk.look N l [b] = 0 := by
  unfold Dijk.look at h ⊢
  split at h
  · rename_i h1; exact absurd h h1
  · rename_i h1
    rw [if_neg h1]
    simp only [Dijk.lookE]
    rw [if_neg (by omega)]

set_option maxRecDepth 100000 in
set_option maxHeartbeats 4000000 in
theorem walk (w : World) (N : Int) (A : Option Addr) (c : Nat) (l : List E) (hA : Arg w 3 ce A c l) (fr : Int) (hfr : -9223372036854775808 ≤ fr ∧ fr ≤ 9223372036854775807) (x1 x2 x3 : Int) (hx1 : -9223372036854775808 ≤ x1 ∧ x1 ≤ 9223372036854775807) (hx2 : -9223372036854775808 ≤ x2 ∧ x2 ≤ 9223372036854775807) (hx3 : -9223372036854775808 ≤ x3 ∧ x3 ≤ 9223372036854775807) (hbulk : l.length ≤ 1048576) :
    Calls Try.prog 14 #[.agg #[.int .i64 N, .slice A l.length c], .int .i64 fr, .agg #[.int .i64 x1, .int .i64 x2, .int .i64 x3]] w fun e w' => e = .returned (.bool true) ∧ Below w.heap.size w w' := by
  obtain ⟨i0, hi, hz0, hz1, hz2⟩ := info_parts infoEdge
  have hs := hA.sl
  have hnil := hA.nil
  clear hA
  have hw0 : Below w.heap.size w ((w.alloc (.cells #[.int .i64 N, .slice A l.length c] 24)).alloc (.cells #[.int .i64 x1, .int .i64 x2, .int .i64 x3] 35)) := ((Below.refl _ _).alloc (Nat.le_refl _) _).alloc (by simp) _
  have key0 : ∀ (W : World) (g : Nat), Sl W W.heap.size 3 ce (some ⟨g, 0, none⟩) [(0, 1, 5)] → Calls Try.prog 50 #[.agg #[.int .i64 2, .slice (some ⟨g, 0, none⟩) 1 1], .int .i64 0] W fun e w' => ∃ S, e = .returned (.tuple #[.slice (some ⟨S, 0, none⟩) 2 2, .int .i64 0]) ∧ Below W.heap.size W w' := fun W g h => by
    refine (Dijk.dist_any 2 (some ⟨g, 0, none⟩) 1 [(0, 1, 5)] 0 W h (by decide)).mono ?_
    rintro e w' ⟨_, k2, k3⟩
    obtain ⟨S, D, k4, _⟩ := k2 first_look
    exact ⟨S, k4, k3⟩
  have key1 : ∀ W, Sl W W.heap.size 3 ce A l → Calls Try.prog 27 #[.slice A l.length c] W fun e w' => SomeClone 35 3 ce l W e w' := fun W h => clone_edge A c l W.heap.size W h (Nat.le_refl _) hnil (by omega)
  have KEY0 := Lib.hid key0
  have K5 := Lib.hid key1
  clear key0 key1
  go_enter Try.func14, Try.ntmps14
  go_wp2_with fail
  refine (two_any _).mono ?_
  rintro e w1 ⟨g, rfl, own1, hb1⟩
  have B1 : Below (w.heap.size + 2) ((w.alloc (.cells #[.int .i64 N, .slice A l.length c] 24)).alloc (.cells #[.int .i64 x1, .int .i64 x2, .int .i64 x3] 35)) w1 := hb1.mono (by simp)
  have Z1 : w.heap.size + 2 ≤ w1.heap.size := by have := hb1.size; simp at this; omega
  clear hb1
  go_wp2_with fail
  refine (KEY0.out _ _ own1.sl.2).mono ?_
  rintro e w3 ⟨S3, rfl, hb3⟩
  have B3 := B1.trans (hb3.mono Z1)
  have Z3 : w.heap.size + 2 ≤ w3.heap.size := by have := hb3.size; omega
  have H3 := hw0.trans (B3.mono (by omega))
  have z3 : w.heap.size < w3.heap.size := by omega
  have z3' : w.heap.size + 1 < w3.heap.size := by omega
  clear hb3 own1 B1 Z1
  obtain ⟨cc3, _⟩ := keepAt B3 (b := w.heap.size) (by omega)
  obtain ⟨cd3, _⟩ := keepAt B3 (b := w.heap.size + 1) (by omega)
  have q0 := cc3 0
  have q1 := cc3 1
  have r0 := cd3 0
  have r1 := cd3 1
  have r2 := cd3 2
  simp [go_sem] at q0 q1 r0 r1 r2
  clear cc3 cd3
  go_upto_region 4 with fail
  go_cut [9] from 29 to 37 (fun s9 wx => ∃ (X : Nat) (A5 : Option Addr) (c5 : Nat), s9 = .pointer (some ⟨X, 0, none⟩) ∧ wx.cell? ⟨X, 0, none⟩ = some (.int .i64 N) ∧ wx.cell? ⟨X, 1, none⟩ = some (.slice A5 (l.length + 1) c5) ∧ Own wx w3.heap.size 35 3 ce (.slice A5 (l.length + 1) c5) (l ++ [(x1, x2, x3)]) ∧ Below w3.heap.size w3 wx ∧ w3.heap.size ≤ X ∧ X < wx.heap.size)
  case first =>
    go_region_held3 (fun w' => w'.cell? ⟨w.heap.size, 0, none⟩ = some (.int .i64 N) ∧ w'.cell? ⟨w.heap.size, 1, none⟩ = some (.slice A l.length c) ∧ w'.cell? ⟨w.heap.size + 1, 0, none⟩ = some (.int .i64 x1) ∧ w'.cell? ⟨w.heap.size + 1, 1, none⟩ = some (.int .i64 x2) ∧ w'.cell? ⟨w.heap.size + 1, 2, none⟩ = some (.int .i64 x3))
      (first
        | go_keep
        | (exact ⟨(cE 0).trans q0, (cE 1).trans q1, (cF 0).trans r0, (cF 1).trans r1, (cF 2).trans r2⟩)
        | (exact ⟨(World.cell?_setCell_far _ _ _ _ (by have := HBc.size; dsimp only; omega)).trans ((World.cell?_setCell_far _ _ _ _ (by have := HBc.size; dsimp only; omega)).trans ((cE 0).trans q0)), (World.cell?_setCell_far _ _ _ _ (by have := HBc.size; dsimp only; omega)).trans ((World.cell?_setCell_far _ _ _ _ (by have := HBc.size; dsimp only; omega)).trans ((cE 1).trans q1)), (World.cell?_setCell_far _ _ _ _ (by have := HBc.size; dsimp only; omega)).trans ((World.cell?_setCell_far _ _ _ _ (by have := HBc.size; dsimp only; omega)).trans ((cF 0).trans r0)), (World.cell?_setCell_far _ _ _ _ (by have := HBc.size; dsimp only; omega)).trans ((World.cell?_setCell_far _ _ _ _ (by have := HBc.size; dsimp only; omega)).trans ((cF 1).trans r1)), (World.cell?_setCell_far _ _ _ _ (by have := HBc.size; dsimp only; omega)).trans ((World.cell?_setCell_far _ _ _ _ (by have := HBc.size; dsimp only; omega)).trans ((cF 2).trans r2))⟩))
      (first
        | (go_at_call 27; refine (K5.out _ (by first | exact (hs.keep H3.drew (Nat.le_refl _)).more (by simp; omega) | exact (hs.keep (H3.drew.alloc (by simp; omega) _) (Nat.le_refl _)).more (by simp; omega) | exact (hs.keep ((H3.drew.alloc (by simp; omega) _).alloc (by simp; omega) _) (Nat.le_refl _)).more (by simp; omega))).mono ?_; rintro e wc ⟨Ac, cx, rfl, ownc, hbc⟩; have HBc : Below w3.heap.size w3 wc := (by first | exact (Below.refl _ _).drew.trans (hbc.mono (Nat.le_refl _)) | exact ((Below.refl _ _).drew.alloc (Nat.le_refl _) _).trans (hbc.mono (by simp)) | exact (((Below.refl _ _).drew.alloc (Nat.le_refl _) _).alloc (by simp) _).trans (hbc.mono (by simp; omega))); obtain ⟨cE, _⟩ := keepAt HBc z3; obtain ⟨cF, _⟩ := keepAt HBc z3')
        | (refine step_push _ rfl (.tmp 33) (.tmp 35) _ rfl w3.heap.size 35 i0 _ 3 24 ce Try.underlying22 hi hz0 hz1 hz2 rfl (by decide) _ l l.length rfl rfl (ownc.mono (by simp <;> omega)) _ 1 (x1, x2, x3) rfl (fun j hj => ((keepAt hbc (by simp <;> omega)).1 _).trans (news3' (by simp <;> omega) j hj)) (fun _ _ => one_ce _ _) (by omega) (by omega) (by have := HBc.size; simp <;> omega) ?_; intro A4 c4 w4 hown4 hgrow4 hat4; have HB4 : Below w3.heap.size w3 w4 := (HBc).grown hgrow4 (by have := HBc.size; simp <;> omega) (ownc.mono (by simp <;> omega)).lo; (first | (have mX : _ = some (Obj.cells #[.int .i64 0, .slice none 0 0] 24 (0, 0)) := (blk_below (blk_alloc (heap_alloc_new w3.drew _) (.cells #[.int .i64 x1, .int .i64 x2, .int .i64 x3] 35)) hbc (by simp <;> omega) : wc.heap[w3.heap.size]? = _); have m4 : w4.heap[w3.heap.size]? = some (.cells #[.int .i64 0, .slice none 0 0] 24 (0, 0)) := blk_grown mX hgrow4 ((ownc).ne_ mX (by decide)); have m40 := blk_cell m4 0; have m41 := blk_cell m4 1; have mf0 := blk_free m4 0; have mf1 := blk_free m4 1; simp only [List.getElem?_toArray, List.getElem?_cons_zero, List.getElem?_cons_succ] at m40 m41) | (have mX : _ = some (Obj.cells #[.int .i64 0, .slice none 0 0] 24 (0, 0)) := (blk_below (h := by have hsz : (w3.alloc (.cells #[.int .i64 x1, .int .i64 x2, .int .i64 x3] 35)).heap.size = w3.heap.size + 1 := (by simp); have hnn := heap_alloc_new (w3.alloc (.cells #[.int .i64 x1, .int .i64 x2, .int .i64 x3] 35)) (.cells #[.int .i64 0, .slice none 0 0] 24); rw [hsz] at hnn; exact hnn) hbc (by simp <;> omega) : wc.heap[w3.heap.size + 1]? = _); have m4 : w4.heap[w3.heap.size + 1]? = some (.cells #[.int .i64 0, .slice none 0 0] 24 (0, 0)) := blk_grown mX hgrow4 ((ownc).ne_ mX (by decide)); have m40 := blk_cell m4 0; have m41 := blk_cell m4 1; have mf0 := blk_free m4 0; have mf1 := blk_free m4 1; simp only [List.getElem?_toArray, List.getElem?_cons_zero, List.getElem?_cons_succ] at m40 m41) | skip); obtain ⟨cE, _⟩ := keepAt HB4 z3; obtain ⟨cF, _⟩ := keepAt HB4 z3')
        | (refine step_push _ rfl (.tmp 33) (.tmp 35) _ rfl w3.heap.size 35 i0 _ 3 24 ce Try.underlying22 hi hz0 hz1 hz2 rfl (by decide) _ l l.length rfl rfl (ownc.mono (by simp <;> omega)) _ 1 (x1, x2, x3) rfl (fun j hj => ((keepAt hbc (by simp <;> omega)).1 _).trans ((World.cell?_alloc_past _ _ _ (by simp <;> omega)).trans (news3' (by simp <;> omega) j hj))) (fun _ _ => one_ce _ _) (by omega) (by omega) (by have := HBc.size; simp <;> omega) ?_; intro A4 c4 w4 hown4 hgrow4 hat4; have HB4 : Below w3.heap.size w3 w4 := (HBc).grown hgrow4 (by have := HBc.size; simp <;> omega) (ownc.mono (by simp <;> omega)).lo; (first | (have mX : _ = some (Obj.cells #[.int .i64 0, .slice none 0 0] 24 (0, 0)) := (blk_below (blk_alloc (heap_alloc_new w3.drew _) (.cells #[.int .i64 x1, .int .i64 x2, .int .i64 x3] 35)) hbc (by simp <;> omega) : wc.heap[w3.heap.size]? = _); have m4 : w4.heap[w3.heap.size]? = some (.cells #[.int .i64 0, .slice none 0 0] 24 (0, 0)) := blk_grown mX hgrow4 ((ownc).ne_ mX (by decide)); have m40 := blk_cell m4 0; have m41 := blk_cell m4 1; have mf0 := blk_free m4 0; have mf1 := blk_free m4 1; simp only [List.getElem?_toArray, List.getElem?_cons_zero, List.getElem?_cons_succ] at m40 m41) | (have mX : _ = some (Obj.cells #[.int .i64 0, .slice none 0 0] 24 (0, 0)) := (blk_below (h := by have hsz : (w3.alloc (.cells #[.int .i64 x1, .int .i64 x2, .int .i64 x3] 35)).heap.size = w3.heap.size + 1 := (by simp); have hnn := heap_alloc_new (w3.alloc (.cells #[.int .i64 x1, .int .i64 x2, .int .i64 x3] 35)) (.cells #[.int .i64 0, .slice none 0 0] 24); rw [hsz] at hnn; exact hnn) hbc (by simp <;> omega) : wc.heap[w3.heap.size + 1]? = _); have m4 : w4.heap[w3.heap.size + 1]? = some (.cells #[.int .i64 0, .slice none 0 0] 24 (0, 0)) := blk_grown mX hgrow4 ((ownc).ne_ mX (by decide)); have m40 := blk_cell m4 0; have m41 := blk_cell m4 1; have mf0 := blk_free m4 0; have mf1 := blk_free m4 1; simp only [List.getElem?_toArray, List.getElem?_cons_zero, List.getElem?_cons_succ] at m40 m41) | skip); obtain ⟨cE, _⟩ := keepAt HB4 z3; obtain ⟨cF, _⟩ := keepAt HB4 z3')
        | (refine step_push _ rfl (.tmp 33) (.tmp 35) _ rfl w3.heap.size 35 i0 _ 3 24 ce Try.underlying22 hi hz0 hz1 hz2 rfl (by decide) _ l l.length rfl rfl ((ownc.alloc _).mono (by simp <;> omega)) _ 1 (x1, x2, x3) rfl (news3' (by simp <;> omega)) (fun _ _ => one_ce _ _) (by omega) (by omega) (by have := HBc.size; simp <;> omega) ?_; intro A4 c4 w4 hown4 hgrow4 hat4; have HB4 : Below w3.heap.size w3 w4 := (HBc.alloc HBc.size _).grown hgrow4 (by have := HBc.size; simp <;> omega) (ownc.mono (by simp <;> omega)).lo; (first | (have mX : _ = some (Obj.cells #[.int .i64 0, .slice none 0 0] 24 (0, 0)) := (blk_alloc (blk_below (heap_alloc_new w3.drew _) hbc (by simp <;> omega)) (.cells #[.int .i64 x1, .int .i64 x2, .int .i64 x3] 35) : (wc.alloc (.cells #[.int .i64 x1, .int .i64 x2, .int .i64 x3] 35)).heap[w3.heap.size]? = _); have m4 : w4.heap[w3.heap.size]? = some (.cells #[.int .i64 0, .slice none 0 0] 24 (0, 0)) := blk_grown mX hgrow4 ((ownc.alloc (.cells #[.int .i64 x1, .int .i64 x2, .int .i64 x3] 35)).ne_ mX (by decide)); have m40 := blk_cell m4 0; have m41 := blk_cell m4 1; have mf0 := blk_free m4 0; have mf1 := blk_free m4 1; simp only [List.getElem?_toArray, List.getElem?_cons_zero, List.getElem?_cons_succ] at m40 m41) | skip); obtain ⟨cE, _⟩ := keepAt HB4 z3; obtain ⟨cF, _⟩ := keepAt HB4 z3')
        | (refine step_push _ rfl (.tmp 33) (.tmp 35) _ rfl w3.heap.size 35 i0 _ 3 24 ce Try.underlying22 hi hz0 hz1 hz2 rfl (by decide) _ l l.length rfl rfl ((ownc.alloc _).mono (by simp <;> omega)) _ 1 (x1, x2, x3) rfl (fun j hj => (World.cell?_alloc_past _ _ _ (by have := hbc.size; simp at this; omega)).trans (((keepAt hbc (by simp <;> omega)).1 _).trans (news3' (by simp <;> omega) j hj))) (fun _ _ => one_ce _ _) (by omega) (by omega) (by have := HBc.size; simp <;> omega) ?_; intro A4 c4 w4 hown4 hgrow4 hat4; have HB4 : Below w3.heap.size w3 w4 := (HBc.alloc HBc.size _).grown hgrow4 (by have := HBc.size; simp <;> omega) (ownc.mono (by simp <;> omega)).lo; (have mX : _ = some (Obj.cells #[.int .i64 0, .slice none 0 0] 24 (0, 0)) := (heap_alloc_new wc (.cells #[.int .i64 0, .slice none 0 0] 24) : (wc.alloc (.cells #[.int .i64 0, .slice none 0 0] 24)).heap[wc.heap.size]? = _); have m4 : w4.heap[wc.heap.size]? = some (.cells #[.int .i64 0, .slice none 0 0] 24 (0, 0)) := blk_grown mX hgrow4 ((ownc.alloc (.cells #[.int .i64 0, .slice none 0 0] 24)).ne_ mX (by decide)); have m40 := blk_cell m4 0; have m41 := blk_cell m4 1; have mf0 := blk_free m4 0; have mf1 := blk_free m4 1; simp only [List.getElem?_toArray, List.getElem?_cons_zero, List.getElem?_cons_succ] at m40 m41); obtain ⟨cE, _⟩ := keepAt HB4 z3; obtain ⟨cF, _⟩ := keepAt HB4 z3')
        | (refine step_push _ rfl (.tmp 33) (.tmp 35) _ rfl w3.heap.size 35 i0 _ 3 24 ce Try.underlying22 hi hz0 hz1 hz2 rfl (by decide) _ l l.length rfl rfl (((ownc.alloc _).alloc _).mono (by simp <;> omega)) _ 1 (x1, x2, x3) rfl (fun j hj => (World.cell?_alloc_past _ _ _ (by simp <;> omega)).trans (news3' (by simp <;> omega) j hj)) (fun _ _ => one_ce _ _) (by omega) (by omega) (by have := HBc.size; simp <;> omega) ?_; intro A4 c4 w4 hown4 hgrow4 hat4; have HB4 : Below w3.heap.size w3 w4 := ((HBc.alloc HBc.size _).alloc (by have := HBc.size; simp; omega) _).grown hgrow4 (by have := HBc.size; simp <;> omega) (ownc.mono (by simp <;> omega)).lo; (have mX : _ = some (Obj.cells #[.int .i64 0, .slice none 0 0] 24 (0, 0)) := (by have h := heap_alloc_new (wc.alloc (.cells #[.int .i64 x1, .int .i64 x2, .int .i64 x3] 35)) (.cells #[.int .i64 0, .slice none 0 0] 24); simpa using h : ((wc.alloc (.cells #[.int .i64 x1, .int .i64 x2, .int .i64 x3] 35)).alloc (.cells #[.int .i64 0, .slice none 0 0] 24)).heap[wc.heap.size + 1]? = _); have m4 : w4.heap[wc.heap.size + 1]? = some (.cells #[.int .i64 0, .slice none 0 0] 24 (0, 0)) := blk_grown mX hgrow4 (((ownc.alloc (.cells #[.int .i64 x1, .int .i64 x2, .int .i64 x3] 35)).alloc (.cells #[.int .i64 0, .slice none 0 0] 24)).ne_ mX (by decide)); have m40 := blk_cell m4 0; have m41 := blk_cell m4 1; have mf0 := blk_free m4 0; have mf1 := blk_free m4 1; simp only [List.getElem?_toArray, List.getElem?_cons_zero, List.getElem?_cons_succ] at m40 m41); obtain ⟨cE, _⟩ := keepAt HB4 z3; obtain ⟨cF, _⟩ := keepAt HB4 z3')
        | (refine step_push _ rfl (.tmp 33) (.tmp 35) _ rfl w3.heap.size 35 i0 _ 3 24 ce Try.underlying22 hi hz0 hz1 hz2 rfl (by decide) _ l l.length rfl rfl (((ownc.alloc _).alloc _).mono (by simp <;> omega)) _ 1 (x1, x2, x3) rfl (news3' (by simp <;> omega)) (fun _ _ => one_ce _ _) (by omega) (by omega) (by have := HBc.size; simp <;> omega) ?_; intro A4 c4 w4 hown4 hgrow4 hat4; have HB4 : Below w3.heap.size w3 w4 := ((HBc.alloc HBc.size _).alloc (by have := HBc.size; simp; omega) _).grown hgrow4 (by have := HBc.size; simp <;> omega) (ownc.mono (by simp <;> omega)).lo; (have mX : _ = some (Obj.cells #[.int .i64 0, .slice none 0 0] 24 (0, 0)) := (blk_alloc (heap_alloc_new wc (.cells #[.int .i64 0, .slice none 0 0] 24)) (.cells #[.int .i64 x1, .int .i64 x2, .int .i64 x3] 35) : ((wc.alloc (.cells #[.int .i64 0, .slice none 0 0] 24)).alloc (.cells #[.int .i64 x1, .int .i64 x2, .int .i64 x3] 35)).heap[wc.heap.size]? = _); have m4 : w4.heap[wc.heap.size]? = some (.cells #[.int .i64 0, .slice none 0 0] 24 (0, 0)) := blk_grown mX hgrow4 (((ownc.alloc (.cells #[.int .i64 0, .slice none 0 0] 24)).alloc (.cells #[.int .i64 x1, .int .i64 x2, .int .i64 x3] 35)).ne_ mX (by decide)); have m40 := blk_cell m4 0; have m41 := blk_cell m4 1; have mf0 := blk_free m4 0; have mf1 := blk_free m4 1; simp only [List.getElem?_toArray, List.getElem?_cons_zero, List.getElem?_cons_succ] at m40 m41); obtain ⟨cE, _⟩ := keepAt HB4 z3; obtain ⟨cF, _⟩ := keepAt HB4 z3'))
    all_goals
      go_wp2_with fail
      go_meet
      first
        | exact cut_alloc hown4 HB4 HB4.size
        | exact cut_set m4 hown4 (by decide) HB4 (by have := HBc.size; omega)
  case rest =>
    obtain ⟨X, A5, c5, rfl, p0, p1, own5, B5, X0, X1⟩ := hcut
    have H5 := H3.trans (B5.mono (by omega))
    have Z5 : w3.heap.size ≤ wc.heap.size := B5.size
    obtain ⟨ce5, _⟩ := keepAt B5 z3
    obtain ⟨cf5, _⟩ := keepAt B5 z3'
    have q50 := (ce5 0).trans q0
    have q51 := (ce5 1).trans q1
    have r50 := (cf5 0).trans r0
    have r51 := (cf5 1).trans r1
    have r52 := (cf5 2).trans r2
    clear ce5 cf5 q0 q1 r0 r1 r2
    have hll9 : l.length ≤ 9223372036854775807 := by omega
    have hlm : (l ++ [(x1, x2, x3)]).length = l.length + 1 := by simp
    have sl5 := own5.sl.2
    have zw5 := H5.size
    by_cases hx : Dijk.look N l [fr] = 0
    · by_cases hy : Dijk.look N (l ++ [(x1, x2, x3)]) [fr] = 0
      · obtain ⟨hg, hc, f0, f1⟩ := Dijk.look_zero hy
        have hN1 := hg.lo
        have hN2 := hg.hi
        obtain ⟨e0, e1, t0, t1⟩ := hg.ends (x1, x2, x3) (by simp)
        have e2 := hc (x1, x2, x3) (by simp)
        have e3 := hg.cost (x1, x2, x3) (by simp)
        simp only at e0 e1 t0 t1 e2 e3
        have hends := hg.ends
        have hcs : ∀ e ∈ l ++ [(x1, x2, x3)], 0 ≤ e.2.2 := fun e he => by have := hc e he; omega
        have hv := look_turn hx t0 t1
        have k1 := fun W h => dist_yes N A c l fr hll9 hx W h
        have k2 := fun W h => dist_yes N A5 c5 (l ++ [(x1, x2, x3)]) fr (by simp; omega) hy W h
        have k3 := fun W h => dist_yes N A c l x2 hll9 hv W h
        have law := fun (D M T : List Int) (hD : Sh N fr l D) (hM : Sh N fr (l ++ [(x1, x2, x3)]) M) (hT : Sh N x2 l T) => more hD hM hT hends hcs
        rw [hlm] at k2
        obtain ⟨n, rfl⟩ := Int.eq_ofNat_of_zero_le (show 0 ≤ N by omega)
        obtain ⟨p, rfl⟩ := Int.eq_ofNat_of_zero_le e0
        simp only [Int.toNat_natCast] at k1 k2 k3
        have K1 := Lib.hid k1
        have K2 := Lib.hid k2
        have K3 := Lib.hid k3
        have LAW := Lib.hid law
        clear k1 k2 k3 law hx hy hlm hv hg hc hends hcs
        go_wp2_with fail
        refine (K1.out _ ((hs.keep H5 (Nat.le_refl _)).more zw5)).mono ?_
        rintro e w6 ⟨S6, D, rfl, own6, hb6, hD⟩
        have p60 := ((keepAt hb6 X1).1 0).trans p0
        have p61 := ((keepAt hb6 X1).1 1).trans p1
        have H6 := H5.trans (hb6.mono zw5)
        go_wp2_with fail
        refine (K2.out _ ((sl5.keep hb6 (Nat.le_refl _)).more hb6.size)).mono ?_
        rintro e w7 ⟨S7, M, rfl, own7, hb7, hM⟩
        have H7 := H6.trans (hb7.mono H6.size)
        have own6' := own6.keep hb7
        have hbw7 := hb6.trans (hb7.mono hb6.size)
        have q70 := ((keepAt hbw7 (show w.heap.size < wc.heap.size by omega)).1 0).trans q50
        have q71 := ((keepAt hbw7 (show w.heap.size < wc.heap.size by omega)).1 1).trans q51
        have r71 := ((keepAt hbw7 (show w.heap.size + 1 < wc.heap.size by omega)).1 1).trans r51
        go_wp2_with fail
        refine (K3.out _ ((hs.keep H7 (Nat.le_refl _)).more H7.size)).mono ?_
        rintro e w8 ⟨S8, T, rfl, own8, hb8, hT⟩
        have H8 := H7.trans (hb8.mono H7.size)
        have own6a := own6'.keep hb8
        have own7a := own7.keep hb8
        have hbw8 := hbw7.trans (hb8.mono hbw7.size)
        have r80 := ((keepAt hbw8 (show w.heap.size + 1 < wc.heap.size by omega)).1 0).trans r50
        have r82 := ((keepAt hbw8 (show w.heap.size + 1 < wc.heap.size by omega)).1 2).trans r52
        have z8 : w.heap.size + 1 < w8.heap.size := by have := hbw8.size; omega
        have LAW1 := Lib.hid (LAW.out D M T hD.out hM.out hT.out)
        have hct0 : ∀ wr, Below w8.heap.size w8 wr → (∀ i, i < n → wr.cell? ⟨S6, i, none⟩ = some (.int .i64 (D.getD i 0))) ∧ (∀ i, i < n → wr.cell? ⟨S7, i, none⟩ = some (.int .i64 (M.getD i 0))) ∧ (∀ i, i < n → wr.cell? ⟨S8, i, none⟩ = some (.int .i64 (T.getD i 0))) ∧ wr.cell? ⟨w.heap.size + 1, 0, none⟩ = some (.int .i64 (p : Int)) ∧ wr.cell? ⟨w.heap.size + 1, 2, none⟩ = some (.int .i64 x3) ∧ Below w.heap.size w wr := fun wr hB => by
          refine ⟨fun i hi => (own_at1 (by have := hD.out.len; omega) (own6a.keep hB) hi).1, fun i hi => (own_at1 (by have := hM.out.len; omega) (own7a.keep hB) hi).1, fun i hi => (own_at1 (by have := hT.out.len; omega) (own8.keep hB) hi).1, ?_, ?_, H8.trans (hB.mono H8.size)⟩
          · exact ((keepAt hB z8).1 0).trans r80
          · exact ((keepAt hB z8).1 2).trans r82
        have HC := Lib.hid hct0
        clear hct0
        go_wp2
        go_loopw [74] (fun i wr => ∃ k : Nat, k ≤ n ∧ i = .int .i64 k ∧ Below w8.heap.size w8 wr) (fun i _ => n - (intOf i).toNat)
        case atStart => exact ⟨0, Nat.zero_le _, rfl, Below.refl _ _⟩
        case round =>
          obtain ⟨k, hk, rfl, hB⟩ := hrel
          obtain ⟨s1, s2, s3, s4, s5, s6⟩ := HC.out wr hB
          by_cases hlt : k < n
          · have d1 := s1 k hlt
            have m1 := s2 k hlt
            have g1 := s3 k hlt
            have a1 := s1 p (by omega)
            have hl := LAW1.out k (by omega) (by omega)
            have b1 := hD.out.lo k (by omega) (by omega)
            have b2 := hT.out.lo k (by omega) (by omega)
            have b3 := hD.out.lo p (by omega) (by omega)
            simp only [dg, over, Int.toNat_natCast] at hl
            have hlA : D.getD p 0 < 1099511627776 ∧ T.getD k 0 < 1099511627776 → M.getD k 0 = min (D.getD k 0) (D.getD p 0 + x3 + T.getD k 0) := fun h => hl.trans (congrArg _ (if_pos h))
            have hlB : ¬ (D.getD p 0 < 1099511627776 ∧ T.getD k 0 < 1099511627776) → M.getD k 0 = min (D.getD k 0) 1099511627776 := fun h => hl.trans (congrArg _ (if_neg h))
            clear hl
            simp only [dg, far, Int.toNat_natCast] at b1 b2 b3
            clear s1 s2 s3 s6 q70 q71 r71 r80 r82 q50 q51 r50 r51 r52 p0 p1 p60 p61
            generalize D.getD k 0 = d at d1 hlA hlB b1
            generalize M.getD k 0 = m at m1 hlA hlB
            generalize T.getD k 0 = t at g1 hlA hlB b2
            generalize D.getD p 0 = a at a1 hlA hlB b3
            by_cases ha : a < 1099511627776
            · by_cases ht : t < 1099511627776
              · have hl := hlA ⟨ha, ht⟩
                clear hlA hlB
                have hmin : (if a + x3 + t < d then a + x3 + t else d) = m := by rw [hl]; simp only [Int.min_def]; split <;> split <;> omega
                clear hl
                go_wp2
                go_region
                go_wp2
                go_region
                go_wp2
                go_roundw
                case rel => first | exact ⟨k + 1, by omega, by go_num, below_drewN hB _⟩ | exact ⟨k + 1, by omega, by go_num, below_drewN (below_drewN hB _) _⟩ | exact ⟨k + 1, by omega, by go_num, (below_drewN hB.drew _)⟩ | exact ⟨k + 1, by omega, by go_num, (below_drewN hB _).drew⟩ | exact ⟨k + 1, by omega, by go_num, hB.drew.drew⟩
                case measure => simp [intOf]; omega
              · have hl := hlB (fun h => ht h.2)
                clear hlA hlB
                have hd : decide (t < 1099511627776) = false := by simp; omega
                have hmin : (if 1099511627776 < d then 1099511627776 else d) = m := by rw [hl]; simp only [Int.min_def]; split <;> split <;> omega
                clear hl
                go_wp2
                go_region
                go_wp2
                go_roundw
                case rel => first | exact ⟨k + 1, by omega, by go_num, below_drewN hB _⟩ | exact ⟨k + 1, by omega, by go_num, below_drewN (below_drewN hB _) _⟩ | exact ⟨k + 1, by omega, by go_num, (below_drewN hB.drew _)⟩ | exact ⟨k + 1, by omega, by go_num, (below_drewN hB _).drew⟩ | exact ⟨k + 1, by omega, by go_num, hB.drew.drew⟩
                case measure => simp [intOf]; omega
            · have hl := hlB (fun h => ha h.1)
              clear hlA hlB
              have hd : decide (a < 1099511627776) = false := by simp; omega
              have hmin : (if 1099511627776 < d then 1099511627776 else d) = m := by rw [hl]; simp only [Int.min_def]; split <;> split <;> omega
              clear hl
              go_wp2
              go_region
              go_wp2
              go_roundw
              case rel => first | exact ⟨k + 1, by omega, by go_num, below_drewN hB _⟩ | exact ⟨k + 1, by omega, by go_num, below_drewN (below_drewN hB _) _⟩ | exact ⟨k + 1, by omega, by go_num, (below_drewN hB.drew _)⟩ | exact ⟨k + 1, by omega, by go_num, (below_drewN hB _).drew⟩ | exact ⟨k + 1, by omega, by go_num, hB.drew.drew⟩
              case measure => simp [intOf]; omega
          · obtain rfl : k = n := by omega
            clear s1 s2 s3
            go_wp2
            go_ret
            exact ⟨rfl, s6⟩
      · have k1 := fun W h => dist_yes N A c l fr hll9 hx W h
        have k2 := fun W h => dist_no N A5 c5 (l ++ [(x1, x2, x3)]) fr (by simp; omega) hy W h
        have hne : (Dijk.look N (l ++ [(x1, x2, x3)]) [fr] != 0) = true := by rw [bne_iff_ne]; exact hy
        rw [hlm] at k2
        obtain ⟨z, hz⟩ : ∃ z, Dijk.look N (l ++ [(x1, x2, x3)]) [fr] = z := ⟨_, rfl⟩
        rw [hz] at k2 hne
        have K1 := Lib.hid k1
        have K2 := Lib.hid k2
        clear k1 k2 hx hy hlm hz
        go_wp2_with fail
        refine (K1.out _ ((hs.keep H5 (Nat.le_refl _)).more zw5)).mono ?_
        rintro e w6 ⟨S6, D, rfl, own6, hb6, hD⟩
        have p60 := ((keepAt hb6 X1).1 0).trans p0
        have p61 := ((keepAt hb6 X1).1 1).trans p1
        have H6 := H5.trans (hb6.mono zw5)
        go_wp2_with fail
        refine (K2.out _ ((sl5.keep hb6 (Nat.le_refl _)).more hb6.size)).mono ?_
        rintro e w7 ⟨rfl, hb7⟩
        have H7 := H6.trans (hb7.mono H6.size)
        go_wp2
        go_ret
        exact ⟨rfl, H7⟩
    · have k1 := fun W h => dist_no N A c l fr hll9 hx W h
      have k2 := fun W h => dist_some N A5 c5 (l ++ [(x1, x2, x3)]) fr (by simp; omega) W h
      have hne : (Dijk.look N l [fr] != 0) = true := by rw [bne_iff_ne]; exact hx
      have heq : (Dijk.look N l [fr] == 0) = false := by rw [beq_eq_false_iff_ne]; exact hx
      rw [hlm] at k2
      obtain ⟨z, hz⟩ : ∃ z, Dijk.look N l [fr] = z := ⟨_, rfl⟩
      rw [hz] at k1 hne heq
      have K1 := Lib.hid k1
      have K2 := Lib.hid k2
      clear k1 k2 hx hlm hz
      go_wp2_with fail
      refine (K1.out _ ((hs.keep H5 (Nat.le_refl _)).more zw5)).mono ?_
      rintro e w6 ⟨rfl, hb6⟩
      have p60 := ((keepAt hb6 X1).1 0).trans p0
      have p61 := ((keepAt hb6 X1).1 1).trans p1
      have H6 := H5.trans (hb6.mono zw5)
      go_wp2_with fail
      refine (K2.out _ ((sl5.keep hb6 (Nat.le_refl _)).more hb6.size)).mono ?_
      rintro e w7 ⟨V7, z7, rfl, hb7⟩
      have H7 := H6.trans (hb7.mono H6.size)
      go_wp2
      go_ret
      exact ⟨rfl, H7⟩

theorem own : ownKnob Try.prog.godebug = none := by kernel_rfl
theorem laidOut : laidOutB Try.prog = true := by kernel_rfl

set_option maxRecDepth 100000 in
theorem contract (H : Type) (enc : TypeId × Value → H) (W : World) (base : Nat) (args : Array Value) (ds gs : List (DataW H)) (before : List MemPlace)
    (hval0 : ∀ (j : Nat) t v, Try.f14.params[j]? = some t → args[j]? = some v → Value.okWide Try.prog W .any base t v)
    (hW : DataW.Whole enc Try.prog Try.f14.params.toList Rows.dijkMoreSpec.vars false W args.toList ds gs before) (hk : Rows.uptoSmall H (ds ++ gs) = true) :
    Calls Try.prog 14 args W fun e W' => ∃ v, e = .returned v ∧ Rows.dijkMoreSpec.post enc Try.prog Try.f14 false true false false W args v W' := by
  have hval : ∀ (j : Nat) t v, Try.f14.params[j]? = some t → args[j]? = some v → Value.okWide Try.prog W .any base t v := hval0
  have hW' := hW
  obtain ⟨p, q, hA0, hV, rfl, hfz, hnd⟩ := hW
  have hA : DataW.TrodAll enc Try.prog W 0 (fun _ => true) true Try.f14.params.toList args.toList ds p := hA0
  rw [Try.params14] at hA hval
  obtain ⟨v0, vs0, d0, ds0, p0, q0, hargs, rfl, rfl, h0, r0⟩ := trodAll_cons hA
  obtain ⟨v1, vs1, d1, ds1, p1, q1, rfl, rfl, rfl, h1, r1⟩ := trodAll_cons r0
  obtain ⟨v2, vs2, d2, ds2, p2, q2, rfl, rfl, rfl, h2, r2⟩ := trodAll_cons r1
  obtain ⟨rfl, rfl, rfl⟩ := trodAll_nil r2
  obtain rfl : args = #[v0, v1, v2] := by cases args; simp_all
  obtain ⟨rfl, rfl⟩ := trodVars_none hV
  obtain ⟨N0, A0, c0, l0, dd0, rfl, hN0, hG0, hb0, rfl, hd0⟩ := open_net Try.underlying24 (by kernel_rfl) (by kernel_rfl) Try.underlying3 Try.underlying22 Try.underlying35 (by kernel_rfl) (by kernel_rfl) Try.underlying3 Try.underlying3 Try.underlying3 (hval 0 24 v0 rfl rfl) h0
  obtain ⟨a1, rfl, rfl, rfl, wa1⟩ := open_int Try.underlying3 (hval 1 3 v1 rfl rfl) h1
  obtain ⟨a2, b2, c2, rfl, rfl, rfl, ha2, hb2, hc2⟩ := open_iii Try.underlying35 (by kernel_rfl) (by kernel_rfl) Try.underlying3 Try.underlying3 Try.underlying3 (hval 2 35 v2 rfl rfl) h2
  have hbulk := bulk_bound hk
  simp only [List.cons_append, List.nil_append, List.append_nil, Rows.uptoBulkAll] at hbulk
  have hq0 := bulk_agg2 (x := .lit (.int .i64 N0)) hd0
  refine (walk W N0 A0 c0 l0 hG0 a1 (wf_bd wa1) a2 b2 c2 ha2 hb2 hc2 (by omega)).mono fun e W' ⟨he, hB⟩ => ?_
  subst he
  exact ⟨_, rfl, post_of_law laidOut rfl Try.underlying4 rfl (by intro t ht; rw [Try.params14] at ht; simp at ht; rcases ht with rfl | rfl | rfl <;> exact ⟨by kernel_rfl, of_decide_eq_true (by kernel_rfl)⟩) hW' rfl hB⟩

set_option maxRecDepth 100000 in
theorem lifted (os : Os) (started : os.Started) (H : Type) (enc : TypeId × Value → H) (F : Stop.Interp) :
    ReturnsInHanded {} Try.checked os 14 .any ((Rows.OpenSpec.upto Rows.dijkMoreSpec).pre6 enc Try.prog Try.f14 Rows.dijkMoreUptoRow.domain false) (((Rows.OpenSpec.upto Rows.dijkMoreSpec).at F).post enc Try.prog Try.f14 false true false false) := by
  refine returnsInHanded_of_cond (C := Try.checked) (s := Rows.OpenSpec.upto Rows.dijkMoreSpec) (k := Rows.uptoSmall) rfl own started (by kernel_rfl) Try.func14
    (OpenSpec.witness (enc := enc) (C := Try.checked) (s := Rows.OpenSpec.upto Rows.dijkMoreSpec) (k := Rows.uptoSmall) rfl false ⟨#[], #[.agg #[.int .i64 0, .slice none 0 0], .int .i64 0, .agg #[.int .i64 0, .int .i64 0, .int .i64 0]], []⟩ 8 (by kernel_rfl) (by kernel_rfl) (by kernel_rfl)
      (x := ([.agg [.lit (.int .i64 0), .nil], .lit (.int .i64 0), .agg [.lit (.int .i64 0), .lit (.int .i64 0), .lit (.int .i64 0)]], [], [])) (by kernel_rfl) rfl (by kernel_rfl)) ?_
  intro W base args ds gs before hval hW _ hk _
  exact contract H enc W base args ds gs before hval hW hk

theorem holds : Rows.DijkMoreUptoSaid :=
  OpenClaim.holds_of_cond 14 Try.f14 rfl rfl rfl rfl rfl rfl rfl ⟨rfl, rfl, rfl, rfl, rfl⟩ rfl rfl rfl rfl rfl (by kernel_rfl) Try.func14 (by kernel_rfl)
    (of_decide_eq_true (by kernel_rfl)) (by unfold Func.isWrapper; first | (rw [if_pos (by decide +kernel)]; kernel_rfl) | (rw [if_neg (by decide +kernel)]; exact ⟨rfl, rfl⟩))
    (fun os started H enc _ F => lifted os started H enc F)
#print axioms holds
end Go.Proofs.Ytdgglgiafmndnaa.DijkMoreLaw
