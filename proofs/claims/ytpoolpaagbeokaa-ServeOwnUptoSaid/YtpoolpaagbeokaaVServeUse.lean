/- The walks of serve.copied, serve.New and (*serve.Service).Ground. -/
/- Plain facts on a service: how it begins; three requests alike; counts are bounded. -/
/- The walk of (*serve.Service).search. -/
/- The walk of (*serve.Service).Ask. -/
/- The walk of (*serve.Service).Poll. -/
/- Small contracts and facts that the laws of serve share. -/
import Derived.Test.YtpoolpaagbeokaaVNetOf
import Derived.Test.YtpoolpaagbeokaaVStdI
import Derived.Test.YtpoolpaagbeokaaVServeFit
import Derived.BigRegion
namespace Go.Proofs.Ytpoolpaagbeokaa.Serve
open Go.RowKit Go.Proofs.Ytpoolpaagbeokaa NetLaw GridLaw Go.Proofs.Ytpoolpaagbeokaa.Net Go.Proofs.Ytpoolpaagbeokaa.Std Go.Proofs.Ytpoolpaagbeokaa.GroundLaw
set_option linter.unusedSimpArgs false
set_option linter.unusedVariables false
/-- a grid that was copied -/
def GridSays (W H : Int) (l : List Int) (w : World) (e : Ending) (w' : World) : Prop :=
  ∃ A c, e = .returned (.agg #[.int .i64 W, .int .i64 H, .slice A l.length c]) ∧ Own w' w.heap.size 3 1 ci (.slice A l.length c) l ∧ Below w.heap.size w w'
set_option maxRecDepth 100000 in
set_option maxHeartbeats 4000000 in
theorem copied_any (W H : Int) (A : Option Addr) (c : Nat) (l : List Int) (w : World) (hl : Sl w w.heap.size 1 ci A l) (hA : A = none → l.length = 0 ∧ c = 0) (hlen : l.length ≤ 600) :
    Calls Try.prog 32 #[.agg #[.int .i64 W, .int .i64 H, .slice A l.length c]] w fun e w' => GridSays W H l w e w' := by
  obtain ⟨i0, hi, hz0, hz1, hz2⟩ := info_parts infoInt
  obtain ⟨w0, hw0⟩ : ∃ w0, w0 = (w.alloc (.cells #[.int .i64 W, .int .i64 H, .slice A l.length c] 24)).alloc (.cells #[.int .i64 0, .int .i64 0, .slice none 0 0] 24) := ⟨_, rfl⟩
  have hb0 : Below w.heap.size w w0 := by rw [hw0]; exact ((Below.refl _ _).alloc (Nat.le_refl _) _).alloc (by simp) _
  have hz : w0.heap.size = w.heap.size + 2 := by rw [hw0]; simp
  have q0 : w0.cell? ⟨w.heap.size, 0, none⟩ = some (.int .i64 W) := by rw [hw0]; simp [go_sem]
  have q1 : w0.cell? ⟨w.heap.size, 1, none⟩ = some (.int .i64 H) := by rw [hw0]; simp [go_sem]
  have q2 : w0.cell? ⟨w.heap.size, 2, none⟩ = some (.slice A l.length c) := by rw [hw0]; simp [go_sem]
  have r2 : w0.heap[w.heap.size + 1]? = some (.cells #[.int .i64 0, .int .i64 0, .slice none 0 0] 24 (0, 0)) := by rw [hw0]; have := heap_alloc_new (w.alloc (.cells #[.int .i64 W, .int .i64 H, .slice A l.length c] 24)) (.cells #[.int .i64 0, .int .i64 0, .slice none 0 0] 24); simp at this ⊢; exact this
  have r0 := blk_cell r2 0
  have r1 := blk_cell r2 1
  have r3 := blk_cell r2 2
  have f0 := blk_free r2 0
  have f1 := blk_free r2 1
  have f2 := blk_free r2 2
  simp only [List.getElem?_toArray, List.getElem?_cons_zero, List.getElem?_cons_succ] at r0 r1 r3
  have hs0 := hl.keep hb0 (Nat.le_refl _)
  have HA := Lib.hid hA
  have HW := Lib.hid hw0
  have hzz : w.heap.size + 1 < w0.heap.size := by omega
  have hzz0 : w.heap.size < w0.heap.size := by omega
  clear hA hl
  go_enter Try.func32, Try.ntmps32
  go_wp2
  rw [← hw0]
  clear hw0
  go_region_law (first
      | (refine step_pushAll _ rfl (.const (.slice none 0 0)) (.tmp 8) _ rfl w0.heap.size 3 i0 (.int .i64 0) 1 8 ci Try.underlying22 hi hz0 hz1 hz2 rfl (by decide) _ [] 0 rfl rfl Own.nil_ w.heap.size A l.length c l rfl rfl HA.out (by first | exact hs0 | exact hs0.keep (below_drewN (Below.refl _ _) 1) (Nat.le_refl _) | exact hs0.keep (below_drewN (Below.refl _ _) 2) (Nat.le_refl _) | exact hs0.keep (below_drewN (Below.refl _ _) 3) (Nat.le_refl _) | exact hs0.keep (below_drewN (Below.refl _ _) 4) (Nat.le_refl _)) one_ci (by omega) (by omega) (Nat.le_refl _) ?_
         intro A3 c3 w3 hown3 hgrow3 hat3
         simp only [Nat.zero_add, List.nil_append] at hown3
         have hB3 : Below w0.heap.size w0 w3 := by (first | exact (Below.refl _ _).grown hgrow3 (Nat.le_refl _) (fun k hk => by cases hk) | exact (below_drewN (Below.refl _ _) 1).grown hgrow3 (Nat.le_refl _) (fun k hk => by cases hk) | exact (below_drewN (Below.refl _ _) 2).grown hgrow3 (Nat.le_refl _) (fun k hk => by cases hk) | exact (below_drewN (Below.refl _ _) 3).grown hgrow3 (Nat.le_refl _) (fun k hk => by cases hk) | exact (below_drewN (Below.refl _ _) 4).grown hgrow3 (Nat.le_refl _) (fun k hk => by cases hk))
         have p0 := ((keepAt hB3 hzz0).1 0).trans q0
         have p1 := ((keepAt hB3 hzz0).1 1).trans q1
         have p2 := ((keepAt hB3 hzz0).1 2).trans q2
         have p3 := ((keepAt hB3 hzz).1 0).trans r0
         have p4 := ((keepAt hB3 hzz).1 1).trans r1
         have p5 := ((keepAt hB3 hzz).1 2).trans r3
         have p6 := ((keepAt hB3 hzz).2 0).trans f0
         have p7 := ((keepAt hB3 hzz).2 1).trans f1
         have p8 := ((keepAt hB3 hzz).2 2).trans f2
         clear hgrow3))
  all_goals
    go_wp2
    have hne := hown3.ne_ ((hB3.block _ hzz).trans r2) (by decide)
    refine bodyPost_ret (v := .agg #[.int .i64 W, .int .i64 H, .slice A3 l.length c3]) (by simp [results, Try.results32, go_sem, p0, p1, p2, p3, p4, p5, p6, p7, p8]) rfl ⟨A3, c3, rfl, ?_, ?_⟩
    · exact ((((hown3.mono (by omega)).setCell hne _).setCell hne _).setCell hne _)
    · exact (((hb0.trans (hB3.mono (by omega))).setCell (by dsimp only; omega) _).setCell (by dsimp only; omega) _).setCell (by dsimp only; omega) _
/-- what New answers where the ground is sound -/
def NewSays (W H : Int) (l : List Int) (w : World) (e : Ending) (w' : World) : Prop :=
  ∃ Z A c, e = .returned (.tuple #[.pointer (some ⟨Z, 0, none⟩), .int .i64 0]) ∧ w.heap.size ≤ Z ∧ w'.heap[Z]? = some (.cells #[.int .i64 W, .int .i64 H, .slice A l.length c, .pointer none, .pointer none, .pointer none, .pointer none, .pointer none, .pointer none, .int .i64 0] 84 (0, 0)) ∧ Own w' w.heap.size 3 1 ci (.slice A l.length c) l ∧ Below w.heap.size w w'
set_option maxRecDepth 100000 in
set_option maxHeartbeats 4000000 in
theorem new_yes (W H : Int) (A : Option Addr) (c : Nat) (l : List Int) (w : World) (hl : Sl w w.heap.size 1 ci A l) (hA : A = none → l.length = 0 ∧ c = 0) (hg : GGood W H l) :
    Calls Try.prog 9 #[.agg #[.int .i64 W, .int .i64 H, .slice A l.length c]] w fun e w' => NewSays W H l w e w' := by
  have hb := size_bd hg
  have hw0 : Below w.heap.size w (w.alloc (.cells #[.int .i64 W, .int .i64 H, .slice A l.length c] 24)) := (Below.refl _ _).alloc (Nat.le_refl _) _
  have key := fun W1 hs => Grid.check_any W H A c l W1 hs (by omega)
  rw [gchk_zero.2 hg] at key
  have k2 := fun W1 hs => copied_any W H A c l W1 hs hA (by omega)
  have hbox := heap_alloc_new w (.cells #[.int .i64 W, .int .i64 H, .slice A l.length c] 24)
  have g0 := blk_cell hbox 0
  have g1 := blk_cell hbox 1
  have g2 := blk_cell hbox 2
  simp only [List.getElem?_toArray, List.getElem?_cons_zero, List.getElem?_cons_succ] at g0 g1 g2
  have KEY := Lib.hid (key _ ((hl.keep hw0 (Nat.le_refl _)).more hw0.size))
  have K2 := Lib.hid k2
  have HL := Lib.hid hl
  have HBOX := Lib.hid hbox
  clear key k2 hg hl hbox
  go_enter Try.func9, Try.ntmps9
  go_wp2_with fail
  refine KEY.out.mono ?_
  rintro e w1 ⟨rfl, hb1⟩
  have hb01 := hw0.trans (hb1.mono hw0.size)
  have hbx := blk_below HBOX.out hb1 (lt_of_block HBOX.out)
  have p0 := blk_cell hbx 0
  have p1 := blk_cell hbx 1
  have p2 := blk_cell hbx 2
  simp only [List.getElem?_toArray, List.getElem?_cons_zero, List.getElem?_cons_succ] at p0 p1 p2
  have K3 := Lib.hid (K2.out w1 ((HL.out.keep hb01 (Nat.le_refl _)).more hb01.size))
  clear g0 g1 g2 hbx
  go_wp2_with fail
  refine K3.out.mono ?_
  rintro e w2 ⟨A2, c2, rfl, own2, hb2⟩
  have hsz2 := hb2.size
  have hsz1 := hb01.size
  have hnew := heap_alloc_new w2 (.cells #[.int .i64 W, .int .i64 H, .slice A2 l.length c2, .pointer none, .pointer none, .pointer none, .pointer none, .pointer none, .pointer none, .int .i64 0] 84)
  have hres : NewSays W H l w (.returned (.tuple #[.pointer (some ⟨w2.heap.size, 0, none⟩), .int .i64 0])) (w2.alloc (.cells #[.int .i64 W, .int .i64 H, .slice A2 l.length c2, .pointer none, .pointer none, .pointer none, .pointer none, .pointer none, .pointer none, .int .i64 0] 84)) :=
    ⟨w2.heap.size, A2, c2, rfl, by omega, hnew, (own2.mono hsz1).keep ((Below.refl _ _).alloc (Nat.le_refl _) _), (hb01.trans (hb2.mono hsz1)).alloc (by omega) _⟩
  have HRES := Lib.hid hres
  clear hres hnew own2 hb2 hb01 HL HBOX KEY K2 K3 p0 p1 p2
  go_wp2
  exact bodyPost_ret (v := .tuple #[.pointer (some ⟨w2.heap.size, 0, none⟩), .int .i64 0]) (by simp [results, Try.results9, go_sem]) rfl HRES.out
/-- where it is not, New answers the ground's error -/
theorem new_no (W H : Int) (A : Option Addr) (c : Nat) (l : List Int) (w : World) (hl : Sl w w.heap.size 1 ci A l) (hlen : l.length ≤ 9223372036854775807) (hg : gchk W H l ≠ 0) :
    Calls Try.prog 9 #[.agg #[.int .i64 W, .int .i64 H, .slice A l.length c]] w fun e w' => e = .returned (.tuple #[.pointer none, .int .i64 (gchk W H l)]) ∧ Below w.heap.size w w' := by
  have hw0 : Below w.heap.size w (w.alloc (.cells #[.int .i64 W, .int .i64 H, .slice A l.length c] 24)) := (Below.refl _ _).alloc (Nat.le_refl _) _
  have key := Grid.check_any W H A c l _ ((hl.keep hw0 (Nat.le_refl _)).more hw0.size) hlen
  have hne : (gchk W H l != 0) = true := by rw [bne_iff_ne]; exact hg
  have hbox := heap_alloc_new w (.cells #[.int .i64 W, .int .i64 H, .slice A l.length c] 24)
  have g0 := blk_cell hbox 0
  have g1 := blk_cell hbox 1
  have g2 := blk_cell hbox 2
  simp only [List.getElem?_toArray, List.getElem?_cons_zero, List.getElem?_cons_succ] at g0 g1 g2
  generalize gchk W H l = x at *
  have KEY := Lib.hid key
  clear key hl hbox hg
  go_enter Try.func9, Try.ntmps9
  go_wp2_with fail
  refine KEY.out.mono ?_
  rintro e w1 ⟨rfl, hb1⟩
  have hres := hw0.trans (hb1.mono hw0.size)
  have HRES := Lib.hid hres
  clear hres hb1 KEY g0 g1 g2
  go_wp2
  exact bodyPost_ret (v := .tuple #[.pointer none, .int .i64 x]) (by simp [results, Try.results9, go_sem]) rfl ⟨rfl, HRES.out⟩
set_option maxRecDepth 100000 in
set_option maxHeartbeats 4000000 in
/-- what Ground answers -/
theorem ground_any (Z : Nat) (W H : Int) (A : Option Addr) (c : Nat) (l : List Int) (w : World) (hl : Sl w w.heap.size 1 ci A l) (hA : A = none → l.length = 0 ∧ c = 0) (hlen : l.length ≤ 600) (z0 : w.cell? ⟨Z, 0, none⟩ = some (.int .i64 W)) (z1 : w.cell? ⟨Z, 1, none⟩ = some (.int .i64 H)) (z2 : w.cell? ⟨Z, 2, none⟩ = some (.slice A l.length c)) (zl : Z < w.heap.size) :
    Calls Try.prog 24 #[.pointer (some ⟨Z, 0, none⟩)] w fun e w' => GridSays W H l w e w' := by
  have hw0 : Below w.heap.size w (w.alloc (.cells #[.int .i64 0, .int .i64 0, .slice none 0 0] 24)) := (Below.refl _ _).alloc (Nat.le_refl _) _
  have hbox := heap_alloc_new w (.cells #[.int .i64 0, .int .i64 0, .slice none 0 0] 24)
  have key := copied_any W H A c l _ ((hl.keep hw0 (Nat.le_refl _)).more hw0.size) hA hlen
  have KEY := Lib.hid key
  have HB := Lib.hid hbox
  have HW0 := Lib.hid hw0
  clear key hl hA hbox hw0
  go_enter Try.func24, Try.ntmps24
  go_wp2_with fail
  refine KEY.out.mono ?_
  rintro e w2 ⟨A2, c2, rfl, own2, hb2⟩
  have hr := blk_below HB.out hb2 (lt_of_block HB.out)
  have f0 := blk_free hr 0
  have f1 := blk_free hr 1
  have f2 := blk_free hr 2
  have x0 := blk_cell hr 0
  have x1 := blk_cell hr 1
  have x2 := blk_cell hr 2
  simp only [List.getElem?_toArray, List.getElem?_cons_zero, List.getElem?_cons_succ] at x0 x1 x2
  have hX := lt_of_block hr
  have hne := own2.ne_ hr (by decide)
  have hbb := HW0.out.trans (hb2.mono HW0.out.size)
  have OWN := Lib.hid own2
  have HBB := Lib.hid hbb
  have HNE := Lib.hid hne
  clear own2 hbb hne hr KEY z0 z1 z2 hb2
  go_wp2
  refine bodyPost_ret (v := .agg #[.int .i64 W, .int .i64 H, .slice A2 l.length c2]) (by simp [results, Try.results24, go_sem, x0, x1, x2, f0, f1, f2, hX]) rfl ⟨A2, c2, rfl, ?_, ?_⟩
  · exact ((((OWN.out.mono (by simp)).setCell HNE.out _).setCell HNE.out _).setCell HNE.out _)
  · exact ((HBB.out.setCell (by simp) _).setCell (by simp) _).setCell (by simp) _
end Go.Proofs.Ytpoolpaagbeokaa.Serve

namespace Go.Proofs.Ytpoolpaagbeokaa.Serve
open Go.RowKit Go.Proofs.Ytpoolpaagbeokaa NetLaw BellLaw StarLaw AraLaw Go.Proofs.Ytpoolpaagbeokaa.Net Go.Proofs.Ytpoolpaagbeokaa.Std Go.Proofs.Ytpoolpaagbeokaa.Flow Go.Proofs.Ytpoolpaagbeokaa.Ara Go.Proofs.Ytpoolpaagbeokaa.GroundLaw
open Go.Proofs.Ytpoolpaagbeokaa.GridLaw hiding E
open Go.Proofs.Ytpoolpaagbeokaa.ServeLaw
set_option linter.unusedSimpArgs false
set_option linter.unusedVariables false
theorem sum_le {c : Nat → Nat} {i : Nat} (hi : i < 6) : c i ≤ sum6 c := by
  unfold sum6
  have : i = 0 ∨ i = 1 ∨ i = 2 ∨ i = 3 ∨ i = 4 ∨ i = 5 := by omega
  rcases this with rfl | rfl | rfl | rfl | rfl | rfl <;> omega
theorem run_t3 {T : Sch} {P : Nat → Prop} {N m : Nat} (hT : ∀ i k, T i k = true ↔ i < 3 ∧ ¬ P k) (hm : ∀ k, k < m → ¬ P k) (hm2 : P m ∨ N < m) {n t1 : Nat} {c1 : Nat → Nat} (hr : Run T 0 (fun _ => 0) n t1 c1) (hn : n ≤ N) : Run (T3 m) 0 (fun _ => 0) n t1 c1 ∧ ∀ i, i < 6 → c1 i ≤ m := by
  induction hr with
  | zero => exact ⟨Run.zero, fun i _ => Nat.zero_le _⟩
  | @step n t1 d c1 hr hf ih =>
    obtain ⟨h1, h2⟩ := ih (by omega)
    have hj : (t1 + d) % 6 < 6 := Nat.mod_lt _ (by decide)
    obtain ⟨a1, a2⟩ := (hT _ _).1 hf.yes
    have hlt : c1 ((t1 + d) % 6) < m := by
      rcases Nat.lt_or_ge (c1 ((t1 + d) % 6)) m with h | h
      · exact h
      · exfalso
        have e : c1 ((t1 + d) % 6) = m := Nat.le_antisymm (h2 _ hj) h
        rcases hm2 with hp | hp
        · rw [e] at a2; exact a2 hp
        · have hs := hr.sum
          have hl := sum_le (c := c1) hj
          simp only [sum6] at hs hl
          omega
    refine ⟨Run.step h1 ⟨hf.lt, fun x hx => ?_, t3_yes.2 ⟨a1, hlt⟩⟩, fun i hi => ?_⟩
    · have h3 := hf.no x hx
      rw [t3_no]
      intro ⟨b1, b2⟩
      have := (hT ((t1 + x) % 6) (c1 ((t1 + x) % 6))).2 ⟨b1, hm _ b2⟩
      rw [h3] at this
      cases this
    · unfold bump
      split
      · rename_i e; rw [e]; omega
      · exact h2 i hi
theorem ov_unique {n t : Nat} {l : List E} {ws : List (Int × Int)} {f k k' : Nat} (h : Ov n t l ws f k) (h' : Ov n t l ws f k') : k = k' := by
  obtain ⟨s, h1, h2⟩ := h
  obtain ⟨s', h3, h4⟩ := h'
  exact Nat.le_antisymm (h1.le_over h3 h4) (h3.le_over h1 h2)
/-- three requests alike: none is a step behind another by more than one -/
theorem fair3 {n t f : Nat} {l : List E} {ws : List (Int × Int)} {σ σ' : Nat → Option Slt} (h3 : ∀ i, i < 3 → ∃ g, σ i = some g ∧ g.F.tt = t ∧ g.F.ws = ws ∧ g.f = f ∧ g.k = 0) (hno : ∀ i, 3 ≤ i → σ i = none) {N t1 : Nat} (hr : Run (Tk n l σ) 0 (cnt σ) N t1 (cnt σ')) : ∀ i, i < 3 → cnt σ' i = (N + 2 - i) / 3 := by
  have h0 : cnt σ = fun _ => 0 := by
    funext i
    unfold cnt
    rcases Nat.lt_or_ge i 3 with h | h
    · obtain ⟨g, e, _, _, _, hk⟩ := h3 i h
      rw [e]
      exact hk
    · rw [hno i h]
  rw [h0] at hr
  have hT : ∀ i k, Tk n l σ i k = true ↔ i < 3 ∧ ¬ Ov n t l ws f k := by
    intro i k
    rcases Nat.lt_or_ge i 3 with h | h
    · obtain ⟨g, e, e1, e2, e3, _⟩ := h3 i h
      rw [tk_some e, e1, e2, e3]
      exact ⟨fun x => ⟨h, x⟩, fun x => x.2⟩
    · rw [tk_none (hno i h)]
      exact ⟨fun x => (nomatch x), fun x => absurd x.1 (by omega)⟩
  obtain ⟨m, hm, hm2⟩ : ∃ m, (∀ k, k < m → ¬ Ov n t l ws f k) ∧ (Ov n t l ws f m ∨ N < m) := by
    by_cases hex : ∃ k, Ov n t l ws f k
    · obtain ⟨k, hk⟩ := hex
      exact ⟨k, fun k' hk' h => by have := ov_unique h hk; omega, .inl hk⟩
    · exact ⟨N + 1, fun k _ h => hex ⟨k, h⟩, .inr (Nat.lt_succ_self N)⟩
  exact (fair (run_t3 hT hm hm2 hr (Nat.le_refl _)).1).2.1
theorem SV.init {b0 : Nat} {w : World} {Z : Nat} {W H : Int} {A : Option Addr} {c : Nat} {l : List Int} (hz : w.heap[Z]? = some (.cells #[.int .i64 W, .int .i64 H, .slice A l.length c, .pointer none, .pointer none, .pointer none, .pointer none, .pointer none, .pointer none, .int .i64 0] 84 (0, 0))) (hb : b0 ≤ Z) (ho : Own w b0 3 1 ci (.slice A l.length c) l) (hg : GGood W H l) : SV b0 w Z W H A c l 0 (fun _ => none) (fun _ _ => False) :=
  ⟨hz, hb, ho, hg, by decide, fun _ _ _ e => (nomatch e), fun _ _ _ _ _ _ h => h.elim, fun _ _ _ h => h.elim, fun _ _ _ h => h.elim⟩
section
variable {b0 : Nat} {w w' : World} {Z : Nat} {W H : Int} {AC : Option Addr} {cC : Nat} {l : List Int} {turn : Nat} {σ : Nat → Option Slt} {D : Nat → Nat → Prop}
/-- no slot has taken more than so many steps -/
theorem SV.cnt_le (h : SV b0 w Z W H AC cC l turn σ D) {i : Nat} (hi : i < 6) : cnt σ i ≤ 1001 := by
  unfold cnt
  cases hg : σ i with
  | none => exact Nat.zero_le _
  | some g =>
    have hs := h.slot i hi g hg
    exact hs.sr.run.bound hs.po.cons hs.fo.gd hs.fo.c1 hs.po.fr hs.fo.tt hs.fo.wl hs.po.ws
/-- what is written in a service lies at or above its base -/
theorem SV.lo (h : SV b0 w Z W H AC cC l turn σ D) (ho : Off (fun g => g = Z ∨ DS D g) w w') : Below b0 w w' :=
  ho.below h.size (fun g hg => by
    rcases hg with e | ⟨i, hi, hd⟩
    · rw [e]; exact h.zl
    · exact (h.dom i hi g hd).1)
theorem SV.loZ (h : SV b0 w Z W H AC cC l turn σ D) (ho : Off (fun g => g = Z) w w') : Below b0 w w' := h.lo (ho.more fun _ e => .inl e)
end
end Go.Proofs.Ytpoolpaagbeokaa.Serve

namespace Go.Proofs.Ytpoolpaagbeokaa.Serve
open Go.RowKit Go.Proofs.Ytpoolpaagbeokaa NetLaw BellLaw StarLaw AraLaw Go.Proofs.Ytpoolpaagbeokaa.Net Go.Proofs.Ytpoolpaagbeokaa.Std Go.Proofs.Ytpoolpaagbeokaa.Flow Go.Proofs.Ytpoolpaagbeokaa.Ara Go.Proofs.Ytpoolpaagbeokaa.GroundLaw
open Go.Proofs.Ytpoolpaagbeokaa.GridLaw hiding E
open Go.Proofs.Ytpoolpaagbeokaa.ServeLaw
open Go.Proofs.Ytpoolpaagbeokaa.StarF (slook slook_any slook_zero)
set_option linter.unusedSimpArgs false
set_option linter.unusedVariables false
/-- a request as a value -/
def askV (f t : Int) (Aw : Option Addr) (k cw : Nat) (T : RE) (sm : Bool) : Value :=
  .agg #[.int .i64 f, .int .i64 t, .slice Aw k cw, .int .i64 T.num, .int .i64 T.den, .slice T.A T.k T.c, .int .i64 T.cost, .int .i64 T.done, .bool sm]
def askC (f t : Int) (Aw : Option Addr) (k cw : Nat) (T : RE) (sm : Bool) : Array Value :=
  #[.int .i64 f, .int .i64 t, .slice Aw k cw, .int .i64 T.num, .int .i64 T.den, .slice T.A T.k T.c, .int .i64 T.cost, .int .i64 T.done, .bool sm]
/-- the cells that the search's region reads -/
def SS (X B n m : Nat) (A1 : Option Addr) (c1 : Nat) (f t : Int) (Aw : Option Addr) (k cw : Nat) (w' : World) : Prop :=
  w'.cell? ⟨X, 0, none⟩ = some (.int .i64 n) ∧ w'.cell? ⟨X, 1, none⟩ = some (.slice A1 m c1) ∧ w'.cell? ⟨B, 0, none⟩ = some (.int .i64 f) ∧ w'.cell? ⟨B, 1, none⟩ = some (.int .i64 t) ∧ w'.cell? ⟨B, 2, none⟩ = some (.slice Aw k cw) ∧ X < w'.heap.size ∧ B < w'.heap.size
theorem SS.keep {X B n m : Nat} {A1 : Option Addr} {c1 : Nat} {f t : Int} {Aw : Option Addr} {k cw : Nat} {w1 w2 : World} (h : SS X B n m A1 c1 f t Aw k cw w1) (hb : Below w1.heap.size w1 w2) : SS X B n m A1 c1 f t Aw k cw w2 :=
  ⟨(hb.cell (p := ⟨X, 0, none⟩) h.2.2.2.2.2.1).trans h.1, (hb.cell (p := ⟨X, 1, none⟩) h.2.2.2.2.2.1).trans h.2.1, (hb.cell (p := ⟨B, 0, none⟩) h.2.2.2.2.2.2).trans h.2.2.1, (hb.cell (p := ⟨B, 1, none⟩) h.2.2.2.2.2.2).trans h.2.2.2.1, (hb.cell (p := ⟨B, 2, none⟩) h.2.2.2.2.2.2).trans h.2.2.2.2.1, Nat.lt_of_lt_of_le h.2.2.2.2.2.1 hb.size, Nat.lt_of_lt_of_le h.2.2.2.2.2.2 hb.size⟩
/-- what search answers where it makes one -/
def SearchYes (n f t : Nat) (m : List E) (ws : List (Int × Int)) (w : World) (e : Ending) (w' : World) : Prop :=
  ∃ Z b F Y s, e = .returned (.tuple #[.pointer (some ⟨Z, 0, none⟩), .int .i64 0]) ∧ F.n = n ∧ F.tt = t ∧ F.l = m ∧ F.h = zs n ∧ F.ws = ws ∧ FO F ∧ PO F f ∧ w.heap.size ≤ b ∧ SR b w' Z F Y f 0 s ∧ Below w.heap.size w w'
set_option maxRecDepth 100000 in
set_option maxHeartbeats 8000000 in
theorem search_yes (Z : Nat) (W H : Int) (A : Option Addr) (c : Nat) (l : List Int) (f t : Nat) (Aw : Option Addr) (cw : Nat) (ws : List (Int × Int)) (T : RE) (sm : Bool) (w : World) (hl : Sl w w.heap.size 1 ci A l) (hg : GGood W H l) (hw : Sl w w.heap.size 2 cp Aw ws) (hAw : Aw = none → ws.length = 0 ∧ cw = 0) (hf : f < l.length) (ht : t < l.length) (hy : wcode ws = 0)
    (z0 : w.cell? ⟨Z, 0, none⟩ = some (.int .i64 W)) (z1 : w.cell? ⟨Z, 1, none⟩ = some (.int .i64 H)) (z2 : w.cell? ⟨Z, 2, none⟩ = some (.slice A l.length c)) (zl : Z < w.heap.size) :
    Calls Try.prog 33 #[.pointer (some ⟨Z, 0, none⟩), askV f t Aw ws.length cw T sm] w fun e w' => SearchYes l.length f t (allM W H l l.length) ws w e w' := by
  have hlen := size_bd hg
  have hsx := ask_ok hg (a := f) (b := t) (by omega) (by omega)
  have hw0 : Below w.heap.size w (w.alloc (.cells (askC f t Aw ws.length cw T sm) 86)) := (Below.refl _ _).alloc (Nat.le_refl _) _
  have hbox := heap_alloc_new w (.cells (askC f t Aw ws.length cw T sm) 86)
  have key := NetOf.of_yes W H A c l _ ((hl.keep hw0 (Nat.le_refl _)).more hw0.size) hg
  have x0 := (hw0.cell (p := ⟨Z, 0, none⟩) zl).trans z0
  have x1 := (hw0.cell (p := ⟨Z, 1, none⟩) zl).trans z1
  have x2 := (hw0.cell (p := ⟨Z, 2, none⟩) zl).trans z2
  have KOF := Lib.hid key
  have HBOX := Lib.hid hbox
  have HW0 := Lib.hid hw0
  have HSX := Lib.hid hsx
  have HWS := Lib.hid hw
  have HAW := Lib.hid hAw
  have HL64 := Lib.hid hlen
  clear key hbox hw0 hl hg hw hAw hf ht hsx z0 z1 z2 hlen
  unfold askV
  unfold askC at KOF HBOX HW0 x0 x1 x2
  go_enter Try.func33, Try.ntmps33
  go_wp2_with fail
  refine KOF.out.mono ?_
  rintro e w2 ⟨A1, c1, rfl, own1, hb2⟩
  have hbx2 := blk_below HBOX.out hb2 (lt_of_block HBOX.out)
  have H2 := HW0.out.trans (hb2.mono HW0.out.size)
  have OWN1 := Lib.hid own1
  have HBX2 := Lib.hid hbx2
  have HH2 := Lib.hid H2
  clear own1 hbx2 H2 hb2 KOF HBOX x0 x1 x2
  go_upto_region 2 with fail
  have hbn := heap_alloc_new w2 (.cells #[.int .i64 l.length, .slice A1 (allM W H l l.length).length c1] 52)
  have hB2 := blk_alloc HBX2.out (.cells #[.int .i64 l.length, .slice A1 (allM W H l l.length).length c1] 52)
  have own3 := OWN1.out.alloc (.cells #[.int .i64 l.length, .slice A1 (allM W H l l.length).length c1] 52)
  have H3 := HH2.out.alloc HH2.out.size (.cells #[.int .i64 l.length, .slice A1 (allM W H l l.length).length c1] 52)
  have hA1 : A1 = none → (allM W H l l.length).length = 0 ∧ c1 = 0 := by
    obtain ⟨A9, c9, e9, _, h9⟩ := OWN1.out.form
    injection e9 with e1 e2 e3
    subst e1 e3
    exact h9
  generalize w2.alloc (.cells #[.int .i64 l.length, .slice A1 (allM W H l l.length).length c1] 52) = w3 at hbn hB2 own3 H3 ⊢
  have hss : SS w2.heap.size w.heap.size l.length (allM W H l l.length).length A1 c1 f t Aw ws.length cw w3.drew := ⟨blk_cell hbn 0, blk_cell hbn 1, blk_cell hB2 0, blk_cell hB2 1, blk_cell hB2 2, lt_of_block hbn, lt_of_block hB2⟩
  generalize w2.heap.size = X at hbn hss ⊢
  have hmk : ∀ w, (Instr.makeSlice 22 (.int .i64 (l.length : Int)) (.int .i64 (l.length : Int))).run Try.prog w = .ok (.slice (some ⟨w.heap.size, 0, none⟩) l.length l.length) (w.alloc (.cells (madeCells #[.int .i64 0] l.length) 3)) := run_make_row' (P := Try.prog) 22 3 (.int .i64 0) 8 Try.underlying22 (by kernel_rfl) rfl .i64 .i64 l.length (by have := HL64.out; omega) (by have := HL64.out; omega)
  have h4 : Below w3.drew.heap.size w3.drew (w3.drew.alloc (.cells (madeCells #[.int .i64 0] l.length) 3)) := (Below.refl _ _).alloc (Nat.le_refl _) _
  have ownz := own_madeI l.length w3.drew.heap.size w3.drew (Nat.le_refl _) (by have := HL64.out; omega) rfl
  have HSA := Lib.hid (hss.keep h4)
  have h34 : Below w3.heap.size w3 (w3.drew.alloc (.cells (madeCells #[.int .i64 0] l.length) 3)) := (Below.refl _ _).drew.alloc (Nat.le_refl _) _
  have H4 := H3.trans (h34.mono H3.size)
  have kn := Ara.new_yes l.length f t A1 c1 (allM W H l l.length) (some ⟨w3.drew.heap.size, 0, none⟩) l.length (zs l.length) Aw cw ws (w3.drew.alloc (.cells (madeCells #[.int .i64 0] l.length) 3)) (((own3.sl.2.keep h34 (Nat.le_refl _)).more h34.size)) hA1 (ownz.sl.2.more (Nat.le_refl _)) (fun e => by cases e) ((HWS.out.keep H4 (Nat.le_refl _)).more H4.size) HAW.out HSX.out hy
  have hzl : (zs l.length).length = l.length := by simp [zs]
  rw [hzl] at kn
  have KN := Lib.hid kn
  have HS := Lib.hid hss
  have HH4 := Lib.hid H4
  clear kn hss H4 H3 h34 h4 ownz own3 hbn hB2 hA1 HWS HAW HSX hy OWN1 HBX2 HH2 HW0 hzl
  generalize hq : (allM W H l l.length).length = q at *
  refine Go.wp_region_held_drew (S := SS X w.heap.size l.length q A1 c1 f t Aw ws.length cw) (by kernel_rfl) ?_ (fun hHeld => ?_)
  · exact HS.out
  · skip
    refine Go.wpAnyH_take (fuel := 14) (i := 0) (oi := _) (v := ?_) rfl (by kernel_rfl) (by kernel_rfl) (by kernel_rfl) (fun _ _ _ h => h) (Or.inl ⟨by rfl, ?_⟩) (by assumption) ?_
    rotate_left
    · (intro w hSw; (try dsimp only at hSw); (try unfold SS at hSw); go_simp)
      try with_reducible rfl
    try simp only [Act.put, List.getElem_toArray, List.getElem_cons_succ, List.getElem_cons_zero, List.setIfInBounds_toArray, List.set_cons_zero, List.set_cons_succ]
    refine Go.wpAnyH_take (fuel := 13) (i := 1) (oi := _) (v := ?_) rfl (by kernel_rfl) (by kernel_rfl) (by kernel_rfl) (fun _ _ _ h => h) (Or.inl ⟨by rfl, ?_⟩) (by assumption) ?_
    rotate_left
    · (intro w hSw; (try dsimp only at hSw); (try unfold SS at hSw); go_simp)
      try with_reducible rfl
    try simp only [Act.put, List.getElem_toArray, List.getElem_cons_succ, List.getElem_cons_zero, List.setIfInBounds_toArray, List.set_cons_zero, List.set_cons_succ]
    refine Go.wpAnyH_take (fuel := 12) (i := 2) (oi := _) (v := ?_) rfl (by kernel_rfl) (by kernel_rfl) (by kernel_rfl) (fun _ _ _ h => h) (Or.inl ⟨by rfl, ?_⟩) (by assumption) ?_
    rotate_left
    · (intro w hSw; (try dsimp only at hSw); (try unfold SS at hSw); go_simp)
      try with_reducible rfl
    try simp only [Act.put, List.getElem_toArray, List.getElem_cons_succ, List.getElem_cons_zero, List.setIfInBounds_toArray, List.set_cons_zero, List.set_cons_succ]
    refine Go.wpAnyH_take (fuel := 11) (i := 3) (oi := _) (v := ?_) rfl (by kernel_rfl) (by kernel_rfl) (by kernel_rfl) (fun _ _ _ h => h) (Or.inl ⟨by rfl, ?_⟩) (by assumption) ?_
    rotate_left
    · (intro w hSw; (try dsimp only at hSw); (try unfold SS at hSw); go_simp)
      try with_reducible rfl
    try simp only [Act.put, List.getElem_toArray, List.getElem_cons_succ, List.getElem_cons_zero, List.setIfInBounds_toArray, List.set_cons_zero, List.set_cons_succ]
    refine Go.wpAnyH_take (fuel := 10) (i := 4) (oi := _) (v := ?_) rfl (by kernel_rfl) (by kernel_rfl) (by kernel_rfl) (fun _ _ _ h => h) (Or.inl ⟨by rfl, ?_⟩) (by assumption) ?_
    rotate_left
    · (intro w hSw; (try dsimp only at hSw); (try unfold SS at hSw); go_simp)
      try with_reducible rfl
    try simp only [Act.put, List.getElem_toArray, List.getElem_cons_succ, List.getElem_cons_zero, List.setIfInBounds_toArray, List.set_cons_zero, List.set_cons_succ]
    refine Go.wpAnyH_take (fuel := 9) (i := 5) (oi := _) (v := ?_) rfl (by kernel_rfl) (by kernel_rfl) (by kernel_rfl) (fun _ _ _ h => h) (Or.inl ⟨by rfl, ?_⟩) (by assumption) ?_
    rotate_left
    · (intro w hSw; (try dsimp only at hSw); (try unfold SS at hSw); go_simp)
      try with_reducible rfl
    try simp only [Act.put, List.getElem_toArray, List.getElem_cons_succ, List.getElem_cons_zero, List.setIfInBounds_toArray, List.set_cons_zero, List.set_cons_succ]
    refine Go.wpAnyH_take (fuel := 8) (i := 6) (oi := _) (v := ?_) rfl (by kernel_rfl) (by kernel_rfl) (by kernel_rfl) (fun _ _ _ h => h) (Or.inl ⟨by rfl, ?_⟩) (by assumption) ?_
    rotate_left
    · (intro w hSw; (try dsimp only at hSw); (try unfold SS at hSw); go_simp)
      try with_reducible rfl
    try simp only [Act.put, List.getElem_toArray, List.getElem_cons_succ, List.getElem_cons_zero, List.setIfInBounds_toArray, List.set_cons_zero, List.set_cons_succ]
    refine Go.wpAnyH_take (fuel := 7) (i := 8) (oi := _) (v := ?_) rfl (by kernel_rfl) (by kernel_rfl) (by kernel_rfl) (fun _ _ _ h => h) (Or.inl ⟨by rfl, ?_⟩) (by assumption) ?_
    rotate_left
    · (intro w hSw; (try dsimp only at hSw); (try unfold SS at hSw); go_simp)
      try with_reducible rfl
    try simp only [Act.put, List.getElem_toArray, List.getElem_cons_succ, List.getElem_cons_zero, List.setIfInBounds_toArray, List.set_cons_zero, List.set_cons_succ]
    refine Go.wpAnyH_take (fuel := 6) (i := 9) (oi := _) (v := ?_) rfl (by kernel_rfl) (by kernel_rfl) (by kernel_rfl) (fun _ _ _ h => h) (Or.inl ⟨by rfl, ?_⟩) (by assumption) ?_
    rotate_left
    · (intro w hSw; (try dsimp only at hSw); (try unfold SS at hSw); go_simp)
      try with_reducible rfl
    try simp only [Act.put, List.getElem_toArray, List.getElem_cons_succ, List.getElem_cons_zero, List.setIfInBounds_toArray, List.set_cons_zero, List.set_cons_succ]
    refine Go.wpAnyH_ready (fuel := 5) (rs := [7]) (by kernel_rfl) (by simp) ?_
    refine Go.AllReadyH.cons (o := _) rfl (fun K hK => ?_) Go.AllReadyH.nil
    have HKX := Lib.hid hK
    clear hK
    go_simp
    refine HKX.out.out _ _ HSA.out (fun hHeld2 => ?_)
    clear HKX
    try simp only [Act.put, List.getElem_toArray, List.getElem_cons_succ, List.getElem_cons_zero, List.setIfInBounds_toArray, List.set_cons_zero, List.set_cons_succ]
    refine Go.wpAnyH_ready (fuel := 4) (rs := [10]) (by kernel_rfl) (by simp) ?_
    refine Go.AllReadyH.cons (o := _) rfl (fun K hK => ?_) Go.AllReadyH.nil
    have HKX := Lib.hid hK
    clear hK
    go_simp
    go_at_call 17
    refine KN.out.mono ?_
    rintro e w5 ⟨Zs, F, Y, s, rfl, e1, e2, e3, e4, e5, hO, hP, sr, hb5⟩
    have HBN := Lib.hid hb5
    refine HKX.out.out _ _ (SS.keep HSA.out HBN.out) (fun hHeld3 => ?_)
    clear HKX
    try simp only [Act.put, List.getElem_toArray, List.getElem_cons_succ, List.getElem_cons_zero, List.setIfInBounds_toArray, List.set_cons_zero, List.set_cons_succ]
    refine Go.wpAnyH_take (fuel := 3) (i := 11) (oi := _) (v := ?_) rfl (by kernel_rfl) (by kernel_rfl) (by kernel_rfl) (fun _ _ _ h => h) (Or.inl ⟨by rfl, ?_⟩) (by first | exact hHeld3 | assumption) ?_
    rotate_left
    · (intro w hSw; (try dsimp only at hSw); (try unfold SS at hSw); go_simp)
      try with_reducible rfl
    try simp only [Act.put, List.getElem_toArray, List.getElem_cons_succ, List.getElem_cons_zero, List.setIfInBounds_toArray, List.set_cons_zero, List.set_cons_succ]
    refine Go.wpAnyH_take (fuel := 2) (i := 12) (oi := _) (v := ?_) rfl (by kernel_rfl) (by kernel_rfl) (by kernel_rfl) (fun _ _ _ h => h) (Or.inl ⟨by rfl, ?_⟩) (by first | exact hHeld3 | assumption) ?_
    rotate_left
    · (intro w hSw; (try dsimp only at hSw); (try unfold SS at hSw); go_simp)
      try with_reducible rfl
    try simp only [Act.put, List.getElem_toArray, List.getElem_cons_succ, List.getElem_cons_zero, List.setIfInBounds_toArray, List.set_cons_zero, List.set_cons_succ]
    refine Go.wpAnyH_take (fuel := 1) (i := 13) (oi := _) (v := ?_) rfl (by kernel_rfl) (by kernel_rfl) (by kernel_rfl) (fun _ _ _ h => h) (Or.inl ⟨by rfl, ?_⟩) (by first | exact hHeld3 | assumption) ?_
    rotate_left
    · (intro w hSw; (try dsimp only at hSw); (try unfold SS at hSw); go_simp)
      try with_reducible rfl
    try simp only [Act.put, List.getElem_toArray, List.getElem_cons_succ, List.getElem_cons_zero, List.setIfInBounds_toArray, List.set_cons_zero, List.set_cons_succ]
    refine Go.wpAnyH_take (fuel := 0) (i := 14) (oi := _) (v := ?_) rfl (by kernel_rfl) (by kernel_rfl) (by kernel_rfl) (fun _ _ _ h => h) (Or.inl ⟨by rfl, ?_⟩) (by first | exact hHeld3 | assumption) ?_
    rotate_left
    · (intro w hSw; (try dsimp only at hSw); (try unfold SS at hSw); go_simp)
      try with_reducible rfl
    try simp only [Act.put, List.getElem_toArray, List.getElem_cons_succ, List.getElem_cons_zero, List.setIfInBounds_toArray, List.set_cons_zero, List.set_cons_succ]
    refine Go.wpAnyH_done (by kernel_rfl) ?_ _
    go_wp2_with fail
    exact bodyPost_ret (v := .tuple #[.pointer (some ⟨Zs, 0, none⟩), .int .i64 0]) (by simp [results, Try.results33, go_sem]) rfl ⟨Zs, _, F, Y, s, rfl, e1, e2, e3, e4, e5, hO, hP, HH4.out.size, sr, HH4.out.trans (hb5.mono HH4.out.size)⟩
set_option maxRecDepth 100000 in
set_option maxHeartbeats 8000000 in
theorem search_no (Z : Nat) (W H : Int) (A : Option Addr) (c : Nat) (l : List Int) (f t : Int) (Aw : Option Addr) (cw : Nat) (ws : List (Int × Int)) (T : RE) (sm : Bool) (w : World) (hl : Sl w w.heap.size 1 ci A l) (hg : GGood W H l) (hw : Sl w w.heap.size 2 cp Aw ws) (hAw : Aw = none → ws.length = 0 ∧ cw = 0) (hwl : ws.length ≤ 9223372036854775807) (hx : ncode l.length f t (allM W H l l.length) (zs l.length) ws ≠ 0)
    (z0 : w.cell? ⟨Z, 0, none⟩ = some (.int .i64 W)) (z1 : w.cell? ⟨Z, 1, none⟩ = some (.int .i64 H)) (z2 : w.cell? ⟨Z, 2, none⟩ = some (.slice A l.length c)) (zl : Z < w.heap.size) :
    Calls Try.prog 33 #[.pointer (some ⟨Z, 0, none⟩), askV f t Aw ws.length cw T sm] w fun e w' => e = .returned (.tuple #[.pointer none, .int .i64 (ncode l.length f t (allM W H l l.length) (zs l.length) ws)]) ∧ Below w.heap.size w w' := by
  have hlen := size_bd hg
  have hel : (allM W H l l.length).length ≤ 9223372036854775807 := by have := (ground_good hg).len; omega
  have hw0 : Below w.heap.size w (w.alloc (.cells (askC f t Aw ws.length cw T sm) 86)) := (Below.refl _ _).alloc (Nat.le_refl _) _
  have hbox := heap_alloc_new w (.cells (askC f t Aw ws.length cw T sm) 86)
  have key := NetOf.of_yes W H A c l _ ((hl.keep hw0 (Nat.le_refl _)).more hw0.size) hg
  have x0 := (hw0.cell (p := ⟨Z, 0, none⟩) zl).trans z0
  have x1 := (hw0.cell (p := ⟨Z, 1, none⟩) zl).trans z1
  have x2 := (hw0.cell (p := ⟨Z, 2, none⟩) zl).trans z2
  have KOF := Lib.hid key
  have HBOX := Lib.hid hbox
  have HW0 := Lib.hid hw0
  have HWS := Lib.hid hw
  have HAW := Lib.hid hAw
  have HL64 := Lib.hid hlen
  clear key hbox hw0 hl hg hw hAw  z0 z1 z2 hlen
  unfold askV
  unfold askC at KOF HBOX HW0 x0 x1 x2
  go_enter Try.func33, Try.ntmps33
  go_wp2_with fail
  refine KOF.out.mono ?_
  rintro e w2 ⟨A1, c1, rfl, own1, hb2⟩
  have hbx2 := blk_below HBOX.out hb2 (lt_of_block HBOX.out)
  have H2 := HW0.out.trans (hb2.mono HW0.out.size)
  have OWN1 := Lib.hid own1
  have HBX2 := Lib.hid hbx2
  have HH2 := Lib.hid H2
  clear own1 hbx2 H2 hb2 KOF HBOX x0 x1 x2
  go_upto_region 2 with fail
  have hbn := heap_alloc_new w2 (.cells #[.int .i64 l.length, .slice A1 (allM W H l l.length).length c1] 52)
  have hB2 := blk_alloc HBX2.out (.cells #[.int .i64 l.length, .slice A1 (allM W H l l.length).length c1] 52)
  have own3 := OWN1.out.alloc (.cells #[.int .i64 l.length, .slice A1 (allM W H l l.length).length c1] 52)
  have H3 := HH2.out.alloc HH2.out.size (.cells #[.int .i64 l.length, .slice A1 (allM W H l l.length).length c1] 52)
  have hA1 : A1 = none → (allM W H l l.length).length = 0 ∧ c1 = 0 := by
    obtain ⟨A9, c9, e9, _, h9⟩ := OWN1.out.form
    injection e9 with e1 e2 e3
    subst e1 e3
    exact h9
  generalize w2.alloc (.cells #[.int .i64 l.length, .slice A1 (allM W H l l.length).length c1] 52) = w3 at hbn hB2 own3 H3 ⊢
  have hss : SS w2.heap.size w.heap.size l.length (allM W H l l.length).length A1 c1 f t Aw ws.length cw w3.drew := ⟨blk_cell hbn 0, blk_cell hbn 1, blk_cell hB2 0, blk_cell hB2 1, blk_cell hB2 2, lt_of_block hbn, lt_of_block hB2⟩
  generalize w2.heap.size = X at hbn hss ⊢
  have hmk : ∀ w, (Instr.makeSlice 22 (.int .i64 (l.length : Int)) (.int .i64 (l.length : Int))).run Try.prog w = .ok (.slice (some ⟨w.heap.size, 0, none⟩) l.length l.length) (w.alloc (.cells (madeCells #[.int .i64 0] l.length) 3)) := run_make_row' (P := Try.prog) 22 3 (.int .i64 0) 8 Try.underlying22 (by kernel_rfl) rfl .i64 .i64 l.length (by have := HL64.out; omega) (by have := HL64.out; omega)
  have h4 : Below w3.drew.heap.size w3.drew (w3.drew.alloc (.cells (madeCells #[.int .i64 0] l.length) 3)) := (Below.refl _ _).alloc (Nat.le_refl _) _
  have ownz := own_madeI l.length w3.drew.heap.size w3.drew (Nat.le_refl _) (by have := HL64.out; omega) rfl
  have HSA := Lib.hid (hss.keep h4)
  have h34 : Below w3.heap.size w3 (w3.drew.alloc (.cells (madeCells #[.int .i64 0] l.length) 3)) := (Below.refl _ _).drew.alloc (Nat.le_refl _) _
  have H4 := H3.trans (h34.mono H3.size)
  have kn := Ara.new_no l.length f t A1 c1 (allM W H l l.length) (some ⟨w3.drew.heap.size, 0, none⟩) l.length (zs l.length) Aw cw ws (w3.drew.alloc (.cells (madeCells #[.int .i64 0] l.length) 3)) (((own3.sl.2.keep h34 (Nat.le_refl _)).more h34.size)) (ownz.sl.2.more (Nat.le_refl _)) ((HWS.out.keep H4 (Nat.le_refl _)).more H4.size) hel (by have := HL64.out; simp [zs]; omega) hwl hx
  have hzl : (zs l.length).length = l.length := by simp [zs]
  rw [hzl] at kn
  have KN := Lib.hid kn
  have HS := Lib.hid hss
  have HH4 := Lib.hid H4
  clear kn hss H4 H3 h34 h4 ownz own3 hbn hB2 hA1 HWS HAW hx hel OWN1 HBX2 HH2 HW0 hzl
  generalize hq : (allM W H l l.length).length = q at *
  obtain ⟨z, hz⟩ : ∃ z, ncode l.length f t (allM W H l l.length) (zs l.length) ws = z := ⟨_, rfl⟩
  rw [hz] at KN
  have HZ := Lib.hid hz
  clear hz
  refine Go.wp_region_held_drew (S := SS X w.heap.size l.length q A1 c1 f t Aw ws.length cw) (by kernel_rfl) ?_ (fun hHeld => ?_)
  · exact HS.out
  · skip
    refine Go.wpAnyH_take (fuel := 14) (i := 0) (oi := _) (v := ?_) rfl (by kernel_rfl) (by kernel_rfl) (by kernel_rfl) (fun _ _ _ h => h) (Or.inl ⟨by rfl, ?_⟩) (by assumption) ?_
    rotate_left
    · (intro w hSw; (try dsimp only at hSw); (try unfold SS at hSw); go_simp)
      try with_reducible rfl
    try simp only [Act.put, List.getElem_toArray, List.getElem_cons_succ, List.getElem_cons_zero, List.setIfInBounds_toArray, List.set_cons_zero, List.set_cons_succ]
    refine Go.wpAnyH_take (fuel := 13) (i := 1) (oi := _) (v := ?_) rfl (by kernel_rfl) (by kernel_rfl) (by kernel_rfl) (fun _ _ _ h => h) (Or.inl ⟨by rfl, ?_⟩) (by assumption) ?_
    rotate_left
    · (intro w hSw; (try dsimp only at hSw); (try unfold SS at hSw); go_simp)
      try with_reducible rfl
    try simp only [Act.put, List.getElem_toArray, List.getElem_cons_succ, List.getElem_cons_zero, List.setIfInBounds_toArray, List.set_cons_zero, List.set_cons_succ]
    refine Go.wpAnyH_take (fuel := 12) (i := 2) (oi := _) (v := ?_) rfl (by kernel_rfl) (by kernel_rfl) (by kernel_rfl) (fun _ _ _ h => h) (Or.inl ⟨by rfl, ?_⟩) (by assumption) ?_
    rotate_left
    · (intro w hSw; (try dsimp only at hSw); (try unfold SS at hSw); go_simp)
      try with_reducible rfl
    try simp only [Act.put, List.getElem_toArray, List.getElem_cons_succ, List.getElem_cons_zero, List.setIfInBounds_toArray, List.set_cons_zero, List.set_cons_succ]
    refine Go.wpAnyH_take (fuel := 11) (i := 3) (oi := _) (v := ?_) rfl (by kernel_rfl) (by kernel_rfl) (by kernel_rfl) (fun _ _ _ h => h) (Or.inl ⟨by rfl, ?_⟩) (by assumption) ?_
    rotate_left
    · (intro w hSw; (try dsimp only at hSw); (try unfold SS at hSw); go_simp)
      try with_reducible rfl
    try simp only [Act.put, List.getElem_toArray, List.getElem_cons_succ, List.getElem_cons_zero, List.setIfInBounds_toArray, List.set_cons_zero, List.set_cons_succ]
    refine Go.wpAnyH_take (fuel := 10) (i := 4) (oi := _) (v := ?_) rfl (by kernel_rfl) (by kernel_rfl) (by kernel_rfl) (fun _ _ _ h => h) (Or.inl ⟨by rfl, ?_⟩) (by assumption) ?_
    rotate_left
    · (intro w hSw; (try dsimp only at hSw); (try unfold SS at hSw); go_simp)
      try with_reducible rfl
    try simp only [Act.put, List.getElem_toArray, List.getElem_cons_succ, List.getElem_cons_zero, List.setIfInBounds_toArray, List.set_cons_zero, List.set_cons_succ]
    refine Go.wpAnyH_take (fuel := 9) (i := 5) (oi := _) (v := ?_) rfl (by kernel_rfl) (by kernel_rfl) (by kernel_rfl) (fun _ _ _ h => h) (Or.inl ⟨by rfl, ?_⟩) (by assumption) ?_
    rotate_left
    · (intro w hSw; (try dsimp only at hSw); (try unfold SS at hSw); go_simp)
      try with_reducible rfl
    try simp only [Act.put, List.getElem_toArray, List.getElem_cons_succ, List.getElem_cons_zero, List.setIfInBounds_toArray, List.set_cons_zero, List.set_cons_succ]
    refine Go.wpAnyH_take (fuel := 8) (i := 6) (oi := _) (v := ?_) rfl (by kernel_rfl) (by kernel_rfl) (by kernel_rfl) (fun _ _ _ h => h) (Or.inl ⟨by rfl, ?_⟩) (by assumption) ?_
    rotate_left
    · (intro w hSw; (try dsimp only at hSw); (try unfold SS at hSw); go_simp)
      try with_reducible rfl
    try simp only [Act.put, List.getElem_toArray, List.getElem_cons_succ, List.getElem_cons_zero, List.setIfInBounds_toArray, List.set_cons_zero, List.set_cons_succ]
    refine Go.wpAnyH_take (fuel := 7) (i := 8) (oi := _) (v := ?_) rfl (by kernel_rfl) (by kernel_rfl) (by kernel_rfl) (fun _ _ _ h => h) (Or.inl ⟨by rfl, ?_⟩) (by assumption) ?_
    rotate_left
    · (intro w hSw; (try dsimp only at hSw); (try unfold SS at hSw); go_simp)
      try with_reducible rfl
    try simp only [Act.put, List.getElem_toArray, List.getElem_cons_succ, List.getElem_cons_zero, List.setIfInBounds_toArray, List.set_cons_zero, List.set_cons_succ]
    refine Go.wpAnyH_take (fuel := 6) (i := 9) (oi := _) (v := ?_) rfl (by kernel_rfl) (by kernel_rfl) (by kernel_rfl) (fun _ _ _ h => h) (Or.inl ⟨by rfl, ?_⟩) (by assumption) ?_
    rotate_left
    · (intro w hSw; (try dsimp only at hSw); (try unfold SS at hSw); go_simp)
      try with_reducible rfl
    try simp only [Act.put, List.getElem_toArray, List.getElem_cons_succ, List.getElem_cons_zero, List.setIfInBounds_toArray, List.set_cons_zero, List.set_cons_succ]
    refine Go.wpAnyH_ready (fuel := 5) (rs := [7]) (by kernel_rfl) (by simp) ?_
    refine Go.AllReadyH.cons (o := _) rfl (fun K hK => ?_) Go.AllReadyH.nil
    have HKX := Lib.hid hK
    clear hK
    go_simp
    refine HKX.out.out _ _ HSA.out (fun hHeld2 => ?_)
    clear HKX
    try simp only [Act.put, List.getElem_toArray, List.getElem_cons_succ, List.getElem_cons_zero, List.setIfInBounds_toArray, List.set_cons_zero, List.set_cons_succ]
    refine Go.wpAnyH_ready (fuel := 4) (rs := [10]) (by kernel_rfl) (by simp) ?_
    refine Go.AllReadyH.cons (o := _) rfl (fun K hK => ?_) Go.AllReadyH.nil
    have HKX := Lib.hid hK
    clear hK
    go_simp
    go_at_call 17
    refine KN.out.mono ?_
    rintro e w5 ⟨rfl, hb5⟩
    have HBN := Lib.hid hb5
    refine HKX.out.out _ _ (SS.keep HSA.out HBN.out) (fun hHeld3 => ?_)
    clear HKX
    try simp only [Act.put, List.getElem_toArray, List.getElem_cons_succ, List.getElem_cons_zero, List.setIfInBounds_toArray, List.set_cons_zero, List.set_cons_succ]
    refine Go.wpAnyH_take (fuel := 3) (i := 11) (oi := _) (v := ?_) rfl (by kernel_rfl) (by kernel_rfl) (by kernel_rfl) (fun _ _ _ h => h) (Or.inl ⟨by rfl, ?_⟩) (by first | exact hHeld3 | assumption) ?_
    rotate_left
    · (intro w hSw; (try dsimp only at hSw); (try unfold SS at hSw); go_simp)
      try with_reducible rfl
    try simp only [Act.put, List.getElem_toArray, List.getElem_cons_succ, List.getElem_cons_zero, List.setIfInBounds_toArray, List.set_cons_zero, List.set_cons_succ]
    refine Go.wpAnyH_take (fuel := 2) (i := 12) (oi := _) (v := ?_) rfl (by kernel_rfl) (by kernel_rfl) (by kernel_rfl) (fun _ _ _ h => h) (Or.inl ⟨by rfl, ?_⟩) (by first | exact hHeld3 | assumption) ?_
    rotate_left
    · (intro w hSw; (try dsimp only at hSw); (try unfold SS at hSw); go_simp)
      try with_reducible rfl
    try simp only [Act.put, List.getElem_toArray, List.getElem_cons_succ, List.getElem_cons_zero, List.setIfInBounds_toArray, List.set_cons_zero, List.set_cons_succ]
    refine Go.wpAnyH_take (fuel := 1) (i := 13) (oi := _) (v := ?_) rfl (by kernel_rfl) (by kernel_rfl) (by kernel_rfl) (fun _ _ _ h => h) (Or.inl ⟨by rfl, ?_⟩) (by first | exact hHeld3 | assumption) ?_
    rotate_left
    · (intro w hSw; (try dsimp only at hSw); (try unfold SS at hSw); go_simp)
      try with_reducible rfl
    try simp only [Act.put, List.getElem_toArray, List.getElem_cons_succ, List.getElem_cons_zero, List.setIfInBounds_toArray, List.set_cons_zero, List.set_cons_succ]
    refine Go.wpAnyH_take (fuel := 0) (i := 14) (oi := _) (v := ?_) rfl (by kernel_rfl) (by kernel_rfl) (by kernel_rfl) (fun _ _ _ h => h) (Or.inl ⟨by rfl, ?_⟩) (by first | exact hHeld3 | assumption) ?_
    rotate_left
    · (intro w hSw; (try dsimp only at hSw); (try unfold SS at hSw); go_simp)
      try with_reducible rfl
    try simp only [Act.put, List.getElem_toArray, List.getElem_cons_succ, List.getElem_cons_zero, List.setIfInBounds_toArray, List.set_cons_zero, List.set_cons_succ]
    refine Go.wpAnyH_done (by kernel_rfl) ?_ _
    go_wp2_with fail
    exact bodyPost_ret (v := .tuple #[.pointer none, .int .i64 z]) (by simp [results, Try.results33, go_sem]) rfl ⟨by rw [HZ.out], HH4.out.trans (hb5.mono HH4.out.size)⟩
end Go.Proofs.Ytpoolpaagbeokaa.Serve

namespace Go.Proofs.Ytpoolpaagbeokaa.Serve
open Go.RowKit Go.Proofs.Ytpoolpaagbeokaa NetLaw BellLaw StarLaw AraLaw Go.Proofs.Ytpoolpaagbeokaa.Net Go.Proofs.Ytpoolpaagbeokaa.Std Go.Proofs.Ytpoolpaagbeokaa.Flow Go.Proofs.Ytpoolpaagbeokaa.Ara Go.Proofs.Ytpoolpaagbeokaa.GroundLaw
open Go.Proofs.Ytpoolpaagbeokaa.GridLaw hiding E
open Go.Proofs.Ytpoolpaagbeokaa.ServeLaw
set_option linter.unusedSimpArgs false
set_option linter.unusedVariables false
section
variable {b0 : Nat} {w w' : World} {Z : Nat} {W H : Int} {AC : Option Addr} {cC : Nat} {l : List Int} {turn : Nat} {σ : Nat → Option Slt} {D : Nat → Nat → Prop}
theorem SV.nil_ (h : SV b0 w Z W H AC cC l turn σ D) : AC = none → l.length = 0 ∧ cC = 0 := by
  obtain ⟨A9, c9, e9, _, h9⟩ := h.cells.form
  injection e9 with e1 e2 e3
  subst e1 e3
  exact h9
/-- what Ask answers where a search is made: a slot is taken, or all are -/
def AskSays (b0 : Nat) (w : World) (Z : Nat) (W H : Int) (AC : Option Addr) (cC : Nat) (l : List Int) (turn : Nat) (σ : Nat → Option Slt) (D : Nat → Nat → Prop) (f t : Nat) (ws : List (Int × Int)) (i : Nat) (e : Ending) (w' : World) : Prop :=
  (i = 6 ∧ e = .returned (.tuple #[.int .i64 0, .int .i64 10]) ∧ Below w.heap.size w w') ∨
  (i < 6 ∧ ∃ g D', e = .returned (.tuple #[.int .i64 i, .int .i64 0]) ∧ SV b0 w' Z W H AC cC l turn (upd1 σ i (some g)) (upd1 D i D') ∧ Off (fun x => x = Z) w w' ∧ g.f = f ∧ g.F.tt = t ∧ g.F.ws = ws ∧ g.k = 0 ∧ g.sm = false ∧ ∀ x, D' x → w.heap.size ≤ x)

set_option maxRecDepth 100000 in
set_option maxHeartbeats 8000000 in
theorem ask_no (h : SV b0 w Z W H AC cC l turn σ D) (f t : Int) (Aw : Option Addr) (cw : Nat) (ws : List (Int × Int)) (hw : Sl w w.heap.size 2 cp Aw ws) (hAw : Aw = none → ws.length = 0 ∧ cw = 0) (hwl : ws.length ≤ 1048576) (hx : ncode l.length f t (allM W H l l.length) (zs l.length) ws ≠ 0) :
    Calls Try.prog 11 #[.pointer (some ⟨Z, 0, none⟩), .int .i64 f, .int .i64 t, .slice Aw ws.length cw] w fun e w' => e = .returned (.tuple #[.int .i64 0, .int .i64 (ncode l.length f t (allM W H l l.length) (zs l.length) ws)]) ∧ Below w.heap.size w w' := by
  obtain ⟨i1, hi1, hy0, hy1, hy2⟩ := info_parts infoRatioN
  have SV0 := Lib.hid h
  have HW := Lib.hid hw
  have HAW := Lib.hid hAw
  have HX := Lib.hid hx
  
  
  clear h hw hAw hx
  go_enter Try.func11, Try.ntmps11
  go_upto_region 2 with (at_builtin; go_must (refine wpList_pushAll _ rfl (.const (.slice none 0 0)) (.tmp 17) _ rfl w.heap.size 39 i1 _ 2 16 cp Try.underlying26 hi1 hy0 hy1 hy2 rfl (by decide) _ [] 0 rfl rfl Own.nil_ w.heap.size Aw ws.length cw ws rfl rfl HAW.out HW.out one_cp (by omega) (by omega) (Nat.le_refl _) ?_; intro A1 c1 w1 hown1 hgrow1 hat1; simp only [Nat.zero_add, List.nil_append] at hown1; have HB1 := Lib.hid ((Below.refl w.heap.size w).grown hgrow1 (Nat.le_refl _) (fun k hk => by cases hk)); have HO1 := Lib.hid hown1; clear hown1 hgrow1 hat1))
  have hbx := heap_alloc_new w1 (.cells (askC f t A1 ws.length c1 T0 false) 86)
  have hb12 : Below w1.heap.size w1 (w1.alloc (.cells (askC f t A1 ws.length c1 T0 false) 86)) := (Below.refl _ _).alloc (Nat.le_refl _) _
  have hA1 : A1 = none → ws.length = 0 ∧ c1 = 0 := by
    obtain ⟨A9, c9, e9, _, h9⟩ := HO1.out.form
    injection e9 with e1 e2 e3
    subst e1 e3
    exact h9
  have hle := HB1.out.size
  unfold askC T0 at hbx hb12
  dsimp only at hbx hb12
  have SV2 := Lib.hid (SV0.out.keep (HB1.out.trans (hb12.mono hle)))
  have HB2 := Lib.hid (HB1.out.trans (hb12.mono hle))
  have HO2 := Lib.hid (HO1.out.keep hb12)
  generalize hw2 : w1.alloc _ = w2 at hbx hb12 SV2 HB2 HO2 ⊢
  have hX1 : w.heap.size ≤ w1.heap.size := hle
  generalize hX : w1.heap.size = X at hbx hX1 ⊢
  clear hw2 hX hb12 hle HB1 HO1 HW HAW
  obtain ⟨z0, z1, z2, _, _, zp⟩ := SV2.out.zs
  have hn := SV2.out.nil_
  have ks := search_no Z W H AC cC l f t A1 c1 ws T0 false w2 SV2.out.cells.sl.2 SV2.out.good HO2.out.sl.2 hA1 (by omega) HX.out z0 z1 z2 zp
  unfold askV T0 at ks
  dsimp only at ks
  have KS := Lib.hid ks
  have HBX := Lib.hid hbx
  have x0 := blk_cell hbx 0
  have x1 := blk_cell hbx 1
  have x2 := blk_cell hbx 2
  have x3 := blk_cell hbx 3
  have x4 := blk_cell hbx 4
  have x5 := blk_cell hbx 5
  have x6 := blk_cell hbx 6
  have x7 := blk_cell hbx 7
  have x8 := blk_cell hbx 8
  have zX := lt_of_block hbx
  simp only [List.getElem?_toArray, List.getElem?_cons_zero, List.getElem?_cons_succ] at x0 x1 x2 x3 x4 x5 x6 x7 x8
  clear ks hbx hA1 hn z0 z1 z2
  generalize hcode : ncode l.length f t (allM W H l l.length) (zs l.length) ws = cd at *
  have hcd : (cd != 0) = true := by rw [bne_iff_ne]; exact HX.out
  have HC := Lib.hid hcode
  clear HX hcode
  go_wp2_with fail
  refine KS.out.mono ?_
  rintro e w3 ⟨rfl, hb3⟩
  have HB3 := Lib.hid (HB2.out.trans (hb3.mono HB2.out.size))
  clear hb3 HB2 KS x0 x1 x2 x3 x4 x5 x6 x7 x8 zX SV2
  go_wp2
  exact bodyPost_ret (v := .tuple #[.int .i64 0, .int .i64 cd]) (by simp [results, Try.results11, go_sem]) rfl ⟨by rw [HC.out], HB3.out⟩
set_option maxRecDepth 100000 in
set_option maxHeartbeats 8000000 in
theorem ask_yes (h : SV b0 w Z W H AC cC l turn σ D) (f t : Nat) (Aw : Option Addr) (cw : Nat) (ws : List (Int × Int)) (hw : Sl w w.heap.size 2 cp Aw ws) (hAw : Aw = none → ws.length = 0 ∧ cw = 0) (hwl : ws.length ≤ 1048576) (hf : f < l.length) (ht : t < l.length) (hy : wcode ws = 0) (i : Nat) (hi : i ≤ 6) (hfree : i < 6 → σ i = none) (hfull : ∀ j, j < i → σ j ≠ none) :
    Calls Try.prog 11 #[.pointer (some ⟨Z, 0, none⟩), .int .i64 f, .int .i64 t, .slice Aw ws.length cw] w fun e w' => AskSays b0 w Z W H AC cC l turn σ D f t ws i e w' := by
  obtain ⟨i1, hi1, hy0, hy1, hy2⟩ := info_parts infoRatioN
  have SV0 := Lib.hid h
  have HW := Lib.hid hw
  have HAW := Lib.hid hAw
  have HX := Lib.hid (And.intro hf (And.intro ht hy))
  have HFR := Lib.hid hfree
  have HFU := Lib.hid hfull
  clear h hw hAw hf ht hy hfree hfull
  go_enter Try.func11, Try.ntmps11
  go_upto_region 2 with (at_builtin; go_must (refine wpList_pushAll _ rfl (.const (.slice none 0 0)) (.tmp 17) _ rfl w.heap.size 39 i1 _ 2 16 cp Try.underlying26 hi1 hy0 hy1 hy2 rfl (by decide) _ [] 0 rfl rfl Own.nil_ w.heap.size Aw ws.length cw ws rfl rfl HAW.out HW.out one_cp (by omega) (by omega) (Nat.le_refl _) ?_; intro A1 c1 w1 hown1 hgrow1 hat1; simp only [Nat.zero_add, List.nil_append] at hown1; have HB1 := Lib.hid ((Below.refl w.heap.size w).grown hgrow1 (Nat.le_refl _) (fun k hk => by cases hk)); have HO1 := Lib.hid hown1; clear hown1 hgrow1 hat1))
  have hbx := heap_alloc_new w1 (.cells (askC f t A1 ws.length c1 T0 false) 86)
  have hb12 : Below w1.heap.size w1 (w1.alloc (.cells (askC f t A1 ws.length c1 T0 false) 86)) := (Below.refl _ _).alloc (Nat.le_refl _) _
  have hA1 : A1 = none → ws.length = 0 ∧ c1 = 0 := by
    obtain ⟨A9, c9, e9, _, h9⟩ := HO1.out.form
    injection e9 with e1 e2 e3
    subst e1 e3
    exact h9
  have hle := HB1.out.size
  unfold askC T0 at hbx hb12
  dsimp only at hbx hb12
  have SV2 := Lib.hid (SV0.out.keep (HB1.out.trans (hb12.mono hle)))
  have HB2 := Lib.hid (HB1.out.trans (hb12.mono hle))
  have HO2 := Lib.hid (HO1.out.keep hb12)
  generalize hw2 : w1.alloc _ = w2 at hbx hb12 SV2 HB2 HO2 ⊢
  have hX1 : w.heap.size ≤ w1.heap.size := hle
  generalize hX : w1.heap.size = X at hbx hX1 ⊢
  clear hw2 hX hb12 hle HB1 HO1 HW HAW
  obtain ⟨z0, z1, z2, _, _, zp⟩ := SV2.out.zs
  have hn := SV2.out.nil_
  have ks := search_yes Z W H AC cC l f t A1 c1 ws T0 false w2 SV2.out.cells.sl.2 SV2.out.good HO2.out.sl.2 hA1 HX.out.1 HX.out.2.1 HX.out.2.2 z0 z1 z2 zp
  unfold askV T0 at ks
  dsimp only at ks
  have KS := Lib.hid ks
  have HBX := Lib.hid hbx
  have x0 := blk_cell hbx 0
  have x1 := blk_cell hbx 1
  have x2 := blk_cell hbx 2
  have x3 := blk_cell hbx 3
  have x4 := blk_cell hbx 4
  have x5 := blk_cell hbx 5
  have x6 := blk_cell hbx 6
  have x7 := blk_cell hbx 7
  have x8 := blk_cell hbx 8
  have zX := lt_of_block hbx
  simp only [List.getElem?_toArray, List.getElem?_cons_zero, List.getElem?_cons_succ] at x0 x1 x2 x3 x4 x5 x6 x7 x8
  clear ks hbx hA1 hn z0 z1 z2
  
  
  
  
  go_wp2_with fail
  refine KS.out.mono ?_
  rintro e w3 ⟨P, b, FF, Y, s, rfl, e1, e2, e3, e4, e5, hO, hP, hbl, sr, hb3⟩
  have HB3 := Lib.hid (HB2.out.trans (hb3.mono HB2.out.size))
  have SV3 := Lib.hid (SV2.out.keep hb3)
  have HO3 := Lib.hid (HO2.out.keep hb3)
  have HBX3 := Lib.hid (blk_below HBX.out hb3 (lt_of_block HBX.out))
  have HSR := Lib.hid sr
  have HFO := Lib.hid hO
  have HPO := Lib.hid hP
  have HE := Lib.hid (And.intro e1 (And.intro e2 (And.intro e3 (And.intro e4 e5))))
  have hb2 : w2.heap.size ≤ b := hbl
  have HO2b := Lib.hid (fun x (e : ob A1 = some x) => (HO2.out.base_ x ((ob_ ..).trans e)).2)
  have hXlt : X < w2.heap.size := zX
  have HY := Lib.hid HX.out.2.2
  clear hb3 sr hO hP e1 e2 e3 e4 e5 hbl KS x0 x1 x2 x3 x4 x5 x6 x7 x8 zX SV2 HB2 HO2 HBX HX
  obtain ⟨z0, z1, z2, _, _, zp⟩ := SV3.out.zs
  have a0 : w3.cell? ⟨Z, 3, none⟩ = some (sp (σ 0)) := (SV3.out.at_ (i := 0) (by decide)).1
  have a1 : w3.cell? ⟨Z, 4, none⟩ = some (sp (σ 1)) := (SV3.out.at_ (i := 1) (by decide)).1
  have a2 : w3.cell? ⟨Z, 5, none⟩ = some (sp (σ 2)) := (SV3.out.at_ (i := 2) (by decide)).1
  have a3 : w3.cell? ⟨Z, 6, none⟩ = some (sp (σ 3)) := (SV3.out.at_ (i := 3) (by decide)).1
  have a4 : w3.cell? ⟨Z, 7, none⟩ = some (sp (σ 4)) := (SV3.out.at_ (i := 4) (by decide)).1
  have a5 : w3.cell? ⟨Z, 8, none⟩ = some (sp (σ 5)) := (SV3.out.at_ (i := 5) (by decide)).1
  go_wp2
  go_loopw [33] (fun j wr => ∃ k : Nat, j = .int .i64 k ∧ k ≤ i ∧ wr = w3) (fun j _ => 6 - (intOf j).toNat)
  case atStart => exact ⟨0, rfl, Nat.zero_le _, rfl⟩
  case round =>
    obtain ⟨k, rfl, hki, rfl⟩ := hrel
    clear a0 a1 a2 a3 a4 a5
    by_cases hk6 : k < 6
    · have hidx : ∀ u, (Instr.index 82 (.agg #[sp (σ 0), sp (σ 1), sp (σ 2), sp (σ 3), sp (σ 4), sp (σ 5)]) (.int .i64 (k : Int))).run Try.prog u = .ok (sp (σ k)) u := by
        have hc : k = 0 ∨ k = 1 ∨ k = 2 ∨ k = 3 ∨ k = 4 ∨ k = 5 := by omega
        intro u
        rcases hc with rfl | rfl | rfl | rfl | rfl | rfl <;> rfl
      have zk : (k : Int) < 6 := by omega
      by_cases hlt : k < i
      · have hsome := HFU.out k hlt
        obtain ⟨g, hg⟩ : ∃ g, σ k = some g := by
          cases hq : σ k with
          | none => exact absurd hq hsome
          | some g => exact ⟨g, rfl⟩
        rw [hg] at hidx
        have hidx2 : ∀ u, (Instr.index 82 (.agg #[sp (σ 0), sp (σ 1), sp (σ 2), sp (σ 3), sp (σ 4), sp (σ 5)]) (.int .i64 (k : Int))).run Try.prog u = .ok (.pointer (some ⟨g.Q, 0, none⟩)) u := hidx
        have HG := Lib.hid hg
        clear hidx hsome hg
        go_wp2
        go_roundw
        case rel => exact ⟨k + 1, by go_num, hlt, by trivial⟩
        case measure => simp [intOf]; omega
      · obtain rfl : k = i := by omega
        have hn := HFR.out hk6
        rw [hn] at hidx
        have hidx2 : ∀ u, (Instr.index 82 (.agg #[sp (σ 0), sp (σ 1), sp (σ 2), sp (σ 3), sp (σ 4), sp (σ 5)]) (.int .i64 (k : Int))).run Try.prog u = .ok (.pointer none) u := hidx
        have HN := Lib.hid hn
        clear hidx hn
        go_upto_region 9 with fail
        obtain ⟨y1, y2⟩ := SV3.out.at_ hk6
        rw [HN.out] at y1
        change wr.cell? _ = some (.pointer none) at y1
        have x0 := blk_cell HBX3.out 0
        have x1 := blk_cell HBX3.out 1
        have x2 := blk_cell HBX3.out 2
        have x3 := blk_cell HBX3.out 3
        have x4 := blk_cell HBX3.out 4
        have x5 := blk_cell HBX3.out 5
        have x6 := blk_cell HBX3.out 6
        have x7 := blk_cell HBX3.out 7
        have x8 := blk_cell HBX3.out 8
        have zX := lt_of_block HBX3.out
        simp only [List.getElem?_toArray, List.getElem?_cons_zero, List.getElem?_cons_succ] at x0 x1 x2 x3 x4 x5 x6 x7 x8
        clear hidx2 HFR HFU z0 z1 z2
        have HSW := Lib.hid (show ∀ o : Obj, (wr.setCell ⟨Z, 3 + k, none⟩ (.pointer (some ⟨wr.heap.size, 0, none⟩))).alloc o = (wr.alloc o).setCell ⟨Z, 3 + k, none⟩ (.pointer (some ⟨wr.heap.size, 0, none⟩))  from fun o => (World.setCell_alloc_past o Z (3 + k) _ zp).symm)
        obtain ⟨e1, e2, e3, e4, e5⟩ := HE.out
        have hba := (Below.refl wr.heap.size wr).alloc (Nat.le_refl _) (.cells (slotC ⟨wr.heap.size, P, b, FF, Y, s, f, 0, A1, c1, T0, false⟩) 89)
        have hzb := heap_alloc_new wr (.cells (slotC ⟨wr.heap.size, P, b, FF, Y, s, f, 0, A1, c1, T0, false⟩) 89)
        have hall : ∀ x, All P FF Y x → b ≤ x ∧ x < wr.heap.size := fun x ha => HSR.out.sm.am.all ha
        have hfr := SL.fresh (b0 := b0) (m := w.heap.size) (w := wr.alloc (.cells (slotC ⟨wr.heap.size, P, b, FF, Y, s, f, 0, A1, c1, T0, false⟩) 89)) (n := l.length) (l := allM W H l l.length) (g := ⟨wr.heap.size, P, b, FF, Y, s, f, 0, A1, c1, T0, false⟩) SV0.out.size hzb HB3.out.size rfl (HSR.out.keep hba) (by dsimp only; omega) HFO.out HPO.out ⟨e1, e3, e4⟩ (by dsimp only; rw [e5]; exact HY.out)
          (by dsimp only; rw [e5]; exact HO3.out.keep hba) (fun x hx ha => by
            have h1 := hall x ha
            rcases hx with e | e
            · dsimp only at e; omega
            · have h2 := HO2b.out x e; omega)
        have hadd := SV0.out.add (HB3.out.trans (hba.mono HB3.out.size)) hk6 HN.out hfr
        have ha1 := hadd.1.keepD
        have ha2 := (hadd.2.below_ (below_drewN (Below.refl _ _) 1))
        have hres : AskSays b0 w Z W H AC cC l turn σ D f t ws k (.returned (.tuple #[.int .i64 k, .int .i64 0])) ((wr.setCell ⟨Z, 3 + k, none⟩ (.pointer (some ⟨wr.heap.size, 0, none⟩))).alloc (.cells #[.pointer (some ⟨P, 0, none⟩), .int .i64 f, .int .i64 t, .slice A1 ws.length c1, .int .i64 0, .int .i64 0, .slice none 0 0, .int .i64 0, .int .i64 0, .bool false] 89)).drew := by
          unfold slotC T0 at ha1 ha2
          dsimp only at ha1 ha2
          rw [e2, e5] at ha1 ha2
          rw [HSW.out]
          exact .inr ⟨hk6, _, _, rfl, ha1, ha2, rfl, e2, e5, rfl, rfl, fun x hx => hx.1⟩
        have HRES := Lib.hid hres
        clear hba hzb hall hfr hadd ha1 ha2 hres e1 e2 e3 e4 e5
        go_region
        go_wp2
        exact bodyPost_ret (v := .tuple #[.int .i64 k, .int .i64 0]) (by simp [results, Try.results11, go_sem]) rfl HRES.out
    · obtain rfl : k = 6 := by omega
      obtain rfl : i = 6 := by omega
      go_wp2
      exact bodyPost_ret (v := .tuple #[.int .i64 0, .int .i64 10]) (by simp [results, Try.results11, go_sem]) rfl (.inl ⟨rfl, rfl, HB3.out⟩)

end
end Go.Proofs.Ytpoolpaagbeokaa.Serve

namespace Go.Proofs.Ytpoolpaagbeokaa.Serve
open Go.RowKit Go.Proofs.Ytpoolpaagbeokaa NetLaw BellLaw StarLaw AraLaw Go.Proofs.Ytpoolpaagbeokaa.Net Go.Proofs.Ytpoolpaagbeokaa.Std Go.Proofs.Ytpoolpaagbeokaa.Flow Go.Proofs.Ytpoolpaagbeokaa.Ara Go.Proofs.Ytpoolpaagbeokaa.GroundLaw
open Go.Proofs.Ytpoolpaagbeokaa.GridLaw hiding E
open Go.Proofs.Ytpoolpaagbeokaa.ServeLaw
set_option linter.unusedSimpArgs false
set_option linter.unusedVariables false
/-- an answer with a round -/
def AnsSays (st : Int) (r : Rnd) (w : World) (e : Ending) (w' : World) : Prop :=
  ∃ A c, e = .returned (.tuple #[.agg #[.int .i64 st, .int .i64 r.num, .int .i64 r.den, .slice A r.path.length c, .int .i64 r.cost, .int .i64 r.done], .int .i64 0]) ∧ Own w' w.heap.size 3 1 ci (.slice A r.path.length c) r.path ∧ Below w.heap.size w w'
section
variable {b0 : Nat} {w w' : World} {Z : Nat} {W H : Int} {AC : Option Addr} {cC : Nat} {l : List Int} {turn : Nat} {σ : Nat → Option Slt} {D : Nat → Nat → Prop}
set_option maxRecDepth 100000 in
set_option maxHeartbeats 8000000 in
/-- no such request -/
theorem poll_none (h : SV b0 w Z W H AC cC l turn σ D) {i : Nat} (hi : i < 6) (hg : σ i = none) :
    Calls Try.prog 14 #[.pointer (some ⟨Z, 0, none⟩), .int .i64 i] w fun e w' => e = .returned (.tuple #[.agg #[.int .i64 0, .int .i64 0, .int .i64 0, .slice none 0 0, .int .i64 0, .int .i64 0], .int .i64 5]) ∧ Below w.heap.size w w' := by
  obtain ⟨a1, _⟩ := h.at_ hi
  rw [hg] at a1
  change w.cell? _ = some (.pointer none) at a1
  obtain ⟨_, _, _, _, _, zp⟩ := h.zs
  have zi : (i : Int) < 6 := by omega
  have hw0 : Below w.heap.size w (w.alloc (.cells #[.int .i64 0, .int .i64 0, .int .i64 0, .slice none 0 0, .int .i64 0, .int .i64 0] 45)) := (Below.refl _ _).alloc (Nat.le_refl _) _
  have hbox := heap_alloc_new w (.cells #[.int .i64 0, .int .i64 0, .int .i64 0, .slice none 0 0, .int .i64 0, .int .i64 0] 45)
  clear h hg
  go_enter Try.func14, Try.ntmps14
  go_wp2
  exact bodyPost_ret (v := .tuple #[.agg #[.int .i64 0, .int .i64 0, .int .i64 0, .slice none 0 0, .int .i64 0, .int .i64 0], .int .i64 5]) (by simp [results, Try.results14, go_sem]) rfl ⟨rfl, hw0⟩
set_option maxRecDepth 100000 in
set_option maxHeartbeats 8000000 in
/-- a request that has a round -/
theorem poll_good (h : SV b0 w Z W H AC cC l turn σ D) {i : Nat} (hi : i < 6) {g : Slt} (hg : σ i = some g) {R0 : List Rnd} {r : Rnd} (hr : g.s.rds = R0 ++ [r]) :
    Calls Try.prog 14 #[.pointer (some ⟨Z, 0, none⟩), .int .i64 i] w fun e w' => AnsSays (if g.s.rds.length = g.F.ws.length then 4 else 2) r w e w' := by
  have hw0 : Below w.heap.size w (w.alloc (.cells #[.int .i64 0, .int .i64 0, .int .i64 0, .slice none 0 0, .int .i64 0, .int .i64 0] 45)) := (Below.refl _ _).alloc (Nat.le_refl _) _
  have hbox := heap_alloc_new w (.cells #[.int .i64 0, .int .i64 0, .int .i64 0, .slice none 0 0, .int .i64 0, .int .i64 0] 45)
  have h1 := h.keep hw0
  have SV0 := Lib.hid h1
  have HW0 := Lib.hid hw0
  have HB := Lib.hid hbox
  obtain ⟨a1, _⟩ := h.at_ hi
  rw [hg] at a1
  change w.cell? _ = some (.pointer (some ⟨g.Q, 0, none⟩)) at a1
  obtain ⟨_, _, _, _, _, zp⟩ := h.zs
  have zi : (i : Int) < 6 := by omega
  have hsl := h.slot i hi g hg
  have q0 := blk_cell hsl.z 0
  have zq := lt_of_block hsl.z
  simp only [List.getElem?_toArray, List.getElem?_cons_zero, List.getElem?_cons_succ] at q0
  obtain ⟨hp1, hp2⟩ := SI.paths (hsl.sr.si hsl.fo hsl.po)
  have krd := rounds_any ((h1.slot i hi g hg).sr.sm.am) hp1 (by have := hsl.fo.wl; omega)
  have KRD := Lib.hid krd
  have HG := Lib.hid hg
  have HR := Lib.hid hr
  have HRW := Lib.hid hp2
  clear h h1 hg hsl krd hr hp1 hp2 hw0 hbox
  go_enter Try.func14, Try.ntmps14
  go_wp2_with fail
  refine KRD.out.mono ?_
  rintro e w2 ⟨A, k, c, R, rfl, hRC, hb2⟩
  obtain ⟨hl1, hl2⟩ := hRC.len
  have hk : k = R0.length + 1 := by rw [← hl2, HR.out]; simp
  have hkl : R0.length < R.length := by omega
  obtain ⟨S, cS, hv, _, hS, _, hc⟩ := hRC.own.some_ (by omega)
  obtain rfl : A = some ⟨S, 0, none⟩ := by injection hv
  obtain ⟨x, hx⟩ : ∃ x, R[R0.length]? = some x := ⟨_, List.getElem?_eq_getElem hkl⟩
  have hxr : x.rnd = r := by
    have h1 := hRC.rnd
    rw [HR.out] at h1
    have h2 : (R.map RE.rnd)[R0.length]? = (R0 ++ [r])[R0.length]? := by rw [h1]
    rw [List.getElem?_map, hx] at h2
    simpa using h2
  have hx2 : R[R0.length] = x := by rw [List.getElem?_eq_getElem hkl] at hx; injection hx
  have hxm : x ∈ R := hx2 ▸ List.getElem_mem hkl
  have c0 := (hc R0.length hkl 0 (by omega)).1
  have c1 := (hc R0.length hkl 1 (by omega)).1
  have c2 := (hc R0.length hkl 2 (by omega)).1
  have c3 := (hc R0.length hkl 3 (by omega)).1
  have c4 := (hc R0.length hkl 4 (by omega)).1
  rw [hx2] at c0 c1 c2 c3 c4
  simp only [Ara.cr] at c0 c1 c2 c3 c4
  change w2.cell? ⟨S, R0.length * 5, none⟩ = _ at c0
  have hway := hRC.ways x hxm
  have WAY := Lib.hid hway
  have SV2 := Lib.hid (SV0.out.keep hb2)
  have HW2 := Lib.hid (HW0.out.trans (hb2.mono HW0.out.size))
  have HB2 := Lib.hid (blk_below HB.out hb2 (lt_of_block HB.out))
  have HXR := Lib.hid hxr
  have hk8 : R0.length ≤ 8 := by have h1 := HRW.out; rw [HR.out] at h1; have := ((SV0.out.slot i hi g HG.out).fo).wl; simp at h1; omega
  clear hway hxr hx hx2 hxm hc hv hRC hb2 SV0 HW0 HB a1 q0 zq zp KRD hl1 hl2 hkl
  subst hk
  go_upto_region 7 with fail
  have h23 : Below w2.heap.size w2 (w2.alloc (.cells #[.int .i64 2, .int .i64 x.num, .int .i64 x.den, .slice x.A x.k x.c, .int .i64 x.cost, .int .i64 x.done] 45)) := (Below.refl _ _).alloc (Nat.le_refl _) _
  have hbn := heap_alloc_new w2 (.cells #[.int .i64 2, .int .i64 x.num, .int .i64 x.den, .slice x.A x.k x.c, .int .i64 x.cost, .int .i64 x.done] 45)
  have SV3 := Lib.hid (SV2.out.keep h23)
  have HW3 := Lib.hid (HW2.out.trans (h23.mono HW2.out.size))
  have HB3 := Lib.hid (blk_alloc HB2.out (.cells #[.int .i64 2, .int .i64 x.num, .int .i64 x.den, .slice x.A x.k x.c, .int .i64 x.cost, .int .i64 x.done] 45))
  have WAY3 := Lib.hid (WAY.out.alloc (.cells #[.int .i64 2, .int .i64 x.num, .int .i64 x.den, .slice x.A x.k x.c, .int .i64 x.cost, .int .i64 x.done] 45))
  have hxl : w.heap.size < w2.heap.size := lt_of_block HB2.out
  have hle := HW2.out.size
  have hpk : x.k = r.path.length := by have h1 := WAY.out.sl.1; rw [← HXR.out]; exact h1
  clear c0 c1 c2 c3 c4 SV2 HW2 HB2 WAY h23 hS hk8
  generalize w2.alloc (.cells #[.int .i64 2, .int .i64 x.num, .int .i64 x.den, .slice x.A x.k x.c, .int .i64 x.cost, .int .i64 x.done] 45) = w3 at SV3 HW3 HB3 WAY3 hbn ⊢
  generalize w2.heap.size = X at hbn hxl hle ⊢
  have hsl := SV3.out.slot i hi g HG.out
  have q0 := blk_cell hsl.z 0
  have zq := lt_of_block hsl.z
  simp only [List.getElem?_toArray, List.getElem?_cons_zero, List.getElem?_cons_succ] at q0
  have KOV := Lib.hid (isover_any hsl.sr.sm.am)
  have HBN := Lib.hid hbn
  clear hsl hbn SV3
  go_wp2_with fail
  refine KOV.out.mono ?_
  rintro e w4 ⟨rfl, kk, rfl⟩
  have h34 : Below w3.heap.size w3 (w3.drewN kk) := below_drewN (Below.refl _ _) kk
  have HW4 := Lib.hid (HW3.out.trans (h34.mono HW3.out.size))
  have HB4 := Lib.hid (blk_below HB3.out h34 (lt_of_block HB3.out))
  have HN4 := Lib.hid (blk_below HBN.out h34 (lt_of_block HBN.out))
  have WAY4 := Lib.hid (WAY3.out.keep h34)
  clear h34 KOV HW3 HB3 WAY3 HBN q0 zq
  generalize w3.drewN kk = w4 at HW4 HB4 HN4 WAY4 ⊢
  have n0 := blk_cell HN4.out 0
  have n1 := blk_cell HN4.out 1
  have n2 := blk_cell HN4.out 2
  have n3 := blk_cell HN4.out 3
  have n4 := blk_cell HN4.out 4
  have n5 := blk_cell HN4.out 5
  have nf := blk_free HN4.out 0
  have f0 := blk_free HB4.out 0
  have f1 := blk_free HB4.out 1
  have f2 := blk_free HB4.out 2
  have f3 := blk_free HB4.out 3
  have f4 := blk_free HB4.out 4
  have f5 := blk_free HB4.out 5
  have m0 := blk_cell HB4.out 0
  have m1 := blk_cell HB4.out 1
  have m2 := blk_cell HB4.out 2
  have m3 := blk_cell HB4.out 3
  have m4 := blk_cell HB4.out 4
  have m5 := blk_cell HB4.out 5
  have zX := lt_of_block HN4.out
  have zR := lt_of_block HB4.out
  have hXR1 : X ≠ w.heap.size := by omega
  have hXR2 : w.heap.size ≠ X := by omega
  simp only [List.getElem?_toArray, List.getElem?_cons_zero, List.getElem?_cons_succ] at n0 n1 n2 n3 n4 n5 m0 m1 m2 m3 m4 m5
  have ne1 := WAY4.out.ne_ HB4.out (by decide)
  have ne2 := WAY4.out.ne_ HN4.out (by decide)
  by_cases hov : g.s.rds.length = g.F.ws.length
  · have hd : decide (g.s.rds.length = g.F.ws.length) = true := decide_eq_true hov
    rw [hd]
    have HOV := Lib.hid hov
    clear hd hov
    go_wp2
    refine bodyPost_ret (v := .tuple #[.agg #[.int .i64 4, .int .i64 x.num, .int .i64 x.den, .slice x.A r.path.length x.c, .int .i64 x.cost, .int .i64 x.done], .int .i64 0]) (by simp [results, Try.results14, go_sem, m0, m1, m2, m3, m4, m5, f0, f1, f2, f3, f4, f5, n0, n1, n2, n3, n4, n5, zR, zX, hXR1, hXR2]) rfl ?_
    have way := WAY4.out
    rw [hpk] at way ne1 ne2
    have e := HXR.out
    subst e
    exact ⟨x.A, x.c, rfl, (((((((way.mono (by simp)).setCell ne2 _).setCell ne1 _).setCell ne1 _).setCell ne1 _).setCell ne1 _).setCell ne1 _).setCell ne1 _, ((((((HW4.out.setCell (by dsimp only; omega) _).setCell (by dsimp only; omega) _).setCell (by dsimp only; omega) _).setCell (by dsimp only; omega) _).setCell (by dsimp only; omega) _).setCell (by dsimp only; omega) _).setCell (by dsimp only; omega) _⟩
  · have hd : decide (g.s.rds.length = g.F.ws.length) = false := decide_eq_false hov
    rw [hd]
    have HOV := Lib.hid hov
    clear hd hov
    go_wp2
    refine bodyPost_ret (v := .tuple #[.agg #[.int .i64 2, .int .i64 x.num, .int .i64 x.den, .slice x.A r.path.length x.c, .int .i64 x.cost, .int .i64 x.done], .int .i64 0]) (by simp [results, Try.results14, go_sem, m0, m1, m2, m3, m4, m5, f0, f1, f2, f3, f4, f5, n0, n1, n2, n3, n4, n5, zR, zX, hXR1, hXR2]) rfl ?_
    have way := WAY4.out
    rw [hpk] at way ne1 ne2
    have e := HXR.out
    subst e
    exact ⟨x.A, x.c, rfl, (((((((way.mono (by simp))).setCell ne1 _).setCell ne1 _).setCell ne1 _).setCell ne1 _).setCell ne1 _).setCell ne1 _, ((((((HW4.out).setCell (by dsimp only; omega) _).setCell (by dsimp only; omega) _).setCell (by dsimp only; omega) _).setCell (by dsimp only; omega) _).setCell (by dsimp only; omega) _).setCell (by dsimp only; omega) _⟩
set_option maxRecDepth 100000 in
set_option maxHeartbeats 8000000 in
/-- a request that was told nothing yet -/
theorem poll_empty (h : SV b0 w Z W H AC cC l turn σ D) {i : Nat} (hi : i < 6) {g : Slt} (hg : σ i = some g) (hr : g.s.rds = []) (hm : g.sm = false) :
    Calls Try.prog 14 #[.pointer (some ⟨Z, 0, none⟩), .int .i64 i] w fun e w' => e = .returned (.tuple #[.agg #[.int .i64 1, .int .i64 0, .int .i64 0, .slice none 0 0, .int .i64 0, .int .i64 0], .int .i64 0]) ∧ Below w.heap.size w w' := by
  have hw0 : Below w.heap.size w (w.alloc (.cells #[.int .i64 0, .int .i64 0, .int .i64 0, .slice none 0 0, .int .i64 0, .int .i64 0] 45)) := (Below.refl _ _).alloc (Nat.le_refl _) _
  have hbox := heap_alloc_new w (.cells #[.int .i64 0, .int .i64 0, .int .i64 0, .slice none 0 0, .int .i64 0, .int .i64 0] 45)
  have h1 := h.keep hw0
  have SV0 := Lib.hid h1
  have HW0 := Lib.hid hw0
  have HB := Lib.hid hbox
  obtain ⟨a1, _⟩ := h.at_ hi
  rw [hg] at a1
  change w.cell? _ = some (.pointer (some ⟨g.Q, 0, none⟩)) at a1
  obtain ⟨_, _, _, _, _, zp⟩ := h.zs
  have zi : (i : Int) < 6 := by omega
  have hsl := h.slot i hi g hg
  have q0 := blk_cell hsl.z 0
  have zq := lt_of_block hsl.z
  simp only [List.getElem?_toArray, List.getElem?_cons_zero, List.getElem?_cons_succ] at q0
  obtain ⟨hp1, hp2⟩ := SI.paths (hsl.sr.si hsl.fo hsl.po)
  have krd := rounds_any ((h1.slot i hi g hg).sr.sm.am) hp1 (by have := hsl.fo.wl; omega)
  have KRD := Lib.hid krd
  have HG := Lib.hid hg
  have HR := Lib.hid hr
  have HRW := Lib.hid hp2
  have HM := Lib.hid hm
  clear hm h h1 hg hsl krd hr hp1 hp2 hw0 hbox
  go_enter Try.func14, Try.ntmps14
  go_wp2_with fail
  refine KRD.out.mono ?_
  rintro e w2 ⟨A, k, c, R, rfl, hRC, hb2⟩
  obtain ⟨hl1, hl2⟩ := hRC.len
  obtain rfl : k = 0 := by rw [← hl2, HR.out]; rfl
  have SV2 := SV0.out.keep hb2
  have hsl := SV2.slot i hi g HG.out
  have q9 := blk_cell hsl.z 9
  have zq2 := lt_of_block hsl.z
  simp only [List.getElem?_toArray, List.getElem?_cons_zero, List.getElem?_cons_succ, HM.out] at q9
  have HW2 := Lib.hid (HW0.out.trans (hb2.mono HW0.out.size))
  have hB := blk_below HB.out hb2 (lt_of_block HB.out)
  have f0 := blk_free hB 0
  have f1 := blk_free hB 1
  have f2 := blk_free hB 2
  have f3 := blk_free hB 3
  have f4 := blk_free hB 4
  have f5 := blk_free hB 5
  have m0 := blk_cell hB 0
  have m1 := blk_cell hB 1
  have m2 := blk_cell hB 2
  have m3 := blk_cell hB 3
  have m4 := blk_cell hB 4
  have m5 := blk_cell hB 5
  have zR := lt_of_block hB
  simp only [List.getElem?_toArray, List.getElem?_cons_zero, List.getElem?_cons_succ] at m0 m1 m2 m3 m4 m5
  clear SV2 hsl hB hRC hb2 SV0 HW0 HB a1 q0 zq zp KRD hl1 hl2
  go_wp2
  refine bodyPost_ret (v := .tuple #[.agg #[.int .i64 1, .int .i64 0, .int .i64 0, .slice none 0 0, .int .i64 0, .int .i64 0], .int .i64 0]) (by simp [results, Try.results14, go_sem, m0, m1, m2, m3, m4, m5, f0, f1, f2, f3, f4, f5, zR]) rfl ⟨rfl, ?_⟩
  exact (((((HW2.out.setCell (by dsimp only; omega) _).setCell (by dsimp only; omega) _).setCell (by dsimp only; omega) _).setCell (by dsimp only; omega) _).setCell (by dsimp only; omega) _).setCell (by dsimp only; omega) _
end
end Go.Proofs.Ytpoolpaagbeokaa.Serve

namespace Go.Proofs.Ytpoolpaagbeokaa.Serve
open Go.RowKit Go.Proofs.Ytpoolpaagbeokaa NetLaw BellLaw StarLaw AraLaw Go.Proofs.Ytpoolpaagbeokaa.Net Go.Proofs.Ytpoolpaagbeokaa.Std Go.Proofs.Ytpoolpaagbeokaa.Flow Go.Proofs.Ytpoolpaagbeokaa.Ara Go.Proofs.Ytpoolpaagbeokaa.GroundLaw
open Go.Proofs.Ytpoolpaagbeokaa.GridLaw hiding E
open Go.Proofs.Ytpoolpaagbeokaa.ServeLaw
set_option linter.unusedSimpArgs false
set_option linter.unusedVariables false
theorem run_none {n : Nat} {l : List E} {t : Nat} {c : Nat → Nat} {u t' : Nat} {c' : Nat → Nat} (h : Run (Tk n l (fun _ => none)) t c u t' c') : u = 0 := h.stuck (fun i _ => tk_none rfl)
set_option maxHeartbeats 1000000 in
theorem ground_s (w : World) : Calls Try.prog 10 #[] w fun e w' => ∃ S, e = .returned (.agg #[.int .i64 2, .int .i64 1, .slice (some ⟨S, 0, none⟩) 2 2]) ∧ Sl w' w'.heap.size 1 ci (some ⟨S, 0, none⟩) [1, 2] ∧ Below w.heap.size w w' := by
  go_enter Try.func10, Try.ntmps10
  go_wp2
  refine bodyPost_ret (v := .agg #[.int .i64 2, .int .i64 1, .slice (some ⟨w.heap.size + 1, 0, none⟩) 2 2]) (by simp [results, Try.results10, go_sem]) rfl ⟨w.heap.size + 1, rfl, ?_, ?_⟩
  · exact sl_new' (by decide) _ #[.int .i64 1, .int .i64 2] _ _ (by simp) rfl
  · exact ((Below.refl _ _).alloc (Nat.le_refl _) _).alloc (by simp) _
theorem good_s : GGood 2 1 [1, 2] := gchk_zero.1 (by decide +kernel)
theorem new_s (S : Nat) (w : World) (hl : Sl w w.heap.size 1 ci (some ⟨S, 0, none⟩) [1, 2]) : Calls Try.prog 9 #[.agg #[.int .i64 2, .int .i64 1, .slice (some ⟨S, 0, none⟩) 2 2]] w fun e w' => ∃ Z A c, e = .returned (.tuple #[.pointer (some ⟨Z, 0, none⟩), .int .i64 0]) ∧ SV w.heap.size w' Z 2 1 A c [1, 2] 0 (fun _ => none) (fun _ _ => False) ∧ Below w.heap.size w w' := by
  refine (new_yes 2 1 (some ⟨S, 0, none⟩) 2 [1, 2] w hl (fun e => by cases e) good_s).mono ?_
  rintro e w' ⟨Z, A, c, rfl, hz, hb, ho, hbl⟩
  exact ⟨Z, A, c, rfl, SV.init hb hz ho good_s, hbl⟩
/-- a service on sound ground -/
theorem new_g (W H : Int) (A : Option Addr) (c : Nat) (l : List Int) (w : World) (hl : Sl w w.heap.size 1 ci A l) (hA : A = none → l.length = 0 ∧ c = 0) (hg : GGood W H l) : Calls Try.prog 9 #[.agg #[.int .i64 W, .int .i64 H, .slice A l.length c]] w fun e w' => ∃ Z A c, e = .returned (.tuple #[.pointer (some ⟨Z, 0, none⟩), .int .i64 0]) ∧ SV w.heap.size w' Z W H A c l 0 (fun _ => none) (fun _ _ => False) ∧ Below w.heap.size w w' := by
  refine (new_yes W H A c l w hl hA hg).mono ?_
  rintro e w' ⟨Z, A, c, rfl, hz, hb, ho, hbl⟩
  exact ⟨Z, A, c, rfl, SV.init hb hz ho hg, hbl⟩
/-- requests alike -/
structure Al (σ : Nat → Option Slt) (k f t : Nat) (ws : List (Int × Int)) : Prop where
  som : ∀ j, j < k → ∃ g, σ j = some g ∧ g.F.tt = t ∧ g.F.ws = ws ∧ g.f = f ∧ g.k = 0 ∧ g.sm = false
  non : ∀ j, k ≤ j → σ j = none
theorem Al.start {f t : Nat} {ws : List (Int × Int)} : Al (fun _ => none) 0 f t ws := ⟨fun j hj => by omega, fun _ _ => rfl⟩
theorem Al.add {σ : Nat → Option Slt} {k f t : Nat} {ws : List (Int × Int)} (h : Al σ k f t ws) {g : Slt} (h1 : g.F.tt = t) (h2 : g.F.ws = ws) (h3 : g.f = f) (h4 : g.k = 0) (h5 : g.sm = false) : Al (upd1 σ k (some g)) (k + 1) f t ws := by
  refine ⟨fun j hj => ?_, fun j hj => ?_⟩
  · by_cases e : j = k
    · subst e; exact ⟨g, upd1_eq .., h1, h2, h3, h4, h5⟩
    · rw [upd1_ne _ _ e]; exact h.som j (by omega)
  · rw [upd1_ne _ _ (by omega)]; exact h.non j (by omega)
/-- a law's box of a grid, with two lists beside it -/
theorem sbox {w X : World} {W H : Int} {A : Option Addr} {c : Nat} {l : List Int} (hl : Sl w w.heap.size 1 ci A l) (hX : Below (w.heap.size + 1) (w.alloc (.cells #[.int .i64 W, .int .i64 H, .slice A l.length c] 24)) X) :
    (X.cell? ⟨w.heap.size, 0, none⟩ = some (.int .i64 W) ∧ X.cell? ⟨w.heap.size, 1, none⟩ = some (.int .i64 H) ∧ X.cell? ⟨w.heap.size, 2, none⟩ = some (.slice A l.length c)) ∧ Sl X X.heap.size 1 ci A l ∧ Below w.heap.size w X ∧ w.heap.size + 1 ≤ X.heap.size := by
  have h0 := blk_below (heap_alloc_new w (.cells #[.int .i64 W, .int .i64 H, .slice A l.length c] 24)) hX (Nat.lt_succ_self _)
  have hB : Below w.heap.size w X := ((Below.refl _ _).alloc (Nat.le_refl _) _).trans (hX.mono (Nat.le_succ _))
  exact ⟨⟨blk_cell h0 0, blk_cell h0 1, blk_cell h0 2⟩, (hl.keep hB (Nat.le_refl _)).more hB.size, hB, lt_of_block h0⟩
theorem Went.get {σ σ' : Nat → Option Slt} (h : Went σ σ') {i : Nat} {g : Slt} (hg : σ i = some g) : ∃ Y s k, σ' i = some { g with Y := Y, s := s, k := k } := by
  rcases h i with ⟨e, _⟩ | ⟨g2, Y, s, k, e, e'⟩
  · rw [hg] at e; cases e
  · rw [hg] at e; injection e with e; subst e; exact ⟨Y, s, k, e'⟩
theorem Went.none_ {σ σ' : Nat → Option Slt} (h : Went σ σ') {i : Nat} (hg : σ i = none) : σ' i = none := by
  rcases h i with ⟨_, e⟩ | ⟨g2, Y, s, k, e, e'⟩
  · exact e
  · rw [hg] at e; cases e
section
variable {b0 : Nat} {w w' : World} {Z : Nat} {W H : Int} {AC : Option Addr} {cC : Nat} {l : List Int} {turn : Nat} {σ : Nat → Option Slt} {D : Nat → Nat → Prop}
/-- a search of its own that took as many steps as a slot's stands where that stands -/
theorem SL.same {n : Nat} {m : List E} {D : Nat → Prop} {g : Slt} (h : SL b0 w n m D g) {j : Nat} {s : AS} (hr : Rn n g.F.tt m (zs n) g.F.ws g.f j s) (hj : j ≤ g.k) (ho : j < g.k → s.rds.length = g.F.ws.length) : s = g.s := by
  have h1 := h.run_
  have e : j = g.k := by
    rcases Nat.lt_or_ge j g.k with hlt | hge
    · have := h1.le_over hr (ho hlt); omega
    · omega
  subst e
  exact hr.det h1
/-- a service that no search had yet: the whole of it answers in so many steps -/
theorem SV.sum_le_ (h : SV b0 w Z W H AC cC l turn σ D) {T : Sch} {t0 n : Nat} {c : Nat → Nat} (hr : Run T t0 c n turn (cnt σ)) : n ≤ 6006 := hr.le (m := 1001) (fun i hi => h.cnt_le hi)
end
/-- the cells of a net's box -/
def SN (X n m : Nat) (A1 : Option Addr) (c1 : Nat) (w' : World) : Prop :=
  w'.cell? ⟨X, 0, none⟩ = some (.int .i64 n) ∧ w'.cell? ⟨X, 1, none⟩ = some (.slice A1 m c1) ∧ X < w'.heap.size
theorem SN.keep {X n m : Nat} {A1 : Option Addr} {c1 : Nat} {w1 w2 : World} (h : SN X n m A1 c1 w1) (hb : Below w1.heap.size w1 w2) : SN X n m A1 c1 w2 :=
  ⟨(hb.cell (p := ⟨X, 0, none⟩) h.2.2).trans h.1, (hb.cell (p := ⟨X, 1, none⟩) h.2.2).trans h.2.1, Nat.lt_of_lt_of_le h.2.2 hb.size⟩
end Go.Proofs.Ytpoolpaagbeokaa.Serve
