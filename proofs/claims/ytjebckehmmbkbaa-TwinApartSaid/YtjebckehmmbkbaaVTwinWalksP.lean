/- The walk of twin.Two. -/
import Derived.Test.YtjebckehmmbkbaaVTwinCarry
import Derived.Test.YtjebckehmmbkbaaVTwinFolP
import Derived.Test.YtjebckehmmbkbaaVGridOver
import Derived.Test.YtjebckehmmbkbaaVDijkWalks
namespace Go.Proofs.Ytjebckehmmbkbaa.TwinP
open Go.Proofs.Ytjebckehmmbkbaa.Twin
open Go.RowKit Go.Proofs.Ytjebckehmmbkbaa NetLaw BellLaw FlowLaw TwinLaw Go.Proofs.Ytjebckehmmbkbaa.Net Go.Proofs.Ytjebckehmmbkbaa.Std
open Go.Proofs.Ytjebckehmmbkbaa.Flow (cb own_setG own_atG own_madeI own_madeB)
set_option linter.unusedSimpArgs false
set_option linter.unusedVariables false
theorem looks_zero {N : Int} {l : List E} {a b : Int} (h : Dijk.look N l [a, b] = 0) : NetLaw.Good N l ∧ (∀ e ∈ l, 1 ≤ e.2.2) ∧ (0 ≤ a ∧ a < N) ∧ 0 ≤ b ∧ b < N := by
  unfold Dijk.look at h
  split at h
  · rename_i h1; exact absurd h h1
  · rename_i h1
    obtain ⟨x, y⟩ := Dijk.pos_zero (by simpa using h1)
    simp only [Dijk.lookE] at h
    split at h
    · omega
    · split at h
      · omega
      · exact ⟨x, y, by omega, by omega⟩
abbrev wy0 : Value := .agg #[.slice none 0 0, .int .i64 0]
/-- a way in a block of its own -/
def Pt (w : World) (lo : Nat) (A : Option Addr) (n : Nat) (p : List Int) : Prop :=
  p.length = n ∧ ∃ S o, A = some ⟨S, 0, none⟩ ∧ lo ≤ S ∧ w.heap[S]? = some o ∧ ∀ W : World, W.heap[S]? = some o → ∀ (i : Nat) (h : i < p.length), W.cell? ⟨S, i, none⟩ = some (.int .i64 p[i])
theorem pt_own {w : World} {lo n c : Nat} {A : Option Addr} {p : List Int} (h : Own w lo 3 1 ci (.slice A n c) p) (hp : 0 < p.length) : Pt w lo A n p := by
  obtain ⟨S, c', hv, h0, h1, _, hc⟩ := h.some_ hp
  injection hv with hA hn _
  refine ⟨hn.symm, S, w.heap[S], hA, h0, Array.getElem?_eq_getElem h1, fun W hW i hi => ?_⟩
  have h2 := (hc i hi 0 (by decide)).1
  have e : W.cell? ⟨S, i, none⟩ = w.cell? ⟨S, i, none⟩ := by simp only [World.cell?, hW, Array.getElem?_eq_getElem h1]
  rw [e]
  rw [Nat.mul_one, Nat.add_zero] at h2
  rw [h2]
  rfl
section
variable {w w' : World} {lo n : Nat} {A : Option Addr} {p : List Int}
theorem Pt.oth {U : Nat} (h : Pt w lo A n p) (hU : U < lo) (ho : ∀ g o, w.heap[g]? = some o → g ≠ U → w'.heap[g]? = some o) : Pt w' lo A n p := by
  obtain ⟨h1, S, o, h2, h3, h4, h5⟩ := h
  exact ⟨h1, S, o, h2, h3, ho S o h4 (by omega), h5⟩
theorem Pt.keep (h : Pt w lo A n p) (hb : Below w.heap.size w w') : Pt w' lo A n p := by
  obtain ⟨h1, S, o, h2, h3, h4, h5⟩ := h
  exact ⟨h1, S, o, h2, h3, (hb.block S (Array.getElem?_eq_some_iff.1 h4).1).trans h4, h5⟩
theorem Pt.setCell (h : Pt w lo A n p) {a : Addr} (ha : a.block < lo) (u : Value) : Pt (w.setCell a u) lo A n p := by
  obtain ⟨h1, S, o, h2, h3, h4, h5⟩ := h
  exact ⟨h1, S, o, h2, h3, (Below.heap_setCell w a u S (by omega)).trans h4, h5⟩
theorem Pt.cells4 {b R1 R2 : Nat} (h : Pt w lo A n p) (h1 : R1 < lo) (h2 : R2 < lo) (hb : b ≤ lo) (x y z v : Value) : Pt ((((w.setCell ⟨R1, 0, none⟩ x).setCell ⟨R1, 1, none⟩ y).setCell ⟨R2, 0, none⟩ z).setCell ⟨R2, 1, none⟩ v) b A n p := by
  obtain ⟨k1, S, o, k2, k3, k4, k5⟩ := (((h.setCell (a := ⟨R1, 0, none⟩) h1 x).setCell (a := ⟨R1, 1, none⟩) h1 y).setCell (a := ⟨R2, 0, none⟩) h2 z).setCell (a := ⟨R2, 1, none⟩) h2 v
  exact ⟨k1, S, o, k2, by omega, k4, k5⟩
theorem Pt.sl (h : Pt w lo A n p) : Sl w w.heap.size 1 ci A p := by
  obtain ⟨h1, S, o, h2, h3, h4, h5⟩ := h
  refine fun _ => ⟨S, 0, h2, (Array.getElem?_eq_some_iff.1 h4).1, fun i hi j hj => ?_⟩
  obtain rfl : j = 0 := by omega
  rw [Nat.mul_one, Nat.add_zero, Nat.zero_add, h5 w h4 i hi]
  rfl
end
/-- two ways, with their places -/
def TwoP (W : World) (lo : Nat) (l : List E) (s t a b : Int) (A1 : Option Addr) (m1 : Nat) (A2 : Option Addr) (m2 : Nat) : Prop :=
  ∃ p1 p2 u2 u3 u4 π, Pt W lo A1 m1 p1 ∧ Pt W lo A2 m2 p2 ∧ FolP l s t 2 u2 u3 t a p1 ∧ FolP l s t 1 u3 u4 t b p2 ∧ BF l s t u2 2 ∧ Slk l u2 π
theorem fp_pos {l : List E} {s : Int} {u0 u : List Bool} {x co : Int} {p : List Int} (h : Fp l s u0 u x co p) : 0 < p.length := by cases h <;> simp
/-- what Two answers -/
def TwoSays (N : Int) (l : List E) (s t : Int) (w : World) (e : Ending) (w' : World) : Prop :=
  (Dijk.look N l [s, t] ≠ 0 → e = .returned (.tuple #[wy0, wy0, .int .i64 (Dijk.look N l [s, t])])) ∧
  (Dijk.look N l [s, t] = 0 → s = t → e = .returned (.tuple #[wy0, wy0, .int .i64 1])) ∧
  (Dijk.look N l [s, t] = 0 → s ≠ t → ((¬ ∃ u, BF l s t u 2) ∧ e = .returned (.tuple #[wy0, wy0, .int .i64 5])) ∨
    ∃ A1 m1 c1 a A2 m2 c2 b, e = .returned (.tuple #[.agg #[.slice A1 m1 c1, .int .i64 a], .agg #[.slice A2 m2 c2, .int .i64 b], .int .i64 0]) ∧ Two l s t (a + b) ∧ TwoP w' w.heap.size l s t a b A1 m1 A2 m2) ∧ Below w.heap.size w w'
set_option maxRecDepth 100000 in
set_option maxHeartbeats 16000000 in
theorem two_any (N : Int) (A : Option Addr) (c : Nat) (l : List E) (s t : Int) (w : World) (hl : Sl w w.heap.size 3 ce A l) (hlen : l.length ≤ 9223372036854775807) :
    Calls Try.prog 6 #[.agg #[.int .i64 N, .slice A l.length c], .int .i64 s, .int .i64 t] w fun e w' => TwoSays N l s t w e w' := by
  obtain ⟨wA, hwA⟩ : ∃ wA, wA = ((w.alloc (.cells #[.int .i64 N, .slice A l.length c] 24)).alloc (.cells #[.slice none 0 0, .int .i64 0] 31)).alloc (.cells #[.slice none 0 0, .int .i64 0] 31) := ⟨_, rfl⟩
  have hzA : wA.heap.size = w.heap.size + 1 + 1 + 1 := by rw [hwA]; simp
  have hwa : Below w.heap.size w wA := by rw [hwA]; exact (((Below.refl _ _).alloc (Nat.le_refl _) _).alloc (by simp) _).alloc (by simp; omega) _
  have hbox : wA.heap[w.heap.size]? = some (.cells #[.int .i64 N, .slice A l.length c] 24 (0, 0)) := by rw [hwA]; exact blk_alloc (blk_alloc (heap_alloc_new w _) _) _
  have hres1 : wA.heap[w.heap.size + 1]? = some (.cells #[.slice none 0 0, .int .i64 0] 31 (0, 0)) := by
    rw [hwA]
    have h := blk_alloc (heap_alloc_new (w.alloc (.cells #[.int .i64 N, .slice A l.length c] 24)) (.cells #[.slice none 0 0, .int .i64 0] 31)) (.cells #[.slice none 0 0, .int .i64 0] 31)
    simpa using h
  have hres2 : wA.heap[w.heap.size + 1 + 1]? = some (.cells #[.slice none 0 0, .int .i64 0] 31 (0, 0)) := by
    rw [hwA]
    have h := heap_alloc_new ((w.alloc (.cells #[.int .i64 N, .slice A l.length c] 24)).alloc (.cells #[.slice none 0 0, .int .i64 0] 31)) (.cells #[.slice none 0 0, .int .i64 0] 31)
    simpa using h
  have hwb : Below wA.heap.size wA (wA.alloc (.cells #[.int .i64 s, .int .i64 t] 3)) := (Below.refl _ _).alloc (Nat.le_refl _) _
  have hlA : Sl wA w.heap.size 3 ce A l := hl.keep hwa (Nat.le_refl _)
  have key := Dijk.look_any N A c l (some ⟨wA.heap.size, 0, none⟩) 2 2 [s, t] _ ((hlA.keep (hwb.mono (by omega)) (Nat.le_refl _)).more (by simp; omega)) (sl_new' (by decide) wA #[.int .i64 s, .int .i64 t] 3 [s, t] rfl rfl) rfl hlen (by decide)
  have KEY := Lib.hid key
  have BOX := Lib.hid hbox
  have RES1 := Lib.hid hres1
  have RES2 := Lib.hid hres2
  have HL := Lib.hid hlA
  have HWA := Lib.hid hwa
  have HWB := Lib.hid hwb
  have HZA := Lib.hid hzA
  have EWA := Lib.hid hwA
  clear key hbox hres1 hres2 hl hlA hwa hwb hzA hwA
  go_enter Try.func6, Try.ntmps6
  go_upto_region 1 with fail
  rw [← EWA.out]
  have q := BOX.out
  have q0 := blk_cell q 0
  have q1 := blk_cell q 1
  simp only [List.getElem?_toArray, List.getElem?_cons_zero, List.getElem?_cons_succ] at q0 q1
  have zB := lt_of_block q
  clear q
  go_wp2_with fail
  refine KEY.out.mono ?_
  rintro e w1 ⟨rfl, hb1⟩
  have hbA : Below wA.heap.size wA w1 := HWB.out.trans (hb1.mono HWB.out.size)
  have H1 : Below w.heap.size w w1 := HWA.out.trans (hbA.mono HWA.out.size)
  obtain ⟨R1, hR1⟩ : ∃ R1, R1 = w.heap.size + 1 := ⟨_, rfl⟩
  obtain ⟨R2, hR2⟩ : ∃ R2, R2 = w.heap.size + 1 + 1 := ⟨_, rfl⟩
  rw [← hR1] at RES1
  rw [← hR2] at RES2
  have hn12 : R1 ≠ R2 := by omega
  have hn21 : R2 ≠ R1 := by omega
  have hR1w : w.heap.size ≤ R1 := by omega
  have hR2w : w.heap.size ≤ R2 := by omega
  have bx1 := blk_below BOX.out hbA (lt_of_block BOX.out)
  have rs1 := blk_below RES1.out hbA (lt_of_block RES1.out)
  have rs2 := blk_below RES2.out hbA (lt_of_block RES2.out)
  have hlw := (HL.out.keep hbA (by have := HZA.out; omega)).more (show w.heap.size ≤ w1.heap.size by have := H1.size; omega)
  rw [← hR2, ← hR1]
  have BX1 := Lib.hid bx1
  have RS1 := Lib.hid rs1
  have RS2 := Lib.hid rs2
  have HLW := Lib.hid hlw
  have HB1 := Lib.hid H1
  clear BOX RES1 RES2 HL HWA HWB HZA EWA KEY q0 q1 zB hb1 hbA bx1 hlw hR1 hR2 H1
  have fin : ∀ e W, Below w.heap.size w W → (TwoSays N l s t w e W ∨ ¬ TwoSays N l s t w e W) := fun _ _ _ => Classical.em _
  clear fin
  have r0 := blk_cell rs1 0
  have r1 := blk_cell rs1 1
  have rf0 := blk_free rs1 0
  have rf1 := blk_free rs1 1
  have s0 := blk_cell rs2 0
  have s1 := blk_cell rs2 1
  have sf0 := blk_free rs2 0
  have sf1 := blk_free rs2 1
  simp only [List.getElem?_toArray, List.getElem?_cons_zero, List.getElem?_cons_succ] at r0 r1 s0 s1
  have zr := lt_of_block rs1
  have zs := lt_of_block rs2
  clear rs1 rs2
  by_cases hx : Dijk.look N l [s, t] = 0
  · obtain ⟨hg, hc, ⟨s0', s1'⟩, t0, t1⟩ := looks_zero hx
    have HX := Lib.hid hx
    rw [hx]
    by_cases hst : s = t
    · have hse : (s == t) = true := by rw [beq_iff_eq]; exact hst
      have HST := Lib.hid hst
      clear hst hx hg hc
      go_wp2
      refine bodyPost_ret (v := .tuple #[wy0, wy0, .int .i64 1]) (by simp [results, Try.results6, go_sem, zr, zs, r0, r1, s0, s1, rf0, rf1, sf0, sf1, hn12, hn21]) rfl ?_
      refine ⟨fun h => absurd HX.out h, fun _ _ => rfl, fun _ h => absurd HST.out h, ?_⟩
      exact (((HB1.out.setCell (by dsimp only; omega) _).setCell (by dsimp only; omega) _).setCell (by dsimp only; omega) _).setCell (by dsimp only; omega) _
    · have hse : (s == t) = false := by rw [beq_eq_false_iff_ne]; exact hst
      have h1 := hg.lo
      have hN2 := hg.hi
      have h6 := hg.len
      obtain ⟨n, rfl⟩ := Int.eq_ofNat_of_zero_le (show 0 ≤ N by omega)
      obtain ⟨s, rfl⟩ := Int.eq_ofNat_of_zero_le s0'
      obtain ⟨t, rfl⟩ := Int.eq_ofNat_of_zero_le t0
      have hp := hp_first hg hc s0' s1'
      have hc2 : ∀ e ∈ l, 1 ≤ e.2.2 ∧ e.2.2 ≤ 10000 := fun e he => ⟨hc e he, (hg.cost e he).2⟩
      have htn : t < n := by omega
      have hst2 : s ≠ t := fun e => hst (by rw [e])
      have hmk : ∀ W, (Instr.makeSlice 50 (.int .i64 (l.length : Int)) (.int .i64 (l.length : Int))).run Try.prog W = .ok (.slice (some ⟨W.heap.size, 0, none⟩) l.length l.length) (W.alloc (.cells (madeCells #[.bool false] l.length) 4)) :=
        run_make_row' (P := Try.prog) 50 4 (.bool false) 1 Try.underlying50 (by kernel_rfl) rfl .i64 .i64 l.length (by omega) (by omega)
      have hum : UM w1 (w1.alloc (.cells (madeCells #[.bool false] l.length) 4)) w1.heap.size l.length (u00 l) := ⟨own_madeB _ _ _ (Nat.le_refl _) (by omega) rfl, by simp, (Below.refl _ _).alloc (Nat.le_refl _) _⟩
      have K1 := Lib.hid (fun W π u (h0 : Hp0 n l u s π) hW => carry_any w1 n A c l w1.heap.size s t π u W HLW.out h0 h6 htn hst2 hW)
      have K2 := Lib.hid (fun W v u (hv : 1 ≤ v) (hb : BF l s t u v) hW => follow_any w1 n A c l w1.heap.size s t v u W HLW.out hc2 h6 hv hb hW)
      have none_ : ∀ W, (¬ ∃ u, BF l s t u 2) → Below w1.heap.size w1 W → TwoSays n l s t w (.returned (.tuple #[wy0, wy0, .int .i64 5])) ((((W.setCell ⟨R1, 0, none⟩ (.slice none 0 0)).setCell ⟨R1, 1, none⟩ (.int .i64 0)).setCell ⟨R2, 0, none⟩ (.slice none 0 0)).setCell ⟨R2, 1, none⟩ (.int .i64 0)) := fun W hno hb =>
        ⟨fun h => absurd HX.out h, fun _ e => absurd e hst, fun _ _ => .inl ⟨hno, rfl⟩, ((((HB1.out.trans (hb.mono HB1.out.size)).setCell (by dsimp only; omega) _).setCell (by dsimp only; omega) _).setCell (by dsimp only; omega) _).setCell (by dsimp only; omega) _⟩
      have some_ : ∀ W A1 m1 c1 a A2 m2 c2 b, Two l s t (a + b) → TwoP ((((W.setCell ⟨R1, 0, none⟩ (.slice A1 m1 c1)).setCell ⟨R1, 1, none⟩ (.int .i64 a)).setCell ⟨R2, 0, none⟩ (.slice A2 m2 c2)).setCell ⟨R2, 1, none⟩ (.int .i64 b)) w.heap.size l s t a b A1 m1 A2 m2 → Below w1.heap.size w1 W → TwoSays n l s t w (.returned (.tuple #[.agg #[.slice A1 m1 c1, .int .i64 a], .agg #[.slice A2 m2 c2, .int .i64 b], .int .i64 0])) ((((W.setCell ⟨R1, 0, none⟩ (.slice A1 m1 c1)).setCell ⟨R1, 1, none⟩ (.int .i64 a)).setCell ⟨R2, 0, none⟩ (.slice A2 m2 c2)).setCell ⟨R2, 1, none⟩ (.int .i64 b)) := fun W A1 m1 c1 a A2 m2 c2 b h2 h2p hb =>
        ⟨fun h => absurd HX.out h, fun _ e => absurd e hst, fun _ _ => .inr ⟨A1, m1, c1, a, A2, m2, c2, b, rfl, h2, h2p⟩, ((((HB1.out.trans (hb.mono HB1.out.size)).setCell (by dsimp only; omega) _).setCell (by dsimp only; omega) _).setCell (by dsimp only; omega) _).setCell (by dsimp only; omega) _⟩
      have NONE := Lib.hid none_
      have SOME := Lib.hid some_
      have HUM := Lib.hid hum
      have HMK := Lib.hid hmk
      have HP := Lib.hid hp
      have HC2 := Lib.hid hc2
      have zW := lt_of_block BX1.out
      have q0 := blk_cell BX1.out 0
      have q1 := blk_cell BX1.out 1
      simp only [List.getElem?_toArray, List.getElem?_cons_zero, List.getElem?_cons_succ] at q0 q1
      clear none_ some_ hum hp hc2 hx hg hc hst hst2 hlen HX hmk
      have hmk := HMK.out
      go_upto_region 7 with fail
      generalize w1.alloc (.cells (madeCells #[.bool false] l.length) 4) = w2 at HUM ⊢
      obtain ⟨U, hU⟩ : ∃ U, U = w1.heap.size := ⟨_, rfl⟩
      clear hmk HMK q0 q1 r0 r1 s0 s1 rf0 rf1 sf0 sf1 zr zs zW
      have bx := blk_below BX1.out HUM.out.lo (lt_of_block BX1.out)
      have q0 := blk_cell bx 0
      have q1 := blk_cell bx 1
      simp only [List.getElem?_toArray, List.getElem?_cons_zero, List.getElem?_cons_succ] at q0 q1
      have zW := lt_of_block bx
      clear bx
      go_wp2_with fail
      refine (K1.out _ _ _ HP.out HUM.out).mono ?_
      rintro e w3 ⟨D, P, htb, hfin, hcase⟩
      clear q0 q1 zW HUM
      rcases hcase with ⟨hfar, rfl, hu3⟩ | ⟨hlt, ks, hks, rfl, hu3⟩
      · have hno := Lib.hid (first_no htb HP.out hfin (by omega) (by omega) hfar)
        have rs1 := blk_below RS1.out hu3.lo (lt_of_block RS1.out)
        have rs2 := blk_below RS2.out hu3.lo (lt_of_block RS2.out)
        have r0 := blk_cell rs1 0
        have r1 := blk_cell rs1 1
        have rf0 := blk_free rs1 0
        have rf1 := blk_free rs1 1
        have s0 := blk_cell rs2 0
        have s1 := blk_cell rs2 1
        have sf0 := blk_free rs2 0
        have sf1 := blk_free rs2 1
        simp only [List.getElem?_toArray, List.getElem?_cons_zero, List.getElem?_cons_succ] at r0 r1 s0 s1
        have zr := lt_of_block rs1
        have zs := lt_of_block rs2
        clear rs1 rs2
        have HLO := Lib.hid hu3.lo
        clear htb hfin hfar hu3
        go_wp2
        refine bodyPost_ret (v := .tuple #[wy0, wy0, .int .i64 5]) (by simp [results, Try.results6, go_sem, zr, zs, r0, r1, s0, s1, rf0, rf1, sf0, sf1, hn12, hn21]) rfl ?_
        exact NONE.out _ hno.out HLO.out
      · have ONE := Lib.hid (first_yes htb HP.out hfin (by omega) (by omega) hlt hks)
        have HU3 := Lib.hid hu3
        have bx := blk_below BX1.out hu3.lo (lt_of_block BX1.out)
        have q0 := blk_cell bx 0
        have q1 := blk_cell bx 1
        simp only [List.getElem?_toArray, List.getElem?_cons_zero, List.getElem?_cons_succ] at q0 q1
        have zW := lt_of_block bx
        clear bx
        clear htb hfin hlt hks hu3 HP
        generalize flips (u00 l) ks = u1 at ONE HU3
        generalize dg D = π1 at ONE
        go_wp2_with fail
        refine (K1.out _ _ _ ONE.out.hp HU3.out).mono ?_
        rintro e w4 ⟨D2, P2, htb, hfin, hcase⟩
        clear q0 q1 zW HU3
        rcases hcase with ⟨hfar, rfl, hu4⟩ | ⟨hlt, ks2, hks, rfl, hu4⟩
        · have hno := Lib.hid (second_no ONE.out htb hfin (by omega) (by omega) hfar)
          have rs1 := blk_below RS1.out hu4.lo (lt_of_block RS1.out)
          have rs2 := blk_below RS2.out hu4.lo (lt_of_block RS2.out)
          have r0 := blk_cell rs1 0
          have r1 := blk_cell rs1 1
          have rf0 := blk_free rs1 0
          have rf1 := blk_free rs1 1
          have s0 := blk_cell rs2 0
          have s1 := blk_cell rs2 1
          have sf0 := blk_free rs2 0
          have sf1 := blk_free rs2 1
          simp only [List.getElem?_toArray, List.getElem?_cons_zero, List.getElem?_cons_succ] at r0 r1 s0 s1
          have zr := lt_of_block rs1
          have zs := lt_of_block rs2
          clear rs1 rs2
          have HLO := Lib.hid hu4.lo
          clear htb hfin hfar hu4
          go_wp2
          refine bodyPost_ret (v := .tuple #[wy0, wy0, .int .i64 5]) (by simp [results, Try.results6, go_sem, zr, zs, r0, r1, s0, s1, rf0, rf1, sf0, sf1, hn12, hn21]) rfl ?_
          exact NONE.out _ hno.out HLO.out
        · have hyes0 := second_yes ONE.out htb hfin (by omega) (by omega) hlt hks
          have hyes := And.intro hyes0.1 (And.intro hyes0.2 (Exists.intro (dg D2) (htb.next ONE.out.hp hfin (by omega) (by omega) hlt ONE.out.bf.len hks (htb.used ONE.out.hp hfin ONE.out.bk (by omega) (by omega) hlt)).slk))
          clear hyes0
          generalize flips u1 ks2 = u2 at hyes hu4
          have YES := Lib.hid hyes
          have HU4 := Lib.hid hu4
          have bx := blk_below BX1.out hu4.lo (lt_of_block BX1.out)
          have q0 := blk_cell bx 0
          have q1 := blk_cell bx 1
          simp only [List.getElem?_toArray, List.getElem?_cons_zero, List.getElem?_cons_succ] at q0 q1
          have zW := lt_of_block bx
          clear bx
          clear htb hfin hlt hks hu4 ONE hyes
          go_wp2_with fail
          refine (K2.out _ _ _ (by decide) YES.out.1 HU4.out).mono ?_
          rintro e w5 ⟨A5, c5, p5, co5, u3, rfl, own5, hu5, hf5, _⟩
          have HU4b := HU4
          clear q0 q1 zW HU4
          have HU5 := Lib.hid hu5
          have HF5 := Lib.hid hf5
          have pt5 := pt_own own5 (fp_pos hf5.pth)
          have hU4 : w1.heap.size < w4.heap.size := (HU4b.out.own.base_ w1.heap.size rfl).2
          clear hu5 hf5 own5
          generalize p5.length = m5 at pt5 ⊢
          go_upto_region 10 with fail
          have hx6 := heap_alloc_new w5 (.cells #[.slice A5 m5 c5, .int .i64 co5] 31)
          have pt6 := pt5.keep ((Below.refl _ _).alloc (Nat.le_refl _) (.cells #[.slice A5 m5 c5, .int .i64 co5] 31))
          have hu6 : UM w1 (w5.alloc (.cells #[.slice A5 m5 c5, .int .i64 co5] 31)) w1.heap.size l.length u3 := HU5.out.keep ((Below.refl _ _).alloc (Nat.le_refl _) _)
          obtain ⟨X, hX⟩ : ∃ X, X = w5.heap.size := ⟨_, rfl⟩
          have hXU : X ≠ w1.heap.size := by have := (HU5.out.own.base_ w1.heap.size rfl).2; omega
          rw [← hX] at hx6 ⊢
          clear hX
          generalize w5.alloc (.cells #[.slice A5 m5 c5, .int .i64 co5] 31) = w6 at hx6 hu6 pt6 ⊢
          have bx := blk_below BX1.out hu6.lo (lt_of_block BX1.out)
          have q0 := blk_cell bx 0
          have q1 := blk_cell bx 1
          have x0 := blk_cell hx6 0
          have x1 := blk_cell hx6 1
          simp only [List.getElem?_toArray, List.getElem?_cons_zero, List.getElem?_cons_succ] at q0 q1 x0 x1
          have zW := lt_of_block bx
          have zX := lt_of_block hx6
          have HX6 := Lib.hid hx6
          have HU6 := Lib.hid (hu6.keep (below_drewN (Below.refl _ _) 1))
          have FO := Lib.hid (fol_one HF5.out.fol)
          have PT6 : Hid (Pt w6.drew w4.heap.size A5 m5 p5) := Lib.hid (pt6.keep (Below.refl _ _).drew)
          have HU4c := Lib.hid hU4
          have zw14 : w.heap.size ≤ w1.heap.size := HB1.out.size
          clear bx hx6 hu6 HU5 pt5 pt6 hU4 HU4b
          go_region_with (go_at_call 13; refine (K2.out _ _ _ (by decide) FO.out HU6.out).mono ?_; rintro e w7 ⟨A7, c7, p7, co7, u4, rfl, own7, hu7, hf7, hoth7⟩; have PT7a := Lib.hid (PT6.out.oth HU4c.out hoth7); have PT7b := Lib.hid (pt_own own7 (fp_pos hf7.pth)); clear own7; have hx7 := hoth7 X _ HX6.out hXU; have y0 := blk_cell hx7 0; have y1 := blk_cell hx7 1; have rs1 := blk_below RS1.out hu7.lo (lt_of_block RS1.out); have rs2 := blk_below RS2.out hu7.lo (lt_of_block RS2.out); have r0 := blk_cell rs1 0; have r1 := blk_cell rs1 1; have rf0 := blk_free rs1 0; have rf1 := blk_free rs1 1; have s0 := blk_cell rs2 0; have s1 := blk_cell rs2 1; have sf0 := blk_free rs2 0; have sf1 := blk_free rs2 1; simp only [List.getElem?_toArray, List.getElem?_cons_zero, List.getElem?_cons_succ] at r0 r1 s0 s1 y0 y1; have zr := lt_of_block rs1; have zs := lt_of_block rs2; have zX7 := lt_of_block hx7; have HU7 := Lib.hid hu7; have HF7 := Lib.hid hf7; clear rs1 rs2 hu7 hf7 hoth7 hx7)
          all_goals
            obtain ⟨π, hpi⟩ := YES.out.2.2
            have zR1 := lt_of_block RS1.out
            have zR2 := lt_of_block RS2.out
            have zU4 := HU4c.out
            have zU6 : w1.heap.size < w6.drew.heap.size := (HU6.out.own.base_ w1.heap.size rfl).2
            have zU6b : w1.heap.size < (w6.drewN 1).heap.size := zU6
            have zU6c : w1.heap.size < w6.heap.size := zU6
            have HTP := Lib.hid (fun x y z v => (⟨p5, p7, _, _, _, π, PT7a.out.cells4 (by omega) (by omega) (by omega) x y z v, PT7b.out.cells4 (by omega) (by omega) (by omega) x y z v, HF5.out, HF7.out, YES.out.1, hpi⟩ : TwoP ((((w7.setCell ⟨R1, 0, none⟩ x).setCell ⟨R1, 1, none⟩ y).setCell ⟨R2, 0, none⟩ z).setCell ⟨R2, 1, none⟩ v) w.heap.size l s t co5 co7 A5 m5 A7 p7.length))
            clear zU6 zU6b zU6c zU4 zR1 zR2 hpi
            have SAY := Lib.hid (SOME.out w7 A5 m5 c5 co5 A7 p7.length c7 co7 (two_done HC2.out YES.out.1 YES.out.2.1 HF5.out.fol HF7.out.fol) (HTP.out _ _ _ _) HU7.out.lo)
            clear HTP
            generalize p7.length = m7 at SAY ⊢
            clear x0 x1 q0 q1 zW zX HX6 HU6 FO HF7 HU7 PT6 PT7a PT7b HU4c
            go_wp2
            refine bodyPost_ret (v := .tuple #[.agg #[.slice A5 m5 c5, .int .i64 co5], .agg #[.slice A7 m7 c7, .int .i64 co7], .int .i64 0]) (by simp [results, Try.results6, go_sem, zr, zs, r0, r1, s0, s1, rf0, rf1, sf0, sf1, hn12, hn21]) rfl ?_
            exact SAY.out
  · have hne : (Dijk.look N l [s, t] != 0) = true := by rw [bne_iff_ne]; exact hx
    have HX := Lib.hid hx
    have hfin : Hid (∀ W, Below w.heap.size w W → TwoSays N l s t w (.returned (.tuple #[wy0, wy0, .int .i64 (Dijk.look N l [s, t])])) W) := Lib.hid (fun W hW => ⟨fun _ => rfl, fun h => absurd h HX.out, fun h => absurd h HX.out, hW⟩)
    clear hx
    generalize Dijk.look N l [s, t] = er at hne hfin ⊢
    go_wp2
    refine bodyPost_ret (v := .tuple #[wy0, wy0, .int .i64 er]) (by simp [results, Try.results6, go_sem, zr, zs, r0, r1, s0, s1, rf0, rf1, sf0, sf1, hn12, hn21]) rfl ?_
    exact hfin.out _ ((((HB1.out.setCell (by dsimp only; omega) _).setCell (by dsimp only; omega) _).setCell (by dsimp only; omega) _).setCell (by dsimp only; omega) _)
end Go.Proofs.Ytjebckehmmbkbaa.TwinP
