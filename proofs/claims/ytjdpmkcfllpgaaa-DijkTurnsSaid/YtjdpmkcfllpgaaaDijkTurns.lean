/- For every net and two places: DijkTurns answers true (from a place to another it costs what it costs back through the net turned round), and the arguments read as before. No condition. -/
import Derived.Test.YtjdpmkcfllpgaaaRows
import Derived.Test.YtjdpmkcfllpgaaaOpen
import Derived.Test.YtjdpmkcfllpgaaaDijkTwo
import Derived.Test.YtjdpmkcfllpgaaaDijkTurnsLaw
namespace Go.Proofs.Ytjdpmkcfllpgaaa.DijkTurnsLaw
open Go.ChangeShapes Go.WideShapes Go.ChangeAt Go.RowKit Go.Proofs.Ytjdpmkcfllpgaaa NetLaw BellLaw DijkLaw Go.Proofs.Ytjdpmkcfllpgaaa.Net Go.Proofs.Ytjdpmkcfllpgaaa.Dijk Go.Proofs.Ytjdpmkcfllpgaaa.DijkTwo Go.Proofs.Ytjdpmkcfllpgaaa.Refs Go.Proofs.Ytjdpmkcfllpgaaa.Std
set_option linter.unusedSimpArgs false
set_option linter.unusedVariables false

theorem look_err {N : Int} {l : List E} {b : Int} (hg : NetLaw.Good N l) (hc : ∀ e ∈ l, 1 ≤ e.2.2) : Dijk.look N l [b] = if b < 0 ∨ N ≤ b then 1 else 0 := by
  have h0 : Dijk.posE l = 0 := by
    clear hg
    induction l with
    | nil => rfl
    | cons e r ih =>
      have := hc e (by simp)
      rw [Dijk.posE, if_neg (by omega)]
      exact ih fun x hx => hc x (by simp [hx])
  have h1 : Dijk.pos N l = 0 := by rw [Dijk.pos, if_neg (by simpa using chk_zero.2 hg)]; exact h0
  rw [Dijk.look, if_neg (by simpa using h1)]
  rfl
theorem tl_good {N : Int} {l : List E} (hg : NetLaw.Good N l) : NetLaw.Good N (tl l) := by
  refine ⟨hg.lo, hg.hi, by rw [tl_len]; exact hg.len, fun e he => ?_, fun e he => ?_⟩
  · rw [tl, List.mem_map] at he
    obtain ⟨x, hx, rfl⟩ := he
    have := hg.ends x hx
    exact ⟨this.2.2.1, this.2.2.2, this.1, this.2.1⟩
  · rw [tl, List.mem_map] at he
    obtain ⟨x, hx, rfl⟩ := he
    exact hg.cost x hx
theorem tl_cost {l : List E} (hc : ∀ e ∈ l, 1 ≤ e.2.2) : ∀ e ∈ tl l, 1 ≤ e.2.2 := fun e he => by
  rw [tl, List.mem_map] at he
  obtain ⟨x, hx, rfl⟩ := he
  exact hc x hx

set_option maxRecDepth 100000 in
set_option maxHeartbeats 4000000 in
theorem walk (w : World) (N : Int) (A : Option Addr) (c : Nat) (l : List E) (hA : Arg w 3 ce A c l) (a : Int) (ha : -9223372036854775808 ≤ a ∧ a ≤ 9223372036854775807) (b : Int) (hb : -9223372036854775808 ≤ b ∧ b ≤ 9223372036854775807) :
    Calls Try.prog 5 #[.agg #[.int .i64 N, .slice A l.length c], .int .i64 a, .int .i64 b] w fun e w' => e = .returned (.bool true) ∧ Below w.heap.size w w' := by
  have hs := hA.sl
  have hll : l.length ≤ 9223372036854775807 := Nat.le_trans hA.cap hA.max
  clear hA
  have hw0 : Below w.heap.size w (w.alloc (.cells #[.int .i64 N, .slice A l.length c] 27)) := (Below.refl _ _).alloc (Nat.le_refl _) _
  have key0 := fun W g h => dist_two sh0 look0 W g h
  have key1 := fun W A A' c c' B B' h h' => eq_two [0, 5] rfl W A A' c c' B B' h h'
  have KEY0 := Lib.hid key0
  have KEY1 := Lib.hid key1
  clear key0 key1
  by_cases hx : Dijk.look N l [a] = 0
  · have k2 := fun W h => dist_yes N A c l a hll hx W h
    obtain ⟨hg, hc, f0, f1⟩ := look_zero hx
    have hN1 := hg.lo
    have hN2 := hg.hi
    have h6 := hg.len
    obtain ⟨n, rfl⟩ := Int.eq_ofNat_of_zero_le (show 0 ≤ N by omega)
    obtain ⟨f, rfl⟩ := Int.eq_ofNat_of_zero_le f0
    simp only [Int.toNat_natCast] at k2
    have k3 := fun W h => turn_yes n A c l W h hg
    have hle := look_err (b := b) (tl_good hg) (tl_cost hc)
    have hll' : (tl l).length ≤ 9223372036854775807 := by rw [tl_len]; exact hll
    have hln := tl_len l
    have hturn : ∀ D M, Sh n f l D → Sh n b (tl l) M → 0 ≤ b → b < n → dg D b = dg M f := fun D M hD hM b0 b1 => DijkTurnsPlain.turns hD hM hg.ends (fun e he => by have := hc e he; omega) ⟨by omega, f1⟩ ⟨b0, b1⟩
    have K2 := Lib.hid k2
    have K3 := Lib.hid k3
    have HT := Lib.hid hturn
    clear k2 k3 hx hg hc hturn
    by_cases hb0 : b < 0 ∨ (n : Int) ≤ b
    · rw [if_pos hb0] at hle
      generalize tl l = lt at *
      have k4 := fun W A' c' h => dist_no n A' c' lt b hll' (by rw [hle]; decide) W h
      rw [hle] at k4
      have K4 := Lib.hid k4
      have HLN := Lib.hid hln
      clear k4 hle hll' hln
      go_enter Try.func5, Try.ntmps5
      go_wp2_with fail
      refine (two_any _).mono ?_
      rintro e w1 ⟨g, rfl, own1, hb1⟩
      have B1 : Below (w.heap.size + 1) (w.alloc (.cells #[.int .i64 n, .slice A l.length c] 27)) w1 := hb1.mono (by simp)
      have Z1 : w.heap.size + 1 ≤ w1.heap.size := by have := hb1.size; simp at this; omega
      clear hb1
      go_wp2_with fail
      refine (KEY0.out _ _ own1.sl.2).mono ?_
      rintro e w2 ⟨S2, rfl, own2, hb2⟩
      have B2 := B1.trans (hb2.mono Z1)
      have Z2 : w.heap.size + 1 ≤ w2.heap.size := by have := hb2.size; omega
      clear hb2 own1 B1 Z1
      go_wp2_with fail
      refine (KEY1.out _ _ _ _ _ _ _ (own2.alloc _).sl.2 (sl_new' (by decide) w2 #[.int .i64 0, .int .i64 5] _ _ rfl rfl)).mono ?_
      rintro e w3 ⟨rfl, n3, rfl⟩
      have B3 := below_drewN (B2.alloc Z2 (.cells #[.int .i64 0, .int .i64 5] 3)) n3
      have Z3 : w.heap.size + 1 ≤ (w2.alloc (.cells #[.int .i64 0, .int .i64 5] 3)).heap.size := by simp; omega
      generalize (w2.alloc (.cells #[.int .i64 0, .int .i64 5] 3)) = w3 at B3 Z3 ⊢
      clear own2 B2 Z2
      have z3 : w.heap.size < w3.heap.size := by omega
      have H3 := hw0.trans (B3.mono (Nat.le_succ _))
      obtain ⟨cc3, _⟩ := keepAt B3 (Nat.lt_succ_self _)
      have q0 := cc3 0
      have q1 := cc3 1
      simp at q0 q1
      clear cc3
      go_wp2_with fail
      refine (K2.out _ ((hs.keep H3 (Nat.le_refl _)).more (by simp; omega))).mono ?_
      rintro e w4 ⟨S4, D, rfl, own4, hb4, hsh⟩
      have B4 := B3.trans (hb4.mono Z3)
      have Z4 : w.heap.size + 1 ≤ w4.heap.size := by have := hb4.size; simp at this; omega
      have z4 : w.heap.size < w4.heap.size := by omega
      have H4 := hw0.trans (B4.mono (Nat.le_succ _))
      have sl4 := own4.sl.2
      clear hb4 own4 B3 H3 z3 Z3 q0 q1
      obtain ⟨cc4, _⟩ := keepAt B4 (Nat.lt_succ_self _)
      have q0 := cc4 0
      have q1 := cc4 1
      simp at q0 q1
      clear cc4
      go_wp2_with fail
      refine (K3.out _ ((hs.keep H4 (Nat.le_refl _)).more (by omega))).mono ?_
      rintro e w5 ⟨A5, c5, rfl, own5, hb5⟩
      have H5 := (H4.trans (hb5.mono (by omega))).alloc (Nat.le_trans H4.size hb5.size) (.cells #[.int .i64 n, .slice A5 lt.length c5] 27)
      have X5 : Below w5.heap.size w5 (w5.alloc (.cells #[.int .i64 n, .slice A5 lt.length c5] 27)) := (Below.refl _ _).alloc (Nat.le_refl _) _
      have x5 : w5.heap.size ≤ (w5.alloc (.cells #[.int .i64 n, .slice A5 lt.length c5] 27)).heap.size := by simp
      have sl4' := (sl4.keep hb5 (Nat.le_refl _)).keep X5 hb5.size
      have sl5 := (own5.sl.2.keep X5 (Nat.le_refl _)).more x5
      have sl4 := sl4'.more (Nat.le_trans hb5.size x5)
      clear hb5 own5 q0 q1 B4 sl4' X5 x5
      go_wp2_with fail
      refine (K4.out _ A5 c5 sl5).mono ?_
      rintro e w6 ⟨rfl, hb6⟩
      have H6 := H5.trans (hb6.mono H5.size)
      clear hb6 sl5
      go_wp2
      go_ret
      exact ⟨rfl, H6⟩
    · rw [if_neg hb0] at hle
      have b0 : 0 ≤ b := by omega
      have b1 : b < n := by omega
      obtain ⟨m, rfl⟩ := Int.eq_ofNat_of_zero_le b0
      generalize tl l = lt at *
      have k4 := fun W A' c' h => dist_yes n A' c' lt m hll' hle W h
      simp only [Int.toNat_natCast] at k4
      have K4 := Lib.hid k4
      have HLN := Lib.hid hln
      clear k4 hle hll' hln hb0
      go_enter Try.func5, Try.ntmps5
      go_wp2_with fail
      refine (two_any _).mono ?_
      rintro e w1 ⟨g, rfl, own1, hb1⟩
      have B1 : Below (w.heap.size + 1) (w.alloc (.cells #[.int .i64 n, .slice A l.length c] 27)) w1 := hb1.mono (by simp)
      have Z1 : w.heap.size + 1 ≤ w1.heap.size := by have := hb1.size; simp at this; omega
      clear hb1
      go_wp2_with fail
      refine (KEY0.out _ _ own1.sl.2).mono ?_
      rintro e w2 ⟨S2, rfl, own2, hb2⟩
      have B2 := B1.trans (hb2.mono Z1)
      have Z2 : w.heap.size + 1 ≤ w2.heap.size := by have := hb2.size; omega
      clear hb2 own1 B1 Z1
      go_wp2_with fail
      refine (KEY1.out _ _ _ _ _ _ _ (own2.alloc _).sl.2 (sl_new' (by decide) w2 #[.int .i64 0, .int .i64 5] _ _ rfl rfl)).mono ?_
      rintro e w3 ⟨rfl, n3, rfl⟩
      have B3 := below_drewN (B2.alloc Z2 (.cells #[.int .i64 0, .int .i64 5] 3)) n3
      have Z3 : w.heap.size + 1 ≤ (w2.alloc (.cells #[.int .i64 0, .int .i64 5] 3)).heap.size := by simp; omega
      generalize (w2.alloc (.cells #[.int .i64 0, .int .i64 5] 3)) = w3 at B3 Z3 ⊢
      clear own2 B2 Z2
      have z3 : w.heap.size < w3.heap.size := by omega
      have H3 := hw0.trans (B3.mono (Nat.le_succ _))
      obtain ⟨cc3, _⟩ := keepAt B3 (Nat.lt_succ_self _)
      have q0 := cc3 0
      have q1 := cc3 1
      simp at q0 q1
      clear cc3
      go_wp2_with fail
      refine (K2.out _ ((hs.keep H3 (Nat.le_refl _)).more (by simp; omega))).mono ?_
      rintro e w4 ⟨S4, D, rfl, own4, hb4, hsh⟩
      have B4 := B3.trans (hb4.mono Z3)
      have Z4 : w.heap.size + 1 ≤ w4.heap.size := by have := hb4.size; simp at this; omega
      have z4 : w.heap.size < w4.heap.size := by omega
      have H4 := hw0.trans (B4.mono (Nat.le_succ _))
      have sl4 := own4.sl.2
      clear hb4 own4 B3 H3 z3 Z3 q0 q1
      obtain ⟨cc4, _⟩ := keepAt B4 (Nat.lt_succ_self _)
      have q0 := cc4 0
      have q1 := cc4 1
      simp at q0 q1
      clear cc4
      go_wp2_with fail
      refine (K3.out _ ((hs.keep H4 (Nat.le_refl _)).more (by omega))).mono ?_
      rintro e w5 ⟨A5, c5, rfl, own5, hb5⟩
      have H5 := (H4.trans (hb5.mono (by omega))).alloc (Nat.le_trans H4.size hb5.size) (.cells #[.int .i64 n, .slice A5 lt.length c5] 27)
      have X5 : Below w5.heap.size w5 (w5.alloc (.cells #[.int .i64 n, .slice A5 lt.length c5] 27)) := (Below.refl _ _).alloc (Nat.le_refl _) _
      have x5 : w5.heap.size ≤ (w5.alloc (.cells #[.int .i64 n, .slice A5 lt.length c5] 27)).heap.size := by simp
      have sl4' := (sl4.keep hb5 (Nat.le_refl _)).keep X5 hb5.size
      have sl5 := (own5.sl.2.keep X5 (Nat.le_refl _)).more x5
      have sl4 := sl4'.more (Nat.le_trans hb5.size x5)
      clear hb5 own5 q0 q1 B4 sl4' X5 x5
      go_wp2_with fail
      refine (K4.out _ A5 c5 sl5).mono ?_
      rintro e w6 ⟨S6, M, rfl, own6, hb6, hsh6⟩
      have H6 := H5.trans (hb6.mono H5.size)
      have hfin := HT.out D M hsh.out hsh6.out b0 b1
      simp only [dg, Int.toNat_natCast] at hfin
      have sl6 := own6.sl.2
      have sl4' := sl4.keep hb6 (Nat.le_refl _)
      have hlD := hsh.out.len
      have hlM := hsh6.out.len
      obtain ⟨sb4, so4, e4, _, x4⟩ := sl4'.atI (k := m) (by omega)
      obtain ⟨sb6, so6, e6, _, x6⟩ := sl6.atI (k := f) (by omega)
      injection e4 with e4
      injection e6 with e6
      injection e4 with e41 e42
      injection e6 with e61 e62
      subst e41 e42 e61 e62
      rw [Nat.zero_add] at x4 x6
      rw [List.getD_eq_getElem?_getD, List.getElem?_eq_getElem (by omega), List.getD_eq_getElem?_getD, List.getElem?_eq_getElem (by omega), Option.getD_some, Option.getD_some] at hfin
      rw [hfin] at x4
      generalize M[f] = z at *
      clear hb6 sl5 hfin sl6 sl4' own6 hlD hlM sl4
      go_wp2
      go_quiet (fail)
      go_wp2
      go_ret
      exact ⟨rfl, below_drewN H6 _⟩
  · have k2 := fun W h => dist_no N A c l a hll hx W h
    have k3 := fun W h => turn_some N A c l W h hll
    have hne : (Dijk.look N l [a] != 0) = true := by rw [bne_iff_ne]; exact hx
    generalize Dijk.look N l [a] = er at *
    have K2 := Lib.hid k2
    have K3 := Lib.hid k3
    clear k2 k3 hx
    go_enter Try.func5, Try.ntmps5
    go_wp2_with fail
    refine (two_any _).mono ?_
    rintro e w1 ⟨g, rfl, own1, hb1⟩
    have B1 : Below (w.heap.size + 1) (w.alloc (.cells #[.int .i64 N, .slice A l.length c] 27)) w1 := hb1.mono (by simp)
    have Z1 : w.heap.size + 1 ≤ w1.heap.size := by have := hb1.size; simp at this; omega
    clear hb1
    go_wp2_with fail
    refine (KEY0.out _ _ own1.sl.2).mono ?_
    rintro e w2 ⟨S2, rfl, own2, hb2⟩
    have B2 := B1.trans (hb2.mono Z1)
    have Z2 : w.heap.size + 1 ≤ w2.heap.size := by have := hb2.size; omega
    clear hb2 own1 B1 Z1
    go_wp2_with fail
    refine (KEY1.out _ _ _ _ _ _ _ (own2.alloc _).sl.2 (sl_new' (by decide) w2 #[.int .i64 0, .int .i64 5] _ _ rfl rfl)).mono ?_
    rintro e w3 ⟨rfl, n3, rfl⟩
    have B3 := below_drewN (B2.alloc Z2 (.cells #[.int .i64 0, .int .i64 5] 3)) n3
    have Z3 : w.heap.size + 1 ≤ (w2.alloc (.cells #[.int .i64 0, .int .i64 5] 3)).heap.size := by simp; omega
    generalize (w2.alloc (.cells #[.int .i64 0, .int .i64 5] 3)) = w3 at B3 Z3 ⊢
    clear own2 B2 Z2
    have z3 : w.heap.size < w3.heap.size := by omega
    have H3 := hw0.trans (B3.mono (Nat.le_succ _))
    obtain ⟨cc3, _⟩ := keepAt B3 (Nat.lt_succ_self _)
    have q0 := cc3 0
    have q1 := cc3 1
    simp at q0 q1
    clear cc3
    go_wp2_with fail
    refine (K2.out _ ((hs.keep H3 (Nat.le_refl _)).more (by simp; omega))).mono ?_
    rintro e w4 ⟨rfl, hb4⟩
    have B4 := B3.trans (hb4.mono Z3)
    have Z4 : w.heap.size + 1 ≤ w4.heap.size := by have := hb4.size; simp at this; omega
    have z4 : w.heap.size < w4.heap.size := by omega
    have H4 := hw0.trans (B4.mono (Nat.le_succ _))
    clear hb4 B3 H3 z3 Z3 q0 q1
    obtain ⟨cc4, _⟩ := keepAt B4 (Nat.lt_succ_self _)
    have q0 := cc4 0
    have q1 := cc4 1
    simp at q0 q1
    clear cc4
    go_wp2_with fail
    refine (K3.out _ ((hs.keep H4 (Nat.le_refl _)).more (by omega))).mono ?_
    rintro e w5 ⟨N5, A5, n5, c5, x5, rfl, hb5⟩
    have H5 := H4.trans (hb5.mono (by omega))
    have z5 := H5.size
    clear hb5 q0 q1
    go_wp2
    go_ret
    exact ⟨rfl, H5.alloc z5 _⟩

theorem own : ownKnob Try.prog.godebug = none := by kernel_rfl
theorem laidOut : laidOutB Try.prog = true := by kernel_rfl

set_option maxRecDepth 100000 in
theorem lifted (os : Os) (started : os.Started) (H : Type) (enc : TypeId × Value → H) :
    ReturnsInHanded {} Try.checked os 5 .any (Rows.dijkTurnsSpec.pre6 enc Try.prog Try.f5 Rows.dijkTurnsRow.domain false) (Rows.dijkTurnsSpec.post enc Try.prog Try.f5 false true false false) := by
  refine returnsInHanded_of_change (C := Try.checked) own started (by kernel_rfl) Try.func5
    (ChangeSpec.witness6 (enc := enc) (C := Try.checked) false ⟨#[], #[.agg #[.int .i64 0, .slice none 0 0], .int .i64 0, .int .i64 0], []⟩ 8 (by kernel_rfl) (by kernel_rfl) (by kernel_rfl) (by kernel_rfl)) ?_
  intro W base args ds gs before hval0 hW hcnd _
  have hval : ∀ (j : Nat) t v, Try.f5.params[j]? = some t → args[j]? = some v → Value.okWide Try.prog W .any base t v := hval0
  have hW' := hW
  obtain ⟨p, q, hA0, hV, rfl, hfz, hnd⟩ := hW
  have hA : DataW.TrodAll enc Try.prog W 0 (fun _ => true) true Try.f5.params.toList args.toList ds p := hA0
  rw [Try.params5] at hA hval
  obtain ⟨v0, vs0, d0, ds0, p0, q0, hargs, rfl, rfl, h0, r0⟩ := trodAll_cons hA
  obtain ⟨v1, vs1, d1, ds1, p1, q1, rfl, rfl, rfl, h1, r1⟩ := trodAll_cons r0
  obtain ⟨v2, vs2, d2, ds2, p2, q2, rfl, rfl, rfl, h2, r2⟩ := trodAll_cons r1
  obtain ⟨rfl, rfl, rfl⟩ := trodAll_nil r2
  obtain rfl : args = #[v0, v1, v2] := by cases args; simp_all
  obtain ⟨rfl, rfl⟩ := trodVars_none hV
  obtain ⟨N0, A0, c0, l0, dd0, rfl, hN0, hG0, hb0, rfl, hd0⟩ := open_net Try.underlying27 (by kernel_rfl) (by kernel_rfl) Try.underlying3 Try.underlying25 Try.underlying35 (by kernel_rfl) (by kernel_rfl) Try.underlying3 Try.underlying3 Try.underlying3 (hval 0 27 v0 rfl rfl) h0
  obtain ⟨a1, rfl, rfl, rfl, wa1⟩ := open_int Try.underlying3 (hval 1 3 v1 rfl rfl) h1
  obtain ⟨a2, rfl, rfl, rfl, wa2⟩ := open_int Try.underlying3 (hval 2 3 v2 rfl rfl) h2
  refine (walk W N0 A0 c0 l0 hG0 a1 (wf_bd wa1) a2 (wf_bd wa2)).mono fun e W' ⟨he, hB⟩ => ?_
  subst he
  exact ⟨_, rfl, post_of_law laidOut rfl Try.underlying4 rfl (by intro t ht; rw [Try.params5] at ht; simp at ht; rcases ht with rfl | rfl | rfl <;> exact ⟨by kernel_rfl, of_decide_eq_true (by kernel_rfl)⟩) hW' rfl hB⟩

theorem holds : Rows.DijkTurnsSaid :=
  OpenClaim.holds_of_wide 5 Try.f5 rfl rfl rfl rfl rfl rfl rfl ⟨rfl, rfl, rfl, rfl, rfl⟩ rfl rfl rfl rfl rfl (by kernel_rfl) Try.func5 (by kernel_rfl)
    (of_decide_eq_true (by kernel_rfl)) (by unfold Func.isWrapper; first | (rw [if_pos (by decide +kernel)]; kernel_rfl) | (rw [if_neg (by decide +kernel)]; exact ⟨rfl, rfl⟩))
    (fun os started H enc _ => lifted os started H enc)
#print axioms holds
end Go.Proofs.Ytjdpmkcfllpgaaa.DijkTurnsLaw
