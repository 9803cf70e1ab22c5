/- For every net and place: BellSame answers true (where no edge costs less than 1 Bellman's and Dijkstra's costs are the same), and the arguments read as before. No condition. -/
import Derived.Test.YtjdpmkcfllpgaaaRows
import Derived.Test.YtjdpmkcfllpgaaaOpen
import Derived.Test.YtjdpmkcfllpgaaaDijkTwo
import Derived.Test.YtjdpmkcfllpgaaaBellEnds
namespace Go.Proofs.Ytjdpmkcfllpgaaa.BellSameLaw
open Go.ChangeShapes Go.WideShapes Go.ChangeAt Go.RowKit Go.Proofs.Ytjdpmkcfllpgaaa NetLaw BellLaw DijkLaw Go.Proofs.Ytjdpmkcfllpgaaa.Net Go.Proofs.Ytjdpmkcfllpgaaa.Dijk Go.Proofs.Ytjdpmkcfllpgaaa.DijkTwo Go.Proofs.Ytjdpmkcfllpgaaa.Refs Go.Proofs.Ytjdpmkcfllpgaaa.Std
set_option linter.unusedSimpArgs false
set_option linter.unusedVariables false

theorem bell_e : Bell.derr 2 [(0, 1, 5)] 0 = 0 := by decide +kernel
theorem bell_v : (Bell.rl 2 [(0, 1, 5)] 0).1 = [0, 5] := by decide +kernel
theorem bell_two (W : World) (g : Nat) (h : Sl W W.heap.size 3 ce (some ⟨g, 0, none⟩) [(0, 1, 5)]) :
    Calls Try.prog 31 #[.agg #[.int .i64 2, .slice (some ⟨g, 0, none⟩) 1 1], .int .i64 0] W fun e w' => ∃ S, e = .returned (.tuple #[.slice (some ⟨S, 0, none⟩) 2 2, .int .i64 0]) ∧ Own w' W.heap.size 3 1 ci (.slice (some ⟨S, 0, none⟩) 2 2) [0, 5] ∧ Below W.heap.size W w' := by
  refine (Bell.dist_any 2 (some ⟨g, 0, none⟩) 1 [(0, 1, 5)] 0 W h (by decide)).mono ?_
  rintro e w' ⟨_, k2, k3⟩
  obtain ⟨S, _, k4, k5, _⟩ := k2 bell_e
  have e : (Bell.rl (2 : Int).toNat [(0, 1, 5)] (0 : Int).toNat).1 = [0, 5] := bell_v
  rw [e] at k5
  exact ⟨S, k4, k5, k3⟩
theorem bell_some (N : Int) (A : Option Addr) (c : Nat) (l : List E) (fr : Int) (hll : l.length ≤ 9223372036854775807) (W : World) (h : Sl W W.heap.size 3 ce A l) :
    Calls Try.prog 31 #[.agg #[.int .i64 N, .slice A l.length c], .int .i64 fr] W fun e w' => ∃ A' n' c' x, e = .returned (.tuple #[.slice A' n' c', .int .i64 x]) ∧ Below W.heap.size W w' := by
  refine (Bell.dist_any N A c l fr W h hll).mono ?_
  rintro e w' ⟨k1, k2, k3⟩
  by_cases hz : Bell.derr N l fr = 0
  · obtain ⟨S, _, k4, _⟩ := k2 hz
    exact ⟨_, _, _, _, k4, k3⟩
  · exact ⟨_, _, _, _, k1 hz, k3⟩
theorem bell_yes (n f : Nat) (A : Option Addr) (c : Nat) (l : List E) (hg : NetLaw.Good n l) (hf : f < n) (hc : ∀ e ∈ l, 1 ≤ e.2.2) (W : World) (D : List Int) (hD : Sh n f l D) (h : Sl W W.heap.size 3 ce A l) :
    Calls Try.prog 31 #[.agg #[.int .i64 n, .slice A l.length c], .int .i64 f] W fun e w' => ∃ S, e = .returned (.tuple #[.slice (some ⟨S, 0, none⟩) n n, .int .i64 0]) ∧ Own w' W.heap.size 3 1 ci (.slice (some ⟨S, 0, none⟩) n n) D ∧ Below W.heap.size W w' := by
  obtain ⟨z1, z2⟩ := BellSh.bell_ok hg hf hc hD
  have h6 := hg.len
  refine (Bell.dist_any n A c l f W h (by omega)).mono ?_
  rintro e w' ⟨_, k2, k3⟩
  have hz : Bell.derr n l f = 0 := by
    rw [Bell.derr, if_neg (by simpa using chk_zero.2 hg), if_neg (by omega), if_neg]
    simp only [Int.toNat_natCast]
    omega
  obtain ⟨S, _, k4, k5, _⟩ := k2 hz
  simp only [Int.toNat_natCast] at k4 k5
  rw [z2] at k5
  exact ⟨S, k4, k5, k3⟩

set_option maxRecDepth 100000 in
set_option maxHeartbeats 4000000 in
theorem walk (w : World) (N : Int) (A : Option Addr) (c : Nat) (l : List E) (hA : Arg w 3 ce A c l) (a : Int) (ha : -9223372036854775808 ≤ a ∧ a ≤ 9223372036854775807) :
    Calls Try.prog 7 #[.agg #[.int .i64 N, .slice A l.length c], .int .i64 a] w fun e w' => e = .returned (.bool true) ∧ Below w.heap.size w w' := by
  have hs := hA.sl
  have hll : l.length ≤ 9223372036854775807 := Nat.le_trans hA.cap hA.max
  clear hA
  have hw0 : Below w.heap.size w (w.alloc (.cells #[.int .i64 N, .slice A l.length c] 27)) := (Below.refl _ _).alloc (Nat.le_refl _) _
  have key0 := fun W g h => bell_two W g h
  have key1 := fun W A A' c c' B B' h h' => eq_two [0, 5] rfl W A A' c c' B B' h h'
  have KEY0 := Lib.hid key0
  have KEY1 := Lib.hid key1
  clear key0 key1
  by_cases hx : Dijk.look N l [a] = 0
  · have k2 := fun W h => dist_yes N A c l a hll hx W h
    obtain ⟨hg, hc, f0, f1⟩ := look_zero hx
    have hN1 := hg.lo
    have hN2 := hg.hi
    obtain ⟨n, rfl⟩ := Int.eq_ofNat_of_zero_le (show 0 ≤ N by omega)
    obtain ⟨f, rfl⟩ := Int.eq_ofNat_of_zero_le f0
    simp only [Int.toNat_natCast] at k2
    have k3 := fun W D hD h => bell_yes n f A c l hg (by omega) hc W D hD h
    have k4 : ∀ (W : World) (S S' : Nat) (D : List Int) (B B' : Nat), Sh n f l D → Sl W B 1 ci (some ⟨S, 0, none⟩) D → Sl W B' 1 ci (some ⟨S', 0, none⟩) D → Calls Try.prog 23 #[.slice (some ⟨S, 0, none⟩) n n, .slice (some ⟨S', 0, none⟩) n n] W fun e w' => e = .returned (.bool true) ∧ ∃ k, w' = W.drewN k := fun W S S' D B B' hD h1 h2 =>
      equal_int' _ _ n n n n D D B B' W h1 h2 (by have := hD.len; omega) (by have := hD.len; omega) (by omega) true (by simp)
    have K2 := Lib.hid k2
    have K3 := Lib.hid k3
    have K4 := Lib.hid k4
    clear k2 k3 k4 hx hg hc
    go_enter Try.func7, Try.ntmps7
    go_wp2_with fail
    refine (two_any _).mono ?_
    rintro e w1 ⟨g, rfl, own1, hb1⟩
    have B1 : Below (w.heap.size + 1) (w.alloc (.cells #[.int .i64 n, .slice A l.length c] 27)) w1 := hb1.mono (by simp)
    have Z1 : w.heap.size + 1 ≤ w1.heap.size := by have := hb1.size; simp at this; omega
    clear hb1
    go_wp2_with fail
    refine (KEY0.out _ _ own1.sl.2).mono ?_
    rintro e w2 ⟨S2, rfl, own2, hb2⟩
    have B2 := B1.trans (hb2.mono Z1)
    have Z2 : w.heap.size + 1 ≤ w2.heap.size := by have := hb2.size; omega
    clear hb2 own1 B1 Z1
    go_wp2_with fail
    refine (KEY1.out _ _ _ _ _ _ _ (own2.alloc _).sl.2 (sl_new' (by decide) w2 #[.int .i64 0, .int .i64 5] _ _ rfl rfl)).mono ?_
    rintro e w3 ⟨rfl, n3, rfl⟩
    have B3 := below_drewN (B2.alloc Z2 (.cells #[.int .i64 0, .int .i64 5] 3)) n3
    have Z3 : w.heap.size + 1 ≤ (w2.alloc (.cells #[.int .i64 0, .int .i64 5] 3)).heap.size := by simp; omega
    generalize (w2.alloc (.cells #[.int .i64 0, .int .i64 5] 3)) = w3 at B3 Z3 ⊢
    clear own2 B2 Z2
    have z3 : w.heap.size < w3.heap.size := by omega
    have H3 := hw0.trans (B3.mono (Nat.le_succ _))
    obtain ⟨cc3, _⟩ := keepAt B3 (Nat.lt_succ_self _)
    have q0 := cc3 0
    have q1 := cc3 1
    simp at q0 q1
    clear cc3
    go_wp2_with fail
    refine (K2.out _ ((hs.keep H3 (Nat.le_refl _)).more (by simp; omega))).mono ?_
    rintro e w4 ⟨S4, D, rfl, own4, hb4, hsh⟩
    have B4 := B3.trans (hb4.mono Z3)
    have Z4 : w.heap.size + 1 ≤ w4.heap.size := by have := hb4.size; simp at this; omega
    have z4 : w.heap.size < w4.heap.size := by omega
    have H4 := hw0.trans (B4.mono (Nat.le_succ _))
    have sl4 := own4.sl.2
    clear hb4 own4 B3 H3 z3 Z3 q0 q1
    obtain ⟨cc4, _⟩ := keepAt B4 (Nat.lt_succ_self _)
    have q0 := cc4 0
    have q1 := cc4 1
    simp at q0 q1
    clear cc4
    go_wp2_with fail
    refine (K3.out _ _ hsh.out ((hs.keep H4 (Nat.le_refl _)).more (by omega))).mono ?_
    rintro e w5 ⟨S5, rfl, own5, hb5⟩
    have H5 := H4.trans (hb5.mono (by omega))
    have sl5 := own5.sl.2
    have sl4' := sl4.keep hb5 (Nat.le_refl _)
    clear hb5 own5 sl4 q0 q1
    go_wp2_with fail
    refine (K4.out _ _ _ _ _ _ hsh.out sl4' sl5).mono ?_
    rintro e w6 ⟨rfl, n6, rfl⟩
    have H6 := below_drewN H5 n6
    clear sl4' sl5 H5 H4
    go_wp2
    go_ret
    exact ⟨rfl, H6⟩
  · have k2 := fun W h => dist_no N A c l a hll hx W h
    have k3 := fun W h => bell_some N A c l a hll W h
    have hne : (Dijk.look N l [a] != 0) = true := by rw [bne_iff_ne]; exact hx
    generalize Dijk.look N l [a] = er at *
    have K2 := Lib.hid k2
    have K3 := Lib.hid k3
    clear k2 k3 hx
    go_enter Try.func7, Try.ntmps7
    go_wp2_with fail
    refine (two_any _).mono ?_
    rintro e w1 ⟨g, rfl, own1, hb1⟩
    have B1 : Below (w.heap.size + 1) (w.alloc (.cells #[.int .i64 N, .slice A l.length c] 27)) w1 := hb1.mono (by simp)
    have Z1 : w.heap.size + 1 ≤ w1.heap.size := by have := hb1.size; simp at this; omega
    clear hb1
    go_wp2_with fail
    refine (KEY0.out _ _ own1.sl.2).mono ?_
    rintro e w2 ⟨S2, rfl, own2, hb2⟩
    have B2 := B1.trans (hb2.mono Z1)
    have Z2 : w.heap.size + 1 ≤ w2.heap.size := by have := hb2.size; omega
    clear hb2 own1 B1 Z1
    go_wp2_with fail
    refine (KEY1.out _ _ _ _ _ _ _ (own2.alloc _).sl.2 (sl_new' (by decide) w2 #[.int .i64 0, .int .i64 5] _ _ rfl rfl)).mono ?_
    rintro e w3 ⟨rfl, n3, rfl⟩
    have B3 := below_drewN (B2.alloc Z2 (.cells #[.int .i64 0, .int .i64 5] 3)) n3
    have Z3 : w.heap.size + 1 ≤ (w2.alloc (.cells #[.int .i64 0, .int .i64 5] 3)).heap.size := by simp; omega
    generalize (w2.alloc (.cells #[.int .i64 0, .int .i64 5] 3)) = w3 at B3 Z3 ⊢
    clear own2 B2 Z2
    have z3 : w.heap.size < w3.heap.size := by omega
    have H3 := hw0.trans (B3.mono (Nat.le_succ _))
    obtain ⟨cc3, _⟩ := keepAt B3 (Nat.lt_succ_self _)
    have q0 := cc3 0
    have q1 := cc3 1
    simp at q0 q1
    clear cc3
    go_wp2_with fail
    refine (K2.out _ ((hs.keep H3 (Nat.le_refl _)).more (by simp; omega))).mono ?_
    rintro e w4 ⟨rfl, hb4⟩
    have B4 := B3.trans (hb4.mono Z3)
    have Z4 : w.heap.size + 1 ≤ w4.heap.size := by have := hb4.size; simp at this; omega
    have z4 : w.heap.size < w4.heap.size := by omega
    have H4 := hw0.trans (B4.mono (Nat.le_succ _))
    clear hb4 B3 H3 z3 Z3 q0 q1
    obtain ⟨cc4, _⟩ := keepAt B4 (Nat.lt_succ_self _)
    have q0 := cc4 0
    have q1 := cc4 1
    simp at q0 q1
    clear cc4
    go_wp2_with fail
    refine (K3.out _ ((hs.keep H4 (Nat.le_refl _)).more (by omega))).mono ?_
    rintro e w5 ⟨A5, n5, c5, x5, rfl, hb5⟩
    have H5 := H4.trans (hb5.mono (by omega))
    clear hb5 q0 q1
    go_wp2
    go_ret
    exact ⟨rfl, H5⟩

theorem own : ownKnob Try.prog.godebug = none := by kernel_rfl
theorem laidOut : laidOutB Try.prog = true := by kernel_rfl

set_option maxRecDepth 100000 in
theorem lifted (os : Os) (started : os.Started) (H : Type) (enc : TypeId × Value → H) :
    ReturnsInHanded {} Try.checked os 7 .any (Rows.bellSameSpec.pre6 enc Try.prog Try.f7 Rows.bellSameRow.domain false) (Rows.bellSameSpec.post enc Try.prog Try.f7 false true false false) := by
  refine returnsInHanded_of_change (C := Try.checked) own started (by kernel_rfl) Try.func7
    (ChangeSpec.witness6 (enc := enc) (C := Try.checked) false ⟨#[], #[.agg #[.int .i64 0, .slice none 0 0], .int .i64 0], []⟩ 8 (by kernel_rfl) (by kernel_rfl) (by kernel_rfl) (by kernel_rfl)) ?_
  intro W base args ds gs before hval0 hW hcnd _
  have hval : ∀ (j : Nat) t v, Try.f7.params[j]? = some t → args[j]? = some v → Value.okWide Try.prog W .any base t v := hval0
  have hW' := hW
  obtain ⟨p, q, hA0, hV, rfl, hfz, hnd⟩ := hW
  have hA : DataW.TrodAll enc Try.prog W 0 (fun _ => true) true Try.f7.params.toList args.toList ds p := hA0
  rw [Try.params7] at hA hval
  obtain ⟨v0, vs0, d0, ds0, p0, q0, hargs, rfl, rfl, h0, r0⟩ := trodAll_cons hA
  obtain ⟨v1, vs1, d1, ds1, p1, q1, rfl, rfl, rfl, h1, r1⟩ := trodAll_cons r0
  obtain ⟨rfl, rfl, rfl⟩ := trodAll_nil r1
  obtain rfl : args = #[v0, v1] := by cases args; simp_all
  obtain ⟨rfl, rfl⟩ := trodVars_none hV
  obtain ⟨N0, A0, c0, l0, dd0, rfl, hN0, hG0, hb0, rfl, hd0⟩ := open_net Try.underlying27 (by kernel_rfl) (by kernel_rfl) Try.underlying3 Try.underlying25 Try.underlying35 (by kernel_rfl) (by kernel_rfl) Try.underlying3 Try.underlying3 Try.underlying3 (hval 0 27 v0 rfl rfl) h0
  obtain ⟨a1, rfl, rfl, rfl, wa1⟩ := open_int Try.underlying3 (hval 1 3 v1 rfl rfl) h1
  refine (walk W N0 A0 c0 l0 hG0 a1 (wf_bd wa1)).mono fun e W' ⟨he, hB⟩ => ?_
  subst he
  exact ⟨_, rfl, post_of_law laidOut rfl Try.underlying4 rfl (by intro t ht; rw [Try.params7] at ht; simp at ht; rcases ht with rfl | rfl <;> exact ⟨by kernel_rfl, of_decide_eq_true (by kernel_rfl)⟩) hW' rfl hB⟩

theorem holds : Rows.BellSameSaid :=
  OpenClaim.holds_of_wide 7 Try.f7 rfl rfl rfl rfl rfl rfl rfl ⟨rfl, rfl, rfl, rfl, rfl⟩ rfl rfl rfl rfl rfl (by kernel_rfl) Try.func7 (by kernel_rfl)
    (of_decide_eq_true (by kernel_rfl)) (by unfold Func.isWrapper; first | (rw [if_pos (by decide +kernel)]; kernel_rfl) | (rw [if_neg (by decide +kernel)]; exact ⟨rfl, rfl⟩))
    (fun os started H enc _ => lifted os started H enc)
#print axioms holds
end Go.Proofs.Ytjdpmkcfllpgaaa.BellSameLaw
