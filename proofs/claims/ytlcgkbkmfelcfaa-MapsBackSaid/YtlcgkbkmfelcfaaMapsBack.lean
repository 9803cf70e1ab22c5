/- For every grid: MapsBack answers true (ground that is printed is read again as it was), and the arguments read as before. No condition. -/
import Derived.Test.YtlcgkbkmfelcfaaRows
import Derived.Test.YtlcgkbkmfelcfaaOpen
import Derived.Test.YtlcgkbkmfelcfaaMapsWalks
namespace Go.Proofs.Ytlcgkbkmfelcfaa.MapsBackLaw
open Go.ChangeShapes Go.WideShapes Go.ChangeAt Go.RowKit Go.Proofs.Ytlcgkbkmfelcfaa GridLaw MapsLaw Go.Proofs.Ytlcgkbkmfelcfaa.Grid Go.Proofs.Ytlcgkbkmfelcfaa.Maps Go.Proofs.Ytlcgkbkmfelcfaa.Std Go.Proofs.Ytlcgkbkmfelcfaa.Net
set_option linter.unusedSimpArgs false
set_option linter.unusedVariables false
theorem good09 : GGood 2 1 [0, 9] := gchk_zero.1 (by decide +kernel)
theorem print09 (w : World) (g : Nat) (hl : Sl w w.heap.size 1 ci (some ⟨g, 0, none⟩) [0, 9]) :
    Calls Try.prog 27 #[.agg #[.int .i64 2, .int .i64 1, .slice (some ⟨g, 0, none⟩) 2 2]] w fun e w' => e = .returned (.tuple #[.string ⟨#[35, 57, 10]⟩, .int .i64 0]) ∧ Below w.heap.size w w' :=
  print_yes 2 1 (some ⟨g, 0, none⟩) 2 2 [0, 9] w rfl hl good09

set_option maxRecDepth 100000 in
set_option maxHeartbeats 1000000 in
theorem walk (w : World) (W H : Int) (A : Option Addr) (c : Nat) (l : List Int) (hW : -9223372036854775808 ≤ W ∧ W ≤ 9223372036854775807) (hH : -9223372036854775808 ≤ H ∧ H ≤ 9223372036854775807) (hA : Arg w 1 ci A c l) :
    Calls Try.prog 4 #[.agg #[.int .i64 W, .int .i64 H, .slice A l.length c]] w fun e w' => e = .returned (.bool true) ∧ Below w.heap.size w w' := by
  have hs := hA.sl
  have hll : l.length ≤ 9223372036854775807 := Nat.le_trans hA.cap hA.max
  clear hA hW hH
  obtain ⟨n, hn⟩ : ∃ n, l.length = n := ⟨_, rfl⟩
  rw [hn] at hll ⊢
  have hkeep : ∀ X, Below (w.heap.size + 1) (w.alloc (.cells #[.int .i64 W, .int .i64 H, .slice A n c] 44)) X → (X.cell? ⟨w.heap.size, 0, none⟩ = some (.int .i64 W) ∧ X.cell? ⟨w.heap.size, 1, none⟩ = some (.int .i64 H) ∧ X.cell? ⟨w.heap.size, 2, none⟩ = some (.slice A n c)) ∧ w.heap.size + 1 ≤ X.heap.size ∧ Sl X X.heap.size 1 ci A l ∧ Below w.heap.size w X := fun X hX => by
    have h0 := blk_below (heap_alloc_new w (.cells #[.int .i64 W, .int .i64 H, .slice A n c] 44)) hX (by omega)
    have h1 := ((Below.refl w.heap.size w).alloc (Nat.le_refl _) (.cells #[.int .i64 W, .int .i64 H, .slice A n c] 44)).trans (hX.mono (by omega))
    have h2 := hX.size
    simp at h2
    exact ⟨cells3 h0, h2, (hs.keep h1 (Nat.le_refl _)).more h1.size, h1⟩
  have HK := Lib.hid hkeep
  have HN := Lib.hid hn
  have B0 : Below (w.heap.size + 1) (w.alloc (.cells #[.int .i64 W, .int .i64 H, .slice A n c] 44)) (w.alloc (.cells #[.int .i64 W, .int .i64 H, .slice A n c] 44)) := Below.refl _ _
  clear hkeep hs
  have hgd : GGood W H l ∨ gchk W H l ≠ 0 := by
    by_cases h : gchk W H l = 0
    · exact .inl (gchk_zero.1 h)
    · exact .inr h
  have p0 : Sl ((w.alloc (.cells #[.int .i64 W, .int .i64 H, .slice A n c] 44)).alloc (.cells #[.int .i64 0, .int .i64 9] 3)) ((w.alloc (.cells #[.int .i64 W, .int .i64 H, .slice A n c] 44)).alloc (.cells #[.int .i64 0, .int .i64 9] 3)).heap.size 1 ci (some ⟨w.heap.size + 1, 0, none⟩) [0, 9] := sl_new' (by decide) _ #[.int .i64 0, .int .i64 9] _ _ (by simp) rfl
  have P0 := Lib.hid p0
  clear p0 hn
  go_enter Try.func4, Try.ntmps4
  go_wp2_with fail
  refine (print09 _ _ P0.out).mono ?_
  rintro e w1 ⟨rfl, hb1⟩
  have B1 := (B0.alloc (by simp) (.cells #[.int .i64 0, .int .i64 9] 3)).trans (hb1.mono (by simp))
  obtain ⟨⟨q0, q1, q2⟩, Z1, sg, H1⟩ := HK.out _ B1
  clear hb1 B0 P0
  go_wp2_with fail
  rcases hgd with hg | hg
  · refine (print_yes W H A n c l _ HN.out sg hg).mono ?_
    rintro e w2 ⟨rfl, hb2⟩
    have hrd := rd_of_good hg
    have hw1 := hg.w1
    have hh1 := hg.h1
    have B2 := B1.trans (hb2.mono Z1)
    clear hb2 B1 H1 sg
    obtain ⟨⟨q0, q1, q2⟩, Z2, sg, H2⟩ := HK.out _ B2
    have hsz : (ByteArray.mk (pr W.toNat 0 l).toArray).size ≤ 9223372036854775807 := by
      have h1 := hrd.len
      have h2 : (W.toNat + 1) * H.toNat ≤ 9 * 8 := Nat.mul_le_mul (by have := hrd.w8; omega) hrd.h8
      show (pr W.toNat 0 l).toArray.size ≤ _
      rw [List.size_toArray]
      omega
    have hun : ∀ W' H' l', Rd (ByteArray.mk (pr W.toNat 0 l).toArray).data.toList W' H' l' → (W' : Int) = W ∧ (H' : Int) = H ∧ l' = l := fun W' H' l' h => by
      obtain ⟨a, b, d⟩ := hrd.unique h
      exact ⟨by omega, by omega, d⟩
    have hrd2 : Rd (ByteArray.mk (pr W.toNat 0 l).toArray).data.toList W.toNat H.toNat l := hrd
    generalize (ByteArray.mk (pr W.toNat 0 l).toArray) = s at hsz hun hrd2 ⊢
    have HUN := Lib.hid hun
    have HRD := Lib.hid hrd2
    clear hun hrd2 hrd hg hw1 hh1
    go_wp2_with fail
    refine (read_any s w2 hsz).mono ?_
    rintro e w3 ⟨h3, hb3⟩
    rcases h3 with ⟨W', H', l', A', m, c', hr, rfl, hm, own⟩ | ⟨hno, rfl⟩
    · obtain ⟨e1, e2, e3⟩ := HUN.out _ _ _ hr
      subst e1 e2 e3
      obtain rfl : n = m := HN.out.symm.trans hm
      have B3 := B2.trans (hb3.mono Z2)
      have B3a := B3.alloc (by have := B3.size; simp at this; omega) (.cells #[.int .i64 W', .int .i64 H', .slice A' n c'] 44)
      obtain ⟨⟨q0, q1, q2⟩, Z3, sg, H3⟩ := HK.out _ B3a
      have z3 : w.heap.size < w3.heap.size := by have := B3.size; simp at this; omega
      clear hb3 B2 Z2 B3 hm
      go_wp2_with fail
      refine (same_grid W' H' A A' n c c' l' _ sg (own.alloc _).sl.2 HN.out hll).mono ?_
      rintro e w4 ⟨rfl, hb4⟩
      have hf := (HK.out _ (B3a.trans (hb4.mono Z3))).2.2.2
      go_wp2
      go_ret
      exact ⟨rfl, hf⟩
    · exact absurd HRD.out (hno _ _ _)
  · have k1 := fun (w' : World) (h : Sl w' w'.heap.size 1 ci A l) => print_no W H A n c l w' HN.out h hll hg
    have k2 := fun (w' : World) (h : Sl w' w'.heap.size 1 ci A l) => check_any W H A c l w' h (by rw [HN.out]; exact hll)
    rw [HN.out] at k2
    generalize gchk W H l = x at k1 k2 hg
    have hx : (x != 0) = true := by simp [hg]
    have K2 := Lib.hid k2
    clear k2
    refine (k1 _ sg).mono ?_
    rintro e w2 ⟨rfl, hb2⟩
    have B2 := B1.trans (hb2.mono Z1)
    clear hb2 B1 H1 sg k1
    obtain ⟨⟨q0, q1, q2⟩, Z2, sg, H2⟩ := HK.out _ B2
    go_wp2_with fail
    refine (K2.out _ sg).mono ?_
    rintro e w3 ⟨rfl, hb3⟩
    have hf := (HK.out _ (B2.trans (hb3.mono Z2))).2.2.2
    go_wp2
    go_ret
    exact ⟨by first | rfl | simp, hf⟩

theorem own : ownKnob Try.prog.godebug = none := by kernel_rfl
theorem laidOut : laidOutB Try.prog = true := by kernel_rfl

set_option maxRecDepth 100000 in
theorem lifted (os : Os) (started : os.Started) (H : Type) (enc : TypeId × Value → H) :
    ReturnsInHanded {} Try.checked os 4 .any (Rows.mapsBackSpec.pre6 enc Try.prog Try.f4 Rows.mapsBackRow.domain false) (Rows.mapsBackSpec.post enc Try.prog Try.f4 false true false false) := by
  refine returnsInHanded_of_change (C := Try.checked) own started (by kernel_rfl) Try.func4
    (ChangeSpec.witness6 (enc := enc) (C := Try.checked) false ⟨#[], #[.agg #[.int .i64 0, .int .i64 0, .slice none 0 0]], []⟩ 8 (by kernel_rfl) (by kernel_rfl) (by kernel_rfl) (by kernel_rfl)) ?_
  intro W base args ds gs before hval0 hW hcnd _
  have hval : ∀ (j : Nat) t v, Try.f4.params[j]? = some t → args[j]? = some v → Value.okWide Try.prog W .any base t v := hval0
  have hW' := hW
  obtain ⟨p, q, hA0, hV, rfl, hfz, hnd⟩ := hW
  have hA : DataW.TrodAll enc Try.prog W 0 (fun _ => true) true Try.f4.params.toList args.toList ds p := hA0
  rw [Try.params4] at hA hval
  obtain ⟨v0, vs0, d0, ds0, p0, q0, hargs, rfl, rfl, h0, r0⟩ := trodAll_cons hA
  obtain ⟨rfl, rfl, rfl⟩ := trodAll_nil r0
  obtain rfl : args = #[v0] := by cases args; simp_all
  obtain ⟨rfl, rfl⟩ := trodVars_none hV
  obtain ⟨W0, H0, A0, c0, l0, dd0, rfl, hW0, hH0, hG0, hb0, rfl, hd0⟩ := open_grid Try.underlying44 (by kernel_rfl) (by kernel_rfl) Try.underlying3 Try.underlying3 Try.underlying25 Try.underlying3 (by kernel_rfl) (hval 0 44 v0 rfl rfl) h0
  refine (walk W W0 H0 A0 c0 l0 hW0 hH0 hG0).mono fun e W' ⟨he, hB⟩ => ?_
  subst he
  exact ⟨_, rfl, post_of_law laidOut rfl Try.underlying4 rfl (by intro t ht; rw [Try.params4] at ht; simp at ht; subst ht <;> exact ⟨by kernel_rfl, of_decide_eq_true (by kernel_rfl)⟩) hW' rfl hB⟩

theorem holds : Rows.MapsBackSaid :=
  OpenClaim.holds_of_wide 4 Try.f4 rfl rfl rfl rfl rfl rfl rfl ⟨rfl, rfl, rfl, rfl, rfl⟩ rfl rfl rfl rfl rfl (by kernel_rfl) Try.func4 (by kernel_rfl)
    (of_decide_eq_true (by kernel_rfl)) (by unfold Func.isWrapper; first | (rw [if_pos (by decide +kernel)]; kernel_rfl) | (rw [if_neg (by decide +kernel)]; exact ⟨rfl, rfl⟩))
    (fun os started H enc _ => lifted os started H enc)
#print axioms holds
end Go.Proofs.Ytlcgkbkmfelcfaa.MapsBackLaw
