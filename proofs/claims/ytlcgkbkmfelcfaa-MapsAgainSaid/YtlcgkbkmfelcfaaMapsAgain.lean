/- For every text: MapsAgain answers true (what is read is ground, and printed again it is the text it was), and the argument reads as before. No condition. -/
import Derived.Test.YtlcgkbkmfelcfaaRows
import Derived.Test.YtlcgkbkmfelcfaaOpen
import Derived.ChangeMaps5
import Derived.Test.YtlcgkbkmfelcfaaMapsWalks
namespace Go.Proofs.Ytlcgkbkmfelcfaa.MapsAgainLaw
open Go.ChangeShapes Go.WideShapes Go.ChangeAt Go.ChangeMaps Go.RowKit Go.Proofs.Ytlcgkbkmfelcfaa GridLaw MapsLaw Go.Proofs.Ytlcgkbkmfelcfaa.Grid Go.Proofs.Ytlcgkbkmfelcfaa.Maps Go.Proofs.Ytlcgkbkmfelcfaa.Std Go.Proofs.Ytlcgkbkmfelcfaa.Net
set_option linter.unusedSimpArgs false
set_option linter.unusedVariables false
theorem rd10 : Rd [49, 10, 35, 10] 1 2 [1, 0] := ⟨by decide, by decide, by decide, by decide, by decide, by decide⟩
theorem read10 (w : World) : Calls Try.prog 29 #[.string ⟨#[49, 10, 35, 10]⟩] w fun e w' => (∃ (A : Option Addr) (c : Nat), e = .returned (.tuple #[.agg #[.int .i64 1, .int .i64 2, .slice A 2 c], .int .i64 0]) ∧ Own w' w.heap.size 3 1 ci (.slice A 2 c) [1, 0]) ∧ Below w.heap.size w w' := by
  refine (read_any ⟨#[49, 10, 35, 10]⟩ w (by decide)).mono ?_
  rintro e w' ⟨h, hb⟩
  refine ⟨?_, hb⟩
  rcases h with ⟨W, H, l, A, m, c, hr, rfl, hm, own⟩ | ⟨hno, _⟩
  · obtain ⟨e1, e2, e3⟩ := rd10.unique hr
    subst e1 e2 e3
    obtain rfl : m = 2 := hm.symm
    exact ⟨A, c, rfl, own⟩
  · exact absurd rd10 (hno _ _ _)

set_option maxRecDepth 100000 in
set_option maxHeartbeats 1000000 in
theorem walk (w : World) (s : ByteArray) (hs : s.size ≤ 9223372036854775807) :
    Calls Try.prog 5 #[.string s] w fun e w' => e = .returned (.bool true) ∧ Below w.heap.size w w' := by
  go_enter Try.func5, Try.ntmps5
  go_wp2_with fail
  refine (read10 w).mono ?_
  rintro e w1 ⟨⟨A, c, rfl, own⟩, hb1⟩
  have B1 := hb1.alloc hb1.size (.cells #[.int .i64 1, .int .i64 2, .slice A 2 c] 44)
  have g1 := cells3 (heap_alloc_new w1 (.cells #[.int .i64 1, .int .i64 2, .slice A 2 c] 44))
  obtain ⟨x0, x1, x2⟩ := g1
  have B2 := B1.alloc B1.size (.cells #[.int .i64 1, .int .i64 0] 3)
  have hsl := ((own.alloc (.cells #[.int .i64 1, .int .i64 2, .slice A 2 c] 44)).alloc (.cells #[.int .i64 1, .int .i64 0] 3)).sl.2
  have hsn : Sl ((w1.alloc (.cells #[.int .i64 1, .int .i64 2, .slice A 2 c] 44)).alloc (.cells #[.int .i64 1, .int .i64 0] 3)) ((w1.alloc (.cells #[.int .i64 1, .int .i64 2, .slice A 2 c] 44)).alloc (.cells #[.int .i64 1, .int .i64 0] 3)).heap.size 1 ci (some ⟨w1.heap.size + 1, 0, none⟩) [1, 0] := sl_new' (by decide) _ #[.int .i64 1, .int .i64 0] _ _ (by simp) rfl
  have HL := Lib.hid hsl
  have HM := Lib.hid hsn
  clear hsl hsn own hb1 B1
  go_wp2_with fail
  refine (same_grid 1 2 A _ 2 c 2 [1, 0] _ HL.out HM.out rfl (by decide)).mono ?_
  rintro e w2 ⟨rfl, hb2⟩
  have B3 := B2.trans (hb2.mono B2.size)
  clear x0 x1 x2 HL HM hb2 B2
  go_wp2_with fail
  refine (read_any s w2 hs).mono ?_
  rintro e w3 ⟨h3, hb3⟩
  have B4 := B3.trans (hb3.mono B3.size)
  rcases h3 with ⟨W, H, l, A', m, c', hr, rfl, hm, own⟩ | ⟨hno, rfl⟩
  · have B5 := B4.alloc B4.size (.cells #[.int .i64 W, .int .i64 H, .slice A' m c'] 44)
    obtain ⟨x0, x1, x2⟩ := cells3 (heap_alloc_new w3 (.cells #[.int .i64 W, .int .i64 H, .slice A' m c'] 44))
    have hsl := (own.alloc (.cells #[.int .i64 W, .int .i64 H, .slice A' m c'] 44)).sl.2
    have k := fun w' h => print_yes W H A' m c' l w' hm h hr.good
    have hbk := hr.back
    simp only [Int.toNat_natCast] at k
    rw [hbk] at k
    have K := Lib.hid k
    have HL := Lib.hid hsl
    clear k hbk hsl hr hm own
    go_wp2_with fail
    refine (K.out _ HL.out).mono ?_
    rintro e w4 ⟨rfl, hb4⟩
    have B6 := B5.trans (hb4.mono B5.size)
    go_wp2
    go_ret
    exact ⟨by first | rfl | simp, B6⟩
  · have B5 := B4.alloc B4.size (.cells #[.int .i64 0, .int .i64 0, .slice none 0 0] 44)
    obtain ⟨x0, x1, x2⟩ := cells3 (heap_alloc_new w3 (.cells #[.int .i64 0, .int .i64 0, .slice none 0 0] 44))
    clear hno
    go_wp2_with fail
    refine (same_grid 0 0 none none 0 0 0 [] _ Sl.nil Sl.nil rfl (by decide)).mono ?_
    rintro e w4 ⟨rfl, hb4⟩
    have B6 := B5.trans (hb4.mono B5.size)
    go_wp2
    go_ret
    exact ⟨by first | rfl | simp, B6⟩

theorem own : ownKnob Try.prog.godebug = none := by kernel_rfl
theorem laidOut : laidOutB Try.prog = true := by kernel_rfl

set_option maxRecDepth 100000 in
theorem lifted (os : Os) (started : os.Started) (H : Type) (enc : TypeId × Value → H) :
    ReturnsInHanded {} Try.checked os 5 .any (Rows.mapsAgainSpec.pre6 enc Try.prog Try.f5 Rows.mapsAgainRow.domain false) (Rows.mapsAgainSpec.post enc Try.prog Try.f5 false true false false) := by
  refine returnsInHanded_of_change (C := Try.checked) own started (by kernel_rfl) Try.func5
    (ChangeSpec.witness6 (enc := enc) (C := Try.checked) false ⟨#[], #[.string ⟨#[]⟩], []⟩ 8 (by kernel_rfl) (by kernel_rfl) (by kernel_rfl) (by kernel_rfl)) ?_
  intro W base args ds gs before hval0 hW hcnd _
  have hval : ∀ (j : Nat) t v, Try.f5.params[j]? = some t → args[j]? = some v → Value.okWide Try.prog W .any base t v := hval0
  have hW' := hW
  obtain ⟨p, q, hA0, hV, rfl, hfz, hnd⟩ := hW
  have hA : DataW.TrodAll enc Try.prog W 0 (fun _ => true) true Try.f5.params.toList args.toList ds p := hA0
  rw [Try.params5] at hA hval
  obtain ⟨v0, vs0, d0, ds0, p0, q0, hargs, rfl, rfl, h0, r0⟩ := trodAll_cons hA
  obtain ⟨rfl, rfl, rfl⟩ := trodAll_nil r0
  obtain rfl : args = #[v0] := by cases args; simp_all
  obtain ⟨rfl, rfl⟩ := trodVars_none hV
  obtain ⟨s0, rfl, rfl, rfl, ws0⟩ := open_string Try.underlying9 (hval 0 9 v0 rfl rfl) h0
  refine (walk W s0 (by unfold maxLen at ws0; omega)).mono fun e W' ⟨he, hB⟩ => ?_
  subst he
  exact ⟨_, rfl, post_of_law laidOut rfl Try.underlying4 rfl (by intro t ht; rw [Try.params5] at ht; simp at ht; subst ht <;> exact ⟨by kernel_rfl, of_decide_eq_true (by kernel_rfl)⟩) hW' rfl hB⟩

theorem holds : Rows.MapsAgainSaid :=
  OpenClaim.holds_of_wide 5 Try.f5 rfl rfl rfl rfl rfl rfl rfl ⟨rfl, rfl, rfl, rfl, rfl⟩ rfl rfl rfl rfl rfl (by kernel_rfl) Try.func5 (by kernel_rfl)
    (of_decide_eq_true (by kernel_rfl)) (by unfold Func.isWrapper; first | (rw [if_pos (by decide +kernel)]; kernel_rfl) | (rw [if_neg (by decide +kernel)]; exact ⟨rfl, rfl⟩))
    (fun os started H enc _ => lifted os started H enc)
#print axioms holds
end Go.Proofs.Ytlcgkbkmfelcfaa.MapsAgainLaw
