/- For every two walks, of bulk at most 1048576 together: WalkOwn answers true (walks that are handed in stay as they are, and what is answered shares nothing with them), and the arguments read as before. -/
import Derived.Test.YtdpjbjgecmnmnaaRows
import Derived.Test.YtdpjbjgecmnmnaaBulk
import Derived.Test.YtdpjbjgecmnmnaaOwnInt
import Derived.Test.YtdpjbjgecmnmnaaWalkJoin
import Derived.Test.YtdpjbjgecmnmnaaCutWalks
import Derived.JoinedCond
namespace Go.Proofs.Ytdpjbjgecmnmnaa.WalkOwnLaw
open Go.ChangeShapes Go.WideShapes Go.ChangeAt Go.RowKit Go.Proofs.Ytdpjbjgecmnmnaa CutLaw Go.Proofs.Ytdpjbjgecmnmnaa.Walk Go.Proofs.Ytdpjbjgecmnmnaa.Cut Go.Proofs.Ytdpjbjgecmnmnaa.Std Go.Proofs.Ytdpjbjgecmnmnaa.Room
set_option linter.unusedSimpArgs false
set_option linter.unusedVariables false
abbrev ob (A : Option Addr) : Option Nat := (Value.slice A 0 0).ownBlock
theorem obs (A : Option Addr) (n c : Nat) : (Value.slice A n c).ownBlock = ob A := by cases A <;> rfl
theorem own_nil {α : Type} {w : World} {base : Nat} {e : TypeId} {sz : Nat} {cell : α → Nat → Value} {A : Option Addr} {n c : Nat} {l : List α} (h : Own w base e sz cell (.slice A n c) l) : A = none → n = 0 ∧ c = 0 := by
  obtain ⟨A', c', he, _, hn⟩ := h.form
  injection he with a b d
  rw [a, b, d]
  exact hn
theorem own_cap {α : Type} {w : World} {base : Nat} {e : TypeId} {sz : Nat} {cell : α → Nat → Value} {A : Option Addr} {n c : Nat} {l : List α} (h : Own w base e sz cell (.slice A n c) l) : n ≤ c := by
  obtain ⟨A', c', he, hc, _⟩ := h.form
  injection he with a b d
  omega
theorem sl_pre {w : World} {B : Nat} {A : Option Addr} {l r : List Int} (h : Sl w B 1 ci A (l ++ r)) : Sl w B 1 ci A l := by
  intro hl
  obtain ⟨b, off, hA, hb, hc⟩ := h (by rw [List.length_append]; omega)
  refine ⟨b, off, hA, hb, fun i hi j hj => ?_⟩
  have := hc i (by rw [List.length_append]; omega) j hj
  rw [this, List.getElem_append_left hi]
theorem join_own (A A' : Option Addr) (n m c c' : Nat) (a b : List Int) (w : World) (ha : Sl w w.heap.size 1 ci A a) (hb : Sl w w.heap.size 1 ci A' b) (hn : a.length = n) (hm : b.length = m) (hcb : m ≤ c') (hbulk : n + m ≤ 1048576) :
    Calls Try.prog 29 #[.slice A n c, .slice A' m c'] w fun e w' => ∃ A3 m3 c3 L3 er, e = .returned (.tuple #[.slice A3 m3 c3, .int .i64 er]) ∧ L3.length = m3 ∧ Own w' w.heap.size 3 1 ci (.slice A3 m3 c3) L3 ∧ Below w.heap.size w w' ∧ m3 ≤ 1048576 := by
  subst hn hm
  by_cases h : fit a b
  · refine (join_yes A A' c c' a b w ha hb hcb (by omega) h).mono ?_
    rintro e w' ⟨A3, c3, rfl, h1, h2⟩
    refine ⟨A3, _, c3, _, 0, rfl, rfl, h1, h2, ?_⟩
    rw [List.length_append, List.length_tail]
    omega
  · refine (join_no A A' c c' a b w ha hb (by omega) (by omega) h).mono ?_
    rintro e w' ⟨rfl, h2⟩
    exact ⟨none, 0, 0, [], 1, rfl, rfl, Own.nil_, h2, by omega⟩
theorem cut_own (A : Option Addr) (n c : Nat) (p : List Int) (w : World) (hp : Sl w w.heap.size 1 ci A p) (hn : p.length = n) (hi64 : ∀ z ∈ p, I64 z) (hlen : n ≤ 1048576) :
    Calls Try.prog 25 #[.slice A n c] w fun e w' => ∃ A3 m3 c3 L3 er, e = .returned (.tuple #[.slice A3 m3 c3, .int .i64 er]) ∧ L3.length = m3 ∧ Own w' w.heap.size 3 1 ci (.slice A3 m3 c3) L3 ∧ Below w.heap.size w w' ∧ m3 ≤ 1048576 := by
  subst hn
  by_cases h : p.length = 0 ∨ 100 < p.length
  · refine (cut_no A c p w (by omega) h).mono ?_
    rintro e w' ⟨x, _, rfl, rfl⟩
    exact ⟨none, 0, 0, [], x, rfl, rfl, Own.nil_, Below.refl _ _, by omega⟩
  · refine (cut_yes A c p w hp hi64 (by omega) (by omega)).mono ?_
    rintro e w' ⟨A3, c3, rfl, h1, h2⟩
    exact ⟨A3, _, c3, _, 0, rfl, rfl, h1, h2, Nat.le_trans (cut_len p) (by omega)⟩
theorem cut_five (W : World) (g : Nat) (h : Sl W W.heap.size 1 ci (some ⟨g, 0, none⟩) [5]) :
    Calls Try.prog 25 #[.slice (some ⟨g, 0, none⟩) 1 1] W fun e w' => ∃ A' c', e = .returned (.tuple #[.slice A' 1 c', .int .i64 0]) ∧ Own w' W.heap.size 3 1 ci (.slice A' 1 c') [5] ∧ Below W.heap.size W w' := by
  refine (cut_yes (some ⟨g, 0, none⟩) 1 [5] W h (fun z hz => by simp at hz; unfold I64; omega) (by decide) (by decide)).mono ?_
  rintro e w' ⟨A', c', h1, h2, h3⟩
  rw [show cut [5] = [5] by decide +kernel] at h1 h2
  exact ⟨A', c', h1, h2, h3⟩
theorem same (A A' : Option Addr) (n c c' : Nat) (l : List Int) (w : World) (hl : Sl w w.heap.size 1 ci A l) (hm : Sl w w.heap.size 1 ci A' l) (hn : l.length = n) (hlen : n ≤ 9223372036854775807) :
    Calls Try.prog 19 #[.slice A n c, .slice A' n c'] w fun e w' => e = .returned (.bool true) ∧ ∃ k, w' = w.drewN k :=
  equal_int' A A' n n c c' l l w.heap.size w.heap.size w hl hm hn hn hlen true (by simp)
theorem clone_own (A : Option Addr) (n c : Nat) (l : List Int) (b : Nat) (w : World) (h : Own w b 3 1 ci (.slice A n c) l) (hn : l.length = n) (hlen : n ≤ 1048576) :
    Calls Try.prog 20 #[.slice A n c] w fun e w' => ∃ A' c', e = .returned (.slice A' n c') ∧ Own w' w.heap.size 3 1 ci (.slice A' n c') l ∧ Below w.heap.size w w' := by
  have hnil := own_nil h
  have hsl := h.sl.2
  subst hn
  refine (clone_int A c l w.heap.size w hsl (Nat.le_refl _) hnil (by omega)).mono ?_
  rintro e w' ⟨A', c', h1, h2, h3⟩
  exact ⟨A', c', h1, h2, h3⟩

theorem kp {w w' : World} {b : Nat} {A : Option Addr} {n c : Nat} {l : List Int} {r : Option Nat} (h : Own w b 3 1 ci (.slice A n c) l) (hg : w.grownBy w' r) (hr : ∀ g, ob A = some g → r ≠ some g) : Own w' b 3 1 ci (.slice A n c) l := by
  refine h.kept hg ?_
  rw [obs]
  cases hA : ob A with
  | none => exact .inl rfl
  | some g => exact .inr (fun e => hr g hA e.symm)
set_option maxRecDepth 100000 in
set_option maxHeartbeats 4000000 in
theorem walk (w : World) (A1 : Option Addr) (c1 : Nat) (a : List Int) (hA1 : Arg w 1 ci A1 c1 a) (hi1 : ∀ z ∈ a, I64 z) (A2 : Option Addr) (c2 : Nat) (b : List Int) (hA2 : Arg w 1 ci A2 c2 b) (hi2 : ∀ z ∈ b, I64 z)
    (hbulk : a.length + b.length ≤ 1048576) :
    Calls Try.prog 8 #[.slice A1 a.length c1, .slice A2 b.length c2] w fun e w' => e = .returned (.bool true) ∧ Below w.heap.size w w' := by
  have ha := hA1.sl
  have hb := hA2.sl
  have hna := hA1.nil
  have hnb := hA2.nil
  clear hA1 hA2 hi2
  obtain ⟨n, hn⟩ : ∃ n, a.length = n := ⟨_, rfl⟩
  obtain ⟨m, hm⟩ : ∃ m, b.length = m := ⟨_, rfl⟩
  rw [hn] at hna hbulk ⊢
  rw [hm] at hnb hbulk ⊢
  have HN := Lib.hid hn
  have HM := Lib.hid hm
  have HI := Lib.hid hi1
  have HNA := Lib.hid hna
  have HNB := Lib.hid hnb
  clear hn hm hi1 hna hnb
  go_enter Try.func8, Try.ntmps8
  go_wp2_with fail
  refine (roomy_int A1 n c1 a 77 w ha HN.out HNA.out (by omega)).mono ?_
  rintro e w1 ⟨S1, rfl, X, B1⟩
  have zS1 : S1 < w1.heap.size := (X.base_ S1 rfl).2
  go_wp2_with fail
  refine (roomy_int A2 m c2 b 78 w1 ((hb.keep B1 (Nat.le_refl _)).more B1.size) HM.out HNB.out (by omega)).mono ?_
  rintro e w2 ⟨S2, rfl, Y, hb2⟩
  replace X := X.keep hb2
  have B2 := B1.trans (hb2.mono B1.size)
  have d12 : S1 ≠ S2 := by
    have := (Y.base_ S2 rfl).1
    omega
  have zS2 : S2 < w2.heap.size := (Y.base_ S2 rfl).2
  replace zS1 : S1 < w2.heap.size := Nat.lt_of_lt_of_le zS1 hb2.size
  clear hb2
  go_wp2_with fail
  refine (join_own (some ⟨S1, 0, none⟩) (some ⟨S2, 0, none⟩) n m (n + 3) (m + 3) a b w2 (sl_pre X.sl.2) (sl_pre Y.sl.2) HN.out HM.out (by omega) hbulk).mono ?_
  rintro e w3 ⟨A3, m3, c3, L3, er3, rfl, hL3, J, hb3, hm3⟩
  replace X := X.keep hb3
  replace Y := Y.keep hb3
  have B3 := B2.trans (hb3.mono B2.size)
  have HL3 := Lib.hid hL3
  have dJ : ∀ g, ob A3 = some g → g ≠ S1 ∧ g ≠ S2 := fun g hg => by
    have := (J.base_ g (by rw [obs]; exact hg)).1
    omega
  have DJ := Lib.hid dJ
  replace zS1 : S1 < w3.heap.size := Nat.lt_of_lt_of_le zS1 hb3.size
  replace zS2 : S2 < w3.heap.size := Nat.lt_of_lt_of_le zS2 hb3.size
  have LJ : w.heap.size ≤ w2.heap.size := B2.size
  have LY : w.heap.size ≤ w1.heap.size := B1.size
  clear hL3 hb3 dJ B1 B2
  go_wp2_with fail
  refine (cut_own (some ⟨S1, 0, none⟩) n (n + 3) a w3 (sl_pre X.sl.2) HN.out HI.out (by omega)).mono ?_
  rintro e w4 ⟨A4, m4, c4, L4, er4, rfl, hL4, C, hb4, hm4⟩
  have HL4 := Lib.hid hL4
  have dC : ∀ g, ob A4 = some g → g ≠ S1 ∧ g ≠ S2 ∧ ob A3 ≠ some g := fun g hg => by
    have h1 := (C.base_ g (by rw [obs]; exact hg)).1
    refine ⟨by omega, by omega, fun e => ?_⟩
    have := (J.base_ g (by rw [obs]; exact e)).2
    omega
  have DC := Lib.hid dC
  replace X := X.keep hb4
  replace Y := Y.keep hb4
  replace J := J.keep hb4
  have B4 := B3.trans (hb4.mono B3.size)
  replace zS1 : S1 < w4.heap.size := Nat.lt_of_lt_of_le zS1 hb4.size
  replace zS2 : S2 < w4.heap.size := Nat.lt_of_lt_of_le zS2 hb4.size
  clear hL4 hb4 dC B3
  go_wp2_with fail
  refine (same (some ⟨S1, 0, none⟩) A1 n (n + 3) c1 a w4 (sl_pre X.sl.2) ((ha.keep B4 (Nat.le_refl _)).more B4.size) HN.out (by omega)).mono ?_
  rintro e w5 ⟨rfl, k5, rfl⟩
  have hb5 := below_drewN (Below.refl w4.heap.size w4) k5
  generalize w4.drewN k5 = w5 at hb5 ⊢
  replace X := X.keep hb5
  replace Y := Y.keep hb5
  replace J := J.keep hb5
  replace C := C.keep hb5
  have B5 := B4.trans (hb5.mono B4.size)
  replace zS1 : S1 < w5.heap.size := Nat.lt_of_lt_of_le zS1 hb5.size
  replace zS2 : S2 < w5.heap.size := Nat.lt_of_lt_of_le zS2 hb5.size
  clear hb5 B4
  clear zS1 zS2
  go_wp2_with fail
  refine (same (some ⟨S2, 0, none⟩) A2 m (m + 3) c2 b w5 (sl_pre Y.sl.2) ((hb.keep B5 (Nat.le_refl _)).more B5.size) HM.out (by omega)).mono ?_
  rintro e w6 ⟨rfl, k6, rfl⟩
  have hb6 := below_drewN (Below.refl w5.heap.size w5) k6
  generalize w5.drewN k6 = w6 at hb6 ⊢
  replace X := X.keep hb6
  replace Y := Y.keep hb6
  replace J := J.keep hb6
  replace C := C.keep hb6
  have B6 := B5.trans (hb6.mono B5.size)
  clear hb6 B5
  go_wp2_with fail
  refine (filled_int S1 n _ a 77 w6 X HN.out (by omega)).mono ?_
  rintro e w7 ⟨rfl, rfl⟩
  go_wp2_with fail
  refine (filled_int S2 m _ b 78 w7 Y HM.out (by omega)).mono ?_
  rintro e w8 ⟨rfl, rfl⟩
  go_wp2_with fail
  refine (clone_own A3 m3 c3 L3 _ w8 J HL3.out hm3).mono ?_
  rintro e w9 ⟨A5, c5, rfl, P, hb9⟩
  have dP : ∀ g, ob A5 = some g → g ≠ S1 ∧ g ≠ S2 ∧ ob A3 ≠ some g := fun g hg => by
    have h1 := (P.base_ g (by rw [obs]; exact hg)).1
    have h2 := (X.base_ S1 rfl).2
    have h3 := (Y.base_ S2 rfl).2
    refine ⟨by omega, by omega, fun e => ?_⟩
    have := (J.base_ g (by rw [obs]; exact e)).2
    omega
  have DP := Lib.hid dP
  clear dP
  replace X := X.keep hb9
  replace Y := Y.keep hb9
  replace J := J.keep hb9
  replace C := C.keep hb9
  have B9 := B6.trans (hb9.mono B6.size)
  clear hb9 B6
  go_wp2_with fail
  refine (clone_own A4 m4 c4 L4 _ w9 C HL4.out hm4).mono ?_
  rintro e w10 ⟨A6, c6, rfl, Q, hb10⟩
  have dQ : ∀ g, ob A6 = some g → g ≠ S1 ∧ g ≠ S2 ∧ ob A3 ≠ some g := fun g hg => by
    have h1 := (Q.base_ g (by rw [obs]; exact hg)).1
    have h2 := (X.base_ S1 rfl).2
    have h3 := (Y.base_ S2 rfl).2
    refine ⟨by omega, by omega, fun e => ?_⟩
    have := (J.base_ g (by rw [obs]; exact e)).2
    omega
  have DQ := Lib.hid dQ
  clear dQ
  replace X := X.keep hb10
  replace Y := Y.keep hb10
  replace J := J.keep hb10
  replace C := C.keep hb10
  replace P := P.keep hb10
  have B10 := B9.trans (hb10.mono B9.size)
  clear hb10 B9
  go_wp2_with fail
  refine (spoil_int (some ⟨S1, 0, none⟩) n (n + 3) (n + 3) _ _ 1 w10 X (by omega)).mono ?_
  rintro e w11 ⟨rfl, hg11⟩
  replace Y := kp Y hg11 (fun g hg e => by injection hg with hg; injection e with e; exact d12 (e.trans hg.symm))
  replace J := kp J hg11 (fun g hg e => by injection e with e; exact (DJ.out g hg).1 e.symm)
  replace C := kp C hg11 (fun g hg e => by injection e with e; exact (DC.out g hg).1 e.symm)
  replace P := kp P hg11 (fun g hg e => by injection e with e; exact (DP.out g hg).1 e.symm)
  replace Q := kp Q hg11 (fun g hg e => by injection e with e; exact (DQ.out g hg).1 e.symm)
  have B11 := B10.grown hg11 B10.size X.lo
  clear hg11 X B10
  go_wp2_with fail
  refine (spoil_int (some ⟨S2, 0, none⟩) m (m + 3) (m + 3) _ _ 2 w11 Y (by omega)).mono ?_
  rintro e w12 ⟨rfl, hg12⟩
  replace J := kp J hg12 (fun g hg e => by injection e with e; exact (DJ.out g hg).2 e.symm)
  replace C := kp C hg12 (fun g hg e => by injection e with e; exact (DC.out g hg).2.1 e.symm)
  replace P := kp P hg12 (fun g hg e => by injection e with e; exact (DP.out g hg).2.1 e.symm)
  replace Q := kp Q hg12 (fun g hg e => by injection e with e; exact (DQ.out g hg).2.1 e.symm)
  have B12 := B11.grown hg12 B11.size (fun k hk => Nat.le_trans LY (Y.lo k hk))
  clear hg12 Y B11
  go_wp2_with fail
  refine (same A3 A5 m3 c3 c5 L3 w12 J.sl.2 P.sl.2 HL3.out (by omega)).mono ?_
  rintro e w13 ⟨rfl, k13, rfl⟩
  have hb13 := below_drewN (Below.refl w12.heap.size w12) k13
  generalize w12.drewN k13 = w13 at hb13 ⊢
  replace J := J.keep hb13
  replace C := C.keep hb13
  replace Q := Q.keep hb13
  have B13 := B12.trans (hb13.mono B12.size)
  clear hb13 B12
  clear P
  go_wp2_with fail
  refine (same A4 A6 m4 c4 c6 L4 w13 C.sl.2 Q.sl.2 HL4.out (by omega)).mono ?_
  rintro e w14 ⟨rfl, k14, rfl⟩
  have hb14 := below_drewN (Below.refl w13.heap.size w13) k14
  generalize w13.drewN k14 = w14 at hb14 ⊢
  replace J := J.keep hb14
  replace C := C.keep hb14
  replace Q := Q.keep hb14
  have B14 := B13.trans (hb14.mono B13.size)
  clear hb14 B13
  go_wp2_with fail
  refine (spoil_int A3 m3 m3 c3 _ L3 3 w14 J (own_cap J)).mono ?_
  rintro e w15 ⟨rfl, hg15⟩
  replace C := kp C hg15 (fun g hg e => (DC.out g hg).2.2 (by rw [obs] at e; exact e))
  replace Q := kp Q hg15 (fun g hg e => (DQ.out g hg).2.2 (by rw [obs] at e; exact e))
  have B15 := B14.grown hg15 B14.size (fun k hk => Nat.le_trans LJ (J.lo k hk))
  clear hg15 J B14
  go_wp2_with fail
  refine (cut_five _ _ (sl_new' (by decide) w15 #[.int .i64 5] _ _ rfl rfl)).mono ?_
  rintro e w16 ⟨A7, c7, rfl, O, hb16⟩
  replace C := (C.alloc (.cells #[.int .i64 5] 3)).keep hb16
  replace Q := (Q.alloc (.cells #[.int .i64 5] 3)).keep hb16
  have B16 := (B15.alloc B15.size (.cells #[.int .i64 5] 3)).trans (hb16.mono (by have := B15.size; simp; omega))
  clear hb16 B15
  go_wp2_with fail
  refine (same A4 A6 m4 c4 c6 L4 w16 C.sl.2 Q.sl.2 HL4.out (by omega)).mono ?_
  rintro e w17 ⟨rfl, k17, rfl⟩
  have hb17 := below_drewN (Below.refl w16.heap.size w16) k17
  generalize w16.drewN k17 = w17 at hb17 ⊢
  replace O := O.keep hb17
  have B17 := B16.trans (hb17.mono B16.size)
  clear hb17 B16
  clear C Q
  go_wp2_with fail
  refine (same A7 _ 1 c7 1 [5] _ (O.alloc _).sl.2 (sl_new' (by decide) w17 #[.int .i64 5] _ _ rfl rfl) rfl (by decide)).mono ?_
  rintro e w18 ⟨rfl, k18, rfl⟩
  have B18 := below_drewN (B17.alloc B17.size (.cells #[.int .i64 5] 3)) k18
  go_wp2
  go_ret
  exact ⟨by first | rfl | simp, B18⟩

theorem own : ownKnob Try.prog.godebug = none := by kernel_rfl
theorem laidOut : laidOutB Try.prog = true := by kernel_rfl

set_option maxRecDepth 100000 in
theorem contract (H : Type) (enc : TypeId × Value → H) (W : World) (base : Nat) (args : Array Value) (ds gs : List (DataW H)) (before : List MemPlace)
    (hval0 : ∀ (j : Nat) t v, Try.f8.params[j]? = some t → args[j]? = some v → Value.okWide Try.prog W .any base t v)
    (hW : DataW.Whole enc Try.prog Try.f8.params.toList Rows.walkOwnSpec.vars false W args.toList ds gs before) (hk : Rows.uptoSmall H (ds ++ gs) = true) :
    Calls Try.prog 8 args W fun e W' => ∃ v, e = .returned v ∧ Rows.walkOwnSpec.post enc Try.prog Try.f8 false true false false W args v W' := by
  have hval : ∀ (j : Nat) t v, Try.f8.params[j]? = some t → args[j]? = some v → Value.okWide Try.prog W .any base t v := hval0
  have hW' := hW
  obtain ⟨p, q, hA0, hV, rfl, hfz, hnd⟩ := hW
  have hA : DataW.TrodAll enc Try.prog W 0 (fun _ => true) true Try.f8.params.toList args.toList ds p := hA0
  rw [Try.params8] at hA hval
  obtain ⟨v0, vs0, d0, ds0, p0, q0, hargs, rfl, rfl, h0, r0⟩ := trodAll_cons hA
  obtain ⟨v1, vs1, d1, ds1, p1, q1, rfl, rfl, rfl, h1, r1⟩ := trodAll_cons r0
  obtain ⟨rfl, rfl, rfl⟩ := trodAll_nil r1
  obtain rfl : args = #[v0, v1] := by cases args; simp_all
  obtain ⟨rfl, rfl⟩ := trodVars_none hV
  obtain ⟨A0, c0, l0, rfl, hG0, hd0, hb0⟩ := open_sl1 Try.underlying25 Try.underlying3 (by kernel_rfl) (hval 0 25 v0 rfl rfl) h0
  obtain ⟨A1, c1, l1, rfl, hG1, hd1, hb1⟩ := open_sl1 Try.underlying25 Try.underlying3 (by kernel_rfl) (hval 1 25 v1 rfl rfl) h1
  have hbulk := bulk_bound hk
  simp only [List.cons_append, List.nil_append, List.append_nil, Rows.uptoBulkAll] at hbulk
  have hq0 := bulk_len hd0
  have hq1 := bulk_len hd1
  refine (walk W A0 c0 l0 hG0 hb0 A1 c1 l1 hG1 hb1 (by omega)).mono fun e W' ⟨he, hB⟩ => ?_
  subst he
  exact ⟨_, rfl, post_of_law laidOut rfl Try.underlying4 rfl (by intro t ht; rw [Try.params8] at ht; simp at ht; rcases ht with rfl | rfl <;> exact ⟨by kernel_rfl, of_decide_eq_true (by kernel_rfl)⟩) hW' rfl hB⟩

set_option maxRecDepth 100000 in
theorem lifted (os : Os) (started : os.Started) (H : Type) (enc : TypeId × Value → H) (F : Stop.Interp) :
    ReturnsInHanded {} Try.checked os 8 .any ((Rows.OpenSpec.upto Rows.walkOwnSpec).pre6 enc Try.prog Try.f8 Rows.walkOwnUptoRow.domain false) (((Rows.OpenSpec.upto Rows.walkOwnSpec).at F).post enc Try.prog Try.f8 false true false false) := by
  refine returnsInHanded_of_cond (C := Try.checked) (s := Rows.OpenSpec.upto Rows.walkOwnSpec) (k := Rows.uptoSmall) rfl own started (by kernel_rfl) Try.func8
    (OpenSpec.witness (enc := enc) (C := Try.checked) (s := Rows.OpenSpec.upto Rows.walkOwnSpec) (k := Rows.uptoSmall) rfl false ⟨#[], #[.slice none 0 0, .slice none 0 0], []⟩ 8 (by kernel_rfl) (by kernel_rfl) (by kernel_rfl)
      (x := ([.nil, .nil], [], [])) (by kernel_rfl) rfl (by kernel_rfl)) ?_
  intro W base args ds gs before hval hW _ hk _
  exact contract H enc W base args ds gs before hval hW hk

theorem holds : Rows.WalkOwnUptoSaid :=
  OpenClaim.holds_of_cond 8 Try.f8 rfl rfl rfl rfl rfl rfl rfl ⟨rfl, rfl, rfl, rfl, rfl⟩ rfl rfl rfl rfl rfl (by kernel_rfl) Try.func8 (by kernel_rfl)
    (of_decide_eq_true (by kernel_rfl)) (by unfold Func.isWrapper; first | (rw [if_pos (by decide +kernel)]; kernel_rfl) | (rw [if_neg (by decide +kernel)]; exact ⟨rfl, rfl⟩))
    (fun os started H enc _ F => lifted os started H enc F)
#print axioms holds
end Go.Proofs.Ytdpjbjgecmnmnaa.WalkOwnLaw
