/- For every n, all pairs and one more: UnionOne answers true (one pair more joins at most two groups), and the arguments read as before. No condition. -/
import Derived.Test.YthlhlglmkcbgaaaRows
import Derived.Test.YthlhlglmkcbgaaaOpen
import Derived.Test.YthlhlglmkcbgaaaUnionSays
import Derived.Test.YthlhlglmkcbgaaaUnionOneLaw
import Derived.Test.YthlhlglmkcbgaaaStdP
import Derived.Deep.CutRange
import Derived.Deep.RegionHeld3
import Derived.BigRegion
namespace Go.Proofs.Ythlhlglmkcbgaaa.UnionOneLaw
open Go.ChangeShapes Go.WideShapes Go.ChangeAt Go.RowKit Go.Proofs.Ythlhlglmkcbgaaa UnionLaw Go.Proofs.Ythlhlglmkcbgaaa.Union Go.Proofs.Ythlhlglmkcbgaaa.Std
set_option linter.unusedSimpArgs false
set_option linter.unusedVariables false

theorem two_one {f : Nat → Nat} (hf : ∀ i, f i ≤ i) (h : Inv (pn [(2, 1)]) f) : outL f 3 = [0, 1, 1] := by
  have h0 := root_le hf 0
  have k := root_more (l := []) (a := 2) (b := 1) (f := fun i => i) (fun _ => Nat.le_refl _) hf inv_nil h
  have e : ∀ i, root (fun i => i) i = i := fun i => root_fix rfl
  simp only [e] at k
  simp [outL, List.range_succ, k]
/-- what the append makes -/
def Apd (l : List (Int × Int)) (base : Nat) (w : World) (A : Option Addr) (c : Nat) : Prop := Own w base 46 2 cp (.slice A (l.length + 1) c) l
set_option maxRecDepth 100000 in
set_option maxHeartbeats 4000000 in
theorem walk (w : World) (n : Int) (hn : -9223372036854775808 ≤ n ∧ n ≤ 9223372036854775807) (A : Option Addr) (c : Nat) (l : List (Int × Int)) (hA : Arg w 2 cp A c l) (a b : Int) (ha : -9223372036854775808 ≤ a ∧ a ≤ 9223372036854775807) (hb : -9223372036854775808 ≤ b ∧ b ≤ 9223372036854775807) (hsz : l.length * 16 ≤ 140737488351232) :
    Calls Try.prog 11 #[.int .i64 n, .slice A l.length c, .agg #[.int .i64 a, .int .i64 b]] w fun e w' => e = .returned (.bool true) ∧ Below w.heap.size w w' := by
  have hlen : l.length ≤ 9223372036854775807 := Nat.le_trans hA.cap hA.max
  have hs := hA.sl
  have hnil := hA.nil
  obtain ⟨i0, hi, hz0, hz1, hz2⟩ := info_parts infoPairC
  have hw0 : Below w.heap.size w (w.alloc (.cells #[.int .i64 a, .int .i64 b] 46)) := (Below.refl _ _).alloc (Nat.le_refl _) _
  have key0 : ∀ (W : World) (g : Nat), Sl W W.heap.size 2 cp (some ⟨g, 0, none⟩) [(2, 1)] → Calls Try.prog 29 #[.int .i64 3, .slice (some ⟨g, 0, none⟩) 1 1] W fun e w' => ∃ A c, e = .returned (.tuple #[.slice A 3 c, .int .i64 0]) ∧ Own w' W.heap.size 3 1 ci (.slice A 3 c) [0, 1, 1] ∧ Below W.heap.size W w' := by
    intro W g h
    refine (of_yes 3 (some ⟨g, 0, none⟩) 1 [(2, 1)] W (by omega) (by decide) (by intro p hp; simp at hp; subst hp; decide) h).mono ?_
    rintro e w1 ⟨f0, A1, c1, hf0, hinv0, rfl, hown0, hB0⟩
    rw [two_one hf0 hinv0] at hown0
    exact ⟨A1, c1, rfl, hown0, hB0⟩
  have key1 : ∀ (W : World) (A A' : Option Addr) (c : Nat) (B B' : Nat), Sl W B 1 ci A [0, 1, 1] → Sl W B' 1 ci A' [0, 1, 1] → Calls Try.prog 22 #[.slice A 3 c, .slice A' 3 3] W fun e w' => e = .returned (.bool true) ∧ ∃ k, w' = W.drewN k :=
    fun W A A' c B B' h h' => equal_int' A A' 3 3 c 3 [0, 1, 1] [0, 1, 1] B B' W h h' rfl rfl (by decide) true (by decide)
  have KEY0 := Lib.hid key0
  have KEY1 := Lib.hid key1
  have k1 := fun W h => of_says n A l.length c l W rfl hlen h
  have k2 := fun W A' c' h => of_says n A' (l.length + 1) c' (l ++ [(a, b)]) W (by simp) (by omega) h
  have k3 := fun W h => many_says n A l.length c l W rfl hlen h
  have k4 := fun W A' c' h => many_says n A' (l.length + 1) c' (l ++ [(a, b)]) W (by simp) (by omega) h
  have k5 := fun W h => clone_pair A c l W.heap.size W h (Nat.le_refl _) hnil (by omega)
  have K1 := Lib.hid k1
  have K2 := Lib.hid k2
  have K3 := Lib.hid k3
  have K4 := Lib.hid k4
  have K5 := Lib.hid k5
  clear key0 key1 k1 k2 k3 k4 k5 hA hnil
  go_enter Try.func11, Try.ntmps11
  go_wp2_with fail
  refine (KEY0.out _ _ (sl_new' (by decide) _ #[.int .i64 2, .int .i64 1] _ _ (by simp) rfl)).mono ?_
  rintro e w1 ⟨A1, c1, rfl, own1, hb1⟩
  have B1 : Below (w.heap.size + 1) (w.alloc (.cells #[.int .i64 a, .int .i64 b] 46)) w1 := ((Below.refl _ _).alloc (by simp) _).trans (hb1.mono (by simp))
  have Z1 : w.heap.size + 1 ≤ w1.heap.size := by have := hb1.size; simp at this; omega
  have z1 : w.heap.size < w1.heap.size := by omega
  clear hb1
  go_wp2_with fail
  refine (KEY1.out _ _ _ _ _ _ (own1.alloc _).sl.2 (sl_new' (by decide) _ #[.int .i64 0, .int .i64 1, .int .i64 1] _ _ rfl rfl)).mono ?_
  rintro e w2 ⟨rfl, n2, rfl⟩
  have B2 := below_drewN (B1.alloc Z1 (.cells #[.int .i64 0, .int .i64 1, .int .i64 1] 3)) n2
  have Z2 : w.heap.size + 1 ≤ (w1.alloc (.cells #[.int .i64 0, .int .i64 1, .int .i64 1] 3)).heap.size := by simp; omega
  have z2 : w.heap.size < (w1.alloc (.cells #[.int .i64 0, .int .i64 1, .int .i64 1] 3)).heap.size := by simp; omega
  generalize (w1.alloc (.cells #[.int .i64 0, .int .i64 1, .int .i64 1] 3)) = w2 at B2 Z2 z2 ⊢
  have H2 : Below w.heap.size w (w2.drewN n2) := hw0.trans (B2.mono (Nat.le_succ _))
  clear own1 B1 Z1 z1
  go_wp2_with fail
  refine (K1.out _ ((hs.keep H2 (Nat.le_refl _)).more (by simp; omega))).mono ?_
  rintro e w3 ⟨A3, m3, c3, er3, out3, rfl, own3, hb3, F3⟩
  have B3 := B2.trans (hb3.mono Z2)
  have Z3 : w.heap.size + 1 ≤ w3.heap.size := by have := hb3.size; simp at this; omega
  have z3 : w.heap.size < w3.heap.size := by omega
  have H3 : Below w.heap.size w w3 := hw0.trans (B3.mono (Nat.le_succ _))
  have sl3 := own3.sl.2
  clear hb3 B2 H2 z2 Z2 own3
  obtain ⟨cc3, _⟩ := keepAt B3 (Nat.lt_succ_self _)
  have q0 := cc3 0
  have q1 := cc3 1
  simp at q0 q1
  clear cc3
  go_upto_region 5 with fail
  go_cut [11, 12] from 37 to 46 (fun s11 s12 wx => ∃ A5 m5 c5 er5 out5, s11 = .slice A5 m5 c5 ∧ s12 = .int .i64 er5 ∧ Own wx w3.heap.size 3 1 ci (.slice A5 m5 c5) out5 ∧ Below w3.heap.size w3 wx ∧ Hid (OfFact n (l ++ [(a, b)]) m5 er5 out5))
  case first =>
    go_region_held3 (fun w' => w'.cell? ⟨w.heap.size, 0, none⟩ = some (.int .i64 a) ∧ w'.cell? ⟨w.heap.size, 1, none⟩ = some (.int .i64 b))
      (first
        | go_keep
        | (go_split_ands
           refine ⟨?_, ?_⟩
           · (rw [cE]; assumption)
           · (rw [cE]; assumption)))
      (first
        | (go_at_call 37; refine (K5.out _ (by first | exact (hs.keep H3.drew (Nat.le_refl _)).more (by simp; omega) | exact (hs.keep (H3.drew.alloc (by simp; omega) _) (Nat.le_refl _)).more (by simp; omega))).mono ?_; rintro e wc ⟨Ac, cx, rfl, ownc, hbc⟩; have HBc : Below w3.heap.size w3 wc := (by first | exact (Below.refl _ _).drew.trans (hbc.mono (Nat.le_refl _)) | exact ((Below.refl _ _).drew.alloc (Nat.le_refl _) _).trans (hbc.mono (by simp))); obtain ⟨cE, _⟩ := keepAt HBc z3)
        | (refine step_push _ rfl (.tmp 40) (.tmp 42) _ rfl w3.heap.size 46 i0 _ 2 16 cp Try.underlying43 hi hz0 hz1 hz2 rfl (by decide) _ l l.length rfl rfl (ownc.alloc _) wc.heap.size 1 (a, b) rfl news2 (fun _ _ => one_cp _ _) (by omega) (by omega) (by have := HBc.size; simp; omega) ?_; intro A4 c4 w4 hown4 hgrow4 hat4; have HB4 : Below w3.heap.size w3 w4 := (HBc.alloc HBc.size _).grown hgrow4 (by have := HBc.size; simp; omega) ownc.lo; obtain ⟨cE, _⟩ := keepAt HB4 z3)
        | (refine step_push _ rfl (.tmp 40) (.tmp 42) _ rfl w3.heap.size 46 i0 _ 2 16 cp Try.underlying43 hi hz0 hz1 hz2 rfl (by decide) _ l l.length rfl rfl (ownc.mono (by simp)) w3.heap.size 1 (a, b) rfl (fun j hj => ((keepAt hbc (b := w3.heap.size) (by simp)).1 _).trans (news2 (w := w3.drew) j hj)) (fun _ _ => one_cp _ _) (by omega) (by omega) (by have := HBc.size; omega) ?_; intro A4 c4 w4 hown4 hgrow4 hat4; have HB4 : Below w3.heap.size w3 w4 := HBc.grown hgrow4 HBc.size (ownc.mono (by simp)).lo; obtain ⟨cE, _⟩ := keepAt HB4 z3)
        | (go_at_call 29; refine (K2.out _ _ _ hown4.sl.2).mono ?_; rintro e w5 ⟨A5, m5, c5, er5, out5, rfl, own5, hb5, F5⟩; have HB5 : Below w3.heap.size w3 w5 := HB4.trans (hb5.mono HB4.size); obtain ⟨cE, _⟩ := keepAt HB5 z3))
    all_goals
      go_wp2_with fail
      go_meet
      exact ⟨A5, m5, c5, er5, out5, rfl, rfl, own5.mono HB4.size, HB5, F5⟩
  case rest =>
    obtain ⟨A5, m5, c5, er5, out5, rfl, rfl, own5, HB5, F5⟩ := hcut
    have sl5 := own5.sl.2
    have H5 := H3.trans (HB5.mono (by omega))
    have Z5 : w.heap.size ≤ wc.heap.size := H5.size
    clear own5 q0 q1
    go_wp2_with fail
    refine (K3.out _ ((hs.keep H5 (Nat.le_refl _)).more Z5)).mono ?_
    rintro e w6 ⟨k6, er6, rfl, hb6, F6⟩
    have HB6 := HB5.trans (hb6.mono HB5.size)
    have sl5' := (sl5.keep hb6 (Nat.le_refl _)).more hb6.size
    have sl3' := (sl3.keep HB6 (Nat.le_refl _)).more HB6.size
    have H6 := H3.trans (HB6.mono (by omega))
    have B6 := B3.trans (HB6.mono Z3)
    have Z6 : w.heap.size + 1 ≤ w6.heap.size := by have := HB6.size; omega
    have z6 : w.heap.size < w6.heap.size := by omega
    clear hb6 sl5 sl3 HB5 H5 Z5 HB6
    obtain ⟨cc6, _⟩ := keepAt B6 (Nat.lt_succ_self _)
    have q0 := cc6 0
    have q1 := cc6 1
    simp at q0 q1
    clear cc6
    go_upto_region 7 with fail
    go_cut [15, 16] from 53 to 62 (fun s15 s16 wx => ∃ k8 er8, s15 = .int .i64 ((k8 : Nat) : Int) ∧ s16 = .int .i64 er8 ∧ Below w6.heap.size w6 wx ∧ Hid (ManyFact n (l ++ [(a, b)]) k8 er8))
    case first =>
      go_region_held3 (fun w' => w'.cell? ⟨w.heap.size, 0, none⟩ = some (.int .i64 a) ∧ w'.cell? ⟨w.heap.size, 1, none⟩ = some (.int .i64 b))
        (first
          | go_keep
          | (go_split_ands
             refine ⟨?_, ?_⟩
             · (rw [cE]; assumption)
             · (rw [cE]; assumption)))
        (first
          | (go_at_call 37; refine (K5.out _ (by first | exact (hs.keep H6.drew (Nat.le_refl _)).more (by simp; omega) | exact (hs.keep (H6.drew.alloc (by simp; omega) _) (Nat.le_refl _)).more (by simp; omega))).mono ?_; rintro e wc ⟨Ac, cx, rfl, ownc, hbc⟩; have HBc : Below w6.heap.size w6 wc := (by first | exact (Below.refl _ _).drew.trans (hbc.mono (Nat.le_refl _)) | exact ((Below.refl _ _).drew.alloc (Nat.le_refl _) _).trans (hbc.mono (by simp))); obtain ⟨cE, _⟩ := keepAt HBc z6)
          | (refine step_push _ rfl (.tmp 56) (.tmp 58) _ rfl w6.heap.size 46 i0 _ 2 16 cp Try.underlying43 hi hz0 hz1 hz2 rfl (by decide) _ l l.length rfl rfl (ownc.alloc _) wc.heap.size 1 (a, b) rfl news2 (fun _ _ => one_cp _ _) (by omega) (by omega) (by have := HBc.size; simp; omega) ?_; intro A4 c4 w4 hown4 hgrow4 hat4; have HB4 : Below w6.heap.size w6 w4 := (HBc.alloc HBc.size _).grown hgrow4 (by have := HBc.size; simp; omega) ownc.lo; obtain ⟨cE, _⟩ := keepAt HB4 z6)
          | (refine step_push _ rfl (.tmp 56) (.tmp 58) _ rfl w6.heap.size 46 i0 _ 2 16 cp Try.underlying43 hi hz0 hz1 hz2 rfl (by decide) _ l l.length rfl rfl (ownc.mono (by simp)) w6.heap.size 1 (a, b) rfl (fun j hj => ((keepAt hbc (b := w6.heap.size) (by simp)).1 _).trans (news2 (w := w6.drew) j hj)) (fun _ _ => one_cp _ _) (by omega) (by omega) (by have := HBc.size; omega) ?_; intro A4 c4 w4 hown4 hgrow4 hat4; have HB4 : Below w6.heap.size w6 w4 := HBc.grown hgrow4 HBc.size (ownc.mono (by simp)).lo; obtain ⟨cE, _⟩ := keepAt HB4 z6)
          | (go_at_call 38; refine (K4.out _ _ _ hown4.sl.2).mono ?_; rintro e w5 ⟨k8, er8, rfl, hb5, F8⟩; have HB5 : Below w6.heap.size w6 w5 := HB4.trans (hb5.mono HB4.size); obtain ⟨cE, _⟩ := keepAt HB5 z6))
      all_goals
        go_wp2_with fail
        go_meet
        exact ⟨k8, er8, rfl, rfl, HB5, F8⟩
    case rest =>
      obtain ⟨k8, er8, rfl, rfl, HB8, F8⟩ := hcut
      have H8 := H6.trans (HB8.mono (by omega))
      have sl5 := sl5'.keep HB8 (Nat.le_refl _)
      have sl3 := sl3'.keep HB8 (Nat.le_refl _)
      obtain ⟨cE, _⟩ := keepAt HB8 z6
      have p0 := (cE 0).trans q0
      have p1 := (cE 1).trans q1
      clear cE q0 q1 sl5' sl3' HB8 H6 B6 Z6 z6
      by_cases hok : OkU n l
      · obtain ⟨rfl, hm3n, f3, hf3, hi3, ho3⟩ := F3.out.yes hok
        by_cases hok' : OkU n (l ++ [(a, b)])
        · obtain ⟨rfl, hm5n, f5, hf5, hi5, rfl⟩ := F5.out.yes hok'
          obtain ⟨rfl, f6, hf6, hi6, hk6⟩ := F6.out.yes hok
          obtain ⟨rfl, f8, hf8, hi8, hk8⟩ := F8.out.yes hok'
          have hab := hok'.2.2.2 (a, b) (by simp)
          have hn64 := hok.2.1
          have hkb6 := F6.out.bd
          have hkb8 := F8.out.bd
          subst hm3n
          subst ho3
          obtain ⟨na, rfl⟩ := Int.eq_ofNat_of_zero_le hab.1
          obtain ⟨nb, rfl⟩ := Int.eq_ofNat_of_zero_le hab.2.2.1
          have h53 : m3 = m5 := by omega
          subst h53
          simp only [Int.toNat_natCast] at hab hk6 hk8
          obtain ⟨_, hna, _, hnb⟩ := hab
          have hna' : na < m3 := by omega
          have hnb' : nb < m3 := by omega
          rw [pn_snoc, Int.toNat_natCast, Int.toNat_natCast] at hi5 hi8
          have heq : root f5 na = root f5 nb := hi5.1 (na, nb) (by simp)
          obtain ⟨b3, o3, rfl, _, x3⟩ := sl3.atI (k := na) (by rw [outL_len]; exact hna')
          obtain ⟨b3', o3', e3, _, y3⟩ := sl3.atI (k := nb) (by rw [outL_len]; exact hnb')
          cases e3
          obtain ⟨b5, o5, rfl, _, x5⟩ := sl5.atI (k := na) (by rw [outL_len]; exact hna')
          obtain ⟨b5', o5', e5, _, y5⟩ := sl5.atI (k := nb) (by rw [outL_len]; exact hnb')
          cases e5
          rw [outL_get] at x3 y3 x5 y5
          rw [heq] at x5
          have hs6 := (out_same m3 hf6 hf3 hi6 hi3).2
          have hs8 := (out_same m3 hf8 hf5 hi8 hi5).2
          rw [hs6] at hk6
          rw [hs8] at hk8
          by_cases hr : root f3 na = root f3 nb
          · obtain ⟨eo, em⟩ := out_eq m3 hf3 hf5 hi3 hi5 hr
            rw [hr] at x3
            have hkk : ((k6 : Int) == (k8 : Int)) = true := by rw [beq_iff_eq, hk6, hk8, em]
            have ke := fun W B B' h h' => equal_int' (some ⟨b3, o3, none⟩) (some ⟨b5, o5, none⟩) m3 m3 c3 c5 (outL f3 m3) (outL f5 m3) B B' W h h' (outL_len _ _) (outL_len _ _) (by omega) true (decide_eq_true eo)
            generalize root f3 nb = r3 at x3 y3
            generalize root f5 nb = r5 at x5 y5
            have KE := Lib.hid ke
            have SL3 := Lib.hid sl3
            have SL5 := Lib.hid sl5
            clear ke sl3 sl5 hk6 hk8 hs6 hs8 em eo hr heq hf3 hi3 hf5 hi5 hf6 hi6 hf8 hi8 hok hok' F3 F5 F6 F8 hm5n
            go_wp2
            go_quiet (fail)
            go_wp2
            go_quiet (fail)
            go_wp2_with fail
            refine (KE.out _ _ _ (SL3.out.keep (below_drewN (Below.refl _ _) _) (Nat.le_refl _)) (SL5.out.keep (below_drewN (Below.refl _ _) _) (Nat.le_refl _))).mono ?_
            rintro e w9 ⟨rfl, n9, rfl⟩
            go_wp2
            go_ret
            exact ⟨rfl, by first | exact below_drewN H8 _ | exact below_drewN (below_drewN H8 _) _⟩
          · have hml := many_less m3 hna' hnb' hf3 hf5 hi3 hi5 hr
            have hkk : ((k8 : Int) == (k6 : Int) - 1) = true := by rw [beq_iff_eq]; omega
            have hne : (((root f3 na : Nat) : Int) == ((root f3 nb : Nat) : Int)) = false := by rw [beq_eq_false_iff_ne]; omega
            generalize root f3 nb = r3 at x3 y3 hne
            generalize root f3 na = r3' at x3 y3 hne
            generalize root f5 nb = r5 at x5 y5
            clear sl3 sl5 hk6 hk8 hs6 hs8 hml hr heq hf3 hi3 hf5 hi5 hf6 hi6 hf8 hi8 hok hok' F3 F5 F6 F8 hm5n
            go_wp2
            go_quiet (fail)
            go_wp2
            go_quiet (fail)
            go_wp2
            go_ret
            exact ⟨rfl, by first | exact below_drewN H8 _ | exact below_drewN (below_drewN H8 _) _⟩
        · obtain ⟨_, e5, e5'⟩ := F5.out.no hok'
          clear hok hok' ho3 hm3n hi3 hf3 sl3 sl5
          go_wp2
          go_ret
          exact ⟨rfl, H8⟩
      · obtain ⟨rfl, e3, e3'⟩ := F3.out.no hok
        clear hok sl3 sl5
        go_wp2
        go_ret
        exact ⟨rfl, H8⟩

theorem own : ownKnob Try.prog.godebug = none := by kernel_rfl
theorem laidOut : laidOutB Try.prog = true := by kernel_rfl

set_option maxRecDepth 100000 in
theorem lifted (os : Os) (started : os.Started) (H : Type) (enc : TypeId × Value → H) :
    ReturnsInHanded {} Try.checked os 11 .any (Rows.unionOneSpec.pre6 enc Try.prog Try.f11 Rows.unionOneRow.domain false) (Rows.unionOneSpec.post enc Try.prog Try.f11 false true false false) := by
  refine returnsInHanded_of_change_sized (C := Try.checked) own started (by kernel_rfl) Try.func11
    (ChangeSpec.witness6 (enc := enc) (C := Try.checked) false ⟨#[], #[.int .i64 0, .slice none 0 0, .agg #[.int .i64 0, .int .i64 0]], []⟩ 8 (by kernel_rfl) (by kernel_rfl) (by kernel_rfl) (by kernel_rfl)) ?_
  intro W base args ds gs before hval0 hW hcnd hsz0 _
  have hval : ∀ (j : Nat) t v, Try.f11.params[j]? = some t → args[j]? = some v → Value.okWide Try.prog W .any base t v := hval0
  have hW' := hW
  obtain ⟨p, q, hA0, hV, rfl, hfz, hnd⟩ := hW
  have hA : DataW.TrodAll enc Try.prog W 0 (fun _ => true) true Try.f11.params.toList args.toList ds p := hA0
  have hsz : (DataW.weightsEach Try.prog (Try.f11.params.toList ++ Rows.unionOneSpec.plain.varTypes Try.prog) (ds ++ gs)).all (· ≤ reachBytes) = true := hsz0
  rw [Try.params11] at hsz
  rw [Try.params11] at hA hval
  obtain ⟨v0, vs0, d0, ds0, p0, q0, hargs, rfl, rfl, h0, r0⟩ := trodAll_cons hA
  obtain ⟨v1, vs1, d1, ds1, p1, q1, rfl, rfl, rfl, h1, r1⟩ := trodAll_cons r0
  obtain ⟨v2, vs2, d2, ds2, p2, q2, rfl, rfl, rfl, h2, r2⟩ := trodAll_cons r1
  obtain ⟨rfl, rfl, rfl⟩ := trodAll_nil r2
  obtain rfl : args = #[v0, v1, v2] := by cases args; simp_all
  obtain ⟨rfl, rfl⟩ := trodVars_none hV
  obtain ⟨a0, rfl, rfl, rfl, wa0⟩ := open_int Try.underlying3 (hval 0 3 v0 rfl rfl) h0
  obtain ⟨A1, c1, l1, rfl, hG1, hd1, hb1⟩ := open_sl2 Try.underlying43 Try.underlying46 (by kernel_rfl) (by kernel_rfl) Try.underlying3 Try.underlying3 (hval 1 43 v1 rfl rfl) h1
  obtain ⟨a2, b2, rfl, rfl, rfl, ha2, hb2⟩ := open_ii Try.underlying46 (by kernel_rfl) (by kernel_rfl) Try.underlying3 Try.underlying3 (hval 2 46 v2 rfl rfl) h2
  refine (walk W a0 (wf_bd wa0) A1 c1 l1 hG1 a2 b2 ha2 hb2 (sized_len hsz 16 (j := 1) rfl rfl Try.underlying43 (by kernel_rfl) hd1)).mono fun e W' ⟨he, hB⟩ => ?_
  subst he
  exact ⟨_, rfl, post_of_law laidOut rfl Try.underlying4 rfl (by intro t ht; rw [Try.params11] at ht; simp at ht; rcases ht with rfl | rfl | rfl <;> exact ⟨by kernel_rfl, of_decide_eq_true (by kernel_rfl)⟩) hW' rfl hB⟩

theorem holds : Rows.UnionOneSaid :=
  OpenClaim.holds_of_wide 11 Try.f11 rfl rfl rfl rfl rfl rfl rfl ⟨rfl, rfl, rfl, rfl, rfl⟩ rfl rfl rfl rfl rfl (by kernel_rfl) Try.func11 (by kernel_rfl)
    (of_decide_eq_true (by kernel_rfl)) (by unfold Func.isWrapper; first | (rw [if_pos (by decide +kernel)]; kernel_rfl) | (rw [if_neg (by decide +kernel)]; exact ⟨rfl, rfl⟩))
    (fun os started H enc _ => lifted os started H enc)
#print axioms holds
end Go.Proofs.Ythlhlglmkcbgaaa.UnionOneLaw
