/- For every net, place and guesses: HeurGreatest answers true (guesses that agree are never more than it costs; the greater of two that agree agrees), and the arguments read as before. No condition. -/
import Derived.Test.YtdpjbjgecmnmnaaRows
import Derived.Test.YtdpjbjgecmnmnaaOpen
import Derived.Test.YtdpjbjgecmnmnaaHeurWalks
import Derived.Test.YtdpjbjgecmnmnaaDijkTwo
import Derived.SizedLaws
namespace Go.Proofs.Ytdpjbjgecmnmnaa.HeurGreatestLaw
open Go.ChangeShapes Go.WideShapes Go.ChangeAt Go.RowKit Go.Proofs.Ytdpjbjgecmnmnaa NetLaw BellLaw DijkLaw HeurLaw Go.Proofs.Ytdpjbjgecmnmnaa.Net Go.Proofs.Ytdpjbjgecmnmnaa.Dijk Go.Proofs.Ytdpjbjgecmnmnaa.Heur Go.Proofs.Ytdpjbjgecmnmnaa.DijkTwo Go.Proofs.Ytdpjbjgecmnmnaa.Refs Go.Proofs.Ytdpjbjgecmnmnaa.Std
set_option linter.unusedSimpArgs false
set_option linter.unusedVariables false

theorem check_two (hs : List Int) (r : Int) (hr : hck (Dijk.look 2 [(0, 1, 5)] [1]) 2 1 [(0, 1, 5)] hs = r) (h2 : hs.length = 2) (W : World) (g : Nat) (A : Option Addr) (ch : Nat) (h : Sl W W.heap.size 3 ce (some ⟨g, 0, none⟩) [(0, 1, 5)]) (hh : Sl W W.heap.size 1 ci A hs) :
    Calls Try.prog 15 #[.agg #[.int .i64 2, .slice (some ⟨g, 0, none⟩) 1 1], .int .i64 1, .slice A 2 ch] W fun e w' => e = .returned (.int .i64 r) ∧ Below W.heap.size W w' := by
  subst hr
  have k := check_h 2 1 (some ⟨g, 0, none⟩) 1 [(0, 1, 5)] A ch hs W h hh (by decide) (by rw [h2]; decide)
  rw [h2] at k
  exact k
theorem max_if (x y : Int) : (if x < y then y else x) = max x y := by omega

set_option maxRecDepth 100000 in
set_option maxHeartbeats 4000000 in
theorem walk (w : World) (N : Int) (A : Option Addr) (c : Nat) (l : List E) (hA : Arg w 3 ce A c l) (t : Int) (ht : -9223372036854775808 ≤ t ∧ t ≤ 9223372036854775807)
    (Aa : Option Addr) (ca : Nat) (a : List Int) (hAa : Arg w 1 ci Aa ca a) (Ab : Option Addr) (cb : Nat) (b : List Int) (hAb : Arg w 1 ci Ab cb b) :
    Calls Try.prog 3 #[.agg #[.int .i64 N, .slice A l.length c], .int .i64 t, .slice Aa a.length ca, .slice Ab b.length cb] w fun e w' => e = .returned (.bool true) ∧ Below w.heap.size w w' := by
  have hs := hA.sl
  have hll : l.length ≤ 9223372036854775807 := Nat.le_trans hA.cap hA.max
  have hsa := hAa.sl
  have hla : a.length ≤ 9223372036854775807 := Nat.le_trans hAa.cap hAa.max
  have hsb := hAb.sl
  have hlb : b.length ≤ 9223372036854775807 := Nat.le_trans hAb.cap hAb.max
  clear hA hAa hAb
  have hw0 : Below w.heap.size w (w.alloc (.cells #[.int .i64 N, .slice A l.length c] 24)) := (Below.refl _ _).alloc (Nat.le_refl _) _
  have key0 := fun W g A' ch h h' => check_two [5, 0] 0 (by decide +kernel) rfl W g A' ch h h'
  have key1 := fun W g A' ch h h' => check_two [6, 0] 7 (by decide +kernel) rfl W g A' ch h h'
  have ka := fun W h h' => check_h N t A c l Aa ca a W h h' hll hla
  have kb := fun W h h' => check_h N t A c l Ab cb b W h h' hll hlb
  have KEY0 := Lib.hid key0
  have KEY1 := Lib.hid key1
  clear key0 key1
  by_cases hxa : hck (Dijk.look N l [t]) N t l a = 0
  · by_cases hxb : hck (Dijk.look N l [t]) N t l b = 0
    · rw [hxa] at ka
      rw [hxb] at kb
      obtain ⟨hlk, hca⟩ := hck_zero.1 hxa
      obtain ⟨_, hcb⟩ := hck_zero.1 hxb
      obtain ⟨hg, hc, f0, f1⟩ := Dijk.look_zero hlk
      have hN1 := hg.lo
      have hN2 := hg.hi
      obtain ⟨n, rfl⟩ := Int.eq_ofNat_of_zero_le (show 0 ≤ N by omega)
      obtain ⟨t, rfl⟩ := Int.eq_ofNat_of_zero_le f0
      have htn : t < n := by omega
      have hal : a.length = n := by have := hca.len; omega
      have hbl : b.length = n := by have := hcb.len; omega
      have hmx := hca.max hcb f0 f1 hg.ends
      have kd := fun (v : Int) (v0 : 0 ≤ v) (v1 : v < n) W h => dist_yes n A c l v hll (by have e : Dijk.look n l [v] = 0 := by { unfold Dijk.look; rw [if_neg (by rw [Dijk.look] at hlk; split at hlk <;> simp_all)]; simp only [Dijk.lookE]; rw [if_neg (by omega)] }; exact e) W h
      have km := fun W Am cm (h : Sl W W.heap.size 3 ce A l) h' => check_h n t A c l Am cm (mx a b n) W h h' hll (by rw [mx_len]; omega)
      rw [hck_zero.2 ⟨hlk, hmx⟩, mx_len] at km
      simp only [Int.toNat_natCast] at kd
      have KA := Lib.hid ka
      have KB := Lib.hid kb
      have KD := Lib.hid kd
      have KM := Lib.hid km
      have HCA := Lib.hid hca
      have HCB := Lib.hid hcb
      have HG := Lib.hid hg
      have HAL := Lib.hid hal
      have HBL := Lib.hid hbl
      clear ka kb kd km hxa hxb hlk hca hcb hg hc hmx hal hbl
      obtain ⟨i0, hi, hz0, hz1, hz2⟩ := info_parts infoInt
      go_enter Try.func3, Try.ntmps3
      go_wp2_with fail
      refine (two_any _).mono ?_
      rintro e w1 ⟨g, rfl, own1, hb1⟩
      have B1 : Below (w.heap.size + 1) (w.alloc (.cells #[.int .i64 n, .slice A l.length c] 24)) w1 := hb1.mono (by simp)
      have Z1 : w.heap.size + 1 ≤ w1.heap.size := by have := hb1.size; simp at this; omega
      clear hb1
      go_wp2_with fail
      refine (KEY0.out _ _ _ _ (own1.alloc _).sl.2 (sl_new' (by decide) w1 #[.int .i64 5, .int .i64 0] _ _ rfl rfl)).mono ?_
      rintro e w2 ⟨rfl, hb2⟩
      have B2 := (B1.alloc Z1 (.cells #[.int .i64 5, .int .i64 0] 3)).trans (hb2.mono (by simp; omega))
      have Z2 : w.heap.size + 1 ≤ w2.heap.size := by have := hb2.size; simp at this; omega
      clear hb2 own1 B1 Z1
      go_wp2_with fail
      refine (two_any _).mono ?_
      rintro e w3 ⟨g3, rfl, own3, hb3⟩
      have B3 := B2.trans (hb3.mono Z2)
      have Z3 : w.heap.size + 1 ≤ w3.heap.size := by have := hb3.size; omega
      clear hb3 B2 Z2
      go_wp2_with fail
      refine (KEY1.out _ _ _ _ (own3.alloc _).sl.2 (sl_new' (by decide) w3 #[.int .i64 6, .int .i64 0] _ _ rfl rfl)).mono ?_
      rintro e w4 ⟨rfl, hb4⟩
      have B4 := (B3.alloc Z3 (.cells #[.int .i64 6, .int .i64 0] 3)).trans (hb4.mono (by simp; omega))
      have Z4 : w.heap.size + 1 ≤ w4.heap.size := by have := hb4.size; simp at this; omega
      clear hb4 own3 B3 Z3
      have H4 := hw0.trans (B4.mono (Nat.le_succ _))
      have z4 : w.heap.size ≤ w4.heap.size := by omega
      have y4 : w.heap.size < w4.heap.size := by omega
      obtain ⟨cc4, _⟩ := keepAt B4 (Nat.lt_succ_self _)
      have q0 := cc4 0
      have q1 := cc4 1
      simp at q0 q1
      clear cc4
      go_wp2_with fail
      refine (KA.out _ ((hs.keep H4 (Nat.le_refl _)).more H4.size) ((hsa.keep H4 (Nat.le_refl _)).more H4.size)).mono ?_
      rintro e w5 ⟨rfl, hb5⟩
      have B5 := B4.trans (hb5.mono Z4)
      have Z5 : w.heap.size + 1 ≤ w5.heap.size := by have := B5.size; simp at this; omega
      have H5 := hw0.trans (B5.mono (Nat.le_succ _))
      have z5 : w.heap.size ≤ w5.heap.size := by omega
      have y5 : w.heap.size < w5.heap.size := by omega
      clear q0 q1 hb5 B4 Z4 z4 y4
      obtain ⟨cc5, _⟩ := keepAt B5 (Nat.lt_succ_self _)
      have q0 := cc5 0
      have q1 := cc5 1
      simp at q0 q1
      clear cc5
      go_wp2_with fail
      refine (KB.out _ ((hs.keep H5 (Nat.le_refl _)).more H5.size) ((hsb.keep H5 (Nat.le_refl _)).more H5.size)).mono ?_
      rintro e w6 ⟨rfl, hb6⟩
      have B6 := B5.trans (hb6.mono Z5)
      have Z6 : w.heap.size + 1 ≤ w6.heap.size := by have := B6.size; simp at this; omega
      have H6 := hw0.trans (B6.mono (Nat.le_succ _))
      have z6 : w.heap.size ≤ w6.heap.size := by omega
      have y6 : w.heap.size < w6.heap.size := by omega
      clear q0 q1 hb6 B5 Z5 z5 y5
      obtain ⟨cc6, _⟩ := keepAt B6 (Nat.lt_succ_self _)
      have q0 := cc6 0
      have q1 := cc6 1
      simp at q0 q1
      clear cc6
      go_wp2
      go_loopw [9, 37] (fun s9 i wr => ∃ (k : Nat) (A9 : Option Addr) (c9 : Nat), k ≤ n ∧ i = .int .i64 k ∧ s9 = .slice A9 k c9 ∧ Own wr w6.heap.size 3 1 ci (.slice A9 k c9) (mx a b k) ∧ Below w6.heap.size w6 wr) (fun _ i _ => n - (intOf i).toNat)
      case atStart => exact ⟨0, none, 0, Nat.zero_le _, rfl, rfl, Own.nil_, Below.refl _ _⟩
      case round =>
        obtain ⟨k, A9, c9, hk, rfl, rfl, hown, hB⟩ := hrel
        have HO := Lib.hid hown
        have HBr := H6.trans (hB.mono z6)
        have B7 := B6.trans (hB.mono Z6)
        clear hown
        clear q0 q1
        obtain ⟨cc7, _⟩ := keepAt B7 (Nat.lt_succ_self _)
        have q0 := cc7 0
        have q1 := cc7 1
        simp at q0 q1
        have zr : w.heap.size < wr.heap.size := by have := hB.size; omega
        clear cc7
        by_cases hlt : k < n
        · have kd := KD.out k (by omega) (by omega)
          have KDK := Lib.hid kd
          have hadm := fun (D : List Int) (hD : Sh n k l D) => HCA.out.adm hD (by omega) (by omega) (by omega) (by omega)
          have HADM := Lib.hid hadm
          clear kd hadm
          go_wp2_with fail
          refine (KDK.out _ ((hs.keep HBr (Nat.le_refl _)).more HBr.size)).mono ?_
          rintro e w8 ⟨S, D, rfl, own8, hb8, hsh⟩
          have hle := HADM.out D hsh.out
          have hDl : D.length = n := by have := hsh.out.len; omega
          have H8 := HBr.trans (hb8.mono HBr.size)
          have hB8 := hB.trans (hb8.mono hB.size)
          have HO8 := Lib.hid (HO.out.keep hb8)
          obtain ⟨dc, _⟩ := own_at1 hDl own8 htn
          rw [getD_dg] at dc
          obtain ⟨ba, oa, rfl, hba, ha⟩ := atD (hsa.keep H8 (Nat.le_refl _)) (show k < a.length by rw [HAL.out]; exact hlt)
          obtain ⟨bb, ob, rfl, hbb, hb⟩ := atD (hsb.keep H8 (Nat.le_refl _)) (show k < b.length by rw [HBL.out]; exact hlt)
          have hd : decide (dg a k > dg D t) = false := by simp; omega
          have hd2 : decide (dg D t < dg a k) = false := by simp; omega
          have la1 : k < a.length := by rw [HAL.out]; exact hlt
          have lb1 : k < b.length := by rw [HBL.out]; exact hlt
          have la2 : (k : Int) < (a.length : Int) := by omega
          have lb2 : (k : Int) < (b.length : Int) := by omega
          have hMI := max_if (dg a k) (dg b k)
          have HMX := Lib.hid (mx_snoc a b k)
          have hSw := (own8.base_ S rfl).2
          have z8 := hB8.size
          clear hle own8 hb8 hsh q0 q1
          generalize dg D (t : Int) = x at *
          generalize hy1 : dg a (k : Int) = y1 at *
          generalize hy2 : dg b (k : Int) = y2 at *
          have HY1 := Lib.hid hy1
          have HY2 := Lib.hid hy2
          clear hy1 hy2
          go_wp2
          go_quiet (fail)
          go_wp2
          have hkk : ∀ wx, Below w6.heap.size w6 wx → wx.cell? ⟨ba, oa + k, none⟩ = some (.int .i64 y1) ∧ wx.cell? ⟨bb, ob + k, none⟩ = some (.int .i64 y2) := fun wx hbx => by
            obtain ⟨e1, _⟩ := keepN hbx
            obtain ⟨e2, _⟩ := keepN hB8
            exact ⟨((e1 _ _ (by omega)).trans (e2 _ _ (by omega)).symm).trans ha, ((e1 _ _ (by omega)).trans (e2 _ _ (by omega)).symm).trans hb⟩
          have HKK := Lib.hid hkk
          clear hkk
          go_region_held3 (fun w' => w'.cell? ⟨ba, oa + k, none⟩ = some (.int .i64 y1) ∧ w'.cell? ⟨bb, ob + k, none⟩ = some (.int .i64 y2)) (first | go_keep | exact HKK.out _ hB9)
            ((refine step_push _ rfl (.tmp 59) (.tmp 69) _ rfl w6.heap.size 3 i0 (.int .i64 0) 1 8 ci Try.underlying25 hi hz0 hz1 hz2 (by rfl) (by decide) _ (mx a b k) k (mx_len a b k) (by rfl) ((HO8.out.drewN _).alloc _) w8.heap.size 1 (max y1 y2) (by rfl) (news1' (by simp)) (fun _ _ => one_ci _ _) (by omega) (by omega) (by simp; omega) ?_; intro A3 c3 w9 hown9 hgrow9 hat9; have hB9 : Below w6.heap.size w6 w9 := ((((below_drewN hB8 _).drew).alloc (by exact z8) _).grown hgrow9 (by simp; omega) (HO8.out.lo)); clear hgrow9 hat9))
          rw [← HMX.out] at hown9
          clear hMI hd hd2 dc ha hb
          go_wp2
          go_roundw
          case rel => exact ⟨k + 1, A3, c3, by omega, by go_num, rfl, hown9, hB9⟩
          case measure => simp [intOf]; omega
        · obtain rfl : k = n := by omega
          have key := KM.out wr A9 c9 ((hs.keep HBr (Nat.le_refl _)).more HBr.size) HO.out.sl.2
          have KF := Lib.hid key
          clear key
          go_wp2_with fail
          refine KF.out.mono ?_
          rintro e w8 ⟨rfl, hb8⟩
          have H8 := HBr.trans (hb8.mono HBr.size)
          go_wp2
          go_ret
          exact ⟨rfl, H8⟩
    · have hne : (hck (Dijk.look N l [t]) N t l b != 0) = true := by rw [bne_iff_ne]; exact hxb
      rw [hxa] at ka
      generalize hck (Dijk.look N l [t]) N t l b = er at *
      have KA := Lib.hid ka
      have KB := Lib.hid kb
      clear ka kb hxa hxb
      go_enter Try.func3, Try.ntmps3
      go_wp2_with fail
      refine (two_any _).mono ?_
      rintro e w1 ⟨g, rfl, own1, hb1⟩
      have B1 : Below (w.heap.size + 1) (w.alloc (.cells #[.int .i64 N, .slice A l.length c] 24)) w1 := hb1.mono (by simp)
      have Z1 : w.heap.size + 1 ≤ w1.heap.size := by have := hb1.size; simp at this; omega
      clear hb1
      go_wp2_with fail
      refine (KEY0.out _ _ _ _ (own1.alloc _).sl.2 (sl_new' (by decide) w1 #[.int .i64 5, .int .i64 0] _ _ rfl rfl)).mono ?_
      rintro e w2 ⟨rfl, hb2⟩
      have B2 := (B1.alloc Z1 (.cells #[.int .i64 5, .int .i64 0] 3)).trans (hb2.mono (by simp; omega))
      have Z2 : w.heap.size + 1 ≤ w2.heap.size := by have := hb2.size; simp at this; omega
      clear hb2 own1 B1 Z1
      go_wp2_with fail
      refine (two_any _).mono ?_
      rintro e w3 ⟨g3, rfl, own3, hb3⟩
      have B3 := B2.trans (hb3.mono Z2)
      have Z3 : w.heap.size + 1 ≤ w3.heap.size := by have := hb3.size; omega
      clear hb3 B2 Z2
      go_wp2_with fail
      refine (KEY1.out _ _ _ _ (own3.alloc _).sl.2 (sl_new' (by decide) w3 #[.int .i64 6, .int .i64 0] _ _ rfl rfl)).mono ?_
      rintro e w4 ⟨rfl, hb4⟩
      have B4 := (B3.alloc Z3 (.cells #[.int .i64 6, .int .i64 0] 3)).trans (hb4.mono (by simp; omega))
      have Z4 : w.heap.size + 1 ≤ w4.heap.size := by have := hb4.size; simp at this; omega
      clear hb4 own3 B3 Z3
      have H4 := hw0.trans (B4.mono (Nat.le_succ _))
      have z4 : w.heap.size ≤ w4.heap.size := by omega
      have y4 : w.heap.size < w4.heap.size := by omega
      obtain ⟨cc4, _⟩ := keepAt B4 (Nat.lt_succ_self _)
      have q0 := cc4 0
      have q1 := cc4 1
      simp at q0 q1
      clear cc4
      go_wp2_with fail
      refine (KA.out _ ((hs.keep H4 (Nat.le_refl _)).more H4.size) ((hsa.keep H4 (Nat.le_refl _)).more H4.size)).mono ?_
      rintro e w5 ⟨rfl, hb5⟩
      have B5 := B4.trans (hb5.mono Z4)
      have Z5 : w.heap.size + 1 ≤ w5.heap.size := by have := B5.size; simp at this; omega
      have H5 := hw0.trans (B5.mono (Nat.le_succ _))
      have z5 : w.heap.size ≤ w5.heap.size := by omega
      have y5 : w.heap.size < w5.heap.size := by omega
      clear q0 q1 hb5 B4 Z4 z4 y4
      obtain ⟨cc5, _⟩ := keepAt B5 (Nat.lt_succ_self _)
      have q0 := cc5 0
      have q1 := cc5 1
      simp at q0 q1
      clear cc5
      go_wp2_with fail
      refine (KB.out _ ((hs.keep H5 (Nat.le_refl _)).more H5.size) ((hsb.keep H5 (Nat.le_refl _)).more H5.size)).mono ?_
      rintro e w6 ⟨rfl, hb6⟩
      have H6 := H5.trans (hb6.mono H5.size)
      clear hb6 q0 q1
      go_wp2
      go_ret
      exact ⟨rfl, H6⟩
  · have hne : (hck (Dijk.look N l [t]) N t l a != 0) = true := by rw [bne_iff_ne]; exact hxa
    generalize hck (Dijk.look N l [t]) N t l a = er at *
    have KA := Lib.hid ka
    clear ka kb hxa
    go_enter Try.func3, Try.ntmps3
    go_wp2_with fail
    refine (two_any _).mono ?_
    rintro e w1 ⟨g, rfl, own1, hb1⟩
    have B1 : Below (w.heap.size + 1) (w.alloc (.cells #[.int .i64 N, .slice A l.length c] 24)) w1 := hb1.mono (by simp)
    have Z1 : w.heap.size + 1 ≤ w1.heap.size := by have := hb1.size; simp at this; omega
    clear hb1
    go_wp2_with fail
    refine (KEY0.out _ _ _ _ (own1.alloc _).sl.2 (sl_new' (by decide) w1 #[.int .i64 5, .int .i64 0] _ _ rfl rfl)).mono ?_
    rintro e w2 ⟨rfl, hb2⟩
    have B2 := (B1.alloc Z1 (.cells #[.int .i64 5, .int .i64 0] 3)).trans (hb2.mono (by simp; omega))
    have Z2 : w.heap.size + 1 ≤ w2.heap.size := by have := hb2.size; simp at this; omega
    clear hb2 own1 B1 Z1
    go_wp2_with fail
    refine (two_any _).mono ?_
    rintro e w3 ⟨g3, rfl, own3, hb3⟩
    have B3 := B2.trans (hb3.mono Z2)
    have Z3 : w.heap.size + 1 ≤ w3.heap.size := by have := hb3.size; omega
    clear hb3 B2 Z2
    go_wp2_with fail
    refine (KEY1.out _ _ _ _ (own3.alloc _).sl.2 (sl_new' (by decide) w3 #[.int .i64 6, .int .i64 0] _ _ rfl rfl)).mono ?_
    rintro e w4 ⟨rfl, hb4⟩
    have B4 := (B3.alloc Z3 (.cells #[.int .i64 6, .int .i64 0] 3)).trans (hb4.mono (by simp; omega))
    have Z4 : w.heap.size + 1 ≤ w4.heap.size := by have := hb4.size; simp at this; omega
    clear hb4 own3 B3 Z3
    have H4 := hw0.trans (B4.mono (Nat.le_succ _))
    have z4 : w.heap.size ≤ w4.heap.size := by omega
    have y4 : w.heap.size < w4.heap.size := by omega
    obtain ⟨cc4, _⟩ := keepAt B4 (Nat.lt_succ_self _)
    have q0 := cc4 0
    have q1 := cc4 1
    simp at q0 q1
    clear cc4
    go_wp2_with fail
    refine (KA.out _ ((hs.keep H4 (Nat.le_refl _)).more H4.size) ((hsa.keep H4 (Nat.le_refl _)).more H4.size)).mono ?_
    rintro e w5 ⟨rfl, hb5⟩
    have H5 := H4.trans (hb5.mono H4.size)
    clear hb5 q0 q1
    go_wp2
    go_ret
    exact ⟨rfl, H5⟩

theorem own : ownKnob Try.prog.godebug = none := by kernel_rfl
theorem laidOut : laidOutB Try.prog = true := by kernel_rfl

set_option maxRecDepth 100000 in
theorem lifted (os : Os) (started : os.Started) (H : Type) (enc : TypeId × Value → H) :
    ReturnsInHanded {} Try.checked os 3 .any (Rows.heurGreatestSpec.pre6 enc Try.prog Try.f3 Rows.heurGreatestRow.domain false) (Rows.heurGreatestSpec.post enc Try.prog Try.f3 false true false false) := by
  refine returnsInHanded_of_change (C := Try.checked) own started (by kernel_rfl) Try.func3
    (ChangeSpec.witness6 (enc := enc) (C := Try.checked) false ⟨#[], #[.agg #[.int .i64 0, .slice none 0 0], .int .i64 0, .slice none 0 0, .slice none 0 0], []⟩ 8 (by kernel_rfl) (by kernel_rfl) (by kernel_rfl) (by kernel_rfl)) ?_
  intro W base args ds gs before hval0 hW hcnd _
  have hval : ∀ (j : Nat) t v, Try.f3.params[j]? = some t → args[j]? = some v → Value.okWide Try.prog W .any base t v := hval0
  have hW' := hW
  obtain ⟨p, q, hA0, hV, rfl, hfz, hnd⟩ := hW
  have hA : DataW.TrodAll enc Try.prog W 0 (fun _ => true) true Try.f3.params.toList args.toList ds p := hA0
  rw [Try.params3] at hA hval
  obtain ⟨v0, vs0, d0, ds0, p0, q0, hargs, rfl, rfl, h0, r0⟩ := trodAll_cons hA
  obtain ⟨v1, vs1, d1, ds1, p1, q1, rfl, rfl, rfl, h1, r1⟩ := trodAll_cons r0
  obtain ⟨v2, vs2, d2, ds2, p2, q2, rfl, rfl, rfl, h2, r2⟩ := trodAll_cons r1
  obtain ⟨v3, vs3, d3, ds3, p3, q3, rfl, rfl, rfl, h3, r3⟩ := trodAll_cons r2
  obtain ⟨rfl, rfl, rfl⟩ := trodAll_nil r3
  obtain rfl : args = #[v0, v1, v2, v3] := by cases args; simp_all
  obtain ⟨rfl, rfl⟩ := trodVars_none hV
  obtain ⟨N0, A0, c0, l0, dd0, rfl, hN0, hG0, hb0, rfl, hd0⟩ := open_net Try.underlying24 (by kernel_rfl) (by kernel_rfl) Try.underlying3 Try.underlying22 Try.underlying60 (by kernel_rfl) (by kernel_rfl) Try.underlying3 Try.underlying3 Try.underlying3 (hval 0 24 v0 rfl rfl) h0
  obtain ⟨a1, rfl, rfl, rfl, wa1⟩ := open_int Try.underlying3 (hval 1 3 v1 rfl rfl) h1
  obtain ⟨A2, c2, l2, rfl, hG2, hd2, hb2⟩ := open_sl1 Try.underlying25 Try.underlying3 (by kernel_rfl) (hval 2 25 v2 rfl rfl) h2
  obtain ⟨A3, c3, l3, rfl, hG3, hd3, hb3⟩ := open_sl1 Try.underlying25 Try.underlying3 (by kernel_rfl) (hval 3 25 v3 rfl rfl) h3
  refine (walk W N0 A0 c0 l0 hG0 a1 (wf_bd wa1) A2 c2 l2 hG2 A3 c3 l3 hG3).mono fun e W' ⟨he, hB⟩ => ?_
  subst he
  exact ⟨_, rfl, post_of_law laidOut rfl Try.underlying4 rfl (by intro t ht; rw [Try.params3] at ht; simp at ht; rcases ht with rfl | rfl | rfl | rfl <;> exact ⟨by kernel_rfl, of_decide_eq_true (by kernel_rfl)⟩) hW' rfl hB⟩

theorem holds : Rows.HeurGreatestSaid :=
  OpenClaim.holds_of_wide 3 Try.f3 rfl rfl rfl rfl rfl rfl rfl ⟨rfl, rfl, rfl, rfl, rfl⟩ rfl rfl rfl rfl rfl (by kernel_rfl) Try.func3 (by kernel_rfl)
    (of_decide_eq_true (by kernel_rfl)) (by unfold Func.isWrapper; first | (rw [if_pos (by decide +kernel)]; kernel_rfl) | (rw [if_neg (by decide +kernel)]; exact ⟨rfl, rfl⟩))
    (fun os started H enc _ => lifted os started H enc)
#print axioms holds
end Go.Proofs.Ytdpjbjgecmnmnaa.HeurGreatestLaw
