/- For every net and place: JohnSame answers true (by heights, place by place, or by what lies between, it costs the same), and the net reads as before. No condition. -/
import Derived.Test.YtdpjbjgecmnmnaaRows
import Derived.Test.YtdpjbjgecmnmnaaOpen
import Derived.Test.YtdpjbjgecmnmnaaJohnAll
import Derived.Test.YtdpjbjgecmnmnaaFloydAllFn
import Derived.Test.YtdpjbjgecmnmnaaBellEnds
import Derived.Test.YtdpjbjgecmnmnaaRefs
namespace Go.Proofs.Ytdpjbjgecmnmnaa.JohnSameLaw
open Go.ChangeShapes Go.WideShapes Go.ChangeAt Go.RowKit Go.Proofs.Ytdpjbjgecmnmnaa NetLaw BellLaw FloydLaw Go.Proofs.Ytdpjbjgecmnmnaa.Net Go.Proofs.Ytdpjbjgecmnmnaa.Mat Go.Proofs.Ytdpjbjgecmnmnaa.RowsInt Go.Proofs.Ytdpjbjgecmnmnaa.FloydAll Go.Proofs.Ytdpjbjgecmnmnaa.Refs Go.Proofs.Ytdpjbjgecmnmnaa.Std
set_option linter.unusedSimpArgs false
set_option linter.unusedVariables false

theorem john_two (W : World) (g : Nat) (h : Sl W W.heap.size 3 ce (some ⟨g, 0, none⟩) [(0, 1, 5)]) :
    Calls Try.prog 32 #[.agg #[.int .i64 2, .slice (some ⟨g, 0, none⟩) 1 1]] W fun e w' => ∃ A c, e = .returned (.tuple #[.slice A 2 c, .int .i64 0]) ∧ Sr w' w'.heap.size A [[0, 5], [far, 0]] ∧ Below W.heap.size W w' := by
  refine (John.All_any 2 (some ⟨g, 0, none⟩) 1 [(0, 1, 5)] W h (fun e => by cases e) (by decide)).mono ?_
  rintro e w' ⟨_, k2, k3⟩
  obtain ⟨A, c, k4, k5⟩ := k2 two_e
  have e : rows (2 : Int).toNat (all (2 : Int).toNat [(0, 1, 5)]) = [[0, 5], [far, 0]] := two_v
  rw [e] at k5
  exact ⟨A, c, k4, k5, k3⟩
theorem john_yes (n : Nat) (A : Option Addr) (c : Nat) (l : List E) (hA : A = none → l.length = 0 ∧ c = 0) (hll : l.length ≤ 9223372036854775807) (hk : aerr n l = 0) (W : World) (h : Sl W W.heap.size 3 ce A l) :
    Calls Try.prog 32 #[.agg #[.int .i64 n, .slice A l.length c]] W fun e w' => ∃ A' c', e = .returned (.tuple #[.slice A' n c', .int .i64 0]) ∧ Sr w' w'.heap.size A' (rows n (all n l)) ∧ Below W.heap.size W w' := by
  refine (John.All_any n A c l W h hA hll).mono ?_
  rintro e w' ⟨_, k2, k3⟩
  obtain ⟨A', c', k4, k5⟩ := k2 hk
  simp only [Int.toNat_natCast] at k4 k5
  exact ⟨A', c', k4, k5, k3⟩
theorem john_no (N : Int) (A : Option Addr) (c : Nat) (l : List E) (hA : A = none → l.length = 0 ∧ c = 0) (hll : l.length ≤ 9223372036854775807) (hk : aerr N l ≠ 0) (W : World) (h : Sl W W.heap.size 3 ce A l) :
    Calls Try.prog 32 #[.agg #[.int .i64 N, .slice A l.length c]] W fun e w' => e = .returned (.tuple #[.slice none 0 0, .int .i64 (aerr N l)]) ∧ Below W.heap.size W w' := by
  refine (John.All_any N A c l W h hA hll).mono ?_
  rintro e w' ⟨k1, _, k3⟩
  exact ⟨k1 hk, k3⟩
theorem bell_some (N : Int) (A : Option Addr) (c : Nat) (l : List E) (fr : Int) (hll : l.length ≤ 9223372036854775807) (W : World) (h : Sl W W.heap.size 3 ce A l) :
    Calls Try.prog 35 #[.agg #[.int .i64 N, .slice A l.length c], .int .i64 fr] W fun e w' => ∃ A' n' c' x, e = .returned (.tuple #[.slice A' n' c', .int .i64 x]) ∧ Below W.heap.size W w' := by
  refine (Bell.dist_any N A c l fr W h hll).mono ?_
  rintro e w' ⟨k1, k2, k3⟩
  by_cases hz : Bell.derr N l fr = 0
  · obtain ⟨S, _, k4, _⟩ := k2 hz
    exact ⟨_, _, _, _, k4, k3⟩
  · exact ⟨_, _, _, _, k1 hz, k3⟩
theorem bell_out (n : Nat) (A : Option Addr) (c : Nat) (l : List E) (fr : Int) (hg : NetLaw.Good n l) (hf : ¬ (0 ≤ fr ∧ fr < n)) (hll : l.length ≤ 9223372036854775807) (W : World) (h : Sl W W.heap.size 3 ce A l) :
    Calls Try.prog 35 #[.agg #[.int .i64 n, .slice A l.length c], .int .i64 fr] W fun e w' => e = .returned (.tuple #[.slice none 0 0, .int .i64 1]) ∧ Below W.heap.size W w' := by
  refine (Bell.dist_any n A c l fr W h hll).mono ?_
  rintro e w' ⟨k1, k2, k3⟩
  have hz : Bell.derr n l fr = 1 := by rw [Bell.derr, if_neg (by simpa using chk_zero.2 hg), if_pos (by omega)]
  rw [hz] at k1
  exact ⟨k1 (by decide), k3⟩
theorem bell_yes (n f : Nat) (A : Option Addr) (c : Nat) (l : List E) (hg : NetLaw.Good n l) (hf : f < n) (hM : Fl n l (all n l)) (hll : l.length ≤ 9223372036854775807) (W : World) (h : Sl W W.heap.size 3 ce A l) :
    Calls Try.prog 35 #[.agg #[.int .i64 n, .slice A l.length c], .int .i64 f] W fun e w' => ∃ S, e = .returned (.tuple #[.slice (some ⟨S, 0, none⟩) n n, .int .i64 0]) ∧ Own w' W.heap.size 3 1 ci (.slice (some ⟨S, 0, none⟩) n n) ((List.range n).map (all n l f)) ∧ Below W.heap.size W w' := by
  obtain ⟨z1, z2⟩ := JohnPlain.bell_all hg hM hf
  refine (Bell.dist_any n A c l f W h hll).mono ?_
  rintro e w' ⟨_, k2, k3⟩
  have hz : Bell.derr n l f = 0 := by
    rw [Bell.derr, if_neg (by simpa using chk_zero.2 hg), if_neg (by omega), if_neg]
    simp only [Int.toNat_natCast]
    omega
  obtain ⟨S, _, k4, k5, _⟩ := k2 hz
  simp only [Int.toNat_natCast] at k4 k5
  rw [z2] at k5
  exact ⟨S, k4, k5, k3⟩
theorem aerr_zero {N : Int} {l : List E} (h : aerr N l = 0) : NetLaw.Good N l ∧ neg N.toNat (all N.toNat l) = false := by
  unfold aerr at h
  by_cases h1 : chk N l = 0
  · rw [if_neg (by simpa using h1)] at h
    cases h2 : neg N.toNat (all N.toNat l) with
    | false => exact ⟨chk_zero.1 h1, rfl⟩
    | true => rw [if_pos h2] at h; exact absurd h (by decide)
  · rw [if_pos h1] at h; exact absurd h h1

set_option maxRecDepth 100000 in
set_option maxHeartbeats 4000000 in
theorem walk (w : World) (N : Int) (A : Option Addr) (c : Nat) (l : List E) (hA : Arg w 3 ce A c l) (a : Int) (ha : -9223372036854775808 ≤ a ∧ a ≤ 9223372036854775807) :
    Calls Try.prog 9 #[.agg #[.int .i64 N, .slice A l.length c], .int .i64 a] w fun e w' => e = .returned (.bool true) ∧ Below w.heap.size w w' := by
  have hs := hA.sl
  have hnil := hA.nil
  have hll : l.length ≤ 9223372036854775807 := Nat.le_trans hA.cap hA.max
  clear hA
  have hw0 : Below w.heap.size w (w.alloc (.cells #[.int .i64 N, .slice A l.length c] 24)) := (Below.refl _ _).alloc (Nat.le_refl _) _
  have key0 := fun W g h => john_two W g h
  have key1 := fun W A A' c B B' h h' => same_rows A A' 2 2 c 2 [[0, 5], [far, 0]] [[0, 5], [far, 0]] B B' W h h' rfl rfl (by decide) (by decide) true (by decide)
  have hkeep : ∀ W, Below (w.heap.size + 1) (w.alloc (.cells #[.int .i64 N, .slice A l.length c] 24)) W → W.cell? ⟨w.heap.size, 0, none⟩ = some (.int .i64 N) ∧ W.cell? ⟨w.heap.size, 1, none⟩ = some (.slice A l.length c) ∧ w.heap.size + 1 ≤ W.heap.size ∧ Sl W W.heap.size 3 ce A l ∧ Below w.heap.size w W := fun W hW => by
    obtain ⟨cc, _⟩ := keepAt hW (Nat.lt_succ_self _)
    have q0 := cc 0
    have q1 := cc 1
    simp at q0 q1
    have H := hw0.trans (hW.mono (Nat.le_succ _))
    have hz := hW.size
    simp at hz
    exact ⟨q0, q1, hz, (hs.keep H (Nat.le_refl _)).more H.size, H⟩
  have HK := Lib.hid hkeep
  clear hkeep
  have KEY0 := Lib.hid key0
  have KEY1 := Lib.hid key1
  clear key0 key1
  by_cases hx : aerr N l = 0
  · obtain ⟨hg, hneg⟩ := aerr_zero hx
    have hN1 := hg.lo
    have hN2 := hg.hi
    have k3 := fun W h => yes_of N A c l hll hx W h
    obtain ⟨n, rfl⟩ := Int.eq_ofNat_of_zero_le (show 0 ≤ N by omega)
    simp only [Int.toNat_natCast] at hneg k3
    have hfl := all_ok hg (fun m hm => neg_false hneg m hm)
    have k2 := fun W h => john_yes n A c l hnil hll hx W h
    have k4 := fun W B B' A A' c h h' => same_rows A A' n n c n (rows n (all n l)) (rows n (all n l)) B B' W h h' (rows_len _ _) (rows_len _ _) (by omega) (fun r hr => by
      obtain ⟨i, hi, rfl⟩ := List.mem_iff_getElem.1 hr
      rw [rows_get, List.length_map, List.length_range]
      omega) true (by simp)
    by_cases hf : 0 ≤ a ∧ a < n
    · obtain ⟨a0, a1⟩ := hf
      obtain ⟨f, rfl⟩ := Int.eq_ofNat_of_zero_le a0
      have hfn : f < n := by omega
      have k5 := fun W h => bell_yes n f A c l hg hfn hfl hll W h
      have k6 := fun W A A' c c' B B' h h' => equal_int' A A' n n c c' ((List.range n).map (all n l f)) ((List.range n).map (all n l f)) B B' W h h' (by simp) (by simp) (by omega) true (by simp)
      have K2 := Lib.hid k2
      have K3 := Lib.hid k3
      have K4 := Lib.hid k4
      have K5 := Lib.hid k5
      have K6 := Lib.hid k6
      clear k2 k3 k4 k5 k6 hg hneg hfl hx hnil a0 a1 ha
      go_enter Try.func9, Try.ntmps9
      go_wp2_with fail
      refine (two_any _).mono ?_
      rintro e w1 ⟨g, rfl, own1, hb1⟩
      have B1 : Below (w.heap.size + 1) (w.alloc (.cells #[.int .i64 n, .slice A l.length c] 24)) w1 := hb1.mono (by simp)
      have Z1 : w.heap.size + 1 ≤ w1.heap.size := by have := hb1.size; simp at this; omega
      clear hb1
      go_wp2_with fail
      refine (KEY0.out _ _ own1.sl.2).mono ?_
      rintro e w2 ⟨S2, C2, rfl, sr2, hb2⟩
      have B2 := B1.trans (hb2.mono Z1)
      have Z2 : w.heap.size + 1 ≤ w2.heap.size := by have := hb2.size; omega
      have SR2 := Lib.hid sr2
      clear hb2 own1 B1 Z1 sr2
      go_wp2_with fail
      refine (KEY1.out _ _ _ _ _ _ ((SR2.out).keep ((((Below.refl _ _).alloc (Nat.le_refl _) _).alloc (by simp) _).alloc (by simp; omega) _) (Nat.le_refl _)) (sr_lit w2 3 25 #[.int .i64 0, .int .i64 5] #[.int .i64 1099511627776, .int .i64 0] [0, 5] [far, 0] 2 2 rfl rfl rfl rfl rfl rfl rfl)).mono ?_
      rintro e w3 ⟨rfl, n3, rfl⟩
      have B3 := below_drewN (((B2.alloc Z2 (.cells #[.int .i64 0, .int .i64 5] 3)).alloc (by simp; omega) (.cells #[.int .i64 1099511627776, .int .i64 0] 3)).alloc (by simp; omega) (.cells #[.slice (some ⟨w2.heap.size, 0, none⟩) 2 2, .slice (some ⟨w2.heap.size + 1, 0, none⟩) 2 2] 25)) n3
      have Z3 : w.heap.size + 1 ≤ (((w2.alloc (.cells #[.int .i64 0, .int .i64 5] 3)).alloc (.cells #[.int .i64 1099511627776, .int .i64 0] 3)).alloc (.cells #[.slice (some ⟨w2.heap.size, 0, none⟩) 2 2, .slice (some ⟨w2.heap.size + 1, 0, none⟩) 2 2] 25)).heap.size := by simp; omega
      generalize (((w2.alloc (.cells #[.int .i64 0, .int .i64 5] 3)).alloc (.cells #[.int .i64 1099511627776, .int .i64 0] 3)).alloc (.cells #[.slice (some ⟨w2.heap.size, 0, none⟩) 2 2, .slice (some ⟨w2.heap.size + 1, 0, none⟩) 2 2] 25)) = w3 at B3 Z3 ⊢
      clear SR2 B2 Z2
      have z3 : w.heap.size < w3.heap.size := by omega
      have H3 := hw0.trans (B3.mono (Nat.le_succ _))
      obtain ⟨cc3, _⟩ := keepAt B3 (Nat.lt_succ_self _)
      have q0 := cc3 0
      have q1 := cc3 1
      simp at q0 q1
      clear cc3
      have sg := (HK.out _ B3).2.2.2.1
      clear H3 z3
      go_wp2_with fail
      refine (K2.out _ sg).mono ?_
      rintro e w4 ⟨A4, C4, rfl, sr4, hb4⟩
      have B4 := B3.trans (hb4.mono Z3)
      clear q0 q1 sg Z3
      obtain ⟨q0, q1, Z4, sg, H4⟩ := HK.out _ B4
      have z4 : w.heap.size < w4.heap.size := by omega
      have SR4 := Lib.hid sr4
      clear sr4 hb4 B3
      go_wp2_with fail
      refine (K3.out _ sg).mono ?_
      rintro e w5 ⟨S5, F5, rfl, mt5, hb5⟩
      have B5 := B4.trans (hb5.mono Z4)
      clear q0 q1 sg Z4
      obtain ⟨q0, q1, Z5, sg, H5⟩ := HK.out _ B5
      have z5 : w.heap.size < w5.heap.size := by omega
      have sr5 := sr_mt (q := FloydAll.q) (fun _ => rfl) mt5
      have SR4' := Lib.hid ((SR4.out.keep hb5 (Nat.le_refl _)).more hb5.size)
      have SR5 := Lib.hid sr5
      clear sr5 mt5 hb5 B4 H4 z4 SR4
      go_wp2_with fail
      refine (K4.out _ _ _ _ _ _ SR4'.out SR5.out).mono ?_
      rintro e w6 ⟨rfl, n6, rfl⟩
      have SR6 := Lib.hid ((SR4'.out.keep (below_drewN (Below.refl _ _) n6) (Nat.le_refl _)).more (show w5.heap.size ≤ (w5.drewN n6).heap.size from Nat.le_refl _))
      have B6 := below_drewN B5 n6
      clear SR4' SR5 q0 q1 Z5 sg H5 z5 B5
      generalize w5.drewN n6 = w6 at *
      obtain ⟨q0, q1, Z6, sg, H6⟩ := HK.out _ B6
      have z6 : w.heap.size < w6.heap.size := by omega
      clear H6
      go_wp2_with fail
      refine (K5.out _ sg).mono ?_
      rintro e w7 ⟨S7, rfl, own7, hb7⟩
      have B7 := B6.trans (hb7.mono Z6)
      clear q0 q1 sg Z6
      obtain ⟨q0, q1, Z7, sg, H7⟩ := HK.out _ B7
      have z7 : w.heap.size < w7.heap.size := by omega
      have sr7 := SR6.out.keep hb7 (Nat.le_refl _)
      obtain ⟨b, off, rfl, hb, hcc⟩ := sr7 (by rw [rows_len]; omega)
      obtain ⟨A8, C8, hc8, hs8⟩ := hcc f (by rw [rows_len]; exact hfn)
      rw [show (rows n (all n l))[f]'(by rw [rows_len]; exact hfn) = _ from rows_get n _ (by rw [rows_len]; exact hfn)] at hc8 hs8
      rw [List.length_map, List.length_range] at hc8
      have SL8 := Lib.hid hs8
      have OW7 := Lib.hid own7.sl.2
      have en : ((n : Int) == (n : Int)) = true := by simp
      clear sr7 hcc hs8 own7 hb7 SR6 B6 z6
      go_wp2_with fail
      refine (K6.out _ _ _ _ _ _ _ OW7.out SL8.out).mono ?_
      rintro e w8 ⟨rfl, n8, rfl⟩
      have H8 := below_drewN H7 n8
      clear H7 q0 q1 sg
      go_wp2
      go_ret
      exact ⟨rfl, H8⟩
    · have k5 := fun W h => bell_out n A c l a hg hf hll W h
      have K2 := Lib.hid k2
      have K3 := Lib.hid k3
      have K4 := Lib.hid k4
      have K5 := Lib.hid k5
      clear k2 k3 k4 k5 hg hneg hfl hx hnil hf ha
      go_enter Try.func9, Try.ntmps9
      go_wp2_with fail
      refine (two_any _).mono ?_
      rintro e w1 ⟨g, rfl, own1, hb1⟩
      have B1 : Below (w.heap.size + 1) (w.alloc (.cells #[.int .i64 n, .slice A l.length c] 24)) w1 := hb1.mono (by simp)
      have Z1 : w.heap.size + 1 ≤ w1.heap.size := by have := hb1.size; simp at this; omega
      clear hb1
      go_wp2_with fail
      refine (KEY0.out _ _ own1.sl.2).mono ?_
      rintro e w2 ⟨S2, C2, rfl, sr2, hb2⟩
      have B2 := B1.trans (hb2.mono Z1)
      have Z2 : w.heap.size + 1 ≤ w2.heap.size := by have := hb2.size; omega
      have SR2 := Lib.hid sr2
      clear hb2 own1 B1 Z1 sr2
      go_wp2_with fail
      refine (KEY1.out _ _ _ _ _ _ ((SR2.out).keep ((((Below.refl _ _).alloc (Nat.le_refl _) _).alloc (by simp) _).alloc (by simp; omega) _) (Nat.le_refl _)) (sr_lit w2 3 25 #[.int .i64 0, .int .i64 5] #[.int .i64 1099511627776, .int .i64 0] [0, 5] [far, 0] 2 2 rfl rfl rfl rfl rfl rfl rfl)).mono ?_
      rintro e w3 ⟨rfl, n3, rfl⟩
      have B3 := below_drewN (((B2.alloc Z2 (.cells #[.int .i64 0, .int .i64 5] 3)).alloc (by simp; omega) (.cells #[.int .i64 1099511627776, .int .i64 0] 3)).alloc (by simp; omega) (.cells #[.slice (some ⟨w2.heap.size, 0, none⟩) 2 2, .slice (some ⟨w2.heap.size + 1, 0, none⟩) 2 2] 25)) n3
      have Z3 : w.heap.size + 1 ≤ (((w2.alloc (.cells #[.int .i64 0, .int .i64 5] 3)).alloc (.cells #[.int .i64 1099511627776, .int .i64 0] 3)).alloc (.cells #[.slice (some ⟨w2.heap.size, 0, none⟩) 2 2, .slice (some ⟨w2.heap.size + 1, 0, none⟩) 2 2] 25)).heap.size := by simp; omega
      generalize (((w2.alloc (.cells #[.int .i64 0, .int .i64 5] 3)).alloc (.cells #[.int .i64 1099511627776, .int .i64 0] 3)).alloc (.cells #[.slice (some ⟨w2.heap.size, 0, none⟩) 2 2, .slice (some ⟨w2.heap.size + 1, 0, none⟩) 2 2] 25)) = w3 at B3 Z3 ⊢
      clear SR2 B2 Z2
      have z3 : w.heap.size < w3.heap.size := by omega
      have H3 := hw0.trans (B3.mono (Nat.le_succ _))
      obtain ⟨cc3, _⟩ := keepAt B3 (Nat.lt_succ_self _)
      have q0 := cc3 0
      have q1 := cc3 1
      simp at q0 q1
      clear cc3
      have sg := (HK.out _ B3).2.2.2.1
      clear H3 z3
      go_wp2_with fail
      refine (K2.out _ sg).mono ?_
      rintro e w4 ⟨A4, C4, rfl, sr4, hb4⟩
      have B4 := B3.trans (hb4.mono Z3)
      clear q0 q1 sg Z3
      obtain ⟨q0, q1, Z4, sg, H4⟩ := HK.out _ B4
      have z4 : w.heap.size < w4.heap.size := by omega
      have SR4 := Lib.hid sr4
      clear sr4 hb4 B3
      go_wp2_with fail
      refine (K3.out _ sg).mono ?_
      rintro e w5 ⟨S5, F5, rfl, mt5, hb5⟩
      have B5 := B4.trans (hb5.mono Z4)
      clear q0 q1 sg Z4
      obtain ⟨q0, q1, Z5, sg, H5⟩ := HK.out _ B5
      have z5 : w.heap.size < w5.heap.size := by omega
      have sr5 := sr_mt (q := FloydAll.q) (fun _ => rfl) mt5
      have SR4' := Lib.hid ((SR4.out.keep hb5 (Nat.le_refl _)).more hb5.size)
      have SR5 := Lib.hid sr5
      clear sr5 mt5 hb5 B4 H4 z4 SR4
      go_wp2_with fail
      refine (K4.out _ _ _ _ _ _ SR4'.out SR5.out).mono ?_
      rintro e w6 ⟨rfl, n6, rfl⟩
      have SR6 := Lib.hid ((SR4'.out.keep (below_drewN (Below.refl _ _) n6) (Nat.le_refl _)).more (show w5.heap.size ≤ (w5.drewN n6).heap.size from Nat.le_refl _))
      have B6 := below_drewN B5 n6
      clear SR4' SR5 q0 q1 Z5 sg H5 z5 B5
      generalize w5.drewN n6 = w6 at *
      obtain ⟨q0, q1, Z6, sg, H6⟩ := HK.out _ B6
      have z6 : w.heap.size < w6.heap.size := by omega
      clear H6
      go_wp2_with fail
      refine (K5.out _ sg).mono ?_
      rintro e w7 ⟨rfl, hb7⟩
      have B7 := B6.trans (hb7.mono Z6)
      clear q0 q1 sg Z6
      obtain ⟨q0, q1, Z7, sg, H7⟩ := HK.out _ B7
      have z7 : w.heap.size < w7.heap.size := by omega
      clear hb7 SR6 B6 z6 sg
      go_wp2
      go_ret
      exact ⟨rfl, H7⟩
  · have k2 := fun W h => john_no N A c l hnil hll hx W h
    have k3 := fun W h => no_of N A c l hll hx W h
    have k4 := fun W => same_rows none none 0 0 0 0 [] [] 0 0 W Sr.nil Sr.nil rfl rfl (by decide) (by simp) true (by decide)
    have k5 := fun W h => bell_some N A c l a hll W h
    have hne : (aerr N l != 0) = true := by rw [bne_iff_ne]; exact hx
    generalize aerr N l = x at *
    have hxx : (x != x) = false := by simp
    have K2 := Lib.hid k2
    have K3 := Lib.hid k3
    have K4 := Lib.hid k4
    have K5 := Lib.hid k5
    clear k2 k3 k4 k5 hnil hx ha
    go_enter Try.func9, Try.ntmps9
    go_wp2_with fail
    refine (two_any _).mono ?_
    rintro e w1 ⟨g, rfl, own1, hb1⟩
    have B1 : Below (w.heap.size + 1) (w.alloc (.cells #[.int .i64 N, .slice A l.length c] 24)) w1 := hb1.mono (by simp)
    have Z1 : w.heap.size + 1 ≤ w1.heap.size := by have := hb1.size; simp at this; omega
    clear hb1
    go_wp2_with fail
    refine (KEY0.out _ _ own1.sl.2).mono ?_
    rintro e w2 ⟨S2, C2, rfl, sr2, hb2⟩
    have B2 := B1.trans (hb2.mono Z1)
    have Z2 : w.heap.size + 1 ≤ w2.heap.size := by have := hb2.size; omega
    have SR2 := Lib.hid sr2
    clear hb2 own1 B1 Z1 sr2
    go_wp2_with fail
    refine (KEY1.out _ _ _ _ _ _ ((SR2.out).keep ((((Below.refl _ _).alloc (Nat.le_refl _) _).alloc (by simp) _).alloc (by simp; omega) _) (Nat.le_refl _)) (sr_lit w2 3 25 #[.int .i64 0, .int .i64 5] #[.int .i64 1099511627776, .int .i64 0] [0, 5] [far, 0] 2 2 rfl rfl rfl rfl rfl rfl rfl)).mono ?_
    rintro e w3 ⟨rfl, n3, rfl⟩
    have B3 := below_drewN (((B2.alloc Z2 (.cells #[.int .i64 0, .int .i64 5] 3)).alloc (by simp; omega) (.cells #[.int .i64 1099511627776, .int .i64 0] 3)).alloc (by simp; omega) (.cells #[.slice (some ⟨w2.heap.size, 0, none⟩) 2 2, .slice (some ⟨w2.heap.size + 1, 0, none⟩) 2 2] 25)) n3
    have Z3 : w.heap.size + 1 ≤ (((w2.alloc (.cells #[.int .i64 0, .int .i64 5] 3)).alloc (.cells #[.int .i64 1099511627776, .int .i64 0] 3)).alloc (.cells #[.slice (some ⟨w2.heap.size, 0, none⟩) 2 2, .slice (some ⟨w2.heap.size + 1, 0, none⟩) 2 2] 25)).heap.size := by simp; omega
    generalize (((w2.alloc (.cells #[.int .i64 0, .int .i64 5] 3)).alloc (.cells #[.int .i64 1099511627776, .int .i64 0] 3)).alloc (.cells #[.slice (some ⟨w2.heap.size, 0, none⟩) 2 2, .slice (some ⟨w2.heap.size + 1, 0, none⟩) 2 2] 25)) = w3 at B3 Z3 ⊢
    clear SR2 B2 Z2
    have z3 : w.heap.size < w3.heap.size := by omega
    have H3 := hw0.trans (B3.mono (Nat.le_succ _))
    obtain ⟨cc3, _⟩ := keepAt B3 (Nat.lt_succ_self _)
    have q0 := cc3 0
    have q1 := cc3 1
    simp at q0 q1
    clear cc3
    have sg := (HK.out _ B3).2.2.2.1
    clear H3 z3
    go_wp2_with fail
    refine (K2.out _ sg).mono ?_
    rintro e w4 ⟨rfl, hb4⟩
    have B4 := B3.trans (hb4.mono Z3)
    clear q0 q1 sg Z3
    obtain ⟨q0, q1, Z4, sg, H4⟩ := HK.out _ B4
    have z4 : w.heap.size < w4.heap.size := by omega
    clear hb4 B3
    go_wp2_with fail
    refine (K3.out _ sg).mono ?_
    rintro e w5 ⟨rfl, hb5⟩
    have B5 := B4.trans (hb5.mono Z4)
    clear q0 q1 sg Z4
    obtain ⟨q0, q1, Z5, sg, H5⟩ := HK.out _ B5
    have z5 : w.heap.size < w5.heap.size := by omega
    clear hb5 B4 H4 z4
    go_wp2_with fail
    refine (K4.out _).mono ?_
    rintro e w6 ⟨rfl, n6, rfl⟩
    have B6 := below_drewN B5 n6
    clear q0 q1 Z5 sg H5 z5 B5
    generalize w5.drewN n6 = w6 at *
    obtain ⟨q0, q1, Z6, sg, H6⟩ := HK.out _ B6
    have z6 : w.heap.size < w6.heap.size := by omega
    clear H6
    go_wp2_with fail
    refine (K5.out _ sg).mono ?_
    rintro e w7 ⟨A7, n7, c7, x7, rfl, hb7⟩
    have B7 := B6.trans (hb7.mono Z6)
    clear q0 q1 sg Z6
    obtain ⟨q0, q1, Z7, sg, H7⟩ := HK.out _ B7
    have z7 : w.heap.size < w7.heap.size := by omega
    clear hb7 B6 z6 sg
    go_wp2
    go_ret
    exact ⟨rfl, H7⟩

theorem own : ownKnob Try.prog.godebug = none := by kernel_rfl
theorem laidOut : laidOutB Try.prog = true := by kernel_rfl

set_option maxRecDepth 100000 in
theorem lifted (os : Os) (started : os.Started) (H : Type) (enc : TypeId × Value → H) :
    ReturnsInHanded {} Try.checked os 9 .any (Rows.johnSameSpec.pre6 enc Try.prog Try.f9 Rows.johnSameRow.domain false) (Rows.johnSameSpec.post enc Try.prog Try.f9 false true false false) := by
  refine returnsInHanded_of_change (C := Try.checked) own started (by kernel_rfl) Try.func9
    (ChangeSpec.witness6 (enc := enc) (C := Try.checked) false ⟨#[], #[.agg #[.int .i64 0, .slice none 0 0], .int .i64 0], []⟩ 8 (by kernel_rfl) (by kernel_rfl) (by kernel_rfl) (by kernel_rfl)) ?_
  intro W base args ds gs before hval0 hW hcnd _
  have hval : ∀ (j : Nat) t v, Try.f9.params[j]? = some t → args[j]? = some v → Value.okWide Try.prog W .any base t v := hval0
  have hW' := hW
  obtain ⟨p, q, hA0, hV, rfl, hfz, hnd⟩ := hW
  have hA : DataW.TrodAll enc Try.prog W 0 (fun _ => true) true Try.f9.params.toList args.toList ds p := hA0
  rw [Try.params9] at hA hval
  obtain ⟨v0, vs0, d0, ds0, p0, q0, hargs, rfl, rfl, h0, r0⟩ := trodAll_cons hA
  obtain ⟨v1, vs1, d1, ds1, p1, q1, rfl, rfl, rfl, h1, r1⟩ := trodAll_cons r0
  obtain ⟨rfl, rfl, rfl⟩ := trodAll_nil r1
  obtain rfl : args = #[v0, v1] := by cases args; simp_all
  obtain ⟨rfl, rfl⟩ := trodVars_none hV
  obtain ⟨N0, A0, c0, l0, dd0, rfl, hN0, hG0, hb0, rfl, hd0⟩ := open_net Try.underlying24 (by kernel_rfl) (by kernel_rfl) Try.underlying3 Try.underlying22 Try.underlying60 (by kernel_rfl) (by kernel_rfl) Try.underlying3 Try.underlying3 Try.underlying3 (hval 0 24 v0 rfl rfl) h0
  obtain ⟨a1, rfl, rfl, rfl, wa1⟩ := open_int Try.underlying3 (hval 1 3 v1 rfl rfl) h1
  refine (walk W N0 A0 c0 l0 hG0 a1 (wf_bd wa1)).mono fun e W' ⟨he, hB⟩ => ?_
  subst he
  exact ⟨_, rfl, post_of_law laidOut rfl Try.underlying4 rfl (by intro t ht; rw [Try.params9] at ht; simp at ht; rcases ht with rfl | rfl <;> exact ⟨by kernel_rfl, of_decide_eq_true (by kernel_rfl)⟩) hW' rfl hB⟩

theorem holds : Rows.JohnSameSaid :=
  OpenClaim.holds_of_wide 9 Try.f9 rfl rfl rfl rfl rfl rfl rfl ⟨rfl, rfl, rfl, rfl, rfl⟩ rfl rfl rfl rfl rfl (by kernel_rfl) Try.func9 (by kernel_rfl)
    (of_decide_eq_true (by kernel_rfl)) (by unfold Func.isWrapper; first | (rw [if_pos (by decide +kernel)]; kernel_rfl) | (rw [if_neg (by decide +kernel)]; exact ⟨rfl, rfl⟩))
    (fun os started H enc _ => lifted os started H enc)
#print axioms holds
end Go.Proofs.Ytdpjbjgecmnmnaa.JohnSameLaw
