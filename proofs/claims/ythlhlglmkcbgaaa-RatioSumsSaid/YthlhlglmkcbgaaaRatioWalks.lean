/- The walks of package ratio: what each function answers. -/
import Derived.Test.YthlhlglmkcbgaaaKit
import Derived.Test.YthlhlglmkcbgaaaRatioLaw
namespace Go.Proofs.Ythlhlglmkcbgaaa.Ratio
open Go.RowKit Go.Proofs.Ythlhlglmkcbgaaa RatioLaw
set_option linter.unusedSimpArgs false
set_option linter.unusedVariables false

theorem tdiv_of {a b : Int} {g : Nat} (h : g = Int.gcd a b) : a.tdiv (g : Int) = a / (g : Int) := by
  subst h
  exact Int.tdiv_eq_ediv_of_dvd (Int.gcd_dvd_left a b)

set_option maxHeartbeats 400000 in
theorem gcd_any (a b : Int) (w : World) (ha : -4000000000000 ≤ a) (ha' : a ≤ 4000000000000) (hb : -4000000000000 ≤ b) (hb' : b ≤ 4000000000000) :
    Calls Try.prog 66 #[.int .i64 a, .int .i64 b] w fun e w' => e = .returned (.int .i64 (Int.gcd a b)) ∧ ∃ n, w' = w.drewN n := by
  go_enter Try.func66, Try.ntmps66
  go_wp2
  go_loopw [0, 1] (fun x y wr => ∃ a' b' : Int, x = .int .i64 a' ∧ y = .int .i64 b' ∧ -4000000000000 ≤ a' ∧ a' ≤ 4000000000000 ∧ -4000000000000 ≤ b' ∧ b' ≤ 4000000000000 ∧ Int.gcd a' b' = Int.gcd a b ∧ ∃ n, wr = w.drewN n) (fun _ y _ => (intOf y).natAbs)
  case atStart => exact ⟨a, b, rfl, rfl, ha, ha', hb, hb', rfl, 0, rfl⟩
  case round =>
    obtain ⟨a', b', rfl, rfl, h1, h2, h3, h4, hg, n, rfl⟩ := hrel
    have HG := Lib.hid hg
    clear hg
    by_cases hz : b' = 0
    · subst hz
      go_wp2
      all_goals
        go_ret
        exact ⟨ret_int (by have := HG.out; rw [Int.gcd_zero_right] at this; omega), n, rfl⟩
    · go_wp2
      go_quiet (fail)
      go_wp2
      go_roundw
      case rel =>
        have ht := tmod_lt a' hz
        exact ⟨b', a'.tmod b', rfl, rfl, h3, h4, by omega, by omega, by rw [gcd_tmod]; exact HG.out, n + nq, World.drewN_drewN _ _ _⟩
      case measure => exact tmod_lt a' hz

set_option maxHeartbeats 400000 in
theorem within_any (a : Int) (r : Bool) (w : World) (hr : decide (-1000000 ≤ a ∧ a ≤ 1000000) = r) :
    Calls Try.prog 45 #[.int .i64 a] w fun e w' => e = .returned (.bool r) ∧ w = w' := by
  subst hr
  by_cases h1 : -1000000 ≤ a
  · by_cases h2 : a ≤ 1000000
    · go_enter Try.func45, Try.ntmps45
      go_wp2
      go_ret
      exact ⟨by simp [h1, h2], rfl⟩
    · go_enter Try.func45, Try.ntmps45
      go_wp2
      go_ret
      exact ⟨by simp; omega, rfl⟩
  · go_enter Try.func45, Try.ntmps45
    go_wp2
    go_ret
    exact ⟨by simp; omega, rfl⟩

set_option maxHeartbeats 400000 in
theorem least_any (a b : Int) (w : World) (ha : -2000000000000 ≤ a) (ha' : a ≤ 2000000000000) (hb : 1 ≤ b) (hb' : b ≤ 1000000000000) :
    Calls Try.prog 46 #[.int .i64 a, .int .i64 b] w fun e w' => e = .returned (.agg #[.int .i64 (a / (Int.gcd a b : Int)), .int .i64 (b / (Int.gcd a b : Int))]) ∧ Below w.heap.size w w' := by
  have hp := gcd_pos (n := a) hb
  have hl := gcd_le (n := a) hb
  have hnn : (0 : Int) ≤ (Int.gcd a b : Int) := by omega
  obtain ⟨g, hg⟩ : ∃ g : Nat, g = Int.gcd a b := ⟨_, rfl⟩
  rw [← hg] at hp hl hnn ⊢
  have HG := Lib.hid hg
  clear hg
  go_enter Try.func46, Try.ntmps46
  go_wp2_with (go_at_call 66; refine (gcd_any _ _ _ (by omega) (by omega) (by omega) (by omega)).mono ?_; rintro e w' ⟨rfl, n, rfl⟩; rw [← HG.out])
  go_region
  go_wp2
  refine bodyPost_ret (v := .agg #[.int .i64 (a / (g : Int)), .int .i64 (b / (g : Int))]) (by simp [results, Try.results46, go_sem, tdiv_of HG.out]) rfl ⟨rfl, ?_⟩
  exact ((below_drewN ((Below.refl _ _).alloc (Nat.le_refl _) _) _).setCell (by simp) _).setCell (by simp) _

set_option maxHeartbeats 400000 in
theorem make_yes (a b : Int) (w : World) (h1 : -1000000 ≤ a) (h2 : a ≤ 1000000) (h3 : 1 ≤ b) (h4 : b ≤ 1000000) :
    Calls Try.prog 17 #[.int .i64 a, .int .i64 b] w fun e w' => e = .returned (.tuple #[.agg #[.int .i64 (a / (Int.gcd a b : Int)), .int .i64 (b / (Int.gcd a b : Int))], .int .i64 0]) ∧ Below w.heap.size w w' := by
  go_enter Try.func17, Try.ntmps17
  go_wp2_with (first
    | (go_at_call 45; refine (within_any _ true _ (by simp; omega)).mono ?_; rintro e w' ⟨rfl, rfl⟩)
    | (go_at_call 46; refine (least_any _ _ _ (by omega) (by omega) (by omega) (by omega)).mono ?_; rintro e w1 ⟨rfl, hb⟩; obtain ⟨hc, hf⟩ := bcell hb; have hz : w.heap.size < w1.heap.size := by have := hb.size; simp at this; omega))
  refine bodyPost_ret (v := .tuple #[.agg #[.int .i64 (a / (Int.gcd a b : Int)), .int .i64 (b / (Int.gcd a b : Int))], .int .i64 0]) (by simp [results, Try.results17, go_sem, hc, hf, hz]) rfl ⟨rfl, ?_⟩
  exact ((((Below.refl _ _).alloc (Nat.le_refl _) _).trans (hb.mono (by simp))).setCell (by simp) _).setCell (by simp) _

set_option maxHeartbeats 400000 in
theorem make_no (a b : Int) (w : World) (h : ¬ (-1000000 ≤ a ∧ a ≤ 1000000 ∧ 1 ≤ b ∧ b ≤ 1000000)) :
    Calls Try.prog 17 #[.int .i64 a, .int .i64 b] w fun e w' => e = .returned (.tuple #[.agg #[.int .i64 0, .int .i64 0], .int .i64 1]) ∧ Below w.heap.size w w' := by
  by_cases h1 : b < 1
  · clear h
    go_enter Try.func17, Try.ntmps17
    go_wp2
    refine bodyPost_ret (v := .tuple #[.agg #[.int .i64 0, .int .i64 0], .int .i64 1]) (by simp [results, Try.results17, go_sem]) rfl ⟨rfl, ?_⟩
    exact ((Below.refl _ _).alloc (Nat.le_refl _) _)
  · by_cases h2 : -1000000 ≤ a ∧ a ≤ 1000000
    · have h3 : ¬ (b ≤ 1000000) := by omega
      clear h
      go_enter Try.func17, Try.ntmps17
      go_wp2_with fail
      refine (within_any _ true _ (by simp; omega)).mono ?_
      rintro e w' ⟨rfl, rfl⟩
      go_wp2_with fail
      refine (within_any _ false _ (by simp; omega)).mono ?_
      rintro e w' ⟨rfl, rfl⟩
      go_wp2
      refine bodyPost_ret (v := .tuple #[.agg #[.int .i64 0, .int .i64 0], .int .i64 1]) (by simp [results, Try.results17, go_sem]) rfl ⟨rfl, ?_⟩
      exact ((Below.refl _ _).alloc (Nat.le_refl _) _)
    · clear h
      go_enter Try.func17, Try.ntmps17
      go_wp2_with (go_at_call 45; refine (within_any _ false _ (by simp; omega)).mono ?_; rintro e w' ⟨rfl, rfl⟩)
      refine bodyPost_ret (v := .tuple #[.agg #[.int .i64 0, .int .i64 0], .int .i64 1]) (by simp [results, Try.results17, go_sem]) rfl ⟨rfl, ?_⟩
      exact ((Below.refl _ _).alloc (Nat.le_refl _) _)


set_option maxHeartbeats 400000 in
theorem check_yes (a b : Int) (w : World) (h : Ok a b) :
    Calls Try.prog 28 #[.agg #[.int .i64 a, .int .i64 b]] w fun e w' => e = .returned (.int .i64 0) ∧ Below w.heap.size w w' := by
  obtain ⟨h1, h2, h3, h4, h5⟩ := h
  have key := fun W => make_yes a b W h3 h4 h1 h2
  rw [h5] at key
  simp only [Int.natCast_one, Int.ediv_one] at key
  have KEY := Lib.hid key
  clear key h5
  go_enter Try.func28, Try.ntmps28
  go_wp2_with fail
  refine (KEY.out _).mono ?_
  rintro e w1 ⟨rfl, hb⟩
  obtain ⟨hc, hf, _⟩ := bafter hb
  have hz : w.heap.size < w1.heap.size := by have := hb.size; simp at this; omega
  have hB : Below w.heap.size w w1 := ((Below.refl _ _).alloc (Nat.le_refl _) _).trans (hb.mono (by simp))
  go_wp2
  go_ret
  exact ⟨rfl, hB.alloc hB.size _⟩

set_option maxHeartbeats 400000 in
theorem check_no (a b : Int) (w : World) (h : ¬ Ok a b) :
    Calls Try.prog 28 #[.agg #[.int .i64 a, .int .i64 b]] w fun e w' => e = .returned (.int .i64 3) ∧ Below w.heap.size w w' := by
  by_cases h' : -1000000 ≤ a ∧ a ≤ 1000000 ∧ 1 ≤ b ∧ b ≤ 1000000
  · have hg : Int.gcd a b ≠ 1 := fun hg => h ⟨h'.2.2.1, h'.2.2.2, h'.1, h'.2.1, hg⟩
    have hp := gcd_pos (n := a) h'.2.2.1
    have key := fun W => make_yes a b W h'.1 h'.2.1 h'.2.2.1 h'.2.2.2
    have hne : (b / (Int.gcd a b : Int) == b) = false := by
      rw [beq_eq_false_iff_ne]
      intro he
      have hl := (lowest (n := a) h'.2.2.1).2.2.2
      rw [he] at hl
      have : b * (Int.gcd a b : Int) = b * 1 := by omega
      have := Int.eq_of_mul_eq_mul_left (by omega) this
      omega
    have KEY := Lib.hid key
    clear key h hg
    generalize a / (Int.gcd a b : Int) = a1 at KEY
    generalize b / (Int.gcd a b : Int) = b1 at KEY hne
    clear hp
    go_enter Try.func28, Try.ntmps28
    go_wp2_with fail
    refine (KEY.out _).mono ?_
    rintro e w1 ⟨rfl, hb⟩
    obtain ⟨hc, hf, _⟩ := bafter hb
    have hz : w.heap.size < w1.heap.size := by have := hb.size; simp at this; omega
    have hB : Below w.heap.size w w1 := ((Below.refl _ _).alloc (Nat.le_refl _) _).trans (hb.mono (by simp))
    go_wp2
    go_ret
    exact ⟨rfl, hB.alloc hB.size _⟩
  · go_enter Try.func28, Try.ntmps28
    go_wp2_with fail
    refine (make_no _ _ _ h').mono ?_
    rintro e w1 ⟨rfl, hb⟩
    obtain ⟨hc, hf, _⟩ := bafter hb
    have hz : w.heap.size < w1.heap.size := by have := hb.size; simp at this; omega
    have hB : Below w.heap.size w w1 := ((Below.refl _ _).alloc (Nat.le_refl _) _).trans (hb.mono (by simp))
    clear h h'
    go_wp2
    go_ret
    exact ⟨rfl, hB.alloc hB.size _⟩

set_option maxHeartbeats 400000 in
theorem both_yes (a b c d : Int) (w : World) (h : Ok a b) (k : Ok c d) :
    Calls Try.prog 47 #[.agg #[.int .i64 a, .int .i64 b], .agg #[.int .i64 c, .int .i64 d]] w fun e w' => e = .returned (.int .i64 0) ∧ Below w.heap.size w w' := by
  go_enter Try.func47, Try.ntmps47
  go_wp2_with fail
  refine (check_yes _ _ _ h).mono ?_
  rintro e w1 ⟨rfl, hb⟩
  obtain ⟨hc, hf, _⟩ := bafter hb
  have hz : w.heap.size + 1 < w1.heap.size := by have := hb.size; simp at this; omega
  have hB : Below w.heap.size w w1 := (((Below.refl _ _).alloc (Nat.le_refl _) _).alloc (by simp) _).trans (hb.mono (by simp; omega))
  go_wp2_with fail
  refine (check_yes _ _ _ k).mono ?_
  rintro e w2 ⟨rfl, hb2⟩
  go_wp2
  go_ret
  exact ⟨rfl, hB.trans (hb2.mono (by omega))⟩

set_option maxHeartbeats 400000 in
theorem both_no (a b c d : Int) (w : World) (h : ¬ (Ok a b ∧ Ok c d)) :
    Calls Try.prog 47 #[.agg #[.int .i64 a, .int .i64 b], .agg #[.int .i64 c, .int .i64 d]] w fun e w' => e = .returned (.int .i64 3) ∧ Below w.heap.size w w' := by
  by_cases h1 : Ok a b
  · have h2 : ¬ Ok c d := fun k => h ⟨h1, k⟩
    clear h
    go_enter Try.func47, Try.ntmps47
    go_wp2_with fail
    refine (check_yes _ _ _ h1).mono ?_
    rintro e w1 ⟨rfl, hb⟩
    obtain ⟨hc, hf, _⟩ := bafter hb
    have hz : w.heap.size + 1 < w1.heap.size := by have := hb.size; simp at this; omega
    have hB : Below w.heap.size w w1 := (((Below.refl _ _).alloc (Nat.le_refl _) _).alloc (by simp) _).trans (hb.mono (by simp; omega))
    go_wp2_with fail
    refine (check_no _ _ _ h2).mono ?_
    rintro e w2 ⟨rfl, hb2⟩
    go_wp2
    go_ret
    exact ⟨rfl, hB.trans (hb2.mono (by omega))⟩
  · clear h
    go_enter Try.func47, Try.ntmps47
    go_wp2_with fail
    refine (check_no _ _ _ h1).mono ?_
    rintro e w1 ⟨rfl, hb⟩
    obtain ⟨hc, hf, _⟩ := bafter hb
    have hz : w.heap.size + 1 < w1.heap.size := by have := hb.size; simp at this; omega
    have hB : Below w.heap.size w w1 := (((Below.refl _ _).alloc (Nat.le_refl _) _).alloc (by simp) _).trans (hb.mono (by simp; omega))
    go_wp2
    go_ret
    exact ⟨rfl, hB⟩

set_option maxHeartbeats 400000 in
theorem cmp_yes (a b c d : Int) (w : World) (h : Ok a b) (k : Ok c d) :
    Calls Try.prog 18 #[.agg #[.int .i64 a, .int .i64 b], .agg #[.int .i64 c, .int .i64 d]] w fun e w' => e = .returned (.tuple #[.int .i64 (cm a b c d), .int .i64 0]) ∧ Below w.heap.size w w' := by
  obtain ⟨b1, b2⟩ := prod_bd h.2.2.1 h.2.2.2.1 (d := d) (by have := k.1; omega) k.2.1
  obtain ⟨b3, b4⟩ := prod_bd k.2.2.1 k.2.2.2.1 (d := b) (by have := h.1; omega) h.2.1
  rcases (show a * d < c * b ∨ c * b < a * d ∨ a * d = c * b from by omega) with t | t | t
  · have hfin : cm a b c d = -1 := by rw [cm, if_pos t]
    rw [hfin]
    clear hfin
    go_enter Try.func18, Try.ntmps18
    go_wp2_with fail
    refine (both_yes _ _ _ _ _ h k).mono ?_
    rintro e w1 ⟨rfl, hb⟩
    obtain ⟨hc, hf, _⟩ := bafter hb
    have hz : w.heap.size + 1 < w1.heap.size := by have := hb.size; simp at this; omega
    have hB : Below w.heap.size w w1 := (((Below.refl _ _).alloc (Nat.le_refl _) _).alloc (by simp) _).trans (hb.mono (by simp; omega))
    go_wp2
    go_quiet (fail)
    go_wp2
    go_ret2
    exact ⟨rfl, below_drewN hB _⟩
  · have hfin : cm a b c d = 1 := by rw [cm, if_neg (by omega), if_pos t]
    rw [hfin]
    clear hfin
    go_enter Try.func18, Try.ntmps18
    go_wp2_with fail
    refine (both_yes _ _ _ _ _ h k).mono ?_
    rintro e w1 ⟨rfl, hb⟩
    obtain ⟨hc, hf, _⟩ := bafter hb
    have hz : w.heap.size + 1 < w1.heap.size := by have := hb.size; simp at this; omega
    have hB : Below w.heap.size w w1 := (((Below.refl _ _).alloc (Nat.le_refl _) _).alloc (by simp) _).trans (hb.mono (by simp; omega))
    go_wp2
    go_quiet (fail)
    go_wp2
    go_ret2
    exact ⟨rfl, below_drewN hB _⟩
  · have hfin : cm a b c d = 0 := by rw [cm, if_neg (by omega), if_neg (by omega)]
    rw [hfin]
    have t1 : ¬ a * d < c * b := by omega
    have t2 : ¬ c * b < a * d := by omega
    clear hfin t
    go_enter Try.func18, Try.ntmps18
    go_wp2_with fail
    refine (both_yes _ _ _ _ _ h k).mono ?_
    rintro e w1 ⟨rfl, hb⟩
    obtain ⟨hc, hf, _⟩ := bafter hb
    have hz : w.heap.size + 1 < w1.heap.size := by have := hb.size; simp at this; omega
    have hB : Below w.heap.size w w1 := (((Below.refl _ _).alloc (Nat.le_refl _) _).alloc (by simp) _).trans (hb.mono (by simp; omega))
    go_wp2
    go_quiet (fail)
    go_wp2
    go_ret2
    exact ⟨rfl, below_drewN hB _⟩

set_option maxHeartbeats 400000 in
theorem cmp_no (a b c d : Int) (w : World) (h : ¬ (Ok a b ∧ Ok c d)) :
    Calls Try.prog 18 #[.agg #[.int .i64 a, .int .i64 b], .agg #[.int .i64 c, .int .i64 d]] w fun e w' => e = .returned (.tuple #[.int .i64 0, .int .i64 3]) ∧ Below w.heap.size w w' := by
  go_enter Try.func18, Try.ntmps18
  go_wp2_with fail
  refine (both_no _ _ _ _ _ h).mono ?_
  rintro e w1 ⟨rfl, hb⟩
  have hB : Below w.heap.size w w1 := (((Below.refl _ _).alloc (Nat.le_refl _) _).alloc (by simp) _).trans (hb.mono (by simp; omega))
  clear h
  go_wp2
  go_ret2
  exact ⟨rfl, hB⟩

set_option maxHeartbeats 400000 in
theorem floor_yes (a b : Int) (w : World) (h : Ok a b) :
    Calls Try.prog 16 #[.agg #[.int .i64 a, .int .i64 b]] w fun e w' => e = .returned (.tuple #[.int .i64 (a / b), .int .i64 0]) ∧ Below w.heap.size w w' := by
  have hfin := floor_go (n := a) h.1
  have hl : (a.tdiv b).natAbs ≤ a.natAbs := by rw [Int.natAbs_tdiv]; exact Nat.div_le_self _ _
  have g1 : 1 ≤ b := h.1
  have g2 : a ≤ 1000000 := h.2.2.2.1
  have g3 : -1000000 ≤ a := h.2.2.1
  have g4 : -1000000 ≤ a.tdiv b := by omega
  have g5 : a.tdiv b ≤ 1000000 := by omega
  have g6 : (b == 0) = false := by rw [beq_eq_false_iff_ne]; omega
  clear hl
  have HF := Lib.hid hfin
  clear hfin
  by_cases t : a.tmod b < 0
  · go_enter Try.func16, Try.ntmps16
    go_wp2_with fail
    refine (check_yes _ _ _ h).mono ?_
    rintro e w1 ⟨rfl, hb⟩
    obtain ⟨hc, hf, _⟩ := bafter hb
    have hz : w.heap.size < w1.heap.size := by have := hb.size; simp at this; omega
    have hB : Below w.heap.size w w1 := ((Below.refl _ _).alloc (Nat.le_refl _) _).trans (hb.mono (by simp))
    go_wp2
    go_ret2
    have e2 := HF.out
    rw [if_pos t] at e2
    exact ⟨congrArg (fun z => Ending.returned (.tuple #[.int .i64 z, .int .i64 0])) e2, hB⟩
  · go_enter Try.func16, Try.ntmps16
    go_wp2_with fail
    refine (check_yes _ _ _ h).mono ?_
    rintro e w1 ⟨rfl, hb⟩
    obtain ⟨hc, hf, _⟩ := bafter hb
    have hz : w.heap.size < w1.heap.size := by have := hb.size; simp at this; omega
    have hB : Below w.heap.size w w1 := ((Below.refl _ _).alloc (Nat.le_refl _) _).trans (hb.mono (by simp))
    go_wp2
    go_ret2
    have e2 := HF.out
    rw [if_neg (by omega)] at e2
    exact ⟨congrArg (fun z => Ending.returned (.tuple #[.int .i64 z, .int .i64 0])) e2, hB⟩

set_option maxHeartbeats 400000 in
theorem floor_no (a b : Int) (w : World) (h : ¬ Ok a b) :
    Calls Try.prog 16 #[.agg #[.int .i64 a, .int .i64 b]] w fun e w' => e = .returned (.tuple #[.int .i64 0, .int .i64 3]) ∧ Below w.heap.size w w' := by
  go_enter Try.func16, Try.ntmps16
  go_wp2_with fail
  refine (check_no _ _ _ h).mono ?_
  rintro e w1 ⟨rfl, hb⟩
  have hB : Below w.heap.size w w1 := ((Below.refl _ _).alloc (Nat.le_refl _) _).trans (hb.mono (by simp))
  clear h
  go_wp2
  go_ret2
  exact ⟨rfl, hB⟩

set_option maxHeartbeats 400000 in
theorem ceil_yes (a b : Int) (w : World) (h : Ok a b) :
    Calls Try.prog 15 #[.agg #[.int .i64 a, .int .i64 b]] w fun e w' => e = .returned (.tuple #[.int .i64 (-(-a / b)), .int .i64 0]) ∧ Below w.heap.size w w' := by
  have g1 : 1 ≤ b := h.1
  have g2 : a ≤ 1000000 := h.2.2.2.1
  have g3 : -1000000 ≤ a := h.2.2.1
  have g4 := (halves h.neg)
  have g5 : -1000000 ≤ -a / b := by
    refine Int.le_ediv_of_mul_le (by omega) ?_
    omega
  have g6 : -a / b ≤ 1000000 := by
    refine Int.ediv_le_of_le_mul (by omega) ?_
    omega
  clear g4
  obtain ⟨q, hq⟩ : ∃ q, q = -a / b := ⟨_, rfl⟩
  have key := fun W => floor_yes (-a) b W h.neg
  rw [← hq] at key g5 g6 ⊢
  have KEY := Lib.hid key
  clear key hq
  go_enter Try.func15, Try.ntmps15
  go_wp2_with fail
  refine (KEY.out _).mono ?_
  rintro e w1 ⟨rfl, hb⟩
  have hB : Below w.heap.size w w1 := ((Below.refl _ _).alloc (Nat.le_refl _) _).trans (hb.mono (by simp))
  go_wp2
  go_ret2
  exact ⟨rfl, hB⟩

set_option maxHeartbeats 400000 in
theorem ceil_no (a b : Int) (w : World) (h : ¬ Ok a b) (ha : -9223372036854775808 ≤ a) (ha' : a ≤ 9223372036854775807) :
    Calls Try.prog 15 #[.agg #[.int .i64 a, .int .i64 b]] w fun e w' => e = .returned (.tuple #[.int .i64 0, .int .i64 3]) ∧ Below w.heap.size w w' := by
  have h' : ¬ Ok (wrap64 (-a)) b := by
    intro k
    by_cases e : a = -9223372036854775808
    · subst e
      have := k.2.2.1
      unfold wrap64 at this
      omega
    · refine h (Ok.neg_iff.1 ?_)
      have : wrap64 (-a) = -a := by unfold wrap64; omega
      rwa [this] at k
  clear ha ha' h
  go_enter Try.func15, Try.ntmps15
  go_wp2_with fail
  refine (floor_no _ _ _ h').mono ?_
  rintro e w1 ⟨rfl, hb⟩
  have hB : Below w.heap.size w w1 := ((Below.refl _ _).alloc (Nat.le_refl _) _).trans (hb.mono (by simp))
  clear h'
  go_wp2
  go_ret2
  exact ⟨rfl, hB⟩

set_option maxHeartbeats 400000 in
theorem fits_any (a b : Int) (w : World) (ha : -2000000000000 ≤ a) (ha' : a ≤ 2000000000000) (hb : 1 ≤ b) (hb' : b ≤ 1000000000000) :
    Calls Try.prog 48 #[.int .i64 a, .int .i64 b] w fun e w' => e = .returned (.tuple #[.agg #[.int .i64 (ft a b).1, .int .i64 (ft a b).2.1], .int .i64 (ft a b).2.2]) ∧ Below w.heap.size w w' := by
  have key := fun W => least_any a b W ha ha' hb hb'
  have hpos := (lowest (n := a) hb).2.1
  have hft : ft a b = if -1000000 ≤ a / (Int.gcd a b : Int) ∧ a / (Int.gcd a b : Int) ≤ 1000000 ∧ b / (Int.gcd a b : Int) ≤ 1000000 then (a / (Int.gcd a b : Int), b / (Int.gcd a b : Int), 0) else (0, 0, 2) := rfl
  have KEY := Lib.hid key
  rw [hft]
  clear key hft
  generalize a / (Int.gcd a b : Int) = x at *
  generalize b / (Int.gcd a b : Int) = y at *
  clear ha ha' hb hb'
  by_cases h1 : -1000000 ≤ x ∧ x ≤ 1000000
  · by_cases h2 : y ≤ 1000000
    · rw [if_pos ⟨h1.1, h1.2, h2⟩]
      go_enter Try.func48, Try.ntmps48
      go_wp2_with fail
      refine (KEY.out _).mono ?_
      rintro e w1 ⟨rfl, hb⟩
      obtain ⟨hc, hf, _⟩ := bafter hb
      have hz : w.heap.size < w1.heap.size := by have := hb.size; simp at this; omega
      have hB : Below w.heap.size w w1 := ((Below.refl _ _).alloc (Nat.le_refl _) _).trans (hb.mono (by simp))
      go_wp2_with fail
      refine (within_any _ true _ (by simp; omega)).mono ?_
      rintro e w' ⟨rfl, rfl⟩
      go_wp2_with fail
      refine (within_any _ true _ (by simp; omega)).mono ?_
      rintro e w' ⟨rfl, rfl⟩
      go_wp2
      refine bodyPost_ret (v := .tuple #[.agg #[.int .i64 x, .int .i64 y], .int .i64 0]) (by simp [results, Try.results48, go_sem, hc, hf, hz]) rfl ⟨rfl, ?_⟩
      repeat' first | exact hB | refine Below.setCell ?_ ?_ _ | refine Below.alloc ?_ ?_ _
      all_goals first | (simp; done) | (simp; omega)
    · rw [if_neg (by omega)]
      go_enter Try.func48, Try.ntmps48
      go_wp2_with fail
      refine (KEY.out _).mono ?_
      rintro e w1 ⟨rfl, hb⟩
      obtain ⟨hc, hf, _⟩ := bafter hb
      have hz : w.heap.size < w1.heap.size := by have := hb.size; simp at this; omega
      have hB : Below w.heap.size w w1 := ((Below.refl _ _).alloc (Nat.le_refl _) _).trans (hb.mono (by simp))
      go_wp2_with fail
      refine (within_any _ true _ (by simp; omega)).mono ?_
      rintro e w' ⟨rfl, rfl⟩
      go_wp2_with fail
      refine (within_any _ false _ (by simp; omega)).mono ?_
      rintro e w' ⟨rfl, rfl⟩
      go_wp2
      refine bodyPost_ret (v := .tuple #[.agg #[.int .i64 0, .int .i64 0], .int .i64 2]) (by simp [results, Try.results48, go_sem, hc, hf, hz]) rfl ⟨rfl, ?_⟩
      repeat' first | exact hB | refine Below.setCell ?_ ?_ _ | refine Below.alloc ?_ ?_ _
      all_goals first | (simp; done) | (simp; omega)
  · rw [if_neg (by omega)]
    go_enter Try.func48, Try.ntmps48
    go_wp2_with fail
    refine (KEY.out _).mono ?_
    rintro e w1 ⟨rfl, hb⟩
    obtain ⟨hc, hf, _⟩ := bafter hb
    have hz : w.heap.size < w1.heap.size := by have := hb.size; simp at this; omega
    have hB : Below w.heap.size w w1 := ((Below.refl _ _).alloc (Nat.le_refl _) _).trans (hb.mono (by simp))
    go_wp2_with fail
    refine (within_any _ false _ (by simp; omega)).mono ?_
    rintro e w' ⟨rfl, rfl⟩
    go_wp2
    refine bodyPost_ret (v := .tuple #[.agg #[.int .i64 0, .int .i64 0], .int .i64 2]) (by simp [results, Try.results48, go_sem, hc, hf, hz]) rfl ⟨rfl, ?_⟩
    repeat' first | exact hB | refine Below.setCell ?_ ?_ _ | refine Below.alloc ?_ ?_ _
    all_goals first | (simp; done) | (simp; omega)

set_option maxHeartbeats 400000 in
theorem add_any (a b c d : Int) (w : World) :
    Calls Try.prog 26 #[.agg #[.int .i64 a, .int .i64 b], .agg #[.int .i64 c, .int .i64 d]] w fun e w' => e = .returned (.tuple #[.agg #[.int .i64 (ad a b c d).1, .int .i64 (ad a b c d).2.1], .int .i64 (ad a b c d).2.2]) ∧ Below w.heap.size w w' := by
  by_cases h : Ok a b ∧ Ok c d
  · obtain ⟨h, k⟩ := h
    have hft : ad a b c d = ft (a * d + c * b) (b * d) := by rw [ad, if_pos ⟨h, k⟩]
    obtain ⟨b1, b2⟩ := prod_bd h.2.2.1 h.2.2.2.1 (d := d) (by have := k.1; omega) k.2.1
    obtain ⟨b3, b4⟩ := prod_bd k.2.2.1 k.2.2.2.1 (d := b) (by have := h.1; omega) h.2.1
    obtain ⟨b5, b6⟩ := pos_bd h.1 h.2.1 k.1 k.2.1
    have key := fun W => fits_any (a * d + c * b) (b * d) W (by omega) (by omega) b5 b6
    have KEY := Lib.hid key
    rw [hft]
    clear key hft
    generalize ft (a * d + c * b) (b * d) = r at *
    obtain ⟨x, y, z⟩ := r
    go_enter Try.func26, Try.ntmps26
    go_wp2_with fail
    refine (both_yes _ _ _ _ _ h k).mono ?_
    rintro e w1 ⟨rfl, hb⟩
    obtain ⟨hc, hf, _⟩ := bafter hb
    have hz : w.heap.size + 1 + 1 < w1.heap.size := by have := hb.size; simp at this; omega
    have hB : Below w.heap.size w w1 := ((((Below.refl _ _).alloc (Nat.le_refl _) _).alloc (by simp) _).alloc (by simp; omega) _).trans (hb.mono (by simp; omega))
    go_wp2_with fail
    refine (KEY.out _).mono ?_
    rintro e w2 ⟨rfl, hb2⟩
    obtain ⟨hc2, hf2, hz2⟩ := bafter hb2
    have hz3 : w.heap.size + 1 + 1 < w2.heap.size := by omega
    go_wp2
    refine bodyPost_ret (v := .tuple #[.agg #[.int .i64 x, .int .i64 y], .int .i64 z]) (by simp [results, Try.results26, go_sem, hc, hf, hz, hc2, hf2, hz3]) rfl ⟨rfl, ?_⟩
    exact ((hB.trans (hb2.mono (by omega))).setCell (by simp; omega) _).setCell (by simp; omega) _
  · have hft : ad a b c d = (0, 0, 3) := by rw [ad, if_neg h]
    rw [hft]
    clear hft
    go_enter Try.func26, Try.ntmps26
    go_wp2_with fail
    refine (both_no _ _ _ _ _ h).mono ?_
    rintro e w1 ⟨rfl, hb⟩
    obtain ⟨hc, hf, _⟩ := bafter hb
    have hz : w.heap.size + 1 + 1 < w1.heap.size := by have := hb.size; simp at this; omega
    have hB : Below w.heap.size w w1 := ((((Below.refl _ _).alloc (Nat.le_refl _) _).alloc (by simp) _).alloc (by simp; omega) _).trans (hb.mono (by simp; omega))
    clear h
    go_wp2
    refine bodyPost_ret (v := .tuple #[.agg #[.int .i64 0, .int .i64 0], .int .i64 3]) (by simp [results, Try.results26, go_sem, hc, hf, hz]) rfl ⟨rfl, ?_⟩
    exact (hB.setCell (by simp; omega) _).setCell (by simp; omega) _

set_option maxHeartbeats 400000 in
theorem mul_any (a b c d : Int) (w : World) :
    Calls Try.prog 27 #[.agg #[.int .i64 a, .int .i64 b], .agg #[.int .i64 c, .int .i64 d]] w fun e w' => e = .returned (.tuple #[.agg #[.int .i64 (mu a b c d).1, .int .i64 (mu a b c d).2.1], .int .i64 (mu a b c d).2.2]) ∧ Below w.heap.size w w' := by
  by_cases h : Ok a b ∧ Ok c d
  · obtain ⟨h, k⟩ := h
    have hft : mu a b c d = ft (a * c) (b * d) := by rw [mu, if_pos ⟨h, k⟩]
    obtain ⟨b1, b2⟩ := prod_bd h.2.2.1 h.2.2.2.1 (d := c) k.2.2.1 k.2.2.2.1
    obtain ⟨b5, b6⟩ := pos_bd h.1 h.2.1 k.1 k.2.1
    have key := fun W => fits_any (a * c) (b * d) W (by omega) (by omega) b5 b6
    have KEY := Lib.hid key
    rw [hft]
    clear key hft
    generalize ft (a * c) (b * d) = r at *
    obtain ⟨x, y, z⟩ := r
    go_enter Try.func27, Try.ntmps27
    go_wp2_with fail
    refine (both_yes _ _ _ _ _ h k).mono ?_
    rintro e w1 ⟨rfl, hb⟩
    obtain ⟨hc, hf, _⟩ := bafter hb
    have hz : w.heap.size + 1 + 1 < w1.heap.size := by have := hb.size; simp at this; omega
    have hB : Below w.heap.size w w1 := ((((Below.refl _ _).alloc (Nat.le_refl _) _).alloc (by simp) _).alloc (by simp; omega) _).trans (hb.mono (by simp; omega))
    go_wp2_with fail
    refine (KEY.out _).mono ?_
    rintro e w2 ⟨rfl, hb2⟩
    obtain ⟨hc2, hf2, hz2⟩ := bafter hb2
    have hz3 : w.heap.size + 1 + 1 < w2.heap.size := by omega
    go_wp2
    refine bodyPost_ret (v := .tuple #[.agg #[.int .i64 x, .int .i64 y], .int .i64 z]) (by simp [results, Try.results27, go_sem, hc, hf, hz, hc2, hf2, hz3]) rfl ⟨rfl, ?_⟩
    exact ((hB.trans (hb2.mono (by omega))).setCell (by simp; omega) _).setCell (by simp; omega) _
  · have hft : mu a b c d = (0, 0, 3) := by rw [mu, if_neg h]
    rw [hft]
    clear hft
    go_enter Try.func27, Try.ntmps27
    go_wp2_with fail
    refine (both_no _ _ _ _ _ h).mono ?_
    rintro e w1 ⟨rfl, hb⟩
    obtain ⟨hc, hf, _⟩ := bafter hb
    have hz : w.heap.size + 1 + 1 < w1.heap.size := by have := hb.size; simp at this; omega
    have hB : Below w.heap.size w w1 := ((((Below.refl _ _).alloc (Nat.le_refl _) _).alloc (by simp) _).alloc (by simp; omega) _).trans (hb.mono (by simp; omega))
    clear h
    go_wp2
    refine bodyPost_ret (v := .tuple #[.agg #[.int .i64 0, .int .i64 0], .int .i64 3]) (by simp [results, Try.results27, go_sem, hc, hf, hz]) rfl ⟨rfl, ?_⟩
    exact (hB.setCell (by simp; omega) _).setCell (by simp; omega) _
end Go.Proofs.Ythlhlglmkcbgaaa.Ratio
