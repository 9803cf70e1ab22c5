/- The walks of package ratio: what each function answers. -/
import Derived.Test.YtbgkkmcobijkgaaVKit
import Derived.Test.YtbgkkmcobijkgaaVRatioLaw
namespace Go.Proofs.Ytbgkkmcobijkgaa.Ratio
open Go.RowKit Go.Proofs.Ytbgkkmcobijkgaa RatioLaw
set_option linter.unusedSimpArgs false
set_option linter.unusedVariables false

theorem tdiv_of {a b : Int} {g : Nat} (h : g = Int.gcd a b) : a.tdiv (g : Int) = a / (g : Int) := by
  subst h
  exact Int.tdiv_eq_ediv_of_dvd (Int.gcd_dvd_left a b)

set_option maxHeartbeats 400000 in
theorem gcd_any (a b : Int) (w : World) (ha : -4000000000000 ≤ a) (ha' : a ≤ 4000000000000) (hb : -4000000000000 ≤ b) (hb' : b ≤ 4000000000000) :
    Calls Try.prog 98 #[.int .i64 a, .int .i64 b] w fun e w' => e = .returned (.int .i64 (Int.gcd a b)) ∧ ∃ n, w' = w.drewN n := by
  go_enter Try.func98, Try.ntmps98
  go_wp2
  go_loopw [0, 1] (fun x y wr => ∃ a' b' : Int, x = .int .i64 a' ∧ y = .int .i64 b' ∧ -4000000000000 ≤ a' ∧ a' ≤ 4000000000000 ∧ -4000000000000 ≤ b' ∧ b' ≤ 4000000000000 ∧ Int.gcd a' b' = Int.gcd a b ∧ ∃ n, wr = w.drewN n) (fun _ y _ => (intOf y).natAbs)
  case atStart => exact ⟨a, b, rfl, rfl, ha, ha', hb, hb', rfl, 0, rfl⟩
  case round =>
    obtain ⟨a', b', rfl, rfl, h1, h2, h3, h4, hg, n, rfl⟩ := hrel
    have HG := Lib.hid hg
    clear hg
    by_cases hz : b' = 0
    · subst hz
      go_wp2
      all_goals
        go_ret
        exact ⟨ret_int (by have := HG.out; rw [Int.gcd_zero_right] at this; omega), n, rfl⟩
    · go_wp2
      go_quiet (fail)
      go_wp2
      go_roundw
      case rel =>
        have ht := tmod_lt a' hz
        exact ⟨b', a'.tmod b', rfl, rfl, h3, h4, by omega, by omega, by rw [gcd_tmod]; exact HG.out, n + nq, World.drewN_drewN _ _ _⟩
      case measure => exact tmod_lt a' hz

set_option maxHeartbeats 400000 in
theorem within_any (a : Int) (r : Bool) (w : World) (hr : decide (-1000000 ≤ a ∧ a ≤ 1000000) = r) :
    Calls Try.prog 94 #[.int .i64 a] w fun e w' => e = .returned (.bool r) ∧ w = w' := by
  subst hr
  by_cases h1 : -1000000 ≤ a
  · by_cases h2 : a ≤ 1000000
    · go_enter Try.func94, Try.ntmps94
      go_wp2
      go_ret
      exact ⟨by simp [h1, h2], rfl⟩
    · go_enter Try.func94, Try.ntmps94
      go_wp2
      go_ret
      exact ⟨by simp; omega, rfl⟩
  · go_enter Try.func94, Try.ntmps94
    go_wp2
    go_ret
    exact ⟨by simp; omega, rfl⟩

set_option maxHeartbeats 400000 in
theorem least_any (a b : Int) (w : World) (ha : -2000000000000 ≤ a) (ha' : a ≤ 2000000000000) (hb : 1 ≤ b) (hb' : b ≤ 1000000000000) :
    Calls Try.prog 95 #[.int .i64 a, .int .i64 b] w fun e w' => e = .returned (.agg #[.int .i64 (a / (Int.gcd a b : Int)), .int .i64 (b / (Int.gcd a b : Int))]) ∧ Below w.heap.size w w' := by
  have hp := gcd_pos (n := a) hb
  have hl := gcd_le (n := a) hb
  have hnn : (0 : Int) ≤ (Int.gcd a b : Int) := by omega
  obtain ⟨g, hg⟩ : ∃ g : Nat, g = Int.gcd a b := ⟨_, rfl⟩
  rw [← hg] at hp hl hnn ⊢
  have HG := Lib.hid hg
  clear hg
  go_enter Try.func95, Try.ntmps95
  go_wp2_with (go_at_call 98; refine (gcd_any _ _ _ (by omega) (by omega) (by omega) (by omega)).mono ?_; rintro e w' ⟨rfl, n, rfl⟩; rw [← HG.out])
  go_region
  go_wp2
  refine bodyPost_ret (v := .agg #[.int .i64 (a / (g : Int)), .int .i64 (b / (g : Int))]) (by simp [results, Try.results95, go_sem, tdiv_of HG.out]) rfl ⟨rfl, ?_⟩
  exact ((below_drewN ((Below.refl _ _).alloc (Nat.le_refl _) _) _).setCell (by simp) _).setCell (by simp) _

set_option maxHeartbeats 400000 in
theorem make_yes (a b : Int) (w : World) (h1 : -1000000 ≤ a) (h2 : a ≤ 1000000) (h3 : 1 ≤ b) (h4 : b ≤ 1000000) :
    Calls Try.prog 87 #[.int .i64 a, .int .i64 b] w fun e w' => e = .returned (.tuple #[.agg #[.int .i64 (a / (Int.gcd a b : Int)), .int .i64 (b / (Int.gcd a b : Int))], .int .i64 0]) ∧ Below w.heap.size w w' := by
  go_enter Try.func87, Try.ntmps87
  go_wp2_with (first
    | (go_at_call 94; refine (within_any _ true _ (by simp; omega)).mono ?_; rintro e w' ⟨rfl, rfl⟩)
    | (go_at_call 95; refine (least_any _ _ _ (by omega) (by omega) (by omega) (by omega)).mono ?_; rintro e w1 ⟨rfl, hb⟩; obtain ⟨hc, hf⟩ := bcell hb; have hz : w.heap.size < w1.heap.size := by have := hb.size; simp at this; omega))
  refine bodyPost_ret (v := .tuple #[.agg #[.int .i64 (a / (Int.gcd a b : Int)), .int .i64 (b / (Int.gcd a b : Int))], .int .i64 0]) (by simp [results, Try.results87, go_sem, hc, hf, hz]) rfl ⟨rfl, ?_⟩
  exact ((((Below.refl _ _).alloc (Nat.le_refl _) _).trans (hb.mono (by simp))).setCell (by simp) _).setCell (by simp) _

set_option maxHeartbeats 400000 in
theorem make_no (a b : Int) (w : World) (h : ¬ (-1000000 ≤ a ∧ a ≤ 1000000 ∧ 1 ≤ b ∧ b ≤ 1000000)) :
    Calls Try.prog 87 #[.int .i64 a, .int .i64 b] w fun e w' => e = .returned (.tuple #[.agg #[.int .i64 0, .int .i64 0], .int .i64 1]) ∧ Below w.heap.size w w' := by
  by_cases h1 : b < 1
  · clear h
    go_enter Try.func87, Try.ntmps87
    go_wp2
    refine bodyPost_ret (v := .tuple #[.agg #[.int .i64 0, .int .i64 0], .int .i64 1]) (by simp [results, Try.results87, go_sem]) rfl ⟨rfl, ?_⟩
    exact ((Below.refl _ _).alloc (Nat.le_refl _) _)
  · by_cases h2 : -1000000 ≤ a ∧ a ≤ 1000000
    · have h3 : ¬ (b ≤ 1000000) := by omega
      clear h
      go_enter Try.func87, Try.ntmps87
      go_wp2_with fail
      refine (within_any _ true _ (by simp; omega)).mono ?_
      rintro e w' ⟨rfl, rfl⟩
      go_wp2_with fail
      refine (within_any _ false _ (by simp; omega)).mono ?_
      rintro e w' ⟨rfl, rfl⟩
      go_wp2
      refine bodyPost_ret (v := .tuple #[.agg #[.int .i64 0, .int .i64 0], .int .i64 1]) (by simp [results, Try.results87, go_sem]) rfl ⟨rfl, ?_⟩
      exact ((Below.refl _ _).alloc (Nat.le_refl _) _)
    · clear h
      go_enter Try.func87, Try.ntmps87
      go_wp2_with (go_at_call 94; refine (within_any _ false _ (by simp; omega)).mono ?_; rintro e w' ⟨rfl, rfl⟩)
      refine bodyPost_ret (v := .tuple #[.agg #[.int .i64 0, .int .i64 0], .int .i64 1]) (by simp [results, Try.results87, go_sem]) rfl ⟨rfl, ?_⟩
      exact ((Below.refl _ _).alloc (Nat.le_refl _) _)


set_option maxHeartbeats 400000 in
theorem check_yes (a b : Int) (w : World) (h : Ok a b) :
    Calls Try.prog 57 #[.agg #[.int .i64 a, .int .i64 b]] w fun e w' => e = .returned (.int .i64 0) ∧ Below w.heap.size w w' := by
  obtain ⟨h1, h2, h3, h4, h5⟩ := h
  have key := fun W => make_yes a b W h3 h4 h1 h2
  rw [h5] at key
  simp only [Int.natCast_one, Int.ediv_one] at key
  have KEY := Lib.hid key
  clear key h5
  go_enter Try.func57, Try.ntmps57
  go_wp2_with fail
  refine (KEY.out _).mono ?_
  rintro e w1 ⟨rfl, hb⟩
  obtain ⟨hc, hf, _⟩ := bafter hb
  have hz : w.heap.size < w1.heap.size := by have := hb.size; simp at this; omega
  have hB : Below w.heap.size w w1 := ((Below.refl _ _).alloc (Nat.le_refl _) _).trans (hb.mono (by simp))
  go_wp2
  go_ret
  exact ⟨rfl, hB.alloc hB.size _⟩

set_option maxHeartbeats 400000 in
theorem check_no (a b : Int) (w : World) (h : ¬ Ok a b) :
    Calls Try.prog 57 #[.agg #[.int .i64 a, .int .i64 b]] w fun e w' => e = .returned (.int .i64 3) ∧ Below w.heap.size w w' := by
  by_cases h' : -1000000 ≤ a ∧ a ≤ 1000000 ∧ 1 ≤ b ∧ b ≤ 1000000
  · have hg : Int.gcd a b ≠ 1 := fun hg => h ⟨h'.2.2.1, h'.2.2.2, h'.1, h'.2.1, hg⟩
    have hp := gcd_pos (n := a) h'.2.2.1
    have key := fun W => make_yes a b W h'.1 h'.2.1 h'.2.2.1 h'.2.2.2
    have hne : (b / (Int.gcd a b : Int) == b) = false := by
      rw [beq_eq_false_iff_ne]
      intro he
      have hl := (lowest (n := a) h'.2.2.1).2.2.2
      rw [he] at hl
      have : b * (Int.gcd a b : Int) = b * 1 := by omega
      have := Int.eq_of_mul_eq_mul_left (by omega) this
      omega
    have KEY := Lib.hid key
    clear key h hg
    generalize a / (Int.gcd a b : Int) = a1 at KEY
    generalize b / (Int.gcd a b : Int) = b1 at KEY hne
    clear hp
    go_enter Try.func57, Try.ntmps57
    go_wp2_with fail
    refine (KEY.out _).mono ?_
    rintro e w1 ⟨rfl, hb⟩
    obtain ⟨hc, hf, _⟩ := bafter hb
    have hz : w.heap.size < w1.heap.size := by have := hb.size; simp at this; omega
    have hB : Below w.heap.size w w1 := ((Below.refl _ _).alloc (Nat.le_refl _) _).trans (hb.mono (by simp))
    go_wp2
    go_ret
    exact ⟨rfl, hB.alloc hB.size _⟩
  · go_enter Try.func57, Try.ntmps57
    go_wp2_with fail
    refine (make_no _ _ _ h').mono ?_
    rintro e w1 ⟨rfl, hb⟩
    obtain ⟨hc, hf, _⟩ := bafter hb
    have hz : w.heap.size < w1.heap.size := by have := hb.size; simp at this; omega
    have hB : Below w.heap.size w w1 := ((Below.refl _ _).alloc (Nat.le_refl _) _).trans (hb.mono (by simp))
    clear h h'
    go_wp2
    go_ret
    exact ⟨rfl, hB.alloc hB.size _⟩

end Go.Proofs.Ytbgkkmcobijkgaa.Ratio
