/- The walk of walk.Join: what it answers. -/
import Derived.Test.YtdpjbjgecmnmnaaSlice
namespace Go.Proofs.Ytdpjbjgecmnmnaa.Walk
open Go.RowKit Go.Proofs.Ytdpjbjgecmnmnaa
set_option linter.unusedSimpArgs false
set_option linter.unusedVariables false

theorem infoInt : (Try.prog.info? 3).map (fun i => (i.zero, i.size, i.bytes)) = some (some (.int .i64 0), 1, 8) := by kernel_rfl
/-- the two walks fit -/
def fit (a b : List Int) : Prop := a ≠ [] ∧ b ≠ [] ∧ a.getLast? = b.head?
/-- what Join answers where they fit: a list of the call's own -/
def SomeJoin (l : List Int) (w : World) (e : Ending) (w' : World) : Prop :=
  ∃ A c, e = .returned (.tuple #[.slice A l.length c, .int .i64 0]) ∧ Own w' w.heap.size 3 1 ci (.slice A l.length c) l ∧ Below w.heap.size w w'

set_option maxRecDepth 100000 in
set_option maxHeartbeats 2000000 in
theorem join_no (A A' : Option Addr) (c c' : Nat) (a b : List Int) (w : World) (ha : Sl w w.heap.size 1 ci A a) (hb : Sl w w.heap.size 1 ci A' b) (hla : a.length ≤ 9223372036854775807) (hlb : b.length ≤ 9223372036854775807) (h : ¬ fit a b) :
    Calls Try.prog 29 #[.slice A a.length c, .slice A' b.length c'] w fun e w' => e = .returned (.tuple #[.slice none 0 0, .int .i64 1]) ∧ Below w.heap.size w w' := by
  by_cases h1 : a.length = 0
  · have g1 : ((a.length : Int) == 0) = true := by rw [beq_iff_eq]; omega
    clear ha hb h h1
    go_enter Try.func29, Try.ntmps29
    go_wp2
    go_quiet (fail)
    go_wp2
    go_ret2
    exact ⟨rfl, below_drewN (Below.refl _ _) _⟩
  · have g1 : ((a.length : Int) == 0) = false := by rw [beq_eq_false_iff_ne]; omega
    by_cases h2 : b.length = 0
    · have g2 : ((b.length : Int) == 0) = true := by rw [beq_iff_eq]; omega
      clear ha hb h h1 h2
      go_enter Try.func29, Try.ntmps29
      go_wp2
      go_quiet (fail)
      go_wp2
      go_ret2
      exact ⟨rfl, below_drewN (Below.refl _ _) _⟩
    · have g2 : ((b.length : Int) == 0) = false := by rw [beq_eq_false_iff_ne]; omega
      obtain ⟨n, hn⟩ : ∃ n, a.length = n + 1 := ⟨a.length - 1, by omega⟩
      obtain ⟨bl, off, rfl, hbB, hca⟩ := ha.atI (k := n) (by omega)
      obtain ⟨bl2, off2, rfl, hbB2, hcb⟩ := hb.atI (k := 0) (by omega)
      have hne : (a[n]'(by omega) != b[0]'(by omega)) = true := by
        rw [bne_iff_ne]
        intro e
        refine h ⟨by intro h; subst h; simp at h1, by intro h; subst h; simp at h2, ?_⟩
        rw [List.getLast?_eq_getElem?, List.head?_eq_getElem?, hn, List.getElem?_eq_getElem (show n + 1 - 1 < a.length by omega), List.getElem?_eq_getElem (show 0 < b.length by omega)]
        simp [e]
      generalize a[n]'(by omega) = x at hca hne
      generalize b[0]'(by omega) = y at hcb hne
      rw [Nat.add_zero] at hcb
      clear ha hb h h1 h2
      rw [hn] at g1 hla ⊢
      have hn0 : ((n + 1 : Nat) : Int) = (n : Int) + 1 := by omega
      rw [hn0] at g1
      have w1 : IntKind.i64.wrap (n : Int) = (n : Int) := IntWalk.i64_in _ (by omega)
      have w2 : (n : Int) < (n : Int) + 1 := by omega
      have w3 : (0 : Int) < (b.length : Int) := by rw [beq_eq_false_iff_ne] at g2; omega
      clear hn
      go_enter Try.func29, Try.ntmps29
      go_wp2
      go_quiet (fail)
      go_wp2
      go_ret2
      exact ⟨rfl, below_drewN (Below.refl _ _) _⟩

set_option maxRecDepth 100000 in
set_option maxHeartbeats 4000000 in
theorem join_yes (A A' : Option Addr) (c c' : Nat) (a b : List Int) (w : World) (ha : Sl w w.heap.size 1 ci A a) (hb : Sl w w.heap.size 1 ci A' b) (hcb : b.length ≤ c') (hsz : (a.length + b.length) * 8 ≤ 140737488355328) (h : fit a b) :
    Calls Try.prog 29 #[.slice A a.length c, .slice A' b.length c'] w fun e w' => SomeJoin (a ++ b.tail) w e w' := by
  obtain ⟨i0, hi, hz0, hz1, hz2⟩ := info_parts infoInt
  obtain ⟨k1, k2, k3⟩ := h
  have h1 : a.length ≠ 0 := fun e => k1 (List.eq_nil_of_length_eq_zero e)
  have h2 : b.length ≠ 0 := fun e => k2 (List.eq_nil_of_length_eq_zero e)
  obtain ⟨n, hn⟩ : ∃ n, a.length = n + 1 := ⟨a.length - 1, by omega⟩
  obtain ⟨m, hm⟩ : ∃ m, b.length = m + 1 := ⟨b.length - 1, by omega⟩
  have hcut := hb.cut (k := 1) (by omega) hcb
  rw [List.drop_one] at hcut
  obtain ⟨bl, off, rfl, hbB, hca⟩ := ha.atI (k := n) (by omega)
  obtain ⟨bl2, off2, rfl, hbB2, hcb'⟩ := hb.atI (k := 0) (by omega)
  rw [List.getLast?_eq_getElem?, List.head?_eq_getElem?, hn, List.getElem?_eq_getElem (show n + 1 - 1 < a.length by omega), List.getElem?_eq_getElem (show 0 < b.length by omega)] at k3
  simp only [Nat.add_sub_cancel, Option.some.injEq] at k3
  rw [← k3] at hcb'
  generalize a[n]'(by omega) = x at hca hcb'
  rw [Nat.add_zero] at hcb'
  have htl : b.tail.length = m := by rw [List.length_tail]; omega
  have hal : (a ++ b.tail).length = n + 1 + m := by rw [List.length_append, hn, htl]
  have HTL := Lib.hid htl
  have HAL := Lib.hid hal
  have HN := Lib.hid hn
  have g1 : ((n : Int) + 1 == 0) = false := by rw [beq_eq_false_iff_ne]; omega
  have g2 : ((m : Int) + 1 == 0) = false := by rw [beq_eq_false_iff_ne]; omega
  rw [hn, hm] at hsz ⊢
  rw [hm] at hcb
  have w1 : IntKind.i64.wrap (n : Int) = (n : Int) := IntWalk.i64_in _ (by omega)
  have w2 : (n : Int) < (n : Int) + 1 := by omega
  have w3 : (0 : Int) < (m : Int) + 1 := by omega
  have w4 : (1 : Int) ≤ (m : Int) + 1 := by omega
  have hall : ∀ (W : World), Below w.heap.size w W → Sl W w.heap.size 1 ci (some ⟨bl, off, none⟩) a := fun W hW => ha.keep hW (Nat.le_refl _)
  have hcutW : ∀ (W : World), Below w.heap.size w W → Sl W w.heap.size 1 ci _ b.tail := fun W hW => hcut.keep hW (Nat.le_refl _)
  clear k1 k2 k3 h1 h2 hn hm htl hal ha hb hcut
  have HA := Lib.hid hall
  have HC := Lib.hid hcutW
  clear hall hcutW
  by_cases hc1 : c' = 1
  · have hm0 : m = 0 := by omega
    subst hc1 hm0
    have hC2 := fun W hW => HC.out W hW
    rw [if_pos rfl] at hC2
    have HC2 := Lib.hid hC2
    clear hC2 HC
    go_enter Try.func29, Try.ntmps29
    go_wp2
    go_quiet (fail)
    go_wp2
    go_region_law (first | (refine step_pushAll _ rfl (.const (.slice none 0 0)) (.tmp 26) _ rfl w.heap.size 3 i0 (.int .i64 0) 1 8 ci Try.underlying25 hi hz0 hz1 hz2 rfl (by decide) _ [] 0 rfl rfl Own.nil_ w.heap.size _ (n + 1) c a HN.out rfl (fun h => by cases h) (by first | exact HA.out _ (below_drewN (Below.refl _ _) _) | exact HA.out _ (below_drewN (Below.refl _ _) _).drew) one_ci (by omega) (by omega) (by simp) ?_; intro A3 c3 w3 hown3 hgrow3 hat3; simp only [Nat.zero_add, List.nil_append] at hown3; have hB3 : Below w.heap.size w w3 := by first | exact (below_drewN (Below.refl _ _) _).grown hgrow3 (Nat.le_refl _) (fun k hk => by cases hk) | exact (below_drewN (Below.refl _ _) _).drew.grown hgrow3 (Nat.le_refl _) (fun k hk => by cases hk)) | (refine step_pushAll _ rfl (.tmp 27) (.tmp 29) _ rfl w.heap.size 3 i0 (.int .i64 0) 1 8 ci Try.underlying25 hi hz0 hz1 hz2 rfl (by decide) _ a (n + 1) HN.out rfl hown3 w.heap.size _ 0 0 b.tail HTL.out rfl (fun h => by cases h) (HC2.out _ hB3) one_ci (by omega) (by omega) hB3.size ?_; intro A4 c4 w4 hown4 hgrow4 hat4))
    all_goals
      simp only [Nat.add_zero] at hown4
      go_wp2
      go_ret2
      exact ⟨A4, c4, by rw [HAL.out]; rfl, by rw [HAL.out]; exact hown4, hB3.grown hgrow4 hB3.size hown3.lo⟩
  · have hC2 := fun W hW => HC.out W hW
    rw [if_neg hc1] at hC2
    simp only [Option.map_some, Go.WideShapes.add_plain, Nat.mul_one] at hC2
    have hc2 : (c' == 1) = false := beq_eq_false_iff_ne.2 hc1
    have HC2 := Lib.hid hC2
    clear hC2 HC
    go_enter Try.func29, Try.ntmps29
    go_wp2
    go_quiet (fail)
    go_wp2
    go_region_law (first | (refine step_pushAll _ rfl (.const (.slice none 0 0)) (.tmp 26) _ rfl w.heap.size 3 i0 (.int .i64 0) 1 8 ci Try.underlying25 hi hz0 hz1 hz2 rfl (by decide) _ [] 0 rfl rfl Own.nil_ w.heap.size _ (n + 1) c a HN.out rfl (fun h => by cases h) (by first | exact HA.out _ (below_drewN (Below.refl _ _) _) | exact HA.out _ (below_drewN (Below.refl _ _) _).drew) one_ci (by omega) (by omega) (by simp) ?_; intro A3 c3 w3 hown3 hgrow3 hat3; simp only [Nat.zero_add, List.nil_append] at hown3; have hB3 : Below w.heap.size w w3 := by first | exact (below_drewN (Below.refl _ _) _).grown hgrow3 (Nat.le_refl _) (fun k hk => by cases hk) | exact (below_drewN (Below.refl _ _) _).drew.grown hgrow3 (Nat.le_refl _) (fun k hk => by cases hk)) | (refine step_pushAll _ rfl (.tmp 27) (.tmp 29) _ rfl w.heap.size 3 i0 (.int .i64 0) 1 8 ci Try.underlying25 hi hz0 hz1 hz2 rfl (by decide) _ a (n + 1) HN.out rfl hown3 w.heap.size _ m (c' - 1) b.tail HTL.out rfl (fun h => by cases h) (HC2.out _ hB3) one_ci (by omega) (by omega) hB3.size ?_; intro A4 c4 w4 hown4 hgrow4 hat4))
    all_goals
      go_wp2
      go_ret2
      exact ⟨A4, c4, by rw [HAL.out]; rfl, by rw [HAL.out]; exact hown4, hB3.grown hgrow4 hB3.size hown3.lo⟩
end Go.Proofs.Ytdpjbjgecmnmnaa.Walk
