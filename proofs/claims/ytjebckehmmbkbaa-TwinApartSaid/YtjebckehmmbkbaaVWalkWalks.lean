/- The walks of package net: what each function answers. -/
/- The walks of package walk: what edge, Cost, Join and Cut answer. -/
import Derived.Test.YtjebckehmmbkbaaVSlice
import Derived.Test.YtjebckehmmbkbaaVBellLaw
import Derived.Test.YtjebckehmmbkbaaVKit
namespace Go.Proofs.Ytjebckehmmbkbaa.Net
open Go.RowKit Go.Proofs.Ytjebckehmmbkbaa NetLaw
set_option linter.unusedSimpArgs false
set_option linter.unusedVariables false

set_option maxHeartbeats 400000 in
theorem check_any (N : Int) (A : Option Addr) (c : Nat) (l : List E) (w : World) (hl : Sl w w.heap.size 3 ce A l) (hlen : l.length ≤ 9223372036854775807) :
    Calls Try.prog 26 #[.agg #[.int .i64 N, .slice A l.length c]] w fun e w' => e = .returned (.int .i64 (chk N l)) ∧ Below w.heap.size w w' := by
  by_cases h1 : N < 1 ∨ 64 < N
  · have hfin : chk N l = 1 := by rw [chk, if_pos h1]
    rw [hfin]
    clear hfin hl
    rcases (show N < 1 ∨ (1 ≤ N ∧ 64 < N) from by omega) with h | h
    all_goals
      go_enter Try.func26, Try.ntmps26
      go_wp2
      go_ret
      exact ⟨rfl, (Below.refl _ _).alloc (Nat.le_refl _) _⟩
  · by_cases h2 : 600 < l.length
    · have hfin : chk N l = 2 := by rw [chk, if_neg h1, if_pos h2]
      rw [hfin]
      clear hfin hl
      go_enter Try.func26, Try.ntmps26
      go_wp2
      go_ret
      exact ⟨rfl, (Below.refl _ _).alloc (Nat.le_refl _) _⟩
    · have hfin : chk N l = chkE N l := by rw [chk, if_neg h1, if_neg h2]
      rw [hfin]
      clear hfin hlen
      have h3 : 1 ≤ N := by omega
      have h4 : N ≤ 64 := by omega
      have h5 : l.length ≤ 600 := by omega
      clear h1 h2
      go_enter Try.func26, Try.ntmps26
      go_wp2
      go_loopw [20] (fun i wr => ∃ k : Nat, k ≤ l.length ∧ i = .int .i64 k ∧ chkE N l = chkE N (l.drop k) ∧ Below (w.heap.size + 1) (w.alloc (.cells #[.int .i64 N, .slice A l.length c] 24)) wr) (fun i _ => l.length - (intOf i).toNat)
      case atStart => exact ⟨0, Nat.zero_le _, rfl, rfl, Below.refl _ _⟩
      case round =>
        obtain ⟨k, hk, rfl, hchk, hB⟩ := hrel
        have HC := Lib.hid hchk
        clear hchk
        by_cases hlt : k < l.length
        · have hl2 := (hl.keep ((Below.refl _ _).alloc (Nat.le_refl _) _) (Nat.le_refl _)).keep hB (Nat.le_succ _)
          obtain ⟨b, off, f, t, cc, rfl, hbB, he, hcf, hct, hcc⟩ := hl2.atE hlt
          have hs : chkE N l = if f < 0 ∨ N ≤ f ∨ t < 0 ∨ N ≤ t then 1 else if cc < -10000 ∨ 10000 < cc then 4 else chkE N (l.drop (k + 1)) := by
            have h9 := chkE_drop N l k hlt
            rw [he, ← HC.out] at h9
            exact h9
          have HS := Lib.hid hs
          clear he hl2 hl hs HC
          obtain ⟨c1, f1⟩ := keepN hB
          have hsz : w.heap.size < wr.heap.size := by have := hB.size; simp at this; omega
          have hE := (((Below.refl _ _).alloc (Nat.le_refl _) _).trans (hB.mono (Nat.le_succ _))).alloc (by omega) (.cells #[.int .i64 f, .int .i64 t, .int .i64 cc] 48)
          go_wp2
          all_goals first
            | (go_ret
               exact ⟨ret_int (by have e := HS.out; first | (rw [if_pos (by omega)] at e; exact e.symm) | (rw [if_neg (by omega), if_pos (by omega)] at e; exact e.symm)), hE⟩)
            | (go_roundw
               case rel => exact ⟨k + 1, by omega, by go_num, by have e := HS.out; rw [if_neg (by omega), if_neg (by omega)] at e; exact e, hB.alloc (by omega) _⟩
               case measure => simp [intOf]; omega)
        · obtain rfl : k = l.length := by omega
          have hz : chkE N l = 0 := by rw [HC.out, List.drop_length]; rfl
          have HZ := Lib.hid hz
          clear hz HC hl
          have hE := ((Below.refl _ _).alloc (Nat.le_refl _) _).trans (hB.mono (Nat.le_succ _))
          go_wp2
          go_ret
          exact ⟨ret_int HZ.out.symm, hE⟩
end Go.Proofs.Ytjebckehmmbkbaa.Net

namespace Go.Proofs.Ytjebckehmmbkbaa.Walk
open Go.RowKit Go.Proofs.Ytjebckehmmbkbaa NetLaw WalkLaw
set_option linter.unusedSimpArgs false
set_option linter.unusedVariables false

set_option maxRecDepth 100000 in
set_option maxHeartbeats 1000000 in
theorem edge_any (N a b : Int) (A : Option Addr) (c : Nat) (l : List E) (w : World) (hl : Sl w w.heap.size 3 ce A l) (hlen : l.length ≤ 9223372036854775807) :
    Calls Try.prog 27 #[.agg #[.int .i64 N, .slice A l.length c], .int .i64 a, .int .i64 b] w fun e w' => e = .returned (.tuple #[.int .i64 (eg l a b).1, .bool (eg l a b).2]) ∧ Below w.heap.size w w' := by
  go_enter Try.func27, Try.ntmps27
  go_wp2
  go_loopw [8, 9, 15] (fun x y i wr => ∃ (k : Nat) (best : Int) (ok : Bool), k ≤ l.length ∧ i = .int .i64 k ∧ x = .int .i64 best ∧ y = .bool ok ∧ eg (l.take k) a b = (best, ok) ∧ Below (w.heap.size + 1) (w.alloc (.cells #[.int .i64 N, .slice A l.length c] 24)) wr) (fun _ _ i _ => l.length - (intOf i).toNat)
  case atStart => exact ⟨0, 0, false, Nat.zero_le _, rfl, rfl, rfl, rfl, Below.refl _ _⟩
  case round =>
    obtain ⟨k, best, ok, hk, rfl, rfl, rfl, heg, hB⟩ := hrel
    have HEG := Lib.hid heg
    clear heg
    by_cases hlt : k < l.length
    · have hl2 := (hl.keep ((Below.refl _ _).alloc (Nat.le_refl _) _) (Nat.le_refl _)).keep hB (Nat.le_succ _)
      obtain ⟨b', off, f, t, cc, rfl, hbB, he, hcf, hct, hcc⟩ := hl2.atE hlt
      have hstep := eg_succ l a b k hlt
      rw [he, HEG.out] at hstep
      have HS := Lib.hid hstep
      clear hstep he hl2 hl HEG
      obtain ⟨c1, f1⟩ := keepN hB
      have hsz : w.heap.size < wr.heap.size := by have := hB.size; simp at this; omega
      have hB1 := hB.alloc (by omega) (.cells #[.int .i64 f, .int .i64 t, .int .i64 cc] 48)
      by_cases h1 : f = a
      · subst h1
        by_cases h2 : t = b
        · subst h2
          by_cases h3 : ok = false ∨ cc < best
          · have hfin : eg (l.take (k + 1)) f t = (cc, true) := by rw [HS.out]; unfold egS; rw [if_pos ⟨rfl, rfl, h3⟩]
            have HF := Lib.hid hfin
            clear hfin HS
            rcases Bool.eq_false_or_eq_true ok with rfl | rfl
            · have h4 : cc < best := by rcases h3 with h | h; cases h; exact h
              clear h3
              go_wp2
              go_roundw
              case rel => exact ⟨k + 1, cc, true, by omega, by go_num, rfl, rfl, HF.out, hB1⟩
              case measure => simp [intOf]; omega
            · clear h3
              go_wp2
              go_roundw
              case rel => exact ⟨k + 1, cc, true, by omega, by go_num, rfl, rfl, HF.out, hB1⟩
              case measure => simp [intOf]; omega
          · have hfin : eg (l.take (k + 1)) f t = (best, ok) := by rw [HS.out]; unfold egS; rw [if_neg (fun h => h3 h.2.2)]
            have HF := Lib.hid hfin
            have h4 : ok = true := by cases ok; exact absurd (.inl rfl) h3; rfl
            have h5 : ¬ cc < best := fun h => h3 (.inr h)
            subst h4
            clear hfin HS h3
            go_wp2
            go_roundw
            case rel => exact ⟨k + 1, best, true, by omega, by go_num, rfl, rfl, HF.out, hB1⟩
            case measure => simp [intOf]; omega
        · have hfin : eg (l.take (k + 1)) f b = (best, ok) := by rw [HS.out]; unfold egS; rw [if_neg (fun h => h2 h.2.1)]
          have HF := Lib.hid hfin
          have h4 : (t == b) = false := beq_eq_false_iff_ne.2 h2
          clear hfin HS h2
          go_wp2
          go_roundw
          case rel => exact ⟨k + 1, best, ok, by omega, by go_num, rfl, rfl, HF.out, hB1⟩
          case measure => simp [intOf]; omega
      · have hfin : eg (l.take (k + 1)) a b = (best, ok) := by rw [HS.out]; unfold egS; rw [if_neg (fun h => h1 h.1)]
        have HF := Lib.hid hfin
        have h4 : (f == a) = false := beq_eq_false_iff_ne.2 h1
        clear hfin HS h1
        go_wp2
        go_roundw
        case rel => exact ⟨k + 1, best, ok, by omega, by go_num, rfl, rfl, HF.out, hB1⟩
        case measure => simp [intOf]; omega
    · obtain rfl : k = l.length := by omega
      have hfin : eg l a b = (best, ok) := by have := HEG.out; rwa [List.take_length] at this
      have HF := Lib.hid hfin
      clear hfin HEG hl
      go_wp2
      go_ret2
      rw [HF.out]
      exact ⟨rfl, ((Below.refl _ _).alloc (Nat.le_refl _) _).trans (hB.mono (Nat.le_succ _))⟩
end Go.Proofs.Ytjebckehmmbkbaa.Walk
