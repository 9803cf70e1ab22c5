/- The walks of roomy, filled and spoil, at int. -/
import Derived.Test.YtlcgkbkmfelcfaaRoom
import Derived.BigQuiet
namespace Go.Proofs.Ytlcgkbkmfelcfaa.Room
open Go.RowKit Go.Proofs.Ytlcgkbkmfelcfaa Go.Proofs.Ytlcgkbkmfelcfaa.Net Go.Proofs.Ytlcgkbkmfelcfaa.Std
set_option linter.unusedSimpArgs false
set_option linter.unusedVariables false
theorem rep_succ {α : Type} (l : List α) (x : α) (k : Nat) : (l ++ List.replicate k x) ++ [x] = l ++ List.replicate (k + 1) x := by
  rw [List.append_assoc, List.replicate_succ']

set_option maxRecDepth 100000 in
set_option maxHeartbeats 2000000 in
theorem roomy_int (A : Option Addr) (n c : Nat) (l : List Int) (x : Int) (w : World) (hl : Sl w w.heap.size 1 ci A l) (hn : l.length = n) (hA : A = none → n = 0 ∧ c = 0) (hlen : n ≤ 1000000000) :
    Calls Try.prog 16 #[.slice A n c, .int .i64 x] w fun e w' => ∃ S, e = .returned (.slice (some ⟨S, 0, none⟩) n (n + 3)) ∧ Own w' w.heap.size 3 1 ci (.slice (some ⟨S, 0, none⟩) (n + 3) (n + 3)) (l ++ List.replicate 3 x) ∧ Below w.heap.size w w' := by
  obtain ⟨i0, hi, hz0, hz1, hz2⟩ := info_parts infoInt
  have hmk : ∀ w, (Instr.makeSlice 25 (.int .i64 0) (.int .i64 ((n : Int) + 3))).run Try.prog w = .ok (.slice (some ⟨w.heap.size, 0, none⟩) 0 (n + 3)) (w.alloc (.cells (madeCells #[.int .i64 0] (n + 3)) 3)) := fun w => by
    have h := run_make (P := Try.prog) w 25 3 i0 (.int .i64 0) Try.underlying25 hi hz0 .i64 .i64 0 ((n : Int) + 3) (by omega) (by omega) (by rw [hz2]; omega) (by omega)
    rw [hz1] at h
    have e : ((n : Int) + 3).toNat = n + 3 := by omega
    rw [e, Nat.mul_one] at h
    exact h
  have w1 : IntKind.i64.wrap ((n : Int) + 3) = (n : Int) + 3 := IntWalk.i64_in _ (by omega)
  have own0 : Own (w.alloc (.cells (madeCells #[.int .i64 0] (n + 3)) 3)) w.heap.size 3 1 ci (.slice (some ⟨w.heap.size, 0, none⟩) 0 (n + 3)) ([] : List Int) := own_made (Nat.le_refl _) (by unfold maxLen; omega) (by rw [size_madeCells, Nat.mul_one])
  have hs1 := (hl.keep ((Below.refl _ _).alloc (Nat.le_refl _) (.cells (madeCells #[.int .i64 0] (n + 3)) 3)) (Nat.le_refl _)).more (show w.heap.size ≤ (w.alloc (.cells (madeCells #[.int .i64 0] (n + 3)) 3)).heap.size by simp)
  have HN := Lib.hid hn
  have HL := Lib.hid hl
  clear hl hn
  go_enter Try.func16, Try.ntmps16
  go_wp2_with (at_builtin; refine wpList_pushRoom _ rfl (.tmp 10) (.tmp 11) _ rfl w.heap.size 3 i0 1 ci Try.underlying25 hi hz1 (by decide) w.heap.size 0 (n + 3) ([] : List Int) rfl own0 _ A n c l HN.out rfl hA hs1 one_ci (by omega) ?_; intro w3 hown3 hgrow3; simp only [Nat.zero_add, List.nil_append] at hown3)
  have hB3 : Below w.heap.size w w3 := ((Below.refl _ _).alloc (Nat.le_refl _) _).grown hgrow3 (by simp) (fun k e => by injection e with e; omega)
  clear own0 hs1 hgrow3 hmk w1
  go_loopw [13] (fun i wr => ∃ k : Nat, k ≤ 3 ∧ i = .int .i64 k ∧ Own wr w.heap.size 3 1 ci (.slice (some ⟨w.heap.size, 0, none⟩) (n + k) (n + 3)) (l ++ List.replicate k x) ∧ Below w.heap.size w wr) (fun i _ => 3 - (intOf i).toNat)
  case atStart => exact ⟨0, by omega, rfl, by simpa using hown3, hB3⟩
  case round =>
    obtain ⟨k, hk, rfl, hown, hB⟩ := hrel
    by_cases hlt : k < 3
    · have hk3 : (k : Int) < 3 := by omega
      have w1 : IntKind.i64.wrap ((n : Int) + 3) = (n : Int) + 3 := IntWalk.i64_in _ (by omega)
      have w2 : IntKind.i64.wrap ((n : Int) + k) = (n : Int) + k := IntWalk.i64_in _ (by omega)
      obtain ⟨_, _, _, _, cur, h3, h4, _⟩ := own_open hown
      rw [Nat.mul_one] at h4
      have hcell := blk_cell h3 (n + k)
      rw [Array.getElem?_eq_getElem (show n + k < cur.size by omega)] at hcell
      have hfr := blk_free h3 (n + k)
      generalize cur[n + k]'(by omega) = y at hcell
      have hst := own_sets hown (r := [x]) (m := 1) rfl (by omega)
      have e : wr.setCells w.heap.size ((n + k) * 1) (fl 1 ci [x]) = wr.setCell ⟨w.heap.size, n + k, none⟩ (.int .i64 x) := by rw [Nat.mul_one]; rfl
      rw [e, rep_succ] at hst
      have HST := Lib.hid hst
      have HZ := hB.size
      have hb0 := lt_of_block h3
      clear hst e hown h3 h4 hown3 hB3
      go_wp2
      go_roundw
      case rel => exact ⟨k + 1, by omega, by go_num, HST.out, hB.setCell (Nat.le_refl _) _⟩
      case measure => simp [intOf]; omega
    · obtain rfl : k = 3 := by omega
      clear hown3 hB3
      go_wp2
      go_ret
      exact ⟨w.heap.size, rfl, hown, hB⟩

set_option maxRecDepth 100000 in
set_option maxHeartbeats 2000000 in
theorem filled_int (S n base : Nat) (l : List Int) (x : Int) (w : World) (h : Own w base 3 1 ci (.slice (some ⟨S, 0, none⟩) (n + 3) (n + 3)) (l ++ List.replicate 3 x)) (hn : l.length = n) (hlen : n ≤ 1000000000) :
    Calls Try.prog 22 #[.slice (some ⟨S, 0, none⟩) n (n + 3), .int .i64 x] w fun e w' => e = .returned (.bool true) ∧ w' = w := by
  have hcell : ∀ k, k < 3 → w.cell? ⟨S, n + k, none⟩ = some (.int .i64 x) := fun k hk => by
    obtain ⟨S', c', he, _, _, _, hc⟩ := h.some_ (by simp)
    injection he with a _ _
    injection a with a
    injection a with a _ _
    subst a
    have hi : n + k < (l ++ List.replicate 3 x).length := by simp; omega
    have := (hc (n + k) hi 0 (by decide)).1
    rw [Nat.mul_one, Nat.add_zero] at this
    rw [this, List.getElem_append_right (by omega), List.getElem_replicate]
    rfl
  have hS := (h.base_ S rfl).2
  have HC := Lib.hid hcell
  clear hcell h hn
  go_enter Try.func22, Try.ntmps22
  go_wp2
  go_loopw [14] (fun i wr => ∃ k : Nat, k ≤ 3 ∧ i = .int .i64 k ∧ wr = w) (fun i _ => 3 - (intOf i).toNat)
  case atStart => exact ⟨0, by omega, rfl, rfl⟩
  case round =>
    obtain ⟨k, hk, rfl, rfl⟩ := hrel
    by_cases hlt : k < 3
    · have hk3 : (k : Int) < 3 := by omega
      have hc := HC.out k hlt
      go_wp2
      go_roundw
      case rel => exact ⟨k + 1, by omega, by go_num, by trivial⟩
      case measure => simp [intOf]; omega
    · obtain rfl : k = 3 := by omega
      go_wp2
      go_ret
      exact ⟨rfl, rfl⟩

end Go.Proofs.Ytlcgkbkmfelcfaa.Room
