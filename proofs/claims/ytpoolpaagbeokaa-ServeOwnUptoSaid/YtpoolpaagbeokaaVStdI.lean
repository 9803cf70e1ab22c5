/- Go's own slices package at []int: what Equal and Clone answer. -/
import Derived.Test.YtpoolpaagbeokaaVSlice
import Derived.Lib.SliceRun
namespace Go.Proofs.Ytpoolpaagbeokaa.Std
open Go.RowKit Go.Proofs.Ytpoolpaagbeokaa
set_option linter.unusedSimpArgs false
set_option linter.unusedVariables false

theorem take_eq {α : Type} {l m : List α} {k : Nat} (h : l.take k = m.take k) (hl : k < l.length) (hm : k < m.length) (he : l[k] = m[k]) : l.take (k + 1) = m.take (k + 1) := by
  rw [List.take_succ_eq_append_getElem hl, List.take_succ_eq_append_getElem hm, h, he]
theorem getElem_of_take {α : Type} {l m : List α} (h : l = m) {k : Nat} (hl : k < l.length) (hm : k < m.length) : l[k] = m[k] := by subst h; rfl

set_option maxHeartbeats 1000000 in
theorem equal_int (A A' : Option Addr) (c c' : Nat) (l m : List Int) (B B' : Nat) (w : World) (hl : Sl w B 1 ci A l) (hm : Sl w B' 1 ci A' m) (hlen : l.length ≤ 9223372036854775807) :
    Calls Try.prog 49 #[.slice A l.length c, .slice A' m.length c'] w fun e w' => e = .returned (.bool (decide (l = m))) ∧ ∃ n, w' = w.drewN n := by
  by_cases he : l.length = m.length
  · have hm' : (l.length : Int) = m.length := by omega
    have h0 : ((l.length : Int) != (m.length : Int)) = false := by rw [bne_eq_false_iff_eq]; exact hm'
    have HE := Lib.hid he
    clear he hm'
    go_enter Try.func49, Try.ntmps49
    go_wp2
    go_loopw [13] (fun i wr => ∃ k : Nat, k ≤ l.length ∧ i = .int .i64 k ∧ l.take k = m.take k ∧ ∃ n, wr = w.drewN n) (fun i _ => l.length - (intOf i).toNat)
    case atStart => exact ⟨0, Nat.zero_le _, rfl, by simp, 0, rfl⟩
    case round =>
      obtain ⟨k, hk, rfl, htk, n, rfl⟩ := hrel
      have HT := Lib.hid htk
      clear htk
      by_cases hlt : k < l.length
      · have hlt' : k < m.length := by have := HE.out; omega
        obtain ⟨b, off, rfl, hbB, hc1⟩ := hl.atI hlt
        obtain ⟨b', off', rfl, hbB', hc2⟩ := hm.atI hlt'
        obtain ⟨x, hx⟩ : ∃ x, x = l[k] := ⟨_, rfl⟩
        obtain ⟨y, hy⟩ : ∃ y, y = m[k] := ⟨_, rfl⟩
        rw [← hx] at hc1
        rw [← hy] at hc2
        have HX := Lib.hid hx
        have HY := Lib.hid hy
        clear hx hy hl hm
        by_cases hxy : x = y
        · subst hxy
          go_wp2
          go_quiet (fail)
          go_wp2
          go_roundw
          case rel => exact ⟨k + 1, by omega, by go_num, take_eq HT.out hlt hlt' (HX.out.symm.trans HY.out), n + nq, by first | rfl | exact World.drewN_drewN _ _ _⟩
          case measure => simp [intOf]; omega
        · have hne : (x != y) = true := by rw [bne_iff_ne]; exact hxy
          go_wp2
          go_quiet (fail)
          go_wp2
          go_ret
          exact ⟨ret_bool (by symm; rw [decide_eq_false_iff_not]; exact fun e => hxy (HX.out.trans ((getElem_of_take e hlt hlt').trans HY.out.symm))), n + nq, by first | rfl | exact World.drewN_drewN _ _ _⟩
      · obtain rfl : k = l.length := by omega
        go_wp2
        go_ret
        refine ⟨ret_bool ?_, n, rfl⟩
        have h1 := HT.out
        rw [List.take_length, List.take_of_length_le (by have := HE.out; omega)] at h1
        symm
        rw [decide_eq_true_eq]
        exact h1
  · have hne : ((l.length : Int) != (m.length : Int)) = true := by rw [bne_iff_ne]; omega
    have HE := Lib.hid he
    clear he hl hm
    go_enter Try.func49, Try.ntmps49
    go_wp2
    go_ret
    exact ⟨ret_bool (by symm; rw [decide_eq_false_iff_not]; exact fun e => HE.out (by rw [e])), 0, rfl⟩

theorem sl_new' {α : Type} {sz : Nat} (hsz : 0 < sz) {cell : α → Nat → Value} (w : World) (cs : Array Value) (e : TypeId) (l : List α) {g : Nat} (hg : w.heap.size = g) (h : cs.toList = fl sz cell l) : Sl (w.alloc (.cells cs e)) (w.alloc (.cells cs e)).heap.size sz cell (some ⟨g, 0, none⟩) l := by
  subst hg
  exact sl_new hsz w cs e l h
theorem infoInt : (Try.prog.info? 3).map (fun i => (i.zero, i.size, i.bytes)) = some (some (.int .i64 0), 1, 8) := by kernel_rfl
/-- what Clone answers: a list of the call's own -/
def SomeClone {α : Type} (e : TypeId) (sz : Nat) (cell : α → Nat → Value) (l : List α) (w : World) (en : Ending) (w' : World) : Prop :=
  ∃ A c, en = .returned (.slice A l.length c) ∧ Own w' w.heap.size e sz cell (.slice A l.length c) l ∧ Below w.heap.size w w'

set_option maxHeartbeats 1000000 in
theorem clone_int (A : Option Addr) (c : Nat) (l : List Int) (B : Nat) (w : World) (hl : Sl w B 1 ci A l) (hB : B ≤ w.heap.size) (hA : A = none → l.length = 0 ∧ c = 0) (hlen : l.length * 8 ≤ 140737488355328) :
    Calls Try.prog 27 #[.slice A l.length c] w fun e w' => SomeClone 3 1 ci l w e w' := by
  have qT : ∀ (w : World) (a : Option Addr) (n c n' c' : Nat), (binOp .eql 22 (.slice a n c) (.slice none n' c')).run Try.prog w = .ok (.bool a.isNone) w := fun w a n c n' c' => Lib.run_eql_slice_nil w 22 3 a n c n' c' Try.underlying22
  match A, hA with
  | none, hA =>
    obtain ⟨h0, rfl⟩ := hA rfl
    have hl0 : l = [] := List.eq_nil_of_length_eq_zero h0
    subst hl0
    go_enter Try.func27, Try.ntmps27
    go_wp2
    go_ret
    exact ⟨none, 0, rfl, Own.nil_, Below.refl _ _⟩
  | some ad, hA =>
    obtain ⟨i0, hi, hz0, hz1, hz2⟩ := info_parts infoInt
    have hmade : Own (w.alloc (.cells #[] 3)) w.heap.size 3 1 ci (.slice (some ⟨w.heap.size, 0, none⟩) 0 0) [] := World.ownsRow_made w #[] 0 (Nat.le_refl _) (Nat.zero_le _) rfl
    go_enter Try.func27, Try.ntmps27
    go_wp2_with (at_builtin; refine wpList_pushAll _ rfl (.tmp 5) (.tmp 6) _ rfl w.heap.size 3 i0 (.int .i64 0) 1 8 ci Try.underlying22 hi hz0 hz1 hz2 rfl (by decide) _ [] 0 rfl rfl hmade w.heap.size (some ad) _ _ l rfl rfl hA ((hl.more hB).keep ((Below.refl _ _).alloc (Nat.le_refl _) _) (Nat.le_refl _)) one_ci (by omega) (by omega) (by simp) ?_; intro A1 c1 w1 hown1 hgrow1 hat1)
    simp only [Nat.zero_add, List.nil_append] at hown1
    go_ret
    exact ⟨A1, c1, by simp, hown1, ((Below.refl _ _).alloc (Nat.le_refl _) _).grown hgrow1 (by simp) (hmade.lo)⟩

theorem equal_int' (A A' : Option Addr) (n m c c' : Nat) (l r : List Int) (B B' : Nat) (w : World) (hl : Sl w B 1 ci A l) (hm : Sl w B' 1 ci A' r) (hn : l.length = n) (hm' : r.length = m) (hlen : n ≤ 9223372036854775807) (b : Bool) (hb : decide (l = r) = b) :
    Calls Try.prog 49 #[.slice A n c, .slice A' m c'] w fun e w' => e = .returned (.bool b) ∧ ∃ k, w' = w.drewN k := by
  subst hn hm' hb
  exact equal_int A A' c c' l r B B' w hl hm hlen
end Go.Proofs.Ytpoolpaagbeokaa.Std
