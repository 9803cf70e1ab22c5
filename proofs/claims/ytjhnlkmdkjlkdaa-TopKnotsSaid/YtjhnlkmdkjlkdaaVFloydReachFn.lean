/- What floyd.Reach answers. -/
import Derived.Test.YtjhnlkmdkjlkdaaVFloydReach
import Derived.Test.YtjhnlkmdkjlkdaaVRowsBool
import Derived.Laws.EntriesVeiled
namespace Go.Proofs.Ytjhnlkmdkjlkdaa.FloydReach
open Go.RowKit Go.Proofs.Ytjhnlkmdkjlkdaa NetLaw BellLaw FloydLaw Go.Proofs.Ytjhnlkmdkjlkdaa.Net Go.Proofs.Ytjhnlkmdkjlkdaa.Std Go.Proofs.Ytjhnlkmdkjlkdaa.Mat Go.Proofs.Ytjhnlkmdkjlkdaa.RowsBool
set_option linter.unusedSimpArgs false
set_option linter.unusedVariables false
def reach (n : Nat) (l : List E) : Mx Bool := clo or and false true yes n l
/-- what Reach answers -/
def Says (N : Int) (l : List E) (w : World) (e : Ending) (w' : World) : Prop :=
  (chk N l ≠ 0 → e = .returned (.tuple #[.slice none 0 0, .int .i64 (chk N l)])) ∧
  (chk N l = 0 → ∃ S F, e = .returned (.tuple #[.slice (some ⟨S, 0, none⟩) N.toNat N.toNat, .int .i64 0]) ∧ Mt w' 38 4 q w.heap.size S N.toNat N.toNat F (reach N.toNat l)) ∧ Below w.heap.size w w'
set_option maxHeartbeats 2000000 in
theorem Reach_any (N : Int) (A : Option Addr) (c : Nat) (l : List E) (w : World) (hl : Sl w w.heap.size 3 ce A l) (hlen : l.length ≤ 9223372036854775807) :
    Calls Try.prog 17 #[.agg #[.int .i64 N, .slice A l.length c]] w fun e w' => Says N l w e w' := by
  have hw0 : Below w.heap.size w (w.alloc (.cells #[.int .i64 N, .slice A l.length c] 24)) := (Below.refl _ _).alloc (Nat.le_refl _) _
  have key := check_any N A c l _ ((hl.keep hw0 (Nat.le_refl _)).more (show w.heap.size ≤ (w.alloc (.cells #[.int .i64 N, .slice A l.length c] 24)).heap.size by simp)) hlen
  by_cases hg : chk N l = 0
  · have hgood := chk_zero.1 hg
    have hN1 := hgood.lo
    have hN2 := hgood.hi
    obtain ⟨n, rfl⟩ := Int.eq_ofNat_of_zero_le (show 0 ≤ N by omega)
    have kc := fun W h => closed_any n A c l W h hgood
    rw [hg] at key
    have KEY := Lib.hid key
    have KC := Lib.hid kc
    have HG := Lib.hid hg
    clear key kc hg hgood hlen
    go_enter Try.func17, Try.ntmps17
    go_wp2_with fail
    refine KEY.out.mono ?_
    rintro e w1 ⟨rfl, hb1⟩
    have B1 : Below (w.heap.size + 1) _ w1 := hb1.mono (by simp)
    have H1 := hw0.trans (B1.mono (Nat.le_succ _))
    have Z1 : w.heap.size + 1 ≤ w1.heap.size := by have := hb1.size; simp at this; omega
    have z1 : w.heap.size < w1.heap.size := by omega
    obtain ⟨cc, _⟩ := keepAt B1 (Nat.lt_succ_self _)
    have q0 := cc 0
    have q1 := cc 1
    simp at q0 q1
    clear cc hb1 B1
    go_wp2_with fail
    refine (KC.out _ ((hl.keep H1 (Nat.le_refl _)).keep ((Below.refl _ _).alloc H1.size _) (Nat.le_refl _) |>.more (by simp; omega))).mono ?_
    rintro e w2 ⟨S, F, rfl, hmt, hb2⟩
    have H2 := (H1.alloc H1.size _).trans (hb2.mono (by simp; omega))
    have hmt2 := hmt.base_ (show w.heap.size ≤ _ by simp; omega)
    have HMT := Lib.hid hmt2
    clear hmt hmt2 hb2 q0 q1 hl
    go_wp2
    go_ret2
    exact ⟨fun h => absurd HG.out h, fun _ => ⟨S, F, by simp, by rw [Int.toNat_natCast]; exact HMT.out⟩, H2⟩
  · have hne : (chk N l != 0) = true := by rw [bne_iff_ne]; exact hg
    unfold Says
    generalize chk N l = x at *
    have KEY := Lib.hid key
    clear key hl
    go_enter Try.func17, Try.ntmps17
    go_wp2_with fail
    refine KEY.out.mono ?_
    rintro e w1 ⟨rfl, hb1⟩
    have H1 := hw0.trans (hb1.mono (by simp))
    clear hb1
    go_wp2
    go_ret2
    exact ⟨fun _ => rfl, fun h => absurd h hg, H1⟩

theorem two_e : chk 2 [(0, 1, 5)] = 0 := by decide +kernel
theorem two_v : rows 2 (reach 2 [(0, 1, 5)]) = [[true, true], [false, true]] := by decide +kernel
theorem two_of (W : World) (g : Nat) (h : Sl W W.heap.size 3 ce (some ⟨g, 0, none⟩) [(0, 1, 5)]) :
    Calls Try.prog 17 #[.agg #[.int .i64 2, .slice (some ⟨g, 0, none⟩) 1 1]] W fun e w' => ∃ S, e = .returned (.tuple #[.slice (some ⟨S, 0, none⟩) 2 2, .int .i64 0]) ∧ Sr w' w'.heap.size (some ⟨S, 0, none⟩) [[true, true], [false, true]] ∧ Below W.heap.size W w' := by
  refine (Reach_any 2 (some ⟨g, 0, none⟩) 1 [(0, 1, 5)] W h (by decide)).mono ?_
  rintro e w' ⟨_, k2, k3⟩
  obtain ⟨S, F, k4, k5⟩ := k2 two_e
  have k6 := sr_mt (fun x => rfl) k5
  have e : rows (2 : Int).toNat (reach (2 : Int).toNat [(0, 1, 5)]) = [[true, true], [false, true]] := two_v
  rw [e] at k6
  exact ⟨S, k4, k6, k3⟩
/-- Reach of any net -/
theorem yes_of (N : Int) (A : Option Addr) (c : Nat) (l : List E) (hll : l.length ≤ 9223372036854775807) (hk : chk N l = 0) (W : World) (h : Sl W W.heap.size 3 ce A l) :
    Calls Try.prog 17 #[.agg #[.int .i64 N, .slice A l.length c]] W fun e w' => ∃ S F, e = .returned (.tuple #[.slice (some ⟨S, 0, none⟩) N.toNat N.toNat, .int .i64 0]) ∧ Mt w' 38 4 q W.heap.size S N.toNat N.toNat F (reach N.toNat l) ∧ Below W.heap.size W w' := by
  refine (Reach_any N A c l W h hll).mono ?_
  rintro e w' ⟨_, k2, k3⟩
  obtain ⟨S, F, k4, k5⟩ := k2 hk
  exact ⟨S, F, k4, k5, k3⟩
theorem no_of (N : Int) (A : Option Addr) (c : Nat) (l : List E) (hll : l.length ≤ 9223372036854775807) (hk : chk N l ≠ 0) (W : World) (h : Sl W W.heap.size 3 ce A l) :
    Calls Try.prog 17 #[.agg #[.int .i64 N, .slice A l.length c]] W fun e w' => e = .returned (.tuple #[.slice none 0 0, .int .i64 (chk N l)]) ∧ Below W.heap.size W w' := by
  refine (Reach_any N A c l W h hll).mono ?_
  rintro e w' ⟨k1, _, k3⟩
  exact ⟨k1 hk, k3⟩
end Go.Proofs.Ytjhnlkmdkjlkdaa.FloydReach
