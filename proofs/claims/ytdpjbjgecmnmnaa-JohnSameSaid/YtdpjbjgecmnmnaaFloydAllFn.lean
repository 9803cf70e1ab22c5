/- What floyd.All answers. -/
import Derived.Test.YtdpjbjgecmnmnaaFloydAll
import Derived.Test.YtdpjbjgecmnmnaaRowsInt
import Derived.Laws.EntriesVeiled
namespace Go.Proofs.Ytdpjbjgecmnmnaa.FloydAll
open Go.RowKit Go.Proofs.Ytdpjbjgecmnmnaa NetLaw BellLaw FloydLaw Go.Proofs.Ytdpjbjgecmnmnaa.Net Go.Proofs.Ytdpjbjgecmnmnaa.Std Go.Proofs.Ytdpjbjgecmnmnaa.Mat Go.Proofs.Ytdpjbjgecmnmnaa.RowsInt
set_option linter.unusedSimpArgs false
set_option linter.unusedVariables false
/-- does some place cost less than 0 from itself? -/
def neg (n : Nat) (M : Mx Int) : Bool := (List.range n).any fun i => decide (M i i < 0)
theorem neg_false {n : Nat} {M : Mx Int} (h : neg n M = false) (i : Nat) (hi : i < n) : 0 ≤ M i i := by
  rw [neg, List.any_eq_false] at h
  have := h i (List.mem_range.2 hi)
  simp at this
  omega
theorem neg_true {n : Nat} {M : Mx Int} {i : Nat} (hi : i < n) (h : M i i < 0) : neg n M = true := by
  rw [neg, List.any_eq_true]
  exact ⟨i, List.mem_range.2 hi, by simpa using h⟩
/-- the fault that All tells -/
def aerr (N : Int) (l : List E) : Int := if chk N l ≠ 0 then chk N l else if neg N.toNat (all N.toNat l) = true then 6 else 0
/-- what All answers -/
def Says (N : Int) (l : List E) (w : World) (e : Ending) (w' : World) : Prop :=
  (aerr N l ≠ 0 → e = .returned (.tuple #[.slice none 0 0, .int .i64 (aerr N l)])) ∧
  (aerr N l = 0 → ∃ S F, e = .returned (.tuple #[.slice (some ⟨S, 0, none⟩) N.toNat N.toNat, .int .i64 0]) ∧ Mt w' 25 3 q w.heap.size S N.toNat N.toNat F (all N.toNat l)) ∧ Below w.heap.size w w'
set_option maxHeartbeats 2000000 in
theorem All_any (N : Int) (A : Option Addr) (c : Nat) (l : List E) (w : World) (hl : Sl w w.heap.size 3 ce A l) (hlen : l.length ≤ 9223372036854775807) :
    Calls Try.prog 34 #[.agg #[.int .i64 N, .slice A l.length c]] w fun e w' => Says N l w e w' := by
  have hw0 : Below w.heap.size w (w.alloc (.cells #[.int .i64 N, .slice A l.length c] 24)) := (Below.refl _ _).alloc (Nat.le_refl _) _
  have key := check_any N A c l _ ((hl.keep hw0 (Nat.le_refl _)).more (show w.heap.size ≤ (w.alloc (.cells #[.int .i64 N, .slice A l.length c] 24)).heap.size by simp)) hlen
  by_cases hg : chk N l = 0
  · have hgood := chk_zero.1 hg
    have hN1 := hgood.lo
    have hN2 := hgood.hi
    obtain ⟨n, rfl⟩ := Int.eq_ofNat_of_zero_le (show 0 ≤ N by omega)
    have kc := fun W h => closed_any n A c l W h hgood
    rw [hg] at key
    have KEY := Lib.hid key
    have KC := Lib.hid kc
    have HG := Lib.hid hg
    clear key kc hg hgood hlen
    go_enter Try.func34, Try.ntmps34
    go_wp2_with fail
    refine KEY.out.mono ?_
    rintro e w1 ⟨rfl, hb1⟩
    have B1 : Below (w.heap.size + 1) _ w1 := hb1.mono (by simp)
    have H1 := hw0.trans (B1.mono (Nat.le_succ _))
    have Z1 : w.heap.size + 1 ≤ w1.heap.size := by have := hb1.size; simp at this; omega
    have z1 : w.heap.size < w1.heap.size := by omega
    obtain ⟨cc, _⟩ := keepAt B1 (Nat.lt_succ_self _)
    have q0 := cc 0
    have q1 := cc 1
    simp at q0 q1
    clear cc hb1 B1
    go_wp2_with fail
    refine (KC.out _ ((hl.keep H1 (Nat.le_refl _)).keep ((Below.refl _ _).alloc H1.size _) (Nat.le_refl _) |>.more (by simp; omega))).mono ?_
    rintro e w2 ⟨S, F, rfl, hmt, hb2⟩
    have H2 := (H1.alloc H1.size _).trans (hb2.mono (by simp; omega))
    have hmt2 := hmt.base_ (show w.heap.size ≤ _ by simp; omega)
    have HMT := Lib.hid hmt2
    clear hmt hmt2 hb2 q0 q1 hl
    go_wp2
    go_loop [19] (fun i => ∃ k : Nat, k ≤ n ∧ i = .int .i64 k ∧ Hid (∀ j, j < k → 0 ≤ all n l j j)) (fun i => n - (intOf i).toNat)
    case atStart => exact ⟨0, Nat.zero_le _, rfl, Lib.hid (fun j hj => by omega)⟩
    case round =>
      obtain ⟨k, hk, rfl, hall⟩ := hrel
      by_cases hlt : k < n
      · have g1 := HMT.out.head (v := k) hlt
        obtain ⟨c1, _⟩ := HMT.out.cell (v := k) (j := k) hlt hlt
        have hkk : neg n (all n l) = false → 0 ≤ all n l k k := fun h => neg_false h k hlt
        have hkt : all n l k k < 0 → neg n (all n l) = true := fun h => neg_true hlt h
        have HT := Lib.hid hkt
        have hst : 0 ≤ all n l k k → Hid (∀ j, j < k + 1 → 0 ≤ all n l j j) := fun h => Lib.hid (fun j hj => by
          by_cases e : j = k
          · rw [e]; exact h
          · exact hall.out j (by omega))
        have HST := Lib.hid hst
        change w2.cell? ⟨F k, k, none⟩ = some (.int .i64 (all n l k k)) at c1
        generalize all n l k k = x at *
        clear hkk hkt hst
        by_cases hx : x < 0
        · have hneg := HT.out hx
          have herr : aerr n l = 6 := by rw [aerr, if_neg (by simpa using HG.out), Int.toNat_natCast, if_pos hneg]
          have HE := Lib.hid herr
          clear hneg herr
          go_wp2
          go_ret2
          unfold Says
          rw [HE.out]
          exact ⟨fun _ => rfl, fun h => absurd h (by decide), H2⟩
        · have h3 := HST.out (by omega)
          go_wp2
          go_round
          case rel => exact ⟨k + 1, by omega, by go_num, h3⟩
          case measure => simp [intOf]; omega
      · obtain rfl : k = n := by omega
        have hneg : neg k (all k l) = false := by
          rw [neg, List.any_eq_false]
          intro i hi
          have := hall.out i (List.mem_range.1 hi)
          simp
          omega
        have herr : aerr k l = 0 := by rw [aerr, if_neg (by simpa using HG.out), Int.toNat_natCast, if_neg (by rw [hneg]; decide)]
        have HE := Lib.hid herr
        clear hneg herr hall
        go_wp2
        go_ret2
        exact ⟨fun h => absurd HE.out h, fun _ => ⟨S, F, by simp, by rw [Int.toNat_natCast]; exact HMT.out⟩, H2⟩
  · have hne : (chk N l != 0) = true := by rw [bne_iff_ne]; exact hg
    have herr : aerr N l = chk N l := by rw [aerr, if_pos hg]
    unfold Says
    rw [herr]
    clear herr
    generalize chk N l = x at *
    have KEY := Lib.hid key
    clear key hl
    go_enter Try.func34, Try.ntmps34
    go_wp2_with fail
    refine KEY.out.mono ?_
    rintro e w1 ⟨rfl, hb1⟩
    have H1 := hw0.trans (hb1.mono (by simp))
    clear hb1
    go_wp2
    go_ret2
    exact ⟨fun _ => rfl, fun h => absurd h hg, H1⟩

theorem two_e : aerr 2 [(0, 1, 5)] = 0 := by decide +kernel
theorem two_v : rows 2 (all 2 [(0, 1, 5)]) = [[0, 5], [far, 0]] := by decide +kernel
theorem two_of (W : World) (g : Nat) (h : Sl W W.heap.size 3 ce (some ⟨g, 0, none⟩) [(0, 1, 5)]) :
    Calls Try.prog 34 #[.agg #[.int .i64 2, .slice (some ⟨g, 0, none⟩) 1 1]] W fun e w' => ∃ S, e = .returned (.tuple #[.slice (some ⟨S, 0, none⟩) 2 2, .int .i64 0]) ∧ Sr w' w'.heap.size (some ⟨S, 0, none⟩) [[0, 5], [far, 0]] ∧ Below W.heap.size W w' := by
  refine (All_any 2 (some ⟨g, 0, none⟩) 1 [(0, 1, 5)] W h (by decide)).mono ?_
  rintro e w' ⟨_, k2, k3⟩
  obtain ⟨S, F, k4, k5⟩ := k2 two_e
  have k6 := sr_mt (fun x => rfl) k5
  have e : rows (2 : Int).toNat (all (2 : Int).toNat [(0, 1, 5)]) = [[0, 5], [far, 0]] := two_v
  rw [e] at k6
  exact ⟨S, k4, k6, k3⟩
/-- All of any net -/
theorem yes_of (N : Int) (A : Option Addr) (c : Nat) (l : List E) (hll : l.length ≤ 9223372036854775807) (hk : aerr N l = 0) (W : World) (h : Sl W W.heap.size 3 ce A l) :
    Calls Try.prog 34 #[.agg #[.int .i64 N, .slice A l.length c]] W fun e w' => ∃ S F, e = .returned (.tuple #[.slice (some ⟨S, 0, none⟩) N.toNat N.toNat, .int .i64 0]) ∧ Mt w' 25 3 q W.heap.size S N.toNat N.toNat F (all N.toNat l) ∧ Below W.heap.size W w' := by
  refine (All_any N A c l W h hll).mono ?_
  rintro e w' ⟨_, k2, k3⟩
  obtain ⟨S, F, k4, k5⟩ := k2 hk
  exact ⟨S, F, k4, k5, k3⟩
theorem no_of (N : Int) (A : Option Addr) (c : Nat) (l : List E) (hll : l.length ≤ 9223372036854775807) (hk : aerr N l ≠ 0) (W : World) (h : Sl W W.heap.size 3 ce A l) :
    Calls Try.prog 34 #[.agg #[.int .i64 N, .slice A l.length c]] W fun e w' => e = .returned (.tuple #[.slice none 0 0, .int .i64 (aerr N l)]) ∧ Below W.heap.size W w' := by
  refine (All_any N A c l W h hll).mono ?_
  rintro e w' ⟨k1, _, k3⟩
  exact ⟨k1 hk, k3⟩
end Go.Proofs.Ytdpjbjgecmnmnaa.FloydAll
