/- fellkeep.once, slices.IsSorted and cmp.Less at int. -/
import Derived.Test.YtamphgcpfncenaaVStdCI
import Derived.IntWalk
namespace Go.Proofs.Ytamphgcpfncenaa.Std
open Go.RowKit Go.Proofs.Ytamphgcpfncenaa
set_option linter.unusedSimpArgs false
set_option linter.unusedVariables false
theorem nodup_take {l : List Int} {k : Nat} (h : k < l.length) : (l.take (k + 1)).Nodup ↔ (l.take k).Nodup ∧ l[k] ∉ l.take k := by
  rw [List.take_succ_eq_append_getElem h, List.nodup_append]
  simp only [List.nodup_cons, List.mem_singleton, List.not_mem_nil, not_false_eq_true, List.nodup_nil, and_self, true_and]
  constructor
  · rintro ⟨h1, h2⟩
    exact ⟨h1, fun hm => h2 _ hm _ rfl rfl⟩
  · rintro ⟨h1, h2⟩
    exact ⟨h1, fun a ha b hb e => h2 (by rw [← hb, ← e]; exact ha)⟩
theorem nodup_of_take {l : List Int} (k : Nat) (h : l.Nodup) : (l.take k).Nodup := (List.take_sublist k l).nodup h
set_option maxRecDepth 100000 in
set_option maxHeartbeats 1000000 in
theorem once_wide (A : Option Addr) (c n : Nat) (l : List Int) (B : Nat) (w : World) (hl : Sl w B 1 ci A l) (hn : l.length = n) (hc : n ≤ c) (hlen : n ≤ 9223372036854775807) (b : Bool) (hb : decide l.Nodup = b) :
    Calls Try.prog 26 #[.slice A n c] w fun e w' => e = .returned (.bool b) ∧ w' = w := by
  have HB := Lib.hid hb
  have HN := Lib.hid hn
  clear hb hn
  go_enter Try.func26, Try.ntmps26
  go_wp2
  go_loop [7] (fun i => ∃ k : Nat, k ≤ n ∧ i = .int .i64 k ∧ Hid (l.take k).Nodup) (fun i => n - (intOf i).toNat)
  case atStart => exact ⟨0, Nat.zero_le _, rfl, Lib.hid (by simp)⟩
  case round =>
    obtain ⟨k, hk, rfl, hnd⟩ := hrel
    by_cases hlt : k < n
    · have hkl : k < l.length := by rw [HN.out]; exact hlt
      obtain ⟨b1, o1, rfl, hb1, hcx⟩ := hl.atI hkl
      have htk : (l.take k).length = k := by rw [List.length_take, HN.out]; omega
      have hslk : Sl w B 1 ci (some ⟨b1, o1, none⟩) (l.take k) := by
        intro h0
        obtain ⟨b2, o2, hA, hlt2, hcc⟩ := hl (by omega)
        exact ⟨b2, o2, hA, hlt2, fun i hi j hj => by rw [hcc i (by rw [HN.out]; omega) j hj, List.getElem_take]⟩
      have hst := nodup_take hkl
      have key := fun b (hb : decide (l[k] ∈ l.take k) = b) => contains_int (some ⟨b1, o1, none⟩) c k (l.take k) l[k] B w hslk htk (by omega) b hb
      have KEY := Lib.hid key
      have HST := Lib.hid hst
      have HL := Lib.hid hl
      clear key hst hslk htk hl
      generalize hx : l[k] = x at *
      clear hx
      by_cases hm : x ∈ l.take k
      · have k1 := KEY.out true (decide_eq_true hm)
        have K1 := Lib.hid k1
        have hno : b = false := by
          rw [← HB.out]
          exact decide_eq_false (fun h => (HST.out.1 (nodup_of_take (k + 1) h)).2 hm)
        have HNO := Lib.hid hno
        clear k1 hno hm KEY
        go_wp2_with fail
        refine K1.out.mono ?_
        rintro e w1 ⟨rfl, rfl⟩
        go_wp2
        go_ret
        exact ⟨ret_bool HNO.out.symm, rfl⟩
      · have k1 := KEY.out false (decide_eq_false hm)
        have K1 := Lib.hid k1
        have hno := HST.out.2 ⟨hnd.out, hm⟩
        have HNO := Lib.hid hno
        clear k1 hno hm KEY
        go_wp2_with fail
        refine K1.out.mono ?_
        rintro e w1 ⟨rfl, rfl⟩
        go_wp2
        go_round
        case rel => exact ⟨k + 1, by omega, by go_num, HNO⟩
        case measure => simp [intOf]; omega
    · obtain rfl : k = n := by omega
      have hyes : b = true := by
        rw [← HB.out]
        refine decide_eq_true ?_
        have := hnd.out
        rwa [List.take_of_length_le (by rw [HN.out]; exact Nat.le_refl _)] at this
      have HY := Lib.hid hyes
      clear hyes hnd
      go_wp2
      go_ret
      exact ⟨ret_bool HY.out.symm, rfl⟩
theorem once_any (A : Option Addr) (c n : Nat) (l : List Int) (B : Nat) (w : World) (hl : Sl w B 1 ci A l) (hn : l.length = n) (hc : n ≤ c) (hlen : c ≤ 9223372036854775807) (b : Bool) (hb : decide l.Nodup = b) :
    Calls Try.prog 26 #[.slice A n c] w fun e w' => e = .returned (.bool b) ∧ w' = w :=
  once_wide A c n l B w hl hn hc (Nat.le_trans hc hlen) b hb
theorem isNaN_int (a : Int) (w : World) : Calls Try.prog 99 #[.int .i64 a] w fun e w' => e = .returned (.bool false) ∧ w' = w := by
  go_enter Try.func99, Try.ntmps99
  go_wp2
  go_ret
  exact ⟨by first | rfl | simp, rfl⟩
theorem cmpless_int (a b : Int) (w : World) : Calls Try.prog 122 #[.int .i64 a, .int .i64 b] w fun e w' => e = .returned (.bool (decide (a < b))) ∧ w' = w := by
  have key := fun x W => isNaN_int x W
  have KEY := Lib.hid key
  clear key
  go_enter Try.func122, Try.ntmps122
  go_wp2_with (go_at_call 99; refine (KEY.out _ _).mono ?_; rintro e w1 ⟨rfl, rfl⟩)
  go_ret
  exact ⟨by first | rfl | simp, rfl⟩
end Go.Proofs.Ytamphgcpfncenaa.Std
