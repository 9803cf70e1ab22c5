/- The walk of walk.Cost: what it answers. -/
import Derived.Test.YtjebckehmmbkbaaVWalkWalks
import Derived.Deep.RegionWith
namespace Go.Proofs.Ytjebckehmmbkbaa.Walk
open Go.RowKit Go.Proofs.Ytjebckehmmbkbaa NetLaw WalkLaw
set_option linter.unusedSimpArgs false
set_option linter.unusedVariables false

set_option maxRecDepth 100000 in
set_option maxHeartbeats 4000000 in
theorem cost_any (N : Int) (A : Option Addr) (c : Nat) (l : List E) (A' : Option Addr) (c' : Nat) (p : List Int) (w : World) (hl : Sl w w.heap.size 3 ce A l) (hp : Sl w w.heap.size 1 ci A' p) (hlen : l.length ≤ 9223372036854775807) (hlen' : p.length ≤ 9223372036854775807) :
    Calls Try.prog 10 #[.agg #[.int .i64 N, .slice A l.length c], .slice A' p.length c'] w fun e w' => e = .returned (.tuple #[.int .i64 (cost N l p).1, .int .i64 (cost N l p).2]) ∧ Below w.heap.size w w' := by
  have hB0 : Below w.heap.size w (w.alloc (.cells #[.int .i64 N, .slice A l.length c] 24)) := (Below.refl _ _).alloc (Nat.le_refl _) _
  by_cases hchk : chk N l = 0
  · have hg := chk_zero.1 hchk
    have hco : cost N l p = if p.length = 0 then (0, 1) else if 100 < p.length then (0, 2) else if p.any (outB N) then (0, 1) else if okP l (prs p) then (sumP l (prs p), 0) else (0, 5) := by rw [cost, if_neg (by simp [hchk])]
    have key := fun W hs => Net.check_any N A c l W hs hlen
    rw [hchk] at key
    have KEY := Lib.hid key
    clear key hchk
    by_cases hn : p.length = 0
    · have hp0 : p = [] := List.eq_nil_of_length_eq_zero hn
      subst hp0
      have hfin : cost N l [] = (0, 1) := by rw [hco]; rfl
      have HF := Lib.hid hfin
      clear hp hn hco hfin
      go_enter Try.func10, Try.ntmps10
      go_wp2_with fail
      refine (KEY.out _ ((hl.keep hB0 (Nat.le_refl _)).more (by simp))).mono ?_
      rintro e w1 ⟨rfl, hb⟩
      have hB := hB0.trans (hb.mono (by simp))
      go_wp2
      go_ret2
      rw [HF.out]
      exact ⟨rfl, hB⟩
    · have hn0 : ((p.length : Int) == 0) = false := beq_eq_false_iff_ne.2 (by omega)
      rw [if_neg hn] at hco
      by_cases hn2 : 100 < p.length
      · rw [if_pos hn2] at hco
        have HF := Lib.hid hco
        clear hp hn hco
        go_enter Try.func10, Try.ntmps10
        go_wp2_with fail
        refine (KEY.out _ ((hl.keep hB0 (Nat.le_refl _)).more (by simp))).mono ?_
        rintro e w1 ⟨rfl, hb⟩
        have hB := hB0.trans (hb.mono (by simp))
        go_wp2
        go_ret2
        rw [HF.out]
        exact ⟨rfl, hB⟩
      · rw [if_neg hn2] at hco
        have HCO := Lib.hid hco
        clear hco
        have hn3 : p.length ≤ 100 := by omega
        have hn4 : 1 ≤ p.length := by omega
        have HG := Lib.hid hg
        clear hn hn2 hg hlen hlen'
        go_enter Try.func10, Try.ntmps10
        go_wp2_with fail
        refine (KEY.out _ ((hl.keep hB0 (Nat.le_refl _)).more (by simp))).mono ?_
        rintro e w1 ⟨rfl, hb⟩
        have hB := hB0.trans (hb.mono (by simp))
        have hb1 : Below (w.heap.size + 1) _ w1 := hb.mono (by simp)
        obtain ⟨c1, f1⟩ := keepAt hb1 (Nat.lt_succ_self _)
        have hsz : w.heap.size < w1.heap.size := by have := hb.size; simp at this; omega
        have hp1 := hp.keep hB (Nat.le_refl _)
        go_wp2
        go_loop [8, 26] (fun _ i => ∃ k : Nat, k ≤ p.length ∧ i = .int .i64 k ∧ (p.take k).any (outB N) = false) (fun _ i => p.length - (intOf i).toNat)
        case atStart => exact ⟨0, Nat.zero_le _, rfl, by simp⟩
        case round =>
          obtain ⟨k, hk, rfl, hin⟩ := hrel
          have HIN := Lib.hid hin
          clear hin
          by_cases hlt : k < p.length
          · obtain ⟨b, off, rfl, hbB, hc1⟩ := hp1.atI hlt
            have hstep : (p.take (k + 1)).any (outB N) = outB N p[k] := by
              rw [List.take_succ_eq_append_getElem hlt, List.any_append, HIN.out]; simp
            have hbad : outB N p[k] = true → p.any (outB N) = true := fun h => List.any_eq_true.2 ⟨p[k], List.getElem_mem hlt, h⟩
            generalize p[k] = v at hc1 hstep hbad
            have HS := Lib.hid hstep
            have HBAD := Lib.hid hbad
            clear hstep hbad hp hp1
            rcases (show v < 0 ∨ (0 ≤ v ∧ N ≤ v) ∨ (0 ≤ v ∧ v < N) from by omega) with h | h | h
            · have hfin : cost N l p = (0, 1) := by rw [HCO.out, if_pos (HBAD.out (by simp [outB, h]))]
              have HF := Lib.hid hfin
              clear hfin
              go_wp2
              go_ret2
              rw [HF.out]
              exact ⟨rfl, hB⟩
            · have hfin : cost N l p = (0, 1) := by rw [HCO.out, if_pos (HBAD.out (by simp [outB, h]))]
              have HF := Lib.hid hfin
              clear hfin
              go_wp2
              go_ret2
              rw [HF.out]
              exact ⟨rfl, hB⟩
            · have hfin : (p.take (k + 1)).any (outB N) = false := by rw [HS.out]; simp [outB, h]
              have HF := Lib.hid hfin
              clear hfin
              go_wp2
              go_round
              case rel => exact ⟨k + 1, by omega, by go_num, HF.out⟩
              case measure => simp [intOf]; omega
          · obtain rfl : k = p.length := by omega
            have hall : p.any (outB N) = false := by have := HIN.out; rwa [List.take_length] at this
            have HALL := Lib.hid hall
            clear hall HIN
            have h0 : ((p.length : Int) < 2) ∨ ¬ ((p.length : Int) < 2) := by omega
            go_wp2
            go_loopw [9, 10] (fun s i wr => ∃ (k : Nat), k + 1 ≤ p.length ∧ i = .int .i64 ((k : Int) + 1) ∧ s = .int .i64 (sumP l ((prs p).take k)) ∧ okP l ((prs p).take k) = true ∧ Below (w.heap.size + 1) (w.alloc (.cells #[.int .i64 N, .slice A l.length c] 24)) wr) (fun _ i _ => (p.length + 1 - (intOf i)).toNat)
            case atStart => exact ⟨0, by omega, rfl, rfl, rfl, hb1⟩
            case round =>
              obtain ⟨k, hk, rfl, rfl, hok, hBr⟩ := hrel
              have hbd := sumP_bd HG.out.cost ((prs p).take k)
              have hlk : ((prs p).take k).length ≤ k := List.length_take_le _ _
              have hlo : -1000000 ≤ sumP l ((prs p).take k) := by omega
              have hhi : sumP l ((prs p).take k) ≤ 1000000 := by omega
              have HOK := Lib.hid hok
              clear hbd hlk hok
              by_cases hlt : k + 1 < p.length
              · have hp2 := (hp.keep hB0 (Nat.le_refl _)).keep hBr (Nat.le_succ _)
                obtain ⟨b, off, rfl, hbB, hca⟩ := hp2.atI (k := k) (by omega)
                obtain ⟨b2, off2, hA2, hbB2, hcb⟩ := hp2.atI hlt
                injection hA2 with hA2
                injection hA2 with hA2 hA3
                subst hA2 hA3
                have hpg := prs_get hlt
                have hl2 : Sl wr wr.heap.size 3 ce A l := ((hl.keep hB0 (Nat.le_refl _)).keep hBr (Nat.le_succ _)).more (by have := hBr.size; simp at this; omega)
                have hst1 : (prs p).take (k + 1) = (prs p).take k ++ [(p[k], p[k + 1])] := by
                  rw [List.take_add_one, hpg]; rfl
                obtain ⟨c2, f2⟩ := keepAt hBr (Nat.lt_succ_self _)
                have hsz2 : w.heap.size < wr.heap.size := by have := hBr.size; simp at this; omega
                have hbw : b < wr.heap.size := by omega
                have hl6 := HG.out.len
                have HST := Lib.hid hst1
                obtain ⟨x, hx⟩ : ∃ x, x = p[k] := ⟨_, rfl⟩
                obtain ⟨y, hy⟩ : ∃ y, y = p[k + 1] := ⟨_, rfl⟩
                rw [← hx] at hca
                rw [← hy] at hcb
                have HX := Lib.hid hx
                have HY := Lib.hid hy
                clear hst1 hpg hx hy
                have w1 : IntKind.i64.wrap (k : Int) = (k : Int) := IntWalk.i64_in _ (by omega)
                have w2 : (k : Int) < (p.length : Int) := by omega
                have w3 : (k : Int) + 1 < (p.length : Int) := by omega
                have w4 : 0 ≤ (k : Int) + 1 := by omega
                have w5 : ((k : Int) + 1).toNat = k + 1 := by omega
                have key2 := edge_any N x y A c l wr.drew hl2 (by omega)
                obtain ⟨cst, ok1, hec⟩ : ∃ a b, eg l x y = (a, b) := ⟨_, _, rfl⟩
                rw [hec] at key2
                have hcb1 := eg_bd HG.out.cost x y
                rw [hec] at hcb1
                obtain ⟨hcb2, hcb3⟩ := hcb1
                simp only at hcb2 hcb3
                have HEC := Lib.hid hec
                have KEY2 := Lib.hid key2
                clear key2 hec
                go_wp2
                go_region_with (go_at_call 27; refine KEY2.out.mono ?_; rintro e w3 ⟨rfl, hb3⟩; obtain ⟨c3, f3⟩ := keepN hb3)
                all_goals
                  have hB3 : Below (w.heap.size + 1) (w.alloc (.cells #[.int .i64 N, .slice A l.length c] 24)) w3 := hBr.drew.trans (hb3.mono hsz2)
                  have hB4 : Below w.heap.size w w3 := hB0.trans (hB3.mono (Nat.le_succ _))
                  clear hb3 c3 f3 c2 f2 hl2 hp2 hca hcb
                  rcases Bool.eq_false_or_eq_true ok1 with rfl | rfl
                  · go_wp2
                    go_roundw
                    case' rel => exact ⟨k + 1, by omega, by go_num, by rw [HST.out, sumP_snoc, ← HX.out, ← HY.out, HEC.out], by rw [HST.out, okP_snoc, HOK.out, ← HX.out, ← HY.out, HEC.out, Bool.and_true], hB3⟩
                    case' measure => simp [intOf]; omega
                  · have hbad : okP l (prs p) = false := by
                      have h1 : okP l ((prs p).take (k + 1)) = false := by rw [HST.out, okP_snoc, ← HX.out, ← HY.out, HEC.out, Bool.and_false]
                      cases h2 : okP l (prs p) with
                      | false => rfl
                      | true =>
                        have h3 : okP l ((prs p).take (k + 1)) = true := List.all_eq_true.2 fun q hq => List.all_eq_true.1 h2 q (List.mem_of_mem_take hq)
                        rw [h1] at h3; cases h3
                    have hfin : cost N l p = (0, 5) := by rw [HCO.out, HALL.out, hbad]; rfl
                    have HF := Lib.hid hfin
                    clear hbad hfin
                    go_wp2
                    go_ret2
                    rw [HF.out]
                    exact ⟨rfl, hB4⟩
              · have hkl : k + 1 = p.length := by omega
                have hta : (prs p).take k = prs p := List.take_of_length_le (by rw [prs_len]; omega)
                have hok2 : okP l (prs p) = true := by have := HOK.out; rwa [hta] at this
                have hfin : cost N l p = (sumP l ((prs p).take k), 0) := by rw [HCO.out, HALL.out, hok2, hta]; rfl
                have HF := Lib.hid hfin
                have hB4 : Below w.heap.size w wr := hB0.trans (hBr.mono (Nat.le_succ _))
                have hk2 : ¬ ((k : Int) + 1 < p.length) := by omega
                clear hkl hta hok2 hfin hlt
                go_wp2
                go_ret2
                rw [HF.out]
                exact ⟨rfl, hB4⟩
  · have hfin : cost N l p = (0, chk N l) := by rw [cost, if_pos hchk]
    have h1 : (chk N l != 0) = true := by rw [bne_iff_ne]; exact hchk
    have key := fun W hs => Net.check_any N A c l W hs hlen
    have KEY := Lib.hid key
    have HF := Lib.hid hfin
    clear key hchk hfin
    generalize chk N l = er at *
    clear hp
    go_enter Try.func10, Try.ntmps10
    go_wp2_with fail
    refine (KEY.out _ ((hl.keep hB0 (Nat.le_refl _)).more (by simp))).mono ?_
    rintro e w1 ⟨rfl, hb⟩
    have hB := hB0.trans (hb.mono (by simp))
    go_wp2
    go_ret2
    rw [HF.out]
    exact ⟨rfl, hB⟩
end Go.Proofs.Ytjebckehmmbkbaa.Walk
