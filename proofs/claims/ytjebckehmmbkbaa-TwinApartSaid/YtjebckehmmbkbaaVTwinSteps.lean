/- The walk of fellref.steps, for two walks. -/
import Derived.Test.YtjebckehmmbkbaaVTwinAp
namespace Go.Proofs.Ytjebckehmmbkbaa.TwinA
open Go.RowKit Go.Proofs.Ytjebckehmmbkbaa NetLaw BellLaw FlowLaw WalkLaw TwinLaw Go.Proofs.Ytjebckehmmbkbaa.Net Go.Proofs.Ytjebckehmmbkbaa.Std Go.Proofs.Ytjebckehmmbkbaa.PairMap
set_option linter.unusedSimpArgs false
set_option linter.unusedVariables false
set_option maxRecDepth 100000 in
set_option maxHeartbeats 4000000 in
theorem steps_any (u v : Int) (bs cs : Nat) (p q : List Int) (w : World) (hbs : bs < w.heap.size) (hsel : ∀ k, k < 2 → ∃ br off nx cx r, Sel w w.heap.size bs p q k br off nx cx r) :
    Calls Try.prog 25 #[.int .i64 u, .int .i64 v, .slice (some ⟨bs, 0, none⟩) 2 cs] w fun e w' => e = .returned (.int .i64 ((prs p ++ prs q).count (u, v) : Int)) ∧ Hid (w = w') := by
  have SEL := Lib.hid hsel
  clear hsel
  go_enter Try.func25, Try.ntmps25
  go_wp2
  go_loopw [13, 7] (fun s s7 wr => ∃ k : Nat, k ≤ 2 ∧ s = .int .i64 k ∧ s7 = .int .i64 ((Ls p q k).count (u, v) : Int) ∧ Hid (w = wr)) (fun s _ _ => 2 - (intOf s).toNat)
  case atStart => exact ⟨0, by omega, rfl, by unfold Ls; rfl, Lib.hid rfl⟩
  case round =>
    obtain ⟨k, hk, rfl, rfl, HW⟩ := hrel
    have hw := HW.out
    subst hw
    by_cases hk2 : k < 2
    · obtain ⟨br, off, nx, cx', r, hs⟩ := SEL.out k hk2
      have hcell := hs.cell w (Below.refl _ _) (fun _ => rfl)
      have hk3 : (k : Int) < 2 := by omega
      have hnx1 := hs.one
      have hnx2 := hs.hi
      have zbr := hs.lt
      have HS := Lib.hid hs
      clear hs HW
      obtain ⟨cn, hcn⟩ : ∃ cn : Int, ((Ls p q k).count (u, v) : Int) = cn := ⟨_, rfl⟩
      have HCN := Lib.hid hcn
      rw [hcn]
      clear hcn
      go_wp2
      go_loopw [10, 7] (fun s s7 wq => ∃ j : Nat, j + 1 ≤ nx ∧ s = .int .i64 ((j : Int) + 1) ∧ s7 = .int .i64 ((Ls p q k ++ (prs r).take j).count (u, v) : Int) ∧ Hid (w = wq)) (fun s _ _ => nx - (intOf s).toNat)
      case atStart => exact ⟨0, by omega, by simp, by rw [← HCN.out]; simp, Lib.hid rfl⟩
      case round =>
        obtain ⟨j, hj, rfl, rfl, HW⟩ := hrel
        have hw := HW.out
        subst hw
        clear HW HCN hcell
        by_cases hj2 : j + 1 < nx
        · have cx := HS.out.at_ w (Below.refl _ _) j (by omega)
          have cy := HS.out.at_ w (Below.refl _ _) (j + 1) hj2
          have hlen := HS.out.len
          have hx : r.getD j 0 = r[j]'(by omega) := by simp [show j < r.length by omega]
          have hy : r.getD (j + 1) 0 = r[j + 1]'(by omega) := by simp [show j + 1 < r.length by omega]
          have hprs : (prs r).take (j + 1) = (prs r).take j ++ [(r[j]'(by omega), r[j + 1]'(by omega))] := by
            have hjl : j < (prs r).length := by rw [prs_len]; omega
            rw [List.take_succ_eq_append_getElem hjl]
            have := prs_get (p := r) (k := j) (by omega)
            rw [List.getElem?_eq_getElem hjl] at this
            injection this with this
            rw [this]
          rw [hx] at cx
          rw [hy] at cy
          have hsm : (Ls p q k ++ (prs r).take j).length ≤ 300 := by
            rw [List.length_append, List.length_take, prs_len]
            have := HS.out.small
            omega
          have HPRS : Hid (Ls p q k ++ (prs r).take (j + 1) = (Ls p q k ++ (prs r).take j) ++ [(r[j]'(by omega), r[j + 1]'(by omega))]) := Lib.hid (by rw [hprs, List.append_assoc])
          clear hprs hx hy
          generalize r[j]'(by omega) = x at cx HPRS
          generalize r[j + 1]'(by omega) = y at cy HPRS
          have hcb : (Ls p q k ++ (prs r).take j).count (u, v) ≤ (Ls p q k ++ (prs r).take j).length := List.count_le_length
          obtain ⟨cnt, hcnt⟩ : ∃ cnt : Int, ((Ls p q k ++ (prs r).take j).count (u, v) : Int) = cnt := ⟨_, rfl⟩
          have hsnoc := count_snoc (Ls p q k ++ (prs r).take j) (x, y) (u, v)
          rw [← HPRS.out] at hsnoc
          rw [hcnt]
          have hwc : IntKind.i64.wrap (cnt + 1) = cnt + 1 := IntWalk.i64_in _ (by omega)
          have hwj : IntKind.i64.wrap ((j : Int) + 1 - 1) = (j : Int) := by rw [show (j : Int) + 1 - 1 = (j : Int) by omega]; exact IntWalk.i64_in _ (by omega)
          have hwj2 : IntKind.i64.wrap (j : Int) = (j : Int) := IntWalk.i64_in _ (by omega)
          have hj3 : (j : Int) + 1 < (nx : Int) := by omega
          have hj4 : (j : Int) < (nx : Int) := by omega
          have hj5 : (0 : Int) ≤ (j : Int) + 1 := by omega
          by_cases hxy : (x, y) = (u, v)
          · have hnew : ((Ls p q k ++ (prs r).take (j + 1)).count (u, v) : Int) = cnt + 1 := by rw [hsnoc, if_pos hxy]; omega
            have HNEW := Lib.hid hnew
            injection hxy with hxu hyv
            subst hxu hyv
            clear hnew hsnoc hcnt hcb hsm hlen HPRS
            go_wp2
            go_roundw
            case rel => exact ⟨j + 1, by omega, by go_num, by rw [HNEW.out], Lib.hid (by trivial)⟩
            case measure => simp [intOf]; omega
          · have hnew : ((Ls p q k ++ (prs r).take (j + 1)).count (u, v) : Int) = cnt := by rw [hsnoc, if_neg hxy]; omega
            have HNEW := Lib.hid hnew
            clear hnew hsnoc hcnt hcb hsm hlen HPRS
            by_cases hxu : x = u
            · have hyv : (y == v) = false := by rw [beq_eq_false_iff_ne]; exact fun e => hxy (by rw [hxu, e])
              subst hxu
              clear hxy
              go_wp2
              go_roundw
              case rel => exact ⟨j + 1, by omega, by go_num, by rw [HNEW.out], Lib.hid (by trivial)⟩
              case measure => simp [intOf]; omega
            · have hxu2 : (x == u) = false := by rw [beq_eq_false_iff_ne]; exact hxu
              clear hxy hxu
              go_wp2
              go_roundw
              case rel => exact ⟨j + 1, by omega, by go_num, by rw [HNEW.out], Lib.hid (by trivial)⟩
              case measure => simp [intOf]; omega
        · obtain rfl : nx = j + 1 := by omega
          have hall : (prs r).take j = prs r := by
            rw [List.take_of_length_le]
            rw [prs_len]
            have := HS.out.len
            omega
          rw [hall, ← HS.out.next]
          obtain ⟨cn2, hcn2⟩ : ∃ cn2 : Int, ((Ls p q (k + 1)).count (u, v) : Int) = cn2 := ⟨_, rfl⟩
          have HCN2 := Lib.hid hcn2
          rw [hcn2]
          clear hall hcn2
          go_wp2
          go_roundw
          case rel => exact ⟨k + 1, by omega, by go_num, by rw [HCN2.out], Lib.hid (by trivial)⟩
          case measure => simp [intOf]; omega
    · obtain rfl : k = 2 := by omega
      have e : Ls p q 2 = prs p ++ prs q := rfl
      rw [e]
      obtain ⟨cn2, hcn2⟩ : ∃ cn2 : Int, ((prs p ++ prs q).count (u, v) : Int) = cn2 := ⟨_, rfl⟩
      have HCN2 := Lib.hid hcn2
      rw [hcn2]
      clear hcn2 e
      go_wp2
      go_ret
      exact ⟨by
        have h := HCN2.out
        rw [List.count_append] at h
        show Ending.returned (.int .i64 cn2) = _
        rw [← h]
        simp, Lib.hid rfl⟩
end Go.Proofs.Ytjebckehmmbkbaa.TwinA
