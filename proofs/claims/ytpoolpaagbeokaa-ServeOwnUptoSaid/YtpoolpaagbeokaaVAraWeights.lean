/- The walk of ara.weights. -/
import Derived.Test.YtpoolpaagbeokaaVAraKey
import Derived.Test.YtpoolpaagbeokaaVWeighW
import Derived.BigQuiet
import Derived.Deep.CutRange
namespace Go.Proofs.Ytpoolpaagbeokaa.Ara
open Go.RowKit Go.Proofs.Ytpoolpaagbeokaa NetLaw BellLaw StarLaw AraLaw Go.Proofs.Ytpoolpaagbeokaa.Net Go.Proofs.Ytpoolpaagbeokaa.Std
open Go.Proofs.Ytpoolpaagbeokaa.StarF (wgt wgt_zero weight_any)
set_option linter.unusedSimpArgs false
set_option linter.unusedVariables false
/-- what is wrong with weights that should fall -/
def wgo : Option (Int × Int) → List (Int × Int) → Int
  | _, [] => 0
  | u, v :: r => if wgt v.1 v.2 = 0 then (match u with | some x => if x.1 * v.2 ≤ v.1 * x.2 then 1 else wgo (some v) r | none => wgo (some v) r) else wgt v.1 v.2
def wcode (ws : List (Int × Int)) : Int := if ws.length = 0 then 1 else if 8 < ws.length then 2 else wgo none ws
def prv (ws : List (Int × Int)) (j : Nat) : Option (Int × Int) := if j = 0 then none else ws[j - 1]?
theorem wgo_ok : ∀ (ws : List (Int × Int)) (u : Option (Int × Int)), wgo u ws = 0 → ∀ w ∈ ws, wgt w.1 w.2 = 0 := by
  intro ws
  induction ws with
  | nil => intro u _ w hw; cases hw
  | cons v r ih =>
    intro u h w hw
    unfold wgo at h
    by_cases h0 : wgt v.1 v.2 = 0
    · rw [if_pos h0] at h
      rcases List.mem_cons.1 hw with rfl | hw
      · exact h0
      · cases u with
        | none => exact ih _ h w hw
        | some x =>
          simp only at h
          split at h
          · exact absurd h (by decide)
          · exact ih _ h w hw
    · rw [if_neg h0] at h
      exact absurd h h0
theorem wcode_ok {ws : List (Int × Int)} (h : wcode ws = 0) : (0 < ws.length ∧ ws.length ≤ 8) ∧ ∀ w ∈ ws, (1 ≤ w.2 ∧ w.2 ≤ 1000000) ∧ (1 ≤ w.1 ∧ w.1 ≤ 1000000) ∧ w.2 ≤ w.1 := by
  unfold wcode at h
  split at h
  · exact absurd h (by decide)
  · split at h
    · exact absurd h (by decide)
    · refine ⟨⟨by omega, by omega⟩, fun w hw => ?_⟩
      obtain ⟨⟨h1, h2, h3, h4, _⟩, h5⟩ := wgt_zero.1 (wgo_ok ws none h w hw)
      exact ⟨⟨h1, h2⟩, ⟨by omega, h4⟩, h5⟩
theorem wgo_step {ws : List (Int × Int)} {j : Nat} (hj : j < ws.length) : wgo (prv ws j) (ws.drop j) = if wgt ws[j].1 ws[j].2 = 0 then (if ∃ x, prv ws j = some x ∧ x.1 * ws[j].2 ≤ ws[j].1 * x.2 then 1 else wgo (prv ws (j + 1)) (ws.drop (j + 1))) else wgt ws[j].1 ws[j].2 := by
  have hp : prv ws (j + 1) = some ws[j] := by unfold prv; rw [if_neg (by omega), Nat.add_sub_cancel, List.getElem?_eq_getElem hj]
  rw [List.drop_eq_getElem_cons hj, hp]
  cases hq : prv ws j with
  | none => simp [wgo]
  | some x => simp [wgo]
theorem wgo_end {ws : List (Int × Int)} : wgo (prv ws ws.length) (ws.drop ws.length) = 0 := by
  rw [List.drop_length]
  unfold wgo
  rfl
theorem fn_num {j : Nat} (h : j + 1 ≤ 9223372036854775807) : IntKind.i64.wrap ((j : Int) + 1) = (j : Int) + 1 := IntWalk.i64_in _ (by omega)
set_option maxRecDepth 100000 in
set_option maxHeartbeats 4000000 in
theorem weights_any (A : Option Addr) (c : Nat) (ws : List (Int × Int)) (w : World) (hl : Sl w w.heap.size 2 cp A ws) (hlen : ws.length ≤ 9223372036854775807) :
    Calls Try.prog 37 #[.slice A ws.length c] w fun e w' => e = .returned (.int .i64 (wcode ws)) ∧ Below w.heap.size w w' := by
  have HB0 : Below w.heap.size w w := Below.refl _ _
  by_cases h0 : ws.length = 0
  · have hc : wcode ws = 1 := by unfold wcode; rw [if_pos h0]
    rw [hc, h0]
    clear hc hl hlen h0
    go_enter Try.func37, Try.ntmps37
    go_wp2
    go_ret
    exact ⟨rfl, HB0⟩
  · by_cases h8 : 8 < ws.length
    · have hc : wcode ws = 2 := by unfold wcode; rw [if_neg h0, if_pos h8]
      rw [hc]
      have hn0 : ((ws.length : Int) == 0) = false := beq_eq_false_iff_ne.2 (by omega)
      have hn1 : (ws.length : Int) > 8 := by omega
      clear hc hl
      generalize ws.length = m at *
      go_enter Try.func37, Try.ntmps37
      go_wp2
      go_ret
      exact ⟨rfl, HB0⟩
    · have hc : wcode ws = wgo none ws := by unfold wcode; rw [if_neg h0, if_neg h8]
      have hn0 : ((ws.length : Int) == 0) = false := beq_eq_false_iff_ne.2 (by omega)
      have hn1 : ¬ (ws.length : Int) > 8 := by omega
      obtain ⟨m, hm⟩ : ∃ m, ws.length = m := ⟨_, rfl⟩
      have hm8 : m ≤ 8 := by omega
      have HC := Lib.hid hc
      obtain ⟨bw, ow, rfl, hbw, hcell⟩ := hl (by omega)
      have HCELL := Lib.hid hcell
      have HM := Lib.hid hm
      rw [hm] at hn0 hn1 ⊢
      clear hc hl hcell hlen h0 h8 hm
      go_enter Try.func37, Try.ntmps37
      go_wp2
      go_loopw [14] (fun i wr => ∃ j : Nat, i = .int .i64 j ∧ j ≤ m ∧ Hid (wgo (prv ws j) (ws.drop j) = wgo none ws) ∧ Hid (∀ k, (hk : k < ws.length) → k < j → wgt ws[k].1 ws[k].2 = 0) ∧ Hid (Below w.heap.size w wr)) (fun i _ => m - (intOf i).toNat)
      case atStart => exact ⟨0, rfl, Nat.zero_le _, Lib.hid rfl, Lib.hid (fun k _ hk => absurd hk (Nat.not_lt_zero _)), Lib.hid HB0⟩
      case round =>
        obtain ⟨j, rfl, hj, HG, HO, HB⟩ := hrel
        by_cases hlt : j < m
        · have hjl : j < ws.length := by rw [HM.out]; exact hlt
          have hst := wgo_step hjl
          have hc0 := HCELL.out j hjl 0 (by decide)
          have hc1 := HCELL.out j hjl 1 (by decide)
          have hok : wgt ws[j].1 ws[j].2 = 0 → ∀ k, (hk : k < ws.length) → k < j + 1 → wgt ws[k].1 ws[k].2 = 0 := fun h0 k hk hkj => by
            by_cases e : k = j
            · subst e; exact h0
            · exact HO.out k hk (by omega)
          obtain ⟨p, hp⟩ : ∃ p, ws[j].1 = p := ⟨_, rfl⟩
          obtain ⟨q, hq⟩ : ∃ q, ws[j].2 = q := ⟨_, rfl⟩
          have e0 : cp ws[j] 0 = .int .i64 p := by rw [← hp]; rfl
          have e1 : cp ws[j] 1 = .int .i64 q := by rw [← hq]; rfl
          rw [e0] at hc0
          rw [e1] at hc1
          rw [hp, hq] at hst hok
          have c0 := below_cells HB.out hbw hc0
          have c1 := below_cells HB.out hbw hc1
          rw [Nat.add_zero] at c0
          rw [← Nat.add_assoc] at c1
          have zj : (j : Int) < (m : Int) := by omega
          have hsz := HB.out.size
          have HST := Lib.hid hst
          have HOK := Lib.hid hok
          clear hst hok hc0 hc1 e0 e1 hp hq
          go_upto_region 8 with fail
          have hbx := heap_alloc_new wr (.cells #[.int .i64 p, .int .i64 q] 39)
          have HB4 := Lib.hid (HB.out.alloc hsz (.cells #[.int .i64 p, .int .i64 q] 39))
          generalize wr.alloc (.cells #[.int .i64 p, .int .i64 q] 39) = w4 at hbx HB4 ⊢
          generalize wr.heap.size = X at hbx ⊢
          clear c0 c1 hsz
          have x0 := blk_cell hbx 0
          have x1 := blk_cell hbx 1
          simp only [List.getElem?_toArray, List.getElem?_cons_zero, List.getElem?_cons_succ] at x0 x1
          have zX := lt_of_block hbx
          have HBX := Lib.hid hbx
          clear hbx
          go_wp2_with fail
          refine (weight_any p q w4).mono ?_
          rintro e w5 ⟨rfl, hb5⟩
          have hbx := blk_below HBX.out hb5 zX
          have HB5 := Lib.hid (HB4.out.trans (hb5.mono HB4.out.size))
          clear x0 x1 zX HBX hb5 HB4
          have x0 := blk_cell hbx 0
          have x1 := blk_cell hbx 1
          simp only [List.getElem?_toArray, List.getElem?_cons_zero, List.getElem?_cons_succ] at x0 x1
          have zX := lt_of_block hbx
          clear hbx
          by_cases hw : wgt p q = 0
          · have hok2 := HOK.out hw
            have hst2 := HST.out
            rw [if_pos hw] at hst2
            have HOK2 := Lib.hid hok2
            have HST2 := Lib.hid hst2
            have hpq := wgt_zero.1 hw
            rw [hw]
            obtain ⟨⟨q1, q2, p1, p2, _⟩, _⟩ := hpq
            clear hok2 hst2 hw HST HOK
            cases j with
            | zero =>
              have hst3 := HST2.out
              rw [if_neg (fun ⟨x, hx, _⟩ => by cases hx)] at hst3
              have HST3 := Lib.hid (hst3.symm.trans HG.out)
              clear hst3
              go_upto_region 11 with fail
              go_quiet (fail)
              have HB6 := Lib.hid (below_drewN HB5.out nq)
              go_wp2
              go_roundw
              case rel => exact ⟨1, by go_num, hlt, HST3, HOK2, HB6⟩
              case measure => simp [intOf]; omega
            | succ k =>
              have hkl : k < ws.length := by omega
              have hd0 := HCELL.out k hkl 0 (by decide)
              have hd1 := HCELL.out k hkl 1 (by decide)
              have hkok := HO.out k hkl (Nat.lt_succ_self k)
              have hprv : prv ws (k + 1) = some ws[k] := by unfold prv; rw [if_neg (by omega), Nat.add_sub_cancel, List.getElem?_eq_getElem hkl]
              obtain ⟨⟨a2, a3, a4, a5, _⟩, _⟩ := wgt_zero.1 hkok
              obtain ⟨y1, hy1⟩ : ∃ y1, ws[k].1 = y1 := ⟨_, rfl⟩
              obtain ⟨y2, hy2⟩ : ∃ y2, ws[k].2 = y2 := ⟨_, rfl⟩
              have e0 : cp ws[k] 0 = .int .i64 y1 := by rw [← hy1]; rfl
              have e1 : cp ws[k] 1 = .int .i64 y2 := by rw [← hy2]; rfl
              rw [e0] at hd0
              rw [e1] at hd1
              have g0 := below_cells HB5.out hbw hd0
              have g1 := below_cells HB5.out hbw hd1
              rw [Nat.add_zero] at g0
              rw [← Nat.add_assoc] at g1
              have hst3 := HST2.out
              rw [hprv] at hst3
              have hgp := HG.out
              rw [hprv] at hgp
              have HGP := Lib.hid hgp
              clear hgp
              simp only [Option.some.injEq, exists_eq_left'] at hst3
              rw [hy1, hy2] at hst3
              rw [hy2] at a2 a3
              rw [hy1] at a4 a5
              have m1 : -1000000000000 ≤ p * y2 ∧ p * y2 ≤ 1000000000000 := by
                have h1 := Int.mul_le_mul_of_nonneg_right p2 (show 0 ≤ y2 by omega)
                have h2 := Int.mul_le_mul_of_nonneg_right p1 (show 0 ≤ y2 by omega)
                omega
              have m2 : -1000000000000 ≤ y1 * q ∧ y1 * q ≤ 1000000000000 := by
                have h1 := Int.mul_le_mul_of_nonneg_right a5 (show 0 ≤ q by omega)
                have h2 := Int.mul_le_mul_of_nonneg_right a4 (show 0 ≤ q by omega)
                omega
              obtain ⟨u1, hu1⟩ : ∃ u1, p * y2 = u1 := ⟨_, rfl⟩
              obtain ⟨u2, hu2⟩ : ∃ u2, y1 * q = u2 := ⟨_, rfl⟩
              rw [hu1] at m1 hst3
              rw [hu2] at m2 hst3
              have v1 : IntKind.i64.wrap u1 = u1 := IntWalk.i64_in _ (by omega)
              have v2 : IntKind.i64.wrap u2 = u2 := IntWalk.i64_in _ (by omega)
              have v3 : IntKind.i64.wrap (k : Int) = k := IntWalk.i64_in _ (by omega)
              have zk : (k : Int) + 1 > 0 := by omega
              have zk2 : (k : Int) < (m : Int) := by omega
              have HST3 := Lib.hid hst3
              clear hd0 hd1 hkok hprv hy1 hy2 e0 e1 hst3 m1 m2 a2 a3 a4 a5 p1 p2 q1 q2
              by_cases hcmp : u2 ≤ u1
              · have hst4 := HST3.out
                rw [if_pos hcmp] at hst4
                have hval : (1 : Int) = wcode ws := by rw [HC.out, ← HGP.out, hst4]
                have hgg : u1 ≥ u2 := hcmp
                have HVAL := Lib.hid hval
                clear hst4 hval hcmp
                go_upto_region 11 with fail
                go_quiet (fail)
                have HB6 := Lib.hid (below_drewN HB5.out nq)
                go_wp2
                go_ret
                exact ⟨congrArg (fun z => Ending.returned (.int .i64 z)) HVAL.out, HB6.out⟩
              · have hst4 := HST3.out
                rw [if_neg hcmp] at hst4
                have HST4 := Lib.hid (hst4.symm.trans HGP.out)
                have hgg : ¬ u1 ≥ u2 := hcmp
                clear hst4 hcmp
                go_upto_region 11 with fail
                go_quiet (fail)
                have HB6 := Lib.hid (below_drewN HB5.out nq)
                go_wp2
                go_roundw
                case rel => exact ⟨k + 1 + 1, by go_num, hlt, HST4, HOK2, HB6⟩
                case measure => simp [intOf]; omega
          · have hst2 := HST.out
            rw [if_neg hw] at hst2
            have hval : wgt p q = wcode ws := by rw [HC.out, ← HG.out, hst2]
            have hne : (wgt p q != 0) = true := by simpa using hw
            have HVAL := Lib.hid hval
            clear hst2 hval hw HST HOK
            generalize wgt p q = z at *
            go_wp2
            go_ret
            exact ⟨congrArg (fun z => Ending.returned (.int .i64 z)) HVAL.out, HB5.out⟩
        · have hjm : j = m := by omega
          have hval : (0 : Int) = wcode ws := by
            have h1 := HG.out
            rw [hjm, ← HM.out, wgo_end] at h1
            rw [HC.out]
            exact h1
          have zj : ¬ ((j : Int) < (m : Int)) := by omega
          have HVAL := Lib.hid hval
          clear hval hjm
          go_wp2
          go_ret
          exact ⟨congrArg (fun z => Ending.returned (.int .i64 z)) HVAL.out, HB.out⟩
end Go.Proofs.Ytpoolpaagbeokaa.Ara
