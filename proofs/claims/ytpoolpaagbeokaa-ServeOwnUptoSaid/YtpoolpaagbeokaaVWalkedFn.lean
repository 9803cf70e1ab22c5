/- The walk of star.Back. -/
/- The walk of star.Walked. -/
import Derived.Test.YtpoolpaagbeokaaVStarWait
import Derived.Test.YtpoolpaagbeokaaVBellWalks
import Derived.Test.YtpoolpaagbeokaaVStdI
import Derived.Test.YtpoolpaagbeokaaVNetTurn
import Derived.BigRegion
import Derived.BigQuiet
import Derived.Deep.LoopGhost
import Derived.Test.YtpoolpaagbeokaaVWalkCost
namespace Go.Proofs.Ytpoolpaagbeokaa.Star
open Go.RowKit Go.Proofs.Ytpoolpaagbeokaa NetLaw BellLaw StarLaw Go.Proofs.Ytpoolpaagbeokaa.Net Go.Proofs.Ytpoolpaagbeokaa.Std
set_option linter.unusedSimpArgs false
set_option linter.unusedVariables false
theorem Ch.head {P : List Int} {v : Int} {cs : List Int} (h : Ch P v cs) : cs.head? = some v := by cases h <;> rfl
theorem Ch.next {P : List Int} {v : Int} {cs : List Int} (h : Ch P v cs) : ∀ k, ∀ (hk : k < cs.length), dg P cs[k] = cs.getD (k + 1) (-1) := by
  induction h with
  | last h1 =>
    intro k hk
    obtain rfl : k = 0 := by simpa using hk
    simpa using h1
  | @more v cs h1 hc ih =>
    intro k hk
    cases k with
    | zero =>
      have := Ch.head hc
      simp only [List.getElem_cons_zero, List.getD_eq_getElem?_getD, List.getElem?_cons_succ]
      rw [List.head?_eq_getElem?] at this
      rw [this]
      rfl
    | succ k =>
      have := ih k (by simpa using hk)
      simpa using this
/-- a way that a call answers -/
def SomeWay (p : List Int) (co : Int) (w : World) (e : Ending) (w' : World) : Prop :=
  ∃ A c, e = .returned (.agg #[.slice A p.length c, .int .i64 co]) ∧ Own w' w.heap.size 3 1 ci (.slice A p.length c) p ∧ Below w.heap.size w w'
set_option maxRecDepth 100000 in
set_option maxHeartbeats 4000000 in
theorem back_any (A : Option Addr) (n c : Nat) (P : List Int) (v co : Int) (cs : List Int) (w : World) (hl : Sl w w.heap.size 1 ci A P) (hn : P.length = n) (hch : Ch P v cs) (hin : ∀ x ∈ cs, 0 ≤ x ∧ x < n) (h64 : cs.length ≤ 64) (hn64 : n ≤ 64) :
    Calls Try.prog 80 #[.slice A n c, .int .i64 v, .int .i64 co] w fun e w' => SomeWay cs.reverse co w e w' := by
  obtain ⟨i0, hi, hz0, hz1, hz2⟩ := info_parts infoInt
  have hhd := Ch.head hch
  have hnx := Ch.next hch
  obtain ⟨q, hq⟩ : ∃ q, cs.length = q := ⟨_, rfl⟩
  have hq0 : 0 < q := by
    rw [← hq]
    cases cs with
    | nil => cases hhd
    | cons _ _ => simp
  have hv0 : v = cs.getD 0 (-1) := by
    rw [List.head?_eq_getElem?] at hhd
    rw [List.getD_eq_getElem?_getD, hhd]
    rfl
  have hR6 := heap_alloc_new w (.cells #[.slice none 0 0, .int .i64 0] 41)
  have hR7 := heap_alloc_new (w.alloc (.cells #[.slice none 0 0, .int .i64 0] 41)) (.cells #[.slice none 0 0, .int .i64 co] 41)
  rw [show (w.alloc (.cells #[.slice none 0 0, .int .i64 0] 41)).heap.size = w.heap.size + 1 by simp] at hR7
  have hB0 : Below w.heap.size w ((w.alloc (.cells #[.slice none 0 0, .int .i64 0] 41)).alloc (.cells #[.slice none 0 0, .int .i64 co] 41)) := ((Below.refl _ _).alloc (Nat.le_refl _) _).alloc (by simp) _
  have HR6 := Lib.hid (blk_alloc hR6 (.cells #[.slice none 0 0, .int .i64 co] 41))
  have HR7 := Lib.hid hR7
  have HB0 := Lib.hid hB0
  have HSL := Lib.hid hl
  have HN := Lib.hid hn
  have HNX := Lib.hid hnx
  have HIN := Lib.hid hin
  have HQ := Lib.hid hq
  have HV := Lib.hid hv0
  rw [hq] at h64
  clear hR6 hR7 hB0 hl hn hnx hin hq hhd hch hv0
  go_enter Try.func80, Try.ntmps80
  go_wp2
  go_loopg [8] q (fun g s8 wr => ∃ (k : Nat) (Aq : Option Addr) (cq : Nat), k ≤ q ∧ s8 = .int .i64 (cs.getD k (-1)) ∧ Hid (wr.heap[w.heap.size + 1]? = some (.cells #[.slice Aq k cq, .int .i64 co] 41 (0, 0))) ∧ Hid (wr.heap[w.heap.size]? = some (.cells #[.slice none 0 0, .int .i64 0] 41 (0, 0))) ∧ Hid (Own wr w.heap.size 3 1 ci (.slice Aq k cq) (cs.take k)) ∧ Hid (Below w.heap.size w wr) ∧ Hid (q ≤ g + k))
  case atStart => exact ⟨0, none, 0, Nat.zero_le _, by rw [HV.out], HR7, HR6, Lib.hid Own.nil_, HB0, Lib.hid (by omega)⟩
  case round =>
    obtain ⟨k, Aq, cq, hk, rfl, HO7, HO6, OW, HB, HG⟩ := hrel
    have hO0 := blk_cell HO7.out 0
    simp only [List.getElem?_toArray, List.getElem?_cons_zero, List.getElem?_cons_succ] at hO0
    have hz7 := lt_of_block HO7.out
    by_cases hlt : k < q
    · have hkl : k < cs.length := by rw [HQ.out]; exact hlt
      obtain ⟨x0, x1⟩ := HIN.out _ (List.getElem_mem hkl)
      have hnext := HNX.out k hkl
      have hgd : cs.getD k (-1) = cs[k] := by rw [List.getD_eq_getElem?_getD, List.getElem?_eq_getElem hkl]; rfl
      have htk : cs.take (k + 1) = cs.take k ++ [cs[k]] := List.take_succ_eq_append_getElem hkl
      rw [hgd]
      have hlenk : (cs.take k).length = k := by rw [List.length_take, HQ.out]; omega
      obtain ⟨x, hx⟩ : ∃ x, cs[k] = x := ⟨_, rfl⟩
      rw [hx] at hnext htk x0 x1 ⊢
      obtain ⟨x, rfl⟩ := Int.eq_ofNat_of_zero_le x0
      obtain ⟨b, o, hA, hb, hcx⟩ := HSL.out.atI (show x < P.length by rw [HN.out]; omega)
      subst hA
      have hpx : P[x]'(by rw [HN.out]; omega) = cs.getD (k + 1) (-1) := by
        rw [← hnext, dg, Int.toNat_natCast, List.getD_eq_getElem?_getD, List.getElem?_eq_getElem (by rw [HN.out]; omega)]
        rfl
      rw [hpx] at hcx
      generalize hyy : cs.getD (k + 1) (-1) = y at *
      have HYY := Lib.hid hyy
      have HTK := Lib.hid htk
      have HLK := Lib.hid hlenk
      have hbz : b < wr.heap.size := by have := HB.out.size; omega
      have hoa := OW.out.alloc (.cells #[.int .i64 x] 3)
      have hO7a := blk_alloc HO7.out (.cells #[.int .i64 x] 3)
      have hO6a := blk_alloc HO6.out (.cells #[.int .i64 x] 3)
      have HOA := Lib.hid hoa
      have H7A := Lib.hid hO7a
      have H6A := Lib.hid hO6a
      have hxn : x < n := by omega
      have hbB : b < w.heap.size := hb
      have hbn : ¬ b = w.heap.size + 1 := by omega
      have hbn2 : ¬ w.heap.size + 1 = b := by omega
      have hxi : (x : Int) < (n : Int) := by omega
      have hcx2 : ∀ X, Below w.heap.size w X → X.cell? ⟨b, o + x, none⟩ = some (.int .i64 y) := fun X hX => (hX.cell (p := ⟨b, o + x, none⟩) hb).trans hcx
      have HCX := Lib.hid hcx2
      clear hcx2 hnext hgd htk hlenk hx hkl hoa hO7a hO6a hpx x0 hcx hyy
      go_wp2_with (at_builtin; refine wpList_push _ rfl (.tmp 21) (.tmp 23) _ rfl w.heap.size 3 i0 (.int .i64 0) 1 8 ci Try.underlying22 hi hz0 hz1 hz2 rfl (by decide) _ _ k HLK.out rfl HOA.out wr.heap.size 1 (x : Int) rfl news1 (fun _ _ => rfl) (by omega) (by omega) (by have := HB.out.size; simp; omega) ?_; intro A8 c8 w8 hown8 hgrow8 hat8; have h78 := blk_grown H7A.out hgrow8 (HOA.out.ne_ H7A.out (by decide)); have h68 := blk_grown H6A.out hgrow8 (HOA.out.ne_ H6A.out (by decide)); have hb8 := (HB.out.alloc HB.out.size (.cells #[.int .i64 x] 3)).grown hgrow8 (by have := HB.out.size; simp; omega) HOA.out.lo; have hcx8 := HCX.out _ hb8; have hc78 := blk_cell h78 0; have hf78 := blk_free h78 0; simp only [List.getElem?_toArray, List.getElem?_cons_zero, List.getElem?_cons_succ] at hc78)
      have HO7' := Lib.hid (blk_set h78 0 (.slice A8 (k + 1) c8))
      have HO6' := Lib.hid (blk_far h68 (p := ⟨w.heap.size + 1, 0, none⟩) (by dsimp only; omega) (.slice A8 (k + 1) c8))
      have HOW' := Lib.hid (hown8.setCell (p := ⟨w.heap.size + 1, 0, none⟩) (hown8.ne_ h78 (by decide)) (.slice A8 (k + 1) c8))
      have HB' := Lib.hid (hb8.setCell (p := ⟨w.heap.size + 1, 0, none⟩) (by dsimp only; omega) (.slice A8 (k + 1) c8))
      clear h78 h68 hown8 hgrow8 hat8 hb8 hcx8 hc78 hf78
      go_roundg (q - (k + 1))
      case measure => have := HG.out; omega
      case rel => exact ⟨k + 1, A8, c8, by omega, by rw [HYY.out], HO7', HO6', Lib.hid (by rw [HTK.out]; exact HOW'.out), HB', Lib.hid (by omega)⟩
    · obtain rfl : k = q := by omega
      have hgd : cs.getD k (-1) = -1 := by rw [List.getD_eq_getElem?_getD, List.getElem?_eq_none (by rw [HQ.out]; exact Nat.le_refl _)]; rfl
      rw [hgd]
      have hown := OW.out
      rw [List.take_of_length_le (by rw [HQ.out]; exact Nat.le_refl _)] at hown
      obtain ⟨S, rfl, hbS, hS⟩ := own_form1 HQ.out hq0 hown
      obtain ⟨wa, rfl⟩ : ∃ wa : World, wa = wr := ⟨_, rfl⟩
      have HOWN := Lib.hid hown
      have hSne : S ≠ w.heap.size + 1 := fun e => by
        have := hown.ne_ HO7.out (by decide)
        exact this (by rw [e]; rfl)
      have hSne6 : S ≠ w.heap.size := fun e => by
        have := hown.ne_ HO6.out (by decide)
        exact this (by rw [e]; rfl)
      clear hgd hown OW
      go_wp2
      go_quiet (fail)
      go_wp2
      have hq1 : (k : Int) - 1 - ((0 : Nat) : Int) = (k : Int) - 1 := by simp
      have HQ1 := Lib.hid hq1
      clear hq1
      have hown1 : Own (wa.drewN nq) w.heap.size 3 1 ci (.slice (some ⟨S, 0, none⟩) k cq) (sw cs 0) := by rw [sw_zero]; exact HOWN.out.drewN nq
      have HOW1 := Lib.hid hown1
      have HOW7 := Lib.hid (show (wa.drewN nq).heap[w.heap.size + 1]? = some (.cells #[.slice (some ⟨S, 0, none⟩) k cq, .int .i64 co] 41 (0, 0)) from HO7.out)
      have HOW6 := Lib.hid (show (wa.drewN nq).heap[w.heap.size]? = some (.cells #[.slice none 0 0, .int .i64 0] 41 (0, 0)) from HO6.out)
      have HBW := Lib.hid (below_drewN HB.out nq)
      clear hown1 hO0
      go_loopw [9, 10] (fun i j wr => ∃ x : Nat, 2 * x ≤ k + 1 ∧ i = .int .i64 x ∧ j = .int .i64 ((k : Int) - 1 - x) ∧ Hid (Own wr w.heap.size 3 1 ci (.slice (some ⟨S, 0, none⟩) k cq) (sw cs x)) ∧ Hid (wr.heap[w.heap.size + 1]? = some (.cells #[.slice (some ⟨S, 0, none⟩) k cq, .int .i64 co] 41 (0, 0))) ∧ Hid (wr.heap[w.heap.size]? = some (.cells #[.slice none 0 0, .int .i64 0] 41 (0, 0))) ∧ Hid (Below w.heap.size w wr)) (fun _ j _ => (intOf j + 1).toNat)
      case atStart => exact ⟨0, by omega, rfl, by rw [HQ1.out], HOW1, HOW7, HOW6, HBW⟩
      case round =>
        clear HOW1 HOW7 HOW6 HBW HOWN HO7 HO6 HB
        obtain ⟨x, hx, rfl, rfl, HX, H7, H6, HBr⟩ := hrel
        have hS7 := lt_of_block H7.out
        have o0 := blk_cell H7.out 0
        simp only [List.getElem?_toArray, List.getElem?_cons_zero, List.getElem?_cons_succ] at o0
        have hSr := (HX.out.base_ S rfl).2
        by_cases hlt2 : 2 * x + 1 < k
        · have hsl := HQ.out
          obtain ⟨c1, f1⟩ := own_at1 (by rw [sw_len, hsl]) HX.out (k := x) (by omega)
          obtain ⟨c2, f2⟩ := own_at1 (by rw [sw_len, hsl]) HX.out (k := k - 1 - x) (by omega)
          rw [List.getD_eq_getElem?_getD, List.getElem?_eq_getElem (by rw [sw_len, hsl]; omega), Option.getD_some, sw_get, if_neg (by rw [hsl]; omega)] at c1 c2
          obtain ⟨y1, hy1⟩ : ∃ y1, y1 = cs.getD x 0 := ⟨_, rfl⟩
          obtain ⟨y2, hy2⟩ : ∃ y2, y2 = cs.getD (k - 1 - x) 0 := ⟨_, rfl⟩
          rw [← hy1] at c1
          rw [← hy2] at c2
          have hst := sw_step (l := cs) (k := x) (x := y1) (y := y2) (by rw [hsl]; omega) hy1 (by rw [hsl]; exact hy2)
          rw [hsl] at hst
          have HST := Lib.hid hst
          obtain ⟨j, hj⟩ : ∃ j, j = k - 1 - x := ⟨_, rfl⟩
          rw [← hj] at c2 f2
          have ej : (k : Int) - 1 - x = (j : Int) := by omega
          rw [ej]
          have hjn : j < k := by omega
          have hxj : x < j := by omega
          have hxk : (x : Int) < (k : Int) := by omega
          have hjk : (j : Int) < (k : Int) := by omega
          have HJ := Lib.hid hj
          clear hst hy1 hy2 hsl ej hj
          go_wp2
          go_region
          all_goals
            go_wp2
            go_roundw
            case' rel =>
              have hw7 := H7.out
              have hw6 := H6.out
              exact ⟨x + 1, by omega, by go_num, by have := HJ.out; congr 1; omega, Lib.hid (by
                rw [← HST.out, ← HJ.out]
                exact own_set1 (by rw [List.length_set, sw_len, HQ.out]) (own_set1 (by rw [sw_len, HQ.out]) HX.out x y2) j y1), Lib.hid (blk_far (blk_far hw7 (by dsimp only; omega) _) (by dsimp only; omega) _), Lib.hid (blk_far (blk_far hw6 (by dsimp only; omega) _) (by dsimp only; omega) _), Lib.hid (((HBr.out.setCell (by exact hbS) _).setCell (by exact hbS) _).drew)⟩
            case' measure => simp [intOf] <;> omega
        · have hfin : sw cs x = cs.reverse := sw_end (by rw [HQ.out]; omega) (by rw [HQ.out]; omega)
          have hnlt : ¬ ((x : Int) < (k : Int) - 1 - x) := by omega
          have hown := HX.out
          rw [hfin] at hown
          have o1 := blk_cell H7.out 1
          have p0 := blk_cell H6.out 0
          have p1 := blk_cell H6.out 1
          have g0 := blk_free H6.out 0
          have g1 := blk_free H6.out 1
          simp only [List.getElem?_toArray, List.getElem?_cons_zero, List.getElem?_cons_succ] at o1 p0 p1
          have hrl : cs.reverse.length = k := by rw [List.length_reverse, HQ.out]
          have HRL := Lib.hid hrl
          have HOW := Lib.hid hown
          have hz6 := lt_of_block H6.out
          clear hfin hlt2 hown hrl
          go_wp2
          refine bodyPost_ret (v := .agg #[.slice (some ⟨S, 0, none⟩) k cq, .int .i64 co]) (by simp [results, Try.results80, go_sem, o0, o1, p0, p1, g0, g1]) rfl ?_
          refine ⟨some ⟨S, 0, none⟩, cq, by rw [HRL.out], ?_, ?_⟩
          · rw [HRL.out]
            have hne := HOW.out.ne_ H6.out (by decide)
            exact (HOW.out.setCell hne _).setCell hne _
          · exact (HBr.out.setCell (by exact Nat.le_refl _) _).setCell (by exact Nat.le_refl _) _
end Go.Proofs.Ytpoolpaagbeokaa.Star

namespace Go.Proofs.Ytpoolpaagbeokaa.Focal
open Go.RowKit Go.Proofs.Ytpoolpaagbeokaa NetLaw BellLaw StarLaw Go.Proofs.Ytpoolpaagbeokaa.Net Go.Proofs.Ytpoolpaagbeokaa.Std Go.Proofs.Ytpoolpaagbeokaa.Star
set_option linter.unusedSimpArgs false
set_option linter.unusedVariables false
set_option maxRecDepth 100000 in
set_option maxHeartbeats 2000000 in
theorem walked_any (N : Int) (A : Option Addr) (c : Nat) (l : List E) (A' : Option Addr) (n c' : Nat) (P : List Int) (v : Int) (cs : List Int) (w : World) (hl : Sl w w.heap.size 3 ce A l) (hp : Sl w w.heap.size 1 ci A' P) (hlen : l.length ≤ 9223372036854775807) (hn : P.length = n) (hch : Ch P v cs) (hin : ∀ x ∈ cs, 0 ≤ x ∧ x < n) (h64 : cs.length ≤ 64) (hn64 : n ≤ 64) :
    Calls Try.prog 70 #[.agg #[.int .i64 N, .slice A l.length c], .slice A' n c', .int .i64 v] w fun e w' => SomeWay cs.reverse (WalkLaw.cost N l cs.reverse).1 w e w' := by
  have hw0 : Below w.heap.size w ((w.alloc (.cells #[.int .i64 N, .slice A l.length c] 52)).alloc (.cells #[.slice none 0 0, .int .i64 0] 41)) := ((Below.refl _ _).alloc (Nat.le_refl _) _).alloc (by simp) _
  have hz0 : w.heap.size ≤ ((w.alloc (.cells #[.int .i64 N, .slice A l.length c] 52)).alloc (.cells #[.slice none 0 0, .int .i64 0] 41)).heap.size := hw0.size
  have hbox := blk_alloc (heap_alloc_new w (.cells #[.int .i64 N, .slice A l.length c] 52)) (.cells #[.slice none 0 0, .int .i64 0] 41)
  have hres : ((w.alloc (.cells #[.int .i64 N, .slice A l.length c] 52)).alloc (.cells #[.slice none 0 0, .int .i64 0] 41)).heap[w.heap.size + 1]? = some (.cells #[.slice none 0 0, .int .i64 0] 41 (0, 0)) := by
    have h := heap_alloc_new (w.alloc (.cells #[.int .i64 N, .slice A l.length c] 52)) (.cells #[.slice none 0 0, .int .i64 0] 41)
    simpa using h
  have kb := back_any A' n c' P v 0 cs _ ((hp.keep hw0 (Nat.le_refl _)).more hz0) hn hch hin h64 hn64
  have kc := fun W A2 c2 (hb : Below w.heap.size w W) h2 => Walk.cost_any N A c l A2 c2 cs.reverse W ((hl.keep hb (Nat.le_refl _)).more hb.size) h2 hlen (by rw [List.length_reverse]; omega)
  obtain ⟨pa, hpa⟩ : ∃ pa, cs.reverse = pa := ⟨_, rfl⟩
  rw [hpa] at kb kc ⊢
  obtain ⟨m, hm⟩ : ∃ m, pa.length = m := ⟨_, rfl⟩
  unfold SomeWay at kb ⊢
  rw [hm] at kb kc ⊢
  obtain ⟨x, hx⟩ : ∃ x, (WalkLaw.cost N l pa).1 = x := ⟨_, rfl⟩
  obtain ⟨y, hy⟩ : ∃ y, (WalkLaw.cost N l pa).2 = y := ⟨_, rfl⟩
  rw [hx, hy] at kc
  rw [hx]
  have KB := Lib.hid kb
  have KC := Lib.hid kc
  have HBOX := Lib.hid hbox
  have HRES := Lib.hid hres
  clear kb kc hbox hres hpa hm hx hy hl hp hn hch hin h64
  go_enter Try.func70, Try.ntmps70
  go_wp2_with fail
  refine KB.out.mono ?_
  rintro e w1 ⟨A2, c2, rfl, own1, hb1⟩
  have B1 := hw0.trans (hb1.mono hz0)
  have hbx1 := blk_alloc (blk_below HBOX.out hb1 (by simp; omega)) (.cells #[.slice A2 m c2, .int .i64 0] 41)
  have hrs1 := blk_alloc (blk_below HRES.out hb1 (by simp)) (.cells #[.slice A2 m c2, .int .i64 0] 41)
  have how1 := heap_alloc_new w1 (.cells #[.slice A2 m c2, .int .i64 0] 41)
  have own2 := (own1.alloc (.cells #[.slice A2 m c2, .int .i64 0] 41)).mono hz0
  have B2 := B1.alloc B1.size (.cells #[.slice A2 m c2, .int .i64 0] 41)
  have hz1 : w.heap.size + 2 ≤ w1.heap.size := by have := hb1.size; simp at this; omega
  have q0 := blk_cell hbx1 0
  have q1 := blk_cell hbx1 1
  simp only [List.getElem?_toArray, List.getElem?_cons_zero, List.getElem?_cons_succ] at q0 q1
  have HR1 := Lib.hid hrs1
  have HO1 := Lib.hid how1
  have OW2 := Lib.hid own2
  clear hb1 hbx1 hrs1 how1 own1 own2 B1
  go_wp2_with fail
  refine (KC.out _ A2 c2 B2 OW2.out.sl.2).mono ?_
  rintro e w3 ⟨rfl, hb3⟩
  have B3 := B2.trans (hb3.mono B2.size)
  have hrs3 := blk_below HR1.out hb3 (by simp; omega)
  have how3 := blk_below HO1.out hb3 (by simp)
  have own3 := OW2.out.keep hb3
  have r0 := blk_cell hrs3 0
  have r1 := blk_cell hrs3 1
  have rf0 := blk_free hrs3 0
  have rf1 := blk_free hrs3 1
  have s0 := blk_cell how3 0
  have s1 := blk_cell how3 1
  have sf1 := blk_free how3 1
  simp only [List.getElem?_toArray, List.getElem?_cons_zero, List.getElem?_cons_succ] at r0 r1 s0 s1
  have hz3 : w1.heap.size < w3.heap.size := lt_of_block how3
  have hz4 : w.heap.size + 1 < w3.heap.size := by omega
  have hn1 := own3.ne_ how3 (by decide)
  have hn2 := own3.ne_ hrs3 (by decide)
  have hd1 : ¬ w.heap.size + 1 = w1.heap.size := by omega
  have hd2 : ¬ w1.heap.size = w.heap.size + 1 := by omega
  have OW3 := Lib.hid own3
  have HN1 := Lib.hid hn1
  have HN2 := Lib.hid hn2
  clear q0 q1 hb3 B2 hrs3 how3 own3 hn1 hn2
  go_wp2
  refine bodyPost_ret (v := .agg #[.slice A2 m c2, .int .i64 x]) (by simp [results, Try.results70, go_sem, r0, r1, rf0, rf1, s0, s1, sf1, hd1, hd2]) rfl ?_
  refine ⟨A2, c2, rfl, ?_, ?_⟩
  · exact ((OW3.out.setCell HN1.out _).setCell HN2.out _).setCell HN2.out _
  · exact ((B3.setCell (by dsimp only; omega) _).setCell (by dsimp only; omega) _).setCell (by dsimp only; omega) _
end Go.Proofs.Ytpoolpaagbeokaa.Focal
