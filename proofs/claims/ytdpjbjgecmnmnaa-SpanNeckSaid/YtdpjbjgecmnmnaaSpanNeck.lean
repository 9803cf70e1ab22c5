/- For every net and places: SpanNeck answers true (between two places the neck is the dearest edge among those taken which must be there to join them), and the net reads as before. No condition. -/
import Derived.Test.YtdpjbjgecmnmnaaRows
import Derived.Test.YtdpjbjgecmnmnaaOpen
import Derived.Test.YtdpjbjgecmnmnaaNeckWalks
import Derived.Test.YtdpjbjgecmnmnaaNeckCat
import Derived.Deep.RegionHeld3
import Derived.BigQuiet
namespace Go.Proofs.Ytdpjbjgecmnmnaa.SpanNeckLaw
open Go.ChangeShapes Go.WideShapes Go.ChangeAt Go.RowKit Go.Proofs.Ytdpjbjgecmnmnaa NetLaw SpanLaw NeckLaw Go.Proofs.Ytdpjbjgecmnmnaa.Net Go.Proofs.Ytdpjbjgecmnmnaa.Span Go.Proofs.Ytdpjbjgecmnmnaa.Refs Go.Proofs.Ytdpjbjgecmnmnaa.Std
set_option linter.unusedSimpArgs false
set_option linter.unusedVariables false

set_option maxRecDepth 100000 in
set_option maxHeartbeats 8000000 in
theorem walk (w : World) (N : Int) (A : Option Addr) (c : Nat) (l : List E) (hA : Arg w 3 ce A c l) (a : Int) (ha : -9223372036854775808 ≤ a ∧ a ≤ 9223372036854775807) (b : Int) (hb : -9223372036854775808 ≤ b ∧ b ≤ 9223372036854775807) :
    Calls Try.prog 14 #[.agg #[.int .i64 N, .slice A l.length c], .int .i64 a, .int .i64 b] w fun e w' => e = .returned (.bool true) ∧ Below w.heap.size w w' := by
  have hs := hA.sl
  have hll : l.length ≤ 9223372036854775807 := Nat.le_trans hA.cap hA.max
  clear hA
  have hw0 : Below w.heap.size w (w.alloc (.cells #[.int .i64 N, .slice A l.length c] 24)) := (Below.refl _ _).alloc (Nat.le_refl _) _
  have key0 := fun W g h => neck_two W g h
  have k1 := fun W h => neck_any N A c l a b W h hll
  have KEY0 := Lib.hid key0
  have K1 := Lib.hid k1
  clear key0 k1
  by_cases hx : chk N l = 0
  · have hg := chk_zero.1 hx
    have hN1 := hg.lo
    have hN2 := hg.hi
    have h6 := hg.len
    obtain ⟨n, rfl⟩ := Int.eq_ofNat_of_zero_le (show 0 ≤ N by omega)
    have hn64 : n ≤ 64 := by omega
    have k2 := fun W h => tree_yes n A c l W h hg
    have K2 := Lib.hid k2
    have HG := Lib.hid hg
    clear k2 hx hg
    go_enter Try.func14, Try.ntmps14
    go_wp2_with fail
    refine (two_any _).mono ?_
    rintro e w1 ⟨g, rfl, own1, hb1⟩
    have B1 : Below (w.heap.size + 1) (w.alloc (.cells #[.int .i64 n, .slice A l.length c] 24)) w1 := hb1.mono (by simp)
    have Z1 : w.heap.size + 1 ≤ w1.heap.size := by have := hb1.size; simp at this; omega
    clear hb1
    go_wp2_with fail
    refine (KEY0.out _ _ own1.sl.2).mono ?_
    rintro e w2 ⟨rfl, hb2⟩
    have B3 := B1.trans (hb2.mono Z1)
    have Z3 : w.heap.size + 1 ≤ w2.heap.size := by have := hb2.size; omega
    clear hb2 own1 B1 Z1
    have H3 := hw0.trans (B3.mono (Nat.le_succ _))
    have z3 : w.heap.size < w2.heap.size := by omega
    obtain ⟨cc3, _⟩ := keepAt B3 (Nat.lt_succ_self _)
    have q0 := cc3 0
    have q1 := cc3 1
    simp at q0 q1
    clear cc3
    go_wp2_with fail
    refine (K1.out _ ((hs.keep H3 (Nat.le_refl _)).more H3.size)).mono ?_
    rintro e w3 ⟨x, er, rfl, hb3, hf⟩
    have B5 := B3.trans (hb3.mono Z3)
    have Z5 : w.heap.size + 1 ≤ w3.heap.size := by have := hb3.size; omega
    have H5 := hw0.trans (B5.mono (Nat.le_succ _))
    have z5 : w.heap.size < w3.heap.size := by omega
    clear q0 q1 hb3 B3 H3 z3 Z3
    obtain ⟨cc5, _⟩ := keepAt B5 (Nat.lt_succ_self _)
    have q0 := cc5 0
    have q1 := cc5 1
    simp at q0 q1
    clear cc5
    go_wp2_with fail
    refine (K2.out _ ((hs.keep H5 (Nat.le_refl _)).more H5.size)).mono ?_
    rintro e w4 ⟨Ao, co', out, rfl, own4, hkru, hb4⟩
    by_cases he : er = 0
    · obtain ⟨_, a0, a1, b0, b1, hbot⟩ : NetLaw.Good n l ∧ 0 ≤ a ∧ a < n ∧ 0 ≤ b ∧ b < n ∧ Bot l a.toNat b.toNat x := by
        rcases hf.out with ⟨h, _⟩ | ⟨_, h⟩
        · exact absurd he h
        · obtain ⟨h1, h2, h3, h4, h5, h7⟩ := h
          exact ⟨h1, h2, h3, h4, h5, h7⟩
      subst he
      obtain ⟨a, rfl⟩ := Int.eq_ofNat_of_zero_le a0
      obtain ⟨b, rfl⟩ := Int.eq_ofNat_of_zero_le b0
      simp only [Int.toNat_natCast] at hbot
      obtain ⟨i, hi, hci, hsi, hmx⟩ := neck_at hkru HG.out hbot
      have hch := ch_of hkru
      obtain ⟨sep, hsep⟩ : ∃ sep : Nat → Bool, sep = fun j => (UnionLaw.root (grp ((wo out j).map (es l))) a != UnionLaw.root (grp ((wo out j).map (es l))) b) := ⟨_, rfl⟩
      obtain ⟨cst, hcst⟩ : ∃ cst : Nat → Int, cst = fun j => co l (out.getD j 0) := ⟨_, rfl⟩
      have hsc : ∀ j, sep j = true ↔ ¬ cn ((wo out j).map (es l)) a b := fun j => by rw [hsep, bne_iff_ne]; rfl
      have hcs : ∀ j (hj : j < out.length), cst j = co l out[j] := fun j hj => by rw [hcst]; dsimp only; rw [List.getD_eq_getElem?_getD, List.getElem?_eq_getElem hj]; rfl
      have hend : ns sep cst out.length = (x, true) := by
        rw [ns_max hi ((hsc i).2 hsi) (fun j hj hs => by rw [hcs j hj, hcs i hi, hci]; exact hmx j hj ((hsc j).1 hs)), hcs i hi, hci]
      have B4 := B5.trans (hb4.mono Z5)
      have H4 : Below w.heap.size w w4 := hw0.trans (B4.mono (Nat.le_succ _))
      have z4 : w.heap.size < w4.heap.size := by have := hb4.size; omega
      obtain ⟨cc4, _⟩ := keepAt B4 (Nat.lt_succ_self _)
      have q0' := cc4 0
      have q1' := cc4 1
      simp at q0' q1'
      have hfr : From w w4 n A c l w4 := ⟨Below.refl _ _, H4, q0', q1', (hs.keep H4 (Nat.le_refl _)).more H4.size, z4⟩
      have hrd : Rd w4 Ao out := own4.sl.2
      have hcap := own4.form
      have hol := hch.len
      obtain ⟨m, hm⟩ : ∃ m, out.length = m := ⟨_, rfl⟩
      have hcp : m ≤ co' := by obtain ⟨_, _, e, h, _⟩ := hcap; injection e with _ _ e; rw [zs_len] at h; omega
      rw [hm] at hend hol ⊢
      have FR := Lib.hid hfr
      have RD := Lib.hid hrd
      have CH := Lib.hid hch
      have HM := Lib.hid hm
      have HEND := Lib.hid hend
      have HSC := Lib.hid hsep
      have HCS := Lib.hid hcs
      clear q0 q1 q0' q1' B4 B5 H5 z5 Z5 hb4 own4 hkru hch cc4 hfr hrd hcap hm hs hw0 hf hbot hi hci hsi hmx hsep hcst hsc hcs hend a0 b0
      have f4 := FR.out
      have n0 := f4.n0
      have n1 := f4.n1
      clear f4
      go_wp2
      go_loopw [13, 14, 52] (fun s13 s14 s wr => ∃ k : Nat, k ≤ m ∧ s = .int .i64 k ∧ s13 = .int .i64 (ns sep cst k).1 ∧ s14 = .bool (ns sep cst k).2 ∧ Hid (From w w4 n A c l wr)) (fun _ _ s _ => m - (intOf s).toNat)
      case atStart => exact ⟨0, Nat.zero_le _, rfl, rfl, rfl, FR⟩
      case round =>
        obtain ⟨k, hk, rfl, rfl, rfl, F5⟩ := hrel
        have FR5 := Lib.hid F5.out.here
        have r0 := F5.out.n0
        have r1 := F5.out.n1
        have z5 := F5.out.lt
        have H5 := F5.out.lo
        have RD5 : Hid (Rd wr Ao out) := Lib.hid (RD.out.at_ F5.out)
        clear n0 n1 z4 H4
        by_cases hlt : k < m
        · have hko : k < out.length := by rw [HM.out]; exact hlt
          have hkz : k < (zs out).length := by rw [zs_len]; exact hko
          obtain ⟨bo, oo, rfl, hbo, hc⟩ := Sl.atI RD5.out hkz
          have hzk : (zs out)[k] = ((out[k] : Nat) : Int) := by simp [zs]
          have hil := CH.out.lt _ (List.getElem_mem hko)
          have hck := HCS.out k hko
          rw [hzk] at hc
          generalize out[k] = i at *
          have HCK := Lib.hid hck
          have e1 : (k : Int) ≤ (co' : Int) := by omega
          have e2 : k ≤ co' := by omega
          have e3 : (0 : Int) ≤ (k : Int) := by omega
          have e4 : k + 1 ≤ m := by omega
          have e5 : k + 1 ≤ co' := by omega
          have w1 : IntKind.i64.wrap ((k : Int) + 1) = (k : Int) + 1 := by simp [IntKind.wrap, IntKind.bits, IntKind.signed]; omega
          have w2 : (k : Int) + 1 ≤ (m : Int) := by omega
          have w3 : (k : Int) + 1 ≤ (co' : Int) := by omega
          have w4' : (0 : Int) ≤ (k : Int) + 1 := by omega
          have w5 : ((k : Int) + 1).toNat = k + 1 := by omega
          have w6 : (m : Int) ≤ (co' : Int) := by omega
          clear hck hzk hkz hko
          have kcat := fun t => concat_wo (w0 := w) FR5.out t bo oo co' k m out HM.out hlt (by omega) hcp RD5.out
          have hmw : (wo out k).length = k + (m - (k + 1)) := by have := wo_len (out := out) (i := k) (by rw [HM.out]; exact hlt); have := HM.out; omega
          have HMW := Lib.hid hmw
          have HWL := Lib.hid (fun x (hx : x ∈ wo out k) => CH.out.lt x (wo_mem hx))
          clear hmw
          by_cases hce : co' = k + 1
          · simp only [if_pos hce] at kcat
            have hce' : (co' = k + 1) = True := eq_true hce
            clear hce
            have KCAT := Lib.hid kcat
            clear kcat
            go_upto_region 12 with fail
            go_cut [17, 18] from 57 to 73 (fun s17 s18 wx => ∃ A9 c9, s17 = .slice A9 n c9 ∧ s18 = .int .i64 0 ∧ Sl wx wx.heap.size 1 ci A9 (gl n l (wo out k)) ∧ From w wr n A c l wx)
            case first =>
              go_region_held3 (fun w' => w'.cell? ⟨w.heap.size, 0, none⟩ = some (.int .i64 n) ∧ w'.cell? ⟨w.heap.size, 1, none⟩ = some (.slice A l.length c))
                (first | go_keep | exact ⟨F10.n0, F10.n1⟩ | exact ⟨F11.n0, F11.n1⟩ | exact ⟨F12.n0, F12.n1⟩)
                (first
                  | (go_at_call 48; refine (KCAT.out _).mono ?_; rintro e w10 ⟨A10, c10, rfl, S10, F10⟩)
                  | (go_at_call 43; refine (pairs_from (w0 := w) (w4 := wr) (js := wo out k) _ (by first | exact F10 | exact F10.drew) (by exact S10) HMW.out h6 (by omega) HWL.out).mono ?_; rintro e w11 ⟨A11, c11, rfl, S11, F11⟩)
                  | (go_at_call 42; refine (of_from (w0 := w) (w4 := wr) (js := wo out k) _ (by first | exact F11 | exact F11.drew) (by exact S11) hn64 HMW.out (by omega) HG.out HWL.out).mono ?_; rintro e w12 ⟨A12, c12, rfl, S12, F12⟩))
              go_wp2_with fail
              go_meet
              exact ⟨A12, c12, rfl, rfl, S12, F12⟩
            case rest =>
              obtain ⟨A9, c9, rfl, rfl, SL9, F9⟩ := hcut
              have SL9' := Lib.hid SL9
              have hgz : (gl n l (wo out k)).length = n := gl_len _ _ _
              have haz : a < (gl n l (wo out k)).length := by omega
              have hbz : b < (gl n l (wo out k)).length := by omega
              obtain ⟨ba, oa, rfl, hba, hca⟩ := Sl.atI SL9 haz
              obtain ⟨bb, ob', heq, hbb, hcb⟩ := Sl.atI SL9 hbz
              injection heq with heq
              injection heq with heq1 heq2
              subst heq1 heq2
              rw [show (gl n l (wo out k))[a] = _ from Union.outL_get haz] at hca
              rw [show (gl n l (wo out k))[b] = _ from Union.outL_get hbz] at hcb
              have hsp := congrFun HSC.out k
              have hnsk : ns sep cst (k + 1) = if sep k = true ∧ ((ns sep cst k).2 = false ∨ (ns sep cst k).1 < cst k) then (cst k, true) else ns sep cst k := rfl
              obtain ⟨be, oe, ef, et, ec, rfl, hbe, hee, hcf, hct, hcc⟩ := F9.net.atE hil
              have hcok : cst k = ec := by rw [HCK.out, co, getD_at hil, hee]
              have hec := HG.out.cost _ (List.getElem_mem hil)
              rw [hee] at hec
              simp only at hec
              obtain ⟨hec0, hec1⟩ := hec
              have F10' := F5.out.go F9.below
              have n0 := F9.n0
              have n1 := F9.n1
              have z9 := F9.lt
              have H9 := F9.lo
              have FW := Lib.hid F10'
              clear F5 F9 F10' SL9 FR5 RD5 KCAT hbo hc hgz haz hbz hee r0 r1 H5
              rw [hcok] at hnsk
              generalize UnionLaw.root (grp ((wo out k).map (es l))) a = ra at *
              generalize UnionLaw.root (grp ((wo out k).map (es l))) b = rb at *
              generalize ns sep cst k = p0 at *
              obtain ⟨x0, s0⟩ := p0
              dsimp only at hnsk
              have hab : sep k = decide (ra ≠ rb) := by rw [hsp]; by_cases h : ra = rb <;> simp [h]
              clear hsp hcok
              by_cases hr : ra = rb
              · have e0 : sep k = false := by rw [hab]; simp [hr]
                rw [e0, if_neg (by simp)] at hnsk
                have HNW := Lib.hid hnsk
                have d1 : ((ra : Int) != (rb : Int)) = false := by simp [hr]
                clear hab e0 hnsk hr
                go_wp2
                go_quiet (fail)
                go_wp2
                go_roundw
                case rel => exact ⟨k + 1, by omega, by go_num, by rw [HNW.out], by rw [HNW.out], Lib.hid (FW.out.go (below_drewN (Below.refl _ _) _))⟩
                case measure => simp [intOf]; omega
              · have e0 : sep k = true := by rw [hab]; simp [hr]
                rw [e0] at hnsk
                have d1 : ((ra : Int) != (rb : Int)) = true := by rw [bne_iff_ne]; omega
                clear hab e0 hr
                cases s0 with
                | false =>
                  rw [if_pos ⟨rfl, .inl rfl⟩] at hnsk
                  have HNW := Lib.hid hnsk
                  clear hnsk
                  go_wp2
                  go_quiet (fail)
                  go_wp2
                  go_roundw
                  case rel => exact ⟨k + 1, by omega, by go_num, by rw [HNW.out], by rw [HNW.out], Lib.hid (FW.out.go (below_drewN (Below.refl _ _) _))⟩
                  case measure => simp [intOf]; omega
                | true =>
                  by_cases hlx : x0 < ec
                  · rw [if_pos ⟨rfl, .inr hlx⟩] at hnsk
                    have HNW := Lib.hid hnsk
                    have d2 : decide (ec > x0) = true := decide_eq_true hlx
                    clear hnsk
                    go_wp2
                    go_quiet (fail)
                    go_wp2
                    go_roundw
                    case rel => exact ⟨k + 1, by omega, by go_num, by rw [HNW.out], by rw [HNW.out], Lib.hid (FW.out.go (below_drewN (Below.refl _ _) _))⟩
                    case measure => simp [intOf]; omega
                  · rw [if_neg (by rintro ⟨_, h | h⟩; cases h; exact hlx h)] at hnsk
                    have HNW := Lib.hid hnsk
                    have d2 : decide (ec > x0) = false := decide_eq_false hlx
                    clear hnsk
                    go_wp2
                    go_quiet (fail)
                    go_wp2
                    go_roundw
                    case rel => exact ⟨k + 1, by omega, by go_num, by rw [HNW.out], by rw [HNW.out], Lib.hid (FW.out.go (below_drewN (Below.refl _ _) _))⟩
                    case measure => simp [intOf]; omega
          · simp only [if_neg hce] at kcat
            have KCAT := Lib.hid kcat
            clear kcat
            go_upto_region 12 with fail
            go_cut [17, 18] from 57 to 73 (fun s17 s18 wx => ∃ A9 c9, s17 = .slice A9 n c9 ∧ s18 = .int .i64 0 ∧ Sl wx wx.heap.size 1 ci A9 (gl n l (wo out k)) ∧ From w wr n A c l wx)
            case first =>
              go_region_held3 (fun w' => w'.cell? ⟨w.heap.size, 0, none⟩ = some (.int .i64 n) ∧ w'.cell? ⟨w.heap.size, 1, none⟩ = some (.slice A l.length c))
                (first | go_keep | exact ⟨F10.n0, F10.n1⟩ | exact ⟨F11.n0, F11.n1⟩ | exact ⟨F12.n0, F12.n1⟩)
                (first
                  | (go_at_call 48; refine (KCAT.out _).mono ?_; rintro e w10 ⟨A10, c10, rfl, S10, F10⟩)
                  | (go_at_call 43; refine (pairs_from (w0 := w) (w4 := wr) (js := wo out k) _ (by first | exact F10 | exact F10.drew) (by exact S10) HMW.out h6 (by omega) HWL.out).mono ?_; rintro e w11 ⟨A11, c11, rfl, S11, F11⟩)
                  | (go_at_call 42; refine (of_from (w0 := w) (w4 := wr) (js := wo out k) _ (by first | exact F11 | exact F11.drew) (by exact S11) hn64 HMW.out (by omega) HG.out HWL.out).mono ?_; rintro e w12 ⟨A12, c12, rfl, S12, F12⟩))
              go_wp2_with fail
              go_meet
              exact ⟨A12, c12, rfl, rfl, S12, F12⟩
            case rest =>
              obtain ⟨A9, c9, rfl, rfl, SL9, F9⟩ := hcut
              have SL9' := Lib.hid SL9
              have hgz : (gl n l (wo out k)).length = n := gl_len _ _ _
              have haz : a < (gl n l (wo out k)).length := by omega
              have hbz : b < (gl n l (wo out k)).length := by omega
              obtain ⟨ba, oa, rfl, hba, hca⟩ := Sl.atI SL9 haz
              obtain ⟨bb, ob', heq, hbb, hcb⟩ := Sl.atI SL9 hbz
              injection heq with heq
              injection heq with heq1 heq2
              subst heq1 heq2
              rw [show (gl n l (wo out k))[a] = _ from Union.outL_get haz] at hca
              rw [show (gl n l (wo out k))[b] = _ from Union.outL_get hbz] at hcb
              have hsp := congrFun HSC.out k
              have hnsk : ns sep cst (k + 1) = if sep k = true ∧ ((ns sep cst k).2 = false ∨ (ns sep cst k).1 < cst k) then (cst k, true) else ns sep cst k := rfl
              obtain ⟨be, oe, ef, et, ec, rfl, hbe, hee, hcf, hct, hcc⟩ := F9.net.atE hil
              have hcok : cst k = ec := by rw [HCK.out, co, getD_at hil, hee]
              have hec := HG.out.cost _ (List.getElem_mem hil)
              rw [hee] at hec
              simp only at hec
              obtain ⟨hec0, hec1⟩ := hec
              have F10' := F5.out.go F9.below
              have n0 := F9.n0
              have n1 := F9.n1
              have z9 := F9.lt
              have H9 := F9.lo
              have FW := Lib.hid F10'
              clear F5 F9 F10' SL9 FR5 RD5 KCAT hbo hc hgz haz hbz hee r0 r1 H5
              rw [hcok] at hnsk
              generalize UnionLaw.root (grp ((wo out k).map (es l))) a = ra at *
              generalize UnionLaw.root (grp ((wo out k).map (es l))) b = rb at *
              generalize ns sep cst k = p0 at *
              obtain ⟨x0, s0⟩ := p0
              dsimp only at hnsk
              have hab : sep k = decide (ra ≠ rb) := by rw [hsp]; by_cases h : ra = rb <;> simp [h]
              clear hsp hcok
              by_cases hr : ra = rb
              · have e0 : sep k = false := by rw [hab]; simp [hr]
                rw [e0, if_neg (by simp)] at hnsk
                have HNW := Lib.hid hnsk
                have d1 : ((ra : Int) != (rb : Int)) = false := by simp [hr]
                clear hab e0 hnsk hr
                go_wp2
                go_quiet (fail)
                go_wp2
                go_roundw
                case rel => exact ⟨k + 1, by omega, by go_num, by rw [HNW.out], by rw [HNW.out], Lib.hid (FW.out.go (below_drewN (Below.refl _ _) _))⟩
                case measure => simp [intOf]; omega
              · have e0 : sep k = true := by rw [hab]; simp [hr]
                rw [e0] at hnsk
                have d1 : ((ra : Int) != (rb : Int)) = true := by rw [bne_iff_ne]; omega
                clear hab e0 hr
                cases s0 with
                | false =>
                  rw [if_pos ⟨rfl, .inl rfl⟩] at hnsk
                  have HNW := Lib.hid hnsk
                  clear hnsk
                  go_wp2
                  go_quiet (fail)
                  go_wp2
                  go_roundw
                  case rel => exact ⟨k + 1, by omega, by go_num, by rw [HNW.out], by rw [HNW.out], Lib.hid (FW.out.go (below_drewN (Below.refl _ _) _))⟩
                  case measure => simp [intOf]; omega
                | true =>
                  by_cases hlx : x0 < ec
                  · rw [if_pos ⟨rfl, .inr hlx⟩] at hnsk
                    have HNW := Lib.hid hnsk
                    have d2 : decide (ec > x0) = true := decide_eq_true hlx
                    clear hnsk
                    go_wp2
                    go_quiet (fail)
                    go_wp2
                    go_roundw
                    case rel => exact ⟨k + 1, by omega, by go_num, by rw [HNW.out], by rw [HNW.out], Lib.hid (FW.out.go (below_drewN (Below.refl _ _) _))⟩
                    case measure => simp [intOf]; omega
                  · rw [if_neg (by rintro ⟨_, h | h⟩; cases h; exact hlx h)] at hnsk
                    have HNW := Lib.hid hnsk
                    have d2 : decide (ec > x0) = false := decide_eq_false hlx
                    clear hnsk
                    go_wp2
                    go_quiet (fail)
                    go_wp2
                    go_roundw
                    case rel => exact ⟨k + 1, by omega, by go_num, by rw [HNW.out], by rw [HNW.out], Lib.hid (FW.out.go (below_drewN (Below.refl _ _) _))⟩
                    case measure => simp [intOf]; omega
        · obtain rfl : k = m := by omega
          have he := HEND.out
          generalize hns : ns sep cst k = y at *
          subst he
          clear hlt
          go_wp2
          go_ret
          exact ⟨rfl, H5⟩
    · have hx0 : x = 0 := by
        rcases hf.out with ⟨_, h, _⟩ | ⟨h, _⟩
        · exact h
        · exact absurd h he
      subst hx0
      have hne : (er != 0) = true := by rw [bne_iff_ne]; exact he
      have H4 := H5.trans (hb4.mono H5.size)
      clear hb4 own4 hkru q0 q1
      go_wp2
      go_ret
      exact ⟨rfl, H4⟩
  · have k2 := fun W h => tree_no N A c l W h hll hx
    have hxg : ¬ NetLaw.Good N l := fun h => hx (chk_zero.2 h)
    have hne : (chk N l != 0) = true := by rw [bne_iff_ne]; exact hx
    generalize chk N l = er2 at *
    have K2 := Lib.hid k2
    have HXG := Lib.hid hxg
    clear k2 hx hxg
    go_enter Try.func14, Try.ntmps14
    go_wp2_with fail
    refine (two_any _).mono ?_
    rintro e w1 ⟨g, rfl, own1, hb1⟩
    have B1 : Below (w.heap.size + 1) (w.alloc (.cells #[.int .i64 N, .slice A l.length c] 24)) w1 := hb1.mono (by simp)
    have Z1 : w.heap.size + 1 ≤ w1.heap.size := by have := hb1.size; simp at this; omega
    clear hb1
    go_wp2_with fail
    refine (KEY0.out _ _ own1.sl.2).mono ?_
    rintro e w2 ⟨rfl, hb2⟩
    have B3 := B1.trans (hb2.mono Z1)
    have Z3 : w.heap.size + 1 ≤ w2.heap.size := by have := hb2.size; omega
    clear hb2 own1 B1 Z1
    have H3 := hw0.trans (B3.mono (Nat.le_succ _))
    have z3 : w.heap.size < w2.heap.size := by omega
    obtain ⟨cc3, _⟩ := keepAt B3 (Nat.lt_succ_self _)
    have q0 := cc3 0
    have q1 := cc3 1
    simp at q0 q1
    clear cc3
    go_wp2_with fail
    refine (K1.out _ ((hs.keep H3 (Nat.le_refl _)).more H3.size)).mono ?_
    rintro e w3 ⟨x, er, rfl, hb3, hf⟩
    have B5 := B3.trans (hb3.mono Z3)
    have Z5 : w.heap.size + 1 ≤ w3.heap.size := by have := hb3.size; omega
    have H5 := hw0.trans (B5.mono (Nat.le_succ _))
    have z5 : w.heap.size < w3.heap.size := by omega
    clear q0 q1 hb3 B3 H3 z3 Z3
    obtain ⟨cc5, _⟩ := keepAt B5 (Nat.lt_succ_self _)
    have q0 := cc5 0
    have q1 := cc5 1
    simp at q0 q1
    clear cc5
    have hx0 : x = 0 := by
      rcases hf.out with ⟨_, h, _⟩ | ⟨_, h, _⟩
      · exact h
      · exact absurd h HXG.out
    subst hx0
    have hne1 : (er != 0) = true := by
      rw [bne_iff_ne]
      rcases hf.out with ⟨h, _⟩ | ⟨_, h, _⟩
      · exact h
      · exact absurd h HXG.out
    go_wp2_with fail
    refine (K2.out _ ((hs.keep H5 (Nat.le_refl _)).more H5.size)).mono ?_
    rintro e w4 ⟨rfl, hb4⟩
    have H4 := H5.trans (hb4.mono H5.size)
    clear hb4 q0 q1
    go_wp2
    go_ret
    exact ⟨rfl, H4⟩

theorem own : ownKnob Try.prog.godebug = none := by kernel_rfl
theorem laidOut : laidOutB Try.prog = true := by kernel_rfl

set_option maxRecDepth 100000 in
theorem lifted (os : Os) (started : os.Started) (H : Type) (enc : TypeId × Value → H) :
    ReturnsInHanded {} Try.checked os 14 .any (Rows.spanNeckSpec.pre6 enc Try.prog Try.f14 Rows.spanNeckRow.domain false) (Rows.spanNeckSpec.post enc Try.prog Try.f14 false true false false) := by
  refine returnsInHanded_of_change (C := Try.checked) own started (by kernel_rfl) Try.func14
    (ChangeSpec.witness6 (enc := enc) (C := Try.checked) false ⟨#[], #[.agg #[.int .i64 0, .slice none 0 0], .int .i64 0, .int .i64 0], []⟩ 8 (by kernel_rfl) (by kernel_rfl) (by kernel_rfl) (by kernel_rfl)) ?_
  intro W base args ds gs before hval0 hW hcnd _
  have hval : ∀ (j : Nat) t v, Try.f14.params[j]? = some t → args[j]? = some v → Value.okWide Try.prog W .any base t v := hval0
  have hW' := hW
  obtain ⟨p, q, hA0, hV, rfl, hfz, hnd⟩ := hW
  have hA : DataW.TrodAll enc Try.prog W 0 (fun _ => true) true Try.f14.params.toList args.toList ds p := hA0
  rw [Try.params14] at hA hval
  obtain ⟨v0, vs0, d0, ds0, p0, q0, hargs, rfl, rfl, h0, r0⟩ := trodAll_cons hA
  obtain ⟨v1, vs1, d1, ds1, p1, q1, rfl, rfl, rfl, h1, r1⟩ := trodAll_cons r0
  obtain ⟨v2, vs2, d2, ds2, p2, q2, rfl, rfl, rfl, h2, r2⟩ := trodAll_cons r1
  obtain ⟨rfl, rfl, rfl⟩ := trodAll_nil r2
  obtain rfl : args = #[v0, v1, v2] := by cases args; simp_all
  obtain ⟨rfl, rfl⟩ := trodVars_none hV
  obtain ⟨N0, A0, c0, l0, dd0, rfl, hN0, hG0, hb0, rfl, hd0⟩ := open_net Try.underlying24 (by kernel_rfl) (by kernel_rfl) Try.underlying3 Try.underlying22 Try.underlying60 (by kernel_rfl) (by kernel_rfl) Try.underlying3 Try.underlying3 Try.underlying3 (hval 0 24 v0 rfl rfl) h0
  obtain ⟨a1, rfl, rfl, rfl, wa1⟩ := open_int Try.underlying3 (hval 1 3 v1 rfl rfl) h1
  obtain ⟨a2, rfl, rfl, rfl, wa2⟩ := open_int Try.underlying3 (hval 2 3 v2 rfl rfl) h2
  refine (walk W N0 A0 c0 l0 hG0 a1 (wf_bd wa1) a2 (wf_bd wa2)).mono fun e W' ⟨he, hB⟩ => ?_
  subst he
  exact ⟨_, rfl, post_of_law laidOut rfl Try.underlying4 rfl (by intro t ht; rw [Try.params14] at ht; simp at ht; rcases ht with rfl | rfl | rfl <;> exact ⟨by kernel_rfl, of_decide_eq_true (by kernel_rfl)⟩) hW' rfl hB⟩

theorem holds : Rows.SpanNeckSaid :=
  OpenClaim.holds_of_wide 14 Try.f14 rfl rfl rfl rfl rfl rfl rfl ⟨rfl, rfl, rfl, rfl, rfl⟩ rfl rfl rfl rfl rfl (by kernel_rfl) Try.func14 (by kernel_rfl)
    (of_decide_eq_true (by kernel_rfl)) (by unfold Func.isWrapper; first | (rw [if_pos (by decide +kernel)]; kernel_rfl) | (rw [if_neg (by decide +kernel)]; exact ⟨rfl, rfl⟩))
    (fun os started H enc _ => lifted os started H enc)
#print axioms holds
end Go.Proofs.Ytdpjbjgecmnmnaa.SpanNeckLaw
