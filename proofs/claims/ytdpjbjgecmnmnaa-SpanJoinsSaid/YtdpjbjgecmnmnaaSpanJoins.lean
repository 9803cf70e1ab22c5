/- For every net: SpanJoins answers true (Kruskal's forest joins what all edges join, without an edge too many), and the net reads as before. No condition. -/
import Derived.Test.YtdpjbjgecmnmnaaRows
import Derived.Test.YtdpjbjgecmnmnaaOpen
import Derived.Test.YtdpjbjgecmnmnaaSpanUse
import Derived.Deep.RegionHeld3
namespace Go.Proofs.Ytdpjbjgecmnmnaa.SpanJoinsLaw
open Go.ChangeShapes Go.WideShapes Go.ChangeAt Go.RowKit Go.Proofs.Ytdpjbjgecmnmnaa NetLaw SpanLaw Go.Proofs.Ytdpjbjgecmnmnaa.Net Go.Proofs.Ytdpjbjgecmnmnaa.Span Go.Proofs.Ytdpjbjgecmnmnaa.Refs Go.Proofs.Ytdpjbjgecmnmnaa.Std
set_option linter.unusedSimpArgs false
set_option linter.unusedVariables false

theorem sl_take {w : World} {B : Nat} {A : Option Addr} {l : List Int} (h : Sl w B 1 ci A l) (k : Nat) : Sl w B 1 ci A (l.take k) := by
  intro hl
  rw [List.length_take] at hl
  obtain ⟨b, off, hA, hb, hc⟩ := h (by omega)
  refine ⟨b, off, hA, hb, fun i hi j hj => ?_⟩
  rw [List.length_take] at hi
  have := hc i (by omega) j hj
  rw [this, List.getElem_take]
theorem nodup_take {l : List Nat} (h : l.Nodup) {k : Nat} (hk : k < l.length) : ((l[k] : Nat) : Int) ∉ (zs l).take k := fun hm => by
  obtain ⟨i, hi, e⟩ := List.mem_iff_getElem.1 hm
  rw [List.length_take, zs_len] at hi
  rw [List.getElem_take] at e
  have e2 : (zs l)[i]'(by rw [zs_len]; omega) = ((l[i]'(by omega) : Nat) : Int) := by simp [zs]
  rw [e2] at e
  have := (List.getElem_inj h).1 (show l[i]'(by omega) = l[k] by omega)
  omega

set_option maxRecDepth 100000 in
set_option maxHeartbeats 8000000 in
theorem walk (w : World) (N : Int) (A : Option Addr) (c : Nat) (l : List E) (hA : Arg w 3 ce A c l) :
    Calls Try.prog 12 #[.agg #[.int .i64 N, .slice A l.length c]] w fun e w' => e = .returned (.bool true) ∧ Below w.heap.size w w' := by
  have hs := hA.sl
  have hll : l.length ≤ 9223372036854775807 := Nat.le_trans hA.cap hA.max
  clear hA
  have hw0 : Below w.heap.size w (w.alloc (.cells #[.int .i64 N, .slice A l.length c] 24)) := (Below.refl _ _).alloc (Nat.le_refl _) _
  have key0 := fun W g h => tree_two W g h
  have key1 := fun W A A' c c' B B' h h' => eq_one 0 W A A' c c' B B' h h'
  have KEY0 := Lib.hid key0
  have KEY1 := Lib.hid key1
  clear key0 key1
  by_cases hx : chk N l = 0
  · have hg := chk_zero.1 hx
    have hN1 := hg.lo
    have hN2 := hg.hi
    have h6 := hg.len
    obtain ⟨n, rfl⟩ := Int.eq_ofNat_of_zero_le (show 0 ≤ N by omega)
    have hn64 : n ≤ 64 := by omega
    have k2 := fun W h => tree_yes n A c l W h hg
    have K2 := Lib.hid k2
    have HG := Lib.hid hg
    clear k2 hx hg
    go_enter Try.func12, Try.ntmps12
    go_wp2_with fail
    refine (two_any _).mono ?_
    rintro e w1 ⟨g, rfl, own1, hb1⟩
    have B1 : Below (w.heap.size + 1) (w.alloc (.cells #[.int .i64 n, .slice A l.length c] 24)) w1 := hb1.mono (by simp)
    have Z1 : w.heap.size + 1 ≤ w1.heap.size := by have := hb1.size; simp at this; omega
    clear hb1
    go_wp2_with fail
    refine (KEY0.out _ _ own1.sl.2).mono ?_
    rintro e w2 ⟨A2, c2, rfl, own2, hb2⟩
    have B2 := B1.trans (hb2.mono Z1)
    have Z2 : w.heap.size + 1 ≤ w2.heap.size := by have := hb2.size; omega
    clear hb2 own1 B1 Z1
    go_wp2_with fail
    refine (KEY1.out _ _ _ _ _ _ _ (own2.alloc _).sl.2 (sl_new' (by decide) w2 #[.int .i64 0] _ _ rfl rfl)).mono ?_
    rintro e w3 ⟨rfl, n3, rfl⟩
    have B3 := below_drewN (B2.alloc Z2 (.cells #[.int .i64 0] 3)) n3
    have Z3 : w.heap.size + 1 ≤ (w2.alloc (.cells #[.int .i64 0] 3)).heap.size := by simp; omega
    generalize (w2.alloc (.cells #[.int .i64 0] 3)) = w3 at B3 Z3 ⊢
    clear own2 B2 Z2
    have z3 : w.heap.size < w3.heap.size := by omega
    have H3 := hw0.trans (B3.mono (Nat.le_succ _))
    obtain ⟨cc3, _⟩ := keepAt B3 (Nat.lt_succ_self _)
    have q0 := cc3 0
    have q1 := cc3 1
    simp at q0 q1
    clear cc3
    go_wp2_with fail
    refine (K2.out _ ((hs.keep H3 (Nat.le_refl _)).more (by simp; omega))).mono ?_
    rintro e w4 ⟨Ao, co', out, rfl, own4, hkru, hb4⟩
    have hch := ch_of hkru
    have B4 := B3.trans (hb4.mono Z3)
    have H4 : Below w.heap.size w w4 := hw0.trans (B4.mono (Nat.le_succ _))
    have z4 : w.heap.size < w4.heap.size := by have := hb4.size; simp at this; omega
    obtain ⟨cc4, _⟩ := keepAt B4 (Nat.lt_succ_self _)
    have q0' := cc4 0
    have q1' := cc4 1
    simp at q0' q1'
    have hfr : From w w4 n A c l w4 := ⟨Below.refl _ _, H4, q0', q1', (hs.keep H4 (Nat.le_refl _)).more H4.size, z4⟩
    have hrd : Rd w4 Ao out := own4.sl.2
    have hcap := own4.form
    have hol := hch.len
    obtain ⟨m, hm⟩ : ∃ m, out.length = m := ⟨_, rfl⟩
    have hcp : m ≤ co' := by obtain ⟨_, _, e, h, _⟩ := hcap; injection e with _ _ e; rw [zs_len] at h; omega
    have FR := Lib.hid hfr
    have RD := Lib.hid hrd
    have CH := Lib.hid hch
    have HM := Lib.hid hm
    rw [hm] at hol ⊢
    clear q0 q1 q0' q1' B3 H3 z3 Z3 hb4 own4 hkru hch cc4 hfr hrd hcap hm hs hw0 B4
    have f4 := FR.out
    have n0 := f4.n0
    have n1 := f4.n1
    clear f4
    go_wp2
    go_loopw [39] (fun s wr => ∃ k : Nat, k ≤ m ∧ s = .int .i64 k ∧ w4 = wr) (fun s _ => m - (intOf s).toNat)
    case atStart => exact ⟨0, Nat.zero_le _, rfl, rfl⟩
    case round =>
      obtain ⟨k, hk, rfl, rfl⟩ := hrel
      by_cases hlt : k < m
      · have hko : k < out.length := by rw [HM.out]; exact hlt
        have hkz : k < (zs out).length := by rw [zs_len]; exact hko
        obtain ⟨bo, oo, rfl, hbo, hc⟩ := Sl.atI RD.out hkz
        have hzk : (zs out)[k] = ((out[k] : Nat) : Int) := by simp [zs]
        have hil := CH.out.lt _ (List.getElem_mem hko)
        have hnin : decide (((out[k] : Nat) : Int) ∈ (zs out).take k) = false := decide_eq_false (nodup_take CH.out.nd hko)
        rw [hzk] at hc
        generalize out[k] = i at *
        have kin := contains_int (some ⟨bo, oo, none⟩) co' k ((zs out).take k) i _ w4 (sl_take RD.out k) (by rw [List.length_take]; omega) (by omega) false hnin
        have KIN := Lib.hid kin
        have e1 : (k : Int) ≤ (co' : Int) := by omega
        have e2 : k ≤ co' := by omega
        have e3 : (0 : Int) ≤ (k : Int) := by omega
        have e4 : (i : Int) < (l.length : Int) := by omega
        have e5 : ¬ ((l.length : Int) ≤ (i : Int)) := by omega
        clear kin hnin hkz hzk hko
        go_wp2_with fail
        refine KIN.out.mono ?_
        rintro e w6 ⟨rfl, rfl⟩
        go_wp2
        go_roundw
        case rel => exact ⟨k + 1, by omega, by go_num, by trivial⟩
        case measure => simp [intOf]; omega
      · obtain rfl : k = m := by omega
        have hnn := FR.out.lt
        clear hlt
        go_wp2
        go_region_held3 (fun w' => w'.cell? ⟨w.heap.size, 0, none⟩ = some (.int .i64 n) ∧ w'.cell? ⟨w.heap.size, 1, none⟩ = some (.slice A l.length c))
          (first | go_keep | exact ⟨F5.n0, F5.n1⟩ | exact ⟨F6.n0, F6.n1⟩)
          (first
            | (go_at_call 43; refine (pairs_from (w0 := w) (w4 := w4) (js := out) _ (by first | exact FR.out | exact FR.out.drew) (RD.out.at_ (by first | exact FR.out | exact FR.out.drew)) HM.out h6 (by omega) CH.out.lt).mono ?_; rintro e w5 ⟨A5, c5, rfl, S5, F5⟩)
            | (go_at_call 42; refine (of_from (w0 := w) (w4 := w4) (js := out) _ (by first | exact F5 | exact F5.drew) (by exact S5) hn64 HM.out (by omega) HG.out CH.out.lt).mono ?_; rintro e w6 ⟨A6, c6, rfl, S6, F6⟩))
        have FR6 := Lib.hid F6.here
        have RD6 := Lib.hid (RD.out.at_ F6)
        have SA6 := Lib.hid S6
        have m0 := F6.n0
        have m1 := F6.n1
        have hn6 := F6.lt
        clear F5 F6 S5 S6 n0 n1 hnn FR RD
        go_wp2
        go_region_held3 (fun w' => w'.cell? ⟨w.heap.size, 0, none⟩ = some (.int .i64 n) ∧ w'.cell? ⟨w.heap.size, 1, none⟩ = some (.slice A l.length c))
          (first | go_keep | exact ⟨F7.n0, F7.n1⟩ | exact ⟨F8.n0, F8.n1⟩ | exact ⟨F9.n0, F9.n1⟩)
          (first
            | (go_at_call 44; refine (all_from (w0 := w) (w4 := w6) _ (by first | exact FR6.out | exact FR6.out.drew) h6).mono ?_; rintro e w7 ⟨A7, c7, rfl, S7, F7⟩)
            | (go_at_call 43; refine (pairs_from (w0 := w) (w4 := w6) (js := List.range l.length) _ (by first | exact F7 | exact F7.drew) (by exact S7) (by simp) h6 (by omega) (fun i hi => List.mem_range.1 hi)).mono ?_; rintro e w8 ⟨A8, c8, rfl, S8, F8⟩)
            | (go_at_call 42; refine (of_from (w0 := w) (w4 := w6) (js := List.range l.length) _ (by first | exact F8 | exact F8.drew) (by exact S8) hn64 (by simp) (by omega) HG.out (fun i hi => List.mem_range.1 hi)).mono ?_; rintro e w9 ⟨A9, c9, rfl, S9, F9⟩))
        have FR9 := Lib.hid F9.here
        have RD9 := Lib.hid ((RD6.out.keep F9.below (Nat.le_refl _)).more F9.below.size)
        have SA9 := Lib.hid ((SA6.out.keep F9.below (Nat.le_refl _)).more F9.below.size)
        have SB9 := Lib.hid S9
        have o0 := F9.n0
        have o1 := F9.n1
        have hn9 := F9.lt
        clear F7 F8 F9 S7 S8 S9 m0 m1 hn6 FR6 RD6 SA6
        go_wp2
        go_region_held3 (fun w' => w'.cell? ⟨w.heap.size, 0, none⟩ = some (.int .i64 n) ∧ w'.cell? ⟨w.heap.size, 1, none⟩ = some (.slice A l.length c))
          (first | go_keep | exact ⟨F10.n0, F10.n1⟩ | exact ⟨F11.n0, F11.n1⟩)
          (first
            | (go_at_call 43; refine (pairs_from (w0 := w) (w4 := w9) (js := out) _ (by first | exact FR9.out | exact FR9.out.drew) (by exact RD9.out) HM.out h6 (by omega) CH.out.lt).mono ?_; rintro e w10 ⟨A10, c10, rfl, S10, F10⟩)
            | (go_at_call 45; refine (many_from' (w0 := w) (w4 := w9) (js := out) _ (by first | exact F10 | exact F10.drew) (by exact S10) hn64 HM.out (by omega) HG.out CH.out.lt (CH.out.ind.trans HM.out)).mono ?_; rintro e w11 ⟨rfl, F11⟩))
        have keq := equal_int' A6 A9 n n c6 c9 (gl n l out) (gl n l (List.range l.length)) _ _ w11 ((SA9.out.keep F11.below (Nat.le_refl _)).more F11.below.size) ((SB9.out.keep F11.below (Nat.le_refl _)).more F11.below.size) (gl_len n l out) (gl_len n l _) (by omega) true (decide_eq_true CH.out.all)
        have KEQ := Lib.hid keq
        have p0 := F11.n0
        have p1 := F11.n1
        have H11 := F11.lo
        have hn11 := F11.lt
        clear keq F10 F11 S10 o0 o1 hn9 FR9 RD9 SA9 SB9
        go_wp2_with fail
        refine KEQ.out.mono ?_
        rintro e w12 ⟨rfl, n12, rfl⟩
        go_wp2
        go_ret
        exact ⟨rfl, below_drewN H11 _⟩
  · have k2 := fun W h => tree_no N A c l W h hll hx
    have hne : (chk N l != 0) = true := by rw [bne_iff_ne]; exact hx
    generalize chk N l = er at *
    have K2 := Lib.hid k2
    clear k2 hx
    go_enter Try.func12, Try.ntmps12
    go_wp2_with fail
    refine (two_any _).mono ?_
    rintro e w1 ⟨g, rfl, own1, hb1⟩
    have B1 : Below (w.heap.size + 1) (w.alloc (.cells #[.int .i64 N, .slice A l.length c] 24)) w1 := hb1.mono (by simp)
    have Z1 : w.heap.size + 1 ≤ w1.heap.size := by have := hb1.size; simp at this; omega
    clear hb1
    go_wp2_with fail
    refine (KEY0.out _ _ own1.sl.2).mono ?_
    rintro e w2 ⟨A2, c2, rfl, own2, hb2⟩
    have B2 := B1.trans (hb2.mono Z1)
    have Z2 : w.heap.size + 1 ≤ w2.heap.size := by have := hb2.size; omega
    clear hb2 own1 B1 Z1
    go_wp2_with fail
    refine (KEY1.out _ _ _ _ _ _ _ (own2.alloc _).sl.2 (sl_new' (by decide) w2 #[.int .i64 0] _ _ rfl rfl)).mono ?_
    rintro e w3 ⟨rfl, n3, rfl⟩
    have B3 := below_drewN (B2.alloc Z2 (.cells #[.int .i64 0] 3)) n3
    have Z3 : w.heap.size + 1 ≤ (w2.alloc (.cells #[.int .i64 0] 3)).heap.size := by simp; omega
    generalize (w2.alloc (.cells #[.int .i64 0] 3)) = w3 at B3 Z3 ⊢
    clear own2 B2 Z2
    have z3 : w.heap.size < w3.heap.size := by omega
    have H3 := hw0.trans (B3.mono (Nat.le_succ _))
    obtain ⟨cc3, _⟩ := keepAt B3 (Nat.lt_succ_self _)
    have q0 := cc3 0
    have q1 := cc3 1
    simp at q0 q1
    clear cc3
    go_wp2_with fail
    refine (K2.out _ ((hs.keep H3 (Nat.le_refl _)).more (by simp; omega))).mono ?_
    rintro e w4 ⟨rfl, hb4⟩
    have H4 := H3.trans (hb4.mono (by simp; omega))
    clear hb4 B3 H3 z3 Z3 q0 q1
    go_wp2
    go_ret
    exact ⟨rfl, H4⟩

theorem own : ownKnob Try.prog.godebug = none := by kernel_rfl
theorem laidOut : laidOutB Try.prog = true := by kernel_rfl

set_option maxRecDepth 100000 in
theorem lifted (os : Os) (started : os.Started) (H : Type) (enc : TypeId × Value → H) :
    ReturnsInHanded {} Try.checked os 12 .any (Rows.spanJoinsSpec.pre6 enc Try.prog Try.f12 Rows.spanJoinsRow.domain false) (Rows.spanJoinsSpec.post enc Try.prog Try.f12 false true false false) := by
  refine returnsInHanded_of_change (C := Try.checked) own started (by kernel_rfl) Try.func12
    (ChangeSpec.witness6 (enc := enc) (C := Try.checked) false ⟨#[], #[.agg #[.int .i64 0, .slice none 0 0]], []⟩ 8 (by kernel_rfl) (by kernel_rfl) (by kernel_rfl) (by kernel_rfl)) ?_
  intro W base args ds gs before hval0 hW hcnd _
  have hval : ∀ (j : Nat) t v, Try.f12.params[j]? = some t → args[j]? = some v → Value.okWide Try.prog W .any base t v := hval0
  have hW' := hW
  obtain ⟨p, q, hA0, hV, rfl, hfz, hnd⟩ := hW
  have hA : DataW.TrodAll enc Try.prog W 0 (fun _ => true) true Try.f12.params.toList args.toList ds p := hA0
  rw [Try.params12] at hA hval
  obtain ⟨v0, vs0, d0, ds0, p0, q0, hargs, rfl, rfl, h0, r0⟩ := trodAll_cons hA
  obtain ⟨rfl, rfl, rfl⟩ := trodAll_nil r0
  obtain rfl : args = #[v0] := by cases args; simp_all
  obtain ⟨rfl, rfl⟩ := trodVars_none hV
  obtain ⟨N0, A0, c0, l0, dd0, rfl, hN0, hG0, hb0, rfl, hd0⟩ := open_net Try.underlying24 (by kernel_rfl) (by kernel_rfl) Try.underlying3 Try.underlying22 Try.underlying60 (by kernel_rfl) (by kernel_rfl) Try.underlying3 Try.underlying3 Try.underlying3 (hval 0 24 v0 rfl rfl) h0
  refine (walk W N0 A0 c0 l0 hG0).mono fun e W' ⟨he, hB⟩ => ?_
  subst he
  exact ⟨_, rfl, post_of_law laidOut rfl Try.underlying4 rfl (by intro t ht; rw [Try.params12] at ht; simp at ht; subst ht <;> exact ⟨by kernel_rfl, of_decide_eq_true (by kernel_rfl)⟩) hW' rfl hB⟩

theorem holds : Rows.SpanJoinsSaid :=
  OpenClaim.holds_of_wide 12 Try.f12 rfl rfl rfl rfl rfl rfl rfl ⟨rfl, rfl, rfl, rfl, rfl⟩ rfl rfl rfl rfl rfl (by kernel_rfl) Try.func12 (by kernel_rfl)
    (of_decide_eq_true (by kernel_rfl)) (by unfold Func.isWrapper; first | (rw [if_pos (by decide +kernel)]; kernel_rfl) | (rw [if_neg (by decide +kernel)]; exact ⟨rfl, rfl⟩))
    (fun os started H enc _ => lifted os started H enc)
#print axioms holds
end Go.Proofs.Ytdpjbjgecmnmnaa.SpanJoinsLaw
