/- For every net: TopKnots answers true (a net whose knots are drawn together has no cycle, and each of its orders is the knots'), and the arguments read as before. No condition. -/
import Derived.Test.YtjhnlkmdkjlkdaaRows
import Derived.Test.YtjhnlkmdkjlkdaaVOpen
import Derived.Test.YtjhnlkmdkjlkdaaVCompOUse
import Derived.Test.YtjhnlkmdkjlkdaaVFloydReachFn
import Derived.Test.YtjhnlkmdkjlkdaaVTopLaw
import Derived.IntWalk
import Derived.Deep.CutRange
namespace Go.Proofs.Ytjhnlkmdkjlkdaa.TopKnotsLaw
open Go.ChangeShapes Go.WideShapes Go.ChangeAt Go.RowKit Go.Proofs.Ytjhnlkmdkjlkdaa NetLaw BellLaw FloydLaw CompLaw CompOrd Go.Proofs.Ytjhnlkmdkjlkdaa.Net Go.Proofs.Ytjhnlkmdkjlkdaa.Mat Go.Proofs.Ytjhnlkmdkjlkdaa.Std Go.Proofs.Ytjhnlkmdkjlkdaa.Comp Go.Proofs.Ytjhnlkmdkjlkdaa.CompO
set_option linter.unusedSimpArgs false
set_option linter.unusedVariables false
/-- none behind leads to one ahead -/
theorem behind_no {n : Nat} {l : List E} {C out : List Int} (hg : NetLaw.Good n l) (h : CoF n l C out) {i j : Nat} (hi : i < out.length) (hji : j < i) {a b : Nat} (ha : out[i] = a) (hb : out[j] = b) : FloydReach.reach n l a b = false := by
  have hbn := h.rng _ (List.getElem_mem (show j < out.length by omega))
  have han := h.rng _ (List.getElem_mem hi)
  rw [ha] at han
  rw [hb] at hbn
  cases hx : FloydReach.reach n l a b with
  | false => rfl
  | true =>
    have hld := (reach_ld (edge := FloydReach.yes) (fun _ => rfl) hg (i := a) (j := b) (by omega) (by omega)).1 hx
    have h1 := h.lead a b hld
    have fa := h.fix _ (List.getElem_mem hi)
    have fb := h.fix _ (List.getElem_mem (show j < out.length by omega))
    rw [ha] at fa
    rw [hb] at fb
    rw [fa, fb] at h1
    have e1 : out.idxOf (a : Int) = i := by
      rw [← ha]
      exact h.nd.idxOf_getElem i hi
    have e2 : out.idxOf (b : Int) = j := by
      rw [← hb]
      exact h.nd.idxOf_getElem j (by omega)
    omega
theorem knot_yes {n : Nat} {l : List E} {C : List Int} (hg : NetLaw.Good n l) (h : ∀ v : Nat, v < n → Lst l v (C.getD v 0)) {v k : Nat} (hv : v < n) (hk : k < n) (hc : C.getD v 0 = k) : FloydReach.reach n l v k = true ∧ FloydReach.reach n l k v = true := by
  have := h v hv
  rw [hc] at this
  exact ⟨(reach_ld (edge := FloydReach.yes) (fun _ => rfl) hg hv hk).2 this.1, (reach_ld (edge := FloydReach.yes) (fun _ => rfl) hg hk hv).2 this.2.1⟩
set_option maxRecDepth 100000 in
set_option maxHeartbeats 4000000 in
theorem walk (w : World) (N : Int) (A : Option Addr) (c : Nat) (l : List E) (hA : Arg w 3 ce A c l) :
    Calls Try.prog 6 #[.agg #[.int .i64 N, .slice A l.length c]] w fun e w' => e = .returned (.bool true) ∧ Below w.heap.size w w' := by
  have hs := hA.sl
  have hll : l.length ≤ 9223372036854775807 := Nat.le_trans hA.cap hA.max
  clear hA
  have hw0 : Below w.heap.size w (w.alloc (.cells #[.int .i64 N, .slice A l.length c] 24)) := (Below.refl _ _).alloc (Nat.le_refl _) _
  have KBEG := Lib.hid (fun W' => TopLaw.begun_any W')
  have hkeep : ∀ wx, Below (w.heap.size + 1) (w.alloc (.cells #[.int .i64 N, .slice A l.length c] 24)) wx → wx.cell? ⟨w.heap.size, 0, none⟩ = some (.int .i64 N) ∧ wx.cell? ⟨w.heap.size, 1, none⟩ = some (.slice A l.length c) ∧ w.heap.size + 1 ≤ wx.heap.size ∧ Sl wx wx.heap.size 3 ce A l ∧ Below w.heap.size w wx := fun wx hx => by
    have hX0 := hw0.trans (hx.mono (Nat.le_succ _))
    have hzx : w.heap.size + 1 ≤ wx.heap.size := by have := hx.size; simpa using this
    obtain ⟨c1, _⟩ := keepAt hx (Nat.lt_succ_self _)
    exact ⟨(c1 0).trans (by simp), (c1 1).trans (by simp), hzx, (hs.keep hX0 (Nat.le_refl _)).more (by omega), hX0⟩
  have HK := Lib.hid hkeep
  have B0 := Below.refl (w.heap.size + 1) (w.alloc (.cells #[.int .i64 N, .slice A l.length c] 24))
  clear hkeep hw0 hs
  by_cases hg : NetLaw.Good N l
  · have hN1 := hg.lo
    have hN2 := hg.hi
    have hl6 := hg.len
    have hgc := chk_zero.2 hg
    have hends := hg.ends
    obtain ⟨n, rfl⟩ := Int.eq_ofNat_of_zero_le (show 0 ≤ N by omega)
    have k5 := fun W h => of_yes n A c l W h hg
    have k6 := fun W h => order_yes n A c l W h hg
    have k7 := fun W h => FloydReach.yes_of n A c l hll hgc W h
    simp only [Int.toNat_natCast] at k7
    have hone := fun (L M : List Int) (h1 : L.length = n) (h2 : M.length = n) (h3 : ∀ v : Nat, v < n → Lst l v (L.getD v 0)) (h4 : ∀ v : Nat, v < n → Lst l v (M.getD v 0)) => lst_one h1 h2 h3 h4
    have hco := fun (C out : List Int) (hC : C.length = n) (h : ∀ v : Nat, v < n → Lst l v (C.getD v 0)) (ho : Od (fun v => cmf C v = v) n (fun u v => ∃ e ∈ cl (cmf C) l, e.1 = u ∧ e.2.1 = v) out) => co_facts hends hC h ho
    have K5 := Lib.hid k5
    have K6 := Lib.hid k6
    have K7 := Lib.hid k7
    have HONE := Lib.hid hone
    have HCO := Lib.hid hco
    have HG := Lib.hid hg
    have HE := Lib.hid hends
    clear k5 k6 k7 hg hone hco hgc hends
    obtain ⟨q0, q1, z0, sg, _⟩ := HK.out _ B0
    have SG0 := Lib.hid sg
    clear q0 q1 sg
    go_enter Try.func6, Try.ntmps6
    go_wp2_with fail
    refine (K5.out _ SG0.out).mono ?_
    rintro e w4 ⟨S4, C, rfl, own4, hC4, hC5, hb4⟩
    have B4 := B0.trans (hb4.mono (by simp))
    clear B0 z0 SG0
    obtain ⟨q0, q1, z4, sg, H4⟩ := HK.out _ B4
    go_wp2_with fail
    refine (K6.out _ sg).mono ?_
    rintro e w5 ⟨Ao, co, mo, out, C', rfl, own5, hmo, hC6, hC7, hod, hb5⟩
    have hcc := HONE.out C C' hC4.out hC6.out hC5.out hC7.out
    subst hcc
    have cof := Lib.hid (HCO.out C' out hC6.out hC7.out hod.out)
    have B5 := B4.trans (hb5.mono (by omega))
    have OWN4 := Lib.hid (own4.keep hb5)
    have OWN5 := Lib.hid own5
    clear q0 q1 z4 sg H4 B4 own4 own5 hb4 hb5 hC4 hC5 hod
    obtain ⟨q0, q1, z5, sg, H5⟩ := HK.out _ B5
    go_wp2_with fail
    refine (KBEG.out _).mono ?_
    rintro e w6 ⟨rfl, hb6⟩
    have B6 := B5.trans (hb6.mono (by omega))
    have OWN4b := Lib.hid (OWN4.out.keep hb6)
    have OWN5b := Lib.hid (OWN5.out.keep hb6)
    clear q0 q1 z5 sg H5 B5 OWN4 OWN5 hb6
    obtain ⟨q0, q1, z6, sg, H6⟩ := HK.out _ B6
    go_wp2_with fail
    refine (K7.out _ sg).mono ?_
    rintro e w7 ⟨S7, F7, rfl, mt7, hb7⟩
    have B7 := B6.trans (hb7.mono (by omega))
    have OWN4 := Lib.hid (OWN4b.out.keep hb7)
    have OWN5 := Lib.hid (OWN5b.out.keep hb7)
    have MT7 := Lib.hid mt7
    clear q0 q1 z6 sg H6 B6 OWN4b OWN5b hb7 mt7
    obtain ⟨q0, q1, z7, sg, H7⟩ := HK.out _ B7
    have H7H := Lib.hid H7
    have hzw : w.heap.size < w7.heap.size := by omega
    have hmoc : mo ≤ co := by
      obtain ⟨A', c', hv, hc, _⟩ := OWN5.out.form
      injection hv with _ h1 h2
      have := hmo.out
      omega
    have hout64 : mo ≤ 64 := by
      have h1 := cof.out.nd
      have h2 : (out.map Int.toNat).Nodup := by
        rw [List.Nodup, List.pairwise_map]
        refine List.Pairwise.imp_of_mem (fun {x y} hx hy hxy e => hxy ?_) h1
        have a := cof.out.rng x hx
        have b := cof.out.rng y hy
        omega
      have h3 := FloydLaw.nodup_len h2 (k := n) (fun m hm => by
        rw [List.mem_map] at hm
        obtain ⟨y, hy, rfl⟩ := hm
        have b := cof.out.rng y hy
        omega)
      simp only [List.length_map] at h3
      have := hmo.out
      omega
    clear sg H7 B7
    go_upto_region 9 with fail
    go_loopw [63] (fun i wy => ∃ k : Nat, k ≤ mo ∧ i = .int .i64 k ∧ wy = w7) (fun i _ => mo - (intOf i).toNat)
    case atStart => exact ⟨0, Nat.zero_le _, rfl, rfl⟩
    case round =>
      obtain ⟨k, hk, rfl, hwr⟩ := hrel
      subst hwr
      obtain ⟨w8, hw8⟩ : ∃ w8, w8 = wr := ⟨_, rfl⟩
      subst hw8
      by_cases hlt : k < mo
      · have hko : k < out.length := by rw [hmo.out]; exact hlt
        obtain ⟨b, off, rfl, hb, hx⟩ := OWN5.out.sl.2.atI hko
        have hxr := cof.out.rng _ (List.getElem_mem hko)
        obtain ⟨a, ha⟩ := Int.eq_ofNat_of_zero_le hxr.1
        have han : a < n := by omega
        rw [ha] at hx
        have HNO := Lib.hid (fun (j b : Nat) (hj : j < k) (hb : out[j]'(by omega) = b) => behind_no HG.out cof.out hko hj ha hb)
        have hj0 : (0 : Int) ≤ (k : Int) := by omega
        have hj1 : (k : Int) ≤ (mo : Int) := by omega
        have hj2 : (k : Int) < (mo : Int) := by omega
        have hj3 : (k : Int) ≤ (co : Int) := by omega
        have han0 : decide ((a : Int) < 0) = false := decide_eq_false (by omega)
        have han1 : decide ((a : Int) ≥ (n : Int)) = false := decide_eq_false (by omega)
        have han2 : ¬ ((n : Int) ≤ (a : Int)) := by omega
        have han3 : (a : Int) < (n : Int) := by omega
        have g1 := MT7.out.head (v := a) han
        clear ha hxr
        go_upto_region 12 with fail
        go_loopw [72] (fun i wy => ∃ j : Nat, j ≤ k ∧ i = .int .i64 j ∧ wy = w8) (fun i _ => k - (intOf i).toNat)
        case atStart => exact ⟨0, Nat.zero_le _, rfl, rfl⟩
        case round =>
          obtain ⟨j, hj, rfl, hwr⟩ := hrel
          subst hwr
          by_cases hlt2 : j < k
          · have hjo : j < out.length := by omega
            obtain ⟨b1, off1, he1, hb1, hy⟩ := OWN5.out.sl.2.atI hjo
            injection he1 with he1
            injection he1 with he1 he2
            subst he1 he2
            have hyr := cof.out.rng _ (List.getElem_mem hjo)
            obtain ⟨y, hye⟩ := Int.eq_ofNat_of_zero_le hyr.1
            have hyn : y < n := by omega
            rw [hye] at hy
            have hno := HNO.out j y hlt2 hye
            obtain ⟨c1, _⟩ := MT7.out.cell (v := a) (j := y) han hyn
            change _ = some (FloydReach.q (FloydReach.reach n l a y)) at c1
            rw [hno] at c1
            unfold FloydReach.q at c1
            have hyn0 : decide ((y : Int) < 0) = false := decide_eq_false (by omega)
            have hyn1 : decide ((y : Int) ≥ (n : Int)) = false := decide_eq_false (by omega)
            have hyn2 : ¬ ((n : Int) ≤ (y : Int)) := by omega
            have hyn3 : (y : Int) < (n : Int) := by omega
            have hjk : (j : Int) < (k : Int) := by omega
            clear hye hyr hno
            go_wp2
            go_roundw
            case' rel => exact ⟨j + 1, by omega, by go_num, by trivial⟩
            case' measure => simp [intOf]; omega
          · obtain rfl : k = j := by omega
            go_wp2
            go_roundw
            case' rel => exact ⟨k + 1, by omega, by go_num, by trivial⟩
            case' measure => simp [intOf]; omega
      · obtain rfl : mo = k := by omega
        clear hlt hk
        go_upto_region 19 with fail
        go_loopw [107] (fun i wy => ∃ k : Nat, k ≤ n ∧ i = .int .i64 k ∧ wy = w8) (fun i _ => n - (intOf i).toNat)
        case atStart => exact ⟨0, Nat.zero_le _, rfl, rfl⟩
        case round =>
          obtain ⟨v, hv, rfl, hwr⟩ := hrel
          subst hwr
          by_cases hlt2 : v < n
          · obtain ⟨c0, _⟩ := own_at1 hC6.out OWN4.out hlt2
            have hcin := cof.out.cin v (by omega) (by omega)
            rw [cmf_at] at hcin
            have hkr := cof.out.rng _ hcin
            obtain ⟨k, hke⟩ := Int.eq_ofNat_of_zero_le hkr.1
            have hkn : k < n := by omega
            obtain ⟨y1, y2⟩ := knot_yes HG.out hC7.out hlt2 hkn hke
            rw [hke] at c0
            have g1 := MT7.out.head (v := v) hlt2
            have g2 := MT7.out.head (v := k) hkn
            obtain ⟨c1, _⟩ := MT7.out.cell (v := v) (j := k) hlt2 hkn
            obtain ⟨c2, _⟩ := MT7.out.cell (v := k) (j := v) hkn hlt2
            change _ = some (FloydReach.q (FloydReach.reach n l v k)) at c1
            change _ = some (FloydReach.q (FloydReach.reach n l k v)) at c2
            rw [y1] at c1
            rw [y2] at c2
            unfold FloydReach.q at c1 c2
            have hyn0 : decide ((k : Int) < 0) = false := decide_eq_false (by omega)
            have hyn1 : decide ((k : Int) ≥ (n : Int)) = false := decide_eq_false (by omega)
            have hyn2 : ¬ ((n : Int) ≤ (k : Int)) := by omega
            have hyn3 : (k : Int) < (n : Int) := by omega
            have hvn3 : (v : Int) < (n : Int) := by omega
            clear hke hkr hcin y1 y2
            go_wp2
            go_roundw
            case' rel => exact ⟨v + 1, by omega, by go_num, by trivial⟩
            case' measure => simp [intOf]; omega
          · obtain rfl : n = v := by omega
            go_wp2
            go_ret
            exact ⟨rfl, H7H.out⟩
  · have k5 := fun W h => of_no N A c l W h hll (fun h => hg (chk_zero.1 h))
    have k6 := fun W h => order_no N A c l W h hll (fun h => hg (chk_zero.1 h))
    have hne : (chk N l != 0) = true := by rw [bne_iff_ne]; exact fun h => hg (chk_zero.1 h)
    generalize chk N l = er at *
    have K5 := Lib.hid k5
    have K6 := Lib.hid k6
    clear k5 k6 hg
    obtain ⟨q0, q1, z0, sg, _⟩ := HK.out _ B0
    have SG0 := Lib.hid sg
    clear q0 q1 sg
    go_enter Try.func6, Try.ntmps6
    go_wp2_with fail
    refine (K5.out _ SG0.out).mono ?_
    rintro e w4 ⟨rfl, hb4⟩
    have B4 := B0.trans (hb4.mono (by simp))
    clear B0 z0 SG0 hb4
    obtain ⟨q0, q1, z4, sg, H4⟩ := HK.out _ B4
    go_wp2_with fail
    refine (K6.out _ sg).mono ?_
    rintro e w5 ⟨rfl, hb5⟩
    have H5 := H4.trans (hb5.mono H4.size)
    clear q0 q1 z4 sg H4 hb5 B4
    go_wp2_with fail
    refine (KBEG.out _).mono ?_
    rintro e w6 ⟨rfl, hb6⟩
    have H6 := H5.trans (hb6.mono H5.size)
    clear hb6 H5
    go_wp2_with fail
    refine (KBEG.out _).mono ?_
    rintro e w7 ⟨rfl, hb7⟩
    have H7 := H6.trans (hb7.mono H6.size)
    clear hb7 H6
    go_wp2
    go_ret
    exact ⟨rfl, H7⟩

theorem own : ownKnob Try.prog.godebug = none := by kernel_rfl
theorem laidOut : laidOutB Try.prog = true := by kernel_rfl

set_option maxRecDepth 100000 in
theorem lifted (os : Os) (started : os.Started) (H : Type) (enc : TypeId × Value → H) :
    ReturnsInHanded {} Try.checked os 6 .any (Rows.topKnotsSpec.pre6 enc Try.prog Try.f6 Rows.topKnotsRow.domain false) (Rows.topKnotsSpec.post enc Try.prog Try.f6 false true false false) := by
  refine returnsInHanded_of_change (C := Try.checked) own started (by kernel_rfl) Try.func6
    (ChangeSpec.witness6 (enc := enc) (C := Try.checked) false ⟨#[], #[.agg #[.int .i64 0, .slice none 0 0]], []⟩ 8 (by kernel_rfl) (by kernel_rfl) (by kernel_rfl) (by kernel_rfl)) ?_
  intro W base args ds gs before hval0 hW hcnd _
  have hval : ∀ (j : Nat) t v, Try.f6.params[j]? = some t → args[j]? = some v → Value.okWide Try.prog W .any base t v := hval0
  have hW' := hW
  obtain ⟨p, q, hA0, hV, rfl, hfz, hnd⟩ := hW
  have hA : DataW.TrodAll enc Try.prog W 0 (fun _ => true) true Try.f6.params.toList args.toList ds p := hA0
  rw [Try.params6] at hA hval
  obtain ⟨v0, vs0, d0, ds0, p0, q0, hargs, rfl, rfl, h0, r0⟩ := trodAll_cons hA
  obtain ⟨rfl, rfl, rfl⟩ := trodAll_nil r0
  obtain rfl : args = #[v0] := by cases args; simp_all
  obtain ⟨rfl, rfl⟩ := trodVars_none hV
  obtain ⟨N0, A0, c0, l0, dd0, rfl, hN0, hG0, hb0, rfl, hd0⟩ := open_net Try.underlying24 (by kernel_rfl) (by kernel_rfl) Try.underlying3 Try.underlying22 Try.underlying30 (by kernel_rfl) (by kernel_rfl) Try.underlying3 Try.underlying3 Try.underlying3 (hval 0 24 v0 rfl rfl) h0
  refine (walk W N0 A0 c0 l0 hG0).mono fun e W' ⟨he, hB⟩ => ?_
  subst he
  exact ⟨_, rfl, post_of_law laidOut rfl Try.underlying4 rfl (by intro t ht; rw [Try.params6] at ht; simp at ht; subst ht <;> exact ⟨by kernel_rfl, of_decide_eq_true (by kernel_rfl)⟩) hW' rfl hB⟩

theorem holds : Rows.TopKnotsSaid :=
  OpenClaim.holds_of_wide 6 Try.f6 rfl rfl rfl rfl rfl rfl rfl ⟨rfl, rfl, rfl, rfl, rfl⟩ rfl rfl rfl rfl rfl (by kernel_rfl) Try.func6 (by kernel_rfl)
    (of_decide_eq_true (by kernel_rfl)) (by unfold Func.isWrapper; first | (rw [if_pos (by decide +kernel)]; kernel_rfl) | (rw [if_neg (by decide +kernel)]; exact ⟨rfl, rfl⟩))
    (fun os started H enc _ => lifted os started H enc)
#print axioms holds
end Go.Proofs.Ytjhnlkmdkjlkdaa.TopKnotsLaw
