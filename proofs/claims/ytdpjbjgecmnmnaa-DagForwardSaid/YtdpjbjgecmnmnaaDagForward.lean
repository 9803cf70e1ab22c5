/- For every net: DagForward answers true (Kahn's order holds all places once, and each edge leads on), and the net reads as before. No condition. -/
import Derived.Test.YtdpjbjgecmnmnaaRows
import Derived.Test.YtdpjbjgecmnmnaaOpen
import Derived.Test.YtdpjbjgecmnmnaaDagOrder
import Derived.Test.YtdpjbjgecmnmnaaStdCI
import Derived.Test.YtdpjbjgecmnmnaaCfnForward
import Derived.BigQuiet
namespace Go.Proofs.Ytdpjbjgecmnmnaa.DagForwardLaw
open Go.ChangeShapes Go.WideShapes Go.ChangeAt Go.RowKit Go.Proofs.Ytdpjbjgecmnmnaa NetLaw BellLaw DagLaw Go.Proofs.Ytdpjbjgecmnmnaa.Net Go.Proofs.Ytdpjbjgecmnmnaa.Dag Go.Proofs.Ytdpjbjgecmnmnaa.Std
set_option linter.unusedSimpArgs false
set_option linter.unusedVariables false

theorem getD_dg (D : List Int) (v : Nat) : D.getD v 0 = dg D (v : Int) := by rw [dg, Int.toNat_natCast]
theorem good10 : NetLaw.Good ((2 : Nat) : Int) [(1, 0, 0)] := ⟨by decide, by decide, by decide, by decide, by decide⟩
theorem ord10 (W : World) (g : Nat) (h : Sl W W.heap.size 3 ce (some ⟨g, 0, none⟩) [(1, 0, 0)]) :
    Calls Try.prog 36 #[.agg #[.int .i64 2, .slice (some ⟨g, 0, none⟩) 1 1]] W fun e w' => ∃ A c, e = .returned (.tuple #[.slice A 2 c, .int .i64 0]) ∧ Own w' W.heap.size 3 1 ci (.slice A 2 c) [1, 0] ∧ Below W.heap.size W w' := by
  refine (order_yes 2 (some ⟨g, 0, none⟩) 1 [(1, 0, 0)] W h good10).mono ?_
  rintro e w' ⟨h1, hb⟩
  rcases h1 with ⟨_, out, hst⟩ | ⟨A, c, out, he, ho, ht⟩
  · exfalso
    have h1 : (1 : Int) ∈ out := by
      by_cases h1 : (1 : Int) ∈ out
      · exact h1
      · obtain ⟨x, hx, h2, _⟩ := hst.back 1 (by decide) (by decide) h1
        simp at hx; subst hx; exact absurd h2 (by decide)
    have h0 : (0 : Int) ∈ out := by
      by_cases h0 : (0 : Int) ∈ out
      · exact h0
      · obtain ⟨x, hx, _, h2⟩ := hst.back 0 (by decide) (by decide) h0
        simp at hx; subst hx; exact absurd h1 h2
    obtain ⟨v, v0, v1, hv⟩ := hst.some_
    rcases (show v = 0 ∨ v = 1 by omega) with rfl | rfl
    · exact hv h0
    · exact hv h1
  · have hout : out = [1, 0] := by
      have h1 := ht.len
      match out, h1, ht with
      | [a, b], _, ht =>
        have ha := ht.rng a (by simp)
        have hb := ht.rng b (by simp)
        have hn := ht.nd
        simp at hn
        have hf := ht.fwd 0 (by simp) (1, 0, 0) (by simp)
        simp at hf
        have e1 : a = 1 := by omega
        have e2 : b = 0 := by omega
        rw [e1, e2]
    subst hout
    exact ⟨A, c, he, ho, hb⟩
/-- where each of the first k came -/
structure Ar (n k : Nat) (out D : List Int) : Prop where
  len : D.length = n
  at_ : ∀ i (h : i < out.length), i < k → dg D out[i] = (i : Int) + 1
theorem Ar.step {n k : Nat} {l : List E} {out D : List Int} (ht : Topo n l out) (h : Ar n k out D) (hk : k < out.length) (t : Nat) (hto : out[k] = t) (htn : t < n) : Ar n (k + 1) out (D.set t ((k : Int) + 1)) := by
  refine ⟨by simp [h.len], fun i hi hik => ?_⟩
  have hr := ht.rng _ (List.getElem_mem hi)
  have hs := dg_set (D := D) (t := (t : Int)) (v := out[i]) (x := (k : Int) + 1) (by omega) (by rw [h.len]; omega) hr.1
  rw [Int.toNat_natCast] at hs
  rw [hs]
  by_cases e : i = k
  · subst e; rw [if_pos hto]
  · rw [if_neg (fun x => e ((List.getElem_inj ht.nd).1 (x.trans hto.symm))), h.at_ i hi (by omega)]
theorem Ar.zero_not {n : Nat} {l : List E} {out D : List Int} (ht : Topo n l out) (h : Ar n n out D) : decide ((0 : Int) ∈ D) = false := by
  refine decide_eq_false fun hm => ?_
  obtain ⟨v, hv, e⟩ := List.mem_iff_getElem.1 hm
  have hl := h.len
  have hmem := ht.mem (v := (v : Int)) (by omega) (by omega)
  obtain ⟨i, hi, e2⟩ := List.mem_iff_getElem.1 hmem
  have h1 := h.at_ i hi (by have := ht.len; omega)
  rw [e2, dg, Int.toNat_natCast, List.getD_eq_getElem?_getD, List.getElem?_eq_getElem hv, Option.getD_some, e] at h1
  omega
/-- what the closure asks -/
def bad (D : List Int) (e : E) : Bool := decide (dg D e.2.1 ≤ dg D e.1)
theorem Ar.none_bad {n : Nat} {l : List E} {out D : List Int} (ht : Topo n l out) (h : Ar n n out D) (hends : ∀ e ∈ l, 0 ≤ e.1 ∧ e.1 < n ∧ 0 ≤ e.2.1 ∧ e.2.1 < n) : l.any (bad D) = false := by
  rw [List.any_eq_false]
  intro e he
  obtain ⟨_, _, t0, t1⟩ := hends e he
  obtain ⟨j, hj, e2⟩ := List.mem_iff_getElem.1 (ht.mem t0 t1)
  have hf := ht.fwd j hj e he e2.symm
  obtain ⟨i, hi, e1⟩ := List.mem_iff_getElem.1 hf
  rw [List.length_take] at hi
  rw [List.getElem_take] at e1
  have hl := ht.len
  have a := h.at_ j hj (by omega)
  have b := h.at_ i (by omega) (by omega)
  rw [e2] at a
  rw [e1] at b
  simp only [bad, decide_eq_true_eq]
  omega

set_option maxRecDepth 100000 in
set_option maxHeartbeats 1000000 in
theorem late_any (g S n : Nat) (D : List Int) (f t : Nat) (k : Int) (w : World) (h0 : w.cell? ⟨g, 0, none⟩ = some (.slice (some ⟨S, 0, none⟩) n n)) (h1 : w.cell? ⟨S, f, none⟩ = some (.int .i64 (dg D f))) (h2 : w.cell? ⟨S, t, none⟩ = some (.int .i64 (dg D t))) (hf : f < n) (ht : t < n) (hg : g < w.heap.size) (hS : S < w.heap.size) :
    Calls Try.prog 38 #[.agg #[.int .i64 f, .int .i64 t, .int .i64 k], .pointer (some ⟨g, 0, none⟩)] w fun e w' => e = .returned (.bool (bad D (f, t, k))) ∧ Below w.heap.size w w' := by
  have hbd : bad D (f, t, k) = decide (dg D f ≥ dg D t) := by simp [bad]
  rw [hbd]
  clear hbd
  generalize dg D (f : Int) = x at *
  generalize dg D (t : Int) = y at *
  go_enter Try.func38, Try.ntmps38
  go_wp2
  go_quiet (fail)
  go_wp2
  go_ret
  exact ⟨by first | rfl | simp, below_drewN ((Below.refl _ _).alloc (Nat.le_refl _) _) _⟩

set_option maxRecDepth 100000 in
set_option maxHeartbeats 4000000 in
theorem walk (w : World) (N : Int) (A : Option Addr) (c : Nat) (l : List E) (hA : Arg w 3 ce A c l) :
    Calls Try.prog 10 #[.agg #[.int .i64 N, .slice A l.length c]] w fun e w' => e = .returned (.bool true) ∧ Below w.heap.size w w' := by
  have hs := hA.sl
  have hll : l.length ≤ 9223372036854775807 := Nat.le_trans hA.cap hA.max
  clear hA
  have hw0 : Below w.heap.size w (w.alloc (.cells #[.int .i64 N, .slice A l.length c] 24)) := (Below.refl _ _).alloc (Nat.le_refl _) _
  have key0 := fun W g h => ord10 W g h
  have key1 := fun W A A' c c' B B' h h' => equal_int' A A' 2 2 c c' [1, 0] [1, 0] B B' W h h' rfl rfl (by decide) true (by simp)
  have KEY0 := Lib.hid key0
  have KEY1 := Lib.hid key1
  clear key0 key1
  by_cases hx : chk N l = 0
  · have hg := chk_zero.1 hx
    have hN1 := hg.lo
    have hN2 := hg.hi
    obtain ⟨n, rfl⟩ := Int.eq_ofNat_of_zero_le (show 0 ≤ N by omega)
    have k2 := fun W h => order_yes n A c l W h hg
    have hmk : ∀ w, (Instr.makeSlice 25 (.int .i64 (n : Int)) (.int .i64 (n : Int))).run Try.prog w = .ok (.slice (some ⟨w.heap.size, 0, none⟩) n n) (w.alloc (.cells (madeCells #[.int .i64 0] n) 3)) :=
      run_make_row' (P := Try.prog) 25 3 (.int .i64 0) 8 Try.underlying25 (by kernel_rfl) rfl .i64 .i64 n (by omega) (by omega)
    have K2 := Lib.hid k2
    have HG := Lib.hid hg
    clear k2 hx hg
    go_enter Try.func10, Try.ntmps10
    go_wp2_with fail
    refine (KEY0.out _ _ (sl_new' (by decide) (w.alloc (.cells #[.int .i64 n, .slice A l.length c] 24)) #[.int .i64 1, .int .i64 0, .int .i64 0] 60 _ (by simp) rfl)).mono ?_
    rintro e w2 ⟨A2, c2, rfl, own2, hb2⟩
    have B2 : Below (w.heap.size + 1) (w.alloc (.cells #[.int .i64 n, .slice A l.length c] 24)) w2 := ((Below.refl _ _).alloc (by simp) (.cells #[.int .i64 1, .int .i64 0, .int .i64 0] 60)).trans (hb2.mono (by simp))
    have Z2 : w.heap.size + 1 ≤ w2.heap.size := by have := hb2.size; simp at this; omega
    clear hb2
    go_wp2_with fail
    refine (KEY1.out _ _ _ _ _ _ _ (own2.alloc _).sl.2 (sl_new' (by decide) w2 #[.int .i64 1, .int .i64 0] _ _ rfl rfl)).mono ?_
    rintro e w3 ⟨rfl, n3, rfl⟩
    have B3 := below_drewN (B2.alloc Z2 (.cells #[.int .i64 1, .int .i64 0] 3)) n3
    have Z3 : w.heap.size + 1 ≤ ((w2.alloc (.cells #[.int .i64 1, .int .i64 0] 3)).drewN n3).heap.size := by simp; omega
    generalize ((w2.alloc (.cells #[.int .i64 1, .int .i64 0] 3)).drewN n3) = w3 at B3 Z3 ⊢
    clear own2 B2 Z2
    have z3 : w.heap.size < w3.heap.size := by omega
    have H3 := hw0.trans (B3.mono (Nat.le_succ _))
    obtain ⟨cc3, _⟩ := keepAt B3 (Nat.lt_succ_self _)
    have q0 := cc3 0
    have q1 := cc3 1
    simp at q0 q1
    clear cc3
    go_wp2_with fail
    refine (K2.out _ ((hs.keep H3 (Nat.le_refl _)).more (by omega))).mono ?_
    rintro e w4 ⟨hor, hb4⟩
    have B4 := B3.trans (hb4.mono Z3)
    have H4 := hw0.trans (B4.mono (Nat.le_succ _))
    have z4 : w.heap.size < w4.heap.size := by have := hb4.size; omega
    rcases hor with ⟨rfl, _⟩ | ⟨Ao, co, out, rfl, own4, htop⟩
    · clear hb4 B3 H3 z3 Z3 q0 q1
      go_wp2
      go_ret
      exact ⟨rfl, H4⟩
    · have OWN4 := Lib.hid own4
      have HTOP := Lib.hid htop
      clear hb4 B3 H3 z3 Z3 q0 q1 own4 htop
      obtain ⟨cc4, _⟩ := keepAt B4 (Nat.lt_succ_self _)
      have q0 := cc4 0
      have q1 := cc4 1
      simp at q0 q1
      clear cc4
      have own5 := Grid.own_made n w4.heap.size w4 (Nat.le_refl _) (by omega) rfl
      have box5 := heap_alloc_new (w4.alloc (.cells (madeCells #[.int .i64 0] n) 3)) (.cells #[.slice (some ⟨w4.heap.size, 0, none⟩) n n] 25)
      have OWN5 := Lib.hid own5
      have BOX5 := Lib.hid box5
      clear own5 box5
      go_wp2
      have hB5 : Below w4.heap.size w4 ((w4.alloc (.cells (madeCells #[.int .i64 0] n) 3)).alloc (.cells #[.slice (some ⟨w4.heap.size, 0, none⟩) n n] 25)) := ((Below.refl _ _).alloc (Nat.le_refl _) _).alloc (by simp) _
      go_loopw [40] (fun i wr => ∃ (k : Nat) (D : List Int), k ≤ n ∧ i = .int .i64 k ∧ Own wr w4.heap.size 3 1 ci (.slice (some ⟨w4.heap.size, 0, none⟩) n n) D ∧ Hid (Ar n k out D) ∧ wr.heap[w4.heap.size + 1]? = some (.cells #[.slice (some ⟨w4.heap.size, 0, none⟩) n n] 25 (0, 0)) ∧ Below w4.heap.size w4 wr) (fun i _ => n - (intOf i).toNat)
      case atStart => exact ⟨0, _, Nat.zero_le _, rfl, OWN5.out.alloc _, Lib.hid ⟨by simp, fun i _ h => absurd h (Nat.not_lt_zero _)⟩, by have := BOX5.out; simpa using this, hB5⟩
      case round =>
        clear q0 q1 OWN5 BOX5 hB5
        obtain ⟨k, D, hk, rfl, own, har, hbox, hB⟩ := hrel
        have B5 := B4.trans (hB.mono (by omega))
        have H5 := H4.trans (hB.mono H4.size)
        obtain ⟨cc5, _⟩ := keepAt B5 (Nat.lt_succ_self _)
        have q0 := cc5 0
        have q1 := cc5 1
        simp at q0 q1
        have b0 := blk_cell hbox 0
        have f0 := blk_free hbox 0
        simp only [List.getElem?_toArray, List.getElem?_cons_zero, List.getElem?_cons_succ] at b0
        have hzb := lt_of_block hbox
        have hz4 : w4.heap.size < wr.heap.size := by omega
        have zw : w.heap.size < wr.heap.size := by omega
        clear cc5
        by_cases hlt : k < n
        · have htl := HTOP.out.len
          have hko : k < out.length := by omega
          obtain ⟨bo, oo, rfl, hbo, hc⟩ := (OWN4.out.sl.2.keep hB (Nat.le_refl _)).atI hko
          obtain ⟨r0, r1⟩ := HTOP.out.rng _ (List.getElem_mem hko)
          obtain ⟨t, ht⟩ := Int.eq_ofNat_of_zero_le r0
          have htn : t < n := by omega
          rw [ht] at hc
          have hst := har.out.step HTOP.out hko t ht htn
          obtain ⟨dc, df⟩ := own_at1 har.out.len own htn
          have own2 := HeapDag.own_set1 har.out.len own t htn ((k : Int) + 1)
          have hbox2 := blk_far hbox (p := ⟨w4.heap.size, t, none⟩) (by dsimp only; omega) (.int .i64 ((k : Int) + 1))
          have hB2 := hB.setCell (p := ⟨w4.heap.size, t, none⟩) (Nat.le_refl _) (.int .i64 ((k : Int) + 1))
          have OWN2 := Lib.hid own2
          have HBOX2 := Lib.hid hbox2
          have HST := Lib.hid hst
          have g1 : (t : Int) < n := by omega
          clear own own2 hbox hbox2 hst har ht htl r0 r1
          go_wp2
          go_roundw
          case rel => exact ⟨k + 1, _, by omega, by go_num, OWN2.out, HST, HBOX2.out, hB2⟩
          case measure => simp [intOf]; omega
        · obtain rfl : k = n := by omega
          have kc := contains_int (some ⟨w4.heap.size, 0, none⟩) k k D 0 _ wr own.sl.2 har.out.len (by omega) false (har.out.zero_not HTOP.out)
          have hany := har.out.none_bad HTOP.out HG.out.ends
          have hok : CfnForward.Ok (w4.heap.size + 1) l (bad D) wr := fun W hW i hi f t co he => by
            obtain ⟨f0, f1, t0, t1⟩ := HG.out.ends _ (List.getElem_mem hi)
            rw [he] at f0 f1 t0 t1
            simp only at f0 f1 t0 t1
            obtain ⟨f, rfl⟩ := Int.eq_ofNat_of_zero_le f0
            obtain ⟨t, rfl⟩ := Int.eq_ofNat_of_zero_le t0
            have hf : f < k := by omega
            have ht : t < k := by omega
            have ow := own.keep hW
            obtain ⟨d1, _⟩ := own_at1 har.out.len ow hf
            obtain ⟨d2, _⟩ := own_at1 har.out.len ow ht
            rw [getD_dg] at d1 d2
            have hbw := blk_below hbox hW hzb
            have bb := blk_cell hbw 0
            simp only [List.getElem?_toArray, List.getElem?_cons_zero, List.getElem?_cons_succ] at bb
            exact late_any (w4.heap.size + 1) w4.heap.size k D f t co W bb d1 d2 hf ht (lt_of_block hbw) (by have := lt_of_block hbw; omega)
          have kf := CfnForward.contains_fn (w4.heap.size + 1) A c l (bad D) wr ((hs.keep H5 (Nat.le_refl _)).more H5.size) hll hok false hany
          unfold CfnForward.fnv at kf
          have KC := Lib.hid kc
          have KF := Lib.hid kf
          clear kc hany hok kf own har hbox
          go_wp2_with fail
          refine KC.out.mono ?_
          rintro e w6 ⟨rfl, rfl⟩
          go_wp2_with fail
          refine KF.out.mono ?_
          rintro e w7 ⟨rfl, hb7⟩
          have H7 := H5.trans (hb7.mono H5.size)
          go_wp2
          go_ret
          exact ⟨rfl, H7⟩
  · have k2 := fun W h => order_no N A c l W h hll hx
    have hne : (chk N l != 0) = true := by rw [bne_iff_ne]; exact hx
    generalize chk N l = er at *
    have K2 := Lib.hid k2
    clear k2 hx
    go_enter Try.func10, Try.ntmps10
    go_wp2_with fail
    refine (KEY0.out _ _ (sl_new' (by decide) (w.alloc (.cells #[.int .i64 N, .slice A l.length c] 24)) #[.int .i64 1, .int .i64 0, .int .i64 0] 60 _ (by simp) rfl)).mono ?_
    rintro e w2 ⟨A2, c2, rfl, own2, hb2⟩
    have B2 : Below (w.heap.size + 1) (w.alloc (.cells #[.int .i64 N, .slice A l.length c] 24)) w2 := ((Below.refl _ _).alloc (by simp) (.cells #[.int .i64 1, .int .i64 0, .int .i64 0] 60)).trans (hb2.mono (by simp))
    have Z2 : w.heap.size + 1 ≤ w2.heap.size := by have := hb2.size; simp at this; omega
    clear hb2
    go_wp2_with fail
    refine (KEY1.out _ _ _ _ _ _ _ (own2.alloc _).sl.2 (sl_new' (by decide) w2 #[.int .i64 1, .int .i64 0] _ _ rfl rfl)).mono ?_
    rintro e w3 ⟨rfl, n3, rfl⟩
    have B3 := below_drewN (B2.alloc Z2 (.cells #[.int .i64 1, .int .i64 0] 3)) n3
    have Z3 : w.heap.size + 1 ≤ ((w2.alloc (.cells #[.int .i64 1, .int .i64 0] 3)).drewN n3).heap.size := by simp; omega
    generalize ((w2.alloc (.cells #[.int .i64 1, .int .i64 0] 3)).drewN n3) = w3 at B3 Z3 ⊢
    clear own2 B2 Z2
    have z3 : w.heap.size < w3.heap.size := by omega
    have H3 := hw0.trans (B3.mono (Nat.le_succ _))
    obtain ⟨cc3, _⟩ := keepAt B3 (Nat.lt_succ_self _)
    have q0 := cc3 0
    have q1 := cc3 1
    simp at q0 q1
    clear cc3
    go_wp2_with fail
    refine (K2.out _ ((hs.keep H3 (Nat.le_refl _)).more (by omega))).mono ?_
    rintro e w4 ⟨rfl, hb4⟩
    have H4 := H3.trans (hb4.mono H3.size)
    clear hb4 B3 H3 z3 Z3 q0 q1
    go_wp2
    go_ret
    exact ⟨rfl, H4⟩

theorem own : ownKnob Try.prog.godebug = none := by kernel_rfl
theorem laidOut : laidOutB Try.prog = true := by kernel_rfl

set_option maxRecDepth 100000 in
theorem lifted (os : Os) (started : os.Started) (H : Type) (enc : TypeId × Value → H) :
    ReturnsInHanded {} Try.checked os 10 .any (Rows.dagForwardSpec.pre6 enc Try.prog Try.f10 Rows.dagForwardRow.domain false) (Rows.dagForwardSpec.post enc Try.prog Try.f10 false true false false) := by
  refine returnsInHanded_of_change (C := Try.checked) own started (by kernel_rfl) Try.func10
    (ChangeSpec.witness6 (enc := enc) (C := Try.checked) false ⟨#[], #[.agg #[.int .i64 0, .slice none 0 0]], []⟩ 8 (by kernel_rfl) (by kernel_rfl) (by kernel_rfl) (by kernel_rfl)) ?_
  intro W base args ds gs before hval0 hW hcnd _
  have hval : ∀ (j : Nat) t v, Try.f10.params[j]? = some t → args[j]? = some v → Value.okWide Try.prog W .any base t v := hval0
  have hW' := hW
  obtain ⟨p, q, hA0, hV, rfl, hfz, hnd⟩ := hW
  have hA : DataW.TrodAll enc Try.prog W 0 (fun _ => true) true Try.f10.params.toList args.toList ds p := hA0
  rw [Try.params10] at hA hval
  obtain ⟨v0, vs0, d0, ds0, p0, q0, hargs, rfl, rfl, h0, r0⟩ := trodAll_cons hA
  obtain ⟨rfl, rfl, rfl⟩ := trodAll_nil r0
  obtain rfl : args = #[v0] := by cases args; simp_all
  obtain ⟨rfl, rfl⟩ := trodVars_none hV
  obtain ⟨N0, A0, c0, l0, dd0, rfl, hN0, hG0, hb0, rfl, hd0⟩ := open_net Try.underlying24 (by kernel_rfl) (by kernel_rfl) Try.underlying3 Try.underlying22 Try.underlying60 (by kernel_rfl) (by kernel_rfl) Try.underlying3 Try.underlying3 Try.underlying3 (hval 0 24 v0 rfl rfl) h0
  refine (walk W N0 A0 c0 l0 hG0).mono fun e W' ⟨he, hB⟩ => ?_
  subst he
  exact ⟨_, rfl, post_of_law laidOut rfl Try.underlying4 rfl (by intro t ht; rw [Try.params10] at ht; simp at ht; subst ht <;> exact ⟨by kernel_rfl, of_decide_eq_true (by kernel_rfl)⟩) hW' rfl hB⟩

theorem holds : Rows.DagForwardSaid :=
  OpenClaim.holds_of_wide 10 Try.f10 rfl rfl rfl rfl rfl rfl rfl ⟨rfl, rfl, rfl, rfl, rfl⟩ rfl rfl rfl rfl rfl (by kernel_rfl) Try.func10 (by kernel_rfl)
    (of_decide_eq_true (by kernel_rfl)) (by unfold Func.isWrapper; first | (rw [if_pos (by decide +kernel)]; kernel_rfl) | (rw [if_neg (by decide +kernel)]; exact ⟨rfl, rfl⟩))
    (fun os started H enc _ => lifted os started H enc)
#print axioms holds
end Go.Proofs.Ytdpjbjgecmnmnaa.DagForwardLaw
