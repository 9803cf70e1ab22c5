/- The walk of flow.Cut. -/
import Derived.Test.YtlcgkbkmfelcfaaFlowUse
namespace Go.Proofs.Ytlcgkbkmfelcfaa.Flow
open Go.RowKit Go.Proofs.Ytlcgkbkmfelcfaa NetLaw FlowLaw FlowBfs Go.Proofs.Ytlcgkbkmfelcfaa.Net Go.Proofs.Ytlcgkbkmfelcfaa.Std
set_option linter.unusedSimpArgs false
set_option linter.unusedVariables false
theorem infoBoolF : (Try.prog.info? 4).map (fun i => (i.zero, i.size, i.bytes)) = some (some (.bool false), 1, 1) := by kernel_rfl
theorem newsB {w : World} {e : TypeId} {x : Bool} : ∀ j, j < 1 → (w.alloc (.cells #[.bool x] e)).cell? ⟨w.heap.size, j, none⟩ = some (cb x j) := by
  intro j hj
  obtain rfl : j = 0 := by omega
  simp [go_sem, cb]
/-- who is on the small side -/
def side (n : Nat) (od : List Int) : List Bool := (List.range n).map fun (x : Nat) => decide ((x : Int) ∈ od)
theorem side_len (n : Nat) (od : List Int) : (side n od).length = n := by simp [side]
theorem side_snoc {n : Nat} {od : List Int} {k : Nat} (hk : k < n) : (side n od).take (k + 1) = (side n od).take k ++ [decide ((k : Int) ∈ od)] := by
  rw [List.take_succ_eq_append_getElem (by rw [side_len]; exact hk)]
  simp [side]
theorem side_get {n : Nat} {od : List Int} {k : Nat} (hk : k < n) : (side n od).getD k false = decide ((k : Int) ∈ od) := by
  rw [List.getD_eq_getElem?_getD, side, List.getElem?_map, List.getElem?_range hk]
  rfl
def CutSays (N s t : Int) (l : List E) (w : World) (e : Ending) (w' : World) : Prop :=
  (ferr N l s t ≠ 0 → e = .returned (.tuple #[.slice none 0 0, .int .i64 (ferr N l s t)])) ∧
  (ferr N l s t = 0 → ∃ v A c od, e = .returned (.tuple #[.slice A N.toNat c, .int .i64 0]) ∧ Own w' w.heap.size 4 1 cb (.slice A N.toNat c) (side N.toNat od) ∧ Hid (Mx l s t v ∧ s ∈ od ∧ t ∉ od ∧ C l (fun x => decide (x ∈ od)) = v)) ∧ Below w.heap.size w w'

set_option maxRecDepth 100000 in
set_option maxHeartbeats 4000000 in
theorem cut_any (N s t : Int) (A : Option Addr) (c : Nat) (l : List E) (w : World) (hl : Sl w w.heap.size 3 ce A l) (hlen : l.length ≤ 9223372036854775807) :
    Calls Try.prog 50 #[.agg #[.int .i64 N, .slice A l.length c], .int .i64 s, .int .i64 t] w fun e w' => CutSays N s t l w e w' := by
  obtain ⟨i0, hi, hz0, hz1, hz2⟩ := info_parts infoBoolF
  have hw0 : Below w.heap.size w (w.alloc (.cells #[.int .i64 N, .slice A l.length c] 24)) := (Below.refl _ _).alloc (Nat.le_refl _) _
  have key := flook_any N s t A c l _ ((hl.keep hw0 (Nat.le_refl _)).more hw0.size) hlen
  have hbx := heap_alloc_new w (.cells #[.int .i64 N, .slice A l.length c] 24)
  have HBX := Lib.hid hbx
  have HSL := Lib.hid hl
  by_cases h0 : ferr N l s t = 0
  · obtain ⟨hg, hc, ⟨s0, s1⟩, ⟨t0, t1⟩, hst⟩ := ferr_zero.1 h0
    rw [h0] at key
    have hN2 := hg.hi
    have h6 := hg.len
    obtain ⟨n, rfl⟩ := Int.eq_ofNat_of_zero_le (show 0 ≤ N by omega)
    obtain ⟨s, rfl⟩ := Int.eq_ofNat_of_zero_le s0
    obtain ⟨t, rfl⟩ := Int.eq_ofNat_of_zero_le t0
    have kf := fun W h => full_any n s t A c l W h hg hc (by omega) (by omega) (by omega)
    have KEY := Lib.hid key
    have KF := Lib.hid kf
    have HE := Lib.hid h0
    clear key kf h0 hg hc s0 s1 t0 t1 hst hl hbx
    go_enter Try.func50, Try.ntmps50
    go_wp2_with fail
    refine KEY.out.mono ?_
    rintro e w1 ⟨rfl, hb1⟩
    have H1 := hw0.trans (hb1.mono hw0.size)
    have hb := blk_below HBX.out hb1 (by simp)
    have q0 := blk_cell hb 0
    have q1 := blk_cell hb 1
    simp only [List.getElem?_toArray, List.getElem?_cons_zero, List.getElem?_cons_succ] at q0 q1
    have z1 := lt_of_block hb
    have HB1 := Lib.hid hb
    clear hb hb1 KEY
    go_wp2_with fail
    refine (KF.out _ ((HSL.out.keep H1 (Nat.le_refl _)).more H1.size)).mono ?_
    rintro e w2 ⟨v, Sf, Sb, F, B, od, rfl, ownF, ownB, HX, hb2⟩
    have H2 := H1.trans (hb2.mono H1.size)
    have HB2 := Lib.hid (blk_below HB1.out hb2 z1)
    have OWB := Lib.hid ownB
    have hfin : Hid (Mx l s t v ∧ (s : Int) ∈ od ∧ (t : Int) ∉ od ∧ C l (fun x => decide (x ∈ od)) = v) :=
      Lib.hid ⟨(HX.out.2.1.mx HX.out.1 HX.out.2.2).1, List.mem_of_head? HX.out.2.1.hd, HX.out.2.2, (HX.out.2.1.mx HX.out.1 HX.out.2.2).2⟩
    clear ownF ownB hb2 H1 q0 q1 KF HB1
    have HH2 := Lib.hid H2
    have hSb := (OWB.out.base_ Sb rfl).2
    clear H2
    go_wp2
    go_loopw [12, 32] (fun s12 i wr => ∃ (k : Nat) (A9 : Option Addr) (c9 : Nat), k ≤ n ∧ i = .int .i64 k ∧ s12 = .slice A9 k c9 ∧ Hid (Own wr w2.heap.size 4 1 cb (.slice A9 k c9) ((side n od).take k)) ∧ Hid (Below w2.heap.size w2 wr)) (fun _ i _ => n - (intOf i).toNat)
    case atStart => exact ⟨0, none, 0, Nat.zero_le _, rfl, rfl, Lib.hid (by rw [List.take_zero]; exact Own.nil_), Lib.hid (Below.refl _ _)⟩
    case round =>
      obtain ⟨k, A9, c9, hk, rfl, rfl, OW, HB⟩ := hrel
      have hz := HB.out.size
      by_cases hlt : k < n
      · obtain ⟨bc, _⟩ := own_at1 HX.out.2.1.bl (OWB.out.keep HB.out) hlt
        have hseen := HX.out.2.1.seen (v := (k : Int)) (by omega) (by omega)
        rw [Int.toNat_natCast] at hseen
        have hbl := blk_below HB2.out HB.out (lt_of_block HB2.out)
        have p0 := blk_cell hbl 0
        have p1 := blk_cell hbl 1
        simp only [List.getElem?_toArray, List.getElem?_cons_zero, List.getElem?_cons_succ] at p0 p1
        have zp := lt_of_block hbl
        obtain ⟨bt, hbt⟩ : ∃ bt, B.getD k 0 = bt := ⟨_, rfl⟩
        rw [hbt] at bc hseen
        have hsn := side_snoc (od := od) hlt
        obtain ⟨p, hp⟩ : ∃ p, decide ((k : Int) ∈ od) = p := ⟨_, rfl⟩
        rw [hp] at hsn
        have d1 : (bt != (l.length : Int)) = p := by
          rw [← hp]
          by_cases e : bt = (l.length : Int)
          · rw [show (bt != (l.length : Int)) = false by simp [e], decide_eq_false (hseen.1 e)]
          · rw [show (bt != (l.length : Int)) = true by simp [e]]
            exact (decide_eq_true (Classical.not_not.1 fun h => e (hseen.2 h))).symm
        have hSr : Sb < wr.heap.size := by omega
        have HSN := Lib.hid hsn
        have hln : ((side n od).take k).length = k := by rw [List.length_take, side_len]; omega
        have HLN := Lib.hid hln
        have OWA := Lib.hid (OW.out.alloc (.cells #[.bool p] 4))
        have nb := newsB (w := wr) (e := 4) (x := p)
        have HNB := Lib.hid nb
        have zk : (k : Int) < (n : Int) := by omega
        clear hbt hp hseen hbl hsn hln OW nb
        go_wp2_with (at_builtin; refine wpList_push _ rfl (.tmp 36) (.tmp 42) _ rfl w2.heap.size 4 i0 (.bool false) 1 1 cb Try.underlying68 hi hz0 hz1 hz2 rfl (by decide) _ _ k HLN.out rfl OWA.out wr.heap.size 1 p rfl HNB.out (fun _ _ => rfl) (by omega) (by omega) (by simp; omega) ?_; intro A8 c8 w8 hown8 hgrow8 hat8)
        have hb8 := Lib.hid ((HB.out.alloc hz (.cells #[.bool p] 4)).grown hgrow8 (by simp; omega) OWA.out.lo)
        rw [← HSN.out] at hown8
        have HO8 := Lib.hid hown8
        clear hown8 hgrow8 hat8
        go_roundw
        case rel => exact ⟨k + 1, A8, c8, by omega, by go_num, rfl, HO8, hb8⟩
        case measure => simp [intOf]; omega
      · obtain rfl : n = k := by omega
        have hown := OW.out
        rw [List.take_of_length_le (by rw [side_len]; exact Nat.le_refl _)] at hown
        have HO := Lib.hid (hown.mono HH2.out.size)
        have HF := Lib.hid (HH2.out.trans (HB.out.mono HH2.out.size))
        clear hown OW HB
        go_wp2
        go_ret2
        refine ⟨fun h => absurd HE.out h, fun _ => ⟨v, A9, c9, od, rfl, ?_, hfin⟩, HF.out⟩
        rw [Int.toNat_natCast]
        exact HO.out
  · have KEY := Lib.hid key
    have HE := Lib.hid h0
    have hne : (ferr N l s t != 0) = true := by rw [bne_iff_ne]; exact h0
    have hms : ∀ e w', e = .returned (.tuple #[.slice none 0 0, .int .i64 (ferr N l s t)]) → Below w.heap.size w w' → CutSays N s t l w e w' := fun e w' h1 h2 => ⟨fun _ => h1, fun h => absurd h h0, h2⟩
    have HMS := Lib.hid hms
    generalize ferr N l s t = x at *
    clear key h0 hl hbx hms
    go_enter Try.func50, Try.ntmps50
    go_wp2_with fail
    refine KEY.out.mono ?_
    rintro e w1 ⟨rfl, hb1⟩
    have H1 := hw0.trans (hb1.mono hw0.size)
    clear hb1 KEY
    go_wp2
    go_ret2
    exact HMS.out _ _ rfl H1
theorem cut_two (W : World) (g : Nat) (h : Sl W W.heap.size 3 ce (some ⟨g, 0, none⟩) [(0, 1, 5)]) :
    Calls Try.prog 50 #[.agg #[.int .i64 2, .slice (some ⟨g, 0, none⟩) 1 1], .int .i64 0, .int .i64 1] W fun e w' => ∃ A c, e = .returned (.tuple #[.slice A 2 c, .int .i64 0]) ∧ Own w' W.heap.size 4 1 cb (.slice A 2 c) [true, false] ∧ Below W.heap.size W w' := by
  refine (cut_any 2 0 1 (some ⟨g, 0, none⟩) 1 [(0, 1, 5)] W h (by decide)).mono ?_
  rintro e w' ⟨_, k2, k3⟩
  obtain ⟨v, A, c, od, e1, e2, e3⟩ := k2 (two_err 0 1 (by decide) (by decide) (by decide))
  obtain ⟨_, h0, h1, _⟩ := e3.out
  have e : side (2 : Int).toNat od = [true, false] := by
    show [decide (((0 : Nat) : Int) ∈ od), decide (((1 : Nat) : Int) ∈ od)] = _
    rw [decide_eq_true (show ((0 : Nat) : Int) ∈ od from h0), decide_eq_false (show ¬ ((1 : Nat) : Int) ∈ od from h1)]
  rw [e] at e2
  exact ⟨A, c, e1, e2, k3⟩
theorem cut_no (N s t : Int) (A : Option Addr) (c : Nat) (l : List E) (x : Int) (hx : ferr N l s t = x) (h0 : x ≠ 0) (hll : l.length ≤ 9223372036854775807) (W : World) (h : Sl W W.heap.size 3 ce A l) :
    Calls Try.prog 50 #[.agg #[.int .i64 N, .slice A l.length c], .int .i64 s, .int .i64 t] W fun e w' => e = .returned (.tuple #[.slice none 0 0, .int .i64 x]) ∧ Below W.heap.size W w' := by
  subst hx
  exact (cut_any N s t A c l W h hll).mono fun e w' ⟨k1, _, k3⟩ => ⟨k1 h0, k3⟩
theorem cut_yes (n : Nat) (s t : Int) (A : Option Addr) (c : Nat) (l : List E) (hx : ferr n l s t = 0) (hll : l.length ≤ 9223372036854775807) (W : World) (h : Sl W W.heap.size 3 ce A l) :
    Calls Try.prog 50 #[.agg #[.int .i64 n, .slice A l.length c], .int .i64 s, .int .i64 t] W fun e w' => ∃ v A c od, e = .returned (.tuple #[.slice A n c, .int .i64 0]) ∧ Own w' W.heap.size 4 1 cb (.slice A n c) (side n od) ∧ Below W.heap.size W w' ∧ Hid (Mx l s t v ∧ s ∈ od ∧ t ∉ od ∧ C l (fun x => decide (x ∈ od)) = v) := by
  refine (cut_any n s t A c l W h hll).mono ?_
  rintro e w' ⟨_, k2, k3⟩
  obtain ⟨v, A, c, od, k4, k5, k6⟩ := k2 hx
  rw [Int.toNat_natCast] at k4 k5
  exact ⟨v, A, c, od, k4, k5, k3, k6⟩
end Go.Proofs.Ytlcgkbkmfelcfaa.Flow
