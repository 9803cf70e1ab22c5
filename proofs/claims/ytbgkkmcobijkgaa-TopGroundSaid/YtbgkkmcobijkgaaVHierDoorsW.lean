/- The walks of hier.doors and hier.Doors. -/
import Derived.Test.YtbgkkmcobijkgaaVHierWithin
import Derived.Test.YtbgkkmcobijkgaaVFlowMem
import Derived.BigRegion
namespace Go.Proofs.Ytbgkkmcobijkgaa.Hier
open Go.RowKit Go.Proofs.Ytbgkkmcobijkgaa GridLaw GroundLaw HierLaw Go.Proofs.Ytbgkkmcobijkgaa.Grid Go.Proofs.Ytbgkkmcobijkgaa.Net Go.Proofs.Ytbgkkmcobijkgaa.NetOf Go.Proofs.Ytbgkkmcobijkgaa.Flow Go.Proofs.Ytbgkkmcobijkgaa.Std
set_option linter.unusedSimpArgs false
set_option linter.unusedVariables false
/-- which cells are doors -/
def dtab (b : List E) (n : Nat) : List Bool := (List.range n).map fun (v : Nat) => isD b (v : Int)
theorem dtab_len (b : List E) (n : Nat) : (dtab b n).length = n := by simp [dtab]
theorem dtab_get {b : List E} {n k : Nat} (h : k < n) : (dtab b n).getD k false = isD b (k : Int) := by
  rw [List.getD_eq_getElem?_getD, dtab, List.getElem?_map, List.getElem?_range h]
  rfl
theorem dtab_nil (n : Nat) : dtab [] n = List.replicate n false := by
  apply List.ext_getElem
  · simp [dtab]
  · intro i h1 h2
    simp [dtab, isD]
theorem isD_snoc (b : List E) (f t : Nat) (co v : Int) : isD (b ++ [((f : Int), (t : Int), co)]) v = (isD b v || (decide ((f : Int) = v) || decide ((t : Int) = v))) := by simp [isD, List.any_append]
theorem dtab_step {b : List E} {n f t : Nat} {co : Int} (hf : f < n) (ht : t < n) : ((dtab b n).set f true).set t true = dtab (b ++ [((f : Int), (t : Int), co)]) n := by
  apply List.ext_getElem
  · simp [dtab]
  · intro i h1 h2
    rw [List.getElem_set, List.getElem_set]
    simp only [dtab, List.getElem_map, List.getElem_range, isD_snoc]
    by_cases e1 : t = i
    · subst e1; simp
    · rw [if_neg e1]
      by_cases e2 : f = i
      · subst e2; simp
      · rw [if_neg e2]
        have e3 : ¬ (f : Int) = (i : Int) := by omega
        have e4 : ¬ (t : Int) = (i : Int) := by omega
        simp [e3, e4]
theorem dtab_step' {b : List E} {n f t : Nat} {co : Int} (hf : f < n) (ht : t < n) : ((dtab b n).set t true).set f true = dtab (b ++ [((f : Int), (t : Int), co)]) n := by
  rw [← dtab_step hf ht (co := co)]
  by_cases e : f = t
  · subst e; rfl
  · exact List.set_comm _ _ (fun h => e h.symm)
theorem take_snoc {l : List E} {j : Nat} {e : E} (h : j < l.length) (he : l[j] = e) : l.take (j + 1) = l.take j ++ [e] := by rw [List.take_succ_eq_append_getElem h, he]
/-- what doors answers -/
def DoorsSays (b : List E) (n : Nat) (w : World) (e : Ending) (w' : World) : Prop :=
  ∃ S, e = .returned (.slice (some ⟨S, 0, none⟩) n n) ∧ Own w' w.heap.size 4 1 cb (.slice (some ⟨S, 0, none⟩) n n) (dtab b n) ∧ Below w.heap.size w w'
set_option maxRecDepth 100000 in
set_option maxHeartbeats 4000000 in
theorem doors_any (n : Nat) (A : Option Addr) (m c : Nat) (b : List E) (w : World) (hm : b.length = m) (hl : Sl w w.heap.size 3 ce A b) (hlen : m ≤ 600) (hn : n ≤ 64) (hends : ∀ e ∈ b, 0 ≤ e.1 ∧ e.1 < n ∧ 0 ≤ e.2.1 ∧ e.2.1 < n) (hne : ∀ e ∈ b, e.1 ≠ e.2.1) :
    Calls Try.prog 45 #[.agg #[.int .i64 n, .slice A m c]] w fun e w' => DoorsSays b n w e w' := by
  have hw0 : Below w.heap.size w (w.alloc (.cells #[.int .i64 n, .slice A m c] 32)) := (Below.refl _ _).alloc (Nat.le_refl _) _
  have hmb : ∀ w, (Instr.makeSlice 80 (.int .i64 (n : Int)) (.int .i64 (n : Int))).run Try.prog w = .ok (.slice (some ⟨w.heap.size, 0, none⟩) n n) (w.alloc (.cells (madeCells #[.bool false] n) 4)) :=
    run_make_row' (P := Try.prog) 80 4 (.bool false) 1 Try.underlying80 (by kernel_rfl) rfl .i64 .i64 n (by omega) (by omega)
  have own0 := own_madeB n w.heap.size (w.alloc (.cells #[.int .i64 n, .slice A m c] 32)) (by simp) (by omega) (by simp : _ = w.heap.size + 1)
  have OWN0 := Lib.hid own0
  have HM := Lib.hid hm
  have HSL := Lib.hid hl
  have HE := Lib.hid hends
  have HN := Lib.hid hne
  clear own0 hm hl hends hne
  go_enter Try.func45, Try.ntmps45
  go_wp2
  go_loopw [12] (fun i wr => ∃ j : Nat, j ≤ m ∧ i = .int .i64 j ∧ Hid (Own wr w.heap.size 4 1 cb (.slice (some ⟨w.heap.size + 1, 0, none⟩) n n) (dtab (b.take j) n)) ∧ Hid (Below w.heap.size w wr)) (fun i _ => m - (intOf i).toNat)
  case atStart => exact ⟨0, Nat.zero_le _, rfl, Lib.hid (by rw [List.take_zero, dtab_nil]; exact OWN0.out), Lib.hid (hw0.alloc hw0.size _)⟩
  case round =>
    obtain ⟨j, hj, rfl, OW, HB⟩ := hrel
    clear OWN0
    by_cases hlt : j < m
    · have hja : j < b.length := by rw [HM.out]; exact hlt
      obtain ⟨bb, off, f, t, co, rfl, hbB, he, hcf, hct, hcc⟩ := (HSL.out.keep HB.out (Nat.le_refl _)).atE hja
      obtain ⟨f0, f1, t0, t1⟩ : 0 ≤ f ∧ f < n ∧ 0 ≤ t ∧ t < n := HE.out (f, t, co) (he ▸ List.getElem_mem hja)
      have hft : f ≠ t := HN.out (f, t, co) (he ▸ List.getElem_mem hja)
      obtain ⟨f, rfl⟩ := Int.eq_ofNat_of_zero_le f0
      obtain ⟨t, rfl⟩ := Int.eq_ofNat_of_zero_le t0
      have hfn : f < n := by omega
      have htn : t < n := by omega
      have hts := take_snoc hja he
      have HTS := Lib.hid hts
      have hdl := dtab_len (b.take j) n
      have cf := own_atG false hdl OW.out hfn
      have ct := own_atG false hdl OW.out htn
      obtain ⟨cf1, cf2⟩ := cf
      obtain ⟨ct1, ct2⟩ := ct
      have hft2 : ¬ f = t := by omega
      have hft3 : ¬ t = f := by omega
      have hSz := (OW.out.base_ _ rfl).2
      have HDL := Lib.hid hdl
      unfold cb at cf1 ct1
      generalize (dtab (b.take j) n).getD f false = bf at *
      generalize (dtab (b.take j) n).getD t false = bt at *
      have z4 : (j : Int) < (m : Int) := by omega
      clear hts he hft hja hdl
      go_wp2
      go_region
      all_goals
        go_wp2
        go_roundw
        case' rel =>
          first
            | exact ⟨j + 1, by omega, by go_num, Lib.hid (by
                rw [HTS.out, ← dtab_step hfn htn]
                exact ((own_setG (cell := cb) (by rw [List.length_set]; exact HDL.out) (own_setG (cell := cb) HDL.out OW.out f hfn true) t htn true).alloc _).drewN 1), Lib.hid ((((HB.out.setCell (by exact Nat.le_succ _) _).setCell (by exact Nat.le_succ _) _).alloc (by simpa [World.setCell] using HB.out.size) _).drew)⟩
            | exact ⟨j + 1, by omega, by go_num, Lib.hid (by
                rw [HTS.out, ← dtab_step' hfn htn]
                exact ((own_setG (cell := cb) (by rw [List.length_set]; exact HDL.out) (own_setG (cell := cb) HDL.out OW.out t htn true) f hfn true).alloc _).drewN 1), Lib.hid ((((HB.out.setCell (by exact Nat.le_succ _) _).setCell (by exact Nat.le_succ _) _).alloc (by simpa [World.setCell] using HB.out.size) _).drew)⟩
        case' measure => simp [intOf]; omega
    · obtain rfl : j = m := by omega
      have hown := OW.out
      rw [List.take_of_length_le (by rw [HM.out]; exact Nat.le_refl _)] at hown
      have HO := Lib.hid hown
      clear hown OW
      go_wp2
      go_ret
      exact ⟨w.heap.size + 1, rfl, HO.out, HB.out⟩
/-- what Doors answers of right ground -/
def DoorsList (L : List Int) (w : World) (e : Ending) (w' : World) : Prop :=
  ∃ A p c, e = .returned (.tuple #[.slice A p c, .int .i64 0]) ∧ L.length = p ∧ Own w' w.heap.size 3 1 ci (.slice A p c) L ∧ Below w.heap.size w w'
theorem btw_ne {W k : Int} {l : List E} : ∀ e ∈ btw W k l, e.1 ≠ e.2.1 := fun e he h => by
  unfold btw at he
  rw [List.mem_filter] at he
  have := he.2
  rw [h] at this
  simp at this
set_option maxRecDepth 100000 in
set_option maxHeartbeats 4000000 in
theorem Doors_yes (W H k : Int) (A0 : Option Addr) (n c0 : Nat) (l : List Int) (w : World) (hn : l.length = n) (hl : Sl w w.heap.size 1 ci A0 l) (hg : GGood W H l) (hk1 : 1 ≤ k) (hk8 : k ≤ 8) :
    Calls Try.prog 15 #[.agg #[.int .i64 W, .int .i64 H, .slice A0 n c0], .int .i64 k] w fun e w' => DoorsList (drs (btw W k (allM W H l n)) n) w e w' := by
  obtain ⟨i0, hi, hz0, hz1, hz2⟩ := info_parts infoInt
  have hw0 : Below w.heap.size w (w.alloc (.cells #[.int .i64 W, .int .i64 H, .slice A0 n c0] 24)) := (Below.refl _ _).alloc (Nat.le_refl _) _
  have hbox := heap_alloc_new w (.cells #[.int .i64 W, .int .i64 H, .slice A0 n c0] 24)
  have hsz := size_bd hg
  have hgood := ground_good hg
  rw [hn] at hsz hgood
  have hlk := lk_zero.2 ⟨hg, hk1, hk8⟩
  have key := look_any W H k A0 n c0 l _ hn ((hl.keep hw0 (Nat.le_refl _)).more hw0.size) (by omega)
  rw [hlk] at key
  have kw := fun W' h => within_any W H k A0 n c0 l W' hn h hg hk1 hk8
  have hbl : (btw W k (allM W H l n)).length ≤ 600 := by
    have h1 := btw_len W k (allM W H l n)
    have h2 := allM_len W H l n
    omega
  have hends : ∀ e ∈ btw W k (allM W H l n), 0 ≤ e.1 ∧ e.1 < n ∧ 0 ≤ e.2.1 ∧ e.2.1 < n := fun e he => hgood.ends e (btw_sub he)
  have hne := btw_ne (W := W) (k := k) (l := allM W H l n)
  generalize allM W H l n = all at *
  generalize hb : btw W k all = b at *
  have kd := fun A m c W' hm h => doors_any n A m c b W' hm h (by omega) (by omega) hends hne
  have KEY := Lib.hid key
  have KW := Lib.hid kw
  have KD := Lib.hid kd
  have HB := Lib.hid hb
  have HBOX := Lib.hid hbox
  have HSL := Lib.hid hl
  clear key kw kd hb hbox hl hends hne hlk hg hgood hn
  go_enter Try.func15, Try.ntmps15
  go_wp2_with fail
  refine KEY.out.mono ?_
  rintro e w1 ⟨rfl, hb1⟩
  have B1 := hw0.trans (hb1.mono hw0.size)
  have hq := blk_below HBOX.out hb1 (by simp)
  have q0 := blk_cell hq 0
  have q1 := blk_cell hq 1
  have q2 := blk_cell hq 2
  simp only [List.getElem?_toArray, List.getElem?_cons_zero, List.getElem?_cons_succ] at q0 q1 q2
  have hs1 := (HSL.out.keep B1 (Nat.le_refl _)).more B1.size
  have HS1 := Lib.hid hs1
  clear hq hb1 hs1
  go_wp2_with fail
  refine (KW.out _ HS1.out).mono ?_
  rintro e w2 ⟨A4, c4, A5, c5, p4, p5, rfl, n4, n5, o4, o5, hb2⟩
  have B2 := B1.trans (hb2.mono B1.size)
  have B3 := (B2.alloc B2.size (.cells #[.int .i64 n, .slice A4 p4 c4] 32)).alloc (by simp; have := B2.size; omega) (.cells #[.int .i64 n, .slice A5 p5 c5] 32)
  have sl5 := ((o5.alloc (.cells #[.int .i64 n, .slice A4 p4 c4] 32)).alloc (.cells #[.int .i64 n, .slice A5 p5 c5] 32)).sl.2
  rw [HB.out] at sl5 n5
  have SL5 := Lib.hid sl5
  have N5 := Lib.hid n5
  have HB3 := Lib.hid B3
  clear n4 n5 o4 o5 hb2 B1 B2 B3 sl5 q0 q1 q2
  go_wp2_with fail
  refine (KD.out _ _ _ _ N5.out SL5.out).mono ?_
  rintro e w3 ⟨S, rfl, own3, hb3⟩
  have B3 := HB3.out.trans (hb3.mono HB3.out.size)
  have OW3 := Lib.hid own3
  have BB3 := Lib.hid B3
  have hS3 := (own3.base_ S rfl).2
  have hw3 := B3.size
  clear own3 hb3 B3
  go_wp2
  go_loopw [9, 27] (fun s9 i wr => ∃ (j : Nat) (A9 : Option Addr) (p9 c9 : Nat), j ≤ n ∧ i = .int .i64 j ∧ s9 = .slice A9 p9 c9 ∧ Hid ((drs b j).length = p9) ∧ Hid (Own wr w3.heap.size 3 1 ci (.slice A9 p9 c9) (drs b j)) ∧ Hid (Below w3.heap.size w3 wr)) (fun _ i _ => n - (intOf i).toNat)
  case atStart => exact ⟨0, none, 0, 0, Nat.zero_le _, rfl, rfl, Lib.hid rfl, Lib.hid Own.nil_, Lib.hid (Below.refl _ _)⟩
  case round =>
    obtain ⟨j, A9, p9, c9, hj, rfl, rfl, HP, OW, HBr⟩ := hrel
    have hz := HBr.out.size
    have hp9 : p9 ≤ j := by have h1 := HP.out; have h2 := drs_len b j; omega
    by_cases hlt : j < n
    · obtain ⟨cx, _⟩ := own_atG false (dtab_len b n) (OW3.out.keep HBr.out) hlt
      rw [dtab_get hlt] at cx
      unfold cb at cx
      have hss := drs_succ b j
      have z4 : (j : Int) < (n : Int) := by omega
      have hSr : S < wr.heap.size := by omega
      cases hd : isD b (j : Int) with
      | true =>
        rw [hd] at cx
        simp only [hd, if_true] at hss
        have HSS := Lib.hid hss
        have hoa := OW.out.alloc (.cells #[.int .i64 j] 3)
        have HOA := Lib.hid hoa
        clear hss hd hoa
        go_wp2_with (at_builtin; refine wpList_push _ rfl (.tmp 33) (.tmp 35) _ rfl w3.heap.size 3 i0 (.int .i64 0) 1 8 ci Try.underlying22 hi hz0 hz1 hz2 rfl (by decide) _ _ p9 HP.out rfl HOA.out wr.heap.size 1 (j : Int) rfl news1 (fun _ _ => rfl) (by omega) (by omega) (by simp; omega) ?_; intro A8 c8 w8 hown8 hgrow8 hat8)
        have hb8 := Lib.hid ((HBr.out.alloc hz (.cells #[.int .i64 j] 3)).grown hgrow8 (by simp; omega) HOA.out.lo)
        have HO8 := Lib.hid hown8
        clear hown8 hgrow8 hat8
        go_roundw
        case rel => exact ⟨j + 1, A8, p9 + 1, c8, by omega, by go_num, rfl, Lib.hid (by rw [HSS.out, List.length_append, HP.out]; rfl), Lib.hid (by rw [HSS.out]; exact HO8.out), hb8⟩
        case measure => simp [intOf]; omega
      | false =>
        rw [hd] at cx
        simp only [hd, if_false, List.append_nil, Bool.false_eq_true] at hss
        have HSS := Lib.hid hss
        clear hss hd
        go_wp2
        go_roundw
        case rel => exact ⟨j + 1, A9, p9, c9, by omega, by go_num, rfl, Lib.hid (by rw [HSS.out]; exact HP.out), Lib.hid (by rw [HSS.out]; exact OW.out), HBr⟩
        case measure => simp [intOf]; omega
    · obtain rfl : j = n := by omega
      have HF := Lib.hid (BB3.out.trans (HBr.out.mono BB3.out.size))
      have HO := Lib.hid (OW.out.mono BB3.out.size)
      clear OW HBr
      go_wp2
      go_ret2
      exact ⟨A9, p9, c9, rfl, HP.out, HO.out, HF.out⟩
set_option maxHeartbeats 1000000 in
theorem Doors_no (W H k : Int) (A0 : Option Addr) (n c0 : Nat) (l : List Int) (w : World) (hn : l.length = n) (hl : Sl w w.heap.size 1 ci A0 l) (hlen : n ≤ 9223372036854775807) (hg : lk W H l k ≠ 0) :
    Calls Try.prog 15 #[.agg #[.int .i64 W, .int .i64 H, .slice A0 n c0], .int .i64 k] w fun e w' => e = .returned (.tuple #[.slice none 0 0, .int .i64 (lk W H l k)]) ∧ Below w.heap.size w w' := by
  have hw0 : Below w.heap.size w (w.alloc (.cells #[.int .i64 W, .int .i64 H, .slice A0 n c0] 24)) := (Below.refl _ _).alloc (Nat.le_refl _) _
  have key := look_any W H k A0 n c0 l _ hn ((hl.keep hw0 (Nat.le_refl _)).more hw0.size) hlen
  have g0 : (lk W H l k != 0) = true := by simp [hg]
  generalize lk W H l k = er at *
  have KEY := Lib.hid key
  clear key hg hl hn
  go_enter Try.func15, Try.ntmps15
  go_wp2_with fail
  refine KEY.out.mono ?_
  rintro e w1 ⟨rfl, hb1⟩
  have B1 := hw0.trans (hb1.mono hw0.size)
  clear hb1
  go_wp2
  go_ret2
  exact ⟨rfl, B1⟩
end Go.Proofs.Ytbgkkmcobijkgaa.Hier
