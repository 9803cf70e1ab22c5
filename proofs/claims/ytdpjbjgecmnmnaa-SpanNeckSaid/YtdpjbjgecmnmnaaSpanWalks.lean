/- The walks of span.Tree and of the laws' helpers pairs and all. -/
import Derived.Test.YtdpjbjgecmnmnaaSpanTree
import Derived.Deep.RegionHeld3
namespace Go.Proofs.Ytdpjbjgecmnmnaa.Span
open Go.RowKit Go.Proofs.Ytdpjbjgecmnmnaa NetLaw HeapLaw UnionLaw SpanLaw Go.Proofs.Ytdpjbjgecmnmnaa.Net Go.Proofs.Ytdpjbjgecmnmnaa.Heap Go.Proofs.Ytdpjbjgecmnmnaa.Union
set_option linter.unusedSimpArgs false
set_option linter.unusedVariables false

set_option maxHeartbeats 1000000 in
theorem tree_yes (n : Nat) (A : Option Addr) (c : Nat) (l : List E) (w : World) (hl : Sl w w.heap.size 3 ce A l) (hg : NetLaw.Good n l) :
    Calls Try.prog 41 #[.agg #[.int .i64 n, .slice A l.length c]] w fun e w' => ∃ Ao co' out, e = .returned (.tuple #[.slice Ao out.length co', .int .i64 0]) ∧ Own w' w.heap.size 3 1 ci (.slice Ao out.length co') (zs out) ∧ Kru n l out ∧ Below w.heap.size w w' := by
  have hw0 : Below w.heap.size w (w.alloc (.cells #[.int .i64 n, .slice A l.length c] 24)) := (Below.refl _ _).alloc (Nat.le_refl _) _
  have hlen := hg.len
  have key := check_any n A c l _ ((hl.keep hw0 (Nat.le_refl _)).more (show w.heap.size ≤ (w.alloc (.cells #[.int .i64 n, .slice A l.length c] 24)).heap.size by simp)) (by omega)
  rw [chk_zero.2 hg] at key
  have kt := fun W h => tree_any n A c l W h hg
  have box0 := heap_alloc_new w (.cells #[.int .i64 n, .slice A l.length c] 24)
  have KEY := Lib.hid key
  have KT := Lib.hid kt
  have BOX0 := Lib.hid box0
  clear key kt box0 hg
  go_enter Try.func41, Try.ntmps41
  go_wp2_with fail
  refine KEY.out.mono ?_
  rintro e w1 ⟨rfl, hb1⟩
  have H1 := hw0.trans (hb1.mono (by simp))
  have hbox := blk_below BOX0.out hb1 (by simp)
  have q0 := blk_cell hbox 0
  have q1 := blk_cell hbox 1
  simp only [List.getElem?_toArray, List.getElem?_cons_zero, List.getElem?_cons_succ] at q0 q1
  clear hb1 hbox KEY
  go_wp2_with fail
  refine (KT.out _ ((hl.keep H1 (Nat.le_refl _)).more H1.size)).mono ?_
  rintro e w2 ⟨Ao, co', out, rfl, hown, hk, hb2⟩
  have H2 := H1.trans (hb2.mono H1.size)
  have HO := Lib.hid (hown.mono H1.size)
  have HK := Lib.hid hk
  clear hown hk hb2 q0 q1
  go_wp2
  go_ret2
  exact ⟨Ao, co', out, rfl, HO.out, HK.out, H2⟩
set_option maxHeartbeats 1000000 in
theorem tree_no (N : Int) (A : Option Addr) (c : Nat) (l : List E) (w : World) (hl : Sl w w.heap.size 3 ce A l) (hlen : l.length ≤ 9223372036854775807) (hg : chk N l ≠ 0) :
    Calls Try.prog 41 #[.agg #[.int .i64 N, .slice A l.length c]] w fun e w' => e = .returned (.tuple #[.slice none 0 0, .int .i64 (chk N l)]) ∧ Below w.heap.size w w' := by
  have hw0 : Below w.heap.size w (w.alloc (.cells #[.int .i64 N, .slice A l.length c] 24)) := (Below.refl _ _).alloc (Nat.le_refl _) _
  have key := check_any N A c l _ ((hl.keep hw0 (Nat.le_refl _)).more (show w.heap.size ≤ (w.alloc (.cells #[.int .i64 N, .slice A l.length c] 24)).heap.size by simp)) hlen
  have hne : (chk N l != 0) = true := by rw [bne_iff_ne]; exact hg
  generalize chk N l = er at *
  have KEY := Lib.hid key
  clear key hl hg
  go_enter Try.func41, Try.ntmps41
  go_wp2_with fail
  refine KEY.out.mono ?_
  rintro e w1 ⟨rfl, hb1⟩
  have H1 := hw0.trans (hb1.mono (by simp))
  go_wp2
  go_ret2
  exact ⟨rfl, H1⟩
/-- the ends of edges with these numbers -/
def pr (l : List E) (js : List Nat) : List (Int × Int) := js.map fun i => ((l.getD i (0, 0, 0)).1, (l.getD i (0, 0, 0)).2.1)
theorem pr_len (l : List E) (js : List Nat) : (pr l js).length = js.length := by simp [pr]
theorem pr_snoc (l : List E) (js : List Nat) (i : Nat) : pr l (js ++ [i]) = pr l js ++ [((l.getD i (0, 0, 0)).1, (l.getD i (0, 0, 0)).2.1)] := by simp [pr]
theorem pn_pr (l : List E) (js : List Nat) : pn (pr l js) = js.map (es l) := by simp [pn, pr, es]
theorem pr_in {n : Nat} {l : List E} (hg : NetLaw.Good n l) {js : List Nat} (hj : ∀ i ∈ js, i < l.length) : InR n (pr l js) := fun p hp => by
  unfold pr at hp
  rw [List.mem_map] at hp
  obtain ⟨i, hi, rfl⟩ := hp
  rw [getD_at (hj i hi)]
  exact hg.ends _ (List.getElem_mem (hj i hi))
theorem infoPair : (Try.prog.info? 104).map (fun i => (i.zero, i.size, i.bytes)) = some (some (.agg #[.int .i64 0, .int .i64 0]), 2, 16) := by kernel_rfl

set_option maxRecDepth 100000 in
set_option maxHeartbeats 4000000 in
theorem pairs_any (N : Int) (A : Option Addr) (c : Nat) (l : List E) (Aj : Option Addr) (cj : Nat) (js : List Nat) (m : Nat) (w : World) (hm : js.length = m) (hl : Sl w w.heap.size 3 ce A l) (hz : Sl w w.heap.size 1 ci Aj (zs js)) (hlen : l.length ≤ 600) (hmj : m ≤ 100000) (hj : ∀ i ∈ js, i < l.length) :
    Calls Try.prog 43 #[.agg #[.int .i64 N, .slice A l.length c], .slice Aj m cj] w fun e w' => ∃ A' c', e = .returned (.slice A' m c') ∧ Own w' w.heap.size 104 2 cp (.slice A' m c') (pr l js) ∧ Below w.heap.size w w' := by
  obtain ⟨i0, hi, hz0, hz1, hz2⟩ := info_parts infoPair
  have hw0 : Below w.heap.size w (w.alloc (.cells #[.int .i64 N, .slice A l.length c] 24)) := (Below.refl _ _).alloc (Nat.le_refl _) _
  have hbox0 := heap_alloc_new w (.cells #[.int .i64 N, .slice A l.length c] 24)
  have HBOX0 := Lib.hid hbox0
  have HJ := Lib.hid hj
  have HM := Lib.hid hm
  clear hbox0 hj hm
  go_enter Try.func43, Try.ntmps43
  go_wp2
  go_loopw [5, 10] (fun s5 s wr => ∃ (k : Nat) (A5 : Option Addr) (c5 : Nat), k ≤ m ∧ s = .int .i64 k ∧ s5 = .slice A5 k c5 ∧ Own wr w.heap.size 104 2 cp (.slice A5 k c5) (pr l (js.take k)) ∧ wr.heap[w.heap.size]? = some (.cells #[.int .i64 N, .slice A l.length c] 24 (0, 0)) ∧ Below w.heap.size w wr) (fun _ s _ => m - (intOf s).toNat)
  case atStart => exact ⟨0, none, 0, Nat.zero_le _, rfl, rfl, Own.nil_, HBOX0.out, hw0⟩
  case round =>
    clear HBOX0
    obtain ⟨k, A5, c5, hk, rfl, rfl, own, hbox, hB⟩ := hrel
    by_cases hlt : k < m
    · have hkj : k < js.length := by rw [HM.out]; exact hlt
      have hkz : k < (zs js).length := by rw [zs_len]; exact hkj
      obtain ⟨bz, oz, rfl, hbz, hcz⟩ := (hz.keep hB (Nat.le_refl _)).atI hkz
      have hzk : (zs js)[k] = ((js[k] : Nat) : Int) := by simp [zs]
      have hil := HJ.out _ (List.getElem_mem hkj)
      have hst : pr l (js.take (k + 1)) = pr l (js.take k) ++ [((l.getD js[k] (0, 0, 0)).1, (l.getD js[k] (0, 0, 0)).2.1)] := by rw [List.take_succ_eq_append_getElem hkj, pr_snoc]
      rw [hzk] at hcz
      generalize js[k] = i at *
      obtain ⟨b, off, f, t, cc, rfl, hbB, he, hcf, hct, hcc⟩ := (hl.keep hB (Nat.le_refl _)).atE hil
      rw [getD_at hil, he] at hst
      simp only at hst
      have hpl : (pr l (js.take k)).length = k := by rw [pr_len, List.length_take]; omega
      have b1 := blk_cell hbox 1
      simp only [List.getElem?_toArray, List.getElem?_cons_zero, List.getElem?_cons_succ] at b1
      have hzw := lt_of_block hbox
      have hbw : b < wr.heap.size := by have := hB.size; omega
      have z5 : (i : Int) < (l.length : Int) := by omega
      have hbsz := hB.size
      have HST := Lib.hid hst
      have HPL := Lib.hid hpl
      have HOW := Lib.hid own
      have HBX := Lib.hid hbox
      have hkk : ∀ wx, Below wr.heap.size wr wx → wx.cell? ⟨w.heap.size, 1, none⟩ = some (.slice (some ⟨b, off, none⟩) l.length c) ∧ wx.cell? ⟨b, off + i * 3, none⟩ = some (.int .i64 f) ∧ wx.cell? ⟨b, off + i * 3 + 1, none⟩ = some (.int .i64 t) := fun wx hx => ⟨((keepAt hx hzw).1 _).trans b1, ((keepAt hx hbw).1 _).trans hcf, ((keepAt hx hbw).1 _).trans hct⟩
      have HKK := Lib.hid hkk
      clear hst hpl own hbox hkk he hzk hkz
      go_wp2
      go_region_held3 (fun w' => w'.cell? ⟨w.heap.size, 1, none⟩ = some (.slice (some ⟨b, off, none⟩) l.length c) ∧ w'.cell? ⟨b, off + i * 3, none⟩ = some (.int .i64 f) ∧ w'.cell? ⟨b, off + i * 3 + 1, none⟩ = some (.int .i64 t)) (first | go_keep | exact hkeep9)
        ((refine step_push _ rfl (.tmp 14) (.tmp 28) _ rfl w.heap.size 104 i0 _ 2 16 cp Try.underlying65 hi hz0 hz1 hz2 (by rfl) (by decide) _ (pr l (js.take k)) k HPL.out (by rfl) ((HOW.out.drewN 1).alloc _) wr.heap.size 1 (f, t) (by rfl) (Heap.news2' (by simp)) (fun _ _ => one_cp _ _) (by omega) (by omega) (by simp; omega) ?_; intro A3 c3 w9 hown9 hgrow9 hat9; rw [← HST.out] at hown9; have hbx9 := blk_grown (blk_alloc (show wr.drew.heap[w.heap.size]? = _ from HBX.out) _) hgrow9 (HOW.out.ne_ HBX.out (by decide)); have hB9 : Below w.heap.size w w9 := (((hB.drew).alloc (by exact hbsz) _).grown hgrow9 (by simp; omega) (HOW.out.lo)); have hkeep9 : w9.cell? ⟨w.heap.size, 1, none⟩ = some (.slice (some ⟨b, off, none⟩) l.length c) ∧ w9.cell? ⟨b, off + i * 3, none⟩ = some (.int .i64 f) ∧ w9.cell? ⟨b, off + i * 3 + 1, none⟩ = some (.int .i64 t) := ⟨blk_cell hbx9 1, ((hB9.cell (p := ⟨b, _, none⟩) hbB).trans ((hB.cell (p := ⟨b, _, none⟩) hbB).symm.trans hcf)), ((hB9.cell (p := ⟨b, _, none⟩) hbB).trans ((hB.cell (p := ⟨b, _, none⟩) hbB).symm.trans hct))⟩; clear hgrow9 hat9))
      have HOW9 := Lib.hid hown9
      have HBX9 := Lib.hid hbx9
      clear hown9 hkeep9 hbx9 hcz hcf hct hcc b1
      go_wp2
      go_roundw
      case rel => exact ⟨k + 1, A3, c3, by omega, by go_num, rfl, HOW9.out, HBX9.out, hB9⟩
      case measure => simp [intOf]; omega
    · obtain rfl : k = m := by omega
      rw [List.take_of_length_le (by rw [HM.out]; exact Nat.le_refl _)] at own
      have HOW := Lib.hid own
      clear own
      go_wp2
      go_ret
      exact ⟨A5, c5, rfl, HOW.out, hB⟩

set_option maxRecDepth 100000 in
set_option maxHeartbeats 2000000 in
theorem all_any (N : Int) (A : Option Addr) (c : Nat) (l : List E) (w : World) (hl : Sl w w.heap.size 3 ce A l) (hlen : l.length ≤ 600) :
    Calls Try.prog 44 #[.agg #[.int .i64 N, .slice A l.length c]] w fun e w' => ∃ A' c', e = .returned (.slice A' l.length c') ∧ Own w' w.heap.size 3 1 ci (.slice A' l.length c') (zs (List.range l.length)) ∧ Below w.heap.size w w' := by
  obtain ⟨i0, hi, hz0, hz1, hz2⟩ := info_parts infoIS
  have hw0 : Below w.heap.size w (w.alloc (.cells #[.int .i64 N, .slice A l.length c] 24)) := (Below.refl _ _).alloc (Nat.le_refl _) _
  clear hl
  go_enter Try.func44, Try.ntmps44
  go_wp2
  go_loopw [3, 8] (fun s5 s wr => ∃ (k : Nat) (A5 : Option Addr) (c5 : Nat), k ≤ l.length ∧ s = .int .i64 k ∧ s5 = .slice A5 k c5 ∧ Own wr w.heap.size 3 1 ci (.slice A5 k c5) (zs (List.range k)) ∧ Below w.heap.size w wr) (fun _ s _ => l.length - (intOf s).toNat)
  case atStart => exact ⟨0, none, 0, Nat.zero_le _, rfl, rfl, Own.nil_, hw0⟩
  case round =>
    obtain ⟨k, A5, c5, hk, rfl, rfl, own, hB⟩ := hrel
    by_cases hlt : k < l.length
    · have hst : zs (List.range (k + 1)) = zs (List.range k) ++ [(k : Int)] := by rw [List.range_succ, zs_snoc]
      have hpl : (zs (List.range k)).length = k := by rw [zs_len, List.length_range]
      have own2 := own.alloc (.cells #[.int .i64 k] 3)
      have hbsz := hB.size
      have HST := Lib.hid hst
      have HPL := Lib.hid hpl
      have HLO := Lib.hid own.lo
      clear hst hpl own
      go_wp2_with (at_builtin; refine wpList_push _ rfl (.tmp 11) (.tmp 13) _ rfl w.heap.size 3 i0 (.int .i64 0) 1 8 ci Try.underlying25 hi hz0 hz1 hz2 rfl (by decide) _ (zs (List.range k)) k HPL.out rfl own2 wr.heap.size 1 (k : Int) rfl news1 (fun _ _ => one_ci _ _) (by omega) (by omega) (by simp; omega) ?_; intro A3 c3 w4 hown3 hgrow3 hat3; rw [← HST.out] at hown3; have hB3 := (hB.alloc hbsz (.cells #[.int .i64 k] 3)).grown hgrow3 (by simp; omega) HLO.out; have HOWN3 := Lib.hid hown3; clear hgrow3 hat3 hown3)
      go_roundw
      case rel => exact ⟨k + 1, A3, c3, by omega, by go_num, rfl, HOWN3.out, hB3⟩
      case measure => simp [intOf]; omega
    · obtain rfl : k = l.length := by omega
      have HOW := Lib.hid own
      clear own
      go_wp2
      go_ret
      exact ⟨A5, c5, rfl, HOW.out, hB⟩
end Go.Proofs.Ytdpjbjgecmnmnaa.Span
