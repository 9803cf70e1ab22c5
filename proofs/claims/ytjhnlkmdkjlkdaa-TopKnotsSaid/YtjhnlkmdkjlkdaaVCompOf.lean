/- The walk of comp.Of. -/
import Derived.Test.YtjhnlkmdkjlkdaaVCompVisit
import Derived.Test.YtjhnlkmdkjlkdaaVNetTurn
import Derived.Test.YtjhnlkmdkjlkdaaVMakersQ
import Derived.Deep.RegionHeld3
namespace Go.Proofs.Ytjhnlkmdkjlkdaa.Comp
open Go.RowKit Go.Proofs.Ytjhnlkmdkjlkdaa NetLaw CompLaw Go.Proofs.Ytjhnlkmdkjlkdaa.Net Go.Proofs.Ytjhnlkmdkjlkdaa.Std
open Go.Proofs.Ytjhnlkmdkjlkdaa.Flow (cb own_madeI own_madeB)
open Go.Proofs.Ytjhnlkmdkjlkdaa.Makers (wpAnyH_makersQ putsF mnum mdst lists)
set_option linter.unusedSimpArgs false
set_option linter.unusedVariables false
/-- the state at the start -/
def zs : TS := ⟨fun _ => 0, fun _ => 0, fun _ => 0, [], 0⟩
def zf : Array Value := #[.int .i64 0, .slice none 0 0, .slice none 0 0, .slice none 0 0, .slice none 0 0, .slice none 0 0, .slice none 0 0, .int .i64 0, .slice none 0 0]
/-- what each maker of the first statement leaves -/
def Mkc (n : Nat) (l : List E) (i : Nat) (v : Value) (lo hi : Nat) (w' : World) : Prop :=
  if i = 2 then ∃ T F, v = .slice (some ⟨T, 0, none⟩) n n ∧ Tab w' lo T n F (ol l l.length) ∧ T < hi ∧ ∀ u, u < n → ∀ g, ob (F u).1 = some g → g < hi
  else if i = 8 then ∃ g, v = .slice (some ⟨g, 0, none⟩) n n ∧ g < hi ∧ Own w' lo 4 1 cb (.slice (some ⟨g, 0, none⟩) n n) (List.replicate n false)
  else if i = 12 then ∃ g, v = .pointer (some ⟨g, 0, none⟩) ∧ lo ≤ g ∧ g < hi ∧ w'.heap[g]? = some (.cells zf 83 (0, 0))
  else ∃ g, v = .slice (some ⟨g, 0, none⟩) n n ∧ g < hi ∧ Own w' lo 3 1 ci (.slice (some ⟨g, 0, none⟩) n n) (List.replicate n 0)
theorem Mkc.keep {w1 w2 : World} {n : Nat} {l : List E} {i : Nat} {v : Value} {lo hi : Nat} (h : Mkc n l i v lo hi w1) (hb : Below w1.heap.size w1 w2) : Mkc n l i v lo hi w2 := by
  unfold Mkc at *
  split at h
  · rename_i hi2
    rw [if_pos hi2]
    obtain ⟨T, F, h1, h2, h3⟩ := h
    exact ⟨T, F, h1, h2.keep hb, h3⟩
  · rename_i hi2
    rw [if_neg hi2]
    split at h
    · rename_i hi3
      rw [if_pos hi3]
      obtain ⟨g, h1, h2, h3⟩ := h
      exact ⟨g, h1, h2, h3.keep hb⟩
    · rename_i hi3
      rw [if_neg hi3]
      split at h
      · rename_i hi4
        rw [if_pos hi4]
        obtain ⟨g, h1, h2, h3, h4⟩ := h
        exact ⟨g, h1, h2, h3, blk_below h4 hb (lt_of_block h4)⟩
      · rename_i hi4
        rw [if_neg hi4]
        obtain ⟨g, h1, h2, h3⟩ := h
        exact ⟨g, h1, h2, h3.keep hb⟩
theorem row_zero {w : World} {b S n : Nat} (h : Own w b 3 1 ci (.slice (some ⟨S, 0, none⟩) n n) (List.replicate n 0)) : RowI w b S n (fun _ => 0) :=
  ⟨_, h, by simp, fun v hv => by rw [List.getD_eq_getElem?_getD, List.getElem?_replicate, if_pos hv]; rfl⟩
theorem row_false {w : World} {b S n : Nat} (h : Own w b 4 1 cb (.slice (some ⟨S, 0, none⟩) n n) (List.replicate n false)) : RowB w b S n (onst zs) :=
  ⟨_, h, by simp, fun v hv => by rw [List.getD_eq_getElem?_getD, List.getElem?_replicate, if_pos hv]; rfl⟩
/-- nine cells stored -/
theorem blk_nine {w : World} {Z : Nat} (h : w.heap[Z]? = some (.cells zf 83 (0, 0))) (v0 v1 v2 v3 v4 v5 v6 v7 v8 : Value) :
    (((((((((w.setCell ⟨Z, 0, none⟩ v0).setCell ⟨Z, 1, none⟩ v1).setCell ⟨Z, 2, none⟩ v2).setCell ⟨Z, 3, none⟩ v3).setCell ⟨Z, 4, none⟩ v4).setCell ⟨Z, 5, none⟩ v5).setCell ⟨Z, 6, none⟩ v6).setCell ⟨Z, 7, none⟩ v7).setCell ⟨Z, 8, none⟩ v8).heap[Z]? = some (.cells #[v0, v1, v2, v3, v4, v5, v6, v7, v8] 83 (0, 0)) :=
  by
  have h9 := blk_set (blk_set (blk_set (blk_set (blk_set (blk_set (blk_set (blk_set (blk_set h 0 v0) 1 v1) 2 v2) 3 v3) 4 v4) 5 v5) 6 v6) 7 v7) 8 v8
  simp only [zf, List.setIfInBounds_toArray, List.set_cons_zero, List.set_cons_succ] at h9
  exact h9
/-- the finder as it was made -/
def MadeC (w0 : World) (n : Nat) (A : Option Addr) (c : Nat) (l : List E) (Z : Nat) (w : World) : Prop :=
  ∃ SI SL SO SM T F, CM w0 w n A c l Z SI SL SO SM T F none 0 0 zs (onst zs)
theorem nine_cells {w : World} {Z : Nat} (h : w.heap[Z]? = some (.cells zf 83 (0, 0))) : w.cell? ⟨Z, 0, none⟩ = some (.int .i64 0) ∧ w.cell? ⟨Z, 1, none⟩ = some (.slice none 0 0) ∧ w.cell? ⟨Z, 2, none⟩ = some (.slice none 0 0) ∧ w.cell? ⟨Z, 3, none⟩ = some (.slice none 0 0) ∧ w.cell? ⟨Z, 4, none⟩ = some (.slice none 0 0) ∧ w.cell? ⟨Z, 5, none⟩ = some (.slice none 0 0) ∧ w.cell? ⟨Z, 6, none⟩ = some (.slice none 0 0) ∧ w.cell? ⟨Z, 7, none⟩ = some (.int .i64 0) ∧ w.cell? ⟨Z, 8, none⟩ = some (.slice none 0 0) :=
  ⟨blk_cell h 0, blk_cell h 1, blk_cell h 2, blk_cell h 3, blk_cell h 4, blk_cell h 5, blk_cell h 6, blk_cell h 7, blk_cell h 8⟩
abbrev Nine (w : World) (Z : Nat) (v0 v1 v2 v3 v4 v5 v6 v7 v8 : Value) : World := (((((((((w.setCell ⟨Z, 0, none⟩ v0).setCell ⟨Z, 1, none⟩ v1).setCell ⟨Z, 2, none⟩ v2).setCell ⟨Z, 3, none⟩ v3).setCell ⟨Z, 4, none⟩ v4).setCell ⟨Z, 5, none⟩ v5).setCell ⟨Z, 6, none⟩ v6).setCell ⟨Z, 7, none⟩ v7).setCell ⟨Z, 8, none⟩ v8)
theorem nine_below {w1 w : World} {Z : Nat} (h : Below w1.heap.size w1 w) (hp : w1.heap.size ≤ Z) (v0 v1 v2 v3 v4 v5 v6 v7 v8 : Value) : Below w1.heap.size w1 (Nine w Z v0 v1 v2 v3 v4 v5 v6 v7 v8) :=
  ((((((((h.setCell hp v0).setCell hp v1).setCell hp v2).setCell hp v3).setCell hp v4).setCell hp v5).setCell hp v6).setCell hp v7).setCell hp v8
theorem cm_made {w1 w : World} {n c Z SI SL SO SM T : Nat} {A : Option Addr} {l : List E} {F : Nat → Option Addr × Nat} (hb : Below w1.heap.size w1 w) (hz : w.heap[Z]? = some (.cells zf 83 (0, 0))) (hZ : w1.heap.size ≤ Z) (htb : Tab w w1.heap.size T n F (ol l l.length)) (rI : RowI w w1.heap.size SI n (fun _ => 0)) (rL : RowI w w1.heap.size SL n (fun _ => 0)) (rM : RowI w w1.heap.size SM n (fun _ => 0)) (rO : RowB w w1.heap.size SO n (onst zs)) (hne : SI ≠ SL ∧ SI ≠ SM ∧ SL ≠ SM) (hsep : ∀ u, u < n → ob (F u).1 ≠ some SI ∧ ob (F u).1 ≠ some SL ∧ ob (F u).1 ≠ some SM ∧ ∀ g, ob (F u).1 = some g → ob none ≠ some g) :
    CM w1 (Nine w Z (.int .i64 n) (.slice A l.length c) (.slice (some ⟨T, 0, none⟩) n n) (.slice (some ⟨SI, 0, none⟩) n n) (.slice (some ⟨SL, 0, none⟩) n n) (.slice none 0 0) (.slice (some ⟨SO, 0, none⟩) n n) (.int .i64 0) (.slice (some ⟨SM, 0, none⟩) n n)) n A c l Z SI SL SO SM T F none 0 0 zs (onst zs) := by
  have n1 := blk_neC hz rI.blk.1.choose_spec (by decide)
  have n2 := blk_neC hz rL.blk.1.choose_spec (by decide)
  have n3 := blk_neC hz rM.blk.1.choose_spec (by decide)
  have n4 := blk_neC hz rO.blk.1.choose_spec (by decide)
  have n5 : Z ≠ T := by obtain ⟨c5, b5, _⟩ := htb.blk; exact blk_neC hz b5 (by decide)
  have n6 : ∀ u, u < n → ob (F u).1 ≠ some Z := fun u hu e => (htb.own u hu).ne_ hz (by decide) ((ob_eq ..).trans e)
  have f1 : ∀ {S : Nat} {f : Int → Int}, RowI w w1.heap.size S n f → Z ≠ S → ∀ (v0 v1 v2 v3 v4 v5 v6 v7 v8 : Value), RowI (Nine w Z v0 v1 v2 v3 v4 v5 v6 v7 v8) w1.heap.size S n f := fun h hne v0 v1 v2 v3 v4 v5 v6 v7 v8 => by
    have hp := fun e => hne (Eq.symm e)
    exact ((((((((h.far hp v0).far hp v1).far hp v2).far hp v3).far hp v4).far hp v5).far hp v6).far hp v7).far hp v8
  refine ⟨blk_nine hz _ _ _ _ _ _ _ _ _, f1 rI n1 _ _ _ _ _ _ _ _ _, f1 rL n2 _ _ _ _ _ _ _ _ _, f1 rM n3 _ _ _ _ _ _ _ _ _, ?_, Own.nil_, rfl, ?_, hne, ⟨fun e => (by cases e), fun e => (by cases e), fun e => (by cases e)⟩, hsep, nine_below hb hZ _ _ _ _ _ _ _ _ _, hZ⟩
  · have hp := fun e => n4 (Eq.symm e)
    exact ((((((((rO.far hp _).far hp _).far hp _).far hp _).far hp _).far hp _).far hp _).far hp _).far hp _
  · exact tab_farC (tab_farC (tab_farC (tab_farC (tab_farC (tab_farC (tab_farC (tab_farC (tab_farC htb n5 n6 _) n5 n6 _) n5 n6 _) n5 n6 _) n5 n6 _) n5 n6 _) n5 n6 _) n5 n6 _) n5 n6 _
theorem nine_cell {w : World} {Z b : Nat} {x y : Value} (h : w.cell? ⟨b, 0, none⟩ = some x ∧ w.cell? ⟨b, 1, none⟩ = some y) (hb : b < Z) {v0 v1 v2 v3 v4 v5 v6 v7 v8 : Value} : (Nine w Z v0 v1 v2 v3 v4 v5 v6 v7 v8).cell? ⟨b, 0, none⟩ = some x ∧ (Nine w Z v0 v1 v2 v3 v4 v5 v6 v7 v8).cell? ⟨b, 1, none⟩ = some y := by
  have f : ∀ (w : World) (q : Addr) (u : Value), Z = q.block → ∀ i, (w.setCell q u).cell? ⟨b, i, none⟩ = w.cell? ⟨b, i, none⟩ := fun w q u hq i => by
    unfold World.cell?
    rw [Below.heap_setCell _ _ _ _ (show b ≠ q.block by omega)]
  unfold Nine
  rw [f _ _ _ rfl, f _ _ _ rfl, f _ _ _ rfl, f _ _ _ rfl, f _ _ _ rfl, f _ _ _ rfl, f _ _ _ rfl, f _ _ _ rfl, f _ _ _ rfl, f _ _ _ rfl, f _ _ _ rfl, f _ _ _ rfl, f _ _ _ rfl, f _ _ _ rfl, f _ _ _ rfl, f _ _ _ rfl, f _ _ _ rfl, f _ _ _ rfl]
  exact h
/-- what Of answers of a right net -/
def OfSays (n : Nat) (l : List E) (w : World) (e : Ending) (w' : World) : Prop :=
  ∃ S L, e = .returned (.tuple #[.slice (some ⟨S, 0, none⟩) n n, .int .i64 0]) ∧ Own w' w.heap.size 3 1 ci (.slice (some ⟨S, 0, none⟩) n n) L ∧ Hid (L.length = n) ∧ Hid (∀ v : Nat, v < n → Lst l v (L.getD v 0)) ∧ Below w.heap.size w w'
set_option maxRecDepth 100000 in
set_option maxHeartbeats 8000000 in
theorem of_yes (n : Nat) (A : Option Addr) (c : Nat) (l : List E) (w : World) (hl : Sl w w.heap.size 3 ce A l) (hg : NetLaw.Good n l) :
    Calls Try.prog 15 #[.agg #[.int .i64 n, .slice A l.length c]] w fun e w' => OfSays n l w e w' := by
  have hn1 := hg.lo
  have hn64 := hg.hi
  have hl6 := hg.len
  have hw0 : Below w.heap.size w (w.alloc (.cells #[.int .i64 n, .slice A l.length c] 24)) := (Below.refl _ _).alloc (Nat.le_refl _) _
  have key := check_any n A c l _ ((hl.keep hw0 (Nat.le_refl _)).more (show w.heap.size ≤ (w.alloc (.cells #[.int .i64 n, .slice A l.length c] 24)).heap.size by simp)) (by omega)
  rw [chk_zero.2 hg] at key
  have hmk : ∀ w, (Instr.makeSlice 25 (.int .i64 (n : Int)) (.int .i64 (n : Int))).run Try.prog w = .ok (.slice (some ⟨w.heap.size, 0, none⟩) n n) (w.alloc (.cells (madeCells #[.int .i64 0] n) 3)) :=
    run_make_row' (P := Try.prog) 25 3 (.int .i64 0) 8 Try.underlying25 (by kernel_rfl) rfl .i64 .i64 n (by omega) (by omega)
  have hmb : ∀ w, (Instr.makeSlice 38 (.int .i64 (n : Int)) (.int .i64 (n : Int))).run Try.prog w = .ok (.slice (some ⟨w.heap.size, 0, none⟩) n n) (w.alloc (.cells (madeCells #[.bool false] n) 4)) :=
    run_make_row' (P := Try.prog) 38 4 (.bool false) 1 Try.underlying38 (by kernel_rfl) rfl .i64 .i64 n (by omega) (by omega)
  have ko := fun W h => outs_any n A c l W h hg
  have box0 := heap_alloc_new w (.cells #[.int .i64 n, .slice A l.length c] 24)
  have KEY := Lib.hid key
  have KO := Lib.hid ko
  have HMK := Lib.hid hmk
  have HMB := Lib.hid hmb
  have BOX0 := Lib.hid box0
  have HG := Lib.hid hg
  have HSL0 := Lib.hid hl
  clear key ko hmk hmb box0 hg hl
  go_enter Try.func15, Try.ntmps15
  go_wp2_with fail
  refine KEY.out.mono ?_
  rintro e w1 ⟨rfl, hb1⟩
  have H1 := hw0.trans (hb1.mono (by simp))
  have hbox := blk_below BOX0.out hb1 (by simp)
  have q0 := blk_cell hbox 0
  have q1 := blk_cell hbox 1
  simp only [List.getElem?_toArray, List.getElem?_cons_zero, List.getElem?_cons_succ] at q0 q1
  have hz1' : w.heap.size < w1.heap.size := lt_of_block hbox
  have hsl1 := (HSL0.out.keep H1 (Nat.le_refl _)).more H1.size
  have HSL1 := Lib.hid hsl1
  have HBOX := Lib.hid hbox
  clear KEY hb1 hbox hsl1 hw0 BOX0
  go_upto_region 5 with fail
  go_cut [6] from 15 to 26 (fun s6 wx => ∃ Z : Nat, s6 = .pointer (some ⟨Z, 0, none⟩) ∧ Hid (MadeC w1 n A c l Z wx))
  case first =>
    refine Go.wp_region_held_drew (S := fun w' => w'.cell? ⟨w.heap.size, 0, none⟩ = some (.int .i64 n) ∧ w'.cell? ⟨w.heap.size, 1, none⟩ = some (.slice A l.length c)) (by kernel_rfl) ?_ (fun hHeld => ?_)
    · exact ⟨q0, q1⟩
    · skip
      refine Go.wpAnyH_take (fuel := 13) (i := 0) (oi := _) (v := ?_) rfl (by kernel_rfl) (by kernel_rfl) (by kernel_rfl) (fun _ _ _ h => h) (Or.inl ⟨by rfl, ?_⟩) (by assumption) ?_
      rotate_left
      · (intro w hSw; (try dsimp only at hSw); go_simp)
        try with_reducible rfl
      try simp only [Act.put, List.getElem_toArray, List.getElem_cons_succ, List.getElem_cons_zero, List.setIfInBounds_toArray, List.set_cons_zero, List.set_cons_succ]
      refine Go.wpAnyH_take (fuel := 12) (i := 1) (oi := _) (v := ?_) rfl (by kernel_rfl) (by kernel_rfl) (by kernel_rfl) (fun _ _ _ h => h) (Or.inl ⟨by rfl, ?_⟩) (by assumption) ?_
      rotate_left
      · (intro w hSw; (try dsimp only at hSw); go_simp)
        try with_reducible rfl
      try simp only [Act.put, List.getElem_toArray, List.getElem_cons_succ, List.getElem_cons_zero, List.setIfInBounds_toArray, List.set_cons_zero, List.set_cons_succ]
      refine Go.wpAnyH_take (fuel := 11) (i := 3) (oi := _) (v := ?_) rfl (by kernel_rfl) (by kernel_rfl) (by kernel_rfl) (fun _ _ _ h => h) (Or.inl ⟨by rfl, ?_⟩) (by assumption) ?_
      rotate_left
      · (intro w hSw; (try dsimp only at hSw); go_simp)
        try with_reducible rfl
      try simp only [Act.put, List.getElem_toArray, List.getElem_cons_succ, List.getElem_cons_zero, List.setIfInBounds_toArray, List.set_cons_zero, List.set_cons_succ]
      refine Go.wpAnyH_take (fuel := 10) (i := 5) (oi := _) (v := ?_) rfl (by kernel_rfl) (by kernel_rfl) (by kernel_rfl) (fun _ _ _ h => h) (Or.inl ⟨by rfl, ?_⟩) (by assumption) ?_
      rotate_left
      · (intro w hSw; (try dsimp only at hSw); go_simp)
        try with_reducible rfl
      try simp only [Act.put, List.getElem_toArray, List.getElem_cons_succ, List.getElem_cons_zero, List.setIfInBounds_toArray, List.set_cons_zero, List.set_cons_succ]
      refine Go.wpAnyH_take (fuel := 9) (i := 7) (oi := _) (v := ?_) rfl (by kernel_rfl) (by kernel_rfl) (by kernel_rfl) (fun _ _ _ h => h) (Or.inl ⟨by rfl, ?_⟩) (by assumption) ?_
      rotate_left
      · (intro w hSw; (try dsimp only at hSw); go_simp)
        try with_reducible rfl
      try simp only [Act.put, List.getElem_toArray, List.getElem_cons_succ, List.getElem_cons_zero, List.setIfInBounds_toArray, List.set_cons_zero, List.set_cons_succ]
      refine Go.wpAnyH_take (fuel := 8) (i := 9) (oi := _) (v := ?_) rfl (by kernel_rfl) (by kernel_rfl) (by kernel_rfl) (fun _ _ _ h => h) (Or.inl ⟨by rfl, ?_⟩) (by assumption) ?_
      rotate_left
      · (intro w hSw; (try dsimp only at hSw); go_simp)
        try with_reducible rfl
      try simp only [Act.put, List.getElem_toArray, List.getElem_cons_succ, List.getElem_cons_zero, List.setIfInBounds_toArray, List.set_cons_zero, List.set_cons_succ]
      refine wpAnyH_makersQ (fuel := 2) (ms := [(2, 17), (4, 19), (6, 21), (8, 23), (10, 25), (12, 6)]) (φ := Mkc n l) (12, 6) (by simp) (by kernel_rfl) (by kernel_rfl) (by decide) (by decide) hHeld ?_ ?_ ?_ ?_
      · exact fun p _ v a b w1 w2 h hb => h.keep hb
      · intro p hp o ho f wm hS hB K hK
        have B01 := (Below.refl w1.heap.size w1).drew.trans (hB.mono (Nat.le_refl _))
        have hz0 : w.heap.size < wm.heap.size := by have := B01.size; omega
        have hs2 : ∀ w2, Below wm.heap.size wm w2 → w2.cell? ⟨w.heap.size, 0, none⟩ = some (.int .i64 n) ∧ w2.cell? ⟨w.heap.size, 1, none⟩ = some (.slice A l.length c) := fun w2 hb => ⟨(hb.cell (p := ⟨w.heap.size, 0, none⟩) hz0).trans hS.1, (hb.cell (p := ⟨w.heap.size, 1, none⟩) hz0).trans hS.2⟩
        have hmk := HMK.out
        have hmb := HMB.out
        have HS2 := Lib.hid hs2
        have HB01 := Lib.hid B01
        clear hS hB hs2 B01 hHeld
        simp only [List.mem_cons, List.not_mem_nil, or_false] at hp
        rcases hp with rfl | rfl | rfl | rfl | rfl | rfl
        all_goals
          simp only [List.getElem?_toArray, List.getElem?_cons_succ, List.getElem?_cons_zero, Option.some.injEq] at ho
          subst ho
          simp only [putsF, mdst, List.map_cons, List.map_nil, List.foldl_cons, List.foldl_nil, Act.put, List.setIfInBounds_toArray, List.set_cons_zero, List.set_cons_succ] at hK ⊢
          have HKX := Lib.hid hK
          clear hK
          go_simp
        · refine (KO.out _ ((HSL1.out.keep HB01.out (Nat.le_refl _)).more HB01.out.size)).mono ?_
          rintro e w2 ⟨T, F, rfl, htab, hb2⟩
          exact HKX.out _ _ (by unfold Mkc; rw [if_pos rfl]; exact ⟨T, F, rfl, htab, htab.lt, fun u hu g hg => ((htab.own u hu).base_ g ((ob_eq ..).trans hg)).2⟩) (HS2.out _ hb2) hb2
        · exact HKX.out _ _ (by unfold Mkc; rw [if_neg (by decide), if_neg (by decide), if_neg (by decide)]; exact ⟨wm.heap.size, rfl, by simp, own_madeI n wm.heap.size wm (Nat.le_refl _) (by omega) rfl⟩) (HS2.out _ ((Below.refl _ _).alloc (Nat.le_refl _) _)) ((Below.refl _ _).alloc (Nat.le_refl _) _)
        · exact HKX.out _ _ (by unfold Mkc; rw [if_neg (by decide), if_neg (by decide), if_neg (by decide)]; exact ⟨wm.heap.size, rfl, by simp, own_madeI n wm.heap.size wm (Nat.le_refl _) (by omega) rfl⟩) (HS2.out _ ((Below.refl _ _).alloc (Nat.le_refl _) _)) ((Below.refl _ _).alloc (Nat.le_refl _) _)
        · exact HKX.out _ _ (by unfold Mkc; rw [if_neg (by decide), if_pos rfl]; exact ⟨wm.heap.size, rfl, by simp, own_madeB n wm.heap.size wm (Nat.le_refl _) (by omega) rfl⟩) (HS2.out _ ((Below.refl _ _).alloc (Nat.le_refl _) _)) ((Below.refl _ _).alloc (Nat.le_refl _) _)
        · exact HKX.out _ _ (by unfold Mkc; rw [if_neg (by decide), if_neg (by decide), if_neg (by decide)]; exact ⟨wm.heap.size, rfl, by simp, own_madeI n wm.heap.size wm (Nat.le_refl _) (by omega) rfl⟩) (HS2.out _ ((Below.refl _ _).alloc (Nat.le_refl _) _)) ((Below.refl _ _).alloc (Nat.le_refl _) _)
        · exact HKX.out _ _ (by unfold Mkc; rw [if_neg (by decide), if_neg (by decide), if_pos rfl]; exact ⟨wm.heap.size, rfl, Nat.le_refl _, by simp, heap_alloc_new wm (.cells zf 83)⟩) (HS2.out _ ((Below.refl _ _).alloc (Nat.le_refl _) _)) ((Below.refl _ _).alloc (Nat.le_refl _) _)
      · intro f lo hi wm hS hB hφ hdj
        have B01 := (Below.refl w1.heap.size w1).drew.trans (hB.mono (Nat.le_refl _))
        obtain ⟨m2, l2, k2⟩ := hφ (2, 17) (by simp)
        obtain ⟨m4, l4, k4⟩ := hφ (4, 19) (by simp)
        obtain ⟨m6, l6, k6⟩ := hφ (6, 21) (by simp)
        obtain ⟨m8, l8, k8⟩ := hφ (8, 23) (by simp)
        obtain ⟨m10, l10, k10⟩ := hφ (10, 25) (by simp)
        obtain ⟨m12, l12, k12⟩ := hφ (12, 6) (by simp)
        have d46 := hdj (4, 19) (by simp) (6, 21) (by simp) (by decide)
        have d410 := hdj (4, 19) (by simp) (10, 25) (by simp) (by decide)
        have d610 := hdj (6, 21) (by simp) (10, 25) (by simp) (by decide)
        have d24 := hdj (2, 17) (by simp) (4, 19) (by simp) (by decide)
        have d26 := hdj (2, 17) (by simp) (6, 21) (by simp) (by decide)
        have d210 := hdj (2, 17) (by simp) (10, 25) (by simp) (by decide)
        simp only at m2 l2 k2 m4 l4 k4 m6 l6 k6 m8 l8 k8 m10 l10 k10 d46 d410 d610 d24 d26 d210 m12 l12 k12
        unfold Mkc at m2 m4 m6 m8 m10 m12
        rw [if_pos rfl] at m2
        rw [if_neg (by decide), if_neg (by decide), if_neg (by decide)] at m4 m6 m10
        rw [if_neg (by decide), if_pos rfl] at m8
        rw [if_neg (by decide), if_neg (by decide), if_pos rfl] at m12
        obtain ⟨T, F, e17, htab, hT, hF⟩ := m2
        obtain ⟨SI, e19, hSI, oI⟩ := m4
        obtain ⟨SL, e21, hSL, oL⟩ := m6
        obtain ⟨SO, e23, hSO, oO⟩ := m8
        obtain ⟨SM, e25, hSM, oM⟩ := m10
        obtain ⟨Z, e6, hZl, hZh, hz⟩ := m12
        clear hφ
        simp only [putsF, mdst, List.map_cons, List.map_nil, List.foldl_cons, List.foldl_nil, Act.put, List.setIfInBounds_toArray, List.set_cons_zero, List.set_cons_succ, e17, e19, e21, e23, e25, e6]
        clear e17 e19 e21 e23 e25 e6
        have hI := (oI.base_ SI rfl).1
        have hL := (oL.base_ SL rfl).1
        have hM := (oM.base_ SM rfl).1
        have bz : w1.heap.size ≤ (World.drew w1).heap.size := Nat.le_refl _
        have hne : SI ≠ SL ∧ SI ≠ SM ∧ SL ≠ SM := ⟨fun e => by omega, fun e => by omega, fun e => by omega⟩
        have hFl : ∀ u, u < n → ∀ g, ob (F u).1 = some g → lo 2 ≤ g ∧ g < hi 2 := fun u hu g hg => ⟨((htab.own u hu).base_ g ((ob_eq ..).trans hg)).1, hF u hu g hg⟩
        have hsep : ∀ u, u < n → ob (F u).1 ≠ some SI ∧ ob (F u).1 ≠ some SL ∧ ob (F u).1 ≠ some SM ∧ ∀ g, ob (F u).1 = some g → ob none ≠ some g := fun u hu => ⟨fun e => by have h2 := hFl u hu _ e; omega, fun e => by have h2 := hFl u hu _ e; omega, fun e => by have h2 := hFl u hu _ e; omega, fun g _ e => by cases e⟩
        have htb := tab_mono htab (Nat.le_trans bz l2)
        have rI := row_zero (oI.mono (Nat.le_trans bz l4))
        have rL := row_zero (oL.mono (Nat.le_trans bz l6))
        have rM := row_zero (oM.mono (Nat.le_trans bz l10))
        have rO := row_false (oO.mono (Nat.le_trans bz l8))
        have hcm := cm_made (A := A) (c := c) (l := l) B01 hz (Nat.le_trans bz (Nat.le_trans l12 hZl)) htb rI rL rM rO hne hsep
        have hfr : ∀ i, wm.frozen? ⟨Z, i, none⟩ = false := fun i => blk_free hz i
        have hce := nine_cells hz
        obtain ⟨g0, g1, g2, g3, g4, g5, g6, g7, g8⟩ := hce
        have hzz := lt_of_block hz
        have hZw : w.heap.size < Z := by omega
        have HCM := Lib.hid hcm
        clear hcm hdj hsep hFl oI oL oO oM htab hF htb rI rL rM rO hB B01 d46 d410 d610 d24 d26 d210 hI hL hM hne hz
        have f0 := hfr 0
        have f1 := hfr 1
        have f2 := hfr 2
        have f3 := hfr 3
        have f4 := hfr 4
        have f5 := hfr 5
        have f6 := hfr 6
        have f7 := hfr 7
        have f8 := hfr 8
        refine Go.wpAnyH_take (fuel := 1) (i := 11) (oi := _) (v := ?_) rfl (by kernel_rfl) (by kernel_rfl) (by kernel_rfl) (fun _ _ _ h => h) (Or.inl ⟨by rfl, ?_⟩) (by assumption) ?_
        rotate_left
        · (intro w hSw; (try dsimp only at hSw); go_simp)
          try with_reducible rfl
        try simp only [Act.put, List.getElem_toArray, List.getElem_cons_succ, List.getElem_cons_zero, List.setIfInBounds_toArray, List.set_cons_zero, List.set_cons_succ]
        refine Go.wpAnyH_ready (fuel := 0) (rs := [13]) (by kernel_rfl) (by simp) ?_
        refine Go.AllReadyH.cons (o := _) rfl (fun K hK => ?_) Go.AllReadyH.nil
        have HKX2 := Lib.hid hK
        clear hK
        go_simp
        refine HKX2.out.out _ _ ?_ (fun hHeld3 => ?_)
        · exact nine_cell hS hZw
        · refine Go.wpAnyH_done (by kernel_rfl) ?_ _
          go_wp2
          go_meet
          exact ⟨_, rfl, Lib.hid ⟨SI, SL, SO, SM, T, F, HCM.out⟩⟩
      · intro f lo hi wm hS hB hφ hdj
        have B01 := (Below.refl w1.heap.size w1).drew.trans (hB.mono (Nat.le_refl _))
        obtain ⟨m2, l2, k2⟩ := hφ (2, 17) (by simp) (by decide)
        obtain ⟨m4, l4, k4⟩ := hφ (4, 19) (by simp) (by decide)
        obtain ⟨m6, l6, k6⟩ := hφ (6, 21) (by simp) (by decide)
        obtain ⟨m8, l8, k8⟩ := hφ (8, 23) (by simp) (by decide)
        obtain ⟨m10, l10, k10⟩ := hφ (10, 25) (by simp) (by decide)
        have d46 := hdj (4, 19) (by simp) (6, 21) (by simp) (by decide) (by decide) (by decide)
        have d410 := hdj (4, 19) (by simp) (10, 25) (by simp) (by decide) (by decide) (by decide)
        have d610 := hdj (6, 21) (by simp) (10, 25) (by simp) (by decide) (by decide) (by decide)
        have d24 := hdj (2, 17) (by simp) (4, 19) (by simp) (by decide) (by decide) (by decide)
        have d26 := hdj (2, 17) (by simp) (6, 21) (by simp) (by decide) (by decide) (by decide)
        have d210 := hdj (2, 17) (by simp) (10, 25) (by simp) (by decide) (by decide) (by decide)
        simp only at m2 l2 k2 m4 l4 k4 m6 l6 k6 m8 l8 k8 m10 l10 k10 d46 d410 d610 d24 d26 d210
        unfold Mkc at m2 m4 m6 m8 m10
        rw [if_pos rfl] at m2
        rw [if_neg (by decide), if_neg (by decide), if_neg (by decide)] at m4 m6 m10
        rw [if_neg (by decide), if_pos rfl] at m8
        obtain ⟨T, F, e17, htab, hT, hF⟩ := m2
        obtain ⟨SI, e19, hSI, oI⟩ := m4
        obtain ⟨SL, e21, hSL, oL⟩ := m6
        obtain ⟨SO, e23, hSO, oO⟩ := m8
        obtain ⟨SM, e25, hSM, oM⟩ := m10
        clear hφ
        simp only [putsF, mdst, List.map_cons, List.map_nil, List.foldl_cons, List.foldl_nil, Act.put, List.setIfInBounds_toArray, List.set_cons_zero, List.set_cons_succ, e17, e19, e21, e23, e25]
        clear e17 e19 e21 e23 e25
        have hI := (oI.base_ SI rfl).1
        have hL := (oL.base_ SL rfl).1
        have hM := (oM.base_ SM rfl).1
        have bz : w1.heap.size ≤ (World.drew w1).heap.size := Nat.le_refl _
        have hne : SI ≠ SL ∧ SI ≠ SM ∧ SL ≠ SM := ⟨fun e => by omega, fun e => by omega, fun e => by omega⟩
        have hFl : ∀ u, u < n → ∀ g, ob (F u).1 = some g → lo 2 ≤ g ∧ g < hi 2 := fun u hu g hg => ⟨((htab.own u hu).base_ g ((ob_eq ..).trans hg)).1, hF u hu g hg⟩
        have hsep : ∀ u, u < n → ob (F u).1 ≠ some SI ∧ ob (F u).1 ≠ some SL ∧ ob (F u).1 ≠ some SM ∧ ∀ g, ob (F u).1 = some g → ob none ≠ some g := fun u hu => ⟨fun e => by have h2 := hFl u hu _ e; omega, fun e => by have h2 := hFl u hu _ e; omega, fun e => by have h2 := hFl u hu _ e; omega, fun g _ e => by cases e⟩
        have htb := tab_mono htab (Nat.le_trans bz l2)
        have rI := row_zero (oI.mono (Nat.le_trans bz l4))
        have rL := row_zero (oL.mono (Nat.le_trans bz l6))
        have rM := row_zero (oM.mono (Nat.le_trans bz l10))
        have rO := row_false (oO.mono (Nat.le_trans bz l8))
        have hcm := cm_made (A := A) (c := c) (l := l) (w := wm.alloc (.cells zf 83)) (B01.alloc B01.size _) (heap_alloc_new wm (.cells zf 83)) B01.size (htb.alloc _) (rI.keep ((Below.refl _ _).alloc (Nat.le_refl _) _)) (rL.keep ((Below.refl _ _).alloc (Nat.le_refl _) _)) (rM.keep ((Below.refl _ _).alloc (Nat.le_refl _) _)) (rO.keep ((Below.refl _ _).alloc (Nat.le_refl _) _)) hne hsep
        have hfr : ∀ i, (wm.alloc (.cells zf 83)).frozen? ⟨wm.heap.size, i, none⟩ = false := fun i => blk_free (heap_alloc_new wm (.cells zf 83)) i
        have hce := nine_cells (heap_alloc_new wm (.cells zf 83))
        obtain ⟨g0, g1, g2, g3, g4, g5, g6, g7, g8⟩ := hce
        have hzz : wm.heap.size < (wm.alloc (.cells zf 83)).heap.size := by simp
        have hbx : w.heap.size < wm.heap.size := by have := B01.size; omega
        have hZw := hbx
        have HCM := Lib.hid hcm
        clear hcm hdj hsep hFl oI oL oO oM htab hF htb rI rL rM rO hB B01 d46 d410 d610 d24 d26 d210 hI hL hM hne
        have f0 := hfr 0
        have f1 := hfr 1
        have f2 := hfr 2
        have f3 := hfr 3
        have f4 := hfr 4
        have f5 := hfr 5
        have f6 := hfr 6
        have f7 := hfr 7
        have f8 := hfr 8
        refine Go.wpAnyH_take (fuel := 2) (i := 11) (oi := _) (v := ?_) rfl (by kernel_rfl) (by kernel_rfl) (by kernel_rfl) (fun _ _ _ h => h) (Or.inl ⟨by rfl, ?_⟩) (by assumption) ?_
        rotate_left
        · (intro w hSw; (try dsimp only at hSw); go_simp)
          try with_reducible rfl
        try simp only [Act.put, List.getElem_toArray, List.getElem_cons_succ, List.getElem_cons_zero, List.setIfInBounds_toArray, List.set_cons_zero, List.set_cons_succ]
        refine Go.wpAnyH_ready (fuel := 1) (rs := [12]) (by kernel_rfl) (by simp) ?_
        refine Go.AllReadyH.cons (o := _) rfl (fun K hK => ?_) Go.AllReadyH.nil
        have HKX := Lib.hid hK
        clear hK
        have hS2 : (wm.alloc (.cells zf 83)).cell? ⟨w.heap.size, 0, none⟩ = some (.int .i64 n) ∧ (wm.alloc (.cells zf 83)).cell? ⟨w.heap.size, 1, none⟩ = some (.slice A l.length c) := ⟨(((Below.refl wm.heap.size wm).alloc (Nat.le_refl _) _).cell (p := ⟨w.heap.size, 0, none⟩) hbx).trans hS.1, (((Below.refl wm.heap.size wm).alloc (Nat.le_refl _) _).cell (p := ⟨w.heap.size, 1, none⟩) hbx).trans hS.2⟩
        go_simp
        refine HKX.out.out _ _ hS2 (fun hHeld2 => ?_)
        change wpAnyH _ _ _ _ _ _ _ _ (wm.alloc (.cells zf 83))
        generalize wm.alloc (.cells zf 83) = wn at HCM g0 g1 g2 g3 g4 g5 g6 g7 g8 f0 f1 f2 f3 f4 f5 f6 f7 f8 hzz hS2 hHeld2 hfr ⊢
        try simp only [Act.put, List.getElem_toArray, List.getElem_cons_succ, List.getElem_cons_zero, List.setIfInBounds_toArray, List.set_cons_zero, List.set_cons_succ]
        refine Go.wpAnyH_ready (fuel := 0) (rs := [13]) (by kernel_rfl) (by simp) ?_
        refine Go.AllReadyH.cons (o := _) rfl (fun K hK => ?_) Go.AllReadyH.nil
        have HKX2 := Lib.hid hK
        clear hK
        go_simp
        refine HKX2.out.out _ _ ?_ (fun hHeld3 => ?_)
        · exact nine_cell hS2 hZw
        · refine Go.wpAnyH_done (by kernel_rfl) ?_ _
          go_wp2
          go_meet
          exact ⟨_, rfl, Lib.hid ⟨SI, SL, SO, SM, T, F, HCM.out⟩⟩
  case rest =>
    obtain ⟨Z, rfl, hmd⟩ := hcut
    obtain ⟨SI, SL, SO, SM, T, F, cm⟩ := hmd.out
    have kv := fun k s G v As ms cs W => visit_any w1 n A c l Z SI SL SO SM T F HG.out HSL1.out k s G v As ms cs W
    have KV := Lib.hid kv
    have CM0 := Lib.hid cm
    have H1H := Lib.hid H1
    have hsd0 : Sd n zs := ⟨by
      show (0 : Int) + (wh n (fun _ => 0) : Int) = n
      have : ∀ n, wh n (fun _ => 0) = n := fun n => by
        unfold wh
        rw [List.countP_eq_length.2 (fun _ _ => decide_eq_true rfl), List.length_range]
      rw [this]; omega, fun u _ => rfl⟩
    have SD0 := Lib.hid hsd0
    clear hmd kv cm q0 q1 KO HMK HMB HBOX hsd0
    go_upto_region 7 with fail
    go_loopw [28] (fun i wy => ∃ (k : Nat) (As : Option Addr) (ms cs : Nat) (s : TS), k ≤ n ∧ i = .int .i64 k ∧ CM w1 wy n A c l Z SI SL SO SM T F As ms cs s (onst s) ∧ Hid (TI l [] s) ∧ Hid (Sd n s) ∧ Hid (∀ u : Nat, u < k → s.ix u ≠ 0)) (fun i _ => n - (intOf i).toNat)
    case atStart => exact ⟨0, none, 0, 0, zs, Nat.zero_le _, rfl, CM0.out, Lib.hid (TI.zero l _ _), SD0, Lib.hid (fun u hu => absurd hu (Nat.not_lt_zero _))⟩
    case round =>
      clear CM0 SD0
      obtain ⟨k, As, ms, cs, s, hk, rfl, cm, TIH, SDH, VIS⟩ := hrel
      by_cases hlt : k < n
      · obtain ⟨⟨_, _, _, z3, _, _, _, _, _⟩, _, zl⟩ := cm_z cm
        obtain ⟨a0, _⟩ := cm.ix.cell hlt
        by_cases hz : s.ix k = 0
        · have kcall := KV.out (wh n s.ix) s [] k As ms cs wr (Nat.le_refl _) hlt hz TIH.out (fun g hg => by cases hg) SDH.out cm
          rw [hz] at a0
          have KCALL := Lib.hid kcall
          clear kcall cm hz
          go_wp2_with fail
          refine KCALL.out.mono ?_
          rintro e w2 ⟨⟨r, rfl⟩, As2, ms2, cs2, s2, cm2, vp, sd2⟩
          have VIS2 := Lib.hid (fun u (hu : u < k + 1) => (by
            by_cases e : u = k
            · subst e; exact vp.me
            · have h1 := VIS.out u (by omega)
              rw [(vp.old u h1).1]; exact h1 : s2.ix (u : Int) ≠ 0))
          have TI2 := Lib.hid vp.ti
          have SD2 := Lib.hid sd2
          have CM2 := Lib.hid cm2
          clear vp sd2 cm2 KCALL z3 zl a0
          go_wp2
          go_roundw
          case rel => exact ⟨k + 1, As2, ms2, cs2, s2, by omega, by go_num, CM2.out, TI2, SD2, VIS2⟩
          case measure => simp [intOf]; omega
        · have hze : (s.ix k == 0) = false := by rw [beq_eq_false_iff_ne]; exact hz
          have VIS2 := Lib.hid (fun u (hu : u < k + 1) => (by
            by_cases e : u = k
            · subst e; exact hz
            · exact VIS.out u (by omega) : s.ix (u : Int) ≠ 0))
          have CM2 := Lib.hid cm
          generalize s.ix k = q at a0 hze
          clear cm hz
          go_wp2
          go_roundw
          case rel => exact ⟨k + 1, As, ms, cs, s, by omega, by go_num, CM2.out, TIH, SDH, VIS2⟩
          case measure => simp [intOf]; omega
      · obtain rfl : n = k := by omega
        obtain ⟨⟨_, _, _, _, _, _, _, _, z8⟩, _, zl⟩ := cm_z cm
        obtain ⟨L, hL1, hL2, hL3⟩ := cm.le
        have hlo := cm.lo
        have fin : OfSays n l w (.returned (.tuple #[.slice (some ⟨SM, 0, none⟩) n n, .int .i64 0])) wr := ⟨SM, L, rfl, hL1.mono H1H.out.size, Lib.hid hL2, Lib.hid (fun v hv => by rw [hL3 v hv]; exact TIH.out.done (VIS.out v hv)), H1H.out.trans (hlo.mono H1H.out.size)⟩
        have FIN := Lib.hid fin
        clear fin hL1 hL2 hL3 hlo cm hlt hk TIH SDH VIS
        go_wp2
        go_ret2
        exact FIN.out
set_option maxHeartbeats 1000000 in
theorem of_no (N : Int) (A : Option Addr) (c : Nat) (l : List E) (w : World) (hl : Sl w w.heap.size 3 ce A l) (hlen : l.length ≤ 9223372036854775807) (hg : chk N l ≠ 0) :
    Calls Try.prog 15 #[.agg #[.int .i64 N, .slice A l.length c]] w fun e w' => e = .returned (.tuple #[.slice none 0 0, .int .i64 (chk N l)]) ∧ Below w.heap.size w w' := by
  have hw0 : Below w.heap.size w (w.alloc (.cells #[.int .i64 N, .slice A l.length c] 24)) := (Below.refl _ _).alloc (Nat.le_refl _) _
  have key := check_any N A c l _ ((hl.keep hw0 (Nat.le_refl _)).more (show w.heap.size ≤ (w.alloc (.cells #[.int .i64 N, .slice A l.length c] 24)).heap.size by simp)) hlen
  have hne : (chk N l != 0) = true := by rw [bne_iff_ne]; exact hg
  generalize chk N l = er at *
  have KEY := Lib.hid key
  clear key hl hg
  go_enter Try.func15, Try.ntmps15
  go_wp2_with fail
  refine KEY.out.mono ?_
  rintro e w1 ⟨rfl, hb1⟩
  have H1 := hw0.trans (hb1.mono (by simp))
  go_wp2
  go_ret2
  exact ⟨rfl, H1⟩
end Go.Proofs.Ytjhnlkmdkjlkdaa.Comp
