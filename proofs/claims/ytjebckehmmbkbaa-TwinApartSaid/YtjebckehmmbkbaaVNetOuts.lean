/- The walk of net.Outs. -/
import Derived.Test.YtjebckehmmbkbaaVNetTurn
import Derived.Test.YtjebckehmmbkbaaVRowSet
import Derived.Deep.OwnRows
import Derived.BigRegion
import Derived.BigQuiet
namespace Go.Proofs.Ytjebckehmmbkbaa.Net
open Go.RowKit Go.Proofs.Ytjebckehmmbkbaa NetLaw
set_option linter.unusedSimpArgs false
set_option linter.unusedVariables false

theorem infoIntO : (Try.prog.info? 3).map (fun i => (i.zero, i.size, i.bytes)) = some (some (.int .i64 0), 1, 8) := by kernel_rfl
def upd {β : Type} (F : Nat → β) (f : Nat) (y : β) : Nat → β := fun v => if v = f then y else F v
theorem upd_eq {β : Type} (F : Nat → β) (f : Nat) (y : β) : upd F f y f = y := by simp [upd]
theorem upd_ne {β : Type} (F : Nat → β) {f v : Nat} (y : β) (h : v ≠ f) : upd F f y v = F v := by simp [upd, h]
/-- a table of rows: S its block, F where each row lies and its room, Ls what each reads as -/
structure Tab (w : World) (base S n : Nat) (F : Nat → Option Addr × Nat) (Ls : Nat → List Int) : Prop where
  lo : base ≤ S
  blk : ∃ cs : Array Value, w.heap[S]? = some (.cells cs 29 (0, 0)) ∧ cs.size = n ∧ ∀ v, v < n → cs[v]? = some (.slice (F v).1 (Ls v).length (F v).2)
  own : ∀ v, v < n → Own w base 3 1 ci (.slice (F v).1 (Ls v).length (F v).2) (Ls v)
  sep : ∀ u v, u < n → v < n → u ≠ v → ∀ g, (Value.slice (F u).1 0 0).ownBlock = some g → (Value.slice (F v).1 0 0).ownBlock ≠ some g
theorem obs (A : Option Addr) (n m c d : Nat) : (Value.slice A n c).ownBlock = (Value.slice A m d).ownBlock := by cases A <;> rfl
section
variable {w w4 : World} {base S n : Nat} {F : Nat → Option Addr × Nat} {Ls : Nat → List Int}
theorem Tab.lt (h : Tab w base S n F Ls) : S < w.heap.size := by obtain ⟨cs, hb, _⟩ := h.blk; exact lt_of_block hb
theorem Tab.cell (h : Tab w base S n F Ls) {v : Nat} (hv : v < n) : w.cell? ⟨S, v, none⟩ = some (.slice (F v).1 (Ls v).length (F v).2) ∧ w.frozen? ⟨S, v, none⟩ = false := by
  obtain ⟨cs, hb, _, hc⟩ := h.blk
  exact ⟨(blk_cell hb v).trans (hc v hv), blk_free hb v⟩
theorem Tab.ne (h : Tab w base S n F Ls) {v : Nat} (hv : v < n) (x c : Nat) : (Value.slice (F v).1 x c).ownBlock ≠ some S := by
  obtain ⟨cs, hb, _⟩ := h.blk
  rw [obs _ x (Ls v).length c (F v).2]
  exact (h.own v hv).ne_ hb (by decide)
theorem Tab.alloc (h : Tab w base S n F Ls) (o : Obj) : Tab (w.alloc o) base S n F Ls := by
  obtain ⟨cs, hb, hs, hc⟩ := h.blk
  exact ⟨h.lo, ⟨cs, blk_alloc hb o, hs, hc⟩, fun v hv => (h.own v hv).alloc o, h.sep⟩
theorem Tab.drew (h : Tab w base S n F Ls) : Tab w.drew base S n F Ls := ⟨h.lo, h.blk, h.own, h.sep⟩
theorem Tab.keep (h : Tab w base S n F Ls) (hb : Below w.heap.size w w4) : Tab w4 base S n F Ls := by
  obtain ⟨cs, hk, hs, hc⟩ := h.blk
  exact ⟨h.lo, ⟨cs, blk_below hk hb (lt_of_block hk), hs, hc⟩, fun v hv => (h.own v hv).keep hb, h.sep⟩
theorem Tab.step (h : Tab w base S n F Ls) {f m c' : Nat} {A' : Option Addr} {z : Int} (hf : f < n) (hm : (Ls f).length = m) (hg : w.grownBy w4 (Value.slice (F f).1 0 0).ownBlock) (ho : Own w4 base 3 1 ci (.slice A' (m + 1) c') (Ls f ++ [z]))
    (hat : (Value.slice A' 0 0).ownBlock = (Value.slice (F f).1 0 0).ownBlock ∨ ∃ g, (Value.slice A' 0 0).ownBlock = some g ∧ w.heap.size ≤ g) :
    Tab (w4.setCell ⟨S, f, none⟩ (.slice A' (m + 1) c')) base S n (upd F f (A', c')) (upd Ls f (Ls f ++ [z])) := by
  obtain ⟨cs, hb, hs, hc⟩ := h.blk
  have hb4 := blk_grown hb hg (h.ne hf 0 0)
  have hl : (upd Ls f (Ls f ++ [z]) f).length = m + 1 := by rw [upd_eq]; simp [hm]
  refine ⟨h.lo, ⟨cs.setIfInBounds f (.slice A' (m + 1) c'), blk_set hb4 f _, by simpa using hs, fun v hv => ?_⟩, fun v hv => ?_, fun u v hu hv huv g hgu => ?_⟩
  · by_cases e : v = f
    · subst e
      rw [upd_eq, upd_eq, Array.getElem?_setIfInBounds_self_of_lt (by omega)]
      simp [hm]
    · rw [upd_ne _ _ e, upd_ne _ _ e, Array.getElem?_setIfInBounds_ne (fun x => e x.symm)]
      exact hc v hv
  · by_cases e : v = f
    · subst e
      rw [upd_eq, upd_eq]
      have : (Ls v ++ [z]).length = m + 1 := by simp [hm]
      rw [this]
      exact ho.setCell (ho.ne_ hb4 (by decide)) _
    · rw [upd_ne _ _ e, upd_ne _ _ e]
      have hk := (h.own v hv).kept hg (by
        cases hx : (Value.slice (F v).1 (Ls v).length (F v).2).ownBlock with
        | none => exact .inl rfl
        | some g => exact .inr (fun e2 => h.sep v f hv hf e g ((obs ..).trans hx) e2.symm))
      exact hk.setCell (hk.ne_ hb4 (by decide)) _
  · have key : ∀ v, v < n → v ≠ f → ∀ g, (Value.slice A' 0 0).ownBlock = some g → (Value.slice (F v).1 0 0).ownBlock ≠ some g := fun v hv hvf g hg1 hg2 => by
      rcases hat with h1 | ⟨g', h1, h2⟩
      · exact h.sep f v hf hv (fun e => hvf e.symm) g (h1.symm.trans hg1) hg2
      · rw [h1] at hg1
        injection hg1 with hg1
        have := ((h.own v hv).base_ g ((obs ..).trans hg2)).2
        omega
    by_cases e1 : u = f
    · subst e1
      have e2 : v ≠ u := fun e => huv e.symm
      rw [upd_eq] at hgu
      rw [upd_ne _ _ e2]
      exact key v hv e2 g hgu
    · rw [upd_ne _ _ e1] at hgu
      by_cases e2 : v = f
      · subst e2
        rw [upd_eq]
        exact fun hx => key u hu e1 g hx hgu
      · rw [upd_ne _ _ e2]
        exact h.sep u v hu hv huv g hgu
end
theorem news1' {w : World} {e : TypeId} {x : Int} {g : Nat} (hg : w.heap.size = g) : ∀ j, j < 1 → (w.alloc (.cells #[.int .i64 x] e)).cell? ⟨g, j, none⟩ = some (ci x j) := by
  subst hg
  exact news1
/-- the numbers of the first k edges that leave v -/
def ol (l : List E) (k v : Nat) : List Int := ((List.range k).filter fun i => (l.getD i (0, 0, 0)).1 == (v : Int)).map fun i => ((i : Nat) : Int)
theorem ol_zero (l : List E) (v : Nat) : ol l 0 v = [] := rfl
theorem ol_succ (l : List E) (k v : Nat) : ol l (k + 1) v = if (l.getD k (0, 0, 0)).1 = (v : Int) then ol l k v ++ [(k : Int)] else ol l k v := by
  unfold ol
  rw [List.range_succ, List.filter_append, List.map_append]
  by_cases h : (l.getD k (0, 0, 0)).1 = (v : Int)
  · have hp : ((l.getD k (0, 0, 0)).1 == (v : Int)) = true := by rw [beq_iff_eq]; exact h
    rw [if_pos h, List.filter_cons, List.filter_nil, if_pos hp]
    rfl
  · have hp : ¬ ((l.getD k (0, 0, 0)).1 == (v : Int)) = true := by rw [beq_iff_eq]; exact h
    rw [if_neg h, List.filter_cons, List.filter_nil, if_neg hp]
    simp
theorem ol_len (l : List E) (k v : Nat) : (ol l k v).length ≤ k := by
  unfold ol
  rw [List.length_map]
  exact Nat.le_trans (List.length_filter_le ..) (by simp)

/-- a net whose costs may be greater -/
structure Wide (N : Int) (l : List E) : Prop where
  hi : N ≤ 64
  len : l.length ≤ 6000
  ends : ∀ e ∈ l, 0 ≤ e.1 ∧ e.1 < N ∧ 0 ≤ e.2.1 ∧ e.2.1 < N
  cost : ∀ e ∈ l, -1000000000 ≤ e.2.2 ∧ e.2.2 ≤ 1000000000
theorem Wide.of {N : Int} {l : List E} (h : NetLaw.Good N l) : Wide N l := ⟨h.hi, by have := h.len; omega, h.ends, fun e he => by have := h.cost e he; omega⟩

set_option maxRecDepth 100000 in
set_option maxHeartbeats 4000000 in
theorem outs_wide (n : Nat) (A : Option Addr) (c : Nat) (l : List E) (w : World) (hl : Sl w w.heap.size 3 ce A l) (hg : Wide n l) :
    Calls Try.prog 29 #[.agg #[.int .i64 n, .slice A l.length c]] w fun e w' => ∃ S F, e = .returned (.slice (some ⟨S, 0, none⟩) n n) ∧ Tab w' w.heap.size S n F (ol l l.length) ∧ Below w.heap.size w w' := by
  obtain ⟨i0, hi, hz0, hz1, hz2⟩ := info_parts infoIntO
  have hN := hg.hi
  have hlen := hg.len
  have hends := hg.ends
  have hmk : ∀ w, (Instr.makeSlice 44 (.int .i64 (n : Int)) (.int .i64 (n : Int))).run Try.prog w = .ok (.slice (some ⟨w.heap.size, 0, none⟩) n n) (w.alloc (.cells (madeCells #[.slice none 0 0] n) 29)) :=
    run_make_row' (P := Try.prog) 44 29 (.slice none 0 0) 24 Try.underlying44 (by kernel_rfl) rfl .i64 .i64 n (by omega) (by omega)
  have tab0 : Tab ((w.alloc (.cells #[.int .i64 n, .slice A l.length c] 24)).alloc (.cells (madeCells #[.slice none 0 0] n) 29)) w.heap.size (w.heap.size + 1) n (fun _ => (none, 0)) (ol l 0) := by
    refine ⟨by omega, ⟨madeCells #[.slice none 0 0] n, ?_, by simp [madeCells], fun v hv => ?_⟩, fun v hv => ?_, fun u v hu hv huv g hgu => by cases hgu⟩
    · have h := heap_alloc_new (w.alloc (.cells #[.int .i64 n, .slice A l.length c] 24)) (.cells (madeCells #[.slice none 0 0] n) 29)
      simp at h ⊢
      exact h
    · simp [madeCells, ol, hv, Nat.mod_one]
    · exact Own.nil_
  have TAB0 := Lib.hid tab0
  have HE := Lib.hid hends
  clear tab0 hends hg
  go_enter Try.func29, Try.ntmps29
  go_wp2
  go_loopw [12] (fun i wr => ∃ (k : Nat) (F : Nat → Option Addr × Nat), k ≤ l.length ∧ i = .int .i64 k ∧ Tab wr w.heap.size (w.heap.size + 1) n F (ol l k) ∧ Below w.heap.size w wr) (fun i _ => l.length - (intOf i).toNat)
  case atStart => exact ⟨0, _, Nat.zero_le _, rfl, TAB0.out, ((Below.refl _ _).alloc (Nat.le_refl _) _).alloc (by simp) _⟩
  case round =>
    obtain ⟨k, F, hk, rfl, ht, hB⟩ := hrel
    clear TAB0
    by_cases hlt : k < l.length
    · obtain ⟨b, off, f, t, co, rfl, hbB, he, hcf, hct, hcc⟩ := (hl.keep hB (Nat.le_refl _)).atE hlt
      have hen := HE.out _ (List.getElem_mem hlt)
      rw [he] at hen
      obtain ⟨f0, f1, _, _⟩ := hen
      simp only at f0 f1
      obtain ⟨f, rfl⟩ := Int.eq_ofNat_of_zero_le f0
      have hfn : f < n := by omega
      obtain ⟨sc, sf⟩ := ht.cell hfn
      have hSl := ht.lt
      have hSl2 : w.heap.size < wr.heap.size := by omega
      have hSl3 : w.heap.size + 1 < wr.heap.size + 1 := by omega
      have hown := ht.own f hfn
      have hne := ht.ne hfn (ol l k f).length (F f).2
      have hz := hB.size
      obtain ⟨cs, hbk, hcs, hcv⟩ := ht.blk
      have hcv' := hcv f hfn
      have hb0 := blk_alloc (blk_alloc hbk (.cells #[.int .i64 f, .int .i64 t, .int .i64 co] 48)) (.cells #[.int .i64 k] 3)
      have hst : ∀ v, ol l (k + 1) v = upd (ol l k) f (ol l k f ++ [(k : Int)]) v := fun v => by
        rw [ol_succ, List.getD_eq_getElem?_getD, List.getElem?_eq_getElem hlt, Option.getD_some, he]
        by_cases e : v = f
        · subst e; rw [upd_eq, if_pos rfl]
        · rw [upd_ne _ _ e, if_neg (by simp only; omega)]
      obtain ⟨m, hm⟩ : ∃ m, (ol l k f).length = m := ⟨_, rfl⟩
      have hm6 : m ≤ 6000 := by have := ol_len l k f; omega
      rw [hm] at sc hown hne hcv'
      clear hcv hbk
      have HT := Lib.hid ht
      have HST := Lib.hid hst
      have HM := Lib.hid hm
      generalize hA1 : (F f).1 = A1 at *
      generalize hC1 : (F f).2 = C1 at *
      have HA1 := Lib.hid hA1
      have hneE : (Value.slice A1 m C1).ownBlock ≠ some wr.heap.size := fun e => Nat.lt_irrefl _ (hown.base_ _ e).2
      have hbE := blk_alloc (heap_alloc_new wr (.cells #[.int .i64 f, .int .i64 t, .int .i64 co] 48)) (.cells #[.int .i64 k] 3)
      clear ht hst hm he hA1 hC1 f0 f1 hl
      go_wp2
      go_region_law (refine step_push _ rfl (.tmp 24) (.tmp 26) _ rfl w.heap.size 3 i0 _ 1 8 ci Try.underlying29 hi hz0 hz1 hz2 rfl (by decide) _ (ol l k f) m HM.out rfl ((hown.alloc _).alloc _) (wr.heap.size + 1) 1 (k : Int) rfl (news1' (by simp)) (fun _ _ => one_ci _ _) (by omega) (by omega) (by simp <;> omega) ?_; intro A3 c3 w4 hown3 hgrow3 hat3; have hH4 : w4.heap[w.heap.size + 1]? = some (.cells cs 29 (0, 0)) := (hgrow3.block _ (by simp; omega) (fun e => hne e.symm)).trans hb0; have s4 : w4.cell? ⟨w.heap.size + 1, f, none⟩ = some (.slice A1 m C1) := (blk_cell hH4 f).trans hcv'; have s5 : w4.frozen? ⟨w.heap.size + 1, f, none⟩ = false := blk_free hH4 f; have hE4 : w4.heap[wr.heap.size]? = some (.cells #[.int .i64 f, .int .i64 t, .int .i64 co] 48 (0, 0)) := (hgrow3.block _ (by simp; omega) (fun e => hneE e.symm)).trans hbE; have s6 : w4.cell? ⟨wr.heap.size, 0, none⟩ = some (.int .i64 f) := blk_cell hE4 0)
      all_goals
        have hg3 := hgrow3
        change World.grownBy _ _ (Value.slice A1 m C1).ownBlock at hg3
        rw [obs A1 m 0 C1 0, ← HA1.out] at hg3
        have hat4 : (Value.slice A3 0 0).ownBlock = (Value.slice (F f).1 0 0).ownBlock ∨ ∃ g, (Value.slice A3 0 0).ownBlock = some g ∧ wr.heap.size + 1 + 1 ≤ g := by
          rcases hat3 with h1 | h1
          · left
            change (Value.slice A3 (m + 1) c3).ownBlock = (Value.slice A1 m C1).ownBlock at h1
            rw [HA1.out, obs A3 0 (m + 1) 0 c3, obs A1 0 m 0 C1]
            exact h1
          · right
            exact ⟨_, (obs A3 0 (m + 1) 0 c3).trans h1, by simp⟩
        have htab := Tab.step (w4 := w4) (by first | exact (((HT.out.alloc _).alloc _).drew) | exact ((HT.out.alloc _).alloc _)) hfn HM.out hg3 hown3 (by simpa using hat4)
        rw [← (funext HST.out : ol l (k + 1) = _)] at htab
        have hB4 : Below w.heap.size w w4 := by first | exact (((hB.alloc hz _).alloc (by simp; omega) _).drew).grown hgrow3 (by simp; omega) hown.lo | exact ((hB.alloc hz _).alloc (by simp; omega) _).grown hgrow3 (by simp; omega) hown.lo
        have HTAB := Lib.hid htab
        clear hgrow3 hat3 hg3 hat4 htab hb0 hcv' hH4 s4 s5 s6 hE4 hown hown3
        go_wp2
        go_roundw
        case' rel => exact ⟨k + 1, _, by omega, by go_num, HTAB.out, hB4.setCell (by dsimp only; omega) _⟩
        case' measure => simp [intOf]; omega
    · obtain rfl : k = l.length := by omega
      have HT := Lib.hid ht
      clear ht hl
      go_wp2
      go_ret
      exact ⟨w.heap.size + 1, F, rfl, HT.out, hB⟩
theorem outs_any (n : Nat) (A : Option Addr) (c : Nat) (l : List E) (w : World) (hl : Sl w w.heap.size 3 ce A l) (hg : NetLaw.Good n l) :
    Calls Try.prog 29 #[.agg #[.int .i64 n, .slice A l.length c]] w fun e w' => ∃ S F, e = .returned (.slice (some ⟨S, 0, none⟩) n n) ∧ Tab w' w.heap.size S n F (ol l l.length) ∧ Below w.heap.size w w' := outs_wide n A c l w hl (Wide.of hg)
end Go.Proofs.Ytjebckehmmbkbaa.Net
