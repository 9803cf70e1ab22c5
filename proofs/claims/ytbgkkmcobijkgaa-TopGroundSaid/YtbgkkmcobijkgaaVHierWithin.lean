/- The walk of hier.within: the edges within squares, and those between. -/
import Derived.Test.YtbgkkmcobijkgaaVHierWalks
import Derived.Test.YtbgkkmcobijkgaaVNetOf
import Derived.Deep.RegionHeld3
import Derived.Deep.CutRange
namespace Go.Proofs.Ytbgkkmcobijkgaa.Hier
open Go.RowKit Go.Proofs.Ytbgkkmcobijkgaa GridLaw GroundLaw HierLaw Go.Proofs.Ytbgkkmcobijkgaa.Grid Go.Proofs.Ytbgkkmcobijkgaa.Net Go.Proofs.Ytbgkkmcobijkgaa.NetOf
set_option linter.unusedSimpArgs false
set_option linter.unusedVariables false
abbrev ob (A : Option Addr) : Option Nat := (Value.slice A 0 0).ownBlock
theorem obs (A : Option Addr) (n c : Nat) : (Value.slice A n c).ownBlock = ob A := by cases A <;> rfl
/-- within's memory: the ground's box, the two nets it makes, all edges -/
structure Wn (w0 w : World) (G : Array Value) (N : Int) (A : Option Addr) (m c : Nat) (all : List E) (A4 : Option Addr) (p4 c4 : Nat) (L4 : List E) (A5 : Option Addr) (p5 c5 : Nat) (L5 : List E) : Prop where
  box : w.heap[w0.heap.size]? = some (.cells G 24 (0, 0))
  r4 : w.heap[w0.heap.size + 1]? = some (.cells #[.int .i64 N, .slice A4 p4 c4] 32 (0, 0))
  r5 : w.heap[w0.heap.size + 1 + 1]? = some (.cells #[.int .i64 N, .slice A5 p5 c5] 32 (0, 0))
  o : Own w w0.heap.size 37 3 ce (.slice A m c) all
  o4 : Own w w0.heap.size 37 3 ce (.slice A4 p4 c4) L4
  o5 : Own w w0.heap.size 37 3 ce (.slice A5 p5 c5) L5
  n4 : L4.length = p4
  n5 : L5.length = p5
  d4 : ∀ g, ob A4 = some g → ob A ≠ some g
  d5 : ∀ g, ob A5 = some g → ob A ≠ some g
  d45 : ∀ g, ob A4 = some g → ob A5 ≠ some g
  below : Below w0.heap.size w0 w
section
variable {w0 w w' : World} {G : Array Value} {N : Int} {A : Option Addr} {m c : Nat} {all : List E} {A4 : Option Addr} {p4 c4 : Nat} {L4 : List E} {A5 : Option Addr} {p5 c5 : Nat} {L5 : List E}
theorem Wn.keep (h : Wn w0 w G N A m c all A4 p4 c4 L4 A5 p5 c5 L5) (hb : Below w.heap.size w w') : Wn w0 w' G N A m c all A4 p4 c4 L4 A5 p5 c5 L5 :=
  ⟨blk_below h.box hb (lt_of_block h.box), blk_below h.r4 hb (lt_of_block h.r4), blk_below h.r5 hb (lt_of_block h.r5), h.o.keep hb, h.o4.keep hb, h.o5.keep hb, h.n4, h.n5, h.d4, h.d5, h.d45, h.below.trans (hb.mono h.below.size)⟩
theorem kpt {α : Type} {b : Nat} {e : TypeId} {sz : Nat} {cell : α → Nat → Value} {A : Option Addr} {n c : Nat} {l : List α} {r : Option Nat} (h : Own w b e sz cell (.slice A n c) l) (hg : w.grownBy w' r) (hr : ∀ g, ob A = some g → r ≠ some g) : Own w' b e sz cell (.slice A n c) l := by
  refine h.kept hg ?_
  rw [obs]
  cases hA : ob A with
  | none => exact .inl rfl
  | some g => exact .inr (fun e => hr g hA e.symm)
theorem Wn.push4 {A' : Option Addr} {c' : Nat} {e : E} (h : Wn w0 w G N A m c all A4 p4 c4 L4 A5 p5 c5 L5) (hg : w.grownBy w' (Value.slice A4 p4 c4).ownBlock) (ho : Own w' w0.heap.size 37 3 ce (.slice A' (p4 + 1) c') (L4 ++ [e]))
    (hat : (Value.slice A' (p4 + 1) c').ownBlock = (Value.slice A4 p4 c4).ownBlock ∨ (Value.slice A' (p4 + 1) c').ownBlock = some w.heap.size) :
    Wn w0 (w'.setCell ⟨w0.heap.size + 1, 1, none⟩ (.slice A' (p4 + 1) c')) G N A m c all A' (p4 + 1) c' (L4 ++ [e]) A5 p5 c5 L5 := by
  have b0 := blk_grown h.box hg (h.o4.ne_ h.box (by decide))
  have b4 := blk_grown h.r4 hg (h.o4.ne_ h.r4 (by decide))
  have b5 := blk_grown h.r5 hg (h.o4.ne_ h.r5 (by decide))
  rw [obs] at hg hat
  rw [obs] at hat
  have o' := kpt h.o hg (fun g hA e => h.d4 g e hA)
  have o5' := kpt h.o5 hg (fun g hA e => h.d45 g e hA)
  have hnew : ∀ g, ob A' = some g → ob A4 = some g ∨ g = w.heap.size := fun g hA => by
    rcases hat with x | x
    · exact .inl (x ▸ hA)
    · rw [x] at hA
      injection hA with hA
      exact .inr hA.symm
  have hlt : ∀ (B : Option Addr) (n k : Nat) (l : List E), Own w w0.heap.size 37 3 ce (.slice B n k) l → ob B ≠ some w.heap.size := fun B n k l hO e => by
    have := (hO.base_ w.heap.size (by rw [obs]; exact e)).2
    omega
  refine ⟨blk_far b0 (by dsimp only; omega) _, blk_set b4 1 _, blk_far b5 (by dsimp only; omega) _, o'.setCell (o'.ne_ b4 (by decide)) _, ho.setCell (ho.ne_ b4 (by decide)) _, o5'.setCell (o5'.ne_ b4 (by decide)) _, by rw [List.length_append, h.n4]; rfl, h.n5, fun g hA => ?_, h.d5, fun g hA => ?_, ?_⟩
  · rcases hnew g hA with x | x
    · exact h.d4 g x
    · rw [x]
      exact hlt A m c all h.o
  · rcases hnew g hA with x | x
    · exact h.d45 g x
    · rw [x]
      exact hlt A5 p5 c5 L5 h.o5
  · exact (h.below.grown hg h.below.size (fun k hk => h.o4.lo k (by rw [obs]; exact hk))).setCell (p := ⟨w0.heap.size + 1, 1, none⟩) (by dsimp only; omega) _
theorem Wn.push5 {A' : Option Addr} {c' : Nat} {e : E} (h : Wn w0 w G N A m c all A4 p4 c4 L4 A5 p5 c5 L5) (hg : w.grownBy w' (Value.slice A5 p5 c5).ownBlock) (ho : Own w' w0.heap.size 37 3 ce (.slice A' (p5 + 1) c') (L5 ++ [e]))
    (hat : (Value.slice A' (p5 + 1) c').ownBlock = (Value.slice A5 p5 c5).ownBlock ∨ (Value.slice A' (p5 + 1) c').ownBlock = some w.heap.size) :
    Wn w0 (w'.setCell ⟨w0.heap.size + 1 + 1, 1, none⟩ (.slice A' (p5 + 1) c')) G N A m c all A4 p4 c4 L4 A' (p5 + 1) c' (L5 ++ [e]) := by
  have b0 := blk_grown h.box hg (h.o5.ne_ h.box (by decide))
  have b4 := blk_grown h.r4 hg (h.o5.ne_ h.r4 (by decide))
  have b5 := blk_grown h.r5 hg (h.o5.ne_ h.r5 (by decide))
  rw [obs] at hg hat
  rw [obs] at hat
  have o' := kpt h.o hg (fun g hA e => h.d5 g e hA)
  have o4' := kpt h.o4 hg (fun g hA e => h.d45 g hA e)
  have hnew : ∀ g, ob A' = some g → ob A5 = some g ∨ g = w.heap.size := fun g hA => by
    rcases hat with x | x
    · exact .inl (x ▸ hA)
    · rw [x] at hA
      injection hA with hA
      exact .inr hA.symm
  have hlt : ∀ (B : Option Addr) (n k : Nat) (l : List E), Own w w0.heap.size 37 3 ce (.slice B n k) l → ob B ≠ some w.heap.size := fun B n k l hO e => by
    have := (hO.base_ w.heap.size (by rw [obs]; exact e)).2
    omega
  refine ⟨blk_far b0 (by dsimp only; omega) _, blk_far b4 (by dsimp only; omega) _, blk_set b5 1 _, o'.setCell (o'.ne_ b5 (by decide)) _, o4'.setCell (o4'.ne_ b5 (by decide)) _, ho.setCell (ho.ne_ b5 (by decide)) _, h.n4, by rw [List.length_append, h.n5]; rfl, h.d4, fun g hA => ?_, fun g hA e => ?_, ?_⟩
  · rcases hnew g hA with x | x
    · exact h.d5 g x
    · rw [x]
      exact hlt A m c all h.o
  · rcases hnew g e with x | x
    · exact h.d45 g hA x
    · rw [x] at hA
      exact hlt A4 p4 c4 L4 h.o4 hA
  · exact (h.below.grown hg h.below.size (fun k hk => h.o5.lo k (by rw [obs]; exact hk))).setCell (p := ⟨w0.heap.size + 1 + 1, 1, none⟩) (by dsimp only; omega) _
theorem Wn.startA (hQ : w.heap[w0.heap.size]? = some (.cells G 24 (0, 0))) (h4 : w.heap[w0.heap.size + 1]? = some (.cells #[.int .i64 0, .slice none 0 0] 32 (0, 0))) (h5 : w.heap[w0.heap.size + 1 + 1]? = some (.cells #[.int .i64 0, .slice none 0 0] 32 (0, 0)))
    (o : Own w w0.heap.size 37 3 ce (.slice A m c) all) (hb : Below w0.heap.size w0 w) (N : Int) :
    Wn w0 ((w.setCell ⟨w0.heap.size + 1, 0, none⟩ (.int .i64 N)).setCell ⟨w0.heap.size + 1 + 1, 0, none⟩ (.int .i64 N)) G N A m c all none 0 0 [] none 0 0 [] :=
  ⟨blk_far (blk_far hQ (by dsimp only; omega) _) (by dsimp only; omega) _, blk_far (blk_set h4 0 _) (by dsimp only; omega) _, blk_set (blk_far h5 (by dsimp only; omega) _) 0 _, (o.setCell (o.ne_ h4 (by decide)) _).setCell (o.ne_ h5 (by decide)) _, Own.nil_, Own.nil_, rfl, rfl, fun g h => by simp [ob, Value.ownBlock] at h, fun g h => by simp [ob, Value.ownBlock] at h, fun g h => by simp [ob, Value.ownBlock] at h, (hb.setCell (p := ⟨w0.heap.size + 1, 0, none⟩) (by dsimp only; omega) _).setCell (p := ⟨w0.heap.size + 1 + 1, 0, none⟩) (by dsimp only; omega) _⟩
theorem Wn.startB (hQ : w.heap[w0.heap.size]? = some (.cells G 24 (0, 0))) (h4 : w.heap[w0.heap.size + 1]? = some (.cells #[.int .i64 0, .slice none 0 0] 32 (0, 0))) (h5 : w.heap[w0.heap.size + 1 + 1]? = some (.cells #[.int .i64 0, .slice none 0 0] 32 (0, 0)))
    (o : Own w w0.heap.size 37 3 ce (.slice A m c) all) (hb : Below w0.heap.size w0 w) (N : Int) :
    Wn w0 ((w.setCell ⟨w0.heap.size + 1 + 1, 0, none⟩ (.int .i64 N)).setCell ⟨w0.heap.size + 1, 0, none⟩ (.int .i64 N)) G N A m c all none 0 0 [] none 0 0 [] :=
  ⟨blk_far (blk_far hQ (by dsimp only; omega) _) (by dsimp only; omega) _, blk_set (blk_far h4 (by dsimp only; omega) _) 0 _, blk_far (blk_set h5 0 _) (by dsimp only; omega) _, (o.setCell (o.ne_ h5 (by decide)) _).setCell (o.ne_ h4 (by decide)) _, Own.nil_, Own.nil_, rfl, rfl, fun g h => by simp [ob, Value.ownBlock] at h, fun g h => by simp [ob, Value.ownBlock] at h, fun g h => by simp [ob, Value.ownBlock] at h, (hb.setCell (p := ⟨w0.heap.size + 1 + 1, 0, none⟩) (by dsimp only; omega) _).setCell (p := ⟨w0.heap.size + 1, 0, none⟩) (by dsimp only; omega) _⟩
end
theorem inn_step {W k : Int} {l : List E} {j : Nat} (h : j < l.length) : inn W k (l.take (j + 1)) = inn W k (l.take j) ++ (if sq W k l[j].1 = sq W k l[j].2.1 then [l[j]] else []) := by
  unfold inn
  rw [List.take_succ_eq_append_getElem h, List.filter_append]
  congr 1
  by_cases hs : sq W k l[j].1 = sq W k l[j].2.1
  · simp [hs]
  · simp [hs]
theorem btw_step {W k : Int} {l : List E} {j : Nat} (h : j < l.length) : btw W k (l.take (j + 1)) = btw W k (l.take j) ++ (if sq W k l[j].1 = sq W k l[j].2.1 then [] else [l[j]]) := by
  unfold btw
  rw [List.take_succ_eq_append_getElem h, List.filter_append]
  congr 1
  by_cases hs : sq W k l[j].1 = sq W k l[j].2.1
  · simp [hs]
  · simp [hs]
theorem step_in {W k : Int} {l : List E} {j : Nat} {e : E} (h : j < l.length) (he : l[j] = e) (hs : sq W k e.1 = sq W k e.2.1) : inn W k (l.take (j + 1)) = inn W k (l.take j) ++ [e] ∧ btw W k (l.take (j + 1)) = btw W k (l.take j) := by
  rw [inn_step h, btw_step h, he, if_pos hs, if_pos hs, List.append_nil]
  exact ⟨rfl, rfl⟩
theorem step_out {W k : Int} {l : List E} {j : Nat} {e : E} (h : j < l.length) (he : l[j] = e) (hs : ¬ sq W k e.1 = sq W k e.2.1) : inn W k (l.take (j + 1)) = inn W k (l.take j) ∧ btw W k (l.take (j + 1)) = btw W k (l.take j) ++ [e] := by
  rw [inn_step h, btw_step h, he, if_neg hs, if_neg hs, List.append_nil]
  exact ⟨rfl, rfl⟩
/-- what within answers -/
def WithinSays (W k : Int) (n : Nat) (all : List E) (w : World) (e : Ending) (w' : World) : Prop :=
  ∃ A4 c4 A5 c5 p4 p5, e = .returned (.tuple #[.agg #[.int .i64 n, .slice A4 p4 c4], .agg #[.int .i64 n, .slice A5 p5 c5]]) ∧ (inn W k all).length = p4 ∧ (btw W k all).length = p5 ∧ Own w' w.heap.size 37 3 ce (.slice A4 p4 c4) (inn W k all) ∧ Own w' w.heap.size 37 3 ce (.slice A5 p5 c5) (btw W k all) ∧ Below w.heap.size w w'

set_option maxRecDepth 100000 in
set_option maxHeartbeats 4000000 in
theorem within_any (W H k : Int) (A0 : Option Addr) (n c0 : Nat) (l : List Int) (w : World) (hn : l.length = n) (hl : Sl w w.heap.size 1 ci A0 l) (hg : GGood W H l) (hk1 : 1 ≤ k) (hk8 : k ≤ 8) :
    Calls Try.prog 44 #[.agg #[.int .i64 W, .int .i64 H, .slice A0 n c0], .int .i64 k] w fun e w' => WithinSays W k n (allM W H l n) w e w' := by
  obtain ⟨i0, hi, hz0, hz1, hz2⟩ := info_parts infoEdgeO
  have hw1 := hg.w1
  have hw8 := hg.w8
  have hgood := ground_good hg
  have hsz := size_bd hg
  rw [hn] at hgood hsz
  have hlen : (allM W H l n).length ≤ 512 := by
    have := allM_len W H l n
    omega
  have hends : ∀ e ∈ allM W H l n, (0 ≤ e.1 ∧ e.1 ≤ 64) ∧ (0 ≤ e.2.1 ∧ e.2.1 ≤ 64) := fun e he => by
    have := hgood.ends e he
    omega
  have hb0 : Below w.heap.size w (((w.alloc (.cells #[.int .i64 W, .int .i64 H, .slice A0 n c0] 24)).alloc (.cells #[.int .i64 0, .slice none 0 0] 32)).alloc (.cells #[.int .i64 0, .slice none 0 0] 32)) := (((Below.refl _ _).alloc (Nat.le_refl _) _).alloc (by simp) _).alloc (by simp; omega) _
  have hQ := blk_alloc (blk_alloc (heap_alloc_new w (.cells #[.int .i64 W, .int .i64 H, .slice A0 n c0] 24)) (.cells #[.int .i64 0, .slice none 0 0] 32)) (.cells #[.int .i64 0, .slice none 0 0] 32)
  have hR4 := blk_alloc (heap_alloc_new (w.alloc (.cells #[.int .i64 W, .int .i64 H, .slice A0 n c0] 24)) (.cells #[.int .i64 0, .slice none 0 0] 32)) (.cells #[.int .i64 0, .slice none 0 0] 32)
  have hR5 := heap_alloc_new ((w.alloc (.cells #[.int .i64 W, .int .i64 H, .slice A0 n c0] 24)).alloc (.cells #[.int .i64 0, .slice none 0 0] 32)) (.cells #[.int .i64 0, .slice none 0 0] 32)
  simp only [show (w.alloc (.cells #[.int .i64 W, .int .i64 H, .slice A0 n c0] 24)).heap.size = w.heap.size + 1 by simp, show ((w.alloc (.cells #[.int .i64 W, .int .i64 H, .slice A0 n c0] 24)).alloc (.cells #[.int .i64 0, .slice none 0 0] 32)).heap.size = w.heap.size + 1 + 1 by simp] at hR4 hR5
  have key := of_yes W H A0 c0 l _ ((hl.keep hb0 (Nat.le_refl _)).more hb0.size) hg
  rw [hn] at key
  have q0 := blk_cell hQ 0
  have q1 := blk_cell hQ 1
  have q2 := blk_cell hQ 2
  simp only [List.getElem?_toArray, List.getElem?_cons_zero, List.getElem?_cons_succ] at q0 q1 q2
  have ks := fun W' v h0 h1 => square_any W H k v A0 n c0 W' hw1 hw8 hk1 hk8 h0 h1
  generalize allM W H l n = all at key hlen hends ⊢
  obtain ⟨m, hm⟩ : ∃ m, all.length = m := ⟨_, rfl⟩
  have KEY := Lib.hid key
  have KS := Lib.hid ks
  have HE := Lib.hid hends
  have HM := Lib.hid hm
  rw [hm] at hlen
  clear key ks hends hl hg hgood hm hn
  go_enter Try.func44, Try.ntmps44
  go_wp2_with fail
  refine KEY.out.mono ?_
  rintro e w1 ⟨A, c, rfl, own1, hb1⟩
  rw [HM.out] at own1 ⊢
  have hsz0 := hb1.size
  simp at hsz0
  replace hQ := blk_below hQ hb1 (by simp <;> omega)
  replace hR4 := blk_below hR4 hb1 (by simp <;> omega)
  replace hR5 := blk_below hR5 hb1 (by simp)
  have B1 := hb0.trans (hb1.mono hb0.size)
  clear q0 q1 q2 hb0 hb1 KEY
  replace own1 := own1.mono (base' := w.heap.size) (by simp; omega)
  have hN6 := heap_alloc_new w1 (.cells #[.int .i64 n, .slice A m c] 32)
  have o6 := blk_cell hN6 0
  have o7 := blk_cell hN6 1
  have g40 := blk_cell (blk_alloc hR4 (.cells #[.int .i64 n, .slice A m c] 32)) 0
  have g50 := blk_cell (blk_alloc hR5 (.cells #[.int .i64 n, .slice A m c] 32)) 0
  have f40 := blk_free (blk_alloc hR4 (.cells #[.int .i64 n, .slice A m c] 32)) 0
  have f50 := blk_free (blk_alloc hR5 (.cells #[.int .i64 n, .slice A m c] 32)) 0
  simp only [List.getElem?_toArray, List.getElem?_cons_zero, List.getElem?_cons_succ] at o6 o7 g40 g50
  have hlt4 : w.heap.size + 2 < w1.heap.size := by omega
  go_upto_region 2 with fail
  go_cut [] from 15 to 20 (fun wx => Hid (Wn w wx #[.int .i64 W, .int .i64 H, .slice A0 n c0] n A m c all none 0 0 [] none 0 0 [] ∧ w1.heap.size < wx.heap.size ∧ wx.cell? ⟨w1.heap.size, 1, none⟩ = some (.slice A m c)))
  case first =>
    go_region
    all_goals
      go_wp2
      go_meet
      refine Lib.hid ⟨?_, ?_, ?_⟩
      · first
          | exact Wn.startA (w := (w1.alloc _).drew) (blk_alloc hQ _) (blk_alloc hR4 _) (blk_alloc hR5 _) (own1.alloc _) (B1.alloc B1.size _).drew n
          | exact Wn.startB (w := (w1.alloc _).drew) (blk_alloc hQ _) (blk_alloc hR4 _) (blk_alloc hR5 _) (own1.alloc _) (B1.alloc B1.size _).drew n
      · simp
      · first
          | exact (blk_cell (blk_far (blk_far (w := (w1.alloc _).drew) hN6 (by dsimp only; omega) _) (by dsimp only; omega) _) 1)
  case rest =>
    obtain ⟨hWn, hz6, o7'⟩ := hcut.out
    clear hcut o6 o7 g40 g50 f40 f50 hN6 own1 B1 hQ hR4 hR5
    go_wp2
    go_loopw [24] (fun s24 wr => ∃ (j : Nat) (A4 : Option Addr) (p4 c4 : Nat) (A5 : Option Addr) (p5 c5 : Nat), j ≤ m ∧ s24 = .int .i64 j ∧ Hid (Wn w wr #[.int .i64 W, .int .i64 H, .slice A0 n c0] n A m c all A4 p4 c4 (inn W k (all.take j)) A5 p5 c5 (btw W k (all.take j)))) (fun s24 _ => m - (intOf s24).toNat)
    case atStart => exact ⟨0, none, 0, 0, none, 0, 0, Nat.zero_le _, rfl, Lib.hid hWn⟩
    case round =>
      obtain ⟨j, A4, p4, c4, A5, p5, c5, hj, rfl, HW⟩ := hrel
      clear o7' hWn
      by_cases hlt : j < m
      · have hja : j < all.length := by rw [HM.out]; exact hlt
        obtain ⟨S, f, t, co, rfl, hS0, hS1, he, s0, s1, s2, _⟩ := own_atE HM.out HW.out.o hja
        obtain ⟨⟨f0, f1⟩, t0, t1⟩ : (0 ≤ f ∧ f ≤ 64) ∧ (0 ≤ t ∧ t ≤ 64) := HE.out (f, t, co) (he ▸ List.getElem_mem hja)
        have hsi := fun hs => step_in (W := W) (k := k) hja he hs
        have hso := fun hs => step_out (W := W) (k := k) hja he hs
        have HSI := Lib.hid hsi
        have HSO := Lib.hid hso
        clear hsi hso he hja
        have hp4 : p4 ≤ 512 := by
          have h1 := HW.out.n4
          have h2 := inn_len W k (all.take j)
          rw [List.length_take] at h2
          omega
        have hp5 : p5 ≤ 512 := by
          have h1 := HW.out.n5
          have h2 := btw_len W k (all.take j)
          rw [List.length_take] at h2
          omega
        have WA : Wn w (wr.alloc (.cells #[.int .i64 f, .int .i64 t, .int .i64 co] 37)) #[.int .i64 W, .int .i64 H, .slice A0 n c0] n (some ⟨S, 0, none⟩) m c all A4 p4 c4 (inn W k (all.take j)) A5 p5 c5 (btw W k (all.take j)) := HW.out.keep ((Below.refl _ _).alloc (Nat.le_refl _) _)
        have hE := heap_alloc_new wr (.cells #[.int .i64 f, .int .i64 t, .int .i64 co] 37)
        have hkp : ∀ X, Below (wr.alloc (.cells #[.int .i64 f, .int .i64 t, .int .i64 co] 37)).heap.size (wr.alloc (.cells #[.int .i64 f, .int .i64 t, .int .i64 co] 37)) X →
            (X.cell? ⟨w.heap.size, 0, none⟩ = some (.int .i64 W) ∧ X.cell? ⟨w.heap.size, 1, none⟩ = some (.int .i64 H) ∧ X.cell? ⟨w.heap.size, 2, none⟩ = some (.slice A0 n c0) ∧ X.cell? ⟨wr.heap.size, 0, none⟩ = some (.int .i64 f) ∧ X.cell? ⟨wr.heap.size, 1, none⟩ = some (.int .i64 t)) ∧ X.heap[wr.heap.size]? = some (.cells #[.int .i64 f, .int .i64 t, .int .i64 co] 37 (0, 0)) := fun X hX => by
          have h0 := blk_below WA.box hX (lt_of_block WA.box)
          have h1 := blk_below hE hX (by simp)
          exact ⟨⟨blk_cell h0 0, blk_cell h0 1, blk_cell h0 2, blk_cell h1 0, blk_cell h1 1⟩, h1⟩
        have HK := Lib.hid hkp
        have HWA := Lib.hid WA
        obtain ⟨⟨y0, y1, y2, y3, y4⟩, _⟩ := HK.out _ (Below.refl _ _)
        have kq : ∀ X v, v = f ∨ v = t → Calls Try.prog 49 #[.agg #[.int .i64 W, .int .i64 H, .slice A0 n c0], .int .i64 k, .int .i64 v] X fun e w' => e = .returned (.int .i64 (sq W k v)) ∧ Below X.heap.size X w' := fun X v hv => KS.out X v (by omega) (by omega)
        have KQ := Lib.hid kq
        have hz9 : wr.heap.size < (wr.alloc (.cells #[.int .i64 f, .int .i64 t, .int .i64 co] 37)).heap.size := by simp
        have hzw : w.heap.size + 1 + 1 < wr.heap.size := lt_of_block HW.out.r5
        clear kq hkp WA hE hS0 hS1
        by_cases hs : sq W k f = sq W k t
        · have hst := HSI.out hs
          have hse : (sq W k f == sq W k t) = true := beq_iff_eq.2 hs
          have HST := Lib.hid hst
          clear hst hs HSI HSO
          go_upto_region 6 with fail
          go_region_held3 (fun w' => w'.cell? ⟨w.heap.size, 0, none⟩ = some (.int .i64 W) ∧ w'.cell? ⟨w.heap.size, 1, none⟩ = some (.int .i64 H) ∧ w'.cell? ⟨w.heap.size, 2, none⟩ = some (.slice A0 n c0) ∧ w'.cell? ⟨wr.heap.size, 0, none⟩ = some (.int .i64 f) ∧ w'.cell? ⟨wr.heap.size, 1, none⟩ = some (.int .i64 t))
            (first
              | go_keep
              | exact cE)
            (first
              | (go_at_call 49; refine (KQ.out _ _ (by first | exact .inl rfl | exact .inr rfl)).mono ?_; rintro e wq ⟨rfl, hbq⟩; have HBc : Below (wr.alloc (.cells #[.int .i64 f, .int .i64 t, .int .i64 co] 37)).heap.size (wr.alloc (.cells #[.int .i64 f, .int .i64 t, .int .i64 co] 37)) wq := (by first | exact HBc.trans (hbq.mono HBc.size) | exact (Below.refl _ _).drew.trans (hbq.mono (Nat.le_refl _)) | exact hbq); have cE := (HK.out _ HBc).1))
          all_goals
            have WQ := HWA.out.keep HBc
            obtain ⟨⟨e0, e1, e2, e3, e4⟩, hEq⟩ := HK.out _ HBc
            have e5 := blk_cell hEq 2
            have r40 := blk_cell WQ.r4 1
            have hZq := HBc.size
            simp only [List.getElem?_toArray, List.getElem?_cons_zero, List.getElem?_cons_succ] at e5 r40
            clear y0 y1 y2 y3 y4 hbq cE
            have WQ2 := WQ.keep ((Below.refl _ _).alloc (Nat.le_refl _) (.cells #[.int .i64 f, .int .i64 t, .int .i64 co] 37))
            go_wp2_with (at_builtin; refine wpList_push _ rfl (.tmp 40) (.tmp 42) _ rfl w.heap.size 37 i0 _ 3 24 ce Try.underlying30 hi hz0 hz1 hz2 rfl (by decide) _ _ p4 WQ2.n4 rfl WQ2.o4 wq.heap.size 1 (f, t, co) rfl (news3' rfl) (fun _ _ => one_ce _ _) (by omega) (by omega) WQ2.below.size ?_; intro A3 c3 w3 hgrown hgw hat3; have hc3 := blk_cell (blk_grown WQ2.r4 hgw (WQ2.o4.ne_ WQ2.r4 (by decide))) 1; have hf3 := blk_free (blk_grown WQ2.r4 hgw (WQ2.o4.ne_ WQ2.r4 (by decide))) 1; simp only [List.getElem?_toArray, List.getElem?_cons_zero, List.getElem?_cons_succ] at hc3)
            have hWp := WQ2.push4 hgw hgrown hat3
            have HWP := Lib.hid hWp
            clear hWp hgw hgrown hat3 WQ WQ2 hEq e0 e1 e2 e3 e4 e5 r40 HBc
            go_roundw
            case' rel => exact ⟨j + 1, A3, p4 + 1, c3, A5, p5, c5, by omega, by go_num, Lib.hid (by rw [HST.out.1, HST.out.2]; exact HWP.out)⟩
            case' measure => simp [intOf]; omega
        · have hst := HSO.out hs
          have hse : (sq W k f == sq W k t) = false := beq_eq_false_iff_ne.2 hs
          have HST := Lib.hid hst
          clear hst hs HSI HSO
          go_upto_region 6 with fail
          go_region_held3 (fun w' => w'.cell? ⟨w.heap.size, 0, none⟩ = some (.int .i64 W) ∧ w'.cell? ⟨w.heap.size, 1, none⟩ = some (.int .i64 H) ∧ w'.cell? ⟨w.heap.size, 2, none⟩ = some (.slice A0 n c0) ∧ w'.cell? ⟨wr.heap.size, 0, none⟩ = some (.int .i64 f) ∧ w'.cell? ⟨wr.heap.size, 1, none⟩ = some (.int .i64 t))
            (first
              | go_keep
              | exact cE)
            (first
              | (go_at_call 49; refine (KQ.out _ _ (by first | exact .inl rfl | exact .inr rfl)).mono ?_; rintro e wq ⟨rfl, hbq⟩; have HBc : Below (wr.alloc (.cells #[.int .i64 f, .int .i64 t, .int .i64 co] 37)).heap.size (wr.alloc (.cells #[.int .i64 f, .int .i64 t, .int .i64 co] 37)) wq := (by first | exact HBc.trans (hbq.mono HBc.size) | exact (Below.refl _ _).drew.trans (hbq.mono (Nat.le_refl _)) | exact hbq); have cE := (HK.out _ HBc).1))
          all_goals
            have WQ := HWA.out.keep HBc
            obtain ⟨⟨e0, e1, e2, e3, e4⟩, hEq⟩ := HK.out _ HBc
            have e5 := blk_cell hEq 2
            have r40 := blk_cell WQ.r5 1
            have hZq := HBc.size
            simp only [List.getElem?_toArray, List.getElem?_cons_zero, List.getElem?_cons_succ] at e5 r40
            clear y0 y1 y2 y3 y4 hbq cE
            have WQ2 := WQ.keep ((Below.refl _ _).alloc (Nat.le_refl _) (.cells #[.int .i64 f, .int .i64 t, .int .i64 co] 37))
            go_wp2_with (at_builtin; refine wpList_push _ rfl (.tmp 46) (.tmp 48) _ rfl w.heap.size 37 i0 _ 3 24 ce Try.underlying30 hi hz0 hz1 hz2 rfl (by decide) _ _ p5 WQ2.n5 rfl WQ2.o5 wq.heap.size 1 (f, t, co) rfl (news3' rfl) (fun _ _ => one_ce _ _) (by omega) (by omega) WQ2.below.size ?_; intro A3 c3 w3 hgrown hgw hat3; have hc3 := blk_cell (blk_grown WQ2.r5 hgw (WQ2.o5.ne_ WQ2.r5 (by decide))) 1; have hf3 := blk_free (blk_grown WQ2.r5 hgw (WQ2.o5.ne_ WQ2.r5 (by decide))) 1; simp only [List.getElem?_toArray, List.getElem?_cons_zero, List.getElem?_cons_succ] at hc3)
            have hWp := WQ2.push5 hgw hgrown hat3
            have HWP := Lib.hid hWp
            clear hWp hgw hgrown hat3 WQ WQ2 hEq e0 e1 e2 e3 e4 e5 r40 HBc
            go_roundw
            case' rel => exact ⟨j + 1, A4, p4, c4, A3, p5 + 1, c3, by omega, by go_num, Lib.hid (by rw [HST.out.1, HST.out.2]; exact HWP.out)⟩
            case' measure => simp [intOf]; omega
      · obtain rfl : m = j := by omega
        rw [List.take_of_length_le (by rw [HM.out]; exact Nat.le_refl _)] at HW
        have r40 := blk_cell HW.out.r4 0
        have r41 := blk_cell HW.out.r4 1
        have r50 := blk_cell HW.out.r5 0
        have r51 := blk_cell HW.out.r5 1
        have f40 := blk_free HW.out.r4 0
        have f41 := blk_free HW.out.r4 1
        have f50 := blk_free HW.out.r5 0
        have f51 := blk_free HW.out.r5 1
        simp only [List.getElem?_toArray, List.getElem?_cons_zero, List.getElem?_cons_succ] at r40 r41 r50 r51
        go_wp2
        go_region
        all_goals
          have hO4 := ((((HW.out.o4.drewN 1).setCell (p := ⟨w.heap.size + 1, 0, none⟩) (HW.out.o4.ne_ HW.out.r4 (by decide)) (.int .i64 n)).setCell (p := ⟨w.heap.size + 1, 1, none⟩) (HW.out.o4.ne_ HW.out.r4 (by decide)) (.slice A4 p4 c4)).setCell (p := ⟨w.heap.size + 1 + 1, 0, none⟩) (HW.out.o4.ne_ HW.out.r5 (by decide)) (.int .i64 n)).setCell (p := ⟨w.heap.size + 1 + 1, 1, none⟩) (HW.out.o4.ne_ HW.out.r5 (by decide)) (.slice A5 p5 c5)
          have hO5 := ((((HW.out.o5.drewN 1).setCell (p := ⟨w.heap.size + 1, 0, none⟩) (HW.out.o5.ne_ HW.out.r4 (by decide)) (.int .i64 n)).setCell (p := ⟨w.heap.size + 1, 1, none⟩) (HW.out.o5.ne_ HW.out.r4 (by decide)) (.slice A4 p4 c4)).setCell (p := ⟨w.heap.size + 1 + 1, 0, none⟩) (HW.out.o5.ne_ HW.out.r5 (by decide)) (.int .i64 n)).setCell (p := ⟨w.heap.size + 1 + 1, 1, none⟩) (HW.out.o5.ne_ HW.out.r5 (by decide)) (.slice A5 p5 c5)
          have hB := ((((below_drewN HW.out.below 1).setCell (p := ⟨w.heap.size + 1, 0, none⟩) (by dsimp only; omega) (.int .i64 n)).setCell (p := ⟨w.heap.size + 1, 1, none⟩) (by dsimp only; omega) (.slice A4 p4 c4)).setCell (p := ⟨w.heap.size + 1 + 1, 0, none⟩) (by dsimp only; omega) (.int .i64 n)).setCell (p := ⟨w.heap.size + 1 + 1, 1, none⟩) (by dsimp only; omega) (.slice A5 p5 c5)
          go_wp2
          refine bodyPost_ret (v := .tuple #[.agg #[.int .i64 n, .slice A4 p4 c4], .agg #[.int .i64 n, .slice A5 p5 c5]]) (by simp [results, Try.results44, go_sem, r40, r41, r50, r51]) rfl ⟨A4, c4, A5, c5, p4, p5, rfl, HW.out.n4, HW.out.n5, hO4, hO5, hB⟩
end Go.Proofs.Ytbgkkmcobijkgaa.Hier
