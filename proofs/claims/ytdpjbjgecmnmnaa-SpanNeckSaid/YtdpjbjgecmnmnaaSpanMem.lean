/- The memory of span.tree: who lies where, and what each write leaves as it was. -/
import Derived.Test.YtdpjbjgecmnmnaaHeapSort
import Derived.Test.YtdpjbjgecmnmnaaUnionOf
import Derived.Test.YtdpjbjgecmnmnaaSpanLaw
namespace Go.Proofs.Ytdpjbjgecmnmnaa.Span
open Go.RowKit Go.Proofs.Ytdpjbjgecmnmnaa NetLaw HeapLaw UnionLaw SpanLaw Go.Proofs.Ytdpjbjgecmnmnaa.Net Go.Proofs.Ytdpjbjgecmnmnaa.Heap Go.Proofs.Ytdpjbjgecmnmnaa.Union
set_option linter.unusedSimpArgs false
set_option linter.unusedVariables false
def ob (A : Option Addr) : Option Nat := (Value.slice A 0 0).ownBlock
theorem ob_eq (A : Option Addr) (n c : Nat) : (Value.slice A n c).ownBlock = ob A := by cases A <;> rfl
/-- numbers as the program has them -/
def zs (l : List Nat) : List Int := l.map fun i => ((i : Nat) : Int)
theorem zs_len (l : List Nat) : (zs l).length = l.length := by simp [zs]
theorem zs_snoc (l : List Nat) (i : Nat) : zs (l ++ [i]) = zs l ++ [(i : Int)] := by simp [zs]
/-- an edge's ends and cost, by its number -/
def es (l : List E) (i : Nat) : P2 := ((l.getD i (0, 0, 0)).1.toNat, (l.getD i (0, 0, 0)).2.1.toNat)
def co (l : List E) (i : Nat) : Int := (l.getD i (0, 0, 0)).2.2
/-- the first k edges as things to be sorted -/
def pl (l : List E) (k : Nat) : List Pop := (List.range k).map fun i => (co l i, ((i : Nat) : Int))
theorem pl_len (l : List E) (k : Nat) : (pl l k).length = k := by simp [pl]
theorem pl_snoc (l : List E) (k : Nat) : pl l (k + 1) = pl l k ++ [(co l k, (k : Int))] := by simp [pl, List.range_succ]
theorem getD_at {l : List E} {k : Nat} (h : k < l.length) : l.getD k (0, 0, 0) = l[k] := by rw [List.getD_eq_getElem?_getD, List.getElem?_eq_getElem h]; rfl
theorem co_bd {N : Int} {l : List E} (hg : NetLaw.Good N l) (i : Nat) : -10000 ≤ co l i ∧ co l i ≤ 10000 := by
  unfold co
  by_cases h : i < l.length
  · rw [getD_at h]; exact hg.cost _ (List.getElem_mem h)
  · rw [List.getD_eq_getElem?_getD, List.getElem?_eq_none (by omega)]; simp
theorem es_bd {n : Nat} {l : List E} (hg : NetLaw.Good n l) {i : Nat} (h : i < l.length) : (es l i).1 < n ∧ (es l i).2 < n := by
  unfold es
  rw [getD_at h]
  have := hg.ends _ (List.getElem_mem h)
  simp only
  omega
/-- the numbers of what was sorted -/
def ids (X : List Pop) : List Nat := X.map fun p => p.2.toNat
/-- what was sorted: all edges, by cost -/
structure Sd (l : List E) (X : List Pop) : Prop where
  perm : X.Perm (pl l l.length)
  srt : Srt X
section
variable {l : List E} {X : List Pop}
theorem Sd.len (h : Sd l X) : X.length = l.length := by rw [h.perm.length_eq, pl_len]
theorem Sd.at_ (h : Sd l X) {j : Nat} (hj : j < X.length) : ∃ i : Nat, i < l.length ∧ X[j] = (co l i, (i : Int)) ∧ (ids X)[j]? = some i := by
  have hm := h.perm.mem_iff.1 (List.getElem_mem hj)
  unfold pl at hm
  rw [List.mem_map] at hm
  obtain ⟨i, hi, he⟩ := hm
  refine ⟨i, List.mem_range.1 hi, he.symm, ?_⟩
  unfold ids
  rw [List.getElem?_map, List.getElem?_eq_getElem hj, ← he]
  simp
theorem Sd.ids_perm (h : Sd l X) : (ids X).Perm (List.range l.length) := by
  have h1 := h.perm.map fun p : Pop => p.2.toNat
  have h2 : (pl l l.length).map (fun p : Pop => p.2.toNat) = List.range l.length := by
    unfold pl
    rw [List.map_map]
    conv => rhs; rw [← List.map_id (List.range l.length)]
    exact List.map_congr_left fun i _ => by simp
  rw [h2] at h1
  exact h1
theorem Sd.nd (h : Sd l X) : (ids X).Nodup := h.ids_perm.nodup_iff.2 List.nodup_range
theorem Sd.new (h : Sd l X) {j i : Nat} (hj : (ids X)[j]? = some i) : i ∉ (ids X).take j := fun hm => by
  obtain ⟨hlt, rfl⟩ := List.getElem?_eq_some_iff.1 hj
  obtain ⟨m, hm1, hm2⟩ := List.mem_iff_getElem.1 hm
  rw [List.length_take] at hm1
  rw [List.getElem_take] at hm2
  have := (List.getElem_inj h.nd).1 hm2
  omega
theorem Sd.le (h : Sd l X) {a b : Nat} (hab : a < b) (hb : b < X.length) : X[a].1 ≤ X[b].1 := by
  have := List.pairwise_iff_getElem.1 h.srt a b (by omega) hb hab
  simp only [ltP, decide_eq_false_iff_not] at this
  omega
end
/-- the cost that was come to -/
def cur (X : List Pop) (j : Nat) : Int := if j = 0 then -10000 else (X.getD (j - 1) (0, 0)).1
theorem cur_le {l : List E} {X : List Pop} {N : Int} (hg : NetLaw.Good N l) (h : Sd l X) {j i : Nat} (hj : j < X.length) (hi : X[j] = (co l i, (i : Int))) : cur X j ≤ co l i := by
  unfold cur
  split
  · exact (co_bd hg i).1
  · rw [List.getD_eq_getElem?_getD, List.getElem?_eq_getElem (by omega)]
    have := h.le (show j - 1 < j by omega) hj
    rw [hi] at this
    exact this
theorem cur_step {l : List E} {X : List Pop} {j i : Nat} (hj : j < X.length) (hi : X[j] = (co l i, (i : Int))) : cur X (j + 1) = co l i := by
  unfold cur
  rw [if_neg (by omega), Nat.add_sub_cancel, List.getD_eq_getElem?_getD, List.getElem?_eq_getElem hj, hi]
  rfl
/-- what was chosen of all edges -/
structure Kru (n : Nat) (l : List E) (out : List Nat) : Prop where
  kr : ∃ dn c, KR n (es l) (co l) dn out c ∧ ∀ i, i ∈ dn ↔ i < l.length
theorem kru_of {n : Nat} {l : List E} {X : List Pop} {out : List Nat} {c : Int} (h : Sd l X) (k : KR n (es l) (co l) (ids X) out c) : Kru n l out :=
  ⟨_, _, k, fun i => by rw [h.ids_perm.mem_iff, List.mem_range]⟩

/-- the memory of tree's loop -/
structure Tm (w0 w : World) (n : Nat) (A : Option Addr) (c : Nat) (l : List E) (B G : Nat) (v : Value) (L : List Nat) (A3 : Option Addr) (c3 : Nat) (X : List Pop) (Ao : Option Addr) (mo co' : Nat) (out : List Nat) : Prop where
  box : w.heap[w0.heap.size]? = some (.cells #[.int .i64 n, .slice A l.length c] 24 (0, 0))
  grp : Grp w B G v L
  gb : w0.heap.size ≤ B
  srt : Own w w0.heap.size 109 2 cp (.slice A3 X.length c3) X
  ow : Own w w0.heap.size 3 1 ci (.slice Ao mo co') (zs out)
  olen : out.length = mo
  sep : ∀ g, ob Ao = some g → v.ownBlock ≠ some g
  lo : Below w0.heap.size w0 w
section
variable {w0 w w' : World} {n c B G c3 mo co' : Nat} {A A3 Ao : Option Addr} {l : List E} {v : Value} {L L' out : List Nat} {X : List Pop}
theorem vlt {w : World} {B G : Nat} {v : Value} {L : List Nat} (h : Grp w B G v L) {g : Nat} (hg : v.ownBlock = some g) : B ≤ g ∧ g < w.heap.size := World.ownsRow.lt h.row g hg
theorem Tm.alloc (h : Tm w0 w n A c l B G v L A3 c3 X Ao mo co' out) (o : Obj) : Tm w0 (w.alloc o) n A c l B G v L A3 c3 X Ao mo co' out :=
  ⟨blk_alloc h.box o, h.grp.alloc o, h.gb, h.srt.alloc o, h.ow.alloc o, h.olen, h.sep, h.lo.alloc h.lo.size o⟩
theorem Tm.drew (h : Tm w0 w n A c l B G v L A3 c3 X Ao mo co' out) : Tm w0 w.drew n A c l B G v L A3 c3 X Ao mo co' out :=
  ⟨h.box, h.grp.drew, h.gb, h.srt.drewN 1, h.ow.drewN 1, h.olen, h.sep, below_drewN h.lo 1⟩
/-- a block of another kind than the groups' row stays -/
theorem kept_blk {g : Nat} {t : TypeId} {cs : Array Value} (hg : Grp w B G v L) (hk : w.grownBy w' v.ownBlock) (hb : w.heap[g]? = some (.cells cs t (0, 0))) (hne : 3 ≠ t) : w'.heap[g]? = some (.cells cs t (0, 0)) :=
  blk_grown hb hk (own_ne hg.row hb hne)
theorem Tm.join (h : Tm w0 w n A c l B G v L A3 c3 X Ao mo co' out) (hk : w.grownBy w' v.ownBlock) (hg : Grp w' B G v L') : Tm w0 w' n A c l B G v L' A3 c3 X Ao mo co' out := by
  refine ⟨kept_blk h.grp hk h.box (by decide), hg, h.gb, h.srt.kept hk ?_, h.ow.kept hk ?_, h.olen, h.sep, h.lo.grown hk h.lo.size (fun g hg => Nat.le_trans h.gb (vlt h.grp hg).1)⟩
  · rcases h.srt.2 with ⟨e, _⟩ | ⟨g, cap, curx, e, hg0, hh, _⟩
    · left; rw [e]; rfl
    · right
      rw [e]
      exact fun x => own_ne h.grp.row hh (by decide) x.symm
  · rw [ob_eq]
    cases hx : ob Ao with
    | none => exact .inl rfl
    | some g => exact .inr (fun e => h.sep g hx e.symm)
theorem Tm.grow {Ao' : Option Addr} {mo' co2 : Nat} {out' : List Nat} (h : Tm w0 w n A c l B G v L A3 c3 X Ao mo co' out) (hk : w.grownBy w' (Value.slice Ao mo co').ownBlock) (ho : Own w' w0.heap.size 3 1 ci (.slice Ao' mo' co2) (zs out')) (hl : out'.length = mo') (hat : ob Ao' = ob Ao ∨ ∃ g, ob Ao' = some g ∧ w.heap.size ≤ g) : Tm w0 w' n A c l B G v L A3 c3 X Ao' mo' co2 out' := by
  refine ⟨blk_grown h.box hk (h.ow.ne_ h.box (by decide)), ⟨h.grp.base, blk_grown h.grp.blk hk (h.ow.ne_ h.grp.blk (by decide)), World.ownsRow.kept h.grp.row hk ?_⟩, h.gb, h.srt.kept hk ?_, ho, hl, ?_, h.lo.grown hk h.lo.size h.ow.lo⟩
  · cases hx : v.ownBlock with
    | none => exact .inl rfl
    | some g => exact .inr (fun e => h.sep g ((ob_eq ..).symm.trans e.symm) hx)
  · rcases h.srt.2 with ⟨e, _⟩ | ⟨g, cap, curx, e, hg0, hh, _⟩
    · left; rw [e]; rfl
    · right
      rw [e]
      exact fun x => h.ow.ne_ hh (by decide) x.symm
  · intro g hg e
    rcases hat with h1 | ⟨g', h1, h2⟩
    · exact h.sep g (h1.symm.trans hg) e
    · rw [h1] at hg; injection hg with hg
      have := (vlt h.grp e).2; omega
end
end Go.Proofs.Ytdpjbjgecmnmnaa.Span
