/- The memory of yen.K: the heap of ways, the ways told, boxes of ways; and the plain next places. -/
import Derived.Test.YtjebckehmmbkbaaVHeapWayPop
import Derived.Test.YtjebckehmmbkbaaVYenFn
import Derived.Test.YtjebckehmmbkbaaVYenOnW
import Derived.Test.YtjebckehmmbkbaaVWayUse
namespace Go.Proofs.Ytjebckehmmbkbaa.Yen
open Go.RowKit Go.Proofs.Ytjebckehmmbkbaa NetLaw BellLaw WalkLaw YenLaw YenOn Go.Proofs.Ytjebckehmmbkbaa.Net Go.Proofs.Ytjebckehmmbkbaa.Std
open Go.Proofs.Ytjebckehmmbkbaa.Heap (Kp Kp.refl Kp.below Kp.alloc Kp.drew Kp.setCell Kp.grown Kp.to fnOf)
open Go.Proofs.Ytjebckehmmbkbaa.HeapW
set_option linter.unusedSimpArgs false
set_option linter.unusedVariables false
def ob (A : Option Addr) : Option Nat := (Value.slice A 0 0).ownBlock
theorem ob_ (A : Option Addr) (n c : Nat) : (Value.slice A n c).ownBlock = ob A := by cases A <;> rfl
/-- the next places of those that begin so -/
def ntL (i : Nat) (b : List Int) (O : List (List Int)) : List Int := (O.filter fun z => decide (i < z.length) && decide (z.take i = b)).map fun z => z.getD i 0
theorem ntL_succ (i : Nat) (b : List Int) (O : List (List Int)) (j : Nat) (h : j < O.length) : ntL i b (O.take (j + 1)) = ntL i b (O.take j) ++ (if i < O[j].length ∧ O[j].take i = b then [O[j].getD i 0] else []) := by
  unfold ntL
  rw [List.take_succ_eq_append_getElem h, List.filter_append, List.map_append, List.filter_cons, List.filter_nil]
  congr 1
  by_cases hc : i < O[j].length ∧ O[j].take i = b
  · rw [if_pos hc, if_pos (by simp [hc.1, hc.2])]
    rfl
  · rw [if_neg hc, if_neg (by simpa using fun a => fun e => hc ⟨a, e⟩)]
    rfl
theorem ntL_len (i : Nat) (b : List Int) (O : List (List Int)) : (ntL i b O).length ≤ O.length := by
  unfold ntL
  rw [List.length_map]
  exact List.length_filter_le _ _
theorem ntL_nots (i : Nat) (b : List Int) (hb : b.length = i) (O : List (List Int)) : (fun x => x ∈ ntL i b O) = nots O b := by
  funext x
  refine propext ⟨fun h => ?_, fun ⟨z, hz, r, e⟩ => ?_⟩
  · unfold ntL at h
    rw [List.mem_map] at h
    obtain ⟨z, hz, rfl⟩ := h
    rw [List.mem_filter, Bool.and_eq_true, decide_eq_true_eq, decide_eq_true_eq] at hz
    obtain ⟨h1, h2, h3⟩ := hz
    refine ⟨z, h1, z.drop (i + 1), ?_⟩
    rw [List.getD_eq_getElem?_getD, List.getElem?_eq_getElem h2, Option.getD_some, ← List.drop_eq_getElem_cons h2, ← h3, List.take_append_drop]
  · unfold ntL
    rw [List.mem_map]
    refine ⟨z, List.mem_filter.2 ⟨hz, ?_⟩, ?_⟩
    · rw [Bool.and_eq_true, decide_eq_true_eq, decide_eq_true_eq, e]
      exact ⟨by simp [hb], by rw [← hb, List.take_left']; rfl⟩
    · rw [e, List.getD_eq_getElem?_getD, List.getElem?_append_right (by omega), hb, Nat.sub_self]
      rfl
theorem sl_take {α : Type} {w : World} {B sz : Nat} {cell : α → Nat → Value} {A : Option Addr} {l : List α} (h : Sl w B sz cell A l) (k : Nat) : Sl w B sz cell A (l.take k) := by
  intro hl
  rw [List.length_take] at hl
  obtain ⟨b, off, hA, hb, hc⟩ := h (by omega)
  refine ⟨b, off, hA, hb, fun i hi j hj => ?_⟩
  have hi2 := hi
  rw [List.length_take] at hi2
  have := hc i (by omega) j hj
  rw [this, List.getElem_take]
/-- the beginnings of a way are right -/
theorem smp_take {n : Nat} {l : List E} {s t : Int} {q : List Int} (h : Smp n l s t q) {k : Nat} (hk : k < q.length) : ∃ a : Nat, q.take (k + 1) = q.take k ++ [(a : Int)] ∧ (q.take k).length = k ∧ (q.take k ++ [(a : Int)]).head? = some s ∧ (q.take k ++ [(a : Int)]).Nodup ∧ (∀ v ∈ q.take k ++ [(a : Int)], 0 ≤ v ∧ v < n) ∧ okP l (prs (q.take k ++ [(a : Int)])) = true := by
  have h0 := (h.rng q[k] (List.getElem_mem hk)).1
  obtain ⟨a, ha⟩ := Int.eq_ofNat_of_zero_le h0
  have e : q.take (k + 1) = q.take k ++ [(a : Int)] := by rw [List.take_succ_eq_append_getElem hk, ha]
  refine ⟨a, e, by rw [List.length_take]; omega, ?_, ?_, fun v hv => ?_, ?_⟩
  · rw [← e]
    have := h.head
    cases q with
    | nil => simp at this
    | cons x r => simpa using this
  · rw [← e]; exact h.nd.sublist (List.take_sublist _ _)
  · rw [← e] at hv; exact h.rng v (List.mem_of_mem_take hv)
  · rw [← e]
    have := h.ok
    unfold okP at this ⊢
    rw [List.all_eq_true] at this ⊢
    exact fun x hx => this x (WayUse.prs_take q (k + 1) x hx)
/-- the heap of ways that wait, and those told -/
structure KM (w w' : World) (n : Nat) (A : Option Addr) (c : Nat) (H : Nat) (l : List E) (Ah : Option Addr) (m ch : Nat) (L : List Pop) (Ao : Option Addr) (mo co : Nat) (O : List Pop) : Prop where
  heap : HeapAt w' w.heap.size H (fnOf 16) Ah m ch L
  hp : HeapLaw.Hp d0 ltP L
  out : Own w' w.heap.size 31 2 cw (.slice Ao mo co) O
  olen : O.length = mo
  rdL : ∀ x ∈ L, Rd w' w.heap.size x
  rdO : ∀ x ∈ O, Rd w' w.heap.size x
  ctL : ∀ x ∈ L, x.2.1 = wt l x.2.2
  ctO : ∀ x ∈ O, x.2.1 = wt l x.2.2
  sep : ∀ g, ob Ah = some g → ob Ao ≠ some g
  lo : Below w.heap.size w w'
  bx : w'.heap[w.heap.size]? = some (.cells #[.int .i64 n, .slice A l.length c] 24 (0, 0))
/-- a box of a way that is none of the rows -/
structure KB (w' : World) (BW : Nat) (cs : Array Value) (Ah Ao : Option Addr) : Prop where
  box : w'.heap[BW]? = some (.cells cs 31 (0, 0))
  nh : ob Ah ≠ some BW
  no : ob Ao ≠ some BW
section
variable {w w' w'' : World} {n c H : Nat} {A : Option Addr} {l : List E} {Ah : Option Addr} {m ch : Nat} {L : List Pop} {Ao : Option Addr} {mo co : Nat} {O : List Pop}
theorem KM.keep (h : KM w w' n A c H l Ah m ch L Ao mo co O) (hb : Below w'.heap.size w' w'') : KM w w'' n A c H l Ah m ch L Ao mo co O :=
  ⟨h.heap.keep hb, h.hp, h.out.keep hb, h.olen, fun x hx => (h.rdL x hx).keep hb, fun x hx => (h.rdO x hx).keep hb, h.ctL, h.ctO, h.sep, h.lo.trans (hb.mono h.lo.size), blk_below h.bx hb (lt_of_block h.bx)⟩
theorem KM.row (h : KM w w' n A c H l Ah m ch L Ao mo co O) : YenF.WRow w' Ao O := ⟨h.out.sl.2, fun x hx => ⟨_, h.rdO x hx⟩⟩
theorem KM.old (h : KM w w' n A c H l Ah m ch L Ao mo co O) : (∀ g, ob Ah = some g → g < w'.heap.size) ∧ ∀ g, ob Ao = some g → g < w'.heap.size :=
  ⟨fun g e => (h.heap.own.base_ g (by rw [ob_]; exact e)).2, fun g e => (h.out.base_ g (by rw [ob_]; exact e)).2⟩
/-- under the heap's own changes -/
theorem KM.kp {A' : Option Addr} {m' c' : Nat} {L' : List Pop} (h : KM w w' n A c H l Ah m ch L Ao mo co O) (hk : Kp w' w'' H (Value.slice Ah m ch).ownBlock) (hh : HeapAt w'' w.heap.size H (fnOf 16) A' m' c' L') (hp : HeapLaw.Hp d0 ltP L') (hrd : ∀ x ∈ L', x ∈ L ∨ (Rd w'' w.heap.size x ∧ x.2.1 = wt l x.2.2)) (hrow : ∀ S, ob A' = some S → ob Ah = some S ∨ w'.heap.size ≤ S) : KM w w'' n A c H l A' m' c' L' Ao mo co O := by
  have ho : Own w'' w.heap.size 31 2 cw (.slice Ao mo co) O := by
    refine ⟨h.out.1, ?_⟩
    rcases h.out.2 with h3 | ⟨g, cap, cur, e1, hg, hh', rest⟩
    · exact .inl h3
    · refine .inr ⟨g, cap, cur, e1, hg, ?_, rest⟩
      refine (hk.block g (lt_of_block hh') (fun e => ?_) (fun e => ?_)).trans hh'
      · subst e
        have := h.heap.blk
        rw [hh'] at this
        injection this with this
        injection this with _ ht _
        exact absurd ht (by decide)
      · rw [ob_] at e
        refine h.sep g e.symm ?_
        rw [← ob_ Ao mo co, e1]
        rfl
  refine ⟨hh, hp, ho, h.olen, fun x hx => ?_, fun x hx => rd_kp h.heap hk (h.rdO x hx), fun x hx => ?_, h.ctO, fun g e e' => ?_, h.lo.trans (hk.to h.lo.size h.heap.hb h.heap.own.lo), ?_⟩
  · rcases hrd x hx with h1 | h1
    · exact rd_kp h.heap hk (h.rdL x h1)
    · exact h1.1
  · rcases hrd x hx with h1 | h1
    · exact h.ctL x h1
    · exact h1.2
  · rcases hrow g e with h1 | h1
    · exact h.sep g h1 e'
    · have := h.old.2 g e'
      omega
  · refine (hk.block _ (lt_of_block h.bx) (fun e => ?_) (fun e => h.heap.own.ne_ h.bx (by decide) e.symm)).trans h.bx
    have h1 := h.heap.blk
    rw [← e, h.bx] at h1
    injection h1 with h1
    injection h1 with _ ht _
    exact absurd ht (by decide)
/-- one more told -/
theorem KM.told {A3 : Option Addr} {c3 : Nat} {x : Pop} (h : KM w w' n A c H l Ah m ch L Ao mo co O) (hg : w'.grownBy w'' (Value.slice Ao mo co).ownBlock) (ho : Own w'' w.heap.size 31 2 cw (.slice A3 (mo + 1) c3) (O ++ [x])) (hat : (Value.slice A3 (mo + 1) c3).ownBlock = (Value.slice Ao mo co).ownBlock ∨ (Value.slice A3 (mo + 1) c3).ownBlock = some w'.heap.size) (hx : Rd w' w.heap.size x) (hc : x.2.1 = wt l x.2.2) : KM w w'' n A c H l Ah m ch L A3 (mo + 1) c3 (O ++ [x]) := by
  have rd : ∀ y, Rd w' w.heap.size y → Rd w'' w.heap.size y := fun y hy => by
    refine ⟨hy.1, ?_⟩
    rcases hy.2 with h3 | ⟨g, cap, cur, e1, hg', hh', rest⟩
    · exact .inl h3
    · exact .inr ⟨g, cap, cur, e1, hg', blk_grown hh' hg (fun e => h.out.ne_ hh' (by decide) e), rest⟩
  have hrh : (Value.slice Ah m ch).ownBlock = none ∨ (Value.slice Ah m ch).ownBlock ≠ (Value.slice Ao mo co).ownBlock := by
    rw [ob_, ob_]
    cases hA : ob Ah with
    | none => exact .inl rfl
    | some g => exact .inr (fun e => h.sep g hA e.symm)
  refine ⟨⟨h.heap.hb, blk_grown h.heap.blk hg (h.out.ne_ h.heap.blk (by decide)), h.heap.own.kept hg hrh, h.heap.len⟩, h.hp, ho, by simp [h.olen], fun y hy => rd y (h.rdL y hy), fun y hy => ?_, h.ctL, fun y hy => ?_, fun g e e' => ?_, h.lo.grown hg h.lo.size (fun k hk => h.out.lo k hk), blk_grown h.bx hg (h.out.ne_ h.bx (by decide))⟩
  · rcases List.mem_append.1 hy with h1 | h1
    · exact rd y (h.rdO y h1)
    · rw [List.mem_singleton] at h1; subst h1; exact rd _ hx
  · rcases List.mem_append.1 hy with h1 | h1
    · exact h.ctO y h1
    · rw [List.mem_singleton] at h1; subst h1; exact hc
  · rw [ob_, ob_] at hat
    rcases hat with h1 | h1
    · exact h.sep g e (h1 ▸ e')
    · rw [h1] at e'
      injection e' with e'
      have := h.old.1 g e
      omega
variable {BW : Nat} {cs : Array Value}
theorem KB.keep (h : KB w' BW cs Ah Ao) (hb : Below w'.heap.size w' w'') : KB w'' BW cs Ah Ao := ⟨blk_below h.box hb (lt_of_block h.box), h.nh, h.no⟩
theorem KB.new (h : KM w w' n A c H l Ah m ch L Ao mo co O) (cs : Array Value) : KB (w'.alloc (.cells cs 31)) w'.heap.size cs Ah Ao :=
  ⟨heap_alloc_new _ _, fun e => absurd (h.old.1 _ e) (Nat.lt_irrefl _), fun e => absurd (h.old.2 _ e) (Nat.lt_irrefl _)⟩
theorem KB.kp {A' : Option Addr} (h : KB w' BW cs Ah Ao) (hm : KM w w' n A c H l Ah m ch L Ao mo co O) (hk : Kp w' w'' H (Value.slice Ah m ch).ownBlock) (hrow : ∀ S, ob A' = some S → ob Ah = some S ∨ w'.heap.size ≤ S) : KB w'' BW cs A' Ao := by
  have hlt := lt_of_block h.box
  refine ⟨(hk.block BW hlt (fun e => ?_) (fun e => ?_)).trans h.box, fun e => ?_, h.no⟩
  · have := hm.heap.blk
    rw [← e, h.box] at this
    injection this with this
    injection this with _ ht _
    exact absurd ht (by decide)
  · rw [ob_] at e; exact h.nh e.symm
  · rcases hrow _ e with h1 | h1
    · exact h.nh h1
    · omega
theorem KB.told {A3 : Option Addr} {c3 : Nat} (h : KB w' BW cs Ah Ao) (hg : w'.grownBy w'' (Value.slice Ao mo co).ownBlock) (hat : (Value.slice A3 (mo + 1) c3).ownBlock = (Value.slice Ao mo co).ownBlock ∨ (Value.slice A3 (mo + 1) c3).ownBlock = some w'.heap.size) : KB w'' BW cs Ah A3 := by
  rw [ob_] at hg
  rw [ob_, ob_] at hat
  refine ⟨blk_grown h.box hg h.no, h.nh, fun e => ?_⟩
  rcases hat with h1 | h1
  · exact h.no (h1 ▸ e)
  · rw [h1] at e
    injection e with e
    have := lt_of_block h.box
    omega
end
end Go.Proofs.Ytjebckehmmbkbaa.Yen
