/- Plain facts on walks through a net: no Go in sight. -/
/- Small facts that all walks of this seat share. -/
import Derived.Test.YtjebckehmmbkbaaVBellLaw
import Derived.Test.YtjebckehmmbkbaaProg
import Derived.WalkKit
import Derived.WalkSpells
import Derived.WalkLawsBesides
import Derived.Deep.QuietTactic
import Derived.BigQuiet
import Derived.Lib.Hide
import Derived.ProofKit
import Derived.Deep.RegionWith
import Derived.Lib.SmallJoins
namespace Go.Proofs.Ytjebckehmmbkbaa.WalkLaw
open Go.Proofs.Ytjebckehmmbkbaa.NetLaw
/-- the least cost of an edge between two places, over the edges from the first on; and whether there is one -/
def egS (a b : Int) (s : Int × Bool) (e : E) : Int × Bool := if e.1 = a ∧ e.2.1 = b ∧ (s.2 = false ∨ e.2.2 < s.1) then (e.2.2, true) else s
def eg (l : List E) (a b : Int) : Int × Bool := l.foldl (egS a b) (0, false)
theorem eg_succ (l : List E) (a b : Int) (k : Nat) (h : k < l.length) : eg (l.take (k + 1)) a b = egS a b (eg (l.take k) a b) l[k] := by
  unfold eg
  rw [List.take_succ_eq_append_getElem h, List.foldl_append]
  rfl
theorem eg_bd {l : List E} (h : ∀ e ∈ l, -10000 ≤ e.2.2 ∧ e.2.2 ≤ 10000) (a b : Int) : -10000 ≤ (eg l a b).1 ∧ (eg l a b).1 ≤ 10000 := by
  have key : ∀ (l : List E) (s : Int × Bool), (∀ e ∈ l, -10000 ≤ e.2.2 ∧ e.2.2 ≤ 10000) → (-10000 ≤ s.1 ∧ s.1 ≤ 10000) → (-10000 ≤ (l.foldl (egS a b) s).1 ∧ (l.foldl (egS a b) s).1 ≤ 10000) := by
    intro l
    induction l with
    | nil => intro s _ hs; exact hs
    | cons e r ih =>
      intro s hl hs
      refine ih _ (fun e' he' => hl e' (List.mem_cons_of_mem _ he')) ?_
      unfold egS
      split
      · exact hl e (List.mem_cons_self)
      · exact hs
  exact key l _ h (by simp)
/-- the steps of a walk -/
def prs (p : List Int) : List (Int × Int) := p.zip p.tail
theorem prs_len (p : List Int) : (prs p).length = p.length - 1 := by simp [prs]
theorem prs_get {p : List Int} {k : Nat} (h : k + 1 < p.length) : (prs p)[k]? = some (p[k], p[k + 1]) := by
  unfold prs
  rw [List.getElem?_zip_eq_some]
  exact ⟨List.getElem?_eq_getElem (by omega), by rw [List.getElem?_tail]; exact List.getElem?_eq_getElem h⟩
def sumP (l : List E) (ps : List (Int × Int)) : Int := (ps.map fun p => (eg l p.1 p.2).1).sum
def okP (l : List E) (ps : List (Int × Int)) : Bool := ps.all fun p => (eg l p.1 p.2).2
theorem sumP_snoc (l : List E) (ps : List (Int × Int)) (p : Int × Int) : sumP l (ps ++ [p]) = sumP l ps + (eg l p.1 p.2).1 := by simp [sumP]
theorem okP_snoc (l : List E) (ps : List (Int × Int)) (p : Int × Int) : okP l (ps ++ [p]) = (okP l ps && (eg l p.1 p.2).2) := by simp [okP]
theorem sumP_bd {l : List E} (h : ∀ e ∈ l, -10000 ≤ e.2.2 ∧ e.2.2 ≤ 10000) (ps : List (Int × Int)) : -10000 * (ps.length : Int) ≤ sumP l ps ∧ sumP l ps ≤ 10000 * (ps.length : Int) := by
  induction ps with
  | nil => simp [sumP]
  | cons p r ih =>
    have e : sumP l (p :: r) = (eg l p.1 p.2).1 + sumP l r := by simp [sumP]
    have := eg_bd h p.1 p.2
    rw [e]
    simp only [List.length_cons]
    omega
/-- a place of the walk that is none of the net's -/
def outB (N v : Int) : Bool := decide (v < 0) || decide (N ≤ v)
/-- what Cost answers: the cost, the error -/
def cost (N : Int) (l : List E) (p : List Int) : Int × Int :=
  if chk N l ≠ 0 then (0, chk N l) else if p.length = 0 then (0, 1) else if 100 < p.length then (0, 2) else if p.any (outB N) then (0, 1) else if okP l (prs p) then (sumP l (prs p), 0) else (0, 5)

theorem prs_cons (x y : Int) (r : List Int) : prs (x :: y :: r) = (x, y) :: prs (y :: r) := rfl
theorem prs_join (a' : List Int) (x : Int) (b' : List Int) : prs (a' ++ x :: b') = prs (a' ++ [x]) ++ prs (x :: b') := by
  induction a' with
  | nil => simp [prs]
  | cons y r ih =>
    cases r with
    | nil =>
      show prs (y :: x :: b') = prs [y, x] ++ prs (x :: b')
      rw [prs_cons]
      simp [prs]
    | cons z r =>
      show prs (y :: z :: (r ++ x :: b')) = prs (y :: z :: (r ++ [x])) ++ prs (x :: b')
      rw [prs_cons, prs_cons, List.cons_append]
      congr 1
theorem sumP_append (l : List E) (p q : List (Int × Int)) : sumP l (p ++ q) = sumP l p + sumP l q := by simp [sumP]
theorem okP_append (l : List E) (p q : List (Int × Int)) : okP l (p ++ q) = (okP l p && okP l q) := by simp [okP]
theorem cost_zero {N : Int} {l : List E} {p : List Int} : (cost N l p).2 = 0 ↔ chk N l = 0 ∧ p.length ≠ 0 ∧ p.length ≤ 100 ∧ p.any (outB N) = false ∧ okP l (prs p) = true := by
  unfold cost
  by_cases h1 : chk N l = 0
  · rw [if_neg (by simp [h1])]
    by_cases h2 : p.length = 0
    · rw [if_pos h2]; simp [h2]
    · rw [if_neg h2]
      by_cases h3 : 100 < p.length
      · rw [if_pos h3]; simp; omega
      · rw [if_neg h3]
        cases h4 : p.any (outB N)
        · cases h5 : okP l (prs p)
          · simp
          · simp [h1]; exact ⟨fun h => h2 (by rw [h]; rfl), by omega⟩
        · simp
  · rw [if_pos h1]; simp [h1]
theorem cost_val {N : Int} {l : List E} {p : List Int} : (cost N l p).1 = if (cost N l p).2 = 0 then sumP l (prs p) else 0 := by
  unfold cost
  repeat' split
  all_goals simp_all
theorem cost_bd {N : Int} {l : List E} {p : List Int} : -1000000 ≤ (cost N l p).1 ∧ (cost N l p).1 ≤ 1000000 := by
  rw [cost_val]
  split
  · rename_i h
    obtain ⟨h1, h2, h3, _⟩ := cost_zero.1 h
    have := sumP_bd (chk_zero.1 h1).cost (prs p)
    have h4 := prs_len p
    omega
  · omega
/-- a walk joined of two -/
theorem cost_join {N : Int} {l : List E} (a' : List Int) (x : Int) (b' : List Int) (h : (a' ++ x :: b').length ≤ 100) :
    ((cost N l (a' ++ x :: b')).2 = 0 ↔ (cost N l (a' ++ [x])).2 = 0 ∧ (cost N l (x :: b')).2 = 0) ∧ ((cost N l (a' ++ x :: b')).2 = 0 → (cost N l (a' ++ x :: b')).1 = (cost N l (a' ++ [x])).1 + (cost N l (x :: b')).1) := by
  have e1 : (cost N l (a' ++ x :: b')).2 = 0 ↔ (cost N l (a' ++ [x])).2 = 0 ∧ (cost N l (x :: b')).2 = 0 := by
    rw [cost_zero, cost_zero, cost_zero, prs_join, okP_append]
    simp only [List.length_append, List.length_cons, List.length_nil, List.any_append, List.any_cons, List.any_nil, Bool.or_false, Bool.or_eq_false_iff, Bool.and_eq_true] at h ⊢
    constructor
    · rintro ⟨h1, h2, h3, ⟨h4, h5, h6⟩, h7, h8⟩
      exact ⟨⟨h1, by omega, by omega, ⟨h4, h5⟩, h7⟩, h1, by omega, by omega, ⟨h5, h6⟩, h8⟩
    · rintro ⟨⟨h1, _, _, ⟨h4, h5⟩, h7⟩, _, _, _, ⟨_, h6⟩, h8⟩
      exact ⟨h1, by omega, by omega, ⟨h4, h5, h6⟩, h7, h8⟩
  refine ⟨e1, fun h0 => ?_⟩
  obtain ⟨ha, hb⟩ := e1.1 h0
  rw [cost_val, if_pos h0, cost_val (p := a' ++ [x]), if_pos ha, cost_val (p := x :: b'), if_pos hb, prs_join, sumP_append]
theorem cost_long {N : Int} {l : List E} {p : List Int} (h : 100 < p.length) : (cost N l p).2 ≠ 0 := fun h0 => by
  have := (cost_zero.1 h0).2.2.1
  omega
end Go.Proofs.Ytjebckehmmbkbaa.WalkLaw

namespace Go.Proofs.Ytjebckehmmbkbaa
open Go.RowKit
set_option linter.unusedSimpArgs false
set_option linter.unusedVariables false

theorem bcell {W w1 : World} (hb : Below W.heap.size W w1) : (∀ b o, b < W.heap.size → w1.cell? ⟨b, o, none⟩ = W.cell? ⟨b, o, none⟩) ∧ (∀ b o, b < W.heap.size → w1.frozen? ⟨b, o, none⟩ = W.frozen? ⟨b, o, none⟩) :=
  ⟨fun b o h => hb.cell (p := ⟨b, o, none⟩) h, fun b o h => hb.frozen (p := ⟨b, o, none⟩) h⟩
theorem below_drewN {B : Nat} {a w : World} (h : Below B a w) (n : Nat) : Below B a (w.drewN n) := ⟨h.os, h.tape, h.output, h.size, h.block⟩
theorem bafter {W w1 : World} (hb : Below W.heap.size W w1) : (∀ b o, b < W.heap.size → w1.cell? ⟨b, o, none⟩ = W.cell? ⟨b, o, none⟩) ∧ (∀ b o, b < W.heap.size → w1.frozen? ⟨b, o, none⟩ = W.frozen? ⟨b, o, none⟩) ∧ W.heap.size ≤ w1.heap.size :=
  ⟨fun b o h => hb.cell (p := ⟨b, o, none⟩) h, fun b o h => hb.frozen (p := ⟨b, o, none⟩) h, hb.size⟩
theorem bkeep {W w1 : World} {N : Nat} (hb : Below W.heap.size W w1) (hN : N ≤ W.heap.size) : (∀ b o, b < N → w1.cell? ⟨b, o, none⟩ = W.cell? ⟨b, o, none⟩) ∧ (∀ b o, b < N → w1.frozen? ⟨b, o, none⟩ = W.frozen? ⟨b, o, none⟩) ∧ N ≤ w1.heap.size :=
  ⟨fun b o h => hb.cell (p := ⟨b, o, none⟩) (by show b < _; omega), fun b o h => hb.frozen (p := ⟨b, o, none⟩) (by show b < _; omega), Nat.le_trans hN hb.size⟩
theorem keepN {W w1 : World} {N : Nat} (hb : Below N W w1) : (∀ b o, b < N → w1.cell? ⟨b, o, none⟩ = W.cell? ⟨b, o, none⟩) ∧ (∀ b o, b < N → w1.frozen? ⟨b, o, none⟩ = W.frozen? ⟨b, o, none⟩) :=
  ⟨fun b o h => hb.cell (p := ⟨b, o, none⟩) h, fun b o h => hb.frozen (p := ⟨b, o, none⟩) h⟩
theorem keepAt {W w1 : World} {N b : Nat} (hb : Below N W w1) (h : b < N) : (∀ o, w1.cell? ⟨b, o, none⟩ = W.cell? ⟨b, o, none⟩) ∧ (∀ o, w1.frozen? ⟨b, o, none⟩ = W.frozen? ⟨b, o, none⟩) :=
  ⟨fun o => hb.cell (p := ⟨b, o, none⟩) h, fun o => hb.frozen (p := ⟨b, o, none⟩) h⟩
theorem lt3 {h n : Nat} (k : h + 3 ≤ n) : h < n ∧ h + 1 < n ∧ h + 1 + 1 < n := ⟨by omega, by omega, by omega⟩
theorem ret_int {k : IntKind} {a b : Int} (h : a = b) : Ending.returned (.int k a) = .returned (.int k b) := by rw [h]
theorem ret_bool {a b : Bool} (h : a = b) : Ending.returned (.bool a) = .returned (.bool b) := by rw [h]

open Go.ChangeShapes in
theorem trodAll_below {H : Type} {enc : TypeId × Value → H} {P : Program} (hl : laidOutB P = true) {W W' : World} (hB : Below W.heap.size W W') :
    ∀ (ts : List TypeId) (vs : List Value) (ds : List (DataW H)) (ps : List MemPlace), (∀ t ∈ ts, P.readableRec t = true ∧ t < P.types.size) → (∀ x ∈ ps, x.block < W.heap.size) →
      DataW.TrodAll enc P W 0 (fun _ => true) true ts vs ds ps → DataW.TrodAll enc P W' 0 (fun b => decide (b < W.heap.size)) true ts vs ds ps := by
  intro ts
  induction ts with
  | nil =>
    intro vs ds ps _ _ h
    obtain ⟨rfl, rfl, rfl⟩ := trodAll_nil h
    rfl
  | cons t ts ih =>
    intro vs ds ps ht hx h
    obtain ⟨v, vs', d, ds', p, q, rfl, rfl, rfl, h1, h2⟩ := trodAll_cons h
    exact ⟨p, q, Below.trod hl (ht t (by simp)).1 (ht t (by simp)).2 h1 hB (fun x hx' => hx x (List.mem_append_left _ hx')),
      ih vs' ds' q (fun t' h' => ht t' (List.mem_cons_of_mem _ h')) (fun x hx' => hx x (List.mem_append_right _ hx')) h2, rfl⟩

open Go.ChangeShapes Go.WideShapes in
/-- What a law's row asks behind the call: the law answered true, and nothing that stood before has turned. -/
theorem post_of_law {H : Type} {enc : TypeId × Value → H} {P : Program} {f : Func} {s : ChangeSpec} {tb : TypeId} {W W' : World} {args : Array Value} {ds gs : List (DataW H)} {before : List MemPlace}
    (hl : laidOutB P = true) (hr : f.resultTypes = #[tb]) (hb : P.underlying tb = some .bool) (hv : s.vars = [])
    (hpar : ∀ t ∈ f.params.toList, P.readableRec t = true ∧ t < P.types.size)
    (hW : DataW.Whole enc P f.params.toList s.vars false W args.toList ds gs before)
    (hfn : s.fn H (ds ++ gs) = { results := [.lit (.bool true)], args := ds })
    (hB : Below W.heap.size W W') : s.post enc P f false true false false W args (.bool true) W' := by
  have hlt : ∀ p ∈ before, p.block < W.heap.size := fun p hp => hW.lt p hp
  have hW0 := hW
  obtain ⟨p, q, hA, hV, rfl, hz, hn⟩ := hW
  rw [hv] at hV
  obtain ⟨rfl, rfl⟩ := trodVars_none hV
  refine ⟨ds, [], p ++ [], [], p, [], hW0, ?_, ?_, ?_, World.keptBut_mono (fun x hx => ⟨hx, ?_⟩) (hB.frame (· ∈ p ++ [])), fun h => by cases h⟩
  · rw [hfn, hr]
    exact trodAll_mk1 (shut_bool hb _)
  · rw [hfn]
    exact trodAll_below hl hB _ _ _ _ hpar (fun x hx => hlt x (List.mem_append_left _ hx)) hA
  · rw [hfn, hv]
    rfl
  · rw [List.append_nil] at hx
    exact Or.inr (Or.inl hx)

theorem wf_bd {a : Int} (h : (Lit.int .i64 a).wf = true) : -9223372036854775808 ≤ a ∧ a ≤ 9223372036854775807 := by
  simp only [Lit.wf, Bool.and_eq_true, decide_eq_true_eq] at h
  exact h

open Go.ChangeShapes Go.WideShapes Go.Joins Go.Deep in
/-- a struct of two ints by value, opened -/
theorem open_ii {H : Type} {enc : TypeId × Value → H} {P : Program} {w : World} {base : Nat} {spare : Nat → Bool} {held : Bool} {r : Reach} {b0 : Nat} {t : TypeId} {f0 f1 : Field} {v : Value} {d : DataW H} {p : List MemPlace}
    (hs : P.underlying t = some (.struct #[f0, f1])) (hone : oneCellFields P #[f0, f1] = true) (hC : P.cellsOf t = 2) (h0 : P.underlying f0.type = some (.int .i64)) (h1 : P.underlying f1.type = some (.int .i64))
    (hv : Value.okWide P w r b0 t v) (h : DataW.Trod enc P w base spare held t v d p) :
    ∃ a b : Int, v = .agg #[.int .i64 a, .int .i64 b] ∧ d = .agg [.lit (.int .i64 a), .lit (.int .i64 b)] ∧ p = [] ∧ (-9223372036854775808 ≤ a ∧ a ≤ 9223372036854775807) ∧ (-9223372036854775808 ≤ b ∧ b ≤ 9223372036854775807) := by
  obtain ⟨c0, c1, y0, y1, m, rfl, rfl, rfl, hy0, hy1⟩ := open_agg2 hs hone hC hv h
  obtain ⟨a, e0, rfl, wa⟩ := DataW.trod_int h0 hy0
  obtain ⟨b, e1, rfl, wb⟩ := DataW.trod_int h1 hy1
  simp at e0 e1
  subst e0 e1
  exact ⟨a, b, rfl, rfl, rfl, wf_bd wa, wf_bd wb⟩
end Go.Proofs.Ytjebckehmmbkbaa
