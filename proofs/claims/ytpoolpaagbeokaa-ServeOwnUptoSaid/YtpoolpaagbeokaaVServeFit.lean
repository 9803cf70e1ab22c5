/- Plain facts on requests that step by turns. No Go in sight. -/
/- The memory of a serve.Service: its ground, its six slots with their searches; what is apart stays apart. -/
/- Plain facts on requests: with no guesses a search can be made wherever the places are there; when one is over. No Go in sight. -/
/- The walk of (*serve.Service).Frame: so many steps by turn. -/
/- The memory of a serve.Service: a slot that is new, a slot whose search is made anew; while the ground changes each slot has its own net. -/
import Derived.Test.YtpoolpaagbeokaaVDijkMoreLaw
import Derived.Test.YtpoolpaagbeokaaVAraUse2
import Derived.Test.YtpoolpaagbeokaaVNetOf
namespace Go.Proofs.Ytpoolpaagbeokaa.ServeLaw
set_option linter.unusedSimpArgs false
set_option linter.unusedVariables false
/-- T i k: slot i, behind k steps, has a step to take -/
abbrev Sch := Nat → Nat → Bool
/-- the next slot by turn that has a step to take is d behind -/
structure First (T : Sch) (t : Nat) (c : Nat → Nat) (d : Nat) : Prop where
  lt : d < 6
  no : ∀ x, x < d → T ((t + x) % 6) (c ((t + x) % 6)) = false
  yes : T ((t + d) % 6) (c ((t + d) % 6)) = true
def Stuck (T : Sch) (c : Nat → Nat) : Prop := ∀ i, i < 6 → T i (c i) = false
def bump (c : Nat → Nat) (j : Nat) : Nat → Nat := fun i => if i = j then c i + 1 else c i
/-- so many steps by turn -/
inductive Run (T : Sch) (t : Nat) (c : Nat → Nat) : Nat → Nat → (Nat → Nat) → Prop
  | zero : Run T t c 0 t c
  | step {n t1 d : Nat} {c1 : Nat → Nat} : Run T t c n t1 c1 → First T t1 c1 d → Run T t c (n + 1) ((t1 + d + 1) % 6) (bump c1 ((t1 + d) % 6))
section
variable {T : Sch} {t : Nat} {c : Nat → Nat}
theorem First.unique {d d' : Nat} (h : First T t c d) (h' : First T t c d') : d = d' := by
  rcases Nat.lt_trichotomy d d' with e | e | e
  · have := h'.no d e; rw [h.yes] at this; cases this
  · exact e
  · have := h.no d' e; rw [h'.yes] at this; cases this
theorem First.stuck {d : Nat} (h : First T t c d) (hs : Stuck T c) : False := by
  have := hs ((t + d) % 6) (Nat.mod_lt _ (by decide))
  rw [h.yes] at this
  cases this
theorem Run.det {n t1 t2 : Nat} {c1 c2 : Nat → Nat} (h1 : Run T t c n t1 c1) (h2 : Run T t c n t2 c2) : t1 = t2 ∧ c1 = c2 := by
  induction h1 generalizing t2 c2 with
  | zero => cases h2; exact ⟨rfl, rfl⟩
  | step _ hf ih =>
    cases h2 with
    | step hr2 hf2 =>
      obtain ⟨rfl, rfl⟩ := ih hr2
      rw [hf.unique hf2]
      exact ⟨rfl, rfl⟩
theorem Run.append {n m t1 t2 : Nat} {c1 c2 : Nat → Nat} (h1 : Run T t c n t1 c1) (h2 : Run T t1 c1 m t2 c2) : Run T t c (n + m) t2 c2 := by
  induction h2 with
  | zero => exact h1
  | step _ hf ih => exact Run.step ih hf
theorem Run.split {n t2 : Nat} {c2 : Nat → Nat} (h : Run T t c n t2 c2) : ∀ m, m ≤ n → ∃ t1 c1, Run T t c m t1 c1 ∧ Run T t1 c1 (n - m) t2 c2 := by
  induction h with
  | zero => intro m hm; obtain rfl : m = 0 := by omega
            exact ⟨_, _, Run.zero, Run.zero⟩
  | @step n t1 d c1 hr hf ih =>
    intro m hm
    by_cases e : m = n + 1
    · subst e
      rw [Nat.sub_self]
      exact ⟨_, _, Run.step hr hf, Run.zero⟩
    · obtain ⟨t0, c0, h1, h2⟩ := ih m (by omega)
      refine ⟨t0, c0, h1, ?_⟩
      have : n + 1 - m = (n - m) + 1 := by omega
      rw [this]
      exact Run.step h2 hf
theorem Run.stuck {n t1 : Nat} {c1 : Nat → Nat} (h : Run T t c n t1 c1) (hs : Stuck T c) : n = 0 := by
  cases n with
  | zero => rfl
  | succ n =>
    obtain ⟨t0, c0, h1, _⟩ := h.split 1 (by omega)
    cases h1 with
    | step h0 hf =>
      cases h0
      exact (hf.stuck hs).elim
/-- two that begin alike, the one as long as it may be -/
theorem Run.same {u u' t1 t2 : Nat} {c1 c2 : Nat → Nat} (h1 : Run T t c u t1 c1) (h2 : Run T t c u' t2 c2) (hle : u' ≤ u) (hs : u' < u → Stuck T c2) : u' = u ∧ t1 = t2 ∧ c1 = c2 := by
  have e : u' = u := by
    rcases Nat.lt_or_ge u' u with hlt | hge
    · obtain ⟨t0, c0, k1, k2⟩ := h1.split u' (Nat.le_of_lt hlt)
      obtain ⟨rfl, rfl⟩ := k1.det h2
      have := k2.stuck (hs hlt)
      omega
    · omega
  subst e
  obtain ⟨a, b⟩ := h1.det h2
  exact ⟨rfl, a, b⟩
theorem Run.turn {n t1 : Nat} {c1 : Nat → Nat} (h : Run T t c n t1 c1) (ht : t < 6) : t1 < 6 := by
  cases h with
  | zero => exact ht
  | step _ _ => exact Nat.mod_lt _ (by decide)
/-- no count falls -/
theorem Run.mono {n t1 : Nat} {c1 : Nat → Nat} (h : Run T t c n t1 c1) : ∀ i, c i ≤ c1 i := by
  induction h with
  | zero => intro i; exact Nat.le_refl _
  | step _ _ ih => intro i; have := ih i; unfold bump; split <;> omega
def sum6 (c : Nat → Nat) : Nat := c 0 + c 1 + c 2 + c 3 + c 4 + c 5
theorem sum6_bump (c : Nat → Nat) (j : Nat) (hj : j < 6) : sum6 (bump c j) = sum6 c + 1 := by
  unfold sum6 bump
  have : j = 0 ∨ j = 1 ∨ j = 2 ∨ j = 3 ∨ j = 4 ∨ j = 5 := by omega
  rcases this with rfl | rfl | rfl | rfl | rfl | rfl <;> simp <;> omega
theorem Run.sum {n t1 : Nat} {c1 : Nat → Nat} (h : Run T t c n t1 c1) : sum6 c1 = sum6 c + n := by
  induction h with
  | zero => rfl
  | step _ _ ih => rw [sum6_bump _ _ (Nat.mod_lt _ (by decide)), ih]; omega
/-- where each takes no more than m steps there are no more than 6 m of them -/
theorem Run.le {n t1 m : Nat} {c1 : Nat → Nat} (h : Run T t c n t1 c1) (hb : ∀ i, i < 6 → c1 i ≤ m) : n ≤ 6 * m := by
  have h1 := h.sum
  have h0 := hb 0 (by decide)
  have h2 := hb 1 (by decide)
  have h3 := hb 2 (by decide)
  have h4 := hb 3 (by decide)
  have h5 := hb 4 (by decide)
  have h6 := hb 5 (by decide)
  unfold sum6 at h1
  omega
end
/-- a frame's look round: from t0 on none had a step to take, up to the slot by turn -/
structure Scan (T : Sch) (t0 : Nat) (c : Nat → Nat) (idle turn : Nat) : Prop where
  turn : turn = (t0 + idle) % 6
  le : idle ≤ 6
  no : ∀ x, x < idle → T ((t0 + x) % 6) (c ((t0 + x) % 6)) = false
theorem Scan.start {T : Sch} {t : Nat} {c : Nat → Nat} (ht : t < 6) : Scan T t c 0 t := ⟨by omega, by omega, fun x hx => by omega⟩
theorem Scan.idle {T : Sch} {t0 : Nat} {c : Nat → Nat} {idle turn : Nat} (h : Scan T t0 c idle turn) (hi : idle < 6) (hn : T turn (c turn) = false) : Scan T t0 c (idle + 1) ((turn + 1) % 6) := by
  have e := h.turn
  refine ⟨by omega, by omega, fun x hx => ?_⟩
  by_cases hxi : x = idle
  · subst hxi
    rw [← e]
    exact hn
  · exact h.no x (by omega)
theorem Scan.take {T : Sch} {t0 : Nat} {c : Nat → Nat} {idle turn : Nat} (h : Scan T t0 c idle turn) (hi : idle < 6) (hy : T turn (c turn) = true) : First T t0 c idle ∧ (t0 + idle) % 6 = turn ∧ (t0 + idle + 1) % 6 = (turn + 1) % 6 := by
  have e := h.turn
  exact ⟨⟨hi, h.no, by rw [← e]; exact hy⟩, e.symm, by omega⟩
theorem Scan.full {T : Sch} {t0 : Nat} {c : Nat → Nat} {turn : Nat} (h : Scan T t0 c 6 turn) (ht : t0 < 6) : Stuck T c ∧ turn = t0 := by
  have e := h.turn
  refine ⟨fun i hi => ?_, by omega⟩
  have k : (t0 + (i + 6 - t0) % 6) % 6 = i := by omega
  have h1 := h.no ((i + 6 - t0) % 6) (Nat.mod_lt _ (by decide))
  rw [k] at h1
  exact h1
/-- three alike, and no others -/
def T3 (m : Nat) : Sch := fun i k => decide (i < 3) && decide (k < m)
theorem t3_yes {m i k : Nat} : T3 m i k = true ↔ i < 3 ∧ k < m := by simp [T3]
theorem t3_no {m i k : Nat} : T3 m i k = false ↔ ¬ (i < 3 ∧ k < m) := by rw [← t3_yes]; simp
/-- none is a step behind another by more than one -/
theorem fair {m n t1 : Nat} {c1 : Nat → Nat} (h : Run (T3 m) 0 (fun _ => 0) n t1 c1) : n ≤ 3 * m ∧ (∀ i, i < 3 → c1 i = (n + 2 - i) / 3) ∧ t1 = (if n = 0 then 0 else (n - 1) % 3 + 1) := by
  induction h with
  | zero => exact ⟨Nat.zero_le _, fun i hi => by simp; omega, rfl⟩
  | @step n t1 d c1 hr hf ih =>
    obtain ⟨hn, hc, ht⟩ := ih
    obtain ⟨hj3, hjm⟩ := t3_yes.1 hf.yes
    have hd := hf.lt
    have hj : (t1 + d) % 6 = n % 3 := by
      -- the slot by turn
      by_cases h0 : n = 0
      · subst h0
        rw [if_pos rfl] at ht
        subst ht
        rcases Nat.eq_zero_or_pos d with e | e
        · subst e; rfl
        · exfalso
          have h1 := t3_no.1 (hf.no 0 e)
          have h2 := hc 0 (by decide)
          have h3 := hc ((0 + d) % 6) hj3
          simp at h1 h2 h3 hjm hj3
          omega
      · rw [if_neg h0] at ht
        have hcj := hc _ hj3
        have ht3 : t1 = 1 ∨ t1 = 2 ∨ t1 = 3 := by omega
        have key : ∀ x, x < d → ¬ ((t1 + x) % 6 < 3 ∧ c1 ((t1 + x) % 6) < m) := fun x hx => t3_no.1 (hf.no x hx)
        rcases ht3 with e | e | e
        · rw [e] at hj3 hcj hjm key ⊢
          have hm1 : n % 3 = 1 := by omega
          rcases Nat.eq_zero_or_pos d with ed | ed
          · subst ed; simp; omega
          · exfalso
            have k0 := key 0 ed
            have h1 := hc 1 (by decide)
            simp at k0
            rw [h1] at k0
            have hd2 : (1 + d) % 6 = 0 ∨ (1 + d) % 6 = 1 ∨ (1 + d) % 6 = 2 := by omega
            rcases hd2 with e2 | e2 | e2 <;> rw [e2] at hcj hjm <;> omega
        · rw [e] at hj3 hcj hjm key ⊢
          have hm1 : n % 3 = 2 := by omega
          rcases Nat.eq_zero_or_pos d with ed | ed
          · subst ed; simp; omega
          · exfalso
            have k0 := key 0 ed
            have h1 := hc 2 (by decide)
            simp at k0
            rw [h1] at k0
            have hd2 : (2 + d) % 6 = 0 ∨ (2 + d) % 6 = 1 ∨ (2 + d) % 6 = 2 := by omega
            rcases hd2 with e2 | e2 | e2 <;> rw [e2] at hcj hjm <;> omega
        · rw [e] at hj3 hcj hjm key ⊢
          have hm1 : n % 3 = 0 := by omega
          have hd2 : (3 + d) % 6 = 0 ∨ (3 + d) % 6 = 1 ∨ (3 + d) % 6 = 2 := by omega
          rcases hd2 with e2 | e2 | e2
          · omega
          · exfalso
            have k3 := key 3 (by omega)
            have h1 := hc 0 (by decide)
            simp at k3
            rw [h1] at k3
            rw [e2] at hcj hjm
            omega
          · exfalso
            have k3 := key 3 (by omega)
            have h1 := hc 0 (by decide)
            simp at k3
            rw [h1] at k3
            rw [e2] at hcj hjm
            omega
    have hcj := hc _ hj3
    rw [hj] at hcj hjm
    refine ⟨by omega, fun i hi => ?_, ?_⟩
    · have hci := hc i hi
      rw [hj]
      unfold bump
      split
      · rename_i e; rw [hci, e]; omega
      · rw [hci]; omega
    · rw [if_neg (Nat.succ_ne_zero n), Nat.add_sub_cancel]
      omega
end Go.Proofs.Ytpoolpaagbeokaa.ServeLaw

namespace Go.Proofs.Ytpoolpaagbeokaa.Serve
open Go.RowKit Go.Proofs.Ytpoolpaagbeokaa NetLaw BellLaw StarLaw AraLaw Go.Proofs.Ytpoolpaagbeokaa.Net Go.Proofs.Ytpoolpaagbeokaa.Std Go.Proofs.Ytpoolpaagbeokaa.Flow Go.Proofs.Ytpoolpaagbeokaa.Ara Go.Proofs.Ytpoolpaagbeokaa.GroundLaw
open Go.Proofs.Ytpoolpaagbeokaa.GridLaw hiding E
set_option linter.unusedSimpArgs false
set_option linter.unusedVariables false
/-- all blocks but these are as they were -/
structure Off (D : Nat → Prop) (w w' : World) : Prop where
  os : w'.os = w.os
  tape : w'.tape = w.tape
  output : w'.output = w.output
  size : w.heap.size ≤ w'.heap.size
  block : ∀ g, g < w.heap.size → ¬ D g → w'.heap[g]? = w.heap[g]?
theorem Off.refl (D : Nat → Prop) (w : World) : Off D w w := ⟨rfl, rfl, rfl, Nat.le_refl _, fun _ _ _ => rfl⟩
theorem Off.of {D : Nat → Prop} {w w' : World} (h : Below w.heap.size w w') : Off D w w' := ⟨h.os, h.tape, h.output, h.size, fun g hg _ => h.block g hg⟩
theorem Off.more {D D' : Nat → Prop} {w w' : World} (h : Off D w w') (hD : ∀ g, D g → D' g) : Off D' w w' := ⟨h.os, h.tape, h.output, h.size, fun g hg hn => h.block g hg (fun hd => hn (hD g hd))⟩
theorem Off.trans {D D' : Nat → Prop} {w w' w'' : World} (h : Off D w w') (h' : Off D' w' w'') (hD : ∀ g, D' g → D g ∨ w.heap.size ≤ g) : Off D w w'' :=
  ⟨h'.os.trans h.os, h'.tape.trans h.tape, h'.output.trans h.output, Nat.le_trans h.size h'.size, fun g hg hn => (h'.block g (Nat.lt_of_lt_of_le hg h.size) (fun hd => (hD g hd).elim hn (fun hl => by omega))).trans (h.block g hg hn)⟩
theorem Off.fr {D : Nat → Prop} {w w' : World} {P : Nat} {F : Fix} {Y Y' : Var} (h : Fr P F Y Y' w w') (hD : ∀ g, Mut P F Y g → D g) : Off D w w' :=
  ⟨h.os, h.tape, h.output, h.size, fun g hg hn => h.block g hg (fun hm => hn (hD g hm))⟩
theorem Off.below {D : Nat → Prop} {b : Nat} {w w' : World} (h : Off D w w') (hb : b ≤ w.heap.size) (hD : ∀ g, D g → b ≤ g) : Below b w w' :=
  ⟨h.os, h.tape, h.output, h.size, fun g hg => h.block g (by omega) (fun hd => by have := hD g hd; omega)⟩
theorem blk_off {D : Nat → Prop} {w w' : World} {g : Nat} {o : Obj} (hb : w.heap[g]? = some o) (h : Off D w w') (hn : ¬ D g) : w'.heap[g]? = some o := (h.block g (lt_of_block hb) hn).trans hb
theorem own_off {α : Type} {D : Nat → Prop} {w w' : World} {b : Nat} {e : TypeId} {sz : Nat} {cell : α → Nat → Value} {A : Option Addr} {n c : Nat} {l : List α} (ho : Own w b e sz cell (.slice A n c) l) (h : Off D w w') (hn : ∀ g, ob A = some g → ¬ D g) : Own w' b e sz cell (.slice A n c) l :=
  own_keepB ho (fun g e => h.block g (ho.base_ g e).2 (hn g ((ob_ ..).symm.trans e)))
/-- a request with its search -/
structure Slt where
  Q : Nat
  P : Nat
  b : Nat
  F : Fix
  Y : Var
  s : AS
  f : Nat
  k : Nat
  AW : Option Addr
  cW : Nat
  T : RE
  sm : Bool
/-- a slot's blocks; D: a set that holds them all -/
structure SL (b0 : Nat) (w : World) (n : Nat) (l : List E) (D : Nat → Prop) (g : Slt) : Prop where
  z : w.heap[g.Q]? = some (.cells #[.pointer (some ⟨g.P, 0, none⟩), .int .i64 g.f, .int .i64 g.F.tt, .slice g.AW g.F.ws.length g.cW, .int .i64 g.T.num, .int .i64 g.T.den, .slice g.T.A g.T.k g.T.c, .int .i64 g.T.cost, .int .i64 g.T.done, .bool g.sm] 89 (0, 0))
  sr : SR g.b w g.P g.F g.Y g.f g.k g.s
  fo : FO g.F
  po : PO g.F g.f
  net : g.F.n = n ∧ g.F.l = l ∧ g.F.h = List.replicate n 0
  wt : Own w b0 39 2 cp (.slice g.AW g.F.ws.length g.cW) g.F.ws
  told : Own w b0 3 1 ci (.slice g.T.A g.T.k g.T.c) g.T.path
  k64 : g.T.k ≤ 64
  wc : wcode g.F.ws = 0
  inn : ∀ x, (x = g.Q ∨ ob g.AW = some x ∨ ob g.T.A = some x ∨ All g.P g.F g.Y x) → D x
  dom : ∀ x, D x → b0 ≤ x ∧ x < w.heap.size
  sep : ∀ x, (x = g.Q ∨ ob g.AW = some x ∨ ob g.T.A = some x) → ¬ All g.P g.F g.Y x
/-- a slot stays while what is written lies elsewhere -/
theorem SL.off {b0 : Nat} {w w' : World} {n : Nat} {l : List E} {D D2 : Nat → Prop} {g : Slt} (h : SL b0 w n l D g) (ho : Off D2 w w') (hd : ∀ x, D x → ¬ D2 x) : SL b0 w' n l D g := by
  have hx : ∀ x, (x = g.Q ∨ ob g.AW = some x ∨ ob g.T.A = some x ∨ All g.P g.F g.Y x) → ¬ D2 x := fun x hx => hd x (h.inn x hx)
  exact ⟨blk_off h.z ho (hx _ (.inl rfl)), ⟨h.sr.run, ⟨h.sr.sm.am.keepF (fun x ha => ho.block x (h.sr.sm.am.all ha).2 (hx x (.inr (.inr (.inr ha))))), h.sr.sm.hr, h.sr.sm.cb⟩, h.sr.top⟩, h.fo, h.po, h.net, own_off h.wt ho (fun x e => hx x (.inr (.inl e))), own_off h.told ho (fun x e => hx x (.inr (.inr (.inl e)))), h.k64, h.wc, h.inn, fun x hx2 => ⟨(h.dom x hx2).1, Nat.lt_of_lt_of_le (h.dom x hx2).2 ho.size⟩, h.sep⟩
/-- and with more room -/
theorem SL.room {b0 : Nat} {w : World} {n : Nat} {l : List E} {D D' : Nat → Prop} {g : Slt} (h : SL b0 w n l D g) (h1 : ∀ x, D x → D' x) (h2 : ∀ x, D' x → b0 ≤ x ∧ x < w.heap.size) : SL b0 w n l D' g :=
  ⟨h.z, h.sr, h.fo, h.po, h.net, h.wt, h.told, h.k64, h.wc, fun x hx => h1 x (h.inn x hx), h2, h.sep⟩
/-- what was there, and the new blocks -/
def grow (D : Nat → Prop) (w w' : World) : Nat → Prop := fun x => D x ∨ (w.heap.size ≤ x ∧ x < w'.heap.size)
/-- the search of a slot went on -/
theorem SL.step {b0 : Nat} {w w' : World} {n : Nat} {l : List E} {D : Nat → Prop} {g : Slt} (h : SL b0 w n l D g) (hb : b0 ≤ w.heap.size) {Y' : Var} {s' : AS} {k' : Nat} (hf : Fr g.P g.F g.Y Y' w w') (hs : SR g.b w' g.P g.F Y' g.f k' s') : SL b0 w' n l (grow D w w') { g with Y := Y', s := s', k := k' } ∧ Off D w w' := by
  have hoff : Off D w w' := Off.fr hf (fun x hx => h.inn x (.inr (.inr (.inr (.inl hx)))))
  have hlt : ∀ x, (x = g.Q ∨ ob g.AW = some x ∨ ob g.T.A = some x) → x < w.heap.size := fun x hx => (h.dom x (h.inn x (by rcases hx with e | e | e; exact .inl e; exact .inr (.inl e); exact .inr (.inr (.inl e))))).2
  have hst : ∀ x, (x = g.Q ∨ ob g.AW = some x ∨ ob g.T.A = some x) → w'.heap[x]? = w.heap[x]? := fun x hx => hf.stays (h.sep x hx) (hlt x hx)
  refine ⟨⟨(hst _ (.inl rfl)).trans h.z, hs, h.fo, h.po, h.net, own_keepB h.wt (fun x e => hst x (.inr (.inl ((ob_ ..).symm.trans e)))), own_keepB h.told (fun x e => hst x (.inr (.inr ((ob_ ..).symm.trans e)))), h.k64, h.wc, fun x hx => ?_, fun x hx => ?_, fun x hx => hf.notall (h.sep x hx) (hlt x hx)⟩, hoff⟩
  · rcases hx with e | e | e | ha
    · exact .inl (h.inn x (.inl e))
    · exact .inl (h.inn x (.inr (.inl e)))
    · exact .inl (h.inn x (.inr (.inr (.inl e))))
    · by_cases ho : All g.P g.F g.Y x
      · exact .inl (h.inn x (.inr (.inr (.inr ho))))
      · have hlt2 := (hs.sm.am.all ha).2
        rcases Nat.lt_or_ge x w.heap.size with hx2 | hx2
        · exact absurd ha (hf.notall ho hx2)
        · exact .inr ⟨hx2, hlt2⟩
  · rcases hx with hx | ⟨hx1, hx2⟩
    · exact ⟨(h.dom x hx).1, Nat.lt_of_lt_of_le (h.dom x hx).2 hf.size⟩
    · exact ⟨Nat.le_trans hb hx1, hx2⟩
def sp : Option Slt → Value
  | none => .pointer none
  | some g => .pointer (some ⟨g.Q, 0, none⟩)
/-- a service -/
structure SV (b0 : Nat) (w : World) (Z : Nat) (W H : Int) (AC : Option Addr) (cC : Nat) (l : List Int) (turn : Nat) (σ : Nat → Option Slt) (D : Nat → Nat → Prop) : Prop where
  z : w.heap[Z]? = some (.cells #[.int .i64 W, .int .i64 H, .slice AC l.length cC, sp (σ 0), sp (σ 1), sp (σ 2), sp (σ 3), sp (σ 4), sp (σ 5), .int .i64 turn] 84 (0, 0))
  zl : b0 ≤ Z
  cells : Own w b0 3 1 ci (.slice AC l.length cC) l
  good : GGood W H l
  tl : turn < 6
  slot : ∀ i, i < 6 → ∀ g, σ i = some g → SL b0 w l.length (allM W H l l.length) (D i) g
  sepD : ∀ i j, i < 6 → j < 6 → i ≠ j → ∀ x, D i x → ¬ D j x
  out : ∀ i, i < 6 → ∀ x, D i x → x ≠ Z ∧ ob AC ≠ some x
  dom : ∀ i, i < 6 → ∀ x, D i x → b0 ≤ x ∧ x < w.heap.size
section
variable {b0 : Nat} {w w' : World} {Z : Nat} {W H : Int} {AC : Option Addr} {cC : Nat} {l : List Int} {turn : Nat} {σ : Nat → Option Slt} {D : Nat → Nat → Prop}
theorem SV.size (h : SV b0 w Z W H AC cC l turn σ D) : b0 ≤ w.heap.size := Nat.le_trans h.zl (Nat.le_of_lt (lt_of_block h.z))
theorem SV.keep (h : SV b0 w Z W H AC cC l turn σ D) (hb : Below w.heap.size w w') : SV b0 w' Z W H AC cC l turn σ D :=
  ⟨blk_below h.z hb (lt_of_block h.z), h.zl, h.cells.keep hb, h.good, h.tl, fun i hi g e => (h.slot i hi g e).off (Off.of (D := fun _ => False) hb) (fun _ _ hx => hx), h.sepD, h.out, fun i hi x hx => ⟨(h.dom i hi x hx).1, Nat.lt_of_lt_of_le (h.dom i hi x hx).2 hb.size⟩⟩
/-- a slot's pointer -/
theorem SV.at_ (h : SV b0 w Z W H AC cC l turn σ D) {i : Nat} (hi : i < 6) : w.cell? ⟨Z, 3 + i, none⟩ = some (sp (σ i)) ∧ w.frozen? ⟨Z, 3 + i, none⟩ = false := by
  refine ⟨?_, blk_free h.z _⟩
  rw [blk_cell h.z]
  have : i = 0 ∨ i = 1 ∨ i = 2 ∨ i = 3 ∨ i = 4 ∨ i = 5 := by omega
  rcases this with rfl | rfl | rfl | rfl | rfl | rfl <;> rfl
theorem SV.zs (h : SV b0 w Z W H AC cC l turn σ D) : w.cell? ⟨Z, 0, none⟩ = some (.int .i64 W) ∧ w.cell? ⟨Z, 1, none⟩ = some (.int .i64 H) ∧ w.cell? ⟨Z, 2, none⟩ = some (.slice AC l.length cC) ∧ w.cell? ⟨Z, 9, none⟩ = some (.int .i64 turn) ∧ w.frozen? ⟨Z, 9, none⟩ = false ∧ Z < w.heap.size := by
  refine ⟨?_, ?_, ?_, ?_, blk_free h.z 9, lt_of_block h.z⟩ <;> (rw [blk_cell h.z]; rfl)
/-- the turn moves on -/
theorem SV.setT (h : SV b0 w Z W H AC cC l turn σ D) {t' : Nat} (ht : t' < 6) : SV b0 (w.setCell ⟨Z, 9, none⟩ (.int .i64 t')) Z W H AC cC l t' σ D ∧ Off (fun x => x = Z) w (w.setCell ⟨Z, 9, none⟩ (.int .i64 t')) := by
  have ho : Off (fun x => x = Z) w (w.setCell ⟨Z, 9, none⟩ (.int .i64 t')) := ⟨rfl, rfl, rfl, by simp [World.setCell], fun g hg hn => Below.heap_setCell _ _ _ _ hn⟩
  refine ⟨⟨blk_set h.z 9 _, h.zl, h.cells.setCell (h.cells.ne_ h.z (by decide)) _, h.good, ht, fun i hi g e => (h.slot i hi g e).off ho (fun x hx hz => (h.out i hi x hx).1 hz), h.sepD, h.out, fun i hi x hx => ⟨(h.dom i hi x hx).1, Nat.lt_of_lt_of_le (h.dom i hi x hx).2 ho.size⟩⟩, ho⟩
def upd1 {α : Type} (f : Nat → α) (i : Nat) (x : α) : Nat → α := fun j => if j = i then x else f j
theorem upd1_eq {α : Type} (f : Nat → α) (i : Nat) (x : α) : upd1 f i x i = x := by simp [upd1]
theorem upd1_ne {α : Type} (f : Nat → α) {i j : Nat} (x : α) (h : j ≠ i) : upd1 f i x j = f j := by simp [upd1, h]
/-- the search of one slot went on: the others are as they were -/
theorem SV.step (h : SV b0 w Z W H AC cC l turn σ D) {i : Nat} (hi : i < 6) {g : Slt} (hg : σ i = some g) {Y' : Var} {s' : AS} {k' : Nat} (hf : Fr g.P g.F g.Y Y' w w') (hs : SR g.b w' g.P g.F Y' g.f k' s') :
    SV b0 w' Z W H AC cC l turn (upd1 σ i (some { g with Y := Y', s := s', k := k' })) (upd1 D i (grow (D i) w w')) ∧ Off (D i) w w' := by
  obtain ⟨h1, ho⟩ := (h.slot i hi g hg).step h.size hf hs
  have hsp : ∀ j, sp (upd1 σ i (some { g with Y := Y', s := s', k := k' }) j) = sp (σ j) := fun j => by
    by_cases e : j = i
    · subst e; rw [upd1_eq, hg]; rfl
    · rw [upd1_ne _ _ e]
  have hZ : ¬ D i Z := fun hd => (h.out i hi Z hd).1 rfl
  refine ⟨⟨?_, h.zl, own_off h.cells ho (fun x e hd => (h.out i hi x hd).2 e), h.good, h.tl, fun j hj gj ej => ?_, fun j j' hj hj' hne x hx hx' => ?_, fun j hj x hx => ?_, fun j hj x hx => ?_⟩, ho⟩
  · simp only [hsp]
    exact blk_off h.z ho hZ
  · by_cases e : j = i
    · subst e
      rw [upd1_eq] at ej ⊢
      injection ej with ej
      subst ej
      exact h1
    · rw [upd1_ne _ _ e] at ej ⊢
      exact (h.slot j hj gj ej).off ho (fun x hx hx2 => h.sepD j i hj hi e x hx hx2)
  · by_cases e : j = i
    · subst e
      rw [upd1_eq] at hx
      rw [upd1_ne _ _ (fun e => hne e.symm)] at hx'
      rcases hx with hx | ⟨hx, _⟩
      · exact h.sepD j j' hj hj' hne x hx hx'
      · have := (h.dom j' hj' x hx').2; omega
    · rw [upd1_ne _ _ e] at hx
      by_cases e' : j' = i
      · subst e'
        rw [upd1_eq] at hx'
        rcases hx' with hx' | ⟨hx', _⟩
        · exact h.sepD j j' hj hj' hne x hx hx'
        · have := (h.dom j hj x hx).2; omega
      · rw [upd1_ne _ _ e'] at hx'
        exact h.sepD j j' hj hj' hne x hx hx'
  · by_cases e : j = i
    · subst e
      rw [upd1_eq] at hx
      rcases hx with hx | ⟨hx, _⟩
      · exact h.out j hj x hx
      · exact ⟨fun e => by have := lt_of_block h.z; omega, fun e => by have := (h.cells.base_ x ((ob_ ..).trans e)).2; omega⟩
    · rw [upd1_ne _ _ e] at hx
      exact h.out j hj x hx
  · by_cases e : j = i
    · subst e
      rw [upd1_eq] at hx
      rcases hx with hx | ⟨hx1, hx2⟩
      · exact ⟨(h.dom j hj x hx).1, Nat.lt_of_lt_of_le (h.dom j hj x hx).2 ho.size⟩
      · exact ⟨Nat.le_trans h.size hx1, hx2⟩
    · rw [upd1_ne _ _ e] at hx
      exact ⟨(h.dom j hj x hx).1, Nat.lt_of_lt_of_le (h.dom j hj x hx).2 ho.size⟩
end
end Go.Proofs.Ytpoolpaagbeokaa.Serve

namespace Go.Proofs.Ytpoolpaagbeokaa.ServeLaw
open NetLaw BellLaw StarLaw AraLaw Go.Proofs.Ytpoolpaagbeokaa.GroundLaw Go.Proofs.Ytpoolpaagbeokaa.StarF
open Go.Proofs.Ytpoolpaagbeokaa.GridLaw hiding E
set_option linter.unusedSimpArgs false
set_option linter.unusedVariables false
/-- no guesses -/
def zs (n : Nat) : List Int := List.replicate n 0
theorem zs_dg {n : Nat} {v : Int} (v0 : 0 ≤ v) (v1 : v < n) : dg (zs n) v = 0 := rep_dg v0 v1
theorem cons_zero {n t : Nat} {l : List E} (hg : NetLaw.Good n l) (hc : ∀ e ∈ l, 1 ≤ e.2.2) (ht : t < n) : HeurLaw.Cons n t l (zs n) := by
  refine ⟨by simp [zs], fun x hx => ?_, zs_dg (by omega) (by omega), fun e he => ?_⟩
  · have := (List.mem_replicate.1 hx).2
    rw [this]
    decide
  · obtain ⟨a0, a1, b0, b1⟩ := hg.ends e he
    rw [zs_dg a0 a1, zs_dg b0 b1]
    have := hc e he
    omega
theorem pos_goodS {N : Int} {l : List E} (hg : NetLaw.Good N l) (hc : ∀ e ∈ l, 1 ≤ e.2.2) : Dijk.pos N l = 0 := by
  have h0 : Dijk.posE l = 0 := by
    clear hg
    induction l with
    | nil => rfl
    | cons e r ih =>
      have := hc e (by simp)
      rw [Dijk.posE, if_neg (by omega)]
      exact ih fun x hx => hc x (by simp [hx])
  rw [Dijk.pos, if_neg (by simpa using chk_zero.2 hg)]; exact h0
theorem lookE_zeroS {N : Int} {ps : List Int} : Dijk.lookE N ps = 0 ↔ ∀ v ∈ ps, 0 ≤ v ∧ v < N := by
  induction ps with
  | nil => simp [Dijk.lookE]
  | cons x r ih =>
    unfold Dijk.lookE
    by_cases h : x < 0 ∨ N ≤ x
    · rw [if_pos h]
      constructor
      · intro h1; omega
      · intro h1; have := h1 x (List.mem_cons_self ..); omega
    · rw [if_neg h, ih]
      constructor
      · intro h1 y hy
        rcases List.mem_cons.1 hy with rfl | hy
        · omega
        · exact h1 y hy
      · intro h1 y hy; exact h1 y (List.mem_cons_of_mem _ hy)
/-- the search of a request that was taken may be made on any ground of that size -/
theorem ask_ok {W H : Int} {l : List Int} (gg : GGood W H l) {a b : Int} (ha : 0 ≤ a ∧ a < l.length) (hb : 0 ≤ b ∧ b < l.length) : slook l.length a b (allM W H l l.length) (zs l.length) = 0 := by
  obtain ⟨t, rfl⟩ := Int.eq_ofNat_of_zero_le hb.1
  refine slook_zero.2 ⟨?_, cons_zero (ground_good gg) (ground_pos gg) (t := t) (by omega)⟩
  have h1 := pos_goodS (ground_good gg) (ground_pos gg)
  rw [Dijk.look, if_neg (by simpa using h1)]
  exact lookE_zeroS.2 (by intro y hy; simp at hy; omega)
theorem ask_in {W H : Int} {l : List Int} {a b : Int} (h : slook l.length a b (allM W H l l.length) (zs l.length) = 0) : (0 ≤ a ∧ a < l.length) ∧ 0 ≤ b ∧ b < l.length := by
  obtain ⟨hlk, _⟩ := slook_zero.1 h
  obtain ⟨_, _, h1, h2⟩ := DijkWay.looks_zero hlk
  exact ⟨h1, h2⟩
/-- a search is over behind so many steps -/
def Ov (n t : Nat) (l : List E) (ws : List (Int × Int)) (f k : Nat) : Prop := ∃ s, Rn n t l (zs n) ws f k s ∧ s.rds.length = ws.length
theorem Ov.iff {n t f k : Nat} {l : List E} {ws : List (Int × Int)} {s : AS} (hr : Rn n t l (zs n) ws f k s) : Ov n t l ws f k ↔ s.rds.length = ws.length :=
  ⟨fun ⟨s', h1, h2⟩ => by rw [hr.det h1]; exact h2, fun h => ⟨s, hr, h⟩⟩
end Go.Proofs.Ytpoolpaagbeokaa.ServeLaw

namespace Go.Proofs.Ytpoolpaagbeokaa.Serve
open Go.RowKit Go.Proofs.Ytpoolpaagbeokaa NetLaw BellLaw StarLaw AraLaw Go.Proofs.Ytpoolpaagbeokaa.Net Go.Proofs.Ytpoolpaagbeokaa.Std Go.Proofs.Ytpoolpaagbeokaa.Flow Go.Proofs.Ytpoolpaagbeokaa.Ara Go.Proofs.Ytpoolpaagbeokaa.GroundLaw
open Go.Proofs.Ytpoolpaagbeokaa.GridLaw hiding E
open Go.Proofs.Ytpoolpaagbeokaa.ServeLaw
set_option linter.unusedSimpArgs false
set_option linter.unusedVariables false
/-- a slot's count of steps -/
def cnt (σ : Nat → Option Slt) (i : Nat) : Nat := match σ i with | none => 0 | some g => g.k
/-- has a slot a step to take? -/
noncomputable def Tk (n : Nat) (l : List E) (σ : Nat → Option Slt) : Sch := fun i k => match σ i with | none => false | some g => @decide (¬ Ov n g.F.tt l g.F.ws g.f k) (Classical.propDecidable _)
/-- the searches went on, nothing else -/
def Went (σ σ' : Nat → Option Slt) : Prop := ∀ i, (σ i = none ∧ σ' i = none) ∨ ∃ g Y s k, σ i = some g ∧ σ' i = some { g with Y := Y, s := s, k := k }
theorem Went.refl (σ : Nat → Option Slt) : Went σ σ := fun i => by
  cases h : σ i with
  | none => exact .inl ⟨rfl, rfl⟩
  | some g => exact .inr ⟨g, g.Y, g.s, g.k, rfl, rfl⟩
theorem Went.trans {σ σ' σ'' : Nat → Option Slt} (h : Went σ σ') (h' : Went σ' σ'') : Went σ σ'' := fun i => by
  rcases h i with ⟨e, e'⟩ | ⟨g, Y, s, k, e, e'⟩
  · rcases h' i with ⟨_, e2⟩ | ⟨g2, _, _, _, e2, _⟩
    · exact .inl ⟨e, e2⟩
    · rw [e'] at e2; cases e2
  · rcases h' i with ⟨e2, _⟩ | ⟨g2, Y2, s2, k2, e2, e3⟩
    · rw [e'] at e2; cases e2
    · rw [e'] at e2
      injection e2 with e2
      subst e2
      exact .inr ⟨g, Y2, s2, k2, e, e3⟩
theorem Went.tk {σ σ' : Nat → Option Slt} (h : Went σ σ') (n : Nat) (l : List E) : Tk n l σ' = Tk n l σ := by
  funext i k
  unfold Tk
  rcases h i with ⟨e, e'⟩ | ⟨g, Y, s, k', e, e'⟩
  · rw [e, e']
  · rw [e, e']
theorem Went.one {σ : Nat → Option Slt} {i : Nat} {g : Slt} (h : σ i = some g) (Y : Var) (s : AS) (k : Nat) : Went σ (upd1 σ i (some { g with Y := Y, s := s, k := k })) := fun j => by
  by_cases e : j = i
  · subst e
    exact .inr ⟨g, Y, s, k, h, upd1_eq ..⟩
  · rw [upd1_ne _ _ e]
    exact Went.refl σ j
theorem cnt_one {σ : Nat → Option Slt} {i : Nat} {g : Slt} (h : σ i = some g) (Y : Var) (s : AS) : cnt (upd1 σ i (some { g with Y := Y, s := s, k := g.k + 1 })) = bump (cnt σ) i := by
  funext j
  by_cases e : j = i
  · subst e
    have h1 : cnt σ j = g.k := by unfold cnt; rw [h]
    have h2 : cnt (upd1 σ j (some { g with Y := Y, s := s, k := g.k + 1 })) j = g.k + 1 := by unfold cnt; rw [upd1_eq]
    rw [h2, bump, if_pos rfl, h1]
  · unfold bump
    rw [if_neg e]
    unfold cnt
    rw [upd1_ne _ _ e]
theorem tk_none {n : Nat} {l : List E} {σ : Nat → Option Slt} {i k : Nat} (h : σ i = none) : Tk n l σ i k = false := by unfold Tk; rw [h]
theorem tk_some {n : Nat} {l : List E} {σ : Nat → Option Slt} {i k : Nat} {g : Slt} (h : σ i = some g) : Tk n l σ i k = true ↔ ¬ Ov n g.F.tt l g.F.ws g.f k := by unfold Tk; rw [h]; simp
/-- the blocks that a frame may write -/
def DS (D : Nat → Nat → Prop) : Nat → Prop := fun x => ∃ i, i < 6 ∧ D i x
section
variable {b0 : Nat} {w w' : World} {Z : Nat} {W H : Int} {AC : Option Addr} {cC : Nat} {l : List Int} {turn : Nat} {σ : Nat → Option Slt} {D : Nat → Nat → Prop}
theorem SL.run_ {n : Nat} {m : List E} {D : Nat → Prop} {g : Slt} (h : SL b0 w n m D g) : Rn n g.F.tt m (zs n) g.F.ws g.f g.k g.s := by
  obtain ⟨e1, e2, e3⟩ := h.net
  have := h.sr.run
  rw [e1, e2, e3] at this
  exact this
theorem SL.ov {n : Nat} {m : List E} {D : Nat → Prop} {g : Slt} (h : SL b0 w n m D g) : Ov n g.F.tt m g.F.ws g.f g.k ↔ g.s.rds.length = g.F.ws.length := Ov.iff h.run_
theorem SV.tk (h : SV b0 w Z W H AC cC l turn σ D) {i : Nat} (hi : i < 6) {g : Slt} (hg : σ i = some g) : Tk l.length (allM W H l l.length) σ i (cnt σ i) = true ↔ g.s.rds.length ≠ g.F.ws.length := by
  have h1 : cnt σ i = g.k := by unfold cnt; rw [hg]
  rw [h1, tk_some hg, (h.slot i hi g hg).ov]
/-- what Frame answers -/
def FrameSays (b0 : Nat) (w : World) (Z : Nat) (W H : Int) (AC : Option Addr) (cC : Nat) (l : List Int) (turn : Nat) (σ : Nat → Option Slt) (D : Nat → Nat → Prop) (x : Int) (e : Ending) (w' : World) : Prop :=
  ∃ (u turn' : Nat) (σ' : Nat → Option Slt) (D' : Nat → Nat → Prop), e = .returned (.tuple #[.int .i64 u, .int .i64 0]) ∧ SV b0 w' Z W H AC cC l turn' σ' D' ∧ Went σ σ' ∧ Run (Tk l.length (allM W H l l.length) σ) turn (cnt σ) u turn' (cnt σ') ∧ (u : Int) ≤ x ∧ ((u : Int) < x → Stuck (Tk l.length (allM W H l l.length) σ) (cnt σ')) ∧ Off (fun g => g = Z ∨ DS D g) w w' ∧ ∀ g, DS D' g → DS D g ∨ w.heap.size ≤ g
/-- a frame under way -/
structure Fm (b0 : Nat) (w : World) (Z : Nat) (W H : Int) (AC : Option Addr) (cC : Nat) (l : List Int) (turn : Nat) (σ : Nat → Option Slt) (D : Nat → Nat → Prop) (x : Int) (u idle : Nat) (t0 turn1 : Nat) (σ1 : Nat → Option Slt) (D1 : Nat → Nat → Prop) (w1 : World) : Prop where
  sv : SV b0 w1 Z W H AC cC l turn1 σ1 D1
  went : Went σ σ1
  run : Run (Tk l.length (allM W H l l.length) σ) turn (cnt σ) u t0 (cnt σ1)
  scan : Scan (Tk l.length (allM W H l l.length) σ) t0 (cnt σ1) idle turn1
  le : (u : Int) ≤ x
  bd : idle = 0 ∨ (u : Int) < x
  off : Off (fun g => g = Z ∨ DS D g) w w1
  new : ∀ g, DS D1 g → DS D g ∨ w.heap.size ≤ g
section
variable {x : Int} {u idle t0 turn1 : Nat} {σ1 : Nat → Option Slt} {D1 : Nat → Nat → Prop} {w1 w2 : World}
theorem Fm.start (h : SV b0 w Z W H AC cC l turn σ D) (hx : 0 ≤ x) : Fm b0 w Z W H AC cC l turn σ D x 0 0 turn turn σ D w :=
  ⟨h, Went.refl σ, Run.zero, Scan.start h.tl, hx, .inl rfl, Off.refl _ _, fun _ h => .inl h⟩
theorem Off.below_ {D : Nat → Prop} {w w1 w2 : World} (h : Off D w w1) (hb : Below w1.heap.size w1 w2) : Off D w w2 :=
  ⟨hb.os.trans h.os, hb.tape.trans h.tape, hb.output.trans h.output, Nat.le_trans h.size hb.size, fun g hg hn => (hb.block g (Nat.lt_of_lt_of_le hg h.size)).trans (h.block g hg hn)⟩
theorem Fm.keep (h : Fm b0 w Z W H AC cC l turn σ D x u idle t0 turn1 σ1 D1 w1) (hb : Below w1.heap.size w1 w2) : Fm b0 w Z W H AC cC l turn σ D x u idle t0 turn1 σ1 D1 w2 :=
  ⟨h.sv.keep hb, h.went, h.run, h.scan, h.le, h.bd, h.off.below_ hb, h.new⟩
/-- nothing to do in the slot by turn -/
theorem Fm.idle_ (h : Fm b0 w Z W H AC cC l turn σ D x u idle t0 turn1 σ1 D1 w1) (hi : idle < 6) (hux : (u : Int) < x) (hn : Tk l.length (allM W H l l.length) σ turn1 (cnt σ1 turn1) = false) (sv' : SV b0 w2 Z W H AC cC l ((turn1 + 1) % 6) σ1 D1) (ho : Off (fun g => g = Z ∨ DS D g) w w2) : Fm b0 w Z W H AC cC l turn σ D x u (idle + 1) t0 ((turn1 + 1) % 6) σ1 D1 w2 :=
  ⟨sv', h.went, h.run, h.scan.idle hi hn, h.le, .inr hux, ho, h.new⟩
/-- the search in the slot by turn took a step -/
theorem Fm.take_ (h : Fm b0 w Z W H AC cC l turn σ D x u idle t0 turn1 σ1 D1 w1) (hi : idle < 6) (hux : (u : Int) < x) {g : Slt} (hg : σ1 turn1 = some g) (hy : g.s.rds.length ≠ g.F.ws.length) (sv' : SV b0 w2 Z W H AC cC l ((turn1 + 1) % 6) σ1 D1) (ho : Off (fun g => g = Z ∨ DS D g) w w2) {w3 : World} {Y' : Var} {s' : AS} (hf : Fr g.P g.F g.Y Y' w2 w3) (hs : SR g.b w3 g.P g.F Y' g.f (g.k + 1) s') :
    Fm b0 w Z W H AC cC l turn σ D x (u + 1) 0 ((turn1 + 1) % 6) ((turn1 + 1) % 6) (upd1 σ1 turn1 (some { g with Y := Y', s := s', k := g.k + 1 })) (upd1 D1 turn1 (grow (D1 turn1) w2 w3)) w3 := by
  have htl := h.sv.tl
  obtain ⟨sv3, ho3⟩ := sv'.step htl hg hf hs
  have hT := (h.sv.tk htl hg).2 hy
  rw [h.went.tk] at hT
  obtain ⟨k1, k2, k3⟩ := h.scan.take hi hT
  have hr := Run.step h.run k1
  rw [k2, k3, ← cnt_one hg Y' s'] at hr
  refine ⟨sv3, h.went.trans (Went.one hg Y' s' _), hr, Scan.start (Nat.mod_lt _ (by decide)), by omega, .inl rfl, ho.trans ho3 (fun y hy => ?_), fun y hy => ?_⟩
  · rcases h.new y ⟨turn1, htl, hy⟩ with e | e
    · exact .inl (.inr e)
    · exact .inr e
  · obtain ⟨i, hi6, hyi⟩ := hy
    by_cases e : i = turn1
    · subst e
      rw [upd1_eq] at hyi
      rcases hyi with hyi | ⟨hyi, _⟩
      · exact h.new y ⟨i, hi6, hyi⟩
      · exact .inr (Nat.le_trans ho.size hyi)
    · rw [upd1_ne _ _ e] at hyi
      exact h.new y ⟨i, hi6, hyi⟩
/-- the frame's end -/
theorem Fm.end_ (h : Fm b0 w Z W H AC cC l turn σ D x u idle t0 turn1 σ1 D1 w1) (ht : turn < 6) (he : (u : Int) < x → 6 ≤ idle) : FrameSays b0 w Z W H AC cC l turn σ D x (.returned (.tuple #[.int .i64 u, .int .i64 0])) w1 := by
  have ht0 := h.run.turn ht
  have hs := h.scan
  have htu : turn1 = t0 ∧ ((u : Int) < x → Stuck (Tk l.length (allM W H l l.length) σ) (cnt σ1)) := by
    by_cases hu : (u : Int) < x
    · obtain rfl : idle = 6 := by have := hs.le; have := he hu; omega
      obtain ⟨k1, k2⟩ := hs.full ht0
      exact ⟨k2, fun _ => k1⟩
    · obtain rfl : idle = 0 := h.bd.resolve_right hu
      exact ⟨by have := hs.turn; omega, fun e => absurd e hu⟩
  obtain ⟨rfl, hst⟩ := htu
  exact ⟨u, turn1, σ1, D1, rfl, h.sv, h.went, h.run, h.le, hst, h.off, h.new⟩
theorem Fm.t0_lt (h : Fm b0 w Z W H AC cC l turn σ D x u idle t0 turn1 σ1 D1 w1) (ht : turn < 6) : t0 < 6 := h.run.turn ht
end
set_option maxRecDepth 100000 in
set_option maxHeartbeats 8000000 in
theorem frame_any (h : SV b0 w Z W H AC cC l turn σ D) (x : Int) (h0 : 0 ≤ x) (h1 : x ≤ 10000) :
    Calls Try.prog 13 #[.pointer (some ⟨Z, 0, none⟩), .int .i64 x] w fun e w' => FrameSays b0 w Z W H AC cC l turn σ D x e w' := by
  have HM0 := Lib.hid (Fm.start h h0)
  have HT := Lib.hid h.tl
  have c0 : ¬ x < 0 := by omega
  have c1 : ¬ 10000 < x := by omega
  clear h
  go_enter Try.func13, Try.ntmps13
  go_wp2
  go_loopw [6, 7] (fun i j wr => ∃ (u idle t0 turn1 : Nat) (σ1 : Nat → Option Slt) (D1 : Nat → Nat → Prop), i = .int .i64 u ∧ j = .int .i64 idle ∧ Hid (Fm b0 w Z W H AC cC l turn σ D x u idle t0 turn1 σ1 D1 wr)) (fun i j _ => (x.toNat - (intOf i).toNat) * 7 + (6 - (intOf j).toNat))
  case atStart => exact ⟨0, 0, turn, turn, σ, D, rfl, rfl, HM0⟩
  case round =>
    obtain ⟨u, idle, t0, turn1, σ1, D1, rfl, rfl, HM⟩ := hrel
    clear HM0
    by_cases hc : (u : Int) < x ∧ idle < 6
    · obtain ⟨hu, hi⟩ := hc
      have zi : (idle : Int) < 6 := by omega
      have htl := HM.out.sv.tl
      obtain ⟨a1, a2⟩ := HM.out.sv.at_ htl
      obtain ⟨_, _, _, z9, f9, zp⟩ := HM.out.sv.zs
      have zt : (turn1 : Int) < 6 := by omega
      have hw1 : IntKind.i64.wrap ((turn1 : Int) + 1) = turn1 + 1 := IntWalk.i64_in _ (by omega)
      have hmod : Int.tmod ((turn1 : Int) + 1) 6 = (((turn1 + 1) % 6 : Nat) : Int) := by rw [Int.tmod_eq_emod_of_nonneg (by omega)]; omega
      cases hg : σ1 turn1 with
      | none =>
        rw [hg] at a1
        have HG := Lib.hid hg
        clear hg
        change wr.cell? _ = some (.pointer none) at a1
        go_wp2
        go_region
        go_wp2
        have k0 := HM.out.keep (Below.refl _ _).drew
        obtain ⟨sv', ho⟩ := k0.sv.setT (t' := (turn1 + 1) % 6) (Nat.mod_lt _ (by decide))
        have hT : Tk l.length (allM W H l l.length) σ turn1 (cnt σ1 turn1) = false := by rw [← HM.out.went.tk]; exact tk_none HG.out
        have k1 := k0.idle_ hi hu hT sv' (k0.off.trans ho (fun y hy => .inl (.inl hy)))
        have K1 := Lib.hid k1
        clear k0 sv' ho hT k1 HM
        go_roundw
        case rel => exact ⟨u, idle + 1, t0, (turn1 + 1) % 6, σ1, D1, rfl, by go_num, K1⟩
        case measure => simp [intOf]; omega
      | some g =>
        rw [hg] at a1
        have HG := Lib.hid hg
        clear hg
        change wr.cell? _ = some (.pointer (some ⟨g.Q, 0, none⟩)) at a1
        go_wp2
        go_region
        go_upto_region 7 with fail
        obtain ⟨sv', ho⟩ := HM.out.sv.setT (t' := (turn1 + 1) % 6) (Nat.mod_lt _ (by decide))
        have hcast : (((turn1 + 1) % 6 : Nat) : Int) = ((turn1 : Int) + 1) % 6 := by omega
        rw [hcast] at sv' ho
        clear hcast
        have SV2 := Lib.hid (sv'.keep (Below.refl _ _).drew)
        have HO2 := Lib.hid ((HM.out.off.trans ho (fun y hy => .inl (.inl hy))).below_ (Below.refl _ _).drew)
        clear sv' ho a1 a2 z9 f9 zp hw1 hmod zt
        generalize (wr.setCell ⟨Z, 9, none⟩ (.int .i64 (((turn1 : Int) + 1) % 6))).drew = w2 at SV2 HO2 ⊢
        have hsl2 := SV2.out.slot turn1 htl g HG.out
        have q0 := blk_cell hsl2.z 0
        have zq := lt_of_block hsl2.z
        simp only [List.getElem?_toArray, List.getElem?_cons_zero, List.getElem?_cons_succ] at q0
        have kov := isover_any hsl2.sr.sm.am
        have KOV := Lib.hid kov
        clear kov hsl2
        go_wp2_with fail
        refine KOV.out.mono ?_
        rintro e w3 ⟨rfl, kk, rfl⟩
        have SV3 := Lib.hid (SV2.out.keep (below_drewN (Below.refl _ _) kk))
        have HO3 := Lib.hid (HO2.out.below_ (below_drewN (Below.refl _ _) kk))
        clear KOV SV2 HO2 q0 zq
        generalize w2.drewN kk = w3 at SV3 HO3 ⊢
        have hsl3 := SV3.out.slot turn1 htl g HG.out
        have hT0 := HM.out.sv.tk htl HG.out
        rw [HM.out.went.tk] at hT0
        by_cases hov : g.s.rds.length = g.F.ws.length
        · have hd : decide (g.s.rds.length = g.F.ws.length) = true := decide_eq_true hov
          have hT : Tk l.length (allM W H l l.length) σ turn1 (cnt σ1 turn1) = false := by
            rw [← Bool.not_eq_true]
            exact fun e => hT0.1 e hov
          have K1 := Lib.hid (HM.out.idle_ hi hu hT SV3.out HO3.out)
          rw [hd]
          clear hd hT hT0 hov hsl3 HM SV3 HO3
          go_wp2
          go_roundw
          case rel => exact ⟨u, idle + 1, t0, (turn1 + 1) % 6, σ1, D1, rfl, by go_num, K1⟩
          case measure => simp [intOf]; omega
        · have hd : decide (g.s.rds.length = g.F.ws.length) = false := decide_eq_false hov
          have q0 := blk_cell hsl3.z 0
          have zq := lt_of_block hsl3.z
          simp only [List.getElem?_toArray, List.getElem?_cons_zero, List.getElem?_cons_succ] at q0
          have kst := step_any hsl3.fo hsl3.po hsl3.sr 1 (by omega)
          have KST := Lib.hid kst
          have HOV := Lib.hid hov
          have HS3 := Lib.hid hsl3
          rw [hd]
          clear hd hT0 kst hov hsl3
          go_wp2_with fail
          refine KST.out.mono ?_
          rintro e w4 ⟨j, s', Y', rfl, hsr, hfr, hj1, hj2⟩
          obtain rfl : j = 1 := by
            have h01 : j = 0 ∨ j = 1 := by omega
            rcases h01 with rfl | rfl
            · exfalso
              have e1 := hsr.run.det HS3.out.sr.run
              have e2 := hj2 (by decide)
              rw [e1] at e2
              exact HOV.out e2
            · rfl
          have K1 := Lib.hid (HM.out.take_ hi hu HG.out HOV.out SV3.out HO3.out hfr hsr)
          have hwu : IntKind.i64.wrap ((u : Int) + 1) = u + 1 := IntWalk.i64_in _ (by omega)
          clear KST HOV HS3 HM SV3 HO3 hsr hfr hj1 hj2 q0 zq
          go_wp2
          go_roundw
          case rel => exact ⟨u + 1, 0, (turn1 + 1) % 6, (turn1 + 1) % 6, _, _, by go_num, rfl, K1⟩
          case measure => simp [intOf]; omega
    · have hfin := HM.out.end_ HT.out (fun hu => by omega)
      have HFIN := Lib.hid hfin
      clear hfin HM
      by_cases hu : (u : Int) < x
      · have zi : ¬ (idle : Int) < 6 := by omega
        go_wp2
        exact bodyPost_ret (v := .tuple #[.int .i64 u, .int .i64 0]) (by simp [results, Try.results13, go_sem]) rfl HFIN.out
      · go_wp2
        exact bodyPost_ret (v := .tuple #[.int .i64 u, .int .i64 0]) (by simp [results, Try.results13, go_sem]) rfl HFIN.out
end
end Go.Proofs.Ytpoolpaagbeokaa.Serve

namespace Go.Proofs.Ytpoolpaagbeokaa.Serve
open Go.RowKit Go.Proofs.Ytpoolpaagbeokaa NetLaw BellLaw StarLaw AraLaw Go.Proofs.Ytpoolpaagbeokaa.Net Go.Proofs.Ytpoolpaagbeokaa.Std Go.Proofs.Ytpoolpaagbeokaa.Flow Go.Proofs.Ytpoolpaagbeokaa.Ara Go.Proofs.Ytpoolpaagbeokaa.GroundLaw
open Go.Proofs.Ytpoolpaagbeokaa.GridLaw hiding E
open Go.Proofs.Ytpoolpaagbeokaa.ServeLaw
set_option linter.unusedSimpArgs false
set_option linter.unusedVariables false
/-- a slot's block -/
def slotC (g : Slt) : Array Value := #[.pointer (some ⟨g.P, 0, none⟩), .int .i64 g.f, .int .i64 g.F.tt, .slice g.AW g.F.ws.length g.cW, .int .i64 g.T.num, .int .i64 g.T.den, .slice g.T.A g.T.k g.T.c, .int .i64 g.T.cost, .int .i64 g.T.done, .bool g.sm]
/-- nothing was told -/
def T0 : RE := ⟨0, 0, none, 0, 0, 0, 0, []⟩
/-- the search of a slot is made anew -/
theorem SL.renew {b0 : Nat} {w w' : World} {n : Nat} {l m : List E} {D : Nat → Prop} {g g' : Slt} (h : SL b0 w n l D g) (hb0 : b0 ≤ w.heap.size) (hQ : g'.Q = g.Q) (hAW : g'.AW = g.AW) (hcW : g'.cW = g.cW) (hws : g'.F.ws = g.F.ws) (ho : Off (fun x => x = g.Q) w w')
    (hz : w'.heap[g.Q]? = some (.cells (slotC g') 89 (0, 0))) (sr : SR g'.b w' g'.P g'.F g'.Y g'.f g'.k g'.s) (fo : FO g'.F) (po : PO g'.F g'.f) (net : g'.F.n = n ∧ g'.F.l = m ∧ g'.F.h = List.replicate n 0)
    (hT : Own w' b0 3 1 ci (.slice g'.T.A g'.T.k g'.T.c) g'.T.path) (hk : g'.T.k ≤ 64) (hTn : ∀ x, ob g'.T.A = some x → (D x ∨ w.heap.size ≤ x) ∧ x < g'.b) (hb : w.heap.size ≤ g'.b) : SL b0 w' n m (grow D w w') g' := by
  have hAQ : ∀ x, ob g.AW = some x → x ≠ g.Q := fun x e e2 => h.wt.ne_ h.z (by decide) ((ob_ ..).trans (e2 ▸ e))
  refine ⟨by rw [hQ]; exact hz, sr, fo, po, net, ?_, hT, hk, by rw [hws]; exact h.wc, fun x hx => ?_, fun x hx => ?_, fun x hx ha => ?_⟩
  · rw [hAW, hcW, hws]
    exact own_off h.wt ho (fun x e => hAQ x e)
  · rcases hx with e | e | e | ha
    · exact .inl (h.inn x (.inl (e.trans hQ)))
    · rw [hAW] at e; exact .inl (h.inn x (.inr (.inl e)))
    · rcases (hTn x e).1 with e1 | e1
      · exact .inl e1
      · exact .inr ⟨e1, (hT.base_ x ((ob_ ..).trans e)).2⟩
    · have := sr.sm.am.all ha
      exact .inr ⟨by omega, this.2⟩
  · rcases hx with hx | ⟨hx1, hx2⟩
    · exact ⟨(h.dom x hx).1, Nat.lt_of_lt_of_le (h.dom x hx).2 ho.size⟩
    · exact ⟨by omega, hx2⟩
  · have h1 := sr.sm.am.all ha
    rcases hx with e | e | e
    · have h2 := (h.dom x (h.inn x (.inl (e.trans hQ)))).2; omega
    · rw [hAW] at e
      have h2 := (h.dom x (h.inn x (.inr (.inl e)))).2; omega
    · have h2 := (hTn x e).2; omega
/-- a slot that is new: its blocks are those between m and the end -/
theorem SL.fresh {b0 m : Nat} {w : World} {n : Nat} {l : List E} {g : Slt} (hb0 : b0 ≤ m) (hz : w.heap[g.Q]? = some (.cells (slotC g) 89 (0, 0))) (hQm : m ≤ g.Q) (hT : g.T = T0) (sr : SR g.b w g.P g.F g.Y g.f g.k g.s) (hbm : m ≤ g.b) (fo : FO g.F) (po : PO g.F g.f) (net : g.F.n = n ∧ g.F.l = l ∧ g.F.h = List.replicate n 0)
    (hwc : wcode g.F.ws = 0) (wt : Own w m 39 2 cp (.slice g.AW g.F.ws.length g.cW) g.F.ws) (hsep : ∀ x, (x = g.Q ∨ ob g.AW = some x) → ¬ All g.P g.F g.Y x) : SL b0 w n l (fun x => m ≤ x ∧ x < w.heap.size) g := by
  have hTA : g.T.A = none := by rw [hT]; rfl
  have hTno : ∀ x, ob g.T.A ≠ some x := fun x e => by rw [hTA] at e; cases e
  refine ⟨hz, sr, fo, po, net, wt.mono hb0, ?_, by rw [hT]; decide, hwc, fun x hx => ?_, fun x hx => ⟨by omega, hx.2⟩, fun x hx => ?_⟩
  · rw [hT]; exact Own.nil_
  · rcases hx with e | e | e | ha
    · subst e; exact ⟨hQm, lt_of_block hz⟩
    · exact wt.base_ x ((ob_ ..).trans e)
    · exact absurd e (hTno x)
    · have := sr.sm.am.all ha; exact ⟨by omega, this.2⟩
  · rcases hx with e | e | e
    · exact hsep x (.inl e)
    · exact hsep x (.inr e)
    · exact absurd e (hTno x)
/-- a service whose slots have nets of their own -/
structure SVM (b0 : Nat) (w : World) (Z : Nat) (W H : Int) (AC : Option Addr) (cC : Nat) (l : List Int) (turn : Nat) (σ : Nat → Option Slt) (D : Nat → Nat → Prop) (M : Nat → List E) : Prop where
  z : w.heap[Z]? = some (.cells #[.int .i64 W, .int .i64 H, .slice AC l.length cC, sp (σ 0), sp (σ 1), sp (σ 2), sp (σ 3), sp (σ 4), sp (σ 5), .int .i64 turn] 84 (0, 0))
  zl : b0 ≤ Z
  cells : Own w b0 3 1 ci (.slice AC l.length cC) l
  good : GGood W H l
  tl : turn < 6
  slot : ∀ i, i < 6 → ∀ g, σ i = some g → SL b0 w l.length (M i) (D i) g
  sepD : ∀ i j, i < 6 → j < 6 → i ≠ j → ∀ x, D i x → ¬ D j x
  out : ∀ i, i < 6 → ∀ x, D i x → x ≠ Z ∧ ob AC ≠ some x
  dom : ∀ i, i < 6 → ∀ x, D i x → b0 ≤ x ∧ x < w.heap.size
section
variable {b0 : Nat} {w w' : World} {Z : Nat} {W H : Int} {AC : Option Addr} {cC : Nat} {l : List Int} {turn : Nat} {σ : Nat → Option Slt} {D : Nat → Nat → Prop} {M : Nat → List E}
theorem SV.keepD (h : SV b0 w Z W H AC cC l turn σ D) : SV b0 w.drew Z W H AC cC l turn σ D := h.keep (below_drewN (Below.refl _ _) 1)
theorem SV.toM (h : SV b0 w Z W H AC cC l turn σ D) : SVM b0 w Z W H AC cC l turn σ D (fun _ => allM W H l l.length) := ⟨h.z, h.zl, h.cells, h.good, h.tl, h.slot, h.sepD, h.out, h.dom⟩
theorem SVM.toSV (h : SVM b0 w Z W H AC cC l turn σ D M) (hM : ∀ i, i < 6 → M i = allM W H l l.length) : SV b0 w Z W H AC cC l turn σ D := ⟨h.z, h.zl, h.cells, h.good, h.tl, fun i hi g e => by have := h.slot i hi g e; rw [hM i hi] at this; exact this, h.sepD, h.out, h.dom⟩
theorem SVM.size (h : SVM b0 w Z W H AC cC l turn σ D M) : b0 ≤ w.heap.size := Nat.le_trans h.zl (Nat.le_of_lt (lt_of_block h.z))
theorem SVM.keep (h : SVM b0 w Z W H AC cC l turn σ D M) (hb : Below w.heap.size w w') : SVM b0 w' Z W H AC cC l turn σ D M :=
  ⟨blk_below h.z hb (lt_of_block h.z), h.zl, h.cells.keep hb, h.good, h.tl, fun i hi g e => (h.slot i hi g e).off (Off.of (D := fun _ => False) hb) (fun _ _ hx => hx), h.sepD, h.out, fun i hi x hx => ⟨(h.dom i hi x hx).1, Nat.lt_of_lt_of_le (h.dom i hi x hx).2 hb.size⟩⟩
theorem SVM.at_ (h : SVM b0 w Z W H AC cC l turn σ D M) {i : Nat} (hi : i < 6) : w.cell? ⟨Z, 3 + i, none⟩ = some (sp (σ i)) ∧ w.frozen? ⟨Z, 3 + i, none⟩ = false := by
  refine ⟨?_, blk_free h.z _⟩
  rw [blk_cell h.z]
  have : i = 0 ∨ i = 1 ∨ i = 2 ∨ i = 3 ∨ i = 4 ∨ i = 5 := by omega
  rcases this with rfl | rfl | rfl | rfl | rfl | rfl <;> rfl
theorem SVM.zs (h : SVM b0 w Z W H AC cC l turn σ D M) : w.cell? ⟨Z, 0, none⟩ = some (.int .i64 W) ∧ w.cell? ⟨Z, 1, none⟩ = some (.int .i64 H) ∧ w.cell? ⟨Z, 2, none⟩ = some (.slice AC l.length cC) ∧ w.cell? ⟨Z, 9, none⟩ = some (.int .i64 turn) ∧ w.frozen? ⟨Z, 9, none⟩ = false ∧ Z < w.heap.size := by
  refine ⟨?_, ?_, ?_, ?_, blk_free h.z 9, lt_of_block h.z⟩ <;> (rw [blk_cell h.z]; rfl)
/-- one slot changed: the others are as they were -/
theorem SVM.change (h : SVM b0 w Z W H AC cC l turn σ D M) {i : Nat} (hi : i < 6) {g g' : Slt} (hg : σ i = some g) (hQ : g'.Q = g.Q) {m : List E} (h1 : SL b0 w' l.length m (grow (D i) w w') g') (ho : Off (D i) w w') :
    SVM b0 w' Z W H AC cC l turn (upd1 σ i (some g')) (upd1 D i (grow (D i) w w')) (upd1 M i m) := by
  have hsp : ∀ j, sp (upd1 σ i (some g') j) = sp (σ j) := fun j => by
    by_cases e : j = i
    · subst e; rw [upd1_eq, hg]; unfold sp; simp only [hQ]
    · rw [upd1_ne _ _ e]
  have hZ : ¬ D i Z := fun hd => (h.out i hi Z hd).1 rfl
  refine ⟨?_, h.zl, own_off h.cells ho (fun x e hd => (h.out i hi x hd).2 e), h.good, h.tl, fun j hj gj ej => ?_, fun j j' hj hj' hne x hx hx' => ?_, fun j hj x hx => ?_, fun j hj x hx => ?_⟩
  · simp only [hsp]
    exact blk_off h.z ho hZ
  · by_cases e : j = i
    · subst e
      rw [upd1_eq] at ej ⊢
      rw [upd1_eq]
      injection ej with ej
      subst ej
      exact h1
    · rw [upd1_ne _ _ e] at ej ⊢
      rw [upd1_ne _ _ e]
      exact (h.slot j hj gj ej).off ho (fun x hx hx2 => h.sepD j i hj hi e x hx hx2)
  · by_cases e : j = i
    · subst e
      rw [upd1_eq] at hx
      rw [upd1_ne _ _ (fun e => hne e.symm)] at hx'
      rcases hx with hx | ⟨hx, _⟩
      · exact h.sepD j j' hj hj' hne x hx hx'
      · have := (h.dom j' hj' x hx').2; omega
    · rw [upd1_ne _ _ e] at hx
      by_cases e' : j' = i
      · subst e'
        rw [upd1_eq] at hx'
        rcases hx' with hx' | ⟨hx', _⟩
        · exact h.sepD j j' hj hj' hne x hx hx'
        · have := (h.dom j hj x hx).2; omega
      · rw [upd1_ne _ _ e'] at hx'
        exact h.sepD j j' hj hj' hne x hx hx'
  · by_cases e : j = i
    · subst e
      rw [upd1_eq] at hx
      rcases hx with hx | ⟨hx, _⟩
      · exact h.out j hj x hx
      · exact ⟨fun e => by have := lt_of_block h.z; omega, fun e => by have := (h.cells.base_ x ((ob_ ..).trans e)).2; omega⟩
    · rw [upd1_ne _ _ e] at hx
      exact h.out j hj x hx
  · by_cases e : j = i
    · subst e
      rw [upd1_eq] at hx
      rcases hx with hx | ⟨hx1, hx2⟩
      · exact ⟨(h.dom j hj x hx).1, Nat.lt_of_lt_of_le (h.dom j hj x hx).2 ho.size⟩
      · exact ⟨Nat.le_trans h.size hx1, hx2⟩
    · rw [upd1_ne _ _ e] at hx
      exact ⟨(h.dom j hj x hx).1, Nat.lt_of_lt_of_le (h.dom j hj x hx).2 ho.size⟩
/-- a request takes a slot -/
theorem SV.add (h : SV b0 w Z W H AC cC l turn σ D) (hb : Below w.heap.size w w') {i : Nat} (hi : i < 6) (hn : σ i = none) {g : Slt} (hs : SL b0 w' l.length (allM W H l l.length) (fun x => w.heap.size ≤ x ∧ x < w'.heap.size) g) :
    SV b0 (w'.setCell ⟨Z, 3 + i, none⟩ (.pointer (some ⟨g.Q, 0, none⟩))) Z W H AC cC l turn (upd1 σ i (some g)) (upd1 D i (fun x => w.heap.size ≤ x ∧ x < w'.heap.size)) ∧ Off (fun x => x = Z) w (w'.setCell ⟨Z, 3 + i, none⟩ (.pointer (some ⟨g.Q, 0, none⟩))) := by
  have h2 := h.keep hb
  have ho : Off (fun x => x = Z) w' (w'.setCell ⟨Z, 3 + i, none⟩ (.pointer (some ⟨g.Q, 0, none⟩))) := ⟨rfl, rfl, rfl, by simp [World.setCell], fun g hg hn => Below.heap_setCell _ _ _ _ hn⟩
  have hZ := lt_of_block h.z
  have hsz : (w'.setCell ⟨Z, 3 + i, none⟩ (.pointer (some ⟨g.Q, 0, none⟩))).heap.size = w'.heap.size := by simp [World.setCell]
  refine ⟨⟨?_, h.zl, h2.cells.setCell (h2.cells.ne_ h2.z (by decide)) _, h.good, h.tl, fun j hj gj ej => ?_, fun j j' hj hj' hne x hx hx' => ?_, fun j hj x hx => ?_, fun j hj x hx => ?_⟩, ?_⟩
  · have hz := blk_set h2.z (3 + i) (.pointer (some ⟨g.Q, 0, none⟩))
    rw [hz]
    have : i = 0 ∨ i = 1 ∨ i = 2 ∨ i = 3 ∨ i = 4 ∨ i = 5 := by omega
    rcases this with rfl | rfl | rfl | rfl | rfl | rfl <;> rfl
  · by_cases e : j = i
    · subst e
      rw [upd1_eq] at ej ⊢
      injection ej with ej
      subst ej
      exact hs.off ho (fun x hx hz => by omega)
    · rw [upd1_ne _ _ e] at ej ⊢
      exact (h2.slot j hj gj ej).off ho (fun x hx hz => (h.out j hj x hx).1 hz)
  · by_cases e : j = i
    · subst e
      rw [upd1_eq] at hx
      rw [upd1_ne _ _ (fun e => hne e.symm)] at hx'
      have := (h.dom j' hj' x hx').2; omega
    · rw [upd1_ne _ _ e] at hx
      by_cases e' : j' = i
      · subst e'
        rw [upd1_eq] at hx'
        have := (h.dom j hj x hx).2; omega
      · rw [upd1_ne _ _ e'] at hx'
        exact h.sepD j j' hj hj' hne x hx hx'
  · by_cases e : j = i
    · subst e
      rw [upd1_eq] at hx
      exact ⟨fun e => by omega, fun e => by have := (h.cells.base_ x ((ob_ ..).trans e)).2; omega⟩
    · rw [upd1_ne _ _ e] at hx
      exact h.out j hj x hx
  · rw [hsz]
    by_cases e : j = i
    · subst e
      rw [upd1_eq] at hx
      exact ⟨Nat.le_trans h.size hx.1, hx.2⟩
    · rw [upd1_ne _ _ e] at hx
      exact h2.dom j hj x hx
  · exact (Off.of (D := fun x => x = Z) hb).trans ho (fun x hx => .inl hx)
/-- the ground changes in one place -/
theorem SV.ground_ (h : SV b0 w Z W H AC cC l turn σ D) {S k : Nat} (hA : AC = some ⟨S, 0, none⟩) (hk : k < l.length) {v : Int} (hg : GGood W H (l.set k v)) :
    SVM b0 (w.setCell ⟨S, k, none⟩ (.int .i64 v)) Z W H AC cC (l.set k v) turn σ D (fun _ => allM W H l l.length) ∧ Off (fun x => ob AC = some x) w (w.setCell ⟨S, k, none⟩ (.int .i64 v)) := by
  have ho : Off (fun x => ob AC = some x) w (w.setCell ⟨S, k, none⟩ (.int .i64 v)) := ⟨rfl, rfl, rfl, by simp [World.setCell], fun g hg hn => Below.heap_setCell _ _ _ _ (fun e => hn (by rw [hA, e]; rfl))⟩
  have hZ : ob AC ≠ some Z := fun e => h.cells.ne_ h.z (by decide) ((ob_ ..).trans e)
  refine ⟨⟨?_, h.zl, ?_, hg, h.tl, fun i hi g e => ?_, h.sepD, h.out, fun i hi x hx => ?_⟩, ho⟩
  · rw [List.length_set]
    exact blk_off h.z ho hZ
  · have h1 := h.cells
    subst hA
    rw [List.length_set]
    exact (own_setG rfl h1 k hk v)
  · rw [List.length_set]
    exact (h.slot i hi g e).off ho (fun x hx hx2 => (h.out i hi x hx).2 hx2)
  · exact ⟨(h.dom i hi x hx).1, Nat.lt_of_lt_of_le (h.dom i hi x hx).2 ho.size⟩
end
end Go.Proofs.Ytpoolpaagbeokaa.Serve
