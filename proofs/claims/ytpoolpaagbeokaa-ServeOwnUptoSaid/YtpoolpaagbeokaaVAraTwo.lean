/- Plain facts on the search that goes on (Likhachev, Gordon, Thrun): states, steps, rounds; there is but one run. No Go in sight. -/
/- Plain facts on the search that goes on: what holds in each state, and that a round's way is within its weight. No Go in sight. -/
/- Plain facts on the search that goes on: what holds along a run; its rounds. No Go in sight. -/
/- Plain facts on the search that goes on: the first state, all states. No Go in sight. -/
/- Plain facts on the search that goes on, on the small net. No Go in sight. -/
import Derived.Test.YtpoolpaagbeokaaVStarWait
import Derived.Test.YtpoolpaagbeokaaVWayLaw
import Derived.Test.YtpoolpaagbeokaaVTopLaw
namespace Go.Proofs.Ytpoolpaagbeokaa.AraLaw
open NetLaw BellLaw StarLaw WalkLaw
set_option linter.unusedSimpArgs false
set_option linter.unusedVariables false
/-- a round that was told: its weight, its way, its cost, the steps until then -/
structure Rnd where
  num : Int
  den : Int
  path : List Int
  cost : Int
  done : Int
/-- costs, ways back, who was looked from in this round, who waits, who is late, the steps, the rounds -/
structure AS where
  C : List Int
  P : List Int
  dn : List Bool
  op : Int → Bool
  lt : Int → Bool
  sp : Int
  rds : List Rnd
def db (l : List Bool) (v : Int) : Bool := l.getD v.toNat false
def up (f : Int → Bool) (v : Int) (b : Bool) : Int → Bool := fun u => if u = v then b else f u
/-- reach a place for less -/
def reach1 (h : List Int) (v c u : Int) (s : AS) : AS :=
  if c < dg s.C v ∧ dg h v ≠ far then
    { s with C := s.C.set v.toNat c, P := s.P.set v.toNat u, op := if db s.dn v = true then s.op else up s.op v true, lt := if db s.dn v = true then up s.lt v true else s.lt }
  else s
/-- a place that is about to be looked from -/
def mark (v : Int) (s : AS) : AS := { s with dn := s.dn.set v.toNat true, op := up s.op v false, sp := s.sp + 1 }
def expand (l : List E) (h : List Int) (v : Int) (s : AS) : AS := (oe l v).foldl (fun s e => reach1 h e.2.1 (dg s.C v + e.2.2) v s) (mark v s)
def Op (N : Nat) (s : AS) (v : Int) : Prop := (0 ≤ v ∧ v < N) ∧ s.op v = true
/-- the key of a place, by a weight -/
def kyA (w : Int × Int) (h : List Int) (s : AS) (v : Int) : Tr := (w.2 * dg s.C v + w.1 * dg h v, dg h v, v)
def NxA (N : Nat) (w : Int × Int) (h : List Int) (s : AS) (v : Int) : Prop := Op N s v ∧ ∀ u, Op N s u → StarLaw.lt3 (kyA w h s u) (kyA w h s v) = false
theorem NxA.unique {N : Nat} {w : Int × Int} {h : List Int} {s : AS} {u v : Int} (hu : NxA N w h s u) (hv : NxA N w h s v) : u = v := by
  have h1 := StarLaw.lt3_no.1 (hu.2 v hv.1)
  have h2 := StarLaw.lt3_no.1 (hv.2 u hu.1)
  simp only [kyA] at h1 h2
  omega
/-- the way told last -/
def prevW (s : AS) : List Int × Int := match s.rds.getLast? with | some r => (r.path, r.cost) | none => ([], far)
/-- the best way so far -/
def BestA (N tt : Nat) (l : List E) (s : AS) (w : List Int × Int) : Prop :=
  (¬ dg s.C tt < far ∧ w = prevW s) ∨ (dg s.C tt < far ∧ ∃ cs, Ch s.P tt cs ∧ w = if (cost N l cs.reverse).1 < (prevW s).2 then (cs.reverse, (cost N l cs.reverse).1) else prevW s)
theorem BestA.unique {N tt : Nat} {l : List E} {s : AS} {w w' : List Int × Int} (h : BestA N tt l s w) (h' : BestA N tt l s w') : w = w' := by
  rcases h with ⟨h1, h2⟩ | ⟨h1, cs, h2, h3⟩ <;> rcases h' with ⟨k1, k2⟩ | ⟨k1, cs', k2, k3⟩
  · rw [h2, k2]
  · exact absurd k1 h1
  · exact absurd h1 k1
  · rw [h3, k3, h2.unique k2]
def cwt (ws : List (Int × Int)) (s : AS) : Int × Int := ws.getD s.rds.length (1, 1)
def told (ws : List (Int × Int)) (w : List Int × Int) (s : AS) : AS := { s with rds := s.rds ++ [⟨(cwt ws s).1, (cwt ws s).2, w.1, w.2, s.sp⟩] }
def again (s : AS) : AS := { s with op := fun v => s.op v || s.lt v, lt := fun _ => false, dn := List.replicate s.dn.length false }
/-- a round is at its end -/
def Fin (N tt : Nat) (w : Int × Int) (h : List Int) (s : AS) : Prop := (∀ v, ¬ Op N s v) ∨ ∃ v, NxA N w h s v ∧ dg s.C tt ≠ far ∧ ¬ (kyA w h s v).1 < (kyA w h s tt).1
def Wt (N tt : Nat) (w : Int × Int) (h : List Int) (s : AS) : Prop := ∃ v, NxA N w h s v ∧ (dg s.C tt = far ∨ (kyA w h s v).1 < (kyA w h s tt).1)
theorem fin_wt {N tt : Nat} {w : Int × Int} {h : List Int} {s : AS} (hf : Fin N tt w h s) (hw : Wt N tt w h s) : False := by
  obtain ⟨v, hv, hc⟩ := hw
  rcases hf with h1 | ⟨u, hu, h2, h3⟩
  · exact h1 v hv.1
  · rw [hu.unique hv] at h3
    rcases hc with h4 | h4
    · exact h2 h4
    · exact h3 h4
section
variable (N tt : Nat) (l : List E) (h : List Int) (ws : List (Int × Int))
/-- rounds of which nothing is left to do are told -/
inductive Stl : AS → AS → Prop
  | over {s : AS} : s.rds.length = ws.length → Stl s s
  | wait {s : AS} : s.rds.length < ws.length → Wt N tt (cwt ws s) h s → Stl s s
  | last {s : AS} {w : List Int × Int} : s.rds.length + 1 = ws.length → Fin N tt (cwt ws s) h s → BestA N tt l s w → Stl s (told ws w s)
  | next {s s' : AS} {w : List Int × Int} : s.rds.length + 1 < ws.length → Fin N tt (cwt ws s) h s → BestA N tt l s w → Stl (again (told ws w s)) s' → Stl s s'
def init (fr : Nat) : AS := reach1 h fr 0 (-1) ⟨List.replicate N far, List.replicate N (-1), List.replicate N false, fun _ => false, fun _ => false, 0, []⟩
/-- the state behind so many steps -/
inductive Rn (fr : Nat) : Nat → AS → Prop
  | start {s : AS} : Stl N tt l h ws (init N h fr) s → Rn fr 0 s
  | step {k : Nat} {s s' : AS} {v : Int} : Rn fr k s → s.rds.length < ws.length → NxA N (cwt ws s) h s v → Stl N tt l h ws (expand l h v s) s' → Rn fr (k + 1) s'
end
section
variable {N tt fr : Nat} {l : List E} {h : List Int} {ws : List (Int × Int)}
theorem Stl.det {s a b : AS} (h1 : Stl N tt l h ws s a) (h2 : Stl N tt l h ws s b) : a = b := by
  induction h1 generalizing b with
  | over e =>
    cases h2 with
    | over _ => rfl
    | wait e' _ => omega
    | last e' _ _ => omega
    | next e' _ _ _ => omega
  | wait e hw =>
    cases h2 with
    | over _ => rfl
    | wait _ _ => rfl
    | last _ hf _ => exact absurd hw (fun hw => fin_wt hf hw)
    | next _ hf _ _ => exact absurd hw (fun hw => fin_wt hf hw)
  | last e hf hb =>
    cases h2 with
    | over e' => omega
    | wait _ hw => exact absurd hw (fun hw => fin_wt hf hw)
    | last _ _ hb' => rw [hb.unique hb']
    | next e' _ _ _ => omega
  | next e hf hb _ ih =>
    cases h2 with
    | over e' => omega
    | wait _ hw => exact absurd hw (fun hw => fin_wt hf hw)
    | last e' _ _ => omega
    | next _ _ hb' h2 =>
      rw [hb.unique hb'] at ih
      exact ih h2
/-- what is behind settle: over, or something waits -/
theorem Stl.stop {s a : AS} (h1 : Stl N tt l h ws s a) : a.rds.length = ws.length ∨ (a.rds.length < ws.length ∧ Wt N tt (cwt ws a) h a) := by
  induction h1 with
  | over e => exact .inl e
  | wait e hw => exact .inr ⟨e, hw⟩
  | last e _ _ => exact .inl (by simp [told, e])
  | next _ _ _ _ ih => exact ih
theorem Stl.pre {s a : AS} (h1 : Stl N tt l h ws s a) : ∃ r, a.rds = s.rds ++ r := by
  induction h1 with
  | over _ => exact ⟨[], by simp⟩
  | wait _ _ => exact ⟨[], by simp⟩
  | last _ _ _ => exact ⟨_, rfl⟩
  | @next s s' w _ _ _ _ ih =>
    obtain ⟨r, hr⟩ := ih
    refine ⟨⟨(cwt ws s).1, (cwt ws s).2, w.1, w.2, s.sp⟩ :: r, ?_⟩
    rw [hr]
    simp [again, told]
theorem reach1_rds (h : List Int) (v c u : Int) (s : AS) : (reach1 h v c u s).rds = s.rds ∧ (reach1 h v c u s).sp = s.sp ∧ (reach1 h v c u s).dn = s.dn := by
  unfold reach1
  split <;> exact ⟨rfl, rfl, rfl⟩
theorem expand_rds (l : List E) (h : List Int) (v : Int) (s : AS) : (expand l h v s).rds = s.rds ∧ (expand l h v s).sp = s.sp + 1 ∧ (expand l h v s).dn = s.dn.set v.toNat true := by
  unfold expand
  have key : ∀ (es : List E) (s' : AS), (es.foldl (fun s e => reach1 h e.2.1 (dg s.C v + e.2.2) v s) s').rds = s'.rds ∧ (es.foldl (fun s e => reach1 h e.2.1 (dg s.C v + e.2.2) v s) s').sp = s'.sp ∧ (es.foldl (fun s e => reach1 h e.2.1 (dg s.C v + e.2.2) v s) s').dn = s'.dn := by
    intro es
    induction es with
    | nil => intro s'; exact ⟨rfl, rfl, rfl⟩
    | cons e es ih =>
      intro s'
      rw [List.foldl_cons]
      obtain ⟨a, b, c⟩ := ih (reach1 h e.2.1 (dg s'.C v + e.2.2) v s')
      obtain ⟨a', b', c'⟩ := reach1_rds h e.2.1 (dg s'.C v + e.2.2) v s'
      exact ⟨a.trans a', b.trans b', c.trans c'⟩
  exact key _ _
theorem Rn.det {k : Nat} {s s' : AS} (h1 : Rn N tt l h ws fr k s) (h2 : Rn N tt l h ws fr k s') : s = s' := by
  induction h1 generalizing s' with
  | start a =>
    cases h2 with
    | start b => exact a.det b
  | step hr hl hv hs ih =>
    cases h2 with
    | step hr' hl' hv' hs' =>
      have e := ih hr'
      subst e
      have e := hv.unique hv'
      subst e
      exact hs.det hs'
/-- all states on the way to one -/
theorem Rn.upto {m : Nat} {s : AS} (h1 : Rn N tt l h ws fr m s) : ∀ k, k ≤ m → ∃ s0 r, Rn N tt l h ws fr k s0 ∧ s.rds = s0.rds ++ r ∧ (k < m → s0.rds.length < ws.length) := by
  induction h1 with
  | start a =>
    intro k hk
    obtain rfl : k = 0 := by omega
    exact ⟨_, [], Rn.start a, by simp, fun h => absurd h (Nat.lt_irrefl 0)⟩
  | @step m s s' v hr hl hv hs ih =>
    intro k hk
    by_cases he : k = m + 1
    · subst he
      exact ⟨_, [], Rn.step hr hl hv hs, by simp, fun h => absurd h (Nat.lt_irrefl _)⟩
    · obtain ⟨s0, r, h1, h2, h3⟩ := ih k (by omega)
      obtain ⟨r', hr'⟩ := hs.pre
      rw [(expand_rds l h v s).1] at hr'
      refine ⟨s0, r ++ r', h1, by rw [hr', h2, List.append_assoc], fun _ => ?_⟩
      have := congrArg List.length h2
      rw [List.length_append] at this
      omega
theorem Rn.one {k m : Nat} {s s' : AS} (h1 : Rn N tt l h ws fr k s) (h2 : Rn N tt l h ws fr m s') (ho : s.rds.length = ws.length) (ho' : s'.rds.length = ws.length) : k = m ∧ s = s' := by
  have key : ∀ {k m : Nat} {s s' : AS}, Rn N tt l h ws fr k s → Rn N tt l h ws fr m s' → s.rds.length = ws.length → k < m → False := fun h1 h2 ho hlt => by
    obtain ⟨s0, r, h3, _, h4⟩ := h2.upto _ (Nat.le_of_lt hlt)
    rw [h1.det h3] at ho
    have := h4 hlt
    omega
  rcases Nat.lt_trichotomy k m with e | e | e
  · exact absurd (key h1 h2 ho e) (fun h => h)
  · subst e; exact ⟨rfl, h1.det h2⟩
  · exact absurd (key h2 h1 ho' e) (fun h => h)
theorem Rn.sp {k : Nat} {s : AS} (h1 : Rn N tt l h ws fr k s) : s.sp = k := by
  have stl : ∀ {s a : AS}, Stl N tt l h ws s a → a.sp = s.sp := fun h => by
    induction h with
    | over _ => rfl
    | wait _ _ => rfl
    | last _ _ _ => rfl
    | next _ _ _ _ ih => rw [ih]; rfl
  induction h1 with
  | start a =>
    rw [stl a, init, (reach1_rds ..).2.1]
    rfl
  | step hr hl hv hs ih =>
    rw [stl hs, (expand_rds ..).2.1, ih]
    omega
end
end Go.Proofs.Ytpoolpaagbeokaa.AraLaw

namespace Go.Proofs.Ytpoolpaagbeokaa.AraLaw
open NetLaw BellLaw StarLaw WalkLaw
set_option linter.unusedSimpArgs false
set_option linter.unusedVariables false
theorem db_set {l : List Bool} {v u : Int} (v0 : 0 ≤ v) (v1 : v < l.length) (u0 : 0 ≤ u) : db (l.set v.toNat true) u = if u = v then true else db l u := by
  unfold db
  rw [List.getD_eq_getElem?_getD, List.getElem?_set]
  by_cases e : u = v
  · subst e
    rw [if_pos rfl, if_pos rfl, if_pos (by omega)]
    rfl
  · rw [if_neg (by omega), if_neg e, List.getD_eq_getElem?_getD]
theorem db_rep (n : Nat) (v : Int) : db (List.replicate n false) v = false := by
  unfold db
  rw [List.getD_eq_getElem?_getD, List.getElem?_replicate]
  split <;> rfl
/-- in the midst of looking from v -/
structure MidA (N : Nat) (l : List E) (h : List Int) (v : Int) (s0 s : AS) (seen : List E) : Prop where
  lenC : s.C.length = s0.C.length
  lenP : s.P.length = s0.P.length
  dn : s.dn = s0.dn
  sp : s.sp = s0.sp
  rds : s.rds = s0.rds
  own : dg s.C v = dg s0.C v
  each : ∀ u : Int, 0 ≤ u → u < N → (dg s.C u = dg s0.C u ∧ dg s.P u = dg s0.P u ∧ s.op u = s0.op u ∧ s.lt u = s0.lt u) ∨
    (∃ c, (v, u, c) ∈ l ∧ dg s.C u = dg s0.C v + c ∧ dg s.C u < dg s0.C u ∧ dg s.P u = v ∧ dg h u ≠ far ∧ ((db s0.dn u = true ∧ s.op u = s0.op u ∧ s.lt u = true) ∨ (db s0.dn u = false ∧ s.op u = true ∧ s.lt u = s0.lt u)))
  seen : ∀ e ∈ seen, dg h e.2.1 ≠ far → dg s.C e.2.1 ≤ dg s0.C v + e.2.2
section
variable {N : Nat} {l : List E} {h : List Int} {v : Int} {s0 s : AS} {seen : List E}
theorem MidA.le (hm : MidA N l h v s0 s seen) {u : Int} (u0 : 0 ≤ u) (u1 : u < N) : dg s.C u ≤ dg s0.C u := by
  rcases hm.each u u0 u1 with ⟨e, _⟩ | ⟨c, _, _, e, _⟩ <;> omega
theorem MidA.step (hm : MidA N l h v s0 s seen) (hC : s0.C.length = N) (hP : s0.P.length = N) (v0 : 0 ≤ v) (v1 : v < N) {e : E} (he : e ∈ l) (hev : e.1 = v) (t0 : 0 ≤ e.2.1) (t1 : e.2.1 < N) (hc : 1 ≤ e.2.2) : MidA N l h v s0 (reach1 h e.2.1 (dg s.C v + e.2.2) v s) (seen ++ [e]) := by
  have hlc : s.C.length = N := hm.lenC.trans hC
  have hlp : s.P.length = N := hm.lenP.trans hP
  have hel : (v, e.2.1, e.2.2) ∈ l := by rw [← hev]; exact he
  unfold reach1
  by_cases hcond : dg s.C v + e.2.2 < dg s.C e.2.1 ∧ dg h e.2.1 ≠ far
  · rw [if_pos hcond]
    have hvt : e.2.1 ≠ v := fun q => by rw [q] at hcond; omega
    have hset : ∀ u : Int, 0 ≤ u → dg (s.C.set e.2.1.toNat (dg s.C v + e.2.2)) u = if u = e.2.1 then dg s.C v + e.2.2 else dg s.C u := fun u u0 => dg_set t0 (by omega) u0
    have hsetP : ∀ u : Int, 0 ≤ u → dg (s.P.set e.2.1.toNat v) u = if u = e.2.1 then v else dg s.P u := fun u u0 => dg_set t0 (by omega) u0
    refine ⟨by simp [hm.lenC], by simp [hm.lenP], hm.dn, hm.sp, hm.rds, ?_, fun u u0 u1 => ?_, fun x hx hh => ?_⟩
    · show dg (s.C.set e.2.1.toNat (dg s.C v + e.2.2)) v = _
      rw [hset v v0, if_neg (fun q => hvt q.symm)]
      exact hm.own
    · by_cases hu : u = e.2.1
      · subst hu
        right
        refine ⟨e.2.2, hel, ?_, ?_, ?_, hcond.2, ?_⟩
        · show dg (s.C.set e.2.1.toNat (dg s.C v + e.2.2)) e.2.1 = _
          rw [hset _ t0, if_pos rfl, hm.own]
        · show dg (s.C.set e.2.1.toNat (dg s.C v + e.2.2)) e.2.1 < _
          rw [hset _ t0, if_pos rfl]
          have := hm.le t0 t1
          omega
        · show dg (s.P.set e.2.1.toNat v) e.2.1 = v
          rw [hsetP _ t0, if_pos rfl]
        · show (db s0.dn e.2.1 = true ∧ (if db s.dn e.2.1 = true then s.op else up s.op e.2.1 true) e.2.1 = s0.op e.2.1 ∧ (if db s.dn e.2.1 = true then up s.lt e.2.1 true else s.lt) e.2.1 = true) ∨ (db s0.dn e.2.1 = false ∧ (if db s.dn e.2.1 = true then s.op else up s.op e.2.1 true) e.2.1 = true ∧ (if db s.dn e.2.1 = true then up s.lt e.2.1 true else s.lt) e.2.1 = s0.lt e.2.1)
          rw [hm.dn]
          cases hd : db s0.dn e.2.1 with
          | true =>
            left
            rw [if_pos rfl, if_pos rfl]
            refine ⟨rfl, ?_, by simp [up]⟩
            rcases hm.each _ t0 t1 with ⟨_, _, a, _⟩ | ⟨_, _, _, _, _, _, ⟨_, a, _⟩ | ⟨a, _, _⟩⟩
            · exact a
            · exact a
            · rw [hd] at a; cases a
          | false =>
            right
            rw [if_neg (by decide), if_neg (by decide)]
            refine ⟨rfl, by simp [up], ?_⟩
            rcases hm.each _ t0 t1 with ⟨_, _, _, a⟩ | ⟨_, _, _, _, _, _, ⟨a, _, _⟩ | ⟨_, _, a⟩⟩
            · exact a
            · rw [hd] at a; cases a
            · exact a
      · have h1 : dg (s.C.set e.2.1.toNat (dg s.C v + e.2.2)) u = dg s.C u := by rw [hset u u0, if_neg hu]
        have h2 : dg (s.P.set e.2.1.toNat v) u = dg s.P u := by rw [hsetP u u0, if_neg hu]
        have h3 : (if db s.dn e.2.1 = true then s.op else up s.op e.2.1 true) u = s.op u := by split <;> simp [up, hu]
        have h4 : (if db s.dn e.2.1 = true then up s.lt e.2.1 true else s.lt) u = s.lt u := by split <;> simp [up, hu]
        have := hm.each u u0 u1
        simp only [h1, h2, h3, h4]
        exact this
    · show dg (s.C.set e.2.1.toNat (dg s.C v + e.2.2)) x.2.1 ≤ _
      rcases List.mem_append.1 hx with hx | hx
      · have h1 := hm.seen x hx hh
        by_cases hx0 : 0 ≤ x.2.1
        · rw [hset _ hx0]
          split
          · rename_i q; rw [q] at h1; omega
          · exact h1
        · have : dg (s.C.set e.2.1.toNat (dg s.C v + e.2.2)) x.2.1 ≤ dg s.C x.2.1 := by
            have e0 : x.2.1.toNat = 0 := by omega
            unfold dg at hcond ⊢
            rw [e0, List.getD_eq_getElem?_getD, List.getElem?_set]
            split
            · rename_i q
              split
              · have : e.2.1.toNat = 0 := q
                rw [this] at hcond
                simp only [Option.getD_some]
                omega
              · rw [List.getD_eq_getElem?_getD]; rw [List.getElem?_eq_none (by omega)]; simp
            · rw [List.getD_eq_getElem?_getD]; omega
          omega
      · rw [List.mem_singleton] at hx
        subst hx
        rw [hset _ t0, if_pos rfl, hm.own]
        omega
  · rw [if_neg hcond]
    refine ⟨hm.lenC, hm.lenP, hm.dn, hm.sp, hm.rds, hm.own, hm.each, fun x hx hh => ?_⟩
    rcases List.mem_append.1 hx with hx | hx
    · exact hm.seen x hx hh
    · rw [List.mem_singleton] at hx
      subst hx
      have := hm.own
      by_cases h1 : dg s.C v + x.2.2 < dg s.C x.2.1
      · exact absurd ⟨h1, hh⟩ hcond
      · omega
theorem MidA.all (hends : ∀ e ∈ l, 0 ≤ e.1 ∧ e.1 < N ∧ 0 ≤ e.2.1 ∧ e.2.1 < N) (hcs : ∀ e ∈ l, 1 ≤ e.2.2 ∧ e.2.2 ≤ 10000) (hC : s.C.length = N) (hP : s.P.length = N) (v0 : 0 ≤ v) (v1 : v < N) : MidA N l h v (mark v s) (expand l h v s) (oe l v) := by
  have key : ∀ (es seen : List E) (s' : AS), (∀ e ∈ es, e ∈ l ∧ e.1 = v) → MidA N l h v (mark v s) s' seen → MidA N l h v (mark v s) (es.foldl (fun s e => reach1 h e.2.1 (dg s.C v + e.2.2) v s) s') (seen ++ es) := by
    intro es
    induction es with
    | nil => intro seen s' _ hm; simpa using hm
    | cons e es ih =>
      intro seen s' hes hm
      obtain ⟨h1, h2⟩ := hes e (by simp)
      have hen := hends e h1
      have := ih (seen ++ [e]) _ (fun x hx => hes x (by simp [hx])) (hm.step hC hP v0 v1 h1 h2 hen.2.2.1 hen.2.2.2 (hcs e h1).1)
      rw [List.foldl_cons]
      simpa using this
  have := key (oe l v) [] (mark v s) (fun e he => by
    unfold oe at he
    rw [List.mem_filter, decide_eq_true_eq] at he
    exact he) ⟨rfl, rfl, rfl, rfl, rfl, rfl, fun u _ _ => .inl ⟨rfl, rfl, rfl, rfl⟩, fun e he => (by cases he)⟩
  rw [List.nil_append] at this
  exact this
end
/-- what holds in each state; V: what a place cost when it was looked from in this round -/
structure AI (N fr : Nat) (l : List E) (h : List Int) (s : AS) (V : Int → Int) : Prop where
  lenC : s.C.length = N
  lenP : s.P.length = N
  lenD : s.dn.length = N
  sp0 : 0 ≤ s.sp
  lo : ∀ v : Int, 0 ≤ v → v < N → 0 ≤ dg s.C v ∧ dg s.C v ≤ far
  live : ∀ v : Int, 0 ≤ v → v < N → dg s.C v < far → dg h v ≠ far
  wk : ∀ v : Int, 0 ≤ v → v < N → dg s.C v < far → Wk l fr v (dg s.C v)
  root : dg h fr ≠ far → dg s.C fr = 0
  rootP : dg s.P fr = -1
  tree : ∀ v : Int, 0 ≤ v → v < N → dg s.C v < far → v ≠ fr → (0 ≤ dg s.P v ∧ dg s.P v < N) ∧ ∃ c, (dg s.P v, v, c) ∈ l ∧ dg s.C (dg s.P v) + c ≤ dg s.C v
  opn : ∀ v : Int, 0 ≤ v → v < N → s.op v = true → dg s.C v < far ∧ db s.dn v = false
  ltn : ∀ v : Int, 0 ≤ v → v < N → s.lt v = true → dg s.C v < far ∧ db s.dn v = true
  dnV : ∀ v : Int, 0 ≤ v → v < N → db s.dn v = true → dg s.C v ≤ V v ∧ V v ≤ 10000 * s.sp ∧ (∀ e ∈ l, e.1 = v → dg h e.2.1 ≠ far → dg s.C e.2.1 ≤ V v + e.2.2) ∧ (s.lt v = false → V v = dg s.C v)
  rest : ∀ v : Int, 0 ≤ v → v < N → dg s.C v < far → s.op v = false → db s.dn v = false → ∀ e ∈ l, e.1 = v → dg h e.2.1 ≠ far → dg s.C e.2.1 ≤ dg s.C v + e.2.2
  bd : ∀ v : Int, 0 ≤ v → v < N → dg s.C v < far → dg s.C v ≤ 10000 * s.sp
/-- those looked from in this round are within the weight -/
def ClA (N fr : Nat) (l : List E) (h : List Int) (q p : Int) (s : AS) (V : Int → Int) : Prop := ∀ v : Int, 0 ≤ v → v < N → db s.dn v = true → ∀ d, Wk l fr v d → dg h v + d < far → q * V v ≤ p * d
section
variable {N fr tt : Nat} {l : List E} {h : List Int} {s : AS} {V : Int → Int} {q p : Int}
theorem AI.look_ (hI : AI N fr l h s V) (hends : ∀ e ∈ l, 0 ≤ e.1 ∧ e.1 < N ∧ 0 ≤ e.2.1 ∧ e.2.1 < N) (hcs : ∀ e ∈ l, 1 ≤ e.2.2 ∧ e.2.2 ≤ 10000) (hfr : fr < N) {v : Int} (hv : Op N s v) (hsp : s.sp ≤ 1000000) : AI N fr l h (expand l h v s) (fun u => if u = v then dg s.C v else V u) := by
  obtain ⟨⟨v0, v1⟩, hop⟩ := hv
  obtain ⟨hvf, hvd⟩ := hI.opn v v0 v1 hop
  have hm := MidA.all (h := h) hends hcs hI.lenC hI.lenP v0 v1
  have hvb := hI.bd v v0 v1 hvf
  have hvl := (hI.lo v v0 v1).1
  have eC : (mark v s).C = s.C := rfl
  have eP : (mark v s).P = s.P := rfl
  have eL : (mark v s).lt = s.lt := rfl
  have eS : (mark v s).sp = s.sp + 1 := rfl
  have eO : ∀ u, (mark v s).op u = if u = v then false else s.op u := fun u => rfl
  have eD : ∀ u : Int, 0 ≤ u → db (mark v s).dn u = if u = v then true else db s.dn u := fun u u0 => db_set v0 (by rw [hI.lenD]; exact v1) u0
  have hseen : ∀ e ∈ l, e.1 = v → dg h e.2.1 ≠ far → dg (expand l h v s).C e.2.1 ≤ dg s.C v + e.2.2 := fun e he hev hh => by
    have := hm.seen e (by unfold oe; rw [List.mem_filter, decide_eq_true_eq]; exact ⟨he, hev⟩) hh
    exact this
  have hle : ∀ u : Int, 0 ≤ u → u < N → dg (expand l h v s).C u ≤ dg s.C u := fun u u0 u1 => hm.le u0 u1
  have hown : dg (expand l h v s).C v = dg s.C v := hm.own
  have hsp' : (expand l h v s).sp = s.sp + 1 := hm.sp
  have hdn : ∀ u : Int, 0 ≤ u → db (expand l h v s).dn u = if u = v then true else db s.dn u := fun u u0 => by rw [hm.dn]; exact eD u u0
  have hcase := hm.each
  simp only [eC, eP, eL] at hcase
  refine ⟨hm.lenC.trans hI.lenC, hm.lenP.trans hI.lenP, by rw [hm.dn]; simp [mark, hI.lenD], by rw [hsp']; have := hI.sp0; omega, fun u u0 u1 => ?_, fun u u0 u1 hf => ?_, fun u u0 u1 hf => ?_, fun hh => ?_, ?_, fun u u0 u1 hf hne => ?_, fun u u0 u1 ho => ?_, fun u u0 u1 hl => ?_, fun u u0 u1 hd => ?_, fun u u0 u1 hf ho hd e he heu hh => ?_, fun u u0 u1 hf => ?_⟩
  · have h0 := hI.lo u u0 u1
    rcases hcase u u0 u1 with ⟨a, _⟩ | ⟨c, hc, a, b, _⟩
    · rw [a]; exact h0
    · have := (hcs _ hc).1
      simp only at this
      omega
  · rcases hcase u u0 u1 with ⟨a, _⟩ | ⟨c, hc, a, b, _, hh, _⟩
    · rw [a] at hf; exact hI.live u u0 u1 hf
    · exact hh
  · rcases hcase u u0 u1 with ⟨a, _⟩ | ⟨c, hc, a, b, _⟩
    · rw [a] at hf ⊢; exact hI.wk u u0 u1 hf
    · rw [a]
      exact Wk.step (e := (v, u, c)) (hI.wk v v0 v1 hvf) hc rfl
  · have h0 := hI.root hh
    have h1 := hle fr (by omega) (by omega)
    rcases hcase fr (by omega) (by omega) with ⟨a, _⟩ | ⟨c, hc, a, b, _⟩
    · rw [a]; exact h0
    · have := (hcs _ hc).1
      simp only at this
      omega
  · rcases hcase fr (by omega) (by omega) with ⟨_, a, _⟩ | ⟨c, hc, a, b, _, hh, _⟩
    · rw [a]; exact hI.rootP
    · have h0 := hI.root hh
      have := (hcs _ hc).1
      simp only at this
      omega
  · rcases hcase u u0 u1 with ⟨a, b, _⟩ | ⟨c, hc, a, b, d, _⟩
    · rw [a] at hf ⊢
      rw [b]
      obtain ⟨⟨p0, p1⟩, c, hc, hle'⟩ := hI.tree u u0 u1 hf hne
      have := hle (dg s.P u) p0 p1
      exact ⟨⟨p0, p1⟩, c, hc, by omega⟩
    · rw [d]
      exact ⟨⟨v0, v1⟩, c, hc, by rw [hown]; omega⟩
  · rw [hdn u u0]
    rcases hcase u u0 u1 with ⟨a, _, b, _⟩ | ⟨c, hc, a, b, _, _, ⟨k1, k2, k3⟩ | ⟨k1, k2, k3⟩⟩
    · rw [b, eO] at ho
      split at ho
      · cases ho
      · rename_i hne
        rw [if_neg hne, a]
        exact hI.opn u u0 u1 ho
    · rw [k2, eO] at ho
      split at ho
      · cases ho
      · rename_i hne
        rw [if_neg hne]
        have h0 := hI.opn u u0 u1 ho
        exact ⟨by omega, h0.2⟩
    · rw [eD u u0] at k1
      have hlu := (hI.lo u u0 u1).2
      split at k1
      · cases k1
      · rename_i hne
        rw [if_neg hne]
        exact ⟨by omega, k1⟩
  · rw [hdn u u0]
    rcases hcase u u0 u1 with ⟨a, _, _, b⟩ | ⟨c, hc, a, b, _, _, ⟨k1, k2, k3⟩ | ⟨k1, k2, k3⟩⟩
    · rw [b] at hl
      have h0 := hI.ltn u u0 u1 hl
      rw [a]
      exact ⟨h0.1, by split; rfl; exact h0.2⟩
    · rw [eD u u0] at k1
      have hlu := (hI.lo u u0 u1).2
      exact ⟨by omega, k1⟩
    · rw [k3] at hl
      have h0 := hI.ltn u u0 u1 hl
      exact ⟨by omega, by split; rfl; exact h0.2⟩
  · rw [hdn u u0] at hd
    rw [hsp']
    by_cases huv : u = v
    · subst huv
      rw [if_pos rfl]
      refine ⟨by omega, by omega, hseen, fun _ => hown.symm⟩
    · rw [if_neg huv] at hd
      rw [if_neg huv]
      obtain ⟨k1, k2, k3, k4⟩ := hI.dnV u u0 u1 hd
      have h1 := hle u u0 u1
      refine ⟨by omega, by omega, fun e he heu hh => ?_, fun hlf => ?_⟩
      · have hen := hends e he
        have := hle e.2.1 hen.2.2.1 hen.2.2.2
        have := k3 e he heu hh
        omega
      · rcases hcase u u0 u1 with ⟨a, _, _, b⟩ | ⟨c, hc, a, b, _, _, ⟨m1, m2, m3⟩ | ⟨m1, m2, m3⟩⟩
        · rw [b] at hlf
          rw [a]
          exact k4 hlf
        · rw [m3] at hlf; cases hlf
        · rw [eD u u0, if_neg huv, hd] at m1; cases m1
  · rw [hdn u u0] at hd
    have huv : u ≠ v := fun q => by rw [if_pos q] at hd; cases hd
    rw [if_neg huv] at hd
    have hen := hends e he
    have hle2 := hle e.2.1 hen.2.2.1 hen.2.2.2
    rcases hcase u u0 u1 with ⟨a, _, b, _⟩ | ⟨c, hc, a, b, _, _, ⟨m1, m2, m3⟩ | ⟨m1, m2, m3⟩⟩
    · rw [b, eO, if_neg huv] at ho
      rw [a] at hf ⊢
      have := hI.rest u u0 u1 hf ho hd e he heu hh
      omega
    · rw [eD u u0, if_neg huv, hd] at m1; cases m1
    · rw [m2] at ho; cases ho
  · rw [hsp']
    rcases hcase u u0 u1 with ⟨a, _⟩ | ⟨c, hc, a, b, _⟩
    · rw [a] at hf ⊢
      have := hI.bd u u0 u1 hf
      omega
    · have := (hcs _ hc).2
      simp only at this
      omega
/-- along a walk: its end is at rest, or some place on it waits -/
theorem AI.front (hI : AI N fr l h s V) (hcl : ClA N fr l h q p s V) (hC : HeurLaw.Cons N tt l h) (hends : ∀ e ∈ l, 0 ≤ e.1 ∧ e.1 < N ∧ 0 ≤ e.2.1 ∧ e.2.1 < N) (hcs : ∀ e ∈ l, 1 ≤ e.2.2 ∧ e.2.2 ≤ 10000) (hfr : fr < N) (hsp : s.sp ≤ 1000000) (hq : 1 ≤ q) (hqp : q ≤ p) {v d : Int} (hw : Wk l fr v d) :
    dg h v + d < far → 0 ≤ d ∧ ((dg s.C v < far ∧ s.op v = false ∧ q * (if db s.dn v = true then V v else dg s.C v) ≤ p * d) ∨ ∃ u, Op N s u ∧ ∃ du, 0 ≤ du ∧ q * dg s.C u ≤ p * du ∧ du + dg h u ≤ d + dg h v) := by
  induction hw with
  | here =>
    intro hlt
    refine ⟨Int.le_refl _, ?_⟩
    have hr := hI.root (by omega)
    cases ho : s.op fr with
    | true => exact .inr ⟨fr, ⟨⟨by omega, by omega⟩, ho⟩, 0, Int.le_refl _, by rw [hr]; simp, by omega⟩
    | false =>
      refine .inl ⟨by rw [hr]; decide, rfl, ?_⟩
      split
      · rename_i hd
        exact hcl fr (by omega) (by omega) hd 0 Wk.here hlt
      · rw [hr]; simp
  | @step u d e hu he hfe ih =>
    intro hlt
    subst hfe
    have hed := hC.edge e he
    obtain ⟨a0, a1, b0, b1⟩ := hends e he
    have h1 := hcs e he
    obtain ⟨d0, ih⟩ := ih (by omega)
    refine ⟨by omega, ?_⟩
    rcases ih with ⟨hcf, ho, hle⟩ | ⟨x, hx, dx, dx0, hx1, hx2⟩
    · have hbd := (hC.bd b0 b1).1
      have hhf : dg h e.2.1 ≠ far := by omega
      have hmul : q * ((if db s.dn e.1 = true then V e.1 else dg s.C e.1) + e.2.2) ≤ p * (d + e.2.2) := by
        have : q * e.2.2 ≤ p * e.2.2 := Int.mul_le_mul_of_nonneg_right hqp (by omega)
        rw [Int.mul_add, Int.mul_add]
        omega
      have hrel : dg s.C e.2.1 ≤ (if db s.dn e.1 = true then V e.1 else dg s.C e.1) + e.2.2 ∧ (if db s.dn e.1 = true then V e.1 else dg s.C e.1) ≤ 10000 * s.sp := by
        cases hd : db s.dn e.1 with
        | true =>
          rw [if_pos rfl]
          obtain ⟨_, k2, k3, _⟩ := hI.dnV e.1 a0 a1 hd
          exact ⟨k3 e he rfl hhf, k2⟩
        | false =>
          rw [if_neg (by decide)]
          exact ⟨hI.rest e.1 a0 a1 hcf ho hd e he rfl hhf, hI.bd e.1 a0 a1 hcf⟩
      have hfr2 : dg s.C e.2.1 < far := by unfold far; omega
      have hq2 : q * dg s.C e.2.1 ≤ q * ((if db s.dn e.1 = true then V e.1 else dg s.C e.1) + e.2.2) := Int.mul_le_mul_of_nonneg_left hrel.1 (by omega)
      cases hoe : s.op e.2.1 with
      | true => exact .inr ⟨e.2.1, ⟨⟨b0, b1⟩, hoe⟩, d + e.2.2, by omega, by omega, Int.le_refl _⟩
      | false =>
        refine .inl ⟨hfr2, rfl, ?_⟩
        split
        · rename_i hd
          exact hcl _ b0 b1 hd _ (Wk.step hu he rfl) hlt
        · omega
    · exact .inr ⟨x, hx, dx, dx0, hx1, by omega⟩
/-- a place whose key is least is within the weight -/
theorem AI.within (hI : AI N fr l h s V) (hcl : ClA N fr l h q p s V) (hC : HeurLaw.Cons N tt l h) (hends : ∀ e ∈ l, 0 ≤ e.1 ∧ e.1 < N ∧ 0 ≤ e.2.1 ∧ e.2.1 < N) (hcs : ∀ e ∈ l, 1 ≤ e.2.2 ∧ e.2.2 ≤ 10000) (hfr : fr < N) (hsp : s.sp ≤ 1000000) (hq : 1 ≤ q) (hqp : q ≤ p) {v : Int} (v0 : 0 ≤ v) (v1 : v < N)
    (hmin : ∀ u, Op N s u → (kyA (p, q) h s v).1 ≤ (kyA (p, q) h s u).1) : ∀ d, Wk l fr v d → dg h v + d < far → q * dg s.C v ≤ p * d := fun d hw hlt => by
  obtain ⟨d0, h1⟩ := hI.front hcl hC hends hcs hfr hsp hq hqp hw hlt
  rcases h1 with ⟨_, _, h1⟩ | ⟨u, hu, du, du0, h1, h2⟩
  · cases hd : db s.dn v with
    | true =>
      rw [hd, if_pos rfl] at h1
      have := (hI.dnV v v0 v1 hd).1
      have := Int.mul_le_mul_of_nonneg_left this (show 0 ≤ q by omega)
      omega
    | false =>
      rw [hd, if_neg (by decide)] at h1
      exact h1
  · have h3 := hmin u hu
    simp only [kyA] at h3
    have h4 : p * (du + dg h u) ≤ p * (d + dg h v) := Int.mul_le_mul_of_nonneg_left h2 (by omega)
    rw [Int.mul_add, Int.mul_add] at h4
    omega
end
end Go.Proofs.Ytpoolpaagbeokaa.AraLaw

namespace Go.Proofs.Ytpoolpaagbeokaa.AraLaw
open NetLaw BellLaw StarLaw WalkLaw
set_option linter.unusedSimpArgs false
set_option linter.unusedVariables false
section
variable {N fr tt : Nat} {l : List E} {h : List Int} {s : AS} {V : Int → Int} {ws : List (Int × Int)}
theorem eg_leA {l : List E} {a b c : Int} (hc : (a, b, c) ∈ l) : (eg l a b).2 = true ∧ (eg l a b).1 ≤ c := by
  obtain ⟨_, k, _⟩ := WayLaw.eg_fold a b l (0, false)
  exact k (a, b, c) hc rfl rfl
/-- the way back from a place: a walk that costs no more -/
theorem AI.chain (hI : AI N fr l h s V) (hcs : ∀ e ∈ l, 1 ≤ e.2.2 ∧ e.2.2 ≤ 10000) : ∀ (k : Nat) (v : Int), 0 ≤ v → v < N → dg s.C v < far → dg s.C v ≤ k →
    ∃ cs, Ch s.P v cs ∧ (∀ x ∈ cs, (0 ≤ x ∧ x < N) ∧ dg s.C x ≤ dg s.C v) ∧ cs.Nodup ∧ cs.head? = some v ∧ cs.getLast? = some (fr : Int) ∧ okP l (prs cs.reverse) = true ∧ sumP l (prs cs.reverse) ≤ dg s.C v := by
  intro k
  induction k with
  | zero =>
    intro v v0 v1 hf hk
    by_cases e : v = fr
    · subst e
      have hr := hI.root (hI.live _ v0 v1 hf)
      exact ⟨[(fr : Int)], Ch.last hI.rootP, fun x hx => by rw [List.mem_singleton] at hx; subst hx; exact ⟨⟨v0, v1⟩, Int.le_refl _⟩, by simp, rfl, rfl, rfl, by rw [hr]; exact Int.le_refl _⟩
    · obtain ⟨⟨p0, p1⟩, c, hcl, hcd⟩ := hI.tree v v0 v1 hf e
      have := (hcs _ hcl).1
      have := (hI.lo _ p0 p1).1
      simp only at *
      omega
  | succ k ih =>
    intro v v0 v1 hf hk
    by_cases e : v = fr
    · subst e
      have hr := hI.root (hI.live _ v0 v1 hf)
      exact ⟨[(fr : Int)], Ch.last hI.rootP, fun x hx => by rw [List.mem_singleton] at hx; subst hx; exact ⟨⟨v0, v1⟩, Int.le_refl _⟩, by simp, rfl, rfl, rfl, by rw [hr]; exact Int.le_refl _⟩
    · obtain ⟨⟨p0, p1⟩, c, hcl, hcd⟩ := hI.tree v v0 v1 hf e
      have hc1 := (hcs _ hcl).1
      simp only at hc1
      obtain ⟨cs, hch, hb, hnd, hhd, hla, hok, hsum⟩ := ih (dg s.P v) p0 p1 (by omega) (by omega)
      have hlast : cs.reverse.getLast? = some (dg s.P v) := by rw [List.getLast?_reverse]; exact hhd
      have hpr : prs (v :: cs).reverse = prs cs.reverse ++ [(dg s.P v, v)] := by
        rw [List.reverse_cons]
        exact WayLaw.prs_snoc hlast v
      obtain ⟨g1, g2⟩ := eg_leA hcl
      refine ⟨v :: cs, Ch.more p0 hch, fun x hx => ?_, List.nodup_cons.2 ⟨fun hx => ?_, hnd⟩, rfl, ?_, ?_, ?_⟩
      · rcases List.mem_cons.1 hx with rfl | hx
        · exact ⟨⟨v0, v1⟩, Int.le_refl _⟩
        · exact ⟨(hb x hx).1, by have := (hb x hx).2; omega⟩
      · have := (hb v hx).2; omega
      · cases cs with
        | nil => cases hhd
        | cons y ys => rw [List.getLast?_cons_cons]; exact hla
      · rw [hpr, okP_snoc, hok, g1]; rfl
      · rw [hpr, sumP_snoc]
        show sumP l (prs cs.reverse) + (eg l (dg s.P v) v).1 ≤ _
        omega
theorem AI.way (hI : AI N fr l h s V) (hg : NetLaw.Good N l) (hc : ∀ e ∈ l, 1 ≤ e.2.2) {v : Int} (v0 : 0 ≤ v) (v1 : v < N) (hf : dg s.C v < far) :
    ∃ cs, Ch s.P v cs ∧ (∀ x ∈ cs, 0 ≤ x ∧ x < N) ∧ cs.length ≤ 64 ∧ 1 ≤ cs.length ∧ cs.reverse.head? = some (fr : Int) ∧ cs.reverse.getLast? = some v ∧ (cost N l cs.reverse).2 = 0 ∧ (cost N l cs.reverse).1 ≤ dg s.C v := by
  have hlo := (hI.lo v v0 v1).1
  obtain ⟨cs, h1, h2, h3, h4, h5, h6, h7⟩ := hI.chain (fun e he => ⟨hc e he, (hg.cost e he).2⟩) (dg s.C v).toNat v v0 v1 hf (by omega)
  have hlen : cs.length ≤ 64 := Nat.le_trans (nodup_lenI h3 (fun m hm => (h2 m hm).1)) (by have := hg.hi; omega)
  have h1l : 1 ≤ cs.length := by cases cs with | nil => cases h4 | cons _ _ => simp
  have hz : (cost N l cs.reverse).2 = 0 := cost_zero.2 ⟨chk_zero.2 hg, by rw [List.length_reverse]; omega, by rw [List.length_reverse]; omega, by
    rw [List.any_eq_false]
    intro x hx
    have := (h2 x (List.mem_reverse.1 hx)).1
    simp [outB]
    omega, h6⟩
  have hv := cost_val (N := (N : Int)) (l := l) (p := cs.reverse)
  rw [if_pos hz] at hv
  exact ⟨cs, h1, fun x hx => (h2 x hx).1, hlen, h1l, by rw [List.head?_reverse]; exact h5, by rw [List.getLast?_reverse]; exact h4, hz, by rw [hv]; exact h7⟩
/-- a way that was told -/
def WG (N fr tt : Nat) (l : List E) (path : List Int) (co : Int) : Prop := (co = far ∧ path = []) ∨ (co < far ∧ cost N l path = (co, 0) ∧ path.head? = some (fr : Int) ∧ path.getLast? = some (tt : Int) ∧ path.length ≤ 64)
def lastD (s : AS) : Int := match s.rds.getLast? with | some r => r.done | none => 0
def DoneOk (N : Nat) : Int → List Rnd → Prop
  | _, [] => True
  | a, r :: rs => a ≤ r.done ∧ r.done ≤ a + N ∧ DoneOk N r.done rs
theorem DoneOk.snoc {a : Int} {rs : List Rnd} {r : Rnd} (h : DoneOk N a rs) (h1 : (match rs.getLast? with | some x => x.done | none => a) ≤ r.done) (h2 : r.done ≤ (match rs.getLast? with | some x => x.done | none => a) + N) : DoneOk N a (rs ++ [r]) := by
  induction rs generalizing a with
  | nil => exact ⟨h1, h2, trivial⟩
  | cons x rs ih =>
    obtain ⟨k1, k2, k3⟩ := h
    refine ⟨k1, k2, ih k3 ?_ ?_⟩
    · cases rs with
      | nil => simpa using h1
      | cons y rs => rw [List.getLast?_cons_cons] at h1; cases hl : (y :: rs).getLast? with
        | none => simp at hl
        | some z => rw [hl] at h1; exact h1
    · cases rs with
      | nil => simpa using h2
      | cons y rs => rw [List.getLast?_cons_cons] at h2; cases hl : (y :: rs).getLast? with
        | none => simp at hl
        | some z => rw [hl] at h2; exact h2
/-- what holds of the rounds -/
structure RI (N fr tt : Nat) (l : List E) (ws : List (Int × Int)) (s : AS) : Prop where
  len : s.rds.length ≤ ws.length
  run : s.rds.length < ws.length → s.sp = lastD s + s.dn.count true
  ld : 0 ≤ lastD s ∧ lastD s ≤ N * s.rds.length
  each : ∀ r ∈ s.rds, WG N fr tt l r.path r.cost ∧ ∀ d, Wk l fr tt d → d < far → r.cost < far ∧ r.den * r.cost ≤ r.num * d
  wts : s.rds.map (fun r => (r.num, r.den)) = ws.take s.rds.length
  mono : s.rds.Pairwise fun a b => b.cost ≤ a.cost
  dns : DoneOk N 0 s.rds
/-- all that holds of a state -/
def SI (N fr tt : Nat) (l : List E) (h : List Int) (ws : List (Int × Int)) (s : AS) : Prop := ∃ V, AI N fr l h s V ∧ (s.rds.length < ws.length → ClA N fr l h (cwt ws s).2 (cwt ws s).1 s V) ∧ RI N fr tt l ws s
theorem RI.sp_le (hR : RI N fr tt l ws s) (hd : s.dn.length = N) (hl : s.rds.length < ws.length) (hN : N ≤ 64) (hw : ws.length ≤ 8) : s.sp ≤ 1000 := by
  have h1 := hR.run hl
  have h2 := hR.ld.2
  have h3 : s.dn.count true ≤ s.dn.length := List.count_le_length
  have h4 : (N : Int) * s.rds.length ≤ 64 * 8 := Int.mul_le_mul (by omega) (by omega) (by omega) (by omega)
  omega
/-- a new round -/
theorem SI.told_ (hS : SI N fr tt l h ws s) (hC : HeurLaw.Cons N tt l h) (hg : NetLaw.Good N l) (hc : ∀ e ∈ l, 1 ≤ e.2.2) (hfr : fr < N) (htt : tt < N) (hwl : ws.length ≤ 8) (hws : ∀ w ∈ ws, 1 ≤ w.2 ∧ w.2 ≤ w.1) (hl : s.rds.length < ws.length) (hf : Fin N tt (cwt ws s) h s) {w : List Int × Int} (hb : BestA N tt l s w) :
    RI N fr tt l ws { told ws w s with dn := List.replicate s.dn.length false } ∧ (s.rds.length + 1 = ws.length → RI N fr tt l ws (told ws w s)) ∧ (∃ V, AI N fr l h (told ws w s) V ∧ AI N fr l h (again (told ws w s)) V) := by
  obtain ⟨V, hI, hcl, hR⟩ := hS
  have hcl := hcl hl
  have hN := hg.hi
  have hcs : ∀ e ∈ l, 1 ≤ e.2.2 ∧ e.2.2 ≤ 10000 := fun e he => ⟨hc e he, (hg.cost e he).2⟩
  have hsp := hR.sp_le hI.lenD hl (by omega) hwl
  have hcw : cwt ws s = ws[s.rds.length] := by unfold cwt; rw [List.getD_eq_getElem?_getD, List.getElem?_eq_getElem hl]; rfl
  obtain ⟨hq1, hqp⟩ := hws (cwt ws s) (by rw [hcw]; exact List.getElem_mem hl)
  -- the last place: within the weight
  have hin : ∀ d, Wk l fr tt d → d < far → dg s.C tt < far ∧ (cwt ws s).2 * dg s.C tt ≤ (cwt ws s).1 * d := fun d hw hd => by
    have hz := hC.zero
    rcases hf with hn | ⟨v, hv, hne, hk⟩
    · have h1 := hI.within hcl hC hg.ends hcs hfr (by omega) hq1 hqp (v := (tt : Int)) (by omega) (by omega) (fun u hu => absurd hu (hn u)) d hw (by omega)
      obtain ⟨_, h2⟩ := hI.front hcl hC hg.ends hcs hfr (by omega) hq1 hqp hw (by omega)
      rcases h2 with ⟨h2, _⟩ | ⟨u, hu, _⟩
      · exact ⟨h2, h1⟩
      · exact absurd hu (hn u)
    · have hlo := (hI.lo tt (by omega) (by omega)).2
      refine ⟨by omega, hI.within hcl hC hg.ends hcs hfr (by omega) hq1 hqp (v := (tt : Int)) (by omega) (by omega) (fun u hu => ?_) d hw (by omega)⟩
      have h1 := StarLaw.lt3_no.1 (hv.2 u hu)
      have h2 : (kyA (cwt ws s) h s v).1 ≤ (kyA (cwt ws s) h s u).1 := by simp only [kyA] at h1 ⊢; omega
      have h3 : (kyA (cwt ws s) h s tt).1 ≤ (kyA (cwt ws s) h s v).1 := by omega
      exact Int.le_trans h3 h2
  have hprev : WG N fr tt l (prevW s).1 (prevW s).2 ∧ (∀ r ∈ s.rds, (prevW s).2 ≤ r.cost) := by
    unfold prevW
    cases hgl : s.rds.getLast? with
    | none =>
      have : s.rds = [] := List.getLast?_eq_none_iff.1 hgl
      exact ⟨.inl ⟨rfl, rfl⟩, fun r hr => by rw [this] at hr; cases hr⟩
    | some r =>
      obtain ⟨rs, hrs⟩ := List.getLast?_eq_some_iff.1 hgl
      refine ⟨(hR.each r (List.mem_of_getLast? hgl)).1, fun x hx => ?_⟩
      have hm := hR.mono
      rw [hrs, List.pairwise_append] at hm
      rw [hrs] at hx
      rcases List.mem_append.1 hx with hx | hx
      · exact hm.2.2 x hx r (by simp)
      · rw [List.mem_singleton] at hx; subst hx; exact Int.le_refl _
  have hwg : WG N fr tt l w.1 w.2 ∧ w.2 ≤ (prevW s).2 ∧ ∀ d, Wk l fr tt d → d < far → w.2 < far ∧ (cwt ws s).2 * w.2 ≤ (cwt ws s).1 * d := by
    rcases hb with ⟨h1, rfl⟩ | ⟨h1, cs, h2, rfl⟩
    · exact ⟨hprev.1, Int.le_refl _, fun d hw hd => absurd (hin d hw hd).1 h1⟩
    · obtain ⟨cs', k1, k2, k3, k4, k5, k6, k7, k8⟩ := hI.way hg hc (v := (tt : Int)) (by omega) (by omega) h1
      obtain rfl := h2.unique k1
      split
      · rename_i hlt
        refine ⟨.inr ⟨by omega, Prod.ext rfl k7, k5, k6, by rw [List.length_reverse]; exact k3⟩, by simp only; omega, fun d hw hd => ?_⟩
        have h3 := (hin d hw hd).2
        have h4 := Int.mul_le_mul_of_nonneg_left k8 (show 0 ≤ (cwt ws s).2 by omega)
        exact ⟨by simp only; omega, by simp only; omega⟩
      · rename_i hlt
        refine ⟨hprev.1, Int.le_refl _, fun d hw hd => ?_⟩
        have h3 := (hin d hw hd).2
        have h4 := Int.mul_le_mul_of_nonneg_left (show (prevW s).2 ≤ dg s.C tt by omega) (show 0 ≤ (cwt ws s).2 by omega)
        exact ⟨by omega, by omega⟩
  have hrun := hR.run hl
  have hcnt : s.dn.count true ≤ N := by rw [← hI.lenD]; exact List.count_le_length
  have hld : lastD (told ws w s) = s.sp := by unfold lastD told; simp
  have hwts : (s.rds ++ [(⟨(cwt ws s).1, (cwt ws s).2, w.1, w.2, s.sp⟩ : Rnd)]).map (fun r => (r.num, r.den)) = ws.take (s.rds.length + 1) := by
    rw [List.map_append, hR.wts, List.take_succ_eq_append_getElem hl, ← hcw]
    rfl
  have common : ∀ s2 : AS, s2.rds = (told ws w s).rds → s2.sp = s.sp → (s2.rds.length < ws.length → s2.sp = lastD s2 + s2.dn.count true) → RI N fr tt l ws s2 := fun s2 e1 e2 e3 => by
    have el : s2.rds.length = s.rds.length + 1 := by rw [e1]; simp [told]
    have eld : lastD s2 = s.sp := by unfold lastD; rw [e1]; exact hld
    refine ⟨by omega, e3, ?_, ?_, ?_, ?_, ?_⟩
    · rw [eld, el]
      have h2 := hR.ld
      have h4 : (N : Int) * ((s.rds.length + 1 : Nat) : Int) = N * s.rds.length + N := by rw [Int.natCast_add, Int.mul_add]; omega
      omega
    · rw [e1]
      intro r hr
      rcases List.mem_append.1 hr with hr | hr
      · exact hR.each r hr
      · rw [List.mem_singleton] at hr
        subst hr
        exact ⟨hwg.1, hwg.2.2⟩
    · rw [el, e1]; exact hwts
    · rw [e1]
      show (s.rds ++ [_]).Pairwise _
      rw [List.pairwise_append]
      refine ⟨hR.mono, by simp, fun a ha b hb => ?_⟩
      rw [List.mem_singleton] at hb
      subst hb
      have := hprev.2 a ha
      have := hwg.2.1
      simp only
      omega
    · rw [e1]
      refine hR.dns.snoc ?_ ?_
      · show lastD s ≤ s.sp
        omega
      · show s.sp ≤ lastD s + N
        omega
  refine ⟨common _ rfl rfl (fun _ => ?_), fun he => common _ rfl rfl (fun hlt => ?_), V, ⟨hI.lenC, hI.lenP, hI.lenD, hI.sp0, hI.lo, hI.live, hI.wk, hI.root, hI.rootP, hI.tree, hI.opn, hI.ltn, hI.dnV, hI.rest, hI.bd⟩, ⟨hI.lenC, hI.lenP, by simp [again, told, hI.lenD], hI.sp0, hI.lo, hI.live, hI.wk, hI.root, hI.rootP, hI.tree, fun v v0 v1 ho => ?_, fun v v0 v1 hl => (by cases hl), fun v v0 v1 hd => ?_, fun v v0 v1 hvf ho _ e he hev hh => ?_, hI.bd⟩⟩
  · show s.sp = lastD (told ws w s) + ((List.replicate s.dn.length false).count true : Nat)
    rw [hld, List.count_replicate]
    simp
  · exfalso
    have : (told ws w s).rds.length = s.rds.length + 1 := by simp [told]
    omega
  · refine ⟨?_, db_rep _ _⟩
    have ho' : (s.op v || s.lt v) = true := ho
    rw [Bool.or_eq_true] at ho'
    rcases ho' with h1 | h1
    · exact (hI.opn v v0 v1 h1).1
    · exact (hI.ltn v v0 v1 h1).1
  · have hd' : db (List.replicate s.dn.length false) v = true := hd
    rw [db_rep] at hd'
    cases hd'
  · have ho' : (s.op v || s.lt v) = false := ho
    rw [Bool.or_eq_false_iff] at ho'
    cases hd : db s.dn v with
    | true =>
      obtain ⟨_, _, k3, k4⟩ := hI.dnV v v0 v1 hd
      have := k3 e he hev hh
      rw [k4 ho'.2] at this
      exact this
    | false => exact hI.rest v v0 v1 hvf ho'.1 hd e he hev hh
theorem Stl.keep (hC : HeurLaw.Cons N tt l h) (hg : NetLaw.Good N l) (hc : ∀ e ∈ l, 1 ≤ e.2.2) (hfr : fr < N) (htt : tt < N) (hwl : ws.length ≤ 8) (hws : ∀ w ∈ ws, 1 ≤ w.2 ∧ w.2 ≤ w.1) {a : AS} (h1 : Stl N tt l h ws s a) (hS : SI N fr tt l h ws s) : SI N fr tt l h ws a := by
  induction h1 with
  | over _ => exact hS
  | wait _ _ => exact hS
  | @last s w e hf hb =>
    obtain ⟨_, h2, V, h3, _⟩ := SI.told_ hS hC hg hc hfr htt hwl hws (by omega) hf hb
    refine ⟨V, h3, fun hl => ?_, h2 e⟩
    exfalso
    have : (told ws w s).rds.length = s.rds.length + 1 := by simp [told]
    omega
  | @next s s' w e hf hb _ ih =>
    obtain ⟨h2, _, V, _, h4⟩ := SI.told_ hS hC hg hc hfr htt hwl hws (by omega) hf hb
    refine ih ⟨V, h4, fun _ v v0 v1 hd => ?_, ⟨h2.len, h2.run, h2.ld, h2.each, h2.wts, h2.mono, h2.dns⟩⟩
    have hd' : db (List.replicate s.dn.length false) v = true := hd
    rw [db_rep] at hd'
    cases hd'
end
end Go.Proofs.Ytpoolpaagbeokaa.AraLaw

namespace Go.Proofs.Ytpoolpaagbeokaa.AraLaw
open NetLaw BellLaw StarLaw WalkLaw
set_option linter.unusedSimpArgs false
set_option linter.unusedVariables false
section
variable {N fr tt : Nat} {l : List E} {h : List Int} {ws : List (Int × Int)}
theorem count_set {dn : List Bool} {i : Nat} (hi : i < dn.length) (hf : dn[i] = false) : (dn.set i true).count true = dn.count true + 1 := by
  induction dn generalizing i with
  | nil => simp at hi
  | cons b dn ih =>
    cases i with
    | zero =>
      simp only [List.getElem_cons_zero] at hf
      subst hf
      simp
    | succ i =>
      simp only [List.getElem_cons_succ] at hf
      rw [List.set_cons_succ, List.count_cons, List.count_cons, ih (by simpa using hi) hf]
      omega
theorem ai_init (hC : HeurLaw.Cons N tt l h) (hfr : fr < N) : AI N fr l h (init N h fr) (fun _ => 0) := by
  have hrC : ∀ v : Int, 0 ≤ v → v < N → dg (List.replicate N far) v = far := fun v v0 v1 => rep_dg v0 v1
  have hrP : ∀ v : Int, 0 ≤ v → v < N → dg (List.replicate N (-1)) v = -1 := fun v v0 v1 => rep_dg v0 v1
  unfold init reach1
  by_cases hc : (0 : Int) < dg (List.replicate N far) fr ∧ dg h fr ≠ far
  · rw [if_pos hc]
    have hs : ∀ v : Int, 0 ≤ v → v < N → dg ((List.replicate N far).set (fr : Int).toNat 0) v = if v = fr then 0 else far := fun v v0 v1 => by
      rw [dg_set (by omega) (by simp; omega) v0, hrC v v0 v1]
    have hp : ∀ v : Int, 0 ≤ v → v < N → dg ((List.replicate N (-1)).set (fr : Int).toNat (-1)) v = -1 := fun v v0 v1 => by
      rw [dg_set (by omega) (by simp; omega) v0, hrP v v0 v1]
      split <;> rfl
    have hlt : ∀ v : Int, 0 ≤ v → v < N → dg ((List.replicate N far).set (fr : Int).toNat 0) v < far → v = fr := fun v v0 v1 hv => by
      rw [hs v v0 v1] at hv
      split at hv
      · assumption
      · omega
    refine ⟨by simp, by simp, by simp, Int.le_refl _, fun v v0 v1 => ?_, fun v v0 v1 hv => ?_, fun v v0 v1 hv => ?_, fun _ => ?_, ?_, fun v v0 v1 hv hne => absurd (hlt v v0 v1 hv) hne, fun v v0 v1 ho => ?_, fun v v0 v1 hl => ?_, fun v v0 v1 hd => ?_, fun v v0 v1 hv ho hd e he hev hh => ?_, fun v v0 v1 hv => ?_⟩
    · show 0 ≤ dg ((List.replicate N far).set (fr : Int).toNat 0) v ∧ _ ≤ far
      rw [hs v v0 v1]
      split <;> (unfold far; omega)
    · rw [hlt v v0 v1 hv]; exact hc.2
    · have e := hlt v v0 v1 hv
      subst e
      show Wk l fr fr (dg ((List.replicate N far).set (fr : Int).toNat 0) fr)
      rw [hs fr v0 v1, if_pos rfl]
      exact Wk.here
    · show dg ((List.replicate N far).set (fr : Int).toNat 0) fr = 0
      rw [hs fr (by omega) (by omega), if_pos rfl]
    · exact hp fr (by omega) (by omega)
    · have ho' : up (fun _ => false) (fr : Int) true v = true := by
        have : (if db (List.replicate N false) (fr : Int) = true then (fun _ => false) else up (fun _ => false) (fr : Int) true) v = true := ho
        rw [db_rep, if_neg (by decide)] at this
        exact this
      unfold up at ho'
      split at ho'
      · rename_i e
        subst e
        refine ⟨?_, db_rep _ _⟩
        show dg ((List.replicate N far).set (fr : Int).toNat 0) fr < far
        rw [hs fr v0 v1, if_pos rfl]
        decide
      · cases ho'
    · have : (if db (List.replicate N false) (fr : Int) = true then up (fun _ => false) (fr : Int) true else (fun _ => false)) v = true := hl
      rw [db_rep, if_neg (by decide)] at this
      cases this
    · have : db (List.replicate N false) v = true := hd
      rw [db_rep] at this
      cases this
    · exfalso
      have e := hlt v v0 v1 hv
      subst e
      have : (if db (List.replicate N false) (fr : Int) = true then (fun _ => false) else up (fun _ => false) (fr : Int) true) fr = false := ho
      rw [db_rep, if_neg (by decide)] at this
      simp [up] at this
    · have e := hlt v v0 v1 hv
      subst e
      show dg ((List.replicate N far).set (fr : Int).toNat 0) fr ≤ 10000 * 0
      rw [hs fr v0 v1, if_pos rfl]
      decide
  · rw [if_neg hc]
    have hz : dg h fr = far := by
      rw [hrC fr (by omega) (by omega)] at hc
      by_cases e : dg h fr = far
      · exact e
      · exact absurd ⟨by decide, e⟩ hc
    have hno : ∀ v : Int, 0 ≤ v → v < N → ¬ dg (List.replicate N far) v < far := fun v v0 v1 hv => by rw [hrC v v0 v1] at hv; omega
    refine ⟨by simp, by simp, by simp, Int.le_refl _, fun v v0 v1 => ?_, fun v v0 v1 hv => absurd hv (hno v v0 v1), fun v v0 v1 hv => absurd hv (hno v v0 v1), fun hh => absurd hz hh, hrP fr (by omega) (by omega), fun v v0 v1 hv => absurd hv (hno v v0 v1), fun v v0 v1 ho => (by cases ho), fun v v0 v1 hl => (by cases hl), fun v v0 v1 hd => ?_, fun v v0 v1 hv => absurd hv (hno v v0 v1), fun v v0 v1 hv => absurd hv (hno v v0 v1)⟩
    · show 0 ≤ dg (List.replicate N far) v ∧ _
      rw [hrC v v0 v1]
      decide
    · have : db (List.replicate N false) v = true := hd
      rw [db_rep] at this
      cases this
theorem si_init (hC : HeurLaw.Cons N tt l h) (hfr : fr < N) : SI N fr tt l h ws (init N h fr) := by
  have hr := reach1_rds h fr 0 (-1) ⟨List.replicate N far, List.replicate N (-1), List.replicate N false, fun _ => false, fun _ => false, 0, []⟩
  have e1 : (init N h fr).rds = [] := hr.1
  have e2 : (init N h fr).sp = 0 := hr.2.1
  have e3 : (init N h fr).dn = List.replicate N false := hr.2.2
  refine ⟨_, ai_init hC hfr, fun _ v v0 v1 hd => ?_, ?_⟩
  · rw [e3, db_rep] at hd
    cases hd
  · refine ⟨by rw [e1]; simp, fun _ => ?_, ?_, ?_, ?_, ?_, ?_⟩
    · rw [e2, e3]
      unfold lastD
      rw [e1, List.count_replicate]
      simp
    · unfold lastD; rw [e1]; simp
    · rw [e1]; intro r hr; cases hr
    · rw [e1]; simp
    · rw [e1]; exact List.Pairwise.nil
    · rw [e1]; trivial
theorem SI.look_ {s : AS} {v : Int} (hS : SI N fr tt l h ws s) (hC : HeurLaw.Cons N tt l h) (hg : NetLaw.Good N l) (hc : ∀ e ∈ l, 1 ≤ e.2.2) (hfr : fr < N) (hwl : ws.length ≤ 8) (hws : ∀ w ∈ ws, 1 ≤ w.2 ∧ w.2 ≤ w.1) (hl : s.rds.length < ws.length) (hv : NxA N (cwt ws s) h s v) : SI N fr tt l h ws (expand l h v s) := by
  obtain ⟨V, hI, hcl, hR⟩ := hS
  have hcl := hcl hl
  have hN := hg.hi
  have hcs : ∀ e ∈ l, 1 ≤ e.2.2 ∧ e.2.2 ≤ 10000 := fun e he => ⟨hc e he, (hg.cost e he).2⟩
  have hsp := hR.sp_le hI.lenD hl (by omega) hwl
  have hcw : cwt ws s = ws[s.rds.length] := by unfold cwt; rw [List.getD_eq_getElem?_getD, List.getElem?_eq_getElem hl]; rfl
  obtain ⟨hq1, hqp⟩ := hws (cwt ws s) (by rw [hcw]; exact List.getElem_mem hl)
  obtain ⟨r1, r2, r3⟩ := expand_rds l h v s
  have v0 := hv.1.1.1
  have v1 := hv.1.1.2
  have hvd := (hI.opn v v0 v1 hv.1.2).2
  refine ⟨_, hI.look_ hg.ends hcs hfr hv.1 (by omega), fun _ u u0 u1 hd d hw hlt => ?_, ?_⟩
  · have hcw2 : cwt ws (expand l h v s) = cwt ws s := by unfold cwt; rw [r1]
    rw [hcw2]
    rw [r3, db_set v0 (by rw [hI.lenD]; exact v1) u0] at hd
    by_cases e : u = v
    · subst e
      simp only [if_pos rfl]
      exact hI.within hcl hC hg.ends hcs hfr (by omega) hq1 hqp v0 v1 (fun x hx => by
        have h1 := StarLaw.lt3_no.1 (hv.2 x hx)
        simp only [kyA] at h1 ⊢
        omega) d hw hlt
    · rw [if_neg e] at hd
      simp only [if_neg e]
      exact hcl u u0 u1 hd d hw hlt
  · have hld : lastD (expand l h v s) = lastD s := by unfold lastD; rw [r1]
    refine ⟨by rw [r1]; exact hR.len, fun _ => ?_, by rw [hld, r1]; exact hR.ld, by rw [r1]; exact hR.each, by rw [r1]; exact hR.wts, by rw [r1]; exact hR.mono, by rw [r1]; exact hR.dns⟩
    have hi : v.toNat < s.dn.length := by rw [hI.lenD]; omega
    have hf : s.dn[v.toNat] = false := by
      unfold db at hvd
      rw [List.getD_eq_getElem?_getD, List.getElem?_eq_getElem hi] at hvd
      exact hvd
    rw [r2, r3, hld, count_set hi hf]
    have := hR.run hl
    omega
theorem Rn.si (hC : HeurLaw.Cons N tt l h) (hg : NetLaw.Good N l) (hc : ∀ e ∈ l, 1 ≤ e.2.2) (hfr : fr < N) (htt : tt < N) (hwl : ws.length ≤ 8) (hws : ∀ w ∈ ws, 1 ≤ w.2 ∧ w.2 ≤ w.1) {k : Nat} {s : AS} (hr : Rn N tt l h ws fr k s) : SI N fr tt l h ws s := by
  induction hr with
  | start a => exact a.keep hC hg hc hfr htt hwl hws (si_init hC hfr)
  | step _ hl hv hs ih => exact hs.keep hC hg hc hfr htt hwl hws (ih.look_ hC hg hc hfr hwl hws hl hv)
/-- a run is no longer than so -/
theorem Rn.short (hC : HeurLaw.Cons N tt l h) (hg : NetLaw.Good N l) (hc : ∀ e ∈ l, 1 ≤ e.2.2) (hfr : fr < N) (htt : tt < N) (hwl : ws.length ≤ 8) (hws : ∀ w ∈ ws, 1 ≤ w.2 ∧ w.2 ≤ w.1) {k : Nat} {s : AS} (hr : Rn N tt l h ws fr k s) (hl : s.rds.length < ws.length) : k ≤ 1000 := by
  obtain ⟨V, hI, _, hR⟩ := hr.si hC hg hc hfr htt hwl hws
  have h1 := hR.sp_le hI.lenD hl (by have := hg.hi; omega) hwl
  have h2 := hr.sp
  omega
end
end Go.Proofs.Ytpoolpaagbeokaa.AraLaw

namespace Go.Proofs.Ytpoolpaagbeokaa.AraLaw
open NetLaw BellLaw StarLaw WalkLaw
set_option linter.unusedSimpArgs false
set_option linter.unusedVariables false
def l2 : List E := [(0, 1, 5)]
def t0 : AS := ⟨[0, far], [-1, -1], [false, false], up (fun _ => false) 0 true, fun _ => false, 0, []⟩
def t1 : AS := ⟨[0, 5], [-1, 0], [true, false], up (up (up (fun _ => false) 0 true) 0 false) 1 true, fun _ => false, 1, []⟩
def t2 : AS := told [(1, 1)] ([0, 1], 5) t1
def u0 : AS := ⟨[far, 0], [-1, -1], [false, false], up (fun _ => false) 1 true, fun _ => false, 0, []⟩
def u1 : AS := told [(1, 1)] ([1], 0) u0
theorem lt3_self (a : Tr) : StarLaw.lt3 a a = false := by simp [StarLaw.lt3]
theorem op_t0 {v : Int} (h : AraLaw.Op 2 t0 v) : v = 0 := by
  obtain ⟨_, h⟩ := h
  unfold t0 up at h
  simp only at h
  split at h
  · assumption
  · cases h
theorem op_t1 {v : Int} (h : AraLaw.Op 2 t1 v) : v = 1 := by
  obtain ⟨_, h⟩ := h
  unfold t1 up at h
  simp only at h
  split at h
  · assumption
  · split at h
    · cases h
    · cases h
theorem op_u0 {v : Int} (h : AraLaw.Op 2 u0 v) : v = 1 := by
  obtain ⟨_, h⟩ := h
  unfold u0 up at h
  simp only at h
  split at h
  · assumption
  · cases h
theorem nx_t0 : NxA 2 (1, 1) [0, 0] t0 0 := ⟨⟨⟨by decide, by decide⟩, by decide⟩, fun u hu => by rw [op_t0 hu]; exact lt3_self _⟩
theorem nx_t1 : NxA 2 (1, 1) [0, 0] t1 1 := ⟨⟨⟨by decide, by decide⟩, by decide⟩, fun u hu => by rw [op_t1 hu]; exact lt3_self _⟩
theorem nx_u0 : NxA 2 (1, 1) [0, 0] u0 1 := ⟨⟨⟨by decide, by decide⟩, by decide⟩, fun u hu => by rw [op_u0 hu]; exact lt3_self _⟩
theorem init_t : init 2 [0, 0] 0 = t0 := rfl
theorem init_u : init 2 [0, 0] 1 = u0 := rfl
theorem exp_t : expand l2 [0, 0] 0 t0 = t1 := rfl
theorem best_t : BestA 2 1 l2 t1 ([0, 1], 5) := .inr ⟨by decide, [1, 0], Ch.more (by decide) (Ch.last rfl), rfl⟩
theorem best_u : BestA 2 1 l2 u0 ([1], 0) := .inr ⟨by decide, [1], Ch.last rfl, rfl⟩
/-- from the one to the other: a step, one round -/
theorem run_t0 : Rn 2 1 l2 [0, 0] [(1, 1)] 0 0 t0 := Rn.start (by
  show Stl 2 1 l2 [0, 0] [(1, 1)] (init 2 [0, 0] 0) t0
  rw [init_t]
  exact Stl.wait (by decide) ⟨0, nx_t0, .inl rfl⟩)
theorem run_t2 : Rn 2 1 l2 [0, 0] [(1, 1)] 0 1 t2 := Rn.step run_t0 (by decide) nx_t0 (by
  rw [exp_t]
  exact Stl.last rfl (.inr ⟨1, nx_t1, by decide, by decide⟩) best_t)
/-- from a place to itself: no step -/
theorem run_u1 : Rn 2 1 l2 [0, 0] [(1, 1)] 1 0 u1 := Rn.start (by
  show Stl 2 1 l2 [0, 0] [(1, 1)] (init 2 [0, 0] 1) u1
  rw [init_u]
  exact Stl.last rfl (.inr ⟨1, nx_u0, by decide, by decide⟩) best_u)
theorem over_t {k : Nat} {s : AS} (h : Rn 2 1 l2 [0, 0] [(1, 1)] 0 k s) (ho : s.rds.length = 1) : k = 1 ∧ s.rds = [⟨1, 1, [0, 1], 5, 1⟩] := by
  obtain ⟨h1, h2⟩ := h.one run_t2 ho rfl
  exact ⟨h1, by rw [h2]; rfl⟩
theorem over_u {k : Nat} {s : AS} (h : Rn 2 1 l2 [0, 0] [(1, 1)] 1 k s) (ho : s.rds.length = 1) : k = 0 ∧ s.rds = [⟨1, 1, [1], 0, 0⟩] := by
  obtain ⟨h1, h2⟩ := h.one run_u1 ho rfl
  exact ⟨h1, by rw [h2]; rfl⟩
end Go.Proofs.Ytpoolpaagbeokaa.AraLaw
