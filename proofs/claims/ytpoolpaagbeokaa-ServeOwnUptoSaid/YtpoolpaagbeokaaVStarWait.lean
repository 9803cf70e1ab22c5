/- Plain facts on the search with keys: no Go in sight. -/
/- Plain facts on what waits in a search with keys. -/
import Derived.Test.YtpoolpaagbeokaaVHeurLaw
import Derived.Test.YtpoolpaagbeokaaVWayLaw
namespace Go.Proofs.Ytpoolpaagbeokaa.StarLaw
open NetLaw BellLaw DijkLaw HeurLaw
set_option linter.unusedSimpArgs false
set_option linter.unusedVariables false
abbrev Tr := Int × Int × Int
/-- the order of keys, then of guesses, then of numbers -/
def lt3 (a b : Tr) : Bool := decide (a.1 < b.1 ∨ a.1 = b.1 ∧ (a.2.1 < b.2.1 ∨ a.2.1 = b.2.1 ∧ a.2.2 < b.2.2))
theorem lt3_no {a b : Tr} : lt3 a b = false ↔ b.1 < a.1 ∨ a.1 = b.1 ∧ (b.2.1 < a.2.1 ∨ a.2.1 = b.2.1 ∧ b.2.2 ≤ a.2.2) := by
  simp only [lt3, decide_eq_false_iff_not]; omega
/-- a place's key -/
def ky (K : Int → Int → Int) (h D : List Int) (v : Int) : Tr := (K (dg D v) (dg h v), dg h v, v)
/-- it has a cost and was not looked from -/
def Opn (N : Nat) (D ord : List Int) (v : Int) : Prop := (0 ≤ v ∧ v < N) ∧ dg D v < far ∧ v ∉ ord
/-- the next to be looked from -/
def Nx (K : Int → Int → Int) (N : Nat) (h D ord : List Int) (v : Int) : Prop := Opn N D ord v ∧ ∀ u, Opn N D ord u → lt3 (ky K h D u) (ky K h D v) = false
theorem Nx.unique {K : Int → Int → Int} {N : Nat} {h D ord : List Int} {u v : Int} (hu : Nx K N h D ord u) (hv : Nx K N h D ord v) : u = v := by
  have h1 := lt3_no.1 (hu.2 v hv.1)
  have h2 := lt3_no.1 (hv.2 u hu.1)
  simp only [ky] at h1 h2
  omega
/-- one edge out of v looked at -/
def rx1 (h dn : List Int) (v : Int) (s : List Int × List Int) (e : E) : List Int × List Int :=
  if e.2.1 ∈ dn ∨ dg s.1 e.2.1 ≤ dg s.1 v + e.2.2 ∨ dg h e.2.1 = far then s else (s.1.set e.2.1.toNat (dg s.1 v + e.2.2), s.2.set e.2.1.toNat v)
/-- the edges out of v -/
def oe (l : List E) (v : Int) : List E := l.filter fun e => decide (e.1 = v)
def rxs (h dn : List Int) (v : Int) (es : List E) (s : List Int × List Int) : List Int × List Int := es.foldl (rx1 h dn v) s
/-- the start -/
def D0 (N fr : Nat) (h : List Int) : List Int := if dg h fr = far then List.replicate N far else (List.replicate N far).set fr 0
def P0 (N : Nat) : List Int := List.replicate N (-1)
/-- what is come to -/
inductive Rch (K : Int → Int → Int) (N fr tt : Nat) (l : List E) (h : List Int) : List Int → List Int → List Int → Prop
  | start : Rch K N fr tt l h (D0 N fr h) (P0 N) []
  | step {D P ord : List Int} {v : Int} : Rch K N fr tt l h D P ord → Nx K N h D ord v → v ≠ tt → Rch K N fr tt l h (rxs h (ord ++ [v]) v (oe l v) (D, P)).1 (rxs h (ord ++ [v]) v (oe l v) (D, P)).2 (ord ++ [v])
/-- the answer: found, or none -/
def Stop (K : Int → Int → Int) (N tt : Nat) (h D ord : List Int) : Prop := Nx K N h D ord tt ∨ ∀ u, ¬ Opn N D ord u

section
variable {K K' : Int → Int → Int} {N fr tt : Nat} {l : List E} {h : List Int}
theorem Rch.same {D P ord : List Int} : ∀ {D' P' ord' : List Int}, Rch K N fr tt l h D P ord → Rch K N fr tt l h D' P' ord' → ord.length = ord'.length → D = D' ∧ P = P' ∧ ord = ord' := by
  intro D' P' ord' hr hr'
  induction hr generalizing D' P' ord' with
  | start =>
    intro hl
    cases hr' with
    | start => exact ⟨rfl, rfl, rfl⟩
    | step _ _ _ => simp at hl
  | step hr hn hv ih =>
    intro hl
    cases hr' with
    | start => simp at hl
    | step hr2 hn2 hv2 =>
      obtain ⟨rfl, rfl, rfl⟩ := ih hr2 (by simpa using hl)
      obtain rfl := hn.unique hn2
      exact ⟨rfl, rfl, rfl⟩
theorem Rch.upto {D P ord : List Int} (hr : Rch K N fr tt l h D P ord) : ∀ k, k < ord.length → ∃ D' P' ord' v, Rch K N fr tt l h D' P' ord' ∧ ord'.length = k ∧ Nx K N h D' ord' v ∧ v ≠ tt := by
  induction hr with
  | start => intro k hk; simp at hk
  | @step D P ord v hr hn hv ih =>
    intro k hk
    by_cases e : k = ord.length
    · exact ⟨D, P, ord, v, hr, e.symm, hn, hv⟩
    · exact ih k (by simp at hk; omega)
theorem Rch.stop_le {D P ord D' P' ord' : List Int} (hr : Rch K N fr tt l h D P ord) (hs : Stop K N tt h D ord) (hr' : Rch K N fr tt l h D' P' ord') : ord'.length ≤ ord.length := by
  rcases Nat.lt_or_ge ord.length ord'.length with hlt | hge
  · exfalso
    obtain ⟨D2, P2, o2, v, hr2, hl2, hn2, hv2⟩ := hr'.upto _ hlt
    obtain ⟨rfl, rfl, rfl⟩ := hr2.same hr hl2
    rcases hs with h1 | h1
    · exact hv2 (hn2.unique h1)
    · exact h1 v hn2.1
  · exact hge
/-- there is but one answer -/
theorem Rch.det {D P ord D' P' ord' : List Int} (hr : Rch K N fr tt l h D P ord) (hs : Stop K N tt h D ord) (hr' : Rch K N fr tt l h D' P' ord') (hs' : Stop K N tt h D' ord') : D = D' ∧ P = P' ∧ ord = ord' :=
  hr.same hr' (Nat.le_antisymm (hr'.stop_le hs' hr) (hr.stop_le hs hr'))
/-- keys that compare alike -/
theorem Rch.congr (hK : ∀ D ord v, Nx K N h D ord v ↔ Nx K' N h D ord v) {D P ord : List Int} (hr : Rch K N fr tt l h D P ord) : Rch K' N fr tt l h D P ord := by
  induction hr with
  | start => exact Rch.start
  | step hr hn hv ih => exact Rch.step ih ((hK _ _ _).1 hn) hv
end
theorem nx_scale {N : Nat} {h : List Int} {p q : Int} (hq : 1 ≤ q) (hz : ∀ v, dg h v = 0) (D ord : List Int) (v : Int) : Nx (fun c g => c + g) N h D ord v ↔ Nx (fun c g => q * c + p * g) N h D ord v := by
  have key : ∀ u, lt3 (ky (fun c g => c + g) h D u) (ky (fun c g => c + g) h D v) = lt3 (ky (fun c g => q * c + p * g) h D u) (ky (fun c g => q * c + p * g) h D v) := fun u => by
    simp only [lt3, ky, hz, Int.mul_zero, Int.add_zero, decide_eq_decide]
    have h1 : q * dg D u < q * dg D v ↔ dg D u < dg D v := ⟨fun h => Int.lt_of_mul_lt_mul_left h (by omega), fun h => Int.mul_lt_mul_of_pos_left h (by omega)⟩
    have h2 : q * dg D u = q * dg D v ↔ dg D u = dg D v := ⟨fun h => Int.eq_of_mul_eq_mul_left (by omega) h, fun h => by rw [h]⟩
    rw [h1, h2]
  unfold Nx
  refine and_congr_right fun _ => forall_congr' fun u => imp_congr_right fun _ => ?_
  rw [key]

/-- what looking at edges out of v does -/
structure Mid (N : Nat) (l : List E) (h dn : List Int) (v : Int) (D P D' P' : List Int) (seen : List E) : Prop where
  lenD : D'.length = D.length
  lenP : P'.length = P.length
  eq : ∀ u : Int, 0 ≤ u → u < N → (dg D' u = dg D u ∧ dg P' u = dg P u) ∨ (u ∉ dn ∧ dg h u ≠ far ∧ dg P' u = v ∧ dg D' u < dg D u ∧ ∃ e ∈ l, e.1 = v ∧ e.2.1 = u ∧ dg D' u = dg D v + e.2.2)
  rel : ∀ e ∈ seen, e.2.1 ∈ dn ∨ dg h e.2.1 = far ∨ dg D' e.2.1 ≤ dg D v + e.2.2
section
variable {N : Nat} {l : List E} {h dn : List Int} {v : Int} {D P D' P' : List Int} {seen : List E}
theorem Mid.start : Mid N l h dn v D P D P [] := ⟨rfl, rfl, fun u _ _ => .inl ⟨rfl, rfl⟩, fun e he => by cases he⟩
theorem Mid.le (hm : Mid N l h dn v D P D' P' seen) {u : Int} (u0 : 0 ≤ u) (u1 : u < N) : dg D' u ≤ dg D u := by
  rcases hm.eq u u0 u1 with ⟨e, _⟩ | ⟨_, _, _, e, _⟩ <;> omega
theorem Mid.dn_ (hm : Mid N l h dn v D P D' P' seen) {u : Int} (u0 : 0 ≤ u) (u1 : u < N) (hu : u ∈ dn) : dg D' u = dg D u ∧ dg P' u = dg P u := by
  rcases hm.eq u u0 u1 with e | ⟨e, _⟩
  · exact e
  · exact absurd hu e
theorem Mid.step (hm : Mid N l h dn v D P D' P' seen) {e : E} (he : e ∈ l) (hev : e.1 = v) (v0 : 0 ≤ v) (v1 : v < N) (hv : v ∈ dn) (t0 : 0 ≤ e.2.1) (t1 : e.2.1 < N) (hD : D.length = N) (hP : P.length = N) :
    Mid N l h dn v D P (rx1 h dn v (D', P') e).1 (rx1 h dn v (D', P') e).2 (seen ++ [e]) := by
  have hvv := (hm.dn_ v0 v1 hv).1
  unfold rx1
  by_cases hc : e.2.1 ∈ dn ∨ dg D' e.2.1 ≤ dg D' v + e.2.2 ∨ dg h e.2.1 = far
  · rw [if_pos hc]
    refine ⟨hm.lenD, hm.lenP, hm.eq, fun x hx => ?_⟩
    rcases List.mem_append.1 hx with hx | hx
    · exact hm.rel x hx
    · rw [List.mem_singleton] at hx
      subst hx
      rw [hvv] at hc
      rcases hc with hc | hc | hc
      · exact .inl hc
      · exact .inr (.inr hc)
      · exact .inr (.inl hc)
  · rw [if_neg hc]
    have hne : e.2.1 ∉ dn := fun h => hc (.inl h)
    have hlt : ¬ dg D' e.2.1 ≤ dg D' v + e.2.2 := fun h => hc (.inr (.inl h))
    have hhf : dg h e.2.1 ≠ far := fun h => hc (.inr (.inr h))
    rw [hvv] at hlt ⊢
    have hDl := hm.lenD
    have hPl := hm.lenP
    have sD := fun u hu => dg_set (D := D') (t := e.2.1) (v := u) (x := dg D v + e.2.2) t0 (by omega) hu
    have sP := fun u hu => dg_set (D := P') (t := e.2.1) (v := u) (x := v) t0 (by omega) hu
    refine ⟨by simp [hDl], by simp [hPl], fun u u0 u1 => ?_, fun x hx => ?_⟩
    · simp only [sD u u0, sP u u0]
      by_cases hu : u = e.2.1
      · subst hu
        rw [if_pos rfl, if_pos rfl]
        exact .inr ⟨hne, hhf, rfl, by have := hm.le u0 u1; omega, e, he, hev, rfl, rfl⟩
      · rw [if_neg hu, if_neg hu]
        exact hm.eq u u0 u1
    · rcases List.mem_append.1 hx with hx | hx
      · rcases hm.rel x hx with h1 | h1 | h1
        · exact .inl h1
        · exact .inr (.inl h1)
        · refine .inr (.inr ?_)
          by_cases x0 : 0 ≤ x.2.1
          · simp only [sD _ x0]
            split
            · rename_i hxe
              rw [hxe] at h1
              have := hlt
              omega
            · exact h1
          · have e2 : x.2.1.toNat = 0 := by omega
            have h3 : ∀ A : List Int, dg A x.2.1 = dg A 0 := fun A => by unfold dg; rw [e2]; rfl
            rw [h3] at h1 ⊢
            simp only [sD 0 (Int.le_refl 0)]
            split
            · rename_i hxe
              rw [hxe] at h1
              omega
            · exact h1
      · rw [List.mem_singleton] at hx
        subst hx
        refine .inr (.inr ?_)
        simp only [sD _ t0, if_pos]
        exact Int.le_refl _
theorem Mid.all (hends : ∀ e ∈ l, 0 ≤ e.1 ∧ e.1 < N ∧ 0 ≤ e.2.1 ∧ e.2.1 < N) (v0 : 0 ≤ v) (v1 : v < N) (hv : v ∈ dn) (hD : D.length = N) (hP : P.length = N) : ∀ (es : List E) (seen : List E) (D' P' : List Int), (∀ e ∈ es, e ∈ l ∧ e.1 = v) → Mid N l h dn v D P D' P' seen →
    Mid N l h dn v D P (rxs h dn v es (D', P')).1 (rxs h dn v es (D', P')).2 (seen ++ es) := by
  intro es
  induction es with
  | nil => intro seen D' P' _ hm; rw [List.append_nil]; exact hm
  | cons e es ih =>
    intro seen D' P' hes hm
    obtain ⟨he, hev⟩ := hes e (List.mem_cons_self ..)
    obtain ⟨_, _, t0, t1⟩ := hends e he
    have := ih (seen ++ [e]) _ _ (fun x hx => hes x (List.mem_cons_of_mem _ hx)) (hm.step he hev v0 v1 hv t0 t1 hD hP)
    rw [List.append_assoc] at this
    exact this
end
/-- what holds of a search that goes on -/
structure St (N fr : Nat) (l : List E) (h D P ord : List Int) : Prop where
  lenD : D.length = N
  lenP : P.length = N
  lo : ∀ v : Int, 0 ≤ v → v < N → 0 ≤ dg D v ∧ dg D v ≤ far
  live : ∀ v : Int, 0 ≤ v → v < N → dg D v < far → dg h v ≠ far
  wk : ∀ v : Int, 0 ≤ v → v < N → dg D v < far → Wk l fr v (dg D v)
  root : dg h fr ≠ far → dg D fr = 0
  rootP : dg P fr = -1
  tree : ∀ v : Int, 0 ≤ v → v < N → dg D v < far → v ≠ fr → (0 ≤ dg P v ∧ dg P v < N) ∧ dg P v ∈ ord ∧ ∃ c, (dg P v, v, c) ∈ l ∧ dg D v = dg D (dg P v) + c ∧ ∀ c', (dg P v, v, c') ∈ l → c ≤ c'
  relx : ∀ e ∈ l, e.1 ∈ ord → e.2.1 ∉ ord → dg h e.2.1 ≠ far → dg D e.2.1 ≤ dg D e.1 + e.2.2
  ordin : ∀ v ∈ ord, (0 ≤ v ∧ v < N) ∧ dg D v < far
  nd : ord.Nodup
  bd : ∀ v : Int, 0 ≤ v → v < N → dg D v < far → dg D v ≤ 10000 * (ord.length : Int)
section
variable {N fr : Nat} {l : List E} {h D P ord : List Int}
theorem rep_dg {n : Nat} {x v : Int} (v0 : 0 ≤ v) (v1 : v < n) : dg (List.replicate n x) v = x := by
  rw [dg, List.getD_eq_getElem?_getD, List.getElem?_replicate, if_pos (by omega)]
  rfl
theorem St.start (hf : fr < N) : St N fr l h (D0 N fr h) (P0 N) [] := by
  unfold D0 P0
  by_cases hh : dg h fr = far
  · rw [if_pos hh]
    have hr := fun v v0 v1 => rep_dg (n := N) (x := far) (v := v) v0 v1
    exact ⟨by simp, by simp, fun v v0 v1 => by rw [hr v v0 v1]; unfold far; omega, fun v v0 v1 hv => (by rw [hr v v0 v1] at hv; omega), fun v v0 v1 hv => (by rw [hr v v0 v1] at hv; omega), fun hn => absurd hh hn, rep_dg (by omega) (by omega), fun v v0 v1 hv => (by rw [hr v v0 v1] at hv; omega), fun e _ he => (by cases he), fun v hv => (by cases hv), List.nodup_nil, fun v v0 v1 hv => by rw [hr v v0 v1] at hv; omega⟩
  · rw [if_neg hh]
    have hs := fun v hv => dg_set (D := List.replicate N far) (t := (fr : Int)) (v := v) (x := 0) (by omega) (by simp; omega) hv
    simp only [Int.toNat_natCast] at hs
    have hr : ∀ v : Int, 0 ≤ v → v < N → dg ((List.replicate N far).set fr 0) v = if v = fr then 0 else far := fun v v0 v1 => by
      rw [hs v v0]; split
      · rfl
      · exact rep_dg v0 v1
    have hlt : ∀ v : Int, 0 ≤ v → v < N → dg ((List.replicate N far).set fr 0) v < far → v = fr := fun v v0 v1 hv => by
      rw [hr v v0 v1] at hv
      split at hv
      · assumption
      · omega
    refine ⟨by simp, by simp, fun v v0 v1 => ?_, fun v v0 v1 hv => ?_, fun v v0 v1 hv => ?_, fun _ => ?_, rep_dg (by omega) (by omega), fun v v0 v1 hv hn => absurd (hlt v v0 v1 hv) hn, fun e _ he => (by cases he), fun v hv => (by cases hv), List.nodup_nil, fun v v0 v1 hv => ?_⟩
    · rw [hr v v0 v1]; split <;> (unfold far; omega)
    · rw [hlt v v0 v1 hv]; exact hh
    · obtain rfl := hlt v v0 v1 hv
      rw [hr _ v0 v1, if_pos rfl]
      exact Wk.here
    · rw [hr _ (by omega) (by omega), if_pos rfl]
    · rw [hlt v v0 v1 hv, hr _ (by omega) (by omega), if_pos rfl]; simp
theorem St.step (hs : St N fr l h D P ord) (hends : ∀ e ∈ l, 0 ≤ e.1 ∧ e.1 < N ∧ 0 ≤ e.2.1 ∧ e.2.1 < N) (hc : ∀ e ∈ l, 1 ≤ e.2.2 ∧ e.2.2 ≤ 10000) (hf : fr < N) {v : Int} (hv : Opn N D ord v) :
    St N fr l h (rxs h (ord ++ [v]) v (oe l v) (D, P)).1 (rxs h (ord ++ [v]) v (oe l v) (D, P)).2 (ord ++ [v]) ∧ (∀ u ∈ ord ++ [v], dg (rxs h (ord ++ [v]) v (oe l v) (D, P)).1 u = dg D u) ∧
    ∀ u : Int, 0 ≤ u → u < N → dg (rxs h (ord ++ [v]) v (oe l v) (D, P)).1 u = dg D u ∨ (u ∉ ord ++ [v] ∧ ∃ c, (v, u, c) ∈ l ∧ dg (rxs h (ord ++ [v]) v (oe l v) (D, P)).1 u = dg D v + c) := by
  obtain ⟨⟨v0, v1⟩, hvf, hvo⟩ := hv
  have hvd : v ∈ ord ++ [v] := List.mem_append_right _ (List.mem_singleton.2 rfl)
  have hm := Mid.all (h := h) (dn := ord ++ [v]) hends v0 v1 hvd hs.lenD hs.lenP (oe l v) [] D P (fun e he => by
    unfold oe at he
    rw [List.mem_filter] at he
    exact ⟨he.1, of_decide_eq_true he.2⟩) Mid.start
  rw [List.nil_append] at hm
  generalize (rxs h (ord ++ [v]) v (oe l v) (D, P)).1 = D' at hm ⊢
  generalize (rxs h (ord ++ [v]) v (oe l v) (D, P)).2 = P' at hm ⊢
  have hdn : ∀ u ∈ ord ++ [v], (0 ≤ u ∧ u < N) ∧ dg D u < far := fun u hu => by
    rcases List.mem_append.1 hu with h1 | h1
    · exact hs.ordin u h1
    · rw [List.mem_singleton] at h1; subst h1; exact ⟨⟨v0, v1⟩, hvf⟩
  have hsame : ∀ u ∈ ord ++ [v], dg D' u = dg D u ∧ dg P' u = dg P u := fun u hu => hm.dn_ (hdn u hu).1.1 (hdn u hu).1.2 hu
  have hvlo := hs.lo v v0 v1
  have hnew : ∀ u : Int, 0 ≤ u → u < N → (dg D' u = dg D u ∧ dg P' u = dg P u) ∨ (u ∉ ord ++ [v] ∧ dg h u ≠ far ∧ dg P' u = v ∧ dg D' u < dg D u ∧ ∃ c, (v, u, c) ∈ l ∧ dg D' u = dg D v + c ∧ 1 ≤ c ∧ c ≤ 10000) := fun u u0 u1 => by
    rcases hm.eq u u0 u1 with h1 | ⟨h1, h2, h3, h4, e, he, e1, e2, e3⟩
    · exact .inl h1
    · refine .inr ⟨h1, h2, h3, h4, e.2.2, ?_, e3, hc e he⟩
      rw [← e1, ← e2]
      exact he
  refine ⟨⟨hm.lenD.trans hs.lenD, hm.lenP.trans hs.lenP, fun u u0 u1 => ?_, fun u u0 u1 hu => ?_, fun u u0 u1 hu => ?_, fun hh => ?_, ?_, fun u u0 u1 hu hne => ?_, fun e he heo hen hef => ?_, fun u hu => ?_, ?_, fun u u0 u1 hu => ?_⟩, fun u hu => (hsame u hu).1, fun u u0 u1 => ?_⟩
  · have := hs.lo u u0 u1
    rcases hnew u u0 u1 with ⟨e, _⟩ | ⟨_, _, _, e, c, _, e2, e3, _⟩ <;> omega
  · rcases hnew u u0 u1 with ⟨e, _⟩ | ⟨_, e, _⟩
    · exact hs.live u u0 u1 (by omega)
    · exact e
  · rcases hnew u u0 u1 with ⟨e, _⟩ | ⟨_, _, _, e, c, hm, e2, e3⟩
    · rw [e]; exact hs.wk u u0 u1 (by omega)
    · rw [e2]
      exact Wk.step (e := (v, u, c)) (hs.wk v v0 v1 hvf) hm rfl
  · have h0 := hs.root hh
    rcases hnew fr (by omega) (by omega) with ⟨e, _⟩ | ⟨_, _, _, e, c, _, e2, e3⟩ <;> omega
  · rcases hnew fr (by omega) (by omega) with ⟨_, e⟩ | ⟨_, e1, _, e, c, _, e2, e3⟩
    · rw [e]; exact hs.rootP
    · have h0 := hs.root e1
      omega
  · rcases hnew u u0 u1 with ⟨e, eP⟩ | ⟨hud, hhu, eP, e, c, hmem, e2, e3⟩
    · obtain ⟨⟨p0, p1⟩, hpo, c, hcl, hcd, hmin⟩ := hs.tree u u0 u1 (by omega) hne
      have hpd : dg P u ∈ ord ++ [v] := List.mem_append_left _ hpo
      rw [eP, e]
      exact ⟨⟨p0, p1⟩, hpd, c, hcl, by rw [(hsame _ hpd).1]; exact hcd, hmin⟩
    · rw [eP]
      refine ⟨⟨v0, v1⟩, hvd, c, hmem, by rw [(hsame v hvd).1]; exact e2, fun c' hc' => ?_⟩
      have hin : ((v, u, c') : E) ∈ oe l v := by unfold oe; rw [List.mem_filter]; exact ⟨hc', by simp⟩
      rcases hm.rel _ hin with h1 | h1 | h1
      · exact absurd h1 hud
      · exact absurd h1 hhu
      · simp only at h1
        omega
  · obtain ⟨a0, a1, b0, b1⟩ := hends e he
    have hle := hm.le b0 b1
    rcases List.mem_append.1 heo with h1 | h1
    · have hn1 : e.2.1 ∉ ord := fun x => hen (List.mem_append_left _ x)
      have := hs.relx e he h1 hn1 hef
      rw [(hsame _ heo).1]
      omega
    · rw [List.mem_singleton] at h1
      have hin : e ∈ oe l v := by unfold oe; rw [List.mem_filter]; exact ⟨he, by simp [h1]⟩
      rw [(hsame _ heo).1, h1]
      rcases hm.rel _ hin with h2 | h2 | h2
      · exact absurd h2 hen
      · exact absurd h2 hef
      · exact h2
  · obtain ⟨h1, h2⟩ := hdn u hu
    exact ⟨h1, by rw [(hsame u hu).1]; exact h2⟩
  · rw [List.nodup_append]
    exact ⟨hs.nd, by simp, fun a ha b hb e => by rw [List.mem_singleton] at hb; subst hb; subst e; exact hvo ha⟩
  · have hl : ((ord ++ [v]).length : Int) = ord.length + 1 := by simp
    rw [hl]
    have hbv := hs.bd v v0 v1 hvf
    rcases hnew u u0 u1 with ⟨e, _⟩ | ⟨_, _, _, e, c, _, e2, e3, e4⟩
    · have := hs.bd u u0 u1 (by omega)
      omega
    · omega
  · rcases hnew u u0 u1 with ⟨e, _⟩ | ⟨hud, _, _, _, c, hmem, e2, _⟩
    · exact .inl e
    · exact .inr ⟨hud, c, hmem, e2⟩
theorem nodup_lenI {S : List Int} {k : Nat} (h : S.Nodup) (hk : ∀ m ∈ S, 0 ≤ m ∧ m < k) : S.length ≤ k := by
  induction k generalizing S with
  | zero =>
    cases S with
    | nil => simp
    | cons x S => have := hk x (List.mem_cons_self ..); omega
  | succ k ih =>
    have h1 := ih (S := S.erase (k : Int)) (h.erase _) (fun m hm => by
      have hm2 := (h.mem_erase_iff).1 hm
      have := hk m hm2.2
      have := hm2.1
      omega)
    by_cases hin : (k : Int) ∈ S
    · rw [List.length_erase_of_mem hin] at h1; omega
    · rw [List.erase_of_not_mem hin] at h1; omega
theorem St.ordlen (hs : St N fr l h D P ord) (hN : N ≤ 64) : ord.length ≤ 64 := Nat.le_trans (nodup_lenI hs.nd (fun m hm => (hs.ordin m hm).1)) hN
theorem Rch.st {K : Int → Int → Int} {tt : Nat} (hends : ∀ e ∈ l, 0 ≤ e.1 ∧ e.1 < N ∧ 0 ≤ e.2.1 ∧ e.2.1 < N) (hc : ∀ e ∈ l, 1 ≤ e.2.2 ∧ e.2.2 ≤ 10000) (hf : fr < N) {D P ord : List Int} (hr : Rch K N fr tt l h D P ord) : St N fr l h D P ord := by
  induction hr with
  | start => exact St.start hf
  | step hr hn hv ih => exact (ih.step hends hc hf hn.1).1
theorem Rch.no_end {K : Int → Int → Int} {tt : Nat} {D P ord : List Int} (hr : Rch K N fr tt l h D P ord) : (tt : Int) ∉ ord := by
  induction hr with
  | start => simp
  | step hr hn hv ih =>
    rw [List.mem_append, List.mem_singleton]
    rintro (h1 | h1)
    · exact ih h1
    · exact hv h1.symm
end
/-- the costs of those looked from are within the weight -/
def Cl (N fr : Nat) (l : List E) (h : List Int) (q p : Int) (D ord : List Int) : Prop := ∀ s ∈ ord, ∀ d, Wk l fr s d → dg h s + d < far → q * dg D s ≤ p * d
section
variable {N fr tt : Nat} {l : List E} {h D P ord : List Int} {q p : Int}
/-- along a walk: its end was looked from, or some place on it waits -/
theorem front (hs : St N fr l h D P ord) (hcl : Cl N fr l h q p D ord) (hC : HeurLaw.Cons N tt l h) (hends : ∀ e ∈ l, 0 ≤ e.1 ∧ e.1 < N ∧ 0 ≤ e.2.1 ∧ e.2.1 < N) (hc : ∀ e ∈ l, 1 ≤ e.2.2 ∧ e.2.2 ≤ 10000) (hf : fr < N) (hN : N ≤ 64) (hq : 1 ≤ q) (hqp : q ≤ p) {v d : Int} (hw : Wk l fr v d) :
    dg h v + d < far → (0 ≤ d) ∧ ((v ∈ ord ∧ q * dg D v ≤ p * d) ∨ ∃ u, Opn N D ord u ∧ ∃ du, 0 ≤ du ∧ q * dg D u ≤ p * du ∧ du + dg h u ≤ d + dg h v) := by
  induction hw with
  | here =>
    intro hlt
    refine ⟨Int.le_refl _, ?_⟩
    have hr := hs.root (by omega)
    by_cases ho : (fr : Int) ∈ ord
    · exact .inl ⟨ho, by rw [hr]; simp⟩
    · exact .inr ⟨fr, ⟨⟨by omega, by omega⟩, by rw [hr]; unfold far; omega, ho⟩, 0, Int.le_refl _, by rw [hr]; simp, by omega⟩
  | @step u d e hu he hfe ih =>
    intro hlt
    subst hfe
    have hed := hC.edge e he
    obtain ⟨a0, a1, b0, b1⟩ := hends e he
    have h1 := hc e he
    obtain ⟨d0, ih⟩ := ih (by omega)
    refine ⟨by omega, ?_⟩
    rcases ih with ⟨ho, hle⟩ | ⟨x, hx, dx, dx0, hx1, hx2⟩
    · have hbd := (hC.bd b0 b1).1
      have hhf : dg h e.2.1 ≠ far := by omega
      have hmul : q * (dg D e.1 + e.2.2) ≤ p * (d + e.2.2) := by
        have : q * e.2.2 ≤ p * e.2.2 := Int.mul_le_mul_of_nonneg_right hqp (by omega)
        rw [Int.mul_add, Int.mul_add]
        omega
      by_cases hoe : e.2.1 ∈ ord
      · exact .inl ⟨hoe, hcl _ hoe _ (Wk.step hu he rfl) hlt⟩
      · have hrel := hs.relx e he ho hoe hhf
        have hlo := (hs.lo e.2.1 b0 b1).1
        have hq2 : q * dg D e.2.1 ≤ q * (dg D e.1 + e.2.2) := Int.mul_le_mul_of_nonneg_left hrel (by omega)
        by_cases hfr : dg D e.2.1 < far
        · exact .inr ⟨e.2.1, ⟨⟨b0, b1⟩, hfr, hoe⟩, d + e.2.2, by omega, by omega, Int.le_refl _⟩
        · exfalso
          have ho1 := (hs.ordin _ ho).2
          have ho2 := hs.bd e.1 a0 a1 ho1
          have h64 := hs.ordlen hN
          unfold far at *
          omega
    · exact .inr ⟨x, hx, dx, dx0, hx1, by omega⟩
/-- the closed costs go on -/
theorem Cl.step {K : Int → Int → Int} (hK : ∀ c g, K c g = q * c + p * g) (hs : St N fr l h D P ord) (hcl : Cl N fr l h q p D ord) (hC : HeurLaw.Cons N tt l h) (hends : ∀ e ∈ l, 0 ≤ e.1 ∧ e.1 < N ∧ 0 ≤ e.2.1 ∧ e.2.1 < N) (hc : ∀ e ∈ l, 1 ≤ e.2.2 ∧ e.2.2 ≤ 10000) (hf : fr < N) (hN : N ≤ 64) (hq : 1 ≤ q) (hqp : q ≤ p) {v : Int} (hv : Nx K N h D ord v) :
    ∀ d, Wk l fr v d → dg h v + d < far → q * dg D v ≤ p * d := fun d hw hlt => by
  obtain ⟨d0, h1⟩ := front hs hcl hC hends hc hf hN hq hqp hw hlt
  rcases h1 with ⟨_, h1⟩ | ⟨u, hu, du, du0, h1, h2⟩
  · exact h1
  · have h3 := lt3_no.1 (hv.2 u hu)
    simp only [ky, hK] at h3
    have h4 : p * (du + dg h u) ≤ p * (d + dg h v) := Int.mul_le_mul_of_nonneg_left h2 (by omega)
    rw [Int.mul_add, Int.mul_add] at h4
    omega
theorem Rch.cl {K : Int → Int → Int} (hK : ∀ c g, K c g = q * c + p * g) (hC : HeurLaw.Cons N tt l h) (hends : ∀ e ∈ l, 0 ≤ e.1 ∧ e.1 < N ∧ 0 ≤ e.2.1 ∧ e.2.1 < N) (hc : ∀ e ∈ l, 1 ≤ e.2.2 ∧ e.2.2 ≤ 10000) (hf : fr < N) (hN : N ≤ 64) (hq : 1 ≤ q) (hqp : q ≤ p) (hr : Rch K N fr tt l h D P ord) : Cl N fr l h q p D ord := by
  induction hr with
  | start => intro s hs; cases hs
  | @step D P ord v hr hn hv ih =>
    intro s hs d hw hlt
    have hst := hr.st hends hc hf
    obtain ⟨_, hsame, _⟩ := hst.step hends hc hf hn.1
    rw [hsame s hs]
    rcases List.mem_append.1 hs with h1 | h1
    · exact ih s h1 d hw hlt
    · rw [List.mem_singleton] at h1
      subst h1
      exact Cl.step hK hst ih hC hends hc hf hN hq hqp hn d hw hlt
/-- the end: what is found costs within the weight -/
theorem Rch.end_cost {K : Int → Int → Int} (hK : ∀ c g, K c g = q * c + p * g) (hC : HeurLaw.Cons N tt l h) (hends : ∀ e ∈ l, 0 ≤ e.1 ∧ e.1 < N ∧ 0 ≤ e.2.1 ∧ e.2.1 < N) (hc : ∀ e ∈ l, 1 ≤ e.2.2 ∧ e.2.2 ≤ 10000) (hf : fr < N) (hN : N ≤ 64) (hq : 1 ≤ q) (hqp : q ≤ p) (hr : Rch K N fr tt l h D P ord) (hn : Nx K N h D ord tt) : ∀ d, Wk l fr tt d → d < far → q * dg D tt ≤ p * d := fun d hw hd =>
  Cl.step hK (hr.st hends hc hf) (hr.cl hK hC hends hc hf hN hq hqp) hC hends hc hf hN hq hqp hn d hw (by rw [hC.zero]; omega)
/-- none waits: there is no walk -/
theorem Rch.none {K : Int → Int → Int} (hK : ∀ c g, K c g = q * c + p * g) (hC : HeurLaw.Cons N tt l h) (hends : ∀ e ∈ l, 0 ≤ e.1 ∧ e.1 < N ∧ 0 ≤ e.2.1 ∧ e.2.1 < N) (hc : ∀ e ∈ l, 1 ≤ e.2.2 ∧ e.2.2 ≤ 10000) (hf : fr < N) (ht : tt < N) (hN : N ≤ 64) (hq : 1 ≤ q) (hqp : q ≤ p) (hr : Rch K N fr tt l h D P ord) (hn : ∀ u, ¬ Opn N D ord u) {M : List Int} (hM : Sh N fr l M) : dg M tt = far := by
  have hlo := hM.lo tt (by omega) (by omega)
  by_cases hlt : dg M tt < far
  · obtain ⟨_, h1⟩ := front (hr.st hends hc hf) (hr.cl hK hC hends hc hf hN hq hqp) hC hends hc hf hN hq hqp (hM.wk tt (by omega) (by omega) hlt) (by rw [hC.zero]; omega)
    rcases h1 with ⟨h1, _⟩ | ⟨u, hu, _⟩
    · exact absurd h1 hr.no_end
    · exact absurd hu (hn u)
  · omega
end
/-- without a weight: keys never fall -/
structure Srt (N : Nat) (h D ord : List Int) : Prop where
  le : ∀ s ∈ ord, ∀ u, Opn N D ord u → dg D s + dg h s ≤ dg D u + dg h u
  pw : ord.Pairwise fun a b => dg D a + dg h a ≤ dg D b + dg h b
section
variable {N fr tt : Nat} {l : List E} {h D P ord : List Int}
theorem Srt.add {v : Int} (hs : Srt N h D ord) (hv : Opn N D ord v) : (ord ++ [v]).Pairwise fun a b => dg D a + dg h a ≤ dg D b + dg h b := by
  rw [List.pairwise_append]
  exact ⟨hs.pw, List.pairwise_singleton _ _, fun a ha b hb => by rw [List.mem_singleton] at hb; subst hb; exact hs.le a ha _ hv⟩
theorem Rch.srt {K : Int → Int → Int} (hK : ∀ c g, K c g = c + g) (hC : HeurLaw.Cons N tt l h) (hends : ∀ e ∈ l, 0 ≤ e.1 ∧ e.1 < N ∧ 0 ≤ e.2.1 ∧ e.2.1 < N) (hc : ∀ e ∈ l, 1 ≤ e.2.2 ∧ e.2.2 ≤ 10000) (hf : fr < N) (hr : Rch K N fr tt l h D P ord) : Srt N h D ord := by
  induction hr with
  | start => exact ⟨fun s hs => (by cases hs), List.Pairwise.nil⟩
  | @step D P ord v hr hn hv ih =>
    have hst := hr.st hends hc hf
    obtain ⟨_, hsame, hch⟩ := hst.step hends hc hf hn.1
    have hadd := ih.add hn.1
    refine ⟨fun s hs u hu => ?_, ?_⟩
    · rw [hsame s hs]
      obtain ⟨⟨u0, u1⟩, huf, huo⟩ := hu
      have hsv : dg D s + dg h s ≤ dg D v + dg h v := by
        rcases List.mem_append.1 hs with h1 | h1
        · exact ih.le s h1 v hn.1
        · rw [List.mem_singleton] at h1; subst h1; exact Int.le_refl _
      rcases hch u u0 u1 with h2 | ⟨_, c, hm, h2⟩
      · rw [h2] at huf ⊢
        have huo' : u ∉ ord := fun x => huo (List.mem_append_left _ x)
        have h3 := lt3_no.1 (hn.2 u ⟨⟨u0, u1⟩, huf, huo'⟩)
        simp only [ky, hK] at h3
        omega
      · rw [h2]
        have h3 := hC.edge _ hm
        simp only at h3
        omega
    · refine hadd.imp_of_mem ?_
      intro a b ha hb hab
      rw [hsame a ha, hsame b hb]
      exact hab
/-- without a weight, at the end: what was looked from costs what it may least, and no more than the end -/
theorem Rch.star {K : Int → Int → Int} (hK : ∀ c g, K c g = c + g) (hC : HeurLaw.Cons N tt l h) (hends : ∀ e ∈ l, 0 ≤ e.1 ∧ e.1 < N ∧ 0 ≤ e.2.1 ∧ e.2.1 < N) (hc : ∀ e ∈ l, 1 ≤ e.2.2 ∧ e.2.2 ≤ 10000) (hf : fr < N) (ht : tt < N) (hN : N ≤ 64) (hr : Rch K N fr tt l h D P ord) (hn : Nx K N h D ord tt) {M : List Int} (hM : Sh N fr l M) :
    dg D tt = dg M tt ∧ dg M tt < far ∧ (∀ s ∈ ord ++ [(tt : Int)], (0 ≤ s ∧ s < N) ∧ dg M s = dg D s ∧ dg M s < far ∧ dg M s + dg h s ≤ dg M tt) ∧ (ord ++ [(tt : Int)]).Pairwise (fun a b => dg M a + dg h a ≤ dg M b + dg h b) ∧ (ord ++ [(tt : Int)]).Nodup ∧
    ∀ u : Int, 0 ≤ u → u < N → dg M u + dg h u < dg M tt → u ∈ ord := by
  have hK' : ∀ c g, K c g = 1 * c + 1 * g := fun c g => by rw [hK]; omega
  have hst := hr.st hends hc hf
  have hcl := hr.cl hK' hC hends hc hf hN (Int.le_refl 1) (Int.le_refl 1)
  have hsr := hr.srt hK hC hends hc hf
  have hc0 : ∀ e ∈ l, 0 ≤ e.2.2 := fun e he => by have := (hc e he).1; omega
  obtain ⟨⟨t0, t1⟩, htf, hto⟩ := hn.1
  have hwt := hst.wk tt t0 t1 htf
  have hle := hM.walk_le hends hwt htf hc0
  have hMf : dg M tt < far := by omega
  have hge := hr.end_cost hK' hC hends hc hf hN (Int.le_refl 1) (Int.le_refl 1) hn _ (hM.wk tt t0 t1 hMf) hMf
  have htt : dg D tt = dg M tt := by omega
  have hbd : ∀ s ∈ ord ++ [(tt : Int)], (0 ≤ s ∧ s < N) ∧ dg M s = dg D s ∧ dg M s < far ∧ dg M s + dg h s ≤ dg M tt := fun s hs => by
    rcases List.mem_append.1 hs with h1 | h1
    · obtain ⟨⟨s0, s1⟩, hsf⟩ := hst.ordin s h1
      have h2 := hsr.le s h1 tt hn.1
      rw [hC.zero] at h2
      have h3 := hM.walk_le hends (hst.wk s s0 s1 hsf) hsf hc0
      have h4 := hcl s h1 _ (hM.wk s s0 s1 (by omega)) (by omega)
      exact ⟨⟨s0, s1⟩, by omega, by omega, by omega⟩
    · rw [List.mem_singleton] at h1
      subst h1
      rw [hC.zero]
      exact ⟨⟨t0, t1⟩, htt.symm, hMf, by omega⟩
  refine ⟨htt, hMf, hbd, ?_, ?_, fun u u0 u1 hlt => ?_⟩
  · refine (hsr.add hn.1).imp_of_mem ?_
    intro a b ha hb hab
    rw [(hbd a ha).2.1, (hbd b hb).2.1]
    exact hab
  · rw [List.nodup_append]
    exact ⟨hst.nd, by simp, fun a ha b hb e => by rw [List.mem_singleton] at hb; subst hb; subst e; exact hto ha⟩
  · have hb := (hC.bd u0 u1).1
    obtain ⟨_, h1⟩ := front hst hcl hC hends hc hf hN (Int.le_refl 1) (Int.le_refl 1) (hM.wk u u0 u1 (by omega)) (by omega)
    rcases h1 with ⟨h1, _⟩ | ⟨x, hx, dx, _, h1, h2⟩
    · exact h1
    · exfalso
      have h3 := lt3_no.1 (hn.2 x hx)
      simp only [ky, hK] at h3
      have h4 : dg h tt = 0 := hC.zero
      omega
end
/-- the way back by where each was come to from -/
inductive Ch (P : List Int) : Int → List Int → Prop
  | last {v : Int} : dg P v = -1 → Ch P v [v]
  | more {v : Int} {cs : List Int} : 0 ≤ dg P v → Ch P (dg P v) cs → Ch P v (v :: cs)
theorem Ch.unique {P : List Int} {v : Int} {cs cs' : List Int} (h : Ch P v cs) (h' : Ch P v cs') : cs = cs' := by
  induction h generalizing cs' with
  | last h1 =>
    cases h' with
    | last _ => rfl
    | more h2 _ => omega
  | more h1 hc ih =>
    cases h' with
    | last h2 => omega
    | more _ hc2 => rw [ih hc2]
theorem eg_min {l : List E} {a b c : Int} (hc : (a, b, c) ∈ l) (hmin : ∀ c', (a, b, c') ∈ l → c ≤ c') : WalkLaw.eg l a b = (c, true) := by
  obtain ⟨_, h2, h3⟩ := WayLaw.eg_fold a b l (0, false)
  obtain ⟨h4, h5⟩ := h2 _ hc rfl rfl
  unfold WalkLaw.eg
  rcases h3 with h3 | ⟨e, he, e1, e2, h3⟩
  · rw [h3] at h4; cases h4
  · rw [h3]
    have : (a, b, e.2.2) ∈ l := by rw [← e1, ← e2]; exact he
    have h6 := hmin _ this
    rw [h3] at h5
    simp only at h5
    rw [show e.2.2 = c by omega]
section
variable {N fr : Nat} {l : List E} {h D P ord : List Int}
theorem St.chain (hs : St N fr l h D P ord) (hc : ∀ e ∈ l, 1 ≤ e.2.2 ∧ e.2.2 ≤ 10000) : ∀ (k : Nat) (v : Int), 0 ≤ v → v < N → dg D v < far → dg D v ≤ k →
    ∃ cs, Ch P v cs ∧ (∀ x ∈ cs, (0 ≤ x ∧ x < N) ∧ dg D x ≤ dg D v) ∧ cs.Nodup ∧ cs.head? = some v ∧ cs.getLast? = some (fr : Int) ∧ WalkLaw.okP l (WalkLaw.prs cs.reverse) = true ∧ WalkLaw.sumP l (WalkLaw.prs cs.reverse) = dg D v := by
  intro k
  induction k with
  | zero =>
    intro v v0 v1 hf hk
    by_cases e : v = fr
    · subst e
      have hr := hs.root (hs.live _ v0 v1 hf)
      exact ⟨[(fr : Int)], Ch.last hs.rootP, fun x hx => by rw [List.mem_singleton] at hx; subst hx; exact ⟨⟨v0, v1⟩, Int.le_refl _⟩, by simp, rfl, rfl, rfl, by rw [hr]; rfl⟩
    · obtain ⟨⟨p0, p1⟩, _, c, hcl, hcd, _⟩ := hs.tree v v0 v1 hf e
      have := (hc _ hcl).1
      have := (hs.lo _ p0 p1).1
      simp only at *
      omega
  | succ k ih =>
    intro v v0 v1 hf hk
    by_cases e : v = fr
    · subst e
      have hr := hs.root (hs.live _ v0 v1 hf)
      exact ⟨[(fr : Int)], Ch.last hs.rootP, fun x hx => by rw [List.mem_singleton] at hx; subst hx; exact ⟨⟨v0, v1⟩, Int.le_refl _⟩, by simp, rfl, rfl, rfl, by rw [hr]; rfl⟩
    · obtain ⟨⟨p0, p1⟩, _, c, hcl, hcd, hmin⟩ := hs.tree v v0 v1 hf e
      have hc1 := (hc _ hcl).1
      simp only at hc1
      obtain ⟨cs, hch, hb, hnd, hhd, hla, hok, hsum⟩ := ih (dg P v) p0 p1 (by omega) (by omega)
      have hlast : cs.reverse.getLast? = some (dg P v) := by rw [List.getLast?_reverse]; exact hhd
      have hpr : WalkLaw.prs (v :: cs).reverse = WalkLaw.prs cs.reverse ++ [(dg P v, v)] := by
        rw [List.reverse_cons]
        exact WayLaw.prs_snoc hlast v
      have heg := eg_min hcl hmin
      refine ⟨v :: cs, Ch.more p0 hch, fun x hx => ?_, List.nodup_cons.2 ⟨fun hx => ?_, hnd⟩, rfl, ?_, ?_, ?_⟩
      · rcases List.mem_cons.1 hx with rfl | hx
        · exact ⟨⟨v0, v1⟩, Int.le_refl _⟩
        · exact ⟨(hb x hx).1, by have := (hb x hx).2; omega⟩
      · have := (hb v hx).2; omega
      · cases cs with
        | nil => cases hhd
        | cons y ys => rw [List.getLast?_cons_cons]; exact hla
      · rw [hpr, WalkLaw.okP_snoc, hok, heg]; rfl
      · rw [hpr, WalkLaw.sumP_snoc, hsum, heg, hcd]
/-- the way found -/
theorem St.way (hs : St N fr l h D P ord) (hg : NetLaw.Good N l) (hc : ∀ e ∈ l, 1 ≤ e.2.2) {v : Int} (v0 : 0 ≤ v) (v1 : v < N) (hf : dg D v < far) :
    ∃ cs, Ch P v cs ∧ (∀ x ∈ cs, 0 ≤ x ∧ x < N) ∧ cs.length ≤ 64 ∧ 1 ≤ cs.length ∧ cs.reverse.head? = some (fr : Int) ∧ cs.reverse.getLast? = some v ∧ WalkLaw.cost N l cs.reverse = (dg D v, 0) := by
  have hlo := (hs.lo v v0 v1).1
  obtain ⟨cs, h1, h2, h3, h4, h5, h6, h7⟩ := hs.chain (fun e he => ⟨hc e he, (hg.cost e he).2⟩) (dg D v).toNat v v0 v1 hf (by omega)
  have hlen : cs.length ≤ 64 := Nat.le_trans (nodup_lenI h3 (fun m hm => (h2 m hm).1)) (by have := hg.hi; omega)
  have h1l : 1 ≤ cs.length := by cases cs with | nil => cases h4 | cons _ _ => simp
  have hz : (WalkLaw.cost N l cs.reverse).2 = 0 := WalkLaw.cost_zero.2 ⟨chk_zero.2 hg, by rw [List.length_reverse]; omega, by rw [List.length_reverse]; omega, by
    rw [List.any_eq_false]
    intro x hx
    have := (h2 x (List.mem_reverse.1 hx)).1
    simp [WalkLaw.outB]
    omega, h6⟩
  have hv := WalkLaw.cost_val (N := (N : Int)) (l := l) (p := cs.reverse)
  rw [if_pos hz, h7] at hv
  exact ⟨cs, h1, fun x hx => (h2 x hx).1, hlen, h1l, by rw [List.head?_reverse]; exact h5, by rw [List.getLast?_reverse]; exact h4, Prod.ext hv hz⟩
end
end Go.Proofs.Ytpoolpaagbeokaa.StarLaw

namespace Go.Proofs.Ytpoolpaagbeokaa.StarLaw
open NetLaw BellLaw DijkLaw HeurLaw
set_option linter.unusedSimpArgs false
set_option linter.unusedVariables false
/-- what waits: keys that are no less than they need be; all that is open waits with its key -/
structure Wt (K : Int → Int → Int) (n : Nat) (h D ord : List Int) (L : List Tr) : Prop where
  ent : ∀ e ∈ L, (0 ≤ e.2.2 ∧ e.2.2 < n) ∧ dg D e.2.2 < far ∧ e.2.1 = dg h e.2.2 ∧ K (dg D e.2.2) (dg h e.2.2) ≤ e.1
  pend : ∀ u, Opn n D ord u → ky K h D u ∈ L
section
variable {K : Int → Int → Int} {n : Nat} {h D ord : List Int} {L L' : List Tr}
theorem Wt.skip {k g v : Int} (hw : Wt K n h D ord L) (hp : ((k, g, v) :: L').Perm L) (hno : v ∈ ord ∨ K (dg D v) g < k) : Wt K n h D ord L' := by
  refine ⟨fun e he => hw.ent e (hp.mem_iff.1 (List.mem_cons_of_mem _ he)), fun u hu => ?_⟩
  rcases List.mem_cons.1 (hp.mem_iff.2 (hw.pend u hu)) with e | e
  · exfalso
    unfold ky at e
    injection e with e1 e2
    injection e2 with e2 e3
    subst e3
    rcases hno with h1 | h1
    · exact hu.2.2 h1
    · rw [← e2] at h1; omega
  · exact e
theorem Wt.take {k g v : Int} (hw : Wt K n h D ord L) (hp : ((k, g, v) :: L').Perm L) (hmin : ∀ e ∈ L, lt3 e (k, g, v) = false) (h1 : v ∉ ord) (h2 : ¬ K (dg D v) g < k) :
    (k, g, v) = ky K h D v ∧ Nx K n h D ord v ∧ Wt K n h D (ord ++ [v]) L' := by
  obtain ⟨hv, hf, hg, hk⟩ := hw.ent (k, g, v) (hp.mem_iff.1 (List.mem_cons_self ..))
  simp only at hv hf hg hk
  have hkk : k = K (dg D v) (dg h v) := by rw [hg] at h2; omega
  have hky : (k, g, v) = ky K h D v := by unfold ky; rw [← hkk, ← hg]
  refine ⟨hky, ⟨⟨hv, hf, h1⟩, fun u hu => ?_⟩, fun e he => hw.ent e (hp.mem_iff.1 (List.mem_cons_of_mem _ he)), fun u hu => ?_⟩
  · rw [← hky]
    exact hmin _ (hw.pend u hu)
  · have hu' : Opn n D ord u := ⟨hu.1, hu.2.1, fun x => hu.2.2 (List.mem_append_left _ x)⟩
    rcases List.mem_cons.1 (hp.mem_iff.2 (hw.pend u hu')) with e | e
    · exfalso
      unfold ky at e
      injection e with _ e2
      injection e2 with _ e3
      exact hu.2.2 (by rw [e3]; exact List.mem_append_right _ (List.mem_singleton.2 rfl))
    · exact e
theorem Wt.set {v : Nat} {x : Int} (hw : Wt K n h D ord L) (hK : ∀ c c' g, c ≤ c' → K c g ≤ K c' g) (hv : v < n) (hD : D.length = n) (hx : x < dg D v) (hxf : x < far) (hp : L'.Perm ((K x (dg h v), dg h v, (v : Int)) :: L)) : Wt K n h (D.set v x) ord L' := by
  have hs := fun u hu => dg_set (D := D) (t := (v : Int)) (v := u) (x := x) (by omega) (by omega) hu
  simp only [Int.toNat_natCast] at hs
  refine ⟨fun e he => ?_, fun u hu => ?_⟩
  · rcases List.mem_cons.1 (hp.mem_iff.1 he) with h1 | h1
    · subst h1
      simp only [hs _ (show (0 : Int) ≤ (v : Int) by omega), if_pos]
      exact ⟨⟨by omega, by omega⟩, hxf, trivial, Int.le_refl _⟩
    · obtain ⟨⟨e0, e1⟩, e2, e3, e4⟩ := hw.ent e h1
      rw [hs _ e0]
      split
      · rename_i hev
        refine ⟨⟨e0, e1⟩, hxf, e3, Int.le_trans (hK _ _ _ ?_) e4⟩
        rw [hev]
        omega
      · exact ⟨⟨e0, e1⟩, e2, e3, e4⟩
  · obtain ⟨⟨u0, u1⟩, u2, u3⟩ := hu
    rw [hs u u0] at u2
    unfold ky
    rw [hs u u0]
    split
    · rename_i hev
      subst hev
      exact hp.mem_iff.2 (List.mem_cons_self ..)
    · rename_i hev
      rw [if_neg hev] at u2
      exact hp.mem_iff.2 (List.mem_cons_of_mem _ (hw.pend u ⟨⟨u0, u1⟩, u2, u3⟩))
theorem Wt.none (hw : Wt K n h D ord []) : ∀ u, ¬ Opn n D ord u := fun u hu => by cases hw.pend u hu
end
theorem oe_take {l : List E} {v : Int} : ∀ (k : Nat), (((List.range k).filter fun i => (l.getD i (0, 0, 0)).1 == v).map fun i => l.getD i (0, 0, 0)) = if k ≤ l.length then oe (l.take k) v else ((List.range k).filter fun i => (l.getD i (0, 0, 0)).1 == v).map fun i => l.getD i (0, 0, 0) := by
  intro k
  split
  · rename_i hk
    induction k with
    | zero => rfl
    | succ k ih =>
      have hk' : k < l.length := by omega
      rw [List.range_succ, List.filter_append, List.map_append, ih (by omega), List.take_succ_eq_append_getElem hk']
      unfold oe
      rw [List.filter_append]
      congr 1
      have e : l.getD k (0, 0, 0) = l[k] := by rw [List.getD_eq_getElem?_getD, List.getElem?_eq_getElem hk']; rfl
      rw [List.filter_cons, List.filter_nil, List.filter_cons, List.filter_nil, e]
      by_cases h : l[k].1 = v
      · have h1 : (l[k].1 == v) = true := beq_iff_eq.2 h
        have h2 : decide (l[k].1 = v) = true := decide_eq_true h
        rw [if_pos h1, if_pos h2, List.map_cons, List.map_nil, e]
      · have h1 : ¬ (l[k].1 == v) = true := fun x => h (beq_iff_eq.1 x)
        have h2 : ¬ decide (l[k].1 = v) = true := fun x => h (of_decide_eq_true x)
        rw [if_neg h1, if_neg h2]
        rfl
  · rfl
/-- state after the first edges out of v -/
theorem rxs_snoc (h dn : List Int) (v : Int) (es : List E) (e : E) (s : List Int × List Int) : rxs h dn v (es ++ [e]) s = rx1 h dn v (rxs h dn v es s) e := by simp [rxs]
theorem outs_snoc (l : List E) (ord : List Int) (v : Int) (h : v ∉ ord) : outs l (ord ++ [v]) = outs l ord + l.countP fun e => decide (e.1 = v) := by
  rw [← outs_cons l ord v h]
  unfold outs
  refine List.countP_congr fun e _ => ?_
  simp [or_comm]
end Go.Proofs.Ytpoolpaagbeokaa.StarLaw
