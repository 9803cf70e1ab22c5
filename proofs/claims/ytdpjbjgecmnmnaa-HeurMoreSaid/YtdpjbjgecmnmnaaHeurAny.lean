/- heur.Of of any net, marks and place, in one contract; and what one mark more does. -/
import Derived.Test.YtdpjbjgecmnmnaaHeurOf
import Derived.Test.YtdpjbjgecmnmnaaHeurNo
namespace Go.Proofs.Ytdpjbjgecmnmnaa.Heur
open Go.RowKit Go.Proofs.Ytdpjbjgecmnmnaa NetLaw BellLaw DijkLaw HeurLaw Go.Proofs.Ytdpjbjgecmnmnaa.Net Go.Proofs.Ytdpjbjgecmnmnaa.Dijk Go.Proofs.Ytdpjbjgecmnmnaa.Std
set_option linter.unusedSimpArgs false
set_option linter.unusedVariables false

def OfFact (N : Int) (l : List E) (ms : List Int) (t : Int) (m : Nat) (er : Int) (out : List Int) : Prop :=
  (er ≠ 0 ∧ m = 0 ∧ ¬ (OkM N l ms ∧ 0 ≤ t ∧ t < N)) ∨ (er = 0 ∧ (OkM N l ms ∧ 0 ≤ t ∧ t < N) ∧ (m : Int) = N ∧ ∃ D1 D2, Lm m l ms D1 D2 ∧ out = bls m D1 D2 t ms.length m)
def OfAny (N : Int) (l : List E) (ms : List Int) (t : Int) (w : World) (e : Ending) (w' : World) : Prop :=
  ∃ A' m' c' er out, e = .returned (.tuple #[.slice A' m' c', .int .i64 er]) ∧ Own w' w.heap.size 3 1 ci (.slice A' m' c') out ∧ Below w.heap.size w w' ∧ Hid (OfFact N l ms t m' er out)
theorem of_any (N : Int) (A : Option Addr) (c : Nat) (l : List E) (Am : Option Addr) (cm : Nat) (ms : List Int) (k : Nat) (hk : ms.length = k) (t : Int) (w : World) (hl : Sl w w.heap.size 3 ce A l) (hm : Sl w w.heap.size 1 ci Am ms) (hlen : l.length ≤ 9223372036854775807) (hlm : k ≤ 9223372036854775807) :
    Calls Try.prog 18 #[.agg #[.int .i64 N, .slice A l.length c], .slice Am k cm, .int .i64 t] w fun e w' => OfAny N l ms t w e w' := by
  subst hk
  by_cases hok : OkM N l ms ∧ 0 ≤ t ∧ t < N
  · obtain ⟨hm', f0, f1⟩ := hok
    obtain ⟨⟨hg, hc⟩, h4, hr⟩ := okM_iff.1 hm'
    have hN := hg.lo
    obtain ⟨n, rfl⟩ := Int.eq_ofNat_of_zero_le (show 0 ≤ N by omega)
    obtain ⟨t, rfl⟩ := Int.eq_ofNat_of_zero_le f0
    refine (of_yes n A c l Am cm ms t w hl hm hg hc h4 hr (by omega)).mono ?_
    rintro e w' ⟨A', c', D1, D2, h1, h2, h3, h5⟩
    exact ⟨A', n, c', 0, _, h1, h2, h5, Lib.hid (.inr ⟨rfl, ⟨hm', f0, f1⟩, rfl, D1, D2, h3, rfl⟩)⟩
  · refine (of_no N A c l Am cm ms t w hl hm hlen hlm hok).mono ?_
    rintro e w' ⟨x, h1, h2, h3⟩
    exact ⟨none, 0, 0, x, [], h2, Own.nil_, h3, Lib.hid (.inl ⟨h1, rfl, hok⟩)⟩
theorem ok_snoc {N : Int} {l : List E} {ms : List Int} {t : Int} (h3 : ms.length ≤ 3) : (OkM N l (ms ++ [t]) ∧ 0 ≤ t ∧ t < N) ↔ (OkM N l ms ∧ 0 ≤ t ∧ t < N) := by
  rw [okM_iff, okM_iff]
  constructor
  · rintro ⟨⟨a, b, c⟩, d⟩
    exact ⟨⟨a, by omega, fun v hv => c v (List.mem_append_left _ hv)⟩, d⟩
  · rintro ⟨⟨a, b, c⟩, d⟩
    refine ⟨⟨a, by rw [List.length_append]; simp; omega, fun v hv => ?_⟩, d⟩
    rw [List.mem_append, List.mem_singleton] at hv
    rcases hv with hv | rfl
    · exact c v hv
    · exact d
theorem of_more {N : Int} {l : List E} {ms : List Int} {t v : Int} {n m2 : Nat} {er er2 : Int} {o1 o2 D : List Int} (h3 : ms.length ≤ 3) (h : OfFact N l ms t n er o1) (h' : OfFact N l (ms ++ [t]) t m2 er2 o2) (he : er = 0) :
    er2 = 0 ∧ (n : Int) = N ∧ m2 = n ∧ o1.length = n ∧ o2.length = n ∧ (NetLaw.Good N l ∧ ∀ e ∈ l, 1 ≤ e.2.2) ∧ 0 ≤ t ∧ t < N ∧ (0 ≤ v → v < N → Sh N v l D → dg o1 v ≤ dg o2 v ∧ dg o2 v = dg D t) := by
  subst he
  rcases h with ⟨h, _⟩ | ⟨_, hok, rfl, D1, D2, hL, rfl⟩
  · exact absurd rfl h
  rcases h' with ⟨_, _, h⟩ | ⟨h2, hok2, hm, E1, E2, hL2, rfl⟩
  · exact absurd ((ok_snoc h3).2 hok) h
  have hmn : m2 = n := by omega
  subst hmn
  obtain ⟨hm', t0, t1⟩ := hok
  obtain ⟨hm2', _⟩ := hok2
  obtain ⟨⟨hg, hc⟩, h4, hr⟩ := okM_iff.1 hm'
  obtain ⟨_, h42, hr2⟩ := okM_iff.1 hm2'
  refine ⟨h2, rfl, rfl, bls_len .., bls_len .., ⟨hg, hc⟩, t0, t1, fun v0 v1 hD => ?_⟩
  have hends := hg.ends
  have hcs : ∀ e ∈ l, 0 ≤ e.2.2 := fun e he => by have := hc e he; omega
  have hgt := good_turned hg
  have hct := cost_turned hc
  have hcst : ∀ e ∈ DijkTurnsPlain.turned l, 0 ≤ e.2.2 := fun e he => by have := hct e he; omega
  have hln : (ms ++ [t]).length = ms.length + 1 := by simp
  have hadm := (bls_cons hL2 hr2 hg hc ⟨t0, t1⟩).adm hD t0 t1 v0 v1
  rw [dg_bls v0 v1, dg_bls v0 v1, hln]
  rw [dg_bls v0 v1, hln] at hadm
  have hsame : bdl D1 D2 v t ms.length = bdl E1 E2 v t ms.length := bdl_more _ fun i hi => by
    obtain ⟨a, b⟩ := hL i hi
    obtain ⟨a', b'⟩ := hL2 i (by omega)
    rw [List.getElem_append_left hi] at a' b'
    rw [a.unique a' hends hcs, b.unique b' hgt.ends hcst]
    exact ⟨rfl, rfl, rfl, rfl⟩
  obtain ⟨ka, kb⟩ := hL2 ms.length (by omega)
  rw [List.getElem_append_right (Nat.le_refl _)] at ka kb
  simp only [Nat.sub_self, List.getElem_cons_zero] at ka kb
  have e1 := DijkTurnsPlain.turns hD kb hends hcs ⟨v0, v1⟩ ⟨t0, t1⟩
  have e2 : dg (E2.getD ms.length []) t = 0 := kb.st
  have hb := kb.lo v v0 v1
  rw [hsame]
  simp only [bdl] at hadm ⊢
  have e3 : lst (dg (E2.getD ms.length []) t) (dg (E2.getD ms.length []) v) = dg D t := by
    rw [e2, ← e1]
    rw [← e1] at hb
    unfold lst far at *
    split
    · omega
    · split <;> omega
  rw [e3] at hadm ⊢
  omega
end Go.Proofs.Ytdpjbjgecmnmnaa.Heur
