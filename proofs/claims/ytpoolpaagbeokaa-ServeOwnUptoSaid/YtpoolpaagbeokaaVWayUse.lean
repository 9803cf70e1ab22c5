/- What a law wants of dijk.Way: the answers, one by one; the walk of SameWay. -/
import Derived.Test.YtpoolpaagbeokaaVDijkWay
import Derived.Test.YtpoolpaagbeokaaVDijkTwo
namespace Go.Proofs.Ytpoolpaagbeokaa.WayUse
open Go.RowKit Go.Proofs.Ytpoolpaagbeokaa NetLaw BellLaw DijkLaw WayLaw Go.Proofs.Ytpoolpaagbeokaa.Net Go.Proofs.Ytpoolpaagbeokaa.Std Go.Proofs.Ytpoolpaagbeokaa.Dijk Go.Proofs.Ytpoolpaagbeokaa.DijkWay Go.Proofs.Ytpoolpaagbeokaa.DijkTwo
set_option linter.unusedSimpArgs false
set_option linter.unusedVariables false
set_option maxHeartbeats 1000000 in
theorem same_way (A A' : Option Addr) (n m c c' : Nat) (l r : List Int) (x y : Int) (w : World) (hl : Sl w w.heap.size 1 ci A l) (hm : Sl w w.heap.size 1 ci A' r) (hn : l.length = n) (hm' : r.length = m) (hlen : n ≤ 9223372036854775807) (b : Bool) (hb : (decide (x = y) && decide (l = r)) = b) :
    Calls Try.prog 45 #[.agg #[.slice A n c, .int .i64 x], .agg #[.slice A' m c', .int .i64 y]] w fun e w' => e = .returned (.bool b) ∧ Below w.heap.size w w' := by
  have hb0 : Below w.heap.size w ((w.alloc (.cells #[.slice A n c, .int .i64 x] 41)).alloc (.cells #[.slice A' m c', .int .i64 y] 41)) := ((Below.refl _ _).alloc (Nat.le_refl _) _).alloc (by simp) _
  have key := equal_int' A A' n m c c' l r w.heap.size w.heap.size _ (hl.keep hb0 (Nat.le_refl _)) (hm.keep hb0 (Nat.le_refl _)) hn hm' hlen _ rfl
  by_cases h : x = y
  · subst h
    have hb2 : decide (l = r) = b := by rw [← hb, decide_eq_true rfl, Bool.true_and]
    rw [hb2] at key
    have KEY := Lib.hid key
    clear key hb hb2 hl hm hn hm'
    go_enter Try.func45, Try.ntmps45
    go_wp2_with fail
    refine KEY.out.mono ?_
    rintro e w1 ⟨rfl, k, rfl⟩
    have hB1 := below_drewN hb0 k
    clear hb0
    go_wp2
    go_ret
    exact ⟨rfl, hB1⟩
  · have hbn : (x == y) = false := by simp [h]
    have hb2 : b = false := by rw [← hb, decide_eq_false h, Bool.false_and]
    subst hb2
    clear key hb hl hm hn hm' h
    go_enter Try.func45, Try.ntmps45
    go_wp2
    go_ret
    exact ⟨rfl, hb0⟩
theorem wy_self {n : Nat} {l : List E} {D : List Int} {x : Int} {p : List Int} (h : Wy n l D x x p) : p = [x] := by
  have h1 := h.head
  have h2 := h.last
  cases p with
  | nil => simp at h1
  | cons a r =>
    simp at h1
    subst h1
    cases r with
    | nil => rfl
    | cons b r =>
      exfalso
      have h3 := (List.nodup_cons.1 h.nd).1
      rw [List.getLast?_cons_cons] at h2
      exact h3 (List.mem_of_getLast? h2)
theorem look11 : Dijk.look 2 [(0, 1, 5)] [1, 1] = 0 := by decide +kernel
/-- there is an answer of Dijkstra's to every right question -/
theorem sh_ex {n f : Nat} {l : List E} (hg : NetLaw.Good n l) (hc : ∀ e ∈ l, 1 ≤ e.2.2) (hf : f < n) : True := trivial
theorem links_wk {l : List E} {D : List Int} (p : List Int) (x y : Int) (hx : p.head? = some x) (hy : p.getLast? = some y) (hl : ∀ q ∈ WalkLaw.prs p, Lk l D q.1 q.2) : Wk l x y (dg D y - dg D x) := by
  induction p generalizing x with
  | nil => simp at hx
  | cons a r ih =>
    simp at hx
    subst hx
    cases r with
    | nil =>
      simp at hy
      subst hy
      rw [Int.sub_self]
      exact Wk.here
    | cons b r =>
      obtain ⟨e, he, h1, h2, h3⟩ : Lk l D a b := hl (a, b) (by rw [WalkLaw.prs_cons]; simp)
      have ih2 := ih b rfl (by simpa using hy) (fun q hq => hl q (by rw [WalkLaw.prs_cons]; simp [hq]))
      have hs := Wk.step (l := l) (fr := a) (e := e) Wk.here he h1
      rw [h2, Int.zero_add] at hs
      have hj := DijkMorePlain.wk_join hs ih2
      have e1 : e.2.2 + (dg D y - dg D b) = dg D y - dg D a := by omega
      rwa [e1] at hj
/-- a part of a way costs least -/
theorem part_law {n : Nat} {l : List E} {D D' : List Int} {fr : Int} {u v : Int} (hD : Sh n fr l D) (hD' : Sh n u l D') (hends : ∀ e ∈ l, 0 ≤ e.1 ∧ e.1 < n ∧ 0 ≤ e.2.1 ∧ e.2.1 < n) (hc : ∀ e ∈ l, 0 ≤ e.2.2) (hu : 0 ≤ u ∧ u < n) (hv : 0 ≤ v ∧ v < n) (huf : dg D u < far) (hvf : dg D v < far) (hw : Wk l u v (dg D v - dg D u)) : dg D' v = dg D v - dg D u := by
  have hu0 := (hD.lo u hu.1 hu.2).1
  have h1 := hD'.walk_le hends hw (by omega) hc
  have h2 := hD'.wk v hv.1 hv.2 (by omega)
  have h3 := DijkMorePlain.wk_join (hD.wk u hu.1 hu.2 huf) h2
  by_cases h4 : dg D u + dg D' v < far
  · have := hD.walk_le hends h3 h4 hc
    omega
  · omega
theorem prs_drop (p : List Int) (i : Nat) : ∀ q ∈ WalkLaw.prs (p.drop i), q ∈ WalkLaw.prs p := fun q hq => by
  induction i generalizing p with
  | zero => simpa using hq
  | succ i ih =>
    cases p with
    | nil => simp [WalkLaw.prs] at hq
    | cons a r =>
      have h1 := ih r (by simpa using hq)
      cases r with
      | nil => simp [WalkLaw.prs] at h1
      | cons b r => rw [WalkLaw.prs_cons]; exact List.mem_cons_of_mem _ h1
theorem prs_take (p : List Int) (i : Nat) : ∀ q ∈ WalkLaw.prs (p.take i), q ∈ WalkLaw.prs p := fun q hq => by
  induction i generalizing p with
  | zero => simp [WalkLaw.prs] at hq
  | succ i ih =>
    cases p with
    | nil => simp [WalkLaw.prs] at hq
    | cons a r =>
      cases r with
      | nil => cases i <;> simp [WalkLaw.prs] at hq
      | cons b r =>
        cases i with
        | zero => simp [WalkLaw.prs] at hq
        | succ i =>
          rw [List.take_succ_cons, List.take_succ_cons, WalkLaw.prs_cons] at hq
          rw [WalkLaw.prs_cons]
          rcases List.mem_cons.1 hq with rfl | hq
          · simp
          · refine List.mem_cons_of_mem _ (ih (b :: r) ?_)
            rw [List.take_succ_cons]
            exact hq
end Go.Proofs.Ytpoolpaagbeokaa.WayUse
