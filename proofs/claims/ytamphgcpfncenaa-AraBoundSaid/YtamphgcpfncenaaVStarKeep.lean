/- The walks of fellkeep.walks, fellkeep.times, fellref.SameFound. -/
import Derived.Test.YtamphgcpfncenaaVWalkCost
import Derived.Test.YtamphgcpfncenaaVWayUse
import Derived.IntWalk
namespace Go.Proofs.Ytamphgcpfncenaa.StarF
open Go.RowKit Go.Proofs.Ytamphgcpfncenaa NetLaw BellLaw DijkLaw Go.Proofs.Ytamphgcpfncenaa.Net Go.Proofs.Ytamphgcpfncenaa.Std
set_option linter.unusedSimpArgs false
set_option linter.unusedVariables false
/-- a cell of a list, by what stands there -/
theorem at_eq {w : World} {B : Nat} {A : Option Addr} {l : List Int} (h : Sl w B 1 ci A l) {k : Nat} {x : Int} (hx : l[k]? = some x) : ∃ b off, A = some ⟨b, off, none⟩ ∧ b < B ∧ w.cell? ⟨b, off + k, none⟩ = some (.int .i64 x) := by
  obtain ⟨hk, rfl⟩ := List.getElem?_eq_some_iff.1 hx
  exact h.atI hk
set_option maxRecDepth 100000 in
set_option maxHeartbeats 2000000 in
theorem walks_any (N co fr tt : Int) (A : Option Addr) (c : Nat) (l : List E) (A' : Option Addr) (m c' : Nat) (p : List Int) (w : World) (hl : Sl w w.heap.size 3 ce A l) (hp : Sl w w.heap.size 1 ci A' p) (hm : p.length = m) (hlen : l.length ≤ 9223372036854775807) (hlen' : m ≤ 9223372036854775807)
    (hcost : WalkLaw.cost N l p = (co, 0)) (h0 : p.head? = some fr) (h1 : p.getLast? = some tt) :
    Calls Try.prog 21 #[.agg #[.int .i64 N, .slice A l.length c], .agg #[.slice A' m c', .int .i64 co], .int .i64 fr, .int .i64 tt] w fun e w' => e = .returned (.bool true) ∧ Below w.heap.size w w' := by
  obtain ⟨k, rfl⟩ : ∃ k, m = k + 1 := ⟨m - 1, by cases p with | nil => cases h0 | cons a r => simp at hm; omega⟩
  have hk0 : p[0]? = some fr := by rw [← List.head?_eq_getElem?]; exact h0
  have hkk : p[k]? = some tt := by rw [List.getLast?_eq_getElem?, hm, Nat.add_sub_cancel] at h1; exact h1
  have hw0 : Below w.heap.size w ((w.alloc (.cells #[.int .i64 N, .slice A l.length c] 24)).alloc (.cells #[.slice A' (k + 1) c', .int .i64 co] 36)) := ((Below.refl _ _).alloc (Nat.le_refl _) _).alloc (by simp) _
  have hz0 : w.heap.size ≤ ((w.alloc (.cells #[.int .i64 N, .slice A l.length c] 24)).alloc (.cells #[.slice A' (k + 1) c', .int .i64 co] 36)).heap.size := by simp; omega
  have hbox : ((w.alloc (.cells #[.int .i64 N, .slice A l.length c] 24)).alloc (.cells #[.slice A' (k + 1) c', .int .i64 co] 36)).heap[w.heap.size + 1]? = some (.cells #[.slice A' (k + 1) c', .int .i64 co] 36 (0, 0)) := by
    have h := heap_alloc_new (w.alloc (.cells #[.int .i64 N, .slice A l.length c] 24)) (.cells #[.slice A' (k + 1) c', .int .i64 co] 36)
    simpa using h
  have key := Walk.cost_any N A c l A' c' p _ ((hl.keep hw0 (Nat.le_refl _)).more hz0) ((hp.keep hw0 (Nat.le_refl _)).more hz0) hlen (by omega)
  rw [hcost, hm] at key
  obtain ⟨b, o, rfl, hb, _⟩ := at_eq hp hk0
  have KEY := Lib.hid key
  have HBOX := Lib.hid hbox
  have HP := Lib.hid hp
  have HK0 := Lib.hid hk0
  have HKK := Lib.hid hkk
  clear key hbox hcost hp hk0 hkk h0 h1 hm hl
  have hko : ((k : Int) + 1) - 1 = (k : Int) := by omega
  have hkl : (k : Int) < (k : Int) + 1 := by omega
  go_enter Try.func21, Try.ntmps21
  go_wp2_with fail
  refine KEY.out.mono ?_
  rintro e w1 ⟨rfl, hb1⟩
  have H1 := hw0.trans (hb1.mono hz0)
  have hbk := blk_below HBOX.out hb1 (by simp)
  have q0 := blk_cell hbk 0
  have q1 := blk_cell hbk 1
  simp only [List.getElem?_toArray, List.getElem?_cons_zero, List.getElem?_cons_succ] at q0 q1
  have hsl := HP.out.keep H1 (Nat.le_refl _)
  obtain ⟨b1, o1, e1, _, g1⟩ := at_eq hsl HK0.out
  injection e1 with e1
  injection e1 with e1 e2
  subst e1 e2
  obtain ⟨b1, o1, e1, _, g2⟩ := at_eq hsl HKK.out
  injection e1 with e1
  injection e1 with e1 e2
  subst e1 e2
  simp only [Nat.add_zero] at g1
  clear hbk hb1 hsl
  go_wp2
  go_ret
  exact ⟨rfl, H1⟩
theorem times_any (co Num Den least : Int) (w : World) (h1 : -9223372036854775808 ≤ co * Den ∧ co * Den ≤ 9223372036854775807) (h2 : -9223372036854775808 ≤ Num * least ∧ Num * least ≤ 9223372036854775807) (h : co * Den ≤ Num * least) :
    Calls Try.prog 38 #[.int .i64 co, .agg #[.int .i64 Num, .int .i64 Den], .int .i64 least] w fun e w' => e = .returned (.bool true) ∧ Below w.heap.size w w' := by
  have hw0 : Below w.heap.size w (w.alloc (.cells #[.int .i64 Num, .int .i64 Den] 66)) := (Below.refl _ _).alloc (Nat.le_refl _) _
  generalize hx : co * Den = x at *
  generalize hy : Num * least = y at *
  have hd : decide (x ≤ y) = true := by simp [h]
  go_enter Try.func38, Try.ntmps38
  go_wp2
  go_ret
  exact ⟨rfl, hw0⟩
theorem own_kc {w : World} {B : Nat} {e : TypeId} {A : Option Addr} {k c : Nat} {o : List Int} (h : Own w B e 1 ci (.slice A k c) o) : k ≤ c := by
  obtain ⟨A', c', hv, hc, _⟩ := h.form
  injection hv with _ h1 h2
  omega
theorem look_fst {N : Int} {l : List E} {a b : Int} (h : Dijk.look N l [a, b] = 0) : Dijk.look N l [a] = 0 := by
  unfold Dijk.look at h ⊢
  split at h
  · rename_i h1; exact absurd h h1
  · rename_i h1
    rw [if_neg h1]
    simp only [Dijk.lookE] at h ⊢
    split at h
    · omega
    · rename_i h2; rw [if_neg h2]
end Go.Proofs.Ytamphgcpfncenaa.StarF
