/- Plain facts on what a search with keys finds; the laws' own small net. -/
/- The walks of fellkeep.walks, fellkeep.times, fellref.SameFound. -/
import Derived.Test.YtbgkkmcobijkgaaVStarLaw
import Derived.Test.YtbgkkmcobijkgaaVWalkCost
import Derived.Test.YtbgkkmcobijkgaaVWayUse
import Derived.IntWalk
namespace Go.Proofs.Ytbgkkmcobijkgaa.StarLaw
open NetLaw BellLaw DijkLaw HeurLaw
set_option linter.unusedSimpArgs false
set_option linter.unusedVariables false
/-- what was found -/
structure Fnd (n f t : Nat) (l : List E) (p : List Int) (co : Int) (o : List Int) : Prop where
  cost : WalkLaw.cost n l p = (co, 0)
  head : p.head? = some (f : Int)
  last : p.getLast? = some (t : Int)
  plen : 1 ≤ p.length ∧ p.length ≤ 64
  olen : 1 ≤ o.length ∧ o.length ≤ 64
  olenN : o.length ≤ n
  rng : ∀ v ∈ o, 0 ≤ v ∧ v < n
  nd : o.Nodup
  co0 : 0 ≤ co ∧ co < far
theorem fnd {K : Int → Int → Int} {n f t : Nat} {l : List E} {hs D P ord cs : List Int} (hr : Rch K n f t l hs D P ord) (hn : Nx K n hs D ord t) (hch : Ch P t cs) (hg : NetLaw.Good n l) (hc : ∀ e ∈ l, 1 ≤ e.2.2) (hf : f < n) (ht : t < n) :
    Fnd n f t l cs.reverse (dg D t) (ord ++ [(t : Int)]) := by
  have hst := hr.st hg.ends (fun e he => ⟨hc e he, (hg.cost e he).2⟩) hf
  obtain ⟨cs', h1, h2, h3, h4, h5, h6, h7⟩ := hst.way hg hc (v := (t : Int)) (by omega) (by omega) hn.1.2.1
  obtain rfl := hch.unique h1
  have hnd : (ord ++ [(t : Int)]).Nodup := by
    rw [List.nodup_append]
    exact ⟨hst.nd, by simp, fun a ha b hb e => by rw [List.mem_singleton] at hb; subst hb; subst e; exact hr.no_end ha⟩
  have hrng : ∀ v ∈ ord ++ [(t : Int)], 0 ≤ v ∧ v < n := fun v hv => by
    rcases List.mem_append.1 hv with h | h
    · exact (hst.ordin v h).1
    · rw [List.mem_singleton] at h; subst h; omega
  have hl := nodup_lenI hnd hrng
  have hN := hg.hi
  exact ⟨h7, h5, h6, ⟨by rw [List.length_reverse]; exact h4, by rw [List.length_reverse]; exact h3⟩, ⟨by simp, by omega⟩, hl, hrng, hnd, ⟨(hst.lo _ (by omega) (by omega)).1, hn.1.2.1⟩⟩
abbrev l2 : List E := [(0, 1, 5)]
theorem open_two {D ord : List Int} {u : Int} (h : Opn 2 D ord u) : u = 0 ∨ u = 1 := by have := h.1; omega
theorem nx_one {K : Int → Int → Int} {h D ord : List Int} {v : Int} (hv : Opn 2 D ord v) (ho : ∀ u, Opn 2 D ord u → u = v) : Nx K 2 h D ord v :=
  ⟨hv, fun u hu => by rw [ho u hu]; exact lt3_no.2 (.inr ⟨rfl, .inr ⟨rfl, Int.le_refl _⟩⟩)⟩
theorem two_end {K : Int → Int → Int} {hs D P ord : List Int} (hhs : hs = [5, 0] ∨ hs = [0, 0]) (hr : Rch K 2 0 1 l2 hs D P ord) (hst : Stop K 2 1 hs D ord) : D = [0, 5] ∧ P = [-1, 0] ∧ ord = [0] := by
  have hz : D0 2 0 hs = [0, far] := by rcases hhs with rfl | rfl <;> decide
  have hx : rxs hs ([] ++ [(0 : Int)]) 0 (oe l2 0) ([0, far], [-1, -1]) = ([0, 5], [-1, 0]) := by rcases hhs with rfl | rfl <;> decide
  have h0 : Rch K 2 0 1 l2 hs [0, far] [-1, -1] [] := by rw [← hz]; exact Rch.start
  have h1 : Nx K 2 hs [0, far] [] 0 := nx_one ⟨by decide, by decide, by simp⟩ (fun u hu => by
    rcases open_two hu with rfl | rfl
    · rfl
    · exact absurd hu.2.1 (by decide))
  have h2 := Rch.step h0 h1 (by decide)
  rw [hx] at h2
  have h3 : Nx K 2 hs [0, 5] [0] 1 := nx_one ⟨by decide, by decide, by simp⟩ (fun u hu => by
    rcases open_two hu with rfl | rfl
    · exact absurd (List.mem_cons_self ..) hu.2.2
    · rfl)
  exact hr.det hst h2 (.inl h3)
theorem two_way {cs : List Int} (h : Ch [-1, 0] 1 cs) : cs = [1, 0] := h.unique (Ch.more (by decide) (Ch.last (by decide)))
theorem two_here {K : Int → Int → Int} {D P ord : List Int} (hr : Rch K 2 1 1 l2 [0, 0] D P ord) (hst : Stop K 2 1 [0, 0] D ord) : D = [far, 0] ∧ P = [-1, -1] ∧ ord = [] := by
  have hz : D0 2 1 [0, 0] = [far, 0] := by decide
  have h0 : Rch K 2 1 1 l2 [0, 0] [far, 0] [-1, -1] [] := by rw [← hz]; exact Rch.start
  have h3 : Nx K 2 [0, 0] [far, 0] [] 1 := nx_one ⟨by decide, by decide, by simp⟩ (fun u hu => by
    rcases open_two hu with rfl | rfl
    · exact absurd hu.2.1 (by decide)
    · rfl)
  exact hr.det hst h0 (.inl h3)
theorem two_here_way {cs : List Int} (h : Ch [-1, -1] 1 cs) : cs = [1] := h.unique (Ch.last (by decide))
end Go.Proofs.Ytbgkkmcobijkgaa.StarLaw

namespace Go.Proofs.Ytbgkkmcobijkgaa.StarF
open Go.RowKit Go.Proofs.Ytbgkkmcobijkgaa NetLaw BellLaw DijkLaw Go.Proofs.Ytbgkkmcobijkgaa.Net Go.Proofs.Ytbgkkmcobijkgaa.Std
set_option linter.unusedSimpArgs false
set_option linter.unusedVariables false
/-- a cell of a list, by what stands there -/
theorem at_eq {w : World} {B : Nat} {A : Option Addr} {l : List Int} (h : Sl w B 1 ci A l) {k : Nat} {x : Int} (hx : l[k]? = some x) : ∃ b off, A = some ⟨b, off, none⟩ ∧ b < B ∧ w.cell? ⟨b, off + k, none⟩ = some (.int .i64 x) := by
  obtain ⟨hk, rfl⟩ := List.getElem?_eq_some_iff.1 hx
  exact h.atI hk
set_option maxRecDepth 100000 in
set_option maxHeartbeats 2000000 in
theorem walks_any (N co fr tt : Int) (A : Option Addr) (c : Nat) (l : List E) (A' : Option Addr) (m c' : Nat) (p : List Int) (w : World) (hl : Sl w w.heap.size 3 ce A l) (hp : Sl w w.heap.size 1 ci A' p) (hm : p.length = m) (hlen : l.length ≤ 9223372036854775807) (hlen' : m ≤ 9223372036854775807)
    (hcost : WalkLaw.cost N l p = (co, 0)) (h0 : p.head? = some fr) (h1 : p.getLast? = some tt) :
    Calls Try.prog 36 #[.agg #[.int .i64 N, .slice A l.length c], .agg #[.slice A' m c', .int .i64 co], .int .i64 fr, .int .i64 tt] w fun e w' => e = .returned (.bool true) ∧ Below w.heap.size w w' := by
  obtain ⟨k, rfl⟩ : ∃ k, m = k + 1 := ⟨m - 1, by cases p with | nil => cases h0 | cons a r => simp at hm; omega⟩
  have hk0 : p[0]? = some fr := by rw [← List.head?_eq_getElem?]; exact h0
  have hkk : p[k]? = some tt := by rw [List.getLast?_eq_getElem?, hm, Nat.add_sub_cancel] at h1; exact h1
  have hw0 : Below w.heap.size w ((w.alloc (.cells #[.int .i64 N, .slice A l.length c] 32)).alloc (.cells #[.slice A' (k + 1) c', .int .i64 co] 43)) := ((Below.refl _ _).alloc (Nat.le_refl _) _).alloc (by simp) _
  have hz0 : w.heap.size ≤ ((w.alloc (.cells #[.int .i64 N, .slice A l.length c] 32)).alloc (.cells #[.slice A' (k + 1) c', .int .i64 co] 43)).heap.size := by simp; omega
  have hbox : ((w.alloc (.cells #[.int .i64 N, .slice A l.length c] 32)).alloc (.cells #[.slice A' (k + 1) c', .int .i64 co] 43)).heap[w.heap.size + 1]? = some (.cells #[.slice A' (k + 1) c', .int .i64 co] 43 (0, 0)) := by
    have h := heap_alloc_new (w.alloc (.cells #[.int .i64 N, .slice A l.length c] 32)) (.cells #[.slice A' (k + 1) c', .int .i64 co] 43)
    simpa using h
  have key := Walk.cost_any N A c l A' c' p _ ((hl.keep hw0 (Nat.le_refl _)).more hz0) ((hp.keep hw0 (Nat.le_refl _)).more hz0) hlen (by omega)
  rw [hcost, hm] at key
  obtain ⟨b, o, rfl, hb, _⟩ := at_eq hp hk0
  have KEY := Lib.hid key
  have HBOX := Lib.hid hbox
  have HP := Lib.hid hp
  have HK0 := Lib.hid hk0
  have HKK := Lib.hid hkk
  clear key hbox hcost hp hk0 hkk h0 h1 hm hl
  have hko : ((k : Int) + 1) - 1 = (k : Int) := by omega
  have hkl : (k : Int) < (k : Int) + 1 := by omega
  go_enter Try.func36, Try.ntmps36
  go_wp2_with fail
  refine KEY.out.mono ?_
  rintro e w1 ⟨rfl, hb1⟩
  have H1 := hw0.trans (hb1.mono hz0)
  have hbk := blk_below HBOX.out hb1 (by simp)
  have q0 := blk_cell hbk 0
  have q1 := blk_cell hbk 1
  simp only [List.getElem?_toArray, List.getElem?_cons_zero, List.getElem?_cons_succ] at q0 q1
  have hsl := HP.out.keep H1 (Nat.le_refl _)
  obtain ⟨b1, o1, e1, _, g1⟩ := at_eq hsl HK0.out
  injection e1 with e1
  injection e1 with e1 e2
  subst e1 e2
  obtain ⟨b1, o1, e1, _, g2⟩ := at_eq hsl HKK.out
  injection e1 with e1
  injection e1 with e1 e2
  subst e1 e2
  simp only [Nat.add_zero] at g1
  clear hbk hb1 hsl
  go_wp2
  go_ret
  exact ⟨rfl, H1⟩
set_option maxRecDepth 100000 in
set_option maxHeartbeats 1000000 in
theorem found_same (A A' B B' : Option Addr) (n m c c' n2 m2 d d' : Nat) (l r o o' : List Int) (x y : Int) (w : World) (hl : Sl w w.heap.size 1 ci A l) (hm : Sl w w.heap.size 1 ci A' r) (hn : l.length = n) (hm' : r.length = m) (hlen : n ≤ 9223372036854775807)
    (hl2 : Sl w w.heap.size 1 ci B o) (hm2 : Sl w w.heap.size 1 ci B' o') (hn2 : o.length = n2) (hm2' : o'.length = m2) (hlen2 : n2 ≤ 9223372036854775807) (hx : x = y) (hlr : l = r) (hoo : o = o') :
    Calls Try.prog 29 #[.agg #[.slice A n c, .int .i64 x, .slice B n2 d], .agg #[.slice A' m c', .int .i64 y, .slice B' m2 d']] w fun e w' => e = .returned (.bool true) ∧ Below w.heap.size w w' := by
  have hw0 : Below w.heap.size w ((w.alloc (.cells #[.slice A n c, .int .i64 x, .slice B n2 d] 45)).alloc (.cells #[.slice A' m c', .int .i64 y, .slice B' m2 d'] 45)) := ((Below.refl _ _).alloc (Nat.le_refl _) _).alloc (by simp) _
  have hz0 : w.heap.size ≤ ((w.alloc (.cells #[.slice A n c, .int .i64 x, .slice B n2 d] 45)).alloc (.cells #[.slice A' m c', .int .i64 y, .slice B' m2 d'] 45)).heap.size := by simp; omega
  have hbox := blk_alloc (heap_alloc_new w (.cells #[.slice A n c, .int .i64 x, .slice B n2 d] 45)) (.cells #[.slice A' m c', .int .i64 y, .slice B' m2 d'] 45)
  have hbox2 : ((w.alloc (.cells #[.slice A n c, .int .i64 x, .slice B n2 d] 45)).alloc (.cells #[.slice A' m c', .int .i64 y, .slice B' m2 d'] 45)).heap[w.heap.size + 1]? = some (.cells #[.slice A' m c', .int .i64 y, .slice B' m2 d'] 45 (0, 0)) := by
    have h := heap_alloc_new (w.alloc (.cells #[.slice A n c, .int .i64 x, .slice B n2 d] 45)) (.cells #[.slice A' m c', .int .i64 y, .slice B' m2 d'] 45)
    simpa using h
  have key := WayUse.same_way A A' n m c c' l r x y _ ((hl.keep hw0 (Nat.le_refl _)).more hz0) ((hm.keep hw0 (Nat.le_refl _)).more hz0) hn hm' hlen true (by subst hx hlr; simp)
  have key2 := fun W (hb : Below w.heap.size w W) => equal_int' B B' n2 m2 d d' o o' W.heap.size W.heap.size W ((hl2.keep hb (Nat.le_refl _)).more hb.size) ((hm2.keep hb (Nat.le_refl _)).more hb.size) hn2 hm2' hlen2 true (by subst hoo; simp)
  have KEY := Lib.hid key
  have KEY2 := Lib.hid key2
  have HBOX := Lib.hid hbox
  have HBOX2 := Lib.hid hbox2
  clear key key2 hbox hbox2 hx hlr hoo hl hm hn hm' hl2 hm2 hn2 hm2'
  go_enter Try.func29, Try.ntmps29
  go_wp2_with fail
  refine KEY.out.mono ?_
  rintro e w1 ⟨rfl, hb1⟩
  have H1 := hw0.trans (hb1.mono hz0)
  have hbk := blk_below HBOX.out hb1 (by simp; omega)
  have hbk2 := blk_below HBOX2.out hb1 (by simp)
  have q2 := blk_cell hbk 2
  have p2 := blk_cell hbk2 2
  simp only [List.getElem?_toArray, List.getElem?_cons_zero, List.getElem?_cons_succ] at q2 p2
  clear hbk hbk2 hb1
  go_wp2_with fail
  refine (KEY2.out _ H1).mono ?_
  rintro e w2 ⟨rfl, k, rfl⟩
  have H2 := below_drewN H1 k
  clear q2 p2
  go_wp2
  go_ret
  exact ⟨rfl, H2⟩
theorem times_any (co Num Den least : Int) (w : World) (h1 : -9223372036854775808 ≤ co * Den ∧ co * Den ≤ 9223372036854775807) (h2 : -9223372036854775808 ≤ Num * least ∧ Num * least ≤ 9223372036854775807) (h : co * Den ≤ Num * least) :
    Calls Try.prog 37 #[.int .i64 co, .agg #[.int .i64 Num, .int .i64 Den], .int .i64 least] w fun e w' => e = .returned (.bool true) ∧ Below w.heap.size w w' := by
  have hw0 : Below w.heap.size w (w.alloc (.cells #[.int .i64 Num, .int .i64 Den] 54)) := (Below.refl _ _).alloc (Nat.le_refl _) _
  generalize hx : co * Den = x at *
  generalize hy : Num * least = y at *
  have hd : decide (x ≤ y) = true := by simp [h]
  go_enter Try.func37, Try.ntmps37
  go_wp2
  go_ret
  exact ⟨rfl, hw0⟩
/-- the box of what was found, and its lists, behind what was made since -/
theorem fbox {w W : World} {A1 A2 : Option Addr} {m c1 k c2 : Nat} {co : Int} {p o : List Int} {B : Nat} (h1 : Own w B 3 1 ci (.slice A1 m c1) p) (h2 : Own w B 3 1 ci (.slice A2 k c2) o) (hW : Below (w.heap.size + 1) (w.alloc (.cells #[.slice A1 m c1, .int .i64 co, .slice A2 k c2] 45)) W) :
    W.cell? ⟨w.heap.size, 0, none⟩ = some (.slice A1 m c1) ∧ W.cell? ⟨w.heap.size, 1, none⟩ = some (.int .i64 co) ∧ W.cell? ⟨w.heap.size, 2, none⟩ = some (.slice A2 k c2) ∧ w.heap.size + 1 ≤ W.heap.size ∧ Sl W W.heap.size 1 ci A1 p ∧ Sl W W.heap.size 1 ci A2 o := by
  have hz : w.heap.size + 1 ≤ W.heap.size := by have := hW.size; simpa using this
  have hX := ((Below.refl w.heap.size w).alloc (Nat.le_refl _) (.cells #[.slice A1 m c1, .int .i64 co, .slice A2 k c2] 45)).trans (hW.mono (Nat.le_succ _))
  obtain ⟨c1, _⟩ := keepAt hW (Nat.lt_succ_self _)
  exact ⟨(c1 0).trans (by simp), (c1 1).trans (by simp), (c1 2).trans (by simp), hz, (h1.sl.2.keep hX (Nat.le_refl _)).more (by omega), (h2.sl.2.keep hX (Nat.le_refl _)).more (by omega)⟩
theorem own_kc {w : World} {B : Nat} {e : TypeId} {A : Option Addr} {k c : Nat} {o : List Int} (h : Own w B e 1 ci (.slice A k c) o) : k ≤ c := by
  obtain ⟨A', c', hv, hc, _⟩ := h.form
  injection hv with _ h1 h2
  omega
theorem look_fst {N : Int} {l : List E} {a b : Int} (h : Dijk.look N l [a, b] = 0) : Dijk.look N l [a] = 0 := by
  unfold Dijk.look at h ⊢
  split at h
  · rename_i h1; exact absurd h h1
  · rename_i h1
    rw [if_neg h1]
    simp only [Dijk.lookE] at h ⊢
    split at h
    · omega
    · rename_i h2; rw [if_neg h2]
end Go.Proofs.Ytbgkkmcobijkgaa.StarF
