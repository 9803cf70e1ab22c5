/- The walk of walk.Join: what it answers. -/
/- Plain facts on walks and their parts, and what begun answers. -/
/- yen.K as the laws call it; the small net; EqualFunc of ways. -/
import Derived.Test.YtjebckehmmbkbaaVSlice
import Derived.Test.YtjebckehmmbkbaaVWayUse
import Derived.Test.YtjebckehmmbkbaaVWalkCost
import Derived.Test.YtjebckehmmbkbaaVYenK
namespace Go.Proofs.Ytjebckehmmbkbaa.Walk
open Go.RowKit Go.Proofs.Ytjebckehmmbkbaa
set_option linter.unusedSimpArgs false
set_option linter.unusedVariables false

theorem infoInt : (Try.prog.info? 3).map (fun i => (i.zero, i.size, i.bytes)) = some (some (.int .i64 0), 1, 8) := by kernel_rfl
/-- the two walks fit -/
def fit (a b : List Int) : Prop := a ≠ [] ∧ b ≠ [] ∧ a.getLast? = b.head?
/-- what Join answers where they fit: a list of the call's own -/
def SomeJoin (l : List Int) (w : World) (e : Ending) (w' : World) : Prop :=
  ∃ A c, e = .returned (.tuple #[.slice A l.length c, .int .i64 0]) ∧ Own w' w.heap.size 3 1 ci (.slice A l.length c) l ∧ Below w.heap.size w w'

end Go.Proofs.Ytjebckehmmbkbaa.Walk

namespace Go.Proofs.Ytjebckehmmbkbaa.TopLaw
open Go.RowKit Go.Proofs.Ytjebckehmmbkbaa NetLaw BellLaw DijkLaw WayLaw WalkLaw Go.Proofs.Ytjebckehmmbkbaa.Net Go.Proofs.Ytjebckehmmbkbaa.Std Go.Proofs.Ytjebckehmmbkbaa.Dijk Go.Proofs.Ytjebckehmmbkbaa.DijkWay Go.Proofs.Ytjebckehmmbkbaa.DijkTwo Go.Proofs.Ytjebckehmmbkbaa.WayUse
set_option linter.unusedSimpArgs false
set_option linter.unusedVariables false
theorem eg_edge {l : List E} {a b : Int} (h : (eg l a b).2 = true) : ∃ e ∈ l, e.1 = a ∧ e.2.1 = b ∧ e.2.2 = (eg l a b).1 := by
  obtain ⟨_, _, h3⟩ := eg_fold a b l (0, false)
  rcases h3 with h3 | ⟨e, he, h1, h2, h4⟩
  · have : eg l a b = (0, false) := h3
    rw [this] at h
    cases h
  · have : eg l a b = (e.2.2, true) := h4
    exact ⟨e, he, h1, h2, by rw [this]⟩
theorem walk_wk {l : List E} (p : List Int) (x y : Int) (hx : p.head? = some x) (hy : p.getLast? = some y) (hok : okP l (prs p) = true) : Wk l x y (sumP l (prs p)) := by
  induction p generalizing x with
  | nil => simp at hx
  | cons a r ih =>
    simp at hx
    subst hx
    cases r with
    | nil =>
      simp at hy
      subst hy
      exact Wk.here
    | cons b r =>
      rw [prs_cons] at hok ⊢
      have s1 : okP l ((a, b) :: prs (b :: r)) = ((eg l a b).2 && okP l (prs (b :: r))) := by simp [okP]
      have s2 : sumP l ((a, b) :: prs (b :: r)) = (eg l a b).1 + sumP l (prs (b :: r)) := by simp [sumP]
      rw [s1, Bool.and_eq_true] at hok
      obtain ⟨e, he, h1, h2, h3⟩ := eg_edge hok.1
      have ih2 := ih b rfl (by simpa using hy) hok.2
      have hs := Wk.step (l := l) (fr := a) (e := e) Wk.here he h1
      rw [h2, Int.zero_add] at hs
      have hj := DijkMorePlain.wk_join hs ih2
      rw [s2, ← h3]
      exact hj
/-- what a right walk's cost says of its ends and its middle -/
structure Mid (N : Int) (l : List E) (p : List Int) (i : Nat) (x d1 d2 : Int) : Prop where
  one : 1 ≤ p.length
  len : p.length ≤ 100
  hi : i < p.length
  w1 : ∀ (h0 : 0 < p.length) (hi : i < p.length), Wk l p[0] p[i] d1
  w2 : ∀ (hi : i < p.length) (hl : p.length - 1 < p.length), Wk l p[i] (p[p.length - 1]) d2
  sum : x = d1 + d2
  rng : ∀ v ∈ p, 0 ≤ v ∧ v < N
  good : NetLaw.Good N l
theorem mid_of {N : Int} {l : List E} {p : List Int} {x : Int} (h : cost N l p = (x, 0)) : ∃ d1 d2, Mid N l p (p.length / 2) x d1 d2 := by
  have h2 : (cost N l p).2 = 0 := by rw [h]
  obtain ⟨c1, c2, c3, c4, c5⟩ := cost_zero.1 h2
  have hx : x = sumP l (prs p) := by
    have := cost_val (N := N) (l := l) (p := p)
    rw [if_pos h2, h] at this
    exact this
  have hi : p.length / 2 < p.length := by omega
  have hsplit : p = p.take (p.length / 2) ++ p[p.length / 2] :: p.drop (p.length / 2 + 1) := by
    rw [List.getElem_cons_drop, List.take_append_drop]
  have hprs := prs_join (p.take (p.length / 2)) p[p.length / 2] (p.drop (p.length / 2 + 1))
  rw [← hsplit] at hprs
  rw [hprs, okP_append, Bool.and_eq_true] at c5
  rw [hprs, sumP_append] at hx
  refine ⟨_, _, by omega, c3, hi, fun h0 _ => walk_wk _ _ _ ?_ (by rw [List.getLast?_append]; rfl) c5.1, fun _ hl => walk_wk _ _ _ rfl ?_ c5.2, hx, fun v hv => ?_, chk_zero.1 c1⟩
  · rw [List.take_append_getElem, List.head?_take, if_neg (by omega), List.head?_eq_getElem?, List.getElem?_eq_getElem h0]
  · rw [List.getElem_cons_drop, List.getLast?_drop, if_neg (by omega), List.getLast?_eq_getElem?, List.getElem?_eq_getElem hl]
  · rw [List.any_eq_false] at c4
    have := c4 v hv
    simp [outB] at this
    exact this
/-- the least ways, each against the walk's part -/
theorem joined {N : Int} {n : Nat} {l : List E} {D1 D2 : List Int} {f m t : Int} {pa pb : List Int} (hN : N = n) (hg : NetLaw.Good N l) (hD1 : Sh N f l D1) (hD2 : Sh N m l D2) (hf1 : Wy n l D1 f m pa) (hf2 : Wy n l D2 m t pb) : Walk.fit pa pb ∧ ((pa ++ pb.tail).length ≤ 100 → cost N l (pa ++ pb.tail) = (dg D1 m + dg D2 t, 0)) ∧ (pa ++ pb.tail).length ≤ 200 := by
  subst hN
  have hn := hg.hi
  have hla := hf1.len
  have hlb := hf2.len
  obtain ⟨nf, rfl⟩ : ∃ nf : Nat, f = nf := by
    have h := hf1.rng f (List.mem_of_mem_head? hf1.head)
    exact Int.eq_ofNat_of_zero_le h.1
  obtain ⟨nm, rfl⟩ : ∃ nf : Nat, m = nf := by
    have h := hf2.rng m (List.mem_of_mem_head? hf2.head)
    exact Int.eq_ofNat_of_zero_le h.1
  have ca := cost_of hD1 hg pa _ _ hf1.head hf1.last (by omega) hf1.rng hf1.link
  have cb := cost_of hD2 hg pb _ _ hf2.head hf2.last (by omega) hf2.rng hf2.link
  rw [hD1.st, Int.sub_zero] at ca
  rw [hD2.st, Int.sub_zero] at cb
  refine ⟨⟨fun e => by rw [e] at hla; simp at hla, fun e => by rw [e] at hlb; simp at hlb, by rw [hf1.last, hf2.head]⟩, fun hlen => ?_, by rw [List.length_append, List.length_tail]; omega⟩
  obtain ⟨a', rfl⟩ : ∃ a', pa = a' ++ [(nm : Int)] := by
    have h := hf1.last
    rw [List.getLast?_eq_some_iff] at h
    exact h
  obtain ⟨b', rfl⟩ : ∃ b', pb = (nm : Int) :: b' := by
    have h := hf2.head
    cases pb with
    | nil => simp at h
    | cons x r => simp at h; exact ⟨r, by rw [h]⟩
  rw [List.tail_cons, List.append_assoc, List.singleton_append] at hlen ⊢
  obtain ⟨j1, j2⟩ := cost_join (N := (n : Int)) (l := l) a' (nm : Int) b' hlen
  have h0 : (cost (n : Int) l (a' ++ (nm : Int) :: b')).2 = 0 := j1.2 ⟨by rw [ca], by rw [cb]⟩
  have h1 := j2 h0
  rw [ca, cb] at h1
  exact Prod.ext h1 h0
theorem look01 : Dijk.look 2 [(0, 1, 5)] [0, 1] = 0 := by decide +kernel
end Go.Proofs.Ytjebckehmmbkbaa.TopLaw

namespace Go.Proofs.Ytjebckehmmbkbaa.Yen
open Go.RowKit Go.Proofs.Ytjebckehmmbkbaa NetLaw BellLaw DijkLaw WalkLaw YenLaw YenOn Go.Proofs.Ytjebckehmmbkbaa.Net Go.Proofs.Ytjebckehmmbkbaa.Std
open Go.Proofs.Ytjebckehmmbkbaa.HeapW
set_option linter.unusedSimpArgs false
set_option linter.unusedVariables false
theorem k_no (N a b k : Int) (A : Option Addr) (c : Nat) (l : List E) (w : World) (hl : Sl w w.heap.size 3 ce A l) (hlen : l.length ≤ 9223372036854775807) (er : Int) (he : (Dijk.look N l [a, b] ≠ 0 ∧ er = Dijk.look N l [a, b]) ∨ (Dijk.look N l [a, b] = 0 ∧ (k < 1 ∨ 8 < k) ∧ er = 1)) :
    Calls Try.prog 8 #[.agg #[.int .i64 N, .slice A l.length c], .int .i64 a, .int .i64 b, .int .i64 k] w fun e w' => e = .returned (.tuple #[.slice none 0 0, .int .i64 er]) ∧ Below w.heap.size w w' := by
  have hcl : ∀ W, Below w.heap.size w W → Sl W W.heap.size 3 ce A l := fun W hW => (hl.keep hW (Nat.le_refl _)).more hW.size
  have hw0 : Below w.heap.size w (w.alloc (.cells #[.int .i64 N, .slice A l.length c] 24)) := (Below.refl _ _).alloc (Nat.le_refl _) _
  have hw1 := hw0.alloc (by simp) (.cells #[.int .i64 a, .int .i64 b] 3)
  have hbx := blk_alloc (heap_alloc_new w (.cells #[.int .i64 N, .slice A l.length c] 24)) (.cells #[.int .i64 a, .int .i64 b] 3)
  have klk := Dijk.look_any N A c l (some ⟨w.heap.size + 1, 0, none⟩) 2 2 [a, b] _ (hcl _ hw1) (sl_new' (by decide) (w.alloc (.cells #[.int .i64 N, .slice A l.length c] 24)) #[.int .i64 a, .int .i64 b] 3 [a, b] (by simp) rfl) rfl hlen (by decide)
  have q0 := blk_cell hbx 0
  have q1 := blk_cell hbx 1
  simp only [List.getElem?_toArray, List.getElem?_cons_zero, List.getElem?_cons_succ] at q0 q1
  have HW1 := Lib.hid hw1
  rcases he with ⟨h1, h2⟩ | ⟨h1, h2, rfl⟩
  · rw [← h2] at klk h1
    have hne : (er != 0) = true := by rw [bne_iff_ne]; exact h1
    have KLK := Lib.hid klk
    clear klk hcl hbx hl hw0 hw1 h1 h2
    go_enter Try.func8, Try.ntmps8
    go_wp2_with fail
    refine KLK.out.mono ?_
    rintro e w1 ⟨rfl, hb1⟩
    have hB1 := HW1.out.trans (hb1.mono HW1.out.size)
    have HB1 := Lib.hid hB1
    clear hB1 hb1 KLK q0 q1
    go_wp2
    go_ret2
    exact ⟨rfl, HB1.out⟩
  · rw [h1] at klk
    have KLK := Lib.hid klk
    clear klk hcl hbx hl hw0 hw1 h1
    rcases Int.lt_or_le k 1 with h3 | h3
    · clear h2
      go_enter Try.func8, Try.ntmps8
      go_wp2_with fail
      refine KLK.out.mono ?_
      rintro e w1 ⟨rfl, hb1⟩
      have hB1 := HW1.out.trans (hb1.mono HW1.out.size)
      have HB1 := Lib.hid hB1
      clear hB1 hb1 KLK q0 q1
      go_wp2
      go_ret2
      exact ⟨rfl, HB1.out⟩
    · have h4 : k > 8 := by omega
      have h5 : ¬ k < 1 := by omega
      clear h2
      go_enter Try.func8, Try.ntmps8
      go_wp2_with fail
      refine KLK.out.mono ?_
      rintro e w1 ⟨rfl, hb1⟩
      have hB1 := HW1.out.trans (hb1.mono HW1.out.size)
      have HB1 := Lib.hid hB1
      clear hB1 hb1 KLK q0 q1
      go_wp2
      go_ret2
      exact ⟨rfl, HB1.out⟩
/-- what K's answer is -/
def KF (N a b k : Int) (l : List E) (O : List Pop) (er : Int) : Prop :=
  (Dijk.look N l [a, b] ≠ 0 ∧ er = Dijk.look N l [a, b] ∧ O = []) ∨ (Dijk.look N l [a, b] = 0 ∧ (k < 1 ∨ 8 < k) ∧ er = 1 ∧ O = []) ∨
  (Dijk.look N l [a, b] = 0 ∧ 1 ≤ k ∧ k ≤ 8 ∧ ∃ n s t : Nat, N = n ∧ a = s ∧ b = t ∧ Top n l s t k.toNat (O.map (·.2.2)) ∧ ((O = [] ∧ er = 5) ∨ (O ≠ [] ∧ er = 0)))
/-- K at any question -/
theorem k_any (N a b k : Int) (A : Option Addr) (c : Nat) (l : List E) (w : World) (hl : Sl w w.heap.size 3 ce A l) (hlen : l.length ≤ 9223372036854775807) :
    Calls Try.prog 8 #[.agg #[.int .i64 N, .slice A l.length c], .int .i64 a, .int .i64 b, .int .i64 k] w fun e w' => ∃ Ao mo co O er, e = .returned (.tuple #[.slice Ao mo co, .int .i64 er]) ∧ Hid (Below w.heap.size w w') ∧ Hid (O.length = mo) ∧ Hid (Own w' w.heap.size 31 2 cw (.slice Ao mo co) O) ∧ Hid (∀ x ∈ O, Rd w' w.heap.size x ∧ x.2.1 = wt l x.2.2) ∧ Hid (KF N a b k l O er) := by
  by_cases hx : Dijk.look N l [a, b] = 0
  · by_cases hk : 1 ≤ k ∧ k ≤ 8
    · obtain ⟨hg, hc1, ⟨s0, s1⟩, t0, t1⟩ := DijkWay.looks_zero hx
      have hlo := hg.lo
      obtain ⟨n, rfl⟩ := Int.eq_ofNat_of_zero_le (show 0 ≤ N by omega)
      obtain ⟨s, rfl⟩ := Int.eq_ofNat_of_zero_le s0
      obtain ⟨t, rfl⟩ := Int.eq_ofNat_of_zero_le t0
      obtain ⟨k, rfl⟩ := Int.eq_ofNat_of_zero_le (show 0 ≤ k by omega)
      refine (k_yes n s t k A c l w hl hx (by omega) (by omega)).mono ?_
      rintro e w' ⟨Ao, co, O, h1, h2, h3⟩
      rcases h3 with ⟨h3, he⟩ | ⟨h3, he⟩
      · subst h3
        exact ⟨none, 0, 0, [], 5, he, h2, Lib.hid rfl, Lib.hid Own.nil_, Lib.hid (by simp), Lib.hid (.inr (.inr ⟨hx, hk.1, hk.2, n, s, t, rfl, rfl, rfl, by rw [Int.toNat_natCast]; exact h1.out.2.2, .inl ⟨rfl, rfl⟩⟩))⟩
      · exact ⟨Ao, O.length, co, O, 0, he, h2, Lib.hid rfl, Lib.hid h1.out.1, Lib.hid h1.out.2.1, Lib.hid (.inr (.inr ⟨hx, hk.1, hk.2, n, s, t, rfl, rfl, rfl, by rw [Int.toNat_natCast]; exact h1.out.2.2, .inr ⟨h3, rfl⟩⟩))⟩
    · refine (k_no N a b k A c l w hl hlen 1 (.inr ⟨hx, by omega, rfl⟩)).mono ?_
      rintro e w' ⟨he, hb⟩
      exact ⟨none, 0, 0, [], 1, he, Lib.hid hb, Lib.hid rfl, Lib.hid Own.nil_, Lib.hid (by simp), Lib.hid (.inr (.inl ⟨hx, by omega, rfl, rfl⟩))⟩
  · refine (k_no N a b k A c l w hl hlen _ (.inl ⟨hx, rfl⟩)).mono ?_
    rintro e w' ⟨he, hb⟩
    exact ⟨none, 0, 0, [], _, he, Lib.hid hb, Lib.hid rfl, Lib.hid Own.nil_, Lib.hid (by simp), Lib.hid (.inl ⟨hx, rfl, rfl⟩)⟩
/-- where there is but one way -/
theorem top_one {n k : Nat} {l : List E} {s t : Int} {p : List Int} {out : List (List Int)} (h : Top n l s t k out) (hk : 1 ≤ k) (hp : Smp n l s t p) (hall : ∀ q, Smp n l s t q → q = p) : out = [p] := by
  have hm : p ∈ out := by
    rcases h.all with h1 | h1
    · cases out with
      | nil => simp at h1; omega
      | cons x r => rw [hall x (h.so x (by simp))]; simp
    · exact h1 p hp
  have hnd := h.nd
  cases out with
  | nil => cases hm
  | cons x r =>
    have hx := hall x (h.so x (by simp))
    subst hx
    cases r with
    | nil => rfl
    | cons y r =>
      have hy := hall y (h.so y (by simp))
      subst hy
      simp at hnd
theorem smp01 : Smp 2 [(0, 1, 5)] 0 1 [0, 1] := ⟨rfl, rfl, by decide, by decide, by decide +kernel⟩
theorem smp01_all (q : List Int) (h : Smp 2 [(0, 1, 5)] 0 1 q) : q = [0, 1] := by
  have h1 := h.len
  have h2 := h.head
  have h3 := h.last
  match q, h1, h2, h3 with
  | [x], _, h2, h3 => simp at h2 h3; omega
  | [x, y], _, h2, h3 => simp at h2 h3; rw [h2, h3]
theorem smp11 : Smp 2 [(0, 1, 5)] 1 1 [1] := ⟨rfl, rfl, by decide, by decide, by decide +kernel⟩
theorem smp11_all (q : List Int) (h : Smp 2 [(0, 1, 5)] 1 1 q) : q = [1] := by
  obtain ⟨r, rfl⟩ := cons_of_head h.head
  have := Smp.end_ (a := []) (x := 1) (r := r) h rfl
  rw [this]
theorem look01 : Dijk.look 2 [(0, 1, 5)] [0, 1] = 0 := by decide +kernel
theorem look11 : Dijk.look 2 [(0, 1, 5)] [1, 1] = 0 := by decide +kernel
theorem kf_two {k : Int} {O : List Pop} {er : Int} (h : KF 2 0 1 k [(0, 1, 5)] O er) (hk : 1 ≤ k ∧ k ≤ 8) : er = 0 ∧ O.map (·.2.2) = [[0, 1]] := by
  rcases h with ⟨h1, _⟩ | ⟨_, h1, _⟩ | ⟨_, h1, h2, n, s, t, hn, hs, ht, h3, h4⟩
  · exact absurd look01 h1
  · omega
  · obtain rfl : n = 2 := by omega
    obtain rfl : s = 0 := by omega
    obtain rfl : t = 1 := by omega
    have h5 := top_one h3 (by omega) smp01 smp01_all
    rcases h4 with ⟨h6, _⟩ | ⟨_, h6⟩
    · rw [h6] at h5; cases h5
    · exact ⟨h6, h5⟩
theorem kf_eleven {k : Int} {O : List Pop} {er : Int} (h : KF 2 1 1 k [(0, 1, 5)] O er) (hk : 1 ≤ k ∧ k ≤ 8) : er = 0 ∧ O.map (·.2.2) = [[1]] := by
  rcases h with ⟨h1, _⟩ | ⟨_, h1, _⟩ | ⟨_, h1, h2, n, s, t, hn, hs, ht, h3, h4⟩
  · exact absurd look11 h1
  · omega
  · obtain rfl : n = 2 := by omega
    obtain rfl : s = 1 := by omega
    obtain rfl : t = 1 := by omega
    have h5 := top_one h3 (by omega) smp11 smp11_all
    rcases h4 with ⟨h6, _⟩ | ⟨_, h6⟩
    · rw [h6] at h5; cases h5
    · exact ⟨h6, h5⟩
/-- one way of the small net -/
theorem one_of {l : List E} {O : List Pop} {p : List Int} {mo : Nat} (h : O.map (·.2.2) = [p]) (hm : O.length = mo) (hc : ∀ x ∈ O, x.2.1 = wt l x.2.2) : mo = 1 ∧ ∃ x : SV, O = [(x, wt l p, p)] := by
  match O, h with
  | [(x, c, q)], h =>
    simp at h
    subst h
    have := hc _ (List.mem_singleton.2 rfl)
    simp only at this
    subst this
    exact ⟨by rw [← hm]; rfl, x, rfl⟩
end Go.Proofs.Ytjebckehmmbkbaa.Yen
