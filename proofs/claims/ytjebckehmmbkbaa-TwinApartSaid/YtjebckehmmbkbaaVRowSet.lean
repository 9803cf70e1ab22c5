/- Plain: what breadth first seeking keeps. No Go in sight. -/
/- Rows of the call's own: one cell of an element is set. -/
import Derived.Test.YtjebckehmmbkbaaVFlowLaw
import Derived.Test.YtjebckehmmbkbaaVSlice
namespace Go.Proofs.Ytjebckehmmbkbaa.FlowBfs
open NetLaw FlowLaw
set_option linter.unusedSimpArgs false
set_option linter.unusedVariables false
/-- the i-th edge has been looked at from x -/
def Cl (l : List E) (F : List Int) (od : List Int) (x : Int) (i : Nat) : Prop := (fr l i = x → fv F i < cpt l i → en l i ∈ od) ∧ (en l i = x → 0 < fv F i → fr l i ∈ od)
theorem Cl.mono {l : List E} {F od od' : List Int} {x : Int} {i : Nat} (h : Cl l F od x i) (hs : ∀ y ∈ od, y ∈ od') : Cl l F od' x i := ⟨fun a b => hs _ (h.1 a b), fun a b => hs _ (h.2 a b)⟩
structure Bf (n : Nat) (l : List E) (F : List Int) (s : Int) (B : List Int) (Sn : List Bool) (dn Q : List Int) (k : Nat) : Prop where
  bl : B.length = n
  sl : Sn.length = n
  nd : (dn ++ Q).Nodup
  rng : ∀ x ∈ dn ++ Q, 0 ≤ x ∧ x < n
  hd : (dn ++ Q).head? = some s
  sn : ∀ v : Int, 0 ≤ v → v < n → Sn.getD v.toNat false = decide (v ∈ dn ++ Q)
  un : ∀ v : Int, 0 ≤ v → v < n → v ∉ dn ++ Q → B.getD v.toNat 0 = l.length
  via : ∀ j (hj : j < (dn ++ Q).length), 0 < j → Via l F (B.getD ((dn ++ Q)[j]).toNat 0) (dn ++ Q)[j] ∧ prv l (B.getD ((dn ++ Q)[j]).toNat 0) ∈ (dn ++ Q).take j
  cl : ∀ x ∈ dn, ∀ i, i < l.length → Cl l F (dn ++ Q) x i
  cur : ∀ x, Q.head? = some x → ∀ i, i < k → Cl l F (dn ++ Q) x i
section
variable {n : Nat} {l : List E} {F B dn Q : List Int} {Sn : List Bool} {s : Int} {k : Nat}
theorem getD_set {α : Type} {D : List α} {d x : α} {i j : Nat} (h : i < D.length) : (D.set i x).getD j d = if j = i then x else D.getD j d := by
  rw [List.getD_eq_getElem?_getD, List.getD_eq_getElem?_getD]
  by_cases e : j = i
  · subst e; rw [if_pos rfl, List.getElem?_set_self h]; rfl
  · rw [if_neg e, List.getElem?_set_ne (by omega)]
theorem Bf.start (n : Nat) (l : List E) (F : List Int) (s : Nat) (hs : s < n) : Bf n l F s (List.replicate n (l.length : Int)) ((List.replicate n false).set s true) [] [(s : Int)] 0 := by
  refine ⟨by simp, by simp, by simp, fun x hx => by simp at hx; omega, rfl, fun v v0 v1 => ?_, fun v v0 v1 _ => ?_, fun j hj h0 => absurd hj (by simp; omega), by simp, fun x _ i hi => absurd hi (Nat.not_lt_zero _)⟩
  · rw [getD_set (by simp; omega)]
    by_cases e : v = s
    · rw [if_pos (by omega)]; simp [e]
    · rw [if_neg (by omega), List.getD_eq_getElem?_getD, List.getElem?_replicate, if_pos (by omega)]; simp [e]
  · rw [List.getD_eq_getElem?_getD, List.getElem?_replicate, if_pos (by omega)]; rfl
/-- one place more -/
theorem Bf.add (h : Bf n l F s B Sn dn Q k) {y b x : Int} (y0 : 0 ≤ y) (y1 : y < n) (hy : Sn.getD y.toNat false = false) (hx : Q.head? = some x) (hv : Via l F b y) (hp : prv l b = x) : Bf n l F s (B.set y.toNat b) (Sn.set y.toNat true) dn (Q ++ [y]) k := by
  have hny : y ∉ dn ++ Q := by rw [h.sn y y0 y1] at hy; exact of_decide_eq_false hy
  have e : dn ++ (Q ++ [y]) = (dn ++ Q) ++ [y] := by rw [List.append_assoc]
  have hxm : x ∈ dn ++ Q := List.mem_append_right _ (List.mem_of_head? hx)
  have hsub : ∀ z ∈ dn ++ Q, z ∈ (dn ++ Q) ++ [y] := fun z hz => List.mem_append_left _ hz
  refine ⟨by rw [List.length_set]; exact h.bl, by rw [List.length_set]; exact h.sl, ?_, ?_, ?_, fun v v0 v1 => ?_, fun v v0 v1 hv' => ?_, fun j hj j0 => ?_, fun x hx i hi => ?_, fun z hz i hi => ?_⟩
  · rw [e, List.nodup_append]
    exact ⟨h.nd, by simp, fun a ha b hb => by rw [List.mem_singleton] at hb; subst hb; exact fun e => hny (e ▸ ha)⟩
  · rw [e]
    intro z hz
    rcases List.mem_append.1 hz with hz | hz
    · exact h.rng z hz
    · rw [List.mem_singleton] at hz; subst hz; exact ⟨y0, y1⟩
  · rw [e, List.head?_append, h.hd]; rfl
  · rw [getD_set (by rw [h.sl]; omega), e]
    by_cases ev : v = y
    · rw [if_pos (by omega)]; simp [ev]
    · rw [if_neg (by omega), h.sn v v0 v1]
      have : (v ∈ dn ++ Q) ↔ (v ∈ dn ++ Q ++ [y]) := by
        rw [List.mem_append (s := dn ++ Q), List.mem_singleton]
        exact ⟨.inl, fun h => h.elim id fun h => absurd h ev⟩
      exact decide_eq_decide.2 this
  · rw [e] at hv'
    have ev : v ≠ y := fun e' => hv' (by rw [e']; exact List.mem_append_right _ (List.mem_singleton.2 rfl))
    rw [getD_set (by rw [h.bl]; omega), if_neg (by omega)]
    exact h.un v v0 v1 fun hm => hv' (hsub _ hm)
  · simp only [e] at hj ⊢
    rw [List.length_append, List.length_singleton] at hj
    rcases Nat.lt_or_ge j (dn ++ Q).length with hlt | hge
    · rw [List.getElem_append_left hlt]
      obtain ⟨a, b'⟩ := h.via j hlt j0
      have hmem := List.getElem_mem hlt
      have hr := h.rng _ hmem
      have ev : (dn ++ Q)[j] ≠ y := fun e' => hny (e' ▸ hmem)
      rw [getD_set (by rw [h.bl]; omega), if_neg (by omega)]
      refine ⟨a, ?_⟩
      rw [List.take_append_of_le_length (by omega)]
      exact b'
    · obtain rfl : j = (dn ++ Q).length := by omega
      rw [List.getElem_append_right (Nat.le_refl _)]
      simp only [Nat.sub_self, List.getElem_cons_zero]
      rw [getD_set (by rw [h.bl]; omega), if_pos rfl]
      refine ⟨hv, ?_⟩
      rw [List.take_left', hp]
      · exact hxm
      · rfl
  · rw [e]
    exact (h.cl x hx i hi).mono hsub
  · rw [e]
    have hz' : Q.head? = some z := by
      cases Q with
      | nil => cases hx
      | cons q r => simpa using hz
    exact (h.cur z hz' i hi).mono hsub
theorem Bf.next (h : Bf n l F s B Sn dn Q k) {x : Int} (hx : Q.head? = some x) (hc : Cl l F (dn ++ Q) x k) : Bf n l F s B Sn dn Q (k + 1) :=
  ⟨h.bl, h.sl, h.nd, h.rng, h.hd, h.sn, h.un, h.via, h.cl, fun z hz i hi => by
    rw [hx] at hz
    injection hz with hz
    subst hz
    rcases Nat.lt_or_ge i k with h1 | h1
    · exact h.cur x hx i h1
    · obtain rfl : i = k := by omega
      exact hc⟩
theorem Bf.pop {x : Int} {r : List Int} (h : Bf n l F s B Sn dn (x :: r) l.length) : Bf n l F s B Sn (dn ++ [x]) r 0 := by
  have e : dn ++ [x] ++ r = dn ++ x :: r := by rw [List.append_assoc]; rfl
  refine ⟨h.bl, h.sl, by rw [e]; exact h.nd, by rw [e]; exact h.rng, by rw [e]; exact h.hd, fun v a b => by rw [e]; exact h.sn v a b, fun v a b c => h.un v a b (by rw [e] at c; exact c), fun j hj j0 => ?_, fun z hz i hi => ?_, fun z _ i hi => absurd hi (Nat.not_lt_zero _)⟩
  · simp only [e] at hj ⊢
    exact h.via j hj j0
  · rw [e]
    rcases List.mem_append.1 hz with hz | hz
    · exact h.cl z hz i hi
    · rw [List.mem_singleton] at hz
      subst hz
      exact h.cur z rfl i hi
theorem Bf.len (h : Bf n l F s B Sn dn Q k) : dn.length + Q.length ≤ n := by
  have := FloydLaw.nodup_len (S := (dn ++ Q).map Int.toNat) (k := n) (by
    rw [List.Nodup, List.pairwise_map]
    refine List.Pairwise.imp_of_mem (fun ha hb hne e => ?_) h.nd
    have a := h.rng _ ha
    have b := h.rng _ hb
    exact hne (by omega)) (fun m hm => by
    rw [List.mem_map] at hm
    obtain ⟨x, hx, rfl⟩ := hm
    have := h.rng x hx
    omega)
  rwa [List.length_map, List.length_append] at this
theorem Bf.fin (h : Bf n l F s B Sn dn [] k) (hs : 0 ≤ s) : Sk n l F s (B.set s.toNat (l.length + 1)) dn := by
  have hsm : s ∈ dn := by have := h.hd; rw [List.append_nil] at this; exact List.mem_of_head? this
  have hsr := h.rng s (List.mem_append_left _ hsm)
  have hb : s.toNat < B.length := by rw [h.bl]; omega
  have hnd := h.nd
  rw [List.append_nil] at hnd
  refine ⟨by rw [List.length_set]; exact h.bl, hnd, fun x hx => h.rng x (List.mem_append_left _ hx), by have := h.hd; rwa [List.append_nil] at this, fun v v0 v1 hv => ?_, ?_, fun j hj j0 => ?_, fun x hx i hi => ?_⟩
  · have : v ≠ s := fun e => hv (e ▸ hsm)
    rw [getD_set hb, if_neg (by omega)]
    exact h.un v v0 v1 (by rw [List.append_nil]; exact hv)
  · rw [getD_set hb, if_pos rfl]
  · have hv := h.via j (by rw [List.append_nil]; exact hj) j0
    simp only [List.append_nil] at hv
    have hmem := List.getElem_mem hj
    have hr := h.rng _ (List.mem_append_left [] hmem)
    have hne : dn[j] ≠ s := fun e => by
      have h0 := h.hd
      rw [List.append_nil, List.head?_eq_getElem?, List.getElem?_eq_getElem (by omega)] at h0
      injection h0 with h0
      rw [← h0] at e
      have := (List.getElem_inj hnd).1 e
      omega
    rw [getD_set hb, if_neg (by omega)]
    exact hv
  · have := h.cl x hx i hi
    rw [List.append_nil] at this
    exact this
end
end Go.Proofs.Ytjebckehmmbkbaa.FlowBfs

namespace Go.Proofs.Ytjebckehmmbkbaa
open Go.RowKit
set_option linter.unusedSimpArgs false
set_option linter.unusedVariables false
theorem fl_set {α : Type} {sz : Nat} {cell : α → Nat → Value} (l : List α) (k j0 : Nat) (a' : α) (hk : k < l.length) (hj : j0 < sz) (h : ∀ j, j < sz → j ≠ j0 → cell a' j = cell l[k] j) : fl sz cell (l.set k a') = (fl sz cell l).set (k * sz + j0) (cell a' j0) := by
  induction l generalizing k with
  | nil => simp at hk
  | cons a r ih =>
    have e1 : fl sz cell (a :: r) = (List.range sz).map (cell a) ++ fl sz cell r := rfl
    match k, hk with
    | 0, _ =>
      have e2 : fl sz cell ((a :: r).set 0 a') = (List.range sz).map (cell a') ++ fl sz cell r := rfl
      rw [e2, e1, Nat.zero_mul, Nat.zero_add, List.set_append_left _ _ (by simpa using hj)]
      congr 1
      refine List.ext_getElem (by simp) fun i h1 h2 => ?_
      simp only [List.length_map, List.length_range] at h1
      rw [List.getElem_set]
      by_cases e : j0 = i
      · subst e; simp
      · rw [if_neg e]
        simp only [List.getElem_map, List.getElem_range]
        exact h i h1 (fun x => e x.symm)
    | k + 1, hk =>
      have e2 : fl sz cell ((a :: r).set (k + 1) a') = (List.range sz).map (cell a) ++ fl sz cell (r.set k a') := rfl
      have e3 : (k + 1) * sz + j0 - sz = k * sz + j0 := by rw [Nat.succ_mul]; omega
      rw [e2, e1, List.set_append_right _ _ (by simp; rw [Nat.succ_mul]; omega), ih k (by simpa using hk) (fun j hj hne => h j hj hne)]
      simp [e3]
theorem own_setj {α : Type} {sz : Nat} {cell : α → Nat → Value} {w : World} {base : Nat} {e : TypeId} {S c n : Nat} {l : List α} (hn : l.length = n) (h : Own w base e sz cell (.slice (some ⟨S, 0, none⟩) n c) l) (k j0 : Nat) (a' : α) (hk : k < l.length) (hj : j0 < sz) (hc : ∀ j, j < sz → j ≠ j0 → cell a' j = cell l[k] j) :
    Own (w.setCell ⟨S, k * sz + j0, none⟩ (cell a' j0)) base e sz cell (.slice (some ⟨S, 0, none⟩) n c) (l.set k a') := by
  subst hn
  have hs := World.ownsRow.stored h (k * sz + j0) (cell a' j0)
  unfold Own
  rw [List.length_set, fl_set l k j0 a' hk hj hc]
  exact hs.1
/-- an element of an own row, in the walk's spelling -/
theorem own_atE {w : World} {base : Nat} {e : TypeId} {A : Option Addr} {n c : Nat} {l : List (Int × Int × Int)} (hn : l.length = n) (h : Own w base e 3 ce (.slice A n c) l) {k : Nat} (hk : k < l.length) :
    ∃ S f t co, A = some ⟨S, 0, none⟩ ∧ base ≤ S ∧ S < w.heap.size ∧ l[k] = (f, t, co) ∧ w.cell? ⟨S, k * 3, none⟩ = some (.int .i64 f) ∧ w.cell? ⟨S, k * 3 + 1, none⟩ = some (.int .i64 t) ∧ w.cell? ⟨S, k * 3 + 2, none⟩ = some (.int .i64 co) ∧ w.frozen? ⟨S, k * 3, none⟩ = false ∧ w.frozen? ⟨S, k * 3 + 1, none⟩ = false ∧ w.frozen? ⟨S, k * 3 + 2, none⟩ = false := by
  subst hn
  obtain ⟨S, c', hv, hb, hS, _, hc⟩ := h.some_ (by omega)
  injection hv with hv _ _
  exact ⟨S, _, _, _, hv, hb, hS, rfl, (hc k hk 0 (by omega)).1, (hc k hk 1 (by omega)).1, (hc k hk 2 (by omega)).1, (hc k hk 0 (by omega)).2, (hc k hk 1 (by omega)).2, (hc k hk 2 (by omega)).2⟩
/-- a literal's new block is a row of the call's own -/
theorem own_new' {α : Type} {sz : Nat} {cell : α → Nat → Value} (w : World) (cs : Array Value) (e : TypeId) {l : List α} {g n base : Nat} (hg : w.heap.size = g) (hn : l.length = n) (hb : base ≤ w.heap.size) (hm : n ≤ 1000000) (h : cs.toList = fl sz cell l) :
    Own (w.alloc (.cells cs e)) base e sz cell (.slice (some ⟨g, 0, none⟩) n n) l := by
  subst hg hn
  have k := World.ownsRow_lit (base := base) (e := e) (size := sz) w cs l.length hb (by unfold maxLen; omega) (by rw [← Array.length_toList, h, fl_len])
  unfold Own
  rw [← h]
  exact k
end Go.Proofs.Ytjebckehmmbkbaa
