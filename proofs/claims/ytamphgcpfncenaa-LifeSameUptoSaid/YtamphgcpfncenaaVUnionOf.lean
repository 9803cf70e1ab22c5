/- Plain facts on groups (union, find): no Go in sight. -/
/- The walks of package union: what each function answers. -/
/- The walks of union.Of and union.Many. -/
import Derived.RowKit
import Derived.Test.YtamphgcpfncenaaVSlice
import Derived.BigRegion
namespace Go.Proofs.Ytamphgcpfncenaa.UnionLaw
set_option linter.unusedSimpArgs false
set_option linter.unusedVariables false
/-- n times f -/
def it (f : Nat → Nat) : Nat → Nat → Nat
  | 0, i => i
  | m + 1, i => it f m (f i)
/-- the first of i's group, where f leads down -/
def root (f : Nat → Nat) (i : Nat) : Nat := it f i i

theorem it_fix {f : Nat → Nat} {i : Nat} (h : f i = i) : ∀ m, it f m i = i := by
  intro m
  induction m with
  | zero => rfl
  | succ m ih => rw [it, h]; exact ih
theorem it_more {f : Nat → Nat} (hf : ∀ i, f i ≤ i) : ∀ i m, i ≤ m → it f m i = it f i i := by
  intro i
  induction i using Nat.strongRecOn with
  | ind i ih =>
    intro m hm
    by_cases h : f i = i
    · rw [it_fix h, it_fix h]
    · have hlt : f i < i := by have := hf i; omega
      obtain ⟨m', rfl⟩ : ∃ m', m = m' + 1 := ⟨m - 1, by omega⟩
      obtain ⟨i', hi'⟩ : ∃ i', i = i' + 1 := ⟨i - 1, by omega⟩
      have e1 : it f i i = it f i' (f i) := by rw [hi']; rfl
      rw [e1, it, ih (f i) hlt m' (by omega), ih (f i) hlt i' (by omega)]
theorem root_step {f : Nat → Nat} (hf : ∀ i, f i ≤ i) (i : Nat) : root f (f i) = root f i := by
  by_cases h : f i = i
  · rw [h]
  · have hlt : f i < i := by have := hf i; omega
    obtain ⟨i', rfl⟩ : ∃ i', i = i' + 1 := ⟨i - 1, by omega⟩
    unfold root
    rw [it, it_more hf (f (i' + 1)) i' (by omega)]
theorem root_fix {f : Nat → Nat} {i : Nat} (h : f i = i) : root f i = i := it_fix h i
/-- what is carried along and stands at the fixed places is the root -/
theorem root_unique {f g : Nat → Nat} (hf : ∀ i, f i ≤ i) (h1 : ∀ i, g (f i) = g i) (h2 : ∀ i, f i = i → g i = i) (i : Nat) : root f i = g i := by
  induction i using Nat.strongRecOn with
  | ind i ih =>
    by_cases h : f i = i
    · rw [root_fix h, h2 i h]
    · rw [← root_step hf, ih (f i) (by have := hf i; omega), h1]
theorem root_le {f : Nat → Nat} (hf : ∀ i, f i ≤ i) (i : Nat) : root f i ≤ i := by
  induction i using Nat.strongRecOn with
  | ind i ih =>
    by_cases h : f i = i
    · rw [root_fix h]; exact Nat.le_refl _
    · rw [← root_step hf]
      have h1 := hf i
      have := ih (f i) (by omega)
      omega
theorem root_is {f : Nat → Nat} (hf : ∀ i, f i ≤ i) (i : Nat) : f (root f i) = root f i := by
  induction i using Nat.strongRecOn with
  | ind i ih =>
    by_cases h : f i = i
    · rw [root_fix h]; exact h
    · rw [← root_step hf]
      exact ih (f i) (by have := hf i; omega)
theorem root_root {f : Nat → Nat} (hf : ∀ i, f i ≤ i) (i : Nat) : root f (root f i) = root f i := root_fix (root_is hf i)

/-- one place turned -/
def upd (f : Nat → Nat) (k v : Nat) : Nat → Nat := fun i => if i = k then v else f i
theorem upd_le {f : Nat → Nat} (hf : ∀ i, f i ≤ i) {k v : Nat} (h : v ≤ k) : ∀ i, upd f k v i ≤ i := by
  intro i
  unfold upd
  split
  · omega
  · exact hf i
/-- a way cut short leads to where it led -/
theorem root_halve {f : Nat → Nat} (hf : ∀ i, f i ≤ i) (k i : Nat) : root (upd f k (f (f k))) i = root f i := by
  have h1 := hf k
  have h2 := hf (f k)
  refine root_unique (upd_le hf (by omega)) (fun j => ?_) (fun j hj => ?_) i
  · unfold upd
    split
    · rename_i e
      subst e
      rw [root_step hf, root_step hf]
    · exact root_step hf j
  · unfold upd at hj
    split at hj
    · rename_i e
      subst e
      exact root_fix (by omega)
    · exact root_fix hj
/-- two groups made one -/
theorem root_join {f : Nat → Nat} (hf : ∀ i, f i ≤ i) {ra rb : Nat} (ha : f ra = ra) (hb : f rb = rb) (i : Nat) :
    root (upd f (max ra rb) (min ra rb)) i = if root f i = max ra rb then min ra rb else root f i := by
  have hM : f (max ra rb) = max ra rb := by
    rcases Nat.le_total ra rb with h | h
    · rw [Nat.max_eq_right h]; exact hb
    · rw [Nat.max_eq_left h]; exact ha
  have hm : f (min ra rb) = min ra rb := by
    rcases Nat.le_total ra rb with h | h
    · rw [Nat.min_eq_left h]; exact ha
    · rw [Nat.min_eq_right h]; exact hb
  refine root_unique (g := fun i => if root f i = max ra rb then min ra rb else root f i) (upd_le hf (by omega)) (fun j => ?_) (fun j hj => ?_) i
  · show (if root f (upd f (max ra rb) (min ra rb) j) = _ then _ else _) = _
    by_cases e : j = max ra rb
    · subst e
      have : upd f (max ra rb) (min ra rb) (max ra rb) = min ra rb := by unfold upd; rw [if_pos rfl]
      rw [this, root_fix hm, root_fix hM, if_pos rfl]
      split <;> rfl
    · have : upd f (max ra rb) (min ra rb) j = f j := by unfold upd; rw [if_neg e]
      rw [this, root_step hf]
  · show (if root f j = _ then _ else _) = _
    by_cases e : j = max ra rb
    · have : upd f (max ra rb) (min ra rb) j = min ra rb := by unfold upd; rw [if_pos e]
      rw [this] at hj
      rw [e, root_fix hM, if_pos rfl]
      omega
    · have : upd f (max ra rb) (min ra rb) j = f j := by unfold upd; rw [if_neg e]
      rw [this] at hj
      rw [root_fix hj, if_neg e]

/-- the list as a map -/
def fn (L : List Nat) (i : Nat) : Nat := L.getD i i
/-- the list leads down -/
def Down (L : List Nat) : Prop := ∀ i, fn L i ≤ i
theorem fn_set (L : List Nat) (k v : Nat) (h : k < L.length) : fn (L.set k v) = upd (fn L) k v := by
  funext i
  unfold fn upd
  by_cases e : i = k
  · subst e
    simp [h]
  · rw [if_neg e]
    simp [show ¬ k = i from fun h => e h.symm]
theorem fn_of_lt {L : List Nat} {i : Nat} (h : i < L.length) : fn L i = L[i] := by simp [fn, h]
theorem fn_lt {L : List Nat} (hd : Down L) {i : Nat} (h : i < L.length) : fn L i < L.length := by have := hd i; omega

/-- the groups of the pairs: 'the same wherever each pair is the same' -/
def Inv (l : List (Nat × Nat)) (f : Nat → Nat) : Prop := (∀ p ∈ l, root f p.1 = root f p.2) ∧ ∀ (c : Nat → Nat), (∀ p ∈ l, c p.1 = c p.2) → ∀ i, c (root f i) = c i
theorem Inv.same {l l' : List (Nat × Nat)} {f f' : Nat → Nat} (hf : ∀ i, f i ≤ i) (hf' : ∀ i, f' i ≤ i) (h : Inv l f) (h' : Inv l' f') (hl : ∀ p, p ∈ l → p ∈ l' ∨ (p.2, p.1) ∈ l') (hl' : ∀ p, p ∈ l' → p ∈ l ∨ (p.2, p.1) ∈ l) (i : Nat) : root f i = root f' i := by
  have e1 : root f (root f' i) = root f i := h'.2 (root f) (fun p hp => by
    rcases hl' p hp with k | k
    · exact h.1 p k
    · exact (h.1 _ k).symm) i
  have e2 : root f' (root f i) = root f' i := h.2 (root f') (fun p hp => by
    rcases hl p hp with k | k
    · exact h'.1 p k
    · exact (h'.1 _ k).symm) i
  have l1 := root_le hf (root f' i)
  have l2 := root_le hf' (root f i)
  omega
theorem Inv.join {l : List (Nat × Nat)} {f : Nat → Nat} (hf : ∀ i, f i ≤ i) (h : Inv l f) (a b : Nat) : Inv (l ++ [(a, b)]) (upd f (max (root f a) (root f b)) (min (root f a) (root f b))) := by
  have hj := root_join hf (root_is hf a) (root_is hf b)
  refine ⟨fun p hp => ?_, fun c hc i => ?_⟩
  · rw [hj, hj]
    rcases List.mem_append.1 hp with hp | hp
    · rw [h.1 p hp]
    · simp only [List.mem_singleton] at hp
      subst hp
      dsimp only
      split <;> split <;> omega
  · have h1 := h.2 c (fun p hp => hc p (List.mem_append_left _ hp))
    have h2 : c a = c b := hc (a, b) (by simp)
    rw [hj]
    split
    · rename_i e
      have e1 := h1 a
      have e2 := h1 b
      have e3 := h1 i
      rcases Nat.le_total (root f a) (root f b) with hle | hle
      · rw [Nat.min_eq_left hle]
        rw [Nat.max_eq_right hle] at e
        rw [e] at e3
        omega
      · rw [Nat.min_eq_right hle]
        rw [Nat.max_eq_left hle] at e
        rw [e] at e3
        omega
    · exact h1 i
theorem inv_nil : Inv [] (fun i => i) := ⟨fun p hp => by simp at hp, fun c _ i => by rw [root_fix rfl]⟩
theorem Inv.congr {l : List (Nat × Nat)} {f f' : Nat → Nat} (h : Inv l f) (he : ∀ i, root f' i = root f i) : Inv l f' :=
  ⟨fun p hp => by rw [he, he]; exact h.1 p hp, fun c hc i => by rw [he]; exact h.2 c hc i⟩
end Go.Proofs.Ytamphgcpfncenaa.UnionLaw

namespace Go.Proofs.Ytamphgcpfncenaa.Union
open Go.RowKit Go.Proofs.Ytamphgcpfncenaa UnionLaw
set_option linter.unusedSimpArgs false
set_option linter.unusedVariables false

theorem infoInt : (Try.prog.info? 3).map (fun i => (i.zero, i.size, i.bytes)) = some (some (.int .i64 0), 1, 8) := by kernel_rfl

/-- the cells of a list of numbers -/
def nums (L : List Nat) : List Value := L.map fun (k : Nat) => Value.int .i64 (k : Int)
theorem oneCell_num (k : Int) : ∀ u ∈ [Value.int .i64 k], u.oneCell' = true := by intro u hu; simp at hu; subst hu; rfl

theorem cell_new1 (w : World) (u : Value) (t : TypeId) : ∀ (j : Nat) (x : Value), [u][j]? = some x → (w.alloc (.cells #[u] t)).cell? ((⟨w.heap.size, 0, none⟩ : Addr).add j) = some x := by
  intro j x hj
  match j, hj with
  | 0, hj => simp at hj; subst hj; simp [Addr.add]

theorem own_base {w : World} {base : Nat} {e : TypeId} {size n : Nat} {v : Value} {xs : List Value} (h : w.ownsRow base e size v n xs) : ∀ k, v.ownBlock = some k → base ≤ k := by
  intro k hk
  rcases h.2 with ⟨rfl, _⟩ | ⟨g', cap, cur, rfl, hg, _⟩
  · simp [Value.ownBlock] at hk
  · simp [Value.ownBlock] at hk
    omega
theorem own_form {w : World} {base : Nat} {e : TypeId} {size n : Nat} {v : Value} {xs : List Value} (h : w.ownsRow base e size v n xs) : ∃ A c, v = .slice A n c := by
  rcases h.2 with ⟨rfl, rfl⟩ | ⟨g', cap, cur, rfl, hg, _⟩
  · exact ⟨_, _, rfl⟩
  · exact ⟨_, _, rfl⟩
/-- a row's block is not a block of another element type -/
theorem own_ne {w : World} {base : Nat} {e t : TypeId} {size n g : Nat} {v : Value} {xs : List Value} {cs : Array Value} (h : w.ownsRow base e size v n xs) (hg : w.heap[g]? = some (.cells cs t (0, 0))) (hne : e ≠ t) : v.ownBlock ≠ some g := by
  rcases h.2 with ⟨rfl, _⟩ | ⟨g', cap, cur, rfl, _, hh, _⟩
  · simp [Value.ownBlock]
  · intro he
    have : g' = g := by simpa [Value.ownBlock] using he
    subst this
    rw [hg] at hh
    injection hh with hh
    injection hh with _ ht
    exact hne ht.symm

theorem own_some {w : World} {base : Nat} {e : TypeId} {size n : Nat} {v : Value} {xs : List Value} (h : w.ownsRow base e size v n xs) (hn : 0 < n) : ∃ S c, v = .slice (some ⟨S, 0, none⟩) n c ∧ base ≤ S ∧ S < w.heap.size ∧ n ≤ c := by
  rcases h.2 with ⟨rfl, rfl⟩ | ⟨g', cap, cur, rfl, hg, hh, hc, _⟩
  · omega
  · exact ⟨_, _, rfl, hg, lt_of_block hh, hc⟩
theorem nums_get {L : List Nat} {k : Nat} (h : k < L.length) : (nums L)[k]? = some (.int .i64 ((fn L k : Nat) : Int)) := by
  rw [fn_of_lt h]
  simp [nums, h]
theorem only_trans {a b c : World} {r : Option Nat} (h : a.grownBy b r) (k : b.grownBy c r) : a.grownBy c r :=
  ⟨k.os.trans h.os, k.tape.trans h.tape, k.output.trans h.output, Nat.le_trans h.size k.size, fun i hi hne => (k.block i (Nat.lt_of_lt_of_le hi h.size) hne).trans (h.block i hi hne)⟩

theorem only_set (w : World) (p : Addr) (u : Value) : w.grownBy (w.setCell p u) (some p.block) :=
  ⟨rfl, rfl, rfl, by simp [World.setCell], fun k _ hne => Below.heap_setCell _ _ _ _ (fun e => hne (by rw [e]))⟩
theorem only_drew {a w : World} {row : Option Nat} (h : a.grownBy w row) : a.grownBy w.drew row := ⟨h.os, h.tape, h.output, h.size, h.block⟩
theorem ne_cast (a b : Nat) : ((a : Int) != (b : Int)) = (a != b) := by
  rw [Bool.eq_iff_iff, bne_iff_ne, bne_iff_ne]
  omega
end Go.Proofs.Ytamphgcpfncenaa.Union

namespace Go.Proofs.Ytamphgcpfncenaa.Union
open Go.RowKit Go.Proofs.Ytamphgcpfncenaa UnionLaw
set_option linter.unusedSimpArgs false
set_option linter.unusedVariables false

/-- the pairs as places -/
def pn (l : List (Int × Int)) : List (Nat × Nat) := l.map fun p => (p.1.toNat, p.2.toNat)
/-- the first of each -/
def outL (f : Nat → Nat) (n : Nat) : List Int := (List.range n).map fun i => ((root f i : Nat) : Int)
theorem outL_len (f : Nat → Nat) (n : Nat) : (outL f n).length = n := by simp [outL]
theorem outL_succ (f : Nat → Nat) (n : Nat) : outL f (n + 1) = outL f n ++ [((root f n : Nat) : Int)] := by simp [outL, List.range_succ]
/-- all pairs within the numbers -/
def InR (n : Nat) (l : List (Int × Int)) : Prop := ∀ p ∈ l, 0 ≤ p.1 ∧ p.1 < n ∧ 0 ≤ p.2 ∧ p.2 < n
def SomeOf (n : Nat) (l : List (Int × Int)) (w : World) (e : Ending) (w' : World) : Prop :=
  ∃ f A c, (∀ i, f i ≤ i) ∧ Inv (pn l) f ∧ e = .returned (.tuple #[.slice A n c, .int .i64 0]) ∧ Own w' w.heap.size 3 1 ci (.slice A n c) (outL f n) ∧ Below w.heap.size w w'

theorem Sl.atP {w : World} {B : Nat} {A : Option Addr} {l : List (Int × Int)} (h : Sl w B 2 cp A l) {k : Nat} (hk : k < l.length) :
    ∃ b off f t, A = some ⟨b, off, none⟩ ∧ b < B ∧ l[k] = (f, t) ∧ w.cell? ⟨b, off + k * 2, none⟩ = some (.int .i64 f) ∧ w.cell? ⟨b, off + k * 2 + 1, none⟩ = some (.int .i64 t) := by
  obtain ⟨b, off, hA, hlt, hc⟩ := h (by omega)
  exact ⟨b, off, _, _, hA, hlt, rfl, hc k hk 0 (by omega), hc k hk 1 (by omega)⟩
theorem range_fn (n i : Nat) : fn (List.range n) i = i := by
  unfold fn
  rcases Nat.lt_or_ge i n with h | h
  · simp [h]
  · simp [h]
theorem down_range (n : Nat) : Down (List.range n) := fun i => by rw [range_fn]; exact Nat.le_refl _
theorem inv_range (n : Nat) : Inv [] (fn (List.range n)) := inv_nil.congr fun i => by rw [root_fix (range_fn n i), root_fix rfl]

/-- the error of what is not right -/
def oe (n : Int) (l : List (Int × Int)) : Int := if n < 0 ∨ 64 < n then 1 else if 600 < l.length then 2 else 1
theorem oe_ne (n : Int) (l : List (Int × Int)) : (oe n l != 0) = true ∧ (oe n l == 0) = false := by
  unfold oe
  repeat' split
  all_goals exact ⟨rfl, rfl⟩

/-- how many stand for themselves -/
def many (f : Nat → Nat) (n : Nat) : Nat := ((List.range n).filter fun i => root f i == i).length
theorem many_succ (f : Nat → Nat) (n : Nat) : many f (n + 1) = many f n + if root f n = n then 1 else 0 := by
  unfold many
  rw [List.range_succ, List.filter_append, List.length_append]
  by_cases h : root f n = n <;> simp [List.filter_cons, h]
theorem many_le (f : Nat → Nat) (n : Nat) : many f n ≤ n := by
  unfold many
  exact Nat.le_trans (List.length_filter_le _ _) (by simp)
def SomeMany (n : Nat) (l : List (Int × Int)) (w : World) (e : Ending) (w' : World) : Prop :=
  ∃ f, (∀ i, f i ≤ i) ∧ Inv (pn l) f ∧ e = .returned (.tuple #[.int .i64 (many f n : Nat), .int .i64 0]) ∧ Below w.heap.size w w'
theorem outL_get {f : Nat → Nat} {n k : Nat} (h : k < (outL f n).length) : (outL f n)[k] = ((root f k : Nat) : Int) := by simp [outL]

end Go.Proofs.Ytamphgcpfncenaa.Union
