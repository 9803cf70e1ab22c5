/- The walk of heap.Sort. -/
import Derived.Test.YtjhnlkmdkjlkdaaHeapPop
import Derived.Test.YtjhnlkmdkjlkdaaHeapLess
namespace Go.Proofs.Ytjhnlkmdkjlkdaa.Heap
open Go.RowKit Go.Proofs.Ytjhnlkmdkjlkdaa HeapLaw Go.Proofs.Ytjhnlkmdkjlkdaa.Net
set_option linter.unusedSimpArgs false
set_option linter.unusedVariables false

/-- in order -/
def Srt (L : List Pop) : Prop := L.Pairwise fun a b => ltP b a = false
theorem srt_unique {L M : List Pop} (hL : Srt L) (hM : Srt M) (h : L.Perm M) : L = M :=
  h.eq_of_pairwise (fun a b _ _ h1 h2 => ltP_anti h2 h1) hL hM
theorem srt_snoc {O : List Pop} {a : Pop} (h : Srt O) (ha : ∀ x ∈ O, ltP a x = false) : Srt (O ++ [a]) := by
  unfold Srt at *
  rw [List.pairwise_append]
  exact ⟨h, List.pairwise_singleton _ _, fun x hx y hy => by rw [List.mem_singleton] at hy; subst hy; exact ha x hx⟩
/-- one element of a slice of pairs -/
theorem sl_atP {w : World} {B : Nat} {A : Option Addr} {l : List Pop} (h : Sl w B 2 cp A l) {k : Nat} (hk : k < l.length) :
    ∃ b off f t, A = some ⟨b, off, none⟩ ∧ b < B ∧ l[k] = (f, t) ∧ w.cell? ⟨b, off + k * 2, none⟩ = some (.int .i64 f) ∧ w.cell? ⟨b, off + k * 2 + 1, none⟩ = some (.int .i64 t) := by
  obtain ⟨b, off, hA, hlt, hc⟩ := h (by omega)
  exact ⟨b, off, _, _, hA, hlt, rfl, hc k hk 0 (by omega), hc k hk 1 (by omega)⟩
theorem Own_kp {α : Type} {sz : Nat} {cell : α → Nat → Value} {w w' : World} {base : Nat} {e : TypeId} {v : Value} {l : List α} {H : Nat} {row : Option Nat} (h : Own w base e sz cell v l) (hk : Kp w w' H row) (hn : ∀ g, v.ownBlock = some g → g ≠ H ∧ row ≠ some g) : Own w' base e sz cell v l := by
  refine ⟨h.1, ?_⟩
  rcases h.2 with h1 | ⟨g, cap, cur, rfl, hg, hh, r⟩
  · exact .inl h1
  · exact .inr ⟨g, cap, cur, rfl, hg, (hk.block g (lt_of_block hh) (hn g rfl).1 (fun e => (hn g rfl).2 e.symm)).trans hh, r⟩
theorem HeapAt.grown {w w' : World} {base H : Nat} {fn : Value} {A : Option Addr} {n c : Nat} {L : List Pop} {row : Option Nat} (h : HeapAt w base H fn A n c L) (hg : w.grownBy w' row) (hnH : row ≠ some H) (hnS : ∀ S, (Value.slice A n c).ownBlock = some S → row ≠ some S) : HeapAt w' base H fn A n c L := by
  refine ⟨h.hb, blk_grown h.blk hg hnH, h.own.kept hg ?_, h.len⟩
  cases hb : (Value.slice A n c).ownBlock with
  | none => exact .inl rfl
  | some S => exact .inr (fun e => hnS S hb e.symm)
theorem ob (A : Option Addr) (n m c : Nat) : (Value.slice A n c).ownBlock = (Value.slice A m c).ownBlock := by cases A <;> rfl
/-- what Sort answers -/
def SortSays (l : List Pop) (w : World) (e : Ending) (w' : World) : Prop :=
  ∃ A c L, e = .returned (.slice A l.length c) ∧ Own w' w.heap.size 140 2 cp (.slice A l.length c) L ∧ L.Perm l ∧ Srt L ∧ Below w.heap.size w w'
/-- what lies between the two loops -/
structure Mid (l : List Pop) (base : Nat) (w : World) (H : Nat) (A : Option Addr) (m c : Nat) (L : List Pop) (A2 : Option Addr) (j c2 : Nat) (O : List Pop) : Prop where
  heap : HeapAt w base H (fnOf 95) A m c L
  hp : Hp d0 ltP L
  own : Own w base 140 2 cp (.slice A2 j c2) O
  len : O.length = j
  perm : (O ++ L).Perm l
  srt : Srt O
  le : ∀ a ∈ O, ∀ b ∈ L, ltP b a = false
  ne : ∀ g, (Value.slice A2 j c2).ownBlock = some g → g ≠ H ∧ (Value.slice A m c).ownBlock ≠ some g

end Go.Proofs.Ytjhnlkmdkjlkdaa.Heap
