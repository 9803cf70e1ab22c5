/- heap.Less, heap.New, Heap.Len at api.Pop. -/
/- The walk of heap.Sort. -/
import Derived.Test.YtjebckehmmbkbaaVHeapWalks
import Derived.Test.YtjebckehmmbkbaaVQueue
import Derived.Test.YtjebckehmmbkbaaVHeapPop
namespace Go.Proofs.Ytjebckehmmbkbaa.Heap
open Go.RowKit Go.Proofs.Ytjebckehmmbkbaa HeapLaw Go.Proofs.Ytjebckehmmbkbaa.Net
set_option linter.unusedSimpArgs false
set_option linter.unusedVariables false

/-- the order of keys, then of numbers -/
def ltP (a b : Pop) : Bool := decide (a.1 < b.1 ∨ a.1 = b.1 ∧ a.2 < b.2)
theorem ltP_ord : HeapLaw.Ord ltP := ⟨fun {a b} h => by simp only [ltP, decide_eq_true_eq, decide_eq_false_iff_not] at h ⊢; omega, fun {a b c} h1 h2 => by simp only [ltP, decide_eq_false_iff_not] at h1 h2 ⊢; omega⟩
theorem ltP_anti {a b : Pop} (h1 : ltP a b = false) (h2 : ltP b a = false) : a = b := by
  simp only [ltP, decide_eq_false_iff_not] at h1 h2
  exact Prod.ext (by omega) (by omega)

set_option maxHeartbeats 1000000 in
theorem less_any : LessOk 31 ltP := by
  intro W a b x y
  have hB : Below W.heap.size W ((W.alloc (.cells #[.int .i64 a, .int .i64 b] 77)).alloc (.cells #[.int .i64 x, .int .i64 y] 77)) := ((Below.refl _ _).alloc (Nat.le_refl _) _).alloc (by simp) _
  by_cases h1 : a < x
  · have hf : ltP (a, b) (x, y) = true := by simp only [ltP, decide_eq_true_eq]; omega
    rw [hf]
    go_enter Try.func31, Try.ntmps31
    go_wp2
    go_ret
    exact ⟨by first | trivial | rfl, hB⟩
  · have hd : decide (a < x) = false := by simp; omega
    by_cases h2 : a = x
    · subst h2
      have hf : ltP (a, b) (a, y) = decide (b < y) := by simp [ltP]
      rw [hf]
      clear h1
      go_enter Try.func31, Try.ntmps31
      go_wp2
      go_ret
      exact ⟨by first | trivial | simp, hB⟩
    · have hd2 : (a == x) = false := by rw [beq_eq_false_iff_ne]; exact h2
      have hf : ltP (a, b) (x, y) = false := by simp only [ltP, decide_eq_false_iff_not]; omega
      rw [hf]
      clear h1 h2
      go_enter Try.func31, Try.ntmps31
      go_wp2
      go_ret
      exact ⟨by first | trivial | rfl, hB⟩
theorem new_any (k : FuncId) (w : World) : Calls Try.prog 30 #[fnOf k] w fun e w' => ∃ H, e = .returned (.pointer (some ⟨H, 0, none⟩)) ∧ HeapAt w' w.heap.size H (fnOf k) none 0 0 [] ∧ Below w.heap.size w w' := by
  unfold fnOf
  go_enter Try.func30, Try.ntmps30
  go_wp2
  refine bodyPost_ret (v := .pointer (some ⟨w.heap.size, 0, none⟩)) (by simp [results, Try.results30, go_sem]) rfl ?_
  exact ⟨w.heap.size, rfl, ⟨Nat.le_refl _, heap_alloc_new _ _, Own.nil_, rfl⟩, (Below.refl _ _).alloc (Nat.le_refl _) _⟩
theorem len_any {base H : Nat} {fn : Value} {A : Option Addr} {n c : Nat} {L : List Pop} (w : World) (h : HeapAt w base H fn A n c L) : Calls Try.prog 33 #[.pointer (some ⟨H, 0, none⟩)] w fun e w' => e = .returned (.int .i64 n) ∧ w' = w := by
  have c1 := blk_cell h.blk 1
  simp only [List.getElem?_toArray, List.getElem?_cons_zero, List.getElem?_cons_succ] at c1
  clear h
  go_enter Try.func33, Try.ntmps33
  go_wp2
  exact bodyPost_ret (v := .int .i64 n) (by simp [results, Try.results33, go_sem]) rfl ⟨rfl, rfl⟩
end Go.Proofs.Ytjebckehmmbkbaa.Heap

namespace Go.Proofs.Ytjebckehmmbkbaa.Heap
open Go.RowKit Go.Proofs.Ytjebckehmmbkbaa HeapLaw Go.Proofs.Ytjebckehmmbkbaa.Net
set_option linter.unusedSimpArgs false
set_option linter.unusedVariables false

/-- in order -/
def Srt (L : List Pop) : Prop := L.Pairwise fun a b => ltP b a = false
theorem srt_unique {L M : List Pop} (hL : Srt L) (hM : Srt M) (h : L.Perm M) : L = M :=
  h.eq_of_pairwise (fun a b _ _ h1 h2 => ltP_anti h2 h1) hL hM
theorem srt_snoc {O : List Pop} {a : Pop} (h : Srt O) (ha : ∀ x ∈ O, ltP a x = false) : Srt (O ++ [a]) := by
  unfold Srt at *
  rw [List.pairwise_append]
  exact ⟨h, List.pairwise_singleton _ _, fun x hx y hy => by rw [List.mem_singleton] at hy; subst hy; exact ha x hx⟩
/-- one element of a slice of pairs -/
theorem sl_atP {w : World} {B : Nat} {A : Option Addr} {l : List Pop} (h : Sl w B 2 cp A l) {k : Nat} (hk : k < l.length) :
    ∃ b off f t, A = some ⟨b, off, none⟩ ∧ b < B ∧ l[k] = (f, t) ∧ w.cell? ⟨b, off + k * 2, none⟩ = some (.int .i64 f) ∧ w.cell? ⟨b, off + k * 2 + 1, none⟩ = some (.int .i64 t) := by
  obtain ⟨b, off, hA, hlt, hc⟩ := h (by omega)
  exact ⟨b, off, _, _, hA, hlt, rfl, hc k hk 0 (by omega), hc k hk 1 (by omega)⟩
theorem Own_kp {α : Type} {sz : Nat} {cell : α → Nat → Value} {w w' : World} {base : Nat} {e : TypeId} {v : Value} {l : List α} {H : Nat} {row : Option Nat} (h : Own w base e sz cell v l) (hk : Kp w w' H row) (hn : ∀ g, v.ownBlock = some g → g ≠ H ∧ row ≠ some g) : Own w' base e sz cell v l := by
  refine ⟨h.1, ?_⟩
  rcases h.2 with h1 | ⟨g, cap, cur, rfl, hg, hh, r⟩
  · exact .inl h1
  · exact .inr ⟨g, cap, cur, rfl, hg, (hk.block g (lt_of_block hh) (hn g rfl).1 (fun e => (hn g rfl).2 e.symm)).trans hh, r⟩
theorem HeapAt.grown {w w' : World} {base H : Nat} {fn : Value} {A : Option Addr} {n c : Nat} {L : List Pop} {row : Option Nat} (h : HeapAt w base H fn A n c L) (hg : w.grownBy w' row) (hnH : row ≠ some H) (hnS : ∀ S, (Value.slice A n c).ownBlock = some S → row ≠ some S) : HeapAt w' base H fn A n c L := by
  refine ⟨h.hb, blk_grown h.blk hg hnH, h.own.kept hg ?_, h.len⟩
  cases hb : (Value.slice A n c).ownBlock with
  | none => exact .inl rfl
  | some S => exact .inr (fun e => hnS S hb e.symm)
theorem ob (A : Option Addr) (n m c : Nat) : (Value.slice A n c).ownBlock = (Value.slice A m c).ownBlock := by cases A <;> rfl
/-- what Sort answers -/
def SortSays (l : List Pop) (w : World) (e : Ending) (w' : World) : Prop :=
  ∃ A c L, e = .returned (.slice A l.length c) ∧ Own w' w.heap.size 77 2 cp (.slice A l.length c) L ∧ L.Perm l ∧ Srt L ∧ Below w.heap.size w w'
/-- what lies between the two loops -/
structure Mid (l : List Pop) (base : Nat) (w : World) (H : Nat) (A : Option Addr) (m c : Nat) (L : List Pop) (A2 : Option Addr) (j c2 : Nat) (O : List Pop) : Prop where
  heap : HeapAt w base H (fnOf 31) A m c L
  hp : Hp d0 ltP L
  own : Own w base 77 2 cp (.slice A2 j c2) O
  len : O.length = j
  perm : (O ++ L).Perm l
  srt : Srt O
  le : ∀ a ∈ O, ∀ b ∈ L, ltP b a = false
  ne : ∀ g, (Value.slice A2 j c2).ownBlock = some g → g ≠ H ∧ (Value.slice A m c).ownBlock ≠ some g

end Go.Proofs.Ytjebckehmmbkbaa.Heap
