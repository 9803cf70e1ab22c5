/- A table of rows of n cells each, as a program's own memory. -/
import Derived.Test.YtjhnlkmdkjlkdaaVNetTurn
import Derived.Test.YtjhnlkmdkjlkdaaVRowSet
import Derived.Test.YtjhnlkmdkjlkdaaVFloydLaw
namespace Go.Proofs.Ytjhnlkmdkjlkdaa.Mat
open Go.RowKit Go.Proofs.Ytjhnlkmdkjlkdaa NetLaw FloydLaw Go.Proofs.Ytjhnlkmdkjlkdaa.Net
set_option linter.unusedSimpArgs false
set_option linter.unusedVariables false

/-- S the table's block, of n rows the first m laid: row v in block F v, n cells, cell j reads q (M v j) -/
structure Mt {T : Type} (w : World) (tr te : TypeId) (q : T → Value) (base S n m : Nat) (F : Nat → Nat) (M : Mx T) : Prop where
  lo : base ≤ S
  blk : ∃ cs : Array Value, w.heap[S]? = some (.cells cs tr (0, 0)) ∧ cs.size = n ∧ (∀ v, v < n → ∃ u, cs[v]? = some u) ∧ ∀ v, v < m → cs[v]? = some (.slice (some ⟨F v, 0, none⟩) n n)
  row : ∀ v, v < m → base ≤ F v ∧ ∃ cs : Array Value, w.heap[F v]? = some (.cells cs te (0, 0)) ∧ cs.size = n ∧ ∀ j, j < n → cs[j]? = some (q (M v j))
  inj : ∀ u v, u < m → v < m → F u = F v → u = v
  ne : tr ≠ te
  mn : m ≤ n
section
variable {T : Type} {w w4 : World} {tr te : TypeId} {q : T → Value} {base S n m : Nat} {F : Nat → Nat} {M : Mx T}
theorem Mt.lt (h : Mt w tr te q base S n m F M) : S < w.heap.size := by obtain ⟨cs, hb, _⟩ := h.blk; exact lt_of_block hb
theorem Mt.rlt (h : Mt w tr te q base S n m F M) {v : Nat} (hv : v < m) : F v < w.heap.size := by obtain ⟨_, cs, hb, _⟩ := h.row v hv; exact lt_of_block hb
theorem Mt.apart (h : Mt w tr te q base S n m F M) {v : Nat} (hv : v < m) : F v ≠ S := fun e => by
  obtain ⟨cs, hb, _⟩ := h.blk
  obtain ⟨_, cs', hb', _⟩ := h.row v hv
  rw [e, hb] at hb'
  injection hb' with hb'
  injection hb' with _ ht
  exact h.ne ht
theorem Mt.head (h : Mt w tr te q base S n m F M) {v : Nat} (hv : v < m) : w.cell? ⟨S, v, none⟩ = some (.slice (some ⟨F v, 0, none⟩) n n) := by
  obtain ⟨cs, hb, _, _, hc⟩ := h.blk
  exact (blk_cell hb v).trans (hc v hv)
theorem Mt.there (h : Mt w tr te q base S n m F M) {v : Nat} (hv : v < n) : (∃ u, w.cell? ⟨S, v, none⟩ = some u) ∧ w.frozen? ⟨S, v, none⟩ = false := by
  obtain ⟨cs, hb, _, hu, _⟩ := h.blk
  obtain ⟨u, hu⟩ := hu v hv
  exact ⟨⟨u, (blk_cell hb v).trans hu⟩, blk_free hb v⟩
theorem Mt.cell (h : Mt w tr te q base S n m F M) {v j : Nat} (hv : v < m) (hj : j < n) : w.cell? ⟨F v, j, none⟩ = some (q (M v j)) ∧ w.frozen? ⟨F v, j, none⟩ = false := by
  obtain ⟨_, cs, hb, _, hc⟩ := h.row v hv
  exact ⟨(blk_cell hb j).trans (hc j hj), blk_free hb j⟩
theorem Mt.congr {M' : Mx T} (h : Mt w tr te q base S n m F M) (he : ∀ v j, v < m → j < n → M v j = M' v j) : Mt w tr te q base S n m F M' :=
  ⟨h.lo, h.blk, fun v hv => by
    obtain ⟨a, cs, b, c, d⟩ := h.row v hv
    exact ⟨a, cs, b, c, fun j hj => by rw [d j hj, he v j hv hj]⟩, h.inj, h.ne, h.mn⟩
theorem Mt.base_ {base' : Nat} (h : Mt w tr te q base S n m F M) (hb : base' ≤ base) : Mt w tr te q base' S n m F M :=
  ⟨Nat.le_trans hb h.lo, h.blk, fun v hv => by obtain ⟨a, r⟩ := h.row v hv; exact ⟨Nat.le_trans hb a, r⟩, h.inj, h.ne, h.mn⟩
theorem Mt.keep (h : Mt w tr te q base S n m F M) (hb : Below w.heap.size w w4) : Mt w4 tr te q base S n m F M := by
  obtain ⟨cs, b, c, d, e⟩ := h.blk
  exact ⟨h.lo, ⟨cs, blk_below b hb (lt_of_block b), c, d, e⟩, fun v hv => by
    obtain ⟨a, cs, b, r⟩ := h.row v hv
    exact ⟨a, cs, blk_below b hb (lt_of_block b), r⟩, h.inj, h.ne, h.mn⟩
theorem Mt.alloc (h : Mt w tr te q base S n m F M) (o : Obj) : Mt (w.alloc o) tr te q base S n m F M := h.keep ((Below.refl _ _).alloc (Nat.le_refl _) _)
theorem Mt.drewN (h : Mt w tr te q base S n m F M) (k : Nat) : Mt (w.drewN k) tr te q base S n m F M := h.keep (below_drewN (Below.refl _ _) k)
theorem Mt.drew (h : Mt w tr te q base S n m F M) : Mt w.drew tr te q base S n m F M := ⟨h.lo, h.blk, h.row, h.inj, h.ne, h.mn⟩
theorem Mt.set (h : Mt w tr te q base S n m F M) {v j : Nat} (hv : v < m) (hj : j < n) (x : T) : Mt (w.setCell ⟨F v, j, none⟩ (q x)) tr te q base S n m F (set2 M v j x) := by
  obtain ⟨cs, b, c, d, e⟩ := h.blk
  refine ⟨h.lo, ⟨cs, blk_far b (by exact fun e => h.apart hv e.symm) _, c, d, e⟩, fun u hu => ?_, h.inj, h.ne, h.mn⟩
  obtain ⟨a, cs, b, c, d⟩ := h.row u hu
  by_cases huv : u = v
  · subst huv
    refine ⟨a, cs.setIfInBounds j (q x), blk_set b j _, by simpa using c, fun i hi => ?_⟩
    by_cases hij : i = j
    · subst hij
      rw [Array.getElem?_setIfInBounds_self_of_lt (by omega)]
      simp [set2]
    · rw [Array.getElem?_setIfInBounds_ne (fun x => hij x.symm), d i hi]
      simp [set2, hij]
  · refine ⟨a, cs, blk_far b (by exact fun e => huv (h.inj u v hu hv e)) _, c, fun i hi => ?_⟩
    rw [d i hi]
    simp [set2, huv]
/-- a row more -/
theorem Mt.add (h : Mt w tr te q base S n m F M) (hm : m < n) (hb : base ≤ w.heap.size) (z : T) (cs : Array Value) (hcs : cs.size = n) (hz : ∀ j, j < n → cs[j]? = some (q z)) {g : Nat} (hg : w.heap.size = g) :
    Mt ((w.setCell ⟨S, m, none⟩ (.slice (some ⟨g, 0, none⟩) n n)).alloc (.cells cs te)) tr te q base S n (m + 1) (fun v => if v = m then g else F v) (fun a b => if a = m then z else M a b) := by
  subst hg
  obtain ⟨hs, b, c, d, e⟩ := h.blk
  have hl := h.lt
  have hnew := heap_alloc_new (w.setCell ⟨S, m, none⟩ (.slice (some ⟨w.heap.size, 0, none⟩) n n)) (.cells cs te)
  have hsz : (w.setCell ⟨S, m, none⟩ (.slice (some ⟨w.heap.size, 0, none⟩) n n)).heap.size = w.heap.size := by simp [World.setCell]
  rw [hsz] at hnew
  refine ⟨h.lo, ⟨hs.setIfInBounds m (.slice (some ⟨w.heap.size, 0, none⟩) n n), blk_alloc (blk_set b m _) _, by simpa using c, fun v hv => ?_, fun v hv => ?_⟩, fun v hv => ?_, fun u v hu hv he => ?_, h.ne, hm⟩
  · by_cases hvm : v = m
    · subst hvm
      exact ⟨_, Array.getElem?_setIfInBounds_self_of_lt (by omega)⟩
    · rw [Array.getElem?_setIfInBounds_ne (fun x => hvm x.symm)]
      exact d v hv
  · by_cases hvm : v = m
    · subst hvm
      rw [Array.getElem?_setIfInBounds_self_of_lt (by omega), if_pos rfl]
    · rw [Array.getElem?_setIfInBounds_ne (fun x => hvm x.symm), if_neg hvm]
      exact e v (by omega)
  · by_cases hvm : v = m
    · subst hvm
      simp only [if_true]
      exact ⟨hb, cs, hnew, hcs, hz⟩
    · simp only [if_neg hvm]
      obtain ⟨a, cs', b', c', d'⟩ := h.row v (by omega)
      exact ⟨a, cs', blk_alloc (blk_far b' (by exact h.apart (by omega)) _) _, c', d'⟩
  · by_cases hu' : u = m <;> by_cases hv' : v = m
    · omega
    · have := h.rlt (v := v) (by omega)
      simp only [if_pos hu', if_neg hv'] at he
      omega
    · have := h.rlt (v := u) (by omega)
      simp only [if_pos hv', if_neg hu'] at he
      omega
    · simp only [if_neg hu', if_neg hv'] at he
      exact h.inj u v (by omega) (by omega) he
theorem Mt.start (w : World) (tr te : TypeId) (q : T → Value) (base n : Nat) (cs : Array Value) (hcs : cs.size = n) (hu : ∀ v, v < n → ∃ u, cs[v]? = some u) (hne : tr ≠ te) (F : Nat → Nat) (M : Mx T) {S : Nat} (hS : w.heap.size = S) (hb : base ≤ S) :
    Mt (w.alloc (.cells cs tr)) tr te q base S n 0 F M := by
  subst hS
  exact ⟨hb, ⟨cs, heap_alloc_new w _, hcs, hu, fun v hv => by omega⟩, fun v hv => by omega, fun u v hu => by omega, hne, Nat.zero_le _⟩
theorem made_get (z : Value) (n v : Nat) (hv : v < n) : (madeCells #[z] n)[v]? = some z := by simp [madeCells, hv, Nat.mod_one]
theorem made_size (z : Value) (n : Nat) : (madeCells #[z] n).size = n := by simp [madeCells]
end
theorem fill_row {T : Type} (none zero self : T) (n k : Nat) (v j : Nat) (hj : j < n) : set2 (fun x y => if x = k then (if y < n then none else zero) else ini none self x y) k k self v j = ini none self v j := by
  unfold set2 ini
  by_cases e1 : v = k
  · subst e1
    by_cases e2 : j = v
    · subst e2; simp
    · rw [if_neg (fun h => e2 h.2)]
      dsimp only
      rw [if_pos rfl, if_pos hj, if_neg (fun h => e2 h.symm)]
  · rw [if_neg (fun h => e1 h.1)]
    dsimp only
    rw [if_neg e1]
end Go.Proofs.Ytjhnlkmdkjlkdaa.Mat
