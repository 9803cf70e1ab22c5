/- Arguments opened: slices of ints and of structs of ints, nets, grids. -/
import Derived.Test.YtjebckehmmbkbaaVSlice
import Derived.Deep.Slices
import Derived.Deep.Fields
import Derived.SizedLaws
namespace Go.Proofs.Ytjebckehmmbkbaa
open Go.RowKit Go.ChangeShapes Go.WideShapes Go.Joins Go.Deep
set_option linter.unusedSimpArgs false
set_option linter.unusedVariables false

/-- a datum of n elements -/
def LenD {H : Type} (d : DataW H) (n : Nat) : Prop := (d = .nil ∧ n = 0) ∨ ∃ elems spare, d = .slice elems spare ∧ elems.length = n
/-- a number of 64 bits -/
def I64 (z : Int) : Prop := -9223372036854775808 ≤ z ∧ z ≤ 9223372036854775807

theorem lt_of_cell {w : World} {b o : Nat} {v : Value} (h : w.cell? ⟨b, o, none⟩ = some v) : b < w.heap.size := by
  rcases Nat.lt_or_ge b w.heap.size with hb | hb
  · exact hb
  · exfalso
    unfold World.cell? at h
    rw [Array.getElem?_eq_none hb] at h
    cases h

section
variable {H : Type} {enc : TypeId × Value → H} {P : Program} {w : World} {base : Nat} {spare : Nat → Bool} {held : Bool}

/-- a row of structs of ints, cell by cell -/
theorem open_row {t e : TypeId} {fs : Array Field} {fuel : Nat} {v : Value} {x : DataW H × List MemPlace} (ht : P.underlying t = some (.slice e)) (he : P.underlying e = some (.struct fs))
    (hone : oneCellFields P fs = true) (hC : P.cellsOf e = fs.size) (hint : ∀ (j : Nat) (f : Field), fs[j]? = some f → P.underlying f.type = some (.int .i64)) (h : DataW.trod enc P w base spare held fuel t [v] = some x) :
    ∃ (A : Option Addr) (len cap : Nat) (g : Nat → Nat → Int), v = .slice A len cap ∧ len ≤ cap ∧ cap ≤ maxLen ∧ LenD x.1 len ∧ (A = none → len = 0 ∧ cap = 0) ∧
      ∀ ad, A = some ad → ∀ i, i < len → ∀ j, j < fs.size → w.cell? (ad.add (i * fs.size + j)) = some (.int .i64 (g i j)) ∧ I64 (g i j) := by
  rcases open_slice ht h with ⟨h0, h1⟩ | ⟨a, len, cap, m, n, D, Pl, hcs, hb, hl, hm, hmm, hx, hi⟩
  · injection h0 with h0 _
    subst h0 h1
    exact ⟨none, 0, 0, fun _ _ => 0, rfl, Nat.le_refl _, Nat.zero_le _, .inl ⟨rfl, rfl⟩, fun _ => ⟨rfl, rfl⟩, fun ad hA => by cases hA⟩
  · injection hcs with hcs _
    subst hcs
    have hlm : len ≤ m := by rw [hmm]; split <;> omega
    have hex : ∀ i, ∃ gi : Nat → Int, i < len → ∀ j, j < fs.size → w.cell? (a.add (i * fs.size + j)) = some (.int .i64 (gi j)) ∧ I64 (gi j) := by
      intro i
      by_cases hil : i < len
      · obtain ⟨cs', hc, ht'⟩ := hi i (by omega)
        rw [hC] at hc
        obtain ⟨ys, n', hn', hy, hlen, hyl, hf⟩ := DataW.trod_struct he ht'
        obtain ⟨_, hcl, hat⟩ := World.cells?_some hc
        have hexj : ∀ j, ∃ z : Int, j < fs.size → w.cell? (a.add (i * fs.size + j)) = some (.int .i64 z) ∧ I64 z := by
          intro j
          by_cases hj : j < fs.size
          · have hfj : fs[j]? = some fs[j] := Array.getElem?_eq_getElem hj
            obtain ⟨ho, hk⟩ := hone_of hone j _ hfj
            have hcell := hat j hj
            have hv : cs'[j]? = some (cs'[j]'(by omega)) := List.getElem?_eq_getElem (by omega)
            have h1 := hf j _ hfj
            rw [ho, hk] at h1
            have hone' : (cs'.drop j).take 1 = [cs'[j]'(by omega)] := by
              rw [List.drop_eq_getElem_cons (by omega)]
              rfl
            rw [hone'] at h1
            have hys : ys[j]? = some (ys[j]'(by omega)) := List.getElem?_eq_getElem (by omega)
            rw [hys] at h1
            obtain ⟨z, e0, _, wz⟩ := DataW.trod_int (hint j _ hfj) h1
            injection e0 with e0 _
            refine ⟨z, fun _ => ⟨?_, wf_bd wz⟩⟩
            rw [← Go.Deep.add_add, hcell, hv, e0]
          · exact ⟨0, fun hh => absurd hh hj⟩
        exact ⟨fun j => (hexj j).choose, fun _ j hj => (hexj j).choose_spec hj⟩
      · exact ⟨fun _ => 0, fun hh => absurd hh hil⟩
    refine ⟨some a, len, cap, fun i => (hex i).choose, rfl, hl, hm, ?_, fun hA => (by cases hA), fun ad hA i hil j hj => ?_⟩
    · rw [hx]
      exact .inr ⟨_, _, rfl, by simp⟩
    · injection hA with hA
      subst hA
      exact (hex i).choose_spec hil j hj

/-- a row of ints, cell by cell -/
theorem open_rowI {t e : TypeId} {fuel : Nat} {v : Value} {x : DataW H × List MemPlace} (ht : P.underlying t = some (.slice e)) (he : P.underlying e = some (.int .i64))
    (hC : P.cellsOf e = 1) (h : DataW.trod enc P w base spare held fuel t [v] = some x) :
    ∃ (A : Option Addr) (len cap : Nat) (g : Nat → Int), v = .slice A len cap ∧ len ≤ cap ∧ cap ≤ maxLen ∧ LenD x.1 len ∧ (A = none → len = 0 ∧ cap = 0) ∧
      ∀ ad, A = some ad → ∀ i, i < len → w.cell? (ad.add i) = some (.int .i64 (g i)) ∧ I64 (g i) := by
  rcases open_slice ht h with ⟨h0, h1⟩ | ⟨a, len, cap, m, n, D, Pl, hcs, hb, hl, hm, hmm, hx, hi⟩
  · injection h0 with h0 _
    subst h0 h1
    exact ⟨none, 0, 0, fun _ => 0, rfl, Nat.le_refl _, Nat.zero_le _, .inl ⟨rfl, rfl⟩, fun _ => ⟨rfl, rfl⟩, fun ad hA => by cases hA⟩
  · injection hcs with hcs _
    subst hcs
    have hlm : len ≤ m := by rw [hmm]; split <;> omega
    have hex : ∀ i, ∃ z : Int, i < len → w.cell? (a.add i) = some (.int .i64 z) ∧ I64 z := by
      intro i
      by_cases hil : i < len
      · obtain ⟨cs', hc, ht'⟩ := hi i (by omega)
        rw [hC, Nat.mul_one] at hc
        obtain ⟨_, hcl, hat⟩ := World.cells?_some hc
        obtain ⟨z, rfl, _, wz⟩ := DataW.trod_int he ht'
        have h0 := hat 0 (by omega)
        rw [Go.Deep.add_add, Nat.add_zero] at h0
        exact ⟨z, fun _ => ⟨h0, wf_bd wz⟩⟩
      · exact ⟨0, fun hh => absurd hh hil⟩
    refine ⟨some a, len, cap, fun i => (hex i).choose, rfl, hl, hm, ?_, fun hA => (by cases hA), fun ad hA i hil => ?_⟩
    · rw [hx]
      exact .inr ⟨_, _, rfl, by simp⟩
    · injection hA with hA
      subst hA
      exact (hex i).choose_spec hil

/-- from cells at 'ad.add' to a slice that reads as a list -/
theorem sl_of_row {α : Type} {sz : Nat} (hsz : 0 < sz) {cell : α → Nat → Value} {A : Option Addr} {l : List α} (hA : A = none → l.length = 0)
    (h : ∀ ad, A = some ad → ∀ i (hi : i < l.length), ∀ j, j < sz → w.cell? (ad.add (i * sz + j)) = some (cell l[i] j)) : Sl w w.heap.size sz cell A l := by
  intro hl
  match A, hA with
  | none, hA => have := hA rfl; omega
  | some ad, _ =>
    have h0 := h ad rfl 0 hl 0 hsz
    obtain ⟨b, off, spot⟩ := ad
    have hspot : spot = none := by simpa [Addr.add] using World.cell?_spot h0
    subst hspot
    refine ⟨b, off, rfl, ?_, fun i hi j hj => ?_⟩
    · rw [add_plain] at h0
      exact lt_of_cell h0
    · rw [← add_plain]
      exact h _ rfl i hi j hj

/-- what is known of an opened slice argument -/
structure Arg {α : Type} (w : World) (sz : Nat) (cell : α → Nat → Value) (A : Option Addr) (c : Nat) (l : List α) : Prop where
  cap : l.length ≤ c
  max : c ≤ 9223372036854775807
  nil : A = none → l.length = 0 ∧ c = 0
  sl : Sl w w.heap.size sz cell A l

theorem open_ints' {t e : TypeId} {fuel : Nat} {v : Value} {x : DataW H × List MemPlace} (ht : P.underlying t = some (.slice e)) (he : P.underlying e = some (.int .i64))
    (hC : P.cellsOf e = 1) (h : DataW.trod enc P w base spare held fuel t [v] = some x) :
    ∃ (A : Option Addr) (c : Nat) (l : List Int), v = .slice A l.length c ∧ Arg w 1 ci A c l ∧ LenD x.1 l.length ∧ ∀ z ∈ l, I64 z := by
  obtain ⟨A, len, cap, g, rfl, hl, hm, hd, hnil, hc⟩ := open_rowI ht he hC h
  have hll : ((List.range len).map g).length = len := by simp
  refine ⟨A, cap, (List.range len).map g, by rw [hll], ⟨by omega, hm, by rw [hll]; exact hnil, ?_⟩, by rw [hll]; exact hd, fun z hz => ?_⟩
  · refine sl_of_row (by omega) (fun hA => by rw [hll]; exact (hnil hA).1) fun ad hA i hi j hj => ?_
    obtain rfl : j = 0 := by omega
    rw [hll] at hi
    rw [Nat.mul_one, Nat.add_zero, (hc ad hA i hi).1]
    simp [ci]
  · rw [List.mem_map] at hz
    obtain ⟨i, hi, rfl⟩ := hz
    rw [List.mem_range] at hi
    match A, hnil with
    | none, hnil => have := hnil rfl; omega
    | some ad, _ => exact (hc ad rfl i hi).2

theorem open_two' {t e : TypeId} {f0 f1 : Field} {fuel : Nat} {v : Value} {x : DataW H × List MemPlace} (ht : P.underlying t = some (.slice e)) (he : P.underlying e = some (.struct #[f0, f1]))
    (hone : oneCellFields P #[f0, f1] = true) (hC : P.cellsOf e = 2) (h0 : P.underlying f0.type = some (.int .i64)) (h1 : P.underlying f1.type = some (.int .i64)) (h : DataW.trod enc P w base spare held fuel t [v] = some x) :
    ∃ (A : Option Addr) (c : Nat) (l : List (Int × Int)), v = .slice A l.length c ∧ Arg w 2 cp A c l ∧ LenD x.1 l.length ∧ ∀ z ∈ l, I64 z.1 ∧ I64 z.2 := by
  obtain ⟨A, len, cap, g, rfl, hl, hm, hd, hnil, hc⟩ := open_row ht he hone hC (fun j f hj => by
    match j, hj with
    | 0, hj => simp at hj; subst hj; exact h0
    | 1, hj => simp at hj; subst hj; exact h1
    | j + 2, hj => simp at hj) h
  have hll : ((List.range len).map fun i => (g i 0, g i 1)).length = len := by simp
  refine ⟨A, cap, (List.range len).map fun i => (g i 0, g i 1), by rw [hll], ⟨by omega, hm, by rw [hll]; exact hnil, ?_⟩, by rw [hll]; exact hd, fun z hz => ?_⟩
  · refine sl_of_row (by omega) (fun hA => by rw [hll]; exact (hnil hA).1) fun ad hA i hi j hj => ?_
    rw [hll] at hi
    refine (hc ad hA i hi j hj).1.trans ?_
    match j, hj with
    | 0, _ => simp [cp]
    | 1, _ => simp [cp]
  · rw [List.mem_map] at hz
    obtain ⟨i, hi, rfl⟩ := hz
    rw [List.mem_range] at hi
    match A, hnil with
    | none, hnil => have := hnil rfl; omega
    | some ad, _ => exact ⟨(hc ad rfl i hi 0 (by simp)).2, (hc ad rfl i hi 1 (by simp)).2⟩

theorem open_three' {t e : TypeId} {f0 f1 f2 : Field} {fuel : Nat} {v : Value} {x : DataW H × List MemPlace} (ht : P.underlying t = some (.slice e)) (he : P.underlying e = some (.struct #[f0, f1, f2]))
    (hone : oneCellFields P #[f0, f1, f2] = true) (hC : P.cellsOf e = 3) (h0 : P.underlying f0.type = some (.int .i64)) (h1 : P.underlying f1.type = some (.int .i64)) (h2 : P.underlying f2.type = some (.int .i64)) (h : DataW.trod enc P w base spare held fuel t [v] = some x) :
    ∃ (A : Option Addr) (c : Nat) (l : List (Int × Int × Int)), v = .slice A l.length c ∧ Arg w 3 ce A c l ∧ LenD x.1 l.length ∧ ∀ z ∈ l, I64 z.1 ∧ I64 z.2.1 ∧ I64 z.2.2 := by
  obtain ⟨A, len, cap, g, rfl, hl, hm, hd, hnil, hc⟩ := open_row ht he hone hC (fun j f hj => by
    match j, hj with
    | 0, hj => simp at hj; subst hj; exact h0
    | 1, hj => simp at hj; subst hj; exact h1
    | 2, hj => simp at hj; subst hj; exact h2
    | j + 3, hj => simp at hj) h
  have hll : ((List.range len).map fun i => (g i 0, g i 1, g i 2)).length = len := by simp
  refine ⟨A, cap, (List.range len).map fun i => (g i 0, g i 1, g i 2), by rw [hll], ⟨by omega, hm, by rw [hll]; exact hnil, ?_⟩, by rw [hll]; exact hd, fun z hz => ?_⟩
  · refine sl_of_row (by omega) (fun hA => by rw [hll]; exact (hnil hA).1) fun ad hA i hi j hj => ?_
    rw [hll] at hi
    refine (hc ad hA i hi j hj).1.trans ?_
    match j, hj with
    | 0, _ => simp [ce]
    | 1, _ => simp [ce]
    | 2, _ => simp [ce]
  · rw [List.mem_map] at hz
    obtain ⟨i, hi, rfl⟩ := hz
    rw [List.mem_range] at hi
    match A, hnil with
    | none, hnil => have := hnil rfl; omega
    | some ad, _ => exact ⟨(hc ad rfl i hi 0 (by simp)).2, (hc ad rfl i hi 1 (by simp)).2, (hc ad rfl i hi 2 (by simp)).2⟩

/-- a net by value -/
theorem open_net {r : Reach} {b0 : Nat} {t e : TypeId} {f0 f1 e0 e1 e2 : Field} {v : Value} {d : DataW H} {p : List MemPlace}
    (hs : P.underlying t = some (.struct #[f0, f1])) (hone : oneCellFields P #[f0, f1] = true) (hC : P.cellsOf t = 2) (h0 : P.underlying f0.type = some (.int .i64)) (h1 : P.underlying f1.type = some (.slice e))
    (he : P.underlying e = some (.struct #[e0, e1, e2])) (heo : oneCellFields P #[e0, e1, e2] = true) (heC : P.cellsOf e = 3) (g0 : P.underlying e0.type = some (.int .i64)) (g1 : P.underlying e1.type = some (.int .i64)) (g2 : P.underlying e2.type = some (.int .i64))
    (hv : Value.okWide P w r b0 t v) (h : DataW.Trod enc P w base spare held t v d p) :
    ∃ (N : Int) (A : Option Addr) (c : Nat) (l : List (Int × Int × Int)) (d1 : DataW H), v = .agg #[.int .i64 N, .slice A l.length c] ∧ I64 N ∧ Arg w 3 ce A c l ∧ (∀ z ∈ l, I64 z.1 ∧ I64 z.2.1 ∧ I64 z.2.2) ∧ d = .agg [.lit (.int .i64 N), d1] ∧ LenD d1 l.length := by
  obtain ⟨c0, c1, y0, y1, m, rfl, rfl, rfl, hy0, hy1⟩ := open_agg2 hs hone hC hv h
  obtain ⟨N, q0, rfl, wa⟩ := DataW.trod_int h0 hy0
  simp at q0
  subst q0
  obtain ⟨A, c, l, rfl, hA, hd, hb⟩ := open_three' h1 he heo heC g0 g1 g2 hy1
  exact ⟨N, A, c, l, y1.1, rfl, wf_bd wa, hA, hb, rfl, hd⟩

/-- a grid by value -/
theorem open_grid {r : Reach} {b0 : Nat} {t e : TypeId} {f0 f1 f2 : Field} {v : Value} {d : DataW H} {p : List MemPlace}
    (hs : P.underlying t = some (.struct #[f0, f1, f2])) (hone : oneCellFields P #[f0, f1, f2] = true) (hC : P.cellsOf t = 3) (h0 : P.underlying f0.type = some (.int .i64)) (h1 : P.underlying f1.type = some (.int .i64)) (h2 : P.underlying f2.type = some (.slice e))
    (he : P.underlying e = some (.int .i64)) (heC : P.cellsOf e = 1) (hv : Value.okWide P w r b0 t v) (h : DataW.Trod enc P w base spare held t v d p) :
    ∃ (W H' : Int) (A : Option Addr) (c : Nat) (l : List Int) (d1 : DataW H), v = .agg #[.int .i64 W, .int .i64 H', .slice A l.length c] ∧ I64 W ∧ I64 H' ∧ Arg w 1 ci A c l ∧ (∀ z ∈ l, I64 z) ∧ d = .agg [.lit (.int .i64 W), .lit (.int .i64 H'), d1] ∧ LenD d1 l.length := by
  obtain ⟨c0, c1, c2, y0, y1, y2, m, rfl, rfl, rfl, hy0, hy1, hy2⟩ := open_agg3 hs hone hC hv h
  obtain ⟨W, q0, rfl, wa⟩ := DataW.trod_int h0 hy0
  obtain ⟨H', q1, rfl, wb⟩ := DataW.trod_int h1 hy1
  simp at q0 q1
  subst q0 q1
  obtain ⟨A, c, l, rfl, hA, hd, hb⟩ := open_ints' h2 he heC hy2
  exact ⟨W, H', A, c, l, y2.1, rfl, wf_bd wa, wf_bd wb, hA, hb, rfl, hd⟩

theorem open_sl1 {r : Reach} {b0 : Nat} {t e : TypeId} {v : Value} {d : DataW H} {p : List MemPlace} (ht : P.underlying t = some (.slice e)) (he : P.underlying e = some (.int .i64))
    (hC : P.cellsOf e = 1) (hv : Value.okWide P w r b0 t v) (h : DataW.Trod enc P w base spare held t v d p) :
    ∃ (A : Option Addr) (c : Nat) (l : List Int), v = .slice A l.length c ∧ Arg w 1 ci A c l ∧ LenD d l.length ∧ ∀ z ∈ l, I64 z := by
  obtain ⟨A, n, c, rfl⟩ := okWide_slice ht hv
  obtain ⟨fuel, hf⟩ := h
  exact open_ints' ht he hC hf
theorem open_sl2 {r : Reach} {b0 : Nat} {t e : TypeId} {f0 f1 : Field} {v : Value} {d : DataW H} {p : List MemPlace} (ht : P.underlying t = some (.slice e)) (he : P.underlying e = some (.struct #[f0, f1]))
    (hone : oneCellFields P #[f0, f1] = true) (hC : P.cellsOf e = 2) (h0 : P.underlying f0.type = some (.int .i64)) (h1 : P.underlying f1.type = some (.int .i64)) (hv : Value.okWide P w r b0 t v) (h : DataW.Trod enc P w base spare held t v d p) :
    ∃ (A : Option Addr) (c : Nat) (l : List (Int × Int)), v = .slice A l.length c ∧ Arg w 2 cp A c l ∧ LenD d l.length ∧ ∀ z ∈ l, I64 z.1 ∧ I64 z.2 := by
  obtain ⟨A, n, c, rfl⟩ := okWide_slice ht hv
  obtain ⟨fuel, hf⟩ := h
  exact open_two' ht he hone hC h0 h1 hf
end

/-- the form's own reach: a slice argument's bytes -/
theorem sized_len {H : Type} {P : Program} {ts : List TypeId} {ds : List (DataW H)} {d : DataW H} {n : Nat} (h : (DataW.weightsEach P ts ds).all (· ≤ reachBytes) = true) {j : Nat} {t e : TypeId} (b : Nat) (ht : ts[j]? = some t) (hd : ds[j]? = some d) (hu : P.underlying t = some (.slice e))
    (hb : P.bytesOf e = b) (hl : LenD d n) : n * b ≤ 140737488351232 := by
  rcases hl with ⟨rfl, rfl⟩ | ⟨elems, spare, rfl, rfl⟩
  · omega
  · have := sized_slice h ht hd hu
    rw [hb] at this
    have h2 : elems.length * b ≤ (elems.length + spare.length) * b := Nat.mul_le_mul_right _ (by omega)
    have h3 : reachBytes = 140737488351232 := rfl
    omega
end Go.Proofs.Ytjebckehmmbkbaa
