/- The walks of DijkTight's closure and of slices.ContainsFunc with it. -/
import Derived.Test.YtjdpmkcfllpgaaaBellFn
namespace Go.Proofs.Ytjdpmkcfllpgaaa.DijkFn
open Go.RowKit Go.Proofs.Ytjdpmkcfllpgaaa NetLaw BellLaw Go.Proofs.Ytjdpmkcfllpgaaa.Bell Go.Proofs.Ytjdpmkcfllpgaaa.Net Go.Proofs.Ytjdpmkcfllpgaaa.Std
set_option linter.unusedSimpArgs false
set_option linter.unusedVariables false

set_option maxRecDepth 100000 in
set_option maxHeartbeats 1000000 in
theorem nearD_any (gv gl gc S n : Nat) (D : List Int) (v co : Int) (f : Nat) (t k : Int) (w : World) (h : Caught w gv gl gc S n D v co) (hf : f < n) (hx : -1000000000000 ≤ D.getD f 0) (hk : -10000 ≤ k ∧ k ≤ 10000) :
    Calls Try.prog 24 #[.agg #[.int .i64 f, .int .i64 t, .int .i64 k], .pointer (some ⟨gv, 0, none⟩), .pointer (some ⟨gl, 0, none⟩), .pointer (some ⟨gc, 0, none⟩)] w fun e w' => ∃ b, e = .returned (.bool b) ∧ (b = true ↔ Into D v co (f, t, k)) ∧ Below w.heap.size w w' := by
  have hv := h.v
  have hl := h.l
  have hc := h.c
  have hd := h.d f hf
  have s1 := h.sv
  have s2 := h.sl
  have s3 := h.sc
  have s4 := h.ss
  have hI : Into D v co (f, t, k) ↔ t = v ∧ D.getD f 0 < far ∧ D.getD f 0 + k = co := by simp [Into, dg]
  generalize D.getD f 0 = x at *
  have HI := Lib.hid hI
  obtain ⟨k0, k1⟩ := hk
  clear h hI
  by_cases htv : t = v
  · subst htv
    by_cases hxf : x < 1099511627776
    · by_cases hxc : x + k = co
      · subst hxc
        go_enter Try.func24, Try.ntmps24
        go_wp2
        go_quiet (fail)
        go_wp2
        go_ret
        exact ⟨_, rfl, by rw [HI.out]; simp [far]; omega, below_drewN ((Below.refl _ _).alloc (Nat.le_refl _) _) _⟩
      · have hd2 : (x + k == co) = false := by simp; omega
        go_enter Try.func24, Try.ntmps24
        go_wp2
        go_quiet (fail)
        go_wp2
        go_ret
        exact ⟨_, rfl, by rw [HI.out]; simp [far]; omega, below_drewN ((Below.refl _ _).alloc (Nat.le_refl _) _) _⟩
    · have hd2 : decide (x < 1099511627776) = false := by simp; omega
      go_enter Try.func24, Try.ntmps24
      go_wp2
      go_quiet (fail)
      go_wp2
      go_ret
      exact ⟨_, rfl, by rw [HI.out]; simp [far]; omega, below_drewN ((Below.refl _ _).alloc (Nat.le_refl _) _) _⟩
  · have hd2 : (t == v) = false := by simp; exact htv
    go_enter Try.func24, Try.ntmps24
    go_wp2
    go_quiet (fail)
    go_wp2
    go_ret
    exact ⟨_, rfl, by rw [HI.out]; simp [htv], below_drewN ((Below.refl _ _).alloc (Nat.le_refl _) _) _⟩

/-- the closure's value -/
def fnvD (gv gl gc : Nat) : Value := .func (.func 24) #[] #[.pointer (some ⟨gv, 0, none⟩), .pointer (some ⟨gl, 0, none⟩), .pointer (some ⟨gc, 0, none⟩)]

set_option maxRecDepth 100000 in
set_option maxHeartbeats 1000000 in
theorem indexD_fn (gv gl gc S n : Nat) (D : List Int) (v co : Int) (A : Option Addr) (c : Nat) (l : List E) (w : World) (h : Caught w gv gl gc S n D v co) (hl : Sl w w.heap.size 3 ce A l) (hlen : l.length ≤ 600)
    (hends : ∀ e ∈ l, 0 ≤ e.1 ∧ e.1 < n ∧ 0 ≤ e.2.1 ∧ e.2.1 < n) (hcost : ∀ e ∈ l, -10000 ≤ e.2.2 ∧ e.2.2 ≤ 10000) (hlb : Lb n D 1000000000000) (hex : ∃ e ∈ l, Into D v co e) :
    Calls Try.prog 54 #[.slice A l.length c, fnvD gv gl gc] w fun e w' => ∃ r : Nat, e = .returned (.int .i64 r) ∧ Below w.heap.size w w' := by
  unfold fnvD
  go_enter Try.func54, Try.ntmps54
  go_wp2
  go_loopw [8] (fun i wr => ∃ k : Nat, k ≤ l.length ∧ i = .int .i64 k ∧ (∃ e ∈ l.drop k, Into D v co e) ∧ Below w.heap.size w wr) (fun i _ => l.length - (intOf i).toNat)
  case atStart => exact ⟨0, Nat.zero_le _, rfl, by simpa using hex, Below.refl _ _⟩
  case round =>
    obtain ⟨k, hk, rfl, hex1, hB⟩ := hrel
    by_cases hlt : k < l.length
    · obtain ⟨b, off, f, t, cc, rfl, hbB, he, hcf, hct, hcc⟩ := (hl.keep hB (Nat.le_refl _)).atE hlt
      have hen := hends _ (List.getElem_mem hlt)
      have hco := hcost _ (List.getElem_mem hlt)
      rw [he] at hen hco
      obtain ⟨f0, f1, t0, t1⟩ := hen
      simp only at f0 f1 t0 t1 hco
      obtain ⟨f, rfl⟩ := Int.eq_ofNat_of_zero_le f0
      have hC := nearD_any gv gl gc S n D v co f t cc wr (h.keep hB) (by omega) (hlb f (by omega)) hco
      have hnx : ¬ Into D v co (f, t, cc) → ∃ e ∈ l.drop (k + 1), Into D v co e := fun hn => by
        obtain ⟨e, hm, hi⟩ := hex1
        rw [List.drop_eq_getElem_cons hlt, he] at hm
        rcases List.mem_cons.1 hm with rfl | hm
        · exact absurd hi hn
        · exact ⟨e, hm, hi⟩
      have KC := Lib.hid hC
      have HN := Lib.hid hnx
      clear hC hnx he hex1 hends hcost hlb h hl f0 f1 t0 t1 hco hex
      go_wp2_with fail
      refine KC.out.mono ?_
      rintro e w2 ⟨bo, rfl, hbo, hB2⟩
      have B2 := hB.trans (hB2.mono hB.size)
      clear hB2
      cases bo with
      | true =>
        go_wp2
        go_ret
        exact ⟨k, rfl, B2⟩
      | false =>
        go_wp2
        go_roundw
        case rel => exact ⟨k + 1, by omega, by go_num, HN.out (fun hi => absurd (hbo.2 hi) (by decide)), B2⟩
        case measure => simp [intOf]; omega
    · obtain rfl : k = l.length := by omega
      obtain ⟨e, hm, _⟩ := hex1
      rw [List.drop_length] at hm
      exact absurd hm (by simp)

theorem containsD_fn (gv gl gc S n : Nat) (D : List Int) (v co : Int) (A : Option Addr) (c : Nat) (l : List E) (w : World) (h : Caught w gv gl gc S n D v co) (hl : Sl w w.heap.size 3 ce A l) (hlen : l.length ≤ 600)
    (hends : ∀ e ∈ l, 0 ≤ e.1 ∧ e.1 < n ∧ 0 ≤ e.2.1 ∧ e.2.1 < n) (hcost : ∀ e ∈ l, -10000 ≤ e.2.2 ∧ e.2.2 ≤ 10000) (hlb : Lb n D 1000000000000) (hex : ∃ e ∈ l, Into D v co e) :
    Calls Try.prog 18 #[.slice A l.length c, fnvD gv gl gc] w fun e w' => e = .returned (.bool true) ∧ Below w.heap.size w w' := by
  have key := indexD_fn gv gl gc S n D v co A c l w h hl hlen hends hcost hlb hex
  unfold fnvD at key ⊢
  have KEY := Lib.hid key
  clear key h hl hends hcost hlb hex
  go_enter Try.func18, Try.ntmps18
  go_wp2_with fail
  refine KEY.out.mono ?_
  rintro e w1 ⟨r, rfl, hB⟩
  go_wp2
  go_ret
  exact ⟨ret_bool (by simp), hB⟩
end Go.Proofs.Ytjdpmkcfllpgaaa.DijkFn
