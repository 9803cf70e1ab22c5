/- The walk of walk.Cut: a map of last places, and the list without its loops. -/
import Derived.Test.YtdpjbjgecmnmnaaStdI
import Derived.Test.YtdpjbjgecmnmnaaCutLaw
import Derived.Test.YtdpjbjgecmnmnaaOpen
import Derived.Maps.Own
import Derived.Maps.OwnOps
import Derived.Maps.Views
import Derived.Carry
namespace Go.Proofs.Ytdpjbjgecmnmnaa.Cut
open Go.RowKit Go.Maps Go.Proofs.Ytdpjbjgecmnmnaa CutLaw Go.Proofs.Ytdpjbjgecmnmnaa.Std
set_option linter.unusedSimpArgs false
set_option linter.unusedVariables false

theorem lawI : Keyed Try.prog 3 := int_keyed Try.underlying3
theorem zeroI (w : World) : (zeroValue 3).run Try.prog w = .ok (.int .i64 0) w := by kernel_rfl
theorem wf_of {x : Int} (h : I64 x) : (Lit.int .i64 x).wf = true := by
  simp only [Lit.wf, Bool.and_eq_true, decide_eq_true_eq]
  exact h
theorem wf_nat {x : Nat} (h : x ≤ 100) : (Lit.int .i64 x).wf = true := wf_of ⟨by omega, by omega⟩
theorem lit_inj {a b : Int} (h : (DataW.lit (.int .i64 a) : DataW Unit) = .lit (.int .i64 b)) : a = b := by simpa using h
/-- the map of the first k places: each place's last number -/
structure LastOf (p : List Int) (k : Nat) (D : DataW Unit) : Prop where
  isMap : IsMap D
  at_ : ∀ i x, i < k → p[i]? = some x → (∀ j, i < j → j < k → p[j]? ≠ some x) → ∀ z, D.atKey (.int .i64 x) z = .lit (.int .i64 i)
theorem LastOf.zero (p : List Int) : LastOf p 0 (.map []) := ⟨isMap_empty, fun i x h => absurd h (Nat.not_lt_zero _)⟩
theorem LastOf.step {p : List Int} {k : Nat} {D : DataW Unit} (h : LastOf p k D) {y : Int} (hy : p[k]? = some y) : LastOf p (k + 1) (D.put (.int .i64 y) (.lit (.int .i64 k))) := by
  refine ⟨h.isMap.put _ _, fun i x hi hx hn z => ?_⟩
  by_cases e : x = y
  · subst e
    have hik : i = k := by
      by_cases e2 : i = k
      · exact e2
      · exact absurd hy (hn k (by omega) (by omega))
    subst hik
    exact atKey_put_same h.isMap (by trivial) _ _
  · have hik : i < k := by
      by_cases e2 : i = k
      · subst e2; rw [hy] at hx; injection hx with hx; exact absurd hx.symm e
      · omega
    rw [atKey_put_other (fun e2 => e (by injection e2))]
    exact h.at_ i x hik hx (fun j h1 h2 => hn j h1 (by omega)) z
theorem last_ex {p : List Int} {x : Int} {k : Nat} (h : p[k]? = some x) : ∃ j, k ≤ j ∧ j < p.length ∧ p[j]? = some x ∧ ∀ m, j < m → p[m]? ≠ some x := by
  have key : ∀ n k, p.length - k ≤ n → p[k]? = some x → ∃ j, k ≤ j ∧ j < p.length ∧ p[j]? = some x ∧ ∀ m, j < m → p[m]? ≠ some x := by
    intro n
    induction n with
    | zero =>
      intro k hn hk
      obtain ⟨hlt, _⟩ := List.getElem?_eq_some_iff.1 hk
      omega
    | succ n ih =>
      intro k hn hk
      obtain ⟨hlt, _⟩ := List.getElem?_eq_some_iff.1 hk
      by_cases hex : ∃ m, k < m ∧ p[m]? = some x
      · obtain ⟨m, hm, hx⟩ := hex
        obtain ⟨j, j1, j2⟩ := ih m (by omega) hx
        exact ⟨j, by omega, j2⟩
      · exact ⟨k, Nat.le_refl _, hlt, hk, fun m hm hx => hex ⟨m, hm, hx⟩⟩
  exact key _ k (Nat.le_refl _) h

set_option maxHeartbeats 1000000 in
theorem cut_no (A : Option Addr) (c : Nat) (p : List Int) (w : World) (hlen : p.length ≤ 9223372036854775807) (h : p.length = 0 ∨ 100 < p.length) :
    Calls Try.prog 25 #[.slice A p.length c] w fun e w' => ∃ x : Int, x ≠ 0 ∧ e = .returned (.tuple #[.slice none 0 0, .int .i64 x]) ∧ w' = w := by
  by_cases h0 : p.length = 0
  · have g1 : ((p.length : Int) == 0) = true := by rw [beq_iff_eq]; omega
    have H0 := Lib.hid h0
    clear h h0
    go_enter Try.func25, Try.ntmps25
    go_wp2
    go_ret2
    exact ⟨1, by decide, rfl, rfl⟩
  · have g1 : ((p.length : Int) == 0) = false := by rw [beq_eq_false_iff_ne]; omega
    have h2 : 100 < p.length := by omega
    have g2 : decide ((p.length : Int) > 100) = true := by simp; omega
    have g3 : (100 : Int) < p.length := by omega
    clear h h0
    go_enter Try.func25, Try.ntmps25
    go_wp2
    go_ret2
    exact ⟨2, by decide, rfl, rfl⟩

set_option maxRecDepth 100000 in
set_option maxHeartbeats 2000000 in
theorem cut_yes (A : Option Addr) (c : Nat) (p : List Int) (w : World) (hp : Sl w w.heap.size 1 ci A p) (hi64 : ∀ z ∈ p, I64 z) (h1 : 1 ≤ p.length) (h2 : p.length ≤ 100) :
    Calls Try.prog 25 #[.slice A p.length c] w fun e w' => ∃ A' c', e = .returned (.tuple #[.slice A' (cut p).length c', .int .i64 0]) ∧ Own w' w.heap.size 3 1 ci (.slice A' (cut p).length c') (cut p) ∧ Below w.heap.size w w' := by
  obtain ⟨i0, hi, hz0, hz1, hz2⟩ := info_parts infoInt
  have hmm := @run_makeMap Try.prog
  have g1 : ((p.length : Int) == 0) = false := by rw [beq_eq_false_iff_ne]; omega
  have g2 : decide ((p.length : Int) > 100) = false := by simp; omega
  have HI := Lib.hid hi64
  clear hi64
  go_enter Try.func25, Try.ntmps25
  go_wp2
  go_loopw [18] (fun i wr => ∃ (k : Nat) (D : DataW Unit), k ≤ p.length ∧ i = .int .i64 k ∧ wr.ownsMap Try.prog 3 (plainElem Try.prog 3) w.heap.size k D ∧ Hid (LastOf p k D) ∧ Below w.heap.size w wr) (fun i _ => p.length - (intOf i).toNat)
  case atStart => exact ⟨0, _, Nat.zero_le _, rfl, World.ownsMap_made _ _ _ _, Lib.hid (LastOf.zero p), (Below.refl _ _).alloc (Nat.le_refl _) _⟩
  case round =>
    obtain ⟨k, D, hk, rfl, hown, hD, hB⟩ := hrel
    by_cases hlt : k < p.length
    · obtain ⟨b, off, rfl, hbB, hx⟩ := (hp.keep hB (Nat.le_refl _)).atI hlt
      have hst := hD.out.step (List.getElem?_eq_getElem hlt)
      have hkey : keyOf Try.prog 3 (.int .i64 p[k]) = some (.int .i64 p[k]) := keyOf_int_mk Try.underlying3 (wf_of (HI.out _ (List.getElem_mem hlt)))
      have hk100 : k ≤ 100 := by omega
      generalize p[k] = x at *
      have HST := Lib.hid hst
      clear hst
      go_wp2_with (at_mapUpdate; refine wpList_mapUpdate_own _ rfl _ _ _ 82 rfl 3 3 lawI Try.underlying82 _ w.heap.size k _ rfl hown (by unfold maxLen; omega) _ _ _ rfl rfl hkey _ [] (plainElem_int Try.underlying3 (wf_nat hk100)) ?_; intro w1 hown1 hgrow1)
      go_roundw
      case rel => exact ⟨k + 1, _, by omega, by go_num, hown1, HST, hB.grown hgrow1 hB.size (fun j hj => by cases hj; exact Nat.le_refl _)⟩
      case measure => simp [intOf]; omega
    · obtain rfl : k = p.length := by omega
      have HOWN := Lib.hid hown
      clear hown hlt
      go_wp2
      go_loopw [7, 8] (fun s7 s8 wy => ∃ (k : Nat) (A' : Option Addr) (c' : Nat) (acc : List Int), k ≤ p.length ∧ s8 = .int .i64 k ∧ s7 = .slice A' acc.length c' ∧ Own wy (w.heap.size + 1) 3 1 ci (.slice A' acc.length c') acc ∧ acc.length ≤ k ∧ Hid (cut p = acc ++ cut (p.drop k)) ∧ wy.ownsMap Try.prog 3 (plainElem Try.prog 3) w.heap.size p.length D ∧ Below w.heap.size w wy) (fun _ s8 _ => p.length - (intOf s8).toNat)
      case atStart => exact ⟨0, none, 0, [], Nat.zero_le _, rfl, rfl, Own.nil_, Nat.le_refl _, Lib.hid (by simp), HOWN.out, hB⟩
      case round =>
        clear hB HOWN
        obtain ⟨k, A', c', acc, hk, rfl, rfl, hown, hak, hcut, hmap, hB⟩ := hrel
        by_cases hlt : k < p.length
        · obtain ⟨b, off, rfl, hbB, hx⟩ := (hp.keep hB (Nat.le_refl _)).atI hlt
          obtain ⟨j, j1, j2, j3, j4⟩ := last_ex (List.getElem?_eq_getElem hlt)
          have hcd := cut_drop (List.getElem?_eq_getElem hlt) j1 j3 j4
          have hat := hD.out.at_ j _ j2 j3 (fun m h1 _ => j4 m h1) (.lit (.int .i64 0))
          have hkey : keyOf Try.prog 3 (.int .i64 p[k]) = some (.int .i64 p[k]) := keyOf_int_mk Try.underlying3 (wf_of (HI.out _ (List.getElem_mem hlt)))
          have hcut2 : cut p = (acc ++ [p[k]]) ++ cut (p.drop (j + 1)) := by rw [hcut.out, hcd, List.append_assoc]; rfl
          have hlen2 : (acc ++ [p[k]]).length = acc.length + 1 := by simp
          have HAT := Lib.hid hat
          have HC2 := Lib.hid hcut2
          have HL2 := Lib.hid hlen2
          have hbsz := hB.size
          obtain ⟨na, hna⟩ : ∃ na, acc.length = na := ⟨_, rfl⟩
          have HNA := Lib.hid hna
          rw [hna] at hown hak ⊢
          generalize p[k] = x at *
          have hmap1 := hmap.alloc (.cells #[.int .i64 x] 3)
          have hown1 := hown.alloc (.cells #[.int .i64 x] 3)
          have HMAP1 := Lib.hid hmap1
          have hmne : ∀ j, (Value.slice A' na c').ownBlock = some j → w.heap.size + 1 ≤ j := hown.lo
          have HMNE := Lib.hid hmne
          clear hat hcut2 hlen2 j3 j4 hcut hcd hna hmap hmap1 hown hmne
          go_wp2_with (first
            | (at_builtin; refine wpList_push _ rfl (.tmp 38) (.tmp 43) _ rfl (w.heap.size + 1) 3 i0 (.int .i64 0) 1 8 ci Try.underlying25 hi hz0 hz1 hz2 rfl (by decide) _ acc na HNA.out rfl hown1 wr.heap.size 1 x rfl news1 (fun _ _ => one_ci _ _) (by omega) (by omega) (by simp; omega) ?_; intro A3 c3 w4 hown3 hgrow3 hat3; have hmap3 := HMAP1.out.kept hgrow3 (fun e => by have := HMNE.out _ e.symm; omega); have hB3 : Below w.heap.size w w4 := (hB.alloc hbsz _).grown hgrow3 (by simp; omega) (fun j hj => by have := HMNE.out _ hj; omega); have hx3 : w4.cell? ⟨b, off + k, none⟩ = some (.int .i64 x) := (hB3.cell (p := ⟨b, off + k, none⟩) hbB).trans ((hB.cell (p := ⟨b, off + k, none⟩) hbB).symm.trans hx); have HOWN3 := Lib.hid hown3; clear hown3 hgrow3 hat3)
            | (at_lookup; refine wpList_lookup_own_int _ rfl _ _ 82 rfl 3 3 .i64 lawI Try.underlying82 Try.underlying3 (zeroI _) w.heap.size p.length D rfl hmap3 _ _ rfl hkey ?_; intro cv hcv hwc; obtain rfl := lit_inj (HAT.out.symm.trans hcv); clear hcv hwc))
          go_roundw
          case rel =>
            have hkk := HL2.out
            exact ⟨j + 1, A3, c3, acc ++ [x], by omega, by go_num, by rw [hkk, HNA.out], by rw [hkk, HNA.out]; exact HOWN3.out, by rw [hkk, HNA.out]; omega, HC2, hmap3, hB3⟩
          case measure => simp [intOf]; omega
        · obtain rfl : k = p.length := by omega
          have hfin : cut p = acc := by rw [hcut.out, List.drop_length, cut_nil, List.append_nil]
          subst hfin
          have HOWN := Lib.hid (hown.mono (Nat.le_succ _))
          clear hown hmap hcut hD
          go_wp2
          go_ret2
          exact ⟨A', c', rfl, HOWN.out, hB⟩
end Go.Proofs.Ytdpjbjgecmnmnaa.Cut
