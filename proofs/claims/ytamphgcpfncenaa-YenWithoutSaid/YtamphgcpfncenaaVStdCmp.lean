/- Go's cmp.Compare at int and slices.Compare at []int; yen.less. -/
import Derived.Test.YtamphgcpfncenaaVHeapWay
import Derived.Test.YtamphgcpfncenaaVStdI
namespace Go.Proofs.Ytamphgcpfncenaa.Std
open Go.RowKit Go.Proofs.Ytamphgcpfncenaa YenLaw
set_option linter.unusedSimpArgs false
set_option linter.unusedVariables false
/-- what slices.Compare answers -/
def cmpL : List Int → List Int → Int
  | [], [] => 0
  | [], _ :: _ => -1
  | _ :: _, [] => 1
  | x :: a, y :: b => if x < y then -1 else if y < x then 1 else cmpL a b
theorem cmpL_lt (a b : List Int) : cmpL a b < 0 ↔ lexlt a b = true := by
  induction a generalizing b with
  | nil => cases b with
    | nil => simp [cmpL, lexlt]
    | cons y b => simp [cmpL, lexlt]
  | cons x a ih => cases b with
    | nil => simp [cmpL, lexlt]
    | cons y b =>
      rw [lexlt_cons, cmpL]
      split
      · simp; omega
      · split
        · simp; omega
        · rw [ih]
          have : x = y := by omega
          simp [this]
theorem cmpL_bd (a b : List Int) : -1 ≤ cmpL a b ∧ cmpL a b ≤ 1 := by
  induction a generalizing b with
  | nil => cases b <;> simp [cmpL]
  | cons x a ih => cases b with
    | nil => simp [cmpL]
    | cons y b =>
      rw [cmpL]
      split
      · omega
      · split
        · omega
        · exact ih b
theorem nan_int (x : Int) (w : World) : Calls Try.prog 99 #[.int .i64 x] w fun e w' => e = .returned (.bool false) ∧ w' = w := by
  go_enter Try.func99, Try.ntmps99
  go_wp2
  go_ret
  exact ⟨by simp, rfl⟩
theorem cmp_int (x y : Int) (w : World) (r : Int) (hr : (if x < y then -1 else if y < x then 1 else 0) = r) : Calls Try.prog 71 #[.int .i64 x, .int .i64 y] w fun e w' => e = .returned (.int .i64 r) ∧ w' = w := by
  have K1 := Lib.hid (nan_int x w)
  have K2 := Lib.hid (nan_int y w)
  go_enter Try.func71, Try.ntmps71
  go_wp2_with fail
  refine K1.out.mono ?_
  rintro e w1 ⟨rfl, hw1⟩
  subst hw1
  go_wp2_with fail
  refine K2.out.mono ?_
  rintro e w2 ⟨rfl, hw2⟩
  subst hw2
  clear K1 K2
  by_cases h1 : x < y
  · rw [if_pos h1] at hr
    subst hr
    go_wp2
    go_ret
    exact ⟨rfl, rfl⟩
  · rw [if_neg h1] at hr
    by_cases h2 : y < x
    · rw [if_pos h2] at hr
      subst hr
      go_wp2
      go_ret
      exact ⟨rfl, rfl⟩
    · rw [if_neg h2] at hr
      subst hr
      go_wp2
      go_ret
      exact ⟨rfl, rfl⟩
set_option maxHeartbeats 1000000 in
theorem compare_int (A A' : Option Addr) (n m c c' : Nat) (l r : List Int) (B : Nat) (w : World) (hl : Sl w B 1 ci A l) (hm : Sl w B 1 ci A' r) (hn : l.length = n) (hm' : r.length = m) (hlen : n ≤ 9223372036854775807) (hlen' : m ≤ 9223372036854775807) :
    Calls Try.prog 27 #[.slice A n c, .slice A' m c'] w fun e w' => e = .returned (.int .i64 (cmpL l r)) ∧ w' = w := by
  subst hn hm'
  go_enter Try.func27, Try.ntmps27
  go_wp2
  go_loopw [11] (fun i wr => ∃ k : Nat, k ≤ l.length ∧ k ≤ r.length ∧ i = .int .i64 k ∧ Hid (cmpL (l.drop k) (r.drop k) = cmpL l r) ∧ wr = w) (fun i _ => l.length - (intOf i).toNat)
  case atStart => exact ⟨0, Nat.zero_le _, Nat.zero_le _, rfl, Lib.hid (by simp), rfl⟩
  case round =>
    obtain ⟨k, hk, hkr, rfl, HC, hw⟩ := hrel
    subst hw
    by_cases hlt : k < l.length
    · obtain ⟨bb, off, hA, hbb, hx⟩ := hl.atI hlt
      have hd1 : l.drop k = l[k] :: l.drop (k + 1) := List.drop_eq_getElem_cons hlt
      by_cases hlr : k < r.length
      · obtain ⟨bb', off', hA', hbb', hy⟩ := hm.atI hlr
        have hd2 : r.drop k = r[k] :: r.drop (k + 1) := List.drop_eq_getElem_cons hlr
        have hc := HC.out
        rw [hd1, hd2, cmpL] at hc
        generalize l[k] = x at hc hx hd1
        generalize r[k] = y at hc hy hd2
        subst hA hA'
        have hg : ¬ ((k : Int) ≥ (r.length : Int)) := by omega
        by_cases h1 : x < y
        · rw [if_pos h1] at hc
          have HC1 := Lib.hid hc
          have kc := cmp_int x y wr (-1) (by rw [if_pos h1])
          have KC := Lib.hid kc
          clear hc kc HC hd1 hd2 h1
          go_wp2_with fail
          refine KC.out.mono ?_
          rintro e w2 ⟨rfl, hw2⟩
          subst hw2
          go_wp2
          go_ret
          exact ⟨by rw [← HC1.out]; rfl, by trivial⟩
        · rw [if_neg h1] at hc
          by_cases h2 : y < x
          · rw [if_pos h2] at hc
            have HC1 := Lib.hid hc
            have kc := cmp_int x y wr 1 (by rw [if_neg h1, if_pos h2])
            have KC := Lib.hid kc
            clear hc kc HC hd1 hd2 h1 h2
            go_wp2_with fail
            refine KC.out.mono ?_
            rintro e w2 ⟨rfl, hw2⟩
            subst hw2
            go_wp2
            go_ret
            exact ⟨by rw [← HC1.out]; rfl, by trivial⟩
          · rw [if_neg h2] at hc
            have HC1 := Lib.hid hc
            have kc := cmp_int x y wr 0 (by rw [if_neg h1, if_neg h2])
            have KC := Lib.hid kc
            clear hc kc HC hd1 hd2 h1 h2
            go_wp2_with fail
            refine KC.out.mono ?_
            rintro e w2 ⟨rfl, hw2⟩
            subst hw2
            go_wp2
            go_roundw
            case rel => exact ⟨k + 1, by omega, by omega, by go_num, HC1, by trivial⟩
            case measure => simp [intOf]; omega
      · have hk2 : k = r.length := by omega
        have hc := HC.out
        have hd2 : r.drop k = [] := List.drop_eq_nil_of_le (by omega)
        rw [hd1, hd2, cmpL] at hc
        have HC1 := Lib.hid hc
        have hg : ((k : Int) ≥ (r.length : Int)) := by omega
        generalize l[k] = x at hx hd1
        subst hA
        clear hc hd1 hd2 HC hk2 hlr
        go_wp2
        go_ret
        exact ⟨by rw [← HC1.out]; rfl, by trivial⟩
    · obtain rfl : k = l.length := by omega
      have hc := HC.out
      rw [List.drop_length] at hc
      by_cases hlr : l.length < r.length
      · have hd2 : r.drop l.length = r[l.length] :: r.drop (l.length + 1) := List.drop_eq_getElem_cons hlr
        rw [hd2, cmpL] at hc
        have HC1 := Lib.hid hc
        have hz : (l.length : Int) < (r.length : Int) := by omega
        clear hc hd2 HC
        go_wp2
        go_ret
        exact ⟨by rw [← HC1.out]; rfl, by trivial⟩
      · have hd2 : r.drop l.length = [] := List.drop_eq_nil_of_le (by omega)
        rw [hd2, cmpL] at hc
        have HC1 := Lib.hid hc
        have hz : ¬ (l.length : Int) < (r.length : Int) := by omega
        clear hc hd2 HC
        go_wp2
        go_ret
        exact ⟨by rw [← HC1.out]; rfl, by trivial⟩
theorem own_capsC {α : Type} {w : World} {b : Nat} {e : TypeId} {sz : Nat} {cell : α → Nat → Value} {A : Option Addr} {n c : Nat} {l : List α} (h : Own w b e sz cell (.slice A n c) l) : n ≤ 9223372036854775807 := by
  rcases h.2 with ⟨h1, h2⟩ | ⟨g, cap, cur, hv, h3, h4, h5, h6, h7, h8⟩
  · injection h1 with _ a b
    omega
  · injection hv with _ a b
    have : maxLen = 9223372036854775807 := rfl
    omega
set_option maxHeartbeats 1000000 in
theorem less_any : HeapW.LessOk 64 HeapW.ltP := by
  intro W base a am b x xm y ha hx
  obtain ⟨A1, n1, c1⟩ := a
  obtain ⟨A2, n2, c2⟩ := x
  have e1 : Own W base 3 1 ci (.slice A1 n1 c1) b := ha
  have e2 : Own W base 3 1 ci (.slice A2 n2 c2) y := hx
  have hn1 := own_capsC e1
  have hn2 := own_capsC e2
  obtain ⟨l1, s1⟩ := e1.sl
  obtain ⟨l2, s2⟩ := e2.sl
  have hB : Below W.heap.size W ((W.alloc (.cells #[.slice A1 n1 c1, .int .i64 am] 36)).alloc (.cells #[.slice A2 n2 c2, .int .i64 xm] 36)) := ((Below.refl _ _).alloc (Nat.le_refl _) _).alloc (by simp) _
  have kc := compare_int A1 A2 n1 n2 c1 c2 b y _ _ ((s1.keep hB (Nat.le_refl _)).more hB.size) ((s2.keep hB (Nat.le_refl _)).more hB.size) l1.symm l2.symm hn1 hn2
  have hr : HeapW.ltP ((A1, n1, c1), am, b) ((A2, n2, c2), xm, y) = (decide (am < xm) || (decide (am = xm) && decide (cmpL b y < 0))) := by
    unfold HeapW.ltP YenLaw.ltY
    congr 2
    rw [Bool.eq_iff_iff, decide_eq_true_eq]
    exact (cmpL_lt b y).symm
  rw [hr]
  obtain ⟨cv, hcv⟩ : ∃ cv, cmpL b y = cv := ⟨_, rfl⟩
  rw [hcv] at kc ⊢
  have KC := Lib.hid kc
  clear kc hr ha hx e1 e2 l1 l2 s1 s2 hn1 hn2 hcv
  by_cases h1 : am < xm
  · rw [decide_eq_true h1]
    clear KC
    go_enter Try.func64, Try.ntmps64
    go_wp2
    go_ret
    exact ⟨rfl, hB⟩
  · by_cases h2 : am = xm
    · subst h2
      have hd : (decide (am < am) || (decide (am = am) && decide (cv < 0))) = decide (cv < 0) := by simp
      rw [hd]
      clear hd h1
      go_enter Try.func64, Try.ntmps64
      go_wp2_with fail
      refine KC.out.mono ?_
      rintro e w2 ⟨rfl, hw2⟩
      subst hw2
      go_wp2
      go_ret
      exact ⟨by simp, hB⟩
    · have hd : (decide (am < xm) || (decide (am = xm) && decide (cv < 0))) = false := by simp [h1, h2]
      have he : (am == xm) = false := beq_eq_false_iff_ne.2 h2
      rw [hd]
      clear hd KC h2
      go_enter Try.func64, Try.ntmps64
      go_wp2
      go_ret
      exact ⟨by simp, hB⟩
end Go.Proofs.Ytamphgcpfncenaa.Std
