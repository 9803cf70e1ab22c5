/- Go's cmp.Compare at int and slices.Compare at []int; yen.less. -/
/- The closure of fellwalker/yen.K$1, and ContainsFunc with it. -/
import Derived.Test.YtjebckehmmbkbaaVHeapWay
import Derived.Test.YtjebckehmmbkbaaVQueue
namespace Go.Proofs.Ytjebckehmmbkbaa.Std
open Go.RowKit Go.Proofs.Ytjebckehmmbkbaa YenLaw
set_option linter.unusedSimpArgs false
set_option linter.unusedVariables false
/-- what slices.Compare answers -/
def cmpL : List Int → List Int → Int
  | [], [] => 0
  | [], _ :: _ => -1
  | _ :: _, [] => 1
  | x :: a, y :: b => if x < y then -1 else if y < x then 1 else cmpL a b
theorem cmpL_lt (a b : List Int) : cmpL a b < 0 ↔ lexlt a b = true := by
  induction a generalizing b with
  | nil => cases b with
    | nil => simp [cmpL, lexlt]
    | cons y b => simp [cmpL, lexlt]
  | cons x a ih => cases b with
    | nil => simp [cmpL, lexlt]
    | cons y b =>
      rw [lexlt_cons, cmpL]
      split
      · simp; omega
      · split
        · simp; omega
        · rw [ih]
          have : x = y := by omega
          simp [this]
theorem cmpL_bd (a b : List Int) : -1 ≤ cmpL a b ∧ cmpL a b ≤ 1 := by
  induction a generalizing b with
  | nil => cases b <;> simp [cmpL]
  | cons x a ih => cases b with
    | nil => simp [cmpL]
    | cons y b =>
      rw [cmpL]
      split
      · omega
      · split
        · omega
        · exact ih b
theorem nan_int (x : Int) (w : World) : Calls Try.prog 54 #[.int .i64 x] w fun e w' => e = .returned (.bool false) ∧ w' = w := by
  go_enter Try.func54, Try.ntmps54
  go_wp2
  go_ret
  exact ⟨by simp, rfl⟩
theorem cmp_int (x y : Int) (w : World) (r : Int) (hr : (if x < y then -1 else if y < x then 1 else 0) = r) : Calls Try.prog 41 #[.int .i64 x, .int .i64 y] w fun e w' => e = .returned (.int .i64 r) ∧ w' = w := by
  have K1 := Lib.hid (nan_int x w)
  have K2 := Lib.hid (nan_int y w)
  go_enter Try.func41, Try.ntmps41
  go_wp2_with fail
  refine K1.out.mono ?_
  rintro e w1 ⟨rfl, hw1⟩
  subst hw1
  go_wp2_with fail
  refine K2.out.mono ?_
  rintro e w2 ⟨rfl, hw2⟩
  subst hw2
  clear K1 K2
  by_cases h1 : x < y
  · rw [if_pos h1] at hr
    subst hr
    go_wp2
    go_ret
    exact ⟨rfl, rfl⟩
  · rw [if_neg h1] at hr
    by_cases h2 : y < x
    · rw [if_pos h2] at hr
      subst hr
      go_wp2
      go_ret
      exact ⟨rfl, rfl⟩
    · rw [if_neg h2] at hr
      subst hr
      go_wp2
      go_ret
      exact ⟨rfl, rfl⟩
set_option maxHeartbeats 1000000 in
theorem compare_int (A A' : Option Addr) (n m c c' : Nat) (l r : List Int) (B : Nat) (w : World) (hl : Sl w B 1 ci A l) (hm : Sl w B 1 ci A' r) (hn : l.length = n) (hm' : r.length = m) (hlen : n ≤ 9223372036854775807) (hlen' : m ≤ 9223372036854775807) :
    Calls Try.prog 35 #[.slice A n c, .slice A' m c'] w fun e w' => e = .returned (.int .i64 (cmpL l r)) ∧ w' = w := by
  subst hn hm'
  go_enter Try.func35, Try.ntmps35
  go_wp2
  go_loopw [11] (fun i wr => ∃ k : Nat, k ≤ l.length ∧ k ≤ r.length ∧ i = .int .i64 k ∧ Hid (cmpL (l.drop k) (r.drop k) = cmpL l r) ∧ wr = w) (fun i _ => l.length - (intOf i).toNat)
  case atStart => exact ⟨0, Nat.zero_le _, Nat.zero_le _, rfl, Lib.hid (by simp), rfl⟩
  case round =>
    obtain ⟨k, hk, hkr, rfl, HC, hw⟩ := hrel
    subst hw
    by_cases hlt : k < l.length
    · obtain ⟨bb, off, hA, hbb, hx⟩ := hl.atI hlt
      have hd1 : l.drop k = l[k] :: l.drop (k + 1) := List.drop_eq_getElem_cons hlt
      by_cases hlr : k < r.length
      · obtain ⟨bb', off', hA', hbb', hy⟩ := hm.atI hlr
        have hd2 : r.drop k = r[k] :: r.drop (k + 1) := List.drop_eq_getElem_cons hlr
        have hc := HC.out
        rw [hd1, hd2, cmpL] at hc
        generalize l[k] = x at hc hx hd1
        generalize r[k] = y at hc hy hd2
        subst hA hA'
        have hg : ¬ ((k : Int) ≥ (r.length : Int)) := by omega
        by_cases h1 : x < y
        · rw [if_pos h1] at hc
          have HC1 := Lib.hid hc
          have kc := cmp_int x y wr (-1) (by rw [if_pos h1])
          have KC := Lib.hid kc
          clear hc kc HC hd1 hd2 h1
          go_wp2_with fail
          refine KC.out.mono ?_
          rintro e w2 ⟨rfl, hw2⟩
          subst hw2
          go_wp2
          go_ret
          exact ⟨by rw [← HC1.out]; rfl, by trivial⟩
        · rw [if_neg h1] at hc
          by_cases h2 : y < x
          · rw [if_pos h2] at hc
            have HC1 := Lib.hid hc
            have kc := cmp_int x y wr 1 (by rw [if_neg h1, if_pos h2])
            have KC := Lib.hid kc
            clear hc kc HC hd1 hd2 h1 h2
            go_wp2_with fail
            refine KC.out.mono ?_
            rintro e w2 ⟨rfl, hw2⟩
            subst hw2
            go_wp2
            go_ret
            exact ⟨by rw [← HC1.out]; rfl, by trivial⟩
          · rw [if_neg h2] at hc
            have HC1 := Lib.hid hc
            have kc := cmp_int x y wr 0 (by rw [if_neg h1, if_neg h2])
            have KC := Lib.hid kc
            clear hc kc HC hd1 hd2 h1 h2
            go_wp2_with fail
            refine KC.out.mono ?_
            rintro e w2 ⟨rfl, hw2⟩
            subst hw2
            go_wp2
            go_roundw
            case rel => exact ⟨k + 1, by omega, by omega, by go_num, HC1, by trivial⟩
            case measure => simp [intOf]; omega
      · have hk2 : k = r.length := by omega
        have hc := HC.out
        have hd2 : r.drop k = [] := List.drop_eq_nil_of_le (by omega)
        rw [hd1, hd2, cmpL] at hc
        have HC1 := Lib.hid hc
        have hg : ((k : Int) ≥ (r.length : Int)) := by omega
        generalize l[k] = x at hx hd1
        subst hA
        clear hc hd1 hd2 HC hk2 hlr
        go_wp2
        go_ret
        exact ⟨by rw [← HC1.out]; rfl, by trivial⟩
    · obtain rfl : k = l.length := by omega
      have hc := HC.out
      rw [List.drop_length] at hc
      by_cases hlr : l.length < r.length
      · have hd2 : r.drop l.length = r[l.length] :: r.drop (l.length + 1) := List.drop_eq_getElem_cons hlr
        rw [hd2, cmpL] at hc
        have HC1 := Lib.hid hc
        have hz : (l.length : Int) < (r.length : Int) := by omega
        clear hc hd2 HC
        go_wp2
        go_ret
        exact ⟨by rw [← HC1.out]; rfl, by trivial⟩
      · have hd2 : r.drop l.length = [] := List.drop_eq_nil_of_le (by omega)
        rw [hd2, cmpL] at hc
        have HC1 := Lib.hid hc
        have hz : ¬ (l.length : Int) < (r.length : Int) := by omega
        clear hc hd2 HC
        go_wp2
        go_ret
        exact ⟨by rw [← HC1.out]; rfl, by trivial⟩
theorem own_capsC {α : Type} {w : World} {b : Nat} {e : TypeId} {sz : Nat} {cell : α → Nat → Value} {A : Option Addr} {n c : Nat} {l : List α} (h : Own w b e sz cell (.slice A n c) l) : n ≤ 9223372036854775807 := by
  rcases h.2 with ⟨h1, h2⟩ | ⟨g, cap, cur, hv, h3, h4, h5, h6, h7, h8⟩
  · injection h1 with _ a b
    omega
  · injection hv with _ a b
    have : maxLen = 9223372036854775807 := rfl
    omega
set_option maxHeartbeats 1000000 in
theorem less_any : HeapW.LessOk 16 HeapW.ltP := by
  intro W base a am b x xm y ha hx
  obtain ⟨A1, n1, c1⟩ := a
  obtain ⟨A2, n2, c2⟩ := x
  have e1 : Own W base 3 1 ci (.slice A1 n1 c1) b := ha
  have e2 : Own W base 3 1 ci (.slice A2 n2 c2) y := hx
  have hn1 := own_capsC e1
  have hn2 := own_capsC e2
  obtain ⟨l1, s1⟩ := e1.sl
  obtain ⟨l2, s2⟩ := e2.sl
  have hB : Below W.heap.size W ((W.alloc (.cells #[.slice A1 n1 c1, .int .i64 am] 31)).alloc (.cells #[.slice A2 n2 c2, .int .i64 xm] 31)) := ((Below.refl _ _).alloc (Nat.le_refl _) _).alloc (by simp) _
  have kc := compare_int A1 A2 n1 n2 c1 c2 b y _ _ ((s1.keep hB (Nat.le_refl _)).more hB.size) ((s2.keep hB (Nat.le_refl _)).more hB.size) l1.symm l2.symm hn1 hn2
  have hr : HeapW.ltP ((A1, n1, c1), am, b) ((A2, n2, c2), xm, y) = (decide (am < xm) || (decide (am = xm) && decide (cmpL b y < 0))) := by
    unfold HeapW.ltP YenLaw.ltY
    congr 2
    rw [Bool.eq_iff_iff, decide_eq_true_eq]
    exact (cmpL_lt b y).symm
  rw [hr]
  obtain ⟨cv, hcv⟩ : ∃ cv, cmpL b y = cv := ⟨_, rfl⟩
  rw [hcv] at kc ⊢
  have KC := Lib.hid kc
  clear kc hr ha hx e1 e2 l1 l2 s1 s2 hn1 hn2 hcv
  by_cases h1 : am < xm
  · rw [decide_eq_true h1]
    clear KC
    go_enter Try.func16, Try.ntmps16
    go_wp2
    go_ret
    exact ⟨rfl, hB⟩
  · by_cases h2 : am = xm
    · subst h2
      have hd : (decide (am < am) || (decide (am = am) && decide (cv < 0))) = decide (cv < 0) := by simp
      rw [hd]
      clear hd h1
      go_enter Try.func16, Try.ntmps16
      go_wp2_with fail
      refine KC.out.mono ?_
      rintro e w2 ⟨rfl, hw2⟩
      subst hw2
      go_wp2
      go_ret
      exact ⟨by simp, hB⟩
    · have hd : (decide (am < xm) || (decide (am = xm) && decide (cv < 0))) = false := by simp [h1, h2]
      have he : (am == xm) = false := beq_eq_false_iff_ne.2 h2
      rw [hd]
      clear hd KC h2
      go_enter Try.func16, Try.ntmps16
      go_wp2
      go_ret
      exact ⟨by simp, hB⟩
end Go.Proofs.Ytjebckehmmbkbaa.Std

namespace Go.Proofs.Ytjebckehmmbkbaa.YenF
open Go.RowKit Go.Proofs.Ytjebckehmmbkbaa Go.Proofs.Ytjebckehmmbkbaa.Net Go.Proofs.Ytjebckehmmbkbaa.Std Go.Proofs.Ytjebckehmmbkbaa.HeapW
set_option linter.unusedSimpArgs false
set_option linter.unusedVariables false
/-- a row of ways in memory, each with its places -/
def WRow (w : World) (Ao : Option Addr) (O : List Pop) : Prop := Sl w w.heap.size 2 cw Ao O ∧ ∀ x ∈ O, ∃ B, Rd w B x
theorem WRow.keep {w w' : World} {Ao : Option Addr} {O : List Pop} (h : WRow w Ao O) (hb : Below w.heap.size w w') : WRow w' Ao O :=
  ⟨(h.1.keep hb (Nat.le_refl _)).more hb.size, fun x hx => by obtain ⟨B, hB⟩ := h.2 x hx; exact ⟨B, hB.keep hb⟩⟩
theorem WRow.at_ {w : World} {Ao : Option Addr} {O : List Pop} (h : WRow w Ao O) {k : Nat} (hk : k < O.length) : ∃ b off x xm p, Ao = some ⟨b, off, none⟩ ∧ b < w.heap.size ∧ O[k] = (x, xm, p) ∧ w.cell? ⟨b, off + k * 2, none⟩ = some (.slice x.1 x.2.1 x.2.2) ∧ w.cell? ⟨b, off + k * 2 + 1, none⟩ = some (.int .i64 xm) ∧ Sl w w.heap.size 1 ci x.1 p ∧ p.length = x.2.1 ∧ x.2.1 ≤ 9223372036854775807 := by
  obtain ⟨b, off, hA, hB, hc⟩ := h.1 (by omega)
  obtain ⟨B, hr⟩ := h.2 _ (List.getElem_mem hk)
  have hs := Own.sl hr
  exact ⟨b, off, (O[k]).1, (O[k]).2.1, (O[k]).2.2, hA, hB, rfl, hc k hk 0 (by omega), hc k hk 1 (by omega), hs.2, hs.1.symm, Std.own_capsC hr⟩
theorem same_fn (BW kq cq : Nat) (Aq : Option Addr) (q : List Int) (co : Int) (x : SV) (xm : Int) (p : List Int) (w : World) (hbox : w.heap[BW]? = some (.cells #[.slice Aq kq cq, .int .i64 co] 31 (0, 0))) (hq : Sl w w.heap.size 1 ci Aq q) (hkq : q.length = kq) (hp : Sl w w.heap.size 1 ci x.1 p) (hxp : p.length = x.2.1) (hlen : x.2.1 ≤ 9223372036854775807) :
    Calls Try.prog 22 #[.agg #[.slice x.1 x.2.1 x.2.2, .int .i64 xm], .pointer (some ⟨BW, 0, none⟩)] w fun e w' => e = .returned (.bool (decide (p = q))) ∧ Below w.heap.size w w' := by
  have hB : Below w.heap.size w (w.alloc (.cells #[.slice x.1 x.2.1 x.2.2, .int .i64 xm] 31)) := (Below.refl _ _).alloc (Nat.le_refl _) _
  have key := equal_int' x.1 Aq x.2.1 kq x.2.2 cq p q _ _ _ ((hp.keep hB (Nat.le_refl _)).more hB.size) ((hq.keep hB (Nat.le_refl _)).more hB.size) hxp hkq hlen _ rfl
  have hbz := lt_of_block hbox
  have c0 := blk_cell (blk_alloc hbox (.cells #[.slice x.1 x.2.1 x.2.2, .int .i64 xm] 31)) 0
  simp only [List.getElem?_toArray, List.getElem?_cons_zero, List.getElem?_cons_succ] at c0
  obtain ⟨b, hb⟩ : ∃ b, decide (p = q) = b := ⟨_, rfl⟩
  rw [hb] at key ⊢
  have KEY := Lib.hid key
  obtain ⟨A1, n1, c1⟩ := x
  simp only at KEY hB c0 ⊢
  clear key hb hq hp hxp hkq hbox hlen
  go_enter Try.func22, Try.ntmps22
  go_wp2_with fail
  refine KEY.out.mono ?_
  rintro e w2 ⟨rfl, k, hk⟩
  subst hk
  have hB2 := below_drewN hB k
  have HB := Lib.hid hB2
  clear hB hB2 KEY
  go_wp2
  go_ret
  exact ⟨rfl, HB.out⟩
/-- the closure's value -/
def fnS (BW : Nat) : Value := .func (.func 22) #[] #[.pointer (some ⟨BW, 0, none⟩)]
set_option maxHeartbeats 1000000 in
theorem index_same (BW kq cq : Nat) (Aq : Option Addr) (q : List Int) (co : Int) (Ao : Option Addr) (mo cO : Nat) (O : List Pop) (w : World) (h : WRow w Ao O) (hmo : O.length = mo) (hbox : w.heap[BW]? = some (.cells #[.slice Aq kq cq, .int .i64 co] 31 (0, 0))) (hq : Sl w w.heap.size 1 ci Aq q) (hkq : q.length = kq) (hlen : mo ≤ 1000000) :
    Calls Try.prog 38 #[.slice Ao mo cO, fnS BW] w fun e w' => ∃ r : Int, e = .returned (.int .i64 r) ∧ (0 ≤ r ↔ q ∈ O.map (·.2.2)) ∧ Below w.heap.size w w' := by
  subst hmo
  unfold fnS
  have HW := Lib.hid h
  have HBX := Lib.hid hbox
  have HQ := Lib.hid hq
  clear h hbox hq
  go_enter Try.func38, Try.ntmps38
  go_wp2
  go_loopw [8] (fun i wr => ∃ k : Nat, k ≤ O.length ∧ i = .int .i64 k ∧ Hid (q ∉ (O.take k).map (·.2.2)) ∧ Hid (Below w.heap.size w wr)) (fun i _ => O.length - (intOf i).toNat)
  case atStart => exact ⟨0, Nat.zero_le _, rfl, Lib.hid (by simp), Lib.hid (Below.refl _ _)⟩
  case round =>
    obtain ⟨k, hk, rfl, HN, HB⟩ := hrel
    by_cases hlt : k < O.length
    · obtain ⟨b, off, x, xm, p, rfl, hb, he, cx, cm, hp, hpl, hpc⟩ := (HW.out.keep HB.out).at_ hlt
      have kc := same_fn BW kq cq Aq q co x xm p wr (blk_below HBX.out HB.out (lt_of_block HBX.out)) ((HQ.out.keep HB.out (Nat.le_refl _)).more HB.out.size) hkq hp hpl hpc
      have hsn : (O.take (k + 1)).map (·.2.2) = (O.take k).map (·.2.2) ++ [p] := by
        rw [List.take_succ_eq_append_getElem hlt, List.map_append, he]
        rfl
      obtain ⟨bo, hbo⟩ : ∃ bo, decide (p = q) = bo := ⟨_, rfl⟩
      rw [hbo] at kc
      have hin : p ∈ O.map (·.2.2) := List.mem_map.2 ⟨O[k], List.getElem_mem hlt, by rw [he]⟩
      have KC := Lib.hid kc
      have HBO := Lib.hid hbo
      have HIN := Lib.hid hin
      have HSN := Lib.hid hsn
      obtain ⟨A1, n1, c1⟩ := x
      simp only at KC cx hpl hpc
      clear kc hbo hin hsn he hp hpl
      go_wp2_with fail
      refine KC.out.mono ?_
      rintro e w2 ⟨rfl, hB2⟩
      have B2 := HB.out.trans (hB2.mono HB.out.size)
      have HB2 := Lib.hid B2
      clear hB2 B2 KC
      cases bo with
      | true =>
        go_wp2
        go_ret
        exact ⟨k, rfl, ⟨fun _ => by rw [← of_decide_eq_true HBO.out]; exact HIN.out, fun _ => by omega⟩, HB2.out⟩
      | false =>
        go_wp2
        go_roundw
        case rel => exact ⟨k + 1, by omega, by go_num, Lib.hid (by rw [HSN.out, List.mem_append, List.mem_singleton]; rintro (h | h); exact HN.out h; exact of_decide_eq_false HBO.out h.symm), HB2⟩
        case measure => simp [intOf]; omega
    · obtain rfl : k = O.length := by omega
      have hno : q ∉ O.map (·.2.2) := by have := HN.out; rwa [List.take_length] at this
      have HNO := Lib.hid hno
      clear hno
      go_wp2
      go_ret
      exact ⟨-1, rfl, ⟨fun h => absurd h (by omega), fun h => absurd h HNO.out⟩, HB.out⟩
theorem contains_same (BW kq cq : Nat) (Aq : Option Addr) (q : List Int) (co : Int) (Ao : Option Addr) (mo cO : Nat) (O : List Pop) (w : World) (h : WRow w Ao O) (hmo : O.length = mo) (hbox : w.heap[BW]? = some (.cells #[.slice Aq kq cq, .int .i64 co] 31 (0, 0))) (hq : Sl w w.heap.size 1 ci Aq q) (hkq : q.length = kq) (hlen : mo ≤ 1000000) (b : Bool) (hb : decide (q ∈ O.map (·.2.2)) = b) :
    Calls Try.prog 21 #[.slice Ao mo cO, fnS BW] w fun e w' => e = .returned (.bool b) ∧ Below w.heap.size w w' := by
  have key := index_same BW kq cq Aq q co Ao mo cO O w h hmo hbox hq hkq hlen
  unfold fnS at key ⊢
  have KEY := Lib.hid key
  have HB := Lib.hid hb
  clear key h hbox hq hb
  go_enter Try.func21, Try.ntmps21
  go_wp2_with fail
  refine KEY.out.mono ?_
  rintro e w1 ⟨r, rfl, hr, hB⟩
  have HR := Lib.hid hr
  clear hr KEY
  go_wp2
  go_ret
  exact ⟨ret_bool (by rw [← HB.out, Bool.eq_iff_iff, decide_eq_true_eq]; exact HR.out.trans decide_eq_true_iff.symm), hB⟩
end Go.Proofs.Ytjebckehmmbkbaa.YenF
