/- Plain facts on ground as text: what is printed is read again, what was read is printed again. -/
import Derived.RowKit
import Derived.Lib.IndexLaws
import Derived.Test.YtlcgkbkmfelcfaaGridLaw
namespace Go.Proofs.Ytlcgkbkmfelcfaa.MapsLaw
open Go.Proofs.Ytlcgkbkmfelcfaa GridLaw
set_option linter.unusedSimpArgs false
set_option linter.unusedVariables false
abbrev signs : List UInt8 := [35, 49, 50, 51, 52, 53, 54, 55, 56, 57]
def sg (c : Int) : UInt8 := signs.getD c.toNat 35
def pr (W : Nat) : Nat → List Int → List UInt8
  | _, [] => []
  | i, c :: r => sg c :: (if (i + 1) % W = 0 then 10 :: pr W (i + 1) r else pr W (i + 1) r)
def sx (b : UInt8) : Int := Lib.indexByte signs b
def rd (w : Nat) : Nat → List UInt8 → Option (List Int)
  | _, [] => some []
  | i, b :: r => if i % (w + 1) = w then (if b = 10 then rd w (i + 1) r else none) else if sx b < 0 then none else (rd w (i + 1) r).map (sx b :: ·)
theorem ten {c : Int} (h0 : 0 ≤ c) (h9 : c ≤ 9) : c = 0 ∨ c = 1 ∨ c = 2 ∨ c = 3 ∨ c = 4 ∨ c = 5 ∨ c = 6 ∨ c = 7 ∨ c = 8 ∨ c = 9 := by omega
theorem sg_bd {c : Int} (h0 : 0 ≤ c) (h9 : c ≤ 9) : sx (sg c) = c ∧ sg c ≠ 10 := by
  rcases ten h0 h9 with rfl | rfl | rfl | rfl | rfl | rfl | rfl | rfl | rfl | rfl <;> decide
theorem sx_bd {b : UInt8} (h : ¬ sx b < 0) : 0 ≤ sx b ∧ sx b ≤ 9 ∧ sg (sx b) = b := by
  obtain ⟨o, ho⟩ : ∃ o : Nat, sx b = o := ⟨(sx b).toNat, by omega⟩
  have h1 : signs[o]? = some b := (Lib.indexByte_some ho).1
  have h2 : o < 10 := (List.getElem?_eq_some_iff.1 h1).1
  refine ⟨by omega, by omega, ?_⟩
  rw [ho, sg, Int.toNat_natCast, List.getD_eq_getElem?_getD, h1]
  rfl
theorem next (m i : Nat) (hm : 0 < m) : (i % m + 1 < m ∧ (i + 1) % m = i % m + 1 ∧ (i + 1) / m = i / m) ∨ (i % m + 1 = m ∧ (i + 1) % m = 0 ∧ (i + 1) / m = i / m + 1) := by
  have e := Nat.div_add_mod i m
  have hl := Nat.mod_lt i hm
  have h1 : i + 1 = (i % m + 1) + m * (i / m) := by omega
  rcases Nat.lt_or_ge (i % m + 1) m with h | h
  · refine .inl ⟨h, ?_, ?_⟩
    · rw [h1, Nat.add_mul_mod_self_left, Nat.mod_eq_of_lt h]
    · rw [h1, Nat.add_mul_div_left _ _ hm, Nat.div_eq_of_lt h]
      omega
  · have h2 : i % m + 1 = m := by omega
    refine .inr ⟨h2, ?_, ?_⟩
    · rw [h1, Nat.add_mul_mod_self_left, h2, Nat.mod_self]
    · rw [h1, Nat.add_mul_div_left _ _ hm, h2, Nat.div_self hm]
      omega
theorem at_ (W i : Nat) (hW : 0 < W) : (i + i / W) % (W + 1) = i % W := by
  have e := Nat.div_add_mod i W
  have hl := Nat.mod_lt i hW
  have h1 : i + i / W = i % W + (W + 1) * (i / W) := by rw [Nat.succ_mul]; omega
  rw [h1, Nat.add_mul_mod_self_left, Nat.mod_eq_of_lt (by omega)]
theorem rd_pr {W : Nat} (hW : 0 < W) : ∀ (r : List Int) (i : Nat), (∀ c ∈ r, 0 ≤ c ∧ c ≤ 9) → rd W (i + i / W) (pr W i r) = some r
  | [], i, _ => rfl
  | c :: r, i, h => by
    have hj := at_ W i hW
    have hl := Nat.mod_lt i hW
    obtain ⟨h0, h9⟩ := h c (List.mem_cons_self ..)
    obtain ⟨hs, hne⟩ := sg_bd h0 h9
    have ih := rd_pr hW r (i + 1) fun z hz => h z (List.mem_cons_of_mem _ hz)
    rcases next W i hW with ⟨h1, h2, h3⟩ | ⟨h1, h2, h3⟩
    · rw [pr, if_neg (by omega), rd, if_neg (by omega), hs, if_neg (by omega), show i + i / W + 1 = i + 1 + (i + 1) / W by omega, ih]
      rfl
    · have hk : (i + i / W + 1) % (W + 1) = W := by
        rcases next (W + 1) (i + i / W) (by omega) with ⟨_, h5, _⟩ | ⟨h5, _, _⟩
        · omega
        · omega
      rw [pr, if_pos h2, rd, if_neg (by omega), hs, if_neg (by omega), rd, if_pos hk, if_pos rfl, show i + i / W + 1 + 1 = i + 1 + (i + 1) / W by omega, ih]
      rfl
theorem pr_len {W : Nat} (hW : 0 < W) : ∀ (r : List Int) (i : Nat), (pr W i r).length + i / W = r.length + (i + r.length) / W
  | [], i => by simp [pr]
  | c :: r, i => by
    have ih := pr_len hW r (i + 1)
    have e : i + (c :: r).length = i + 1 + r.length := by rw [List.length_cons]; omega
    rw [e, List.length_cons]
    rcases next W i hW with ⟨h1, h2, h3⟩ | ⟨h1, h2, h3⟩
    · rw [pr, if_neg (by omega), List.length_cons]
      omega
    · rw [pr, if_pos h2, List.length_cons, List.length_cons]
      omega
theorem pr_idx {W : Nat} (hW : 0 < W) : ∀ (r : List Int) (i : Nat), (∀ c ∈ r, 0 ≤ c ∧ c ≤ 9) → W ≤ i % W + r.length → Lib.indexByte (pr W i r) 10 = ((W - i % W : Nat) : Int)
  | [], i, _, h => by
    have := Nat.mod_lt i hW
    simp at h
    omega
  | c :: r, i, h, hr => by
    have hl := Nat.mod_lt i hW
    obtain ⟨h0, h9⟩ := h c (List.mem_cons_self ..)
    obtain ⟨_, hne⟩ := sg_bd h0 h9
    have hb : (sg c == 10) = false := by simp [hne]
    rw [List.length_cons] at hr
    rcases next W i hW with ⟨h1, h2, h3⟩ | ⟨h1, h2, h3⟩
    · have ih := pr_idx hW r (i + 1) (fun z hz => h z (List.mem_cons_of_mem _ hz)) (by omega)
      rw [pr, if_neg (by omega), Lib.indexByte, hb, ih]
      have hn : (((W - (i + 1) % W : Nat) : Int) == -1) = false := by rw [beq_eq_false_iff_ne]; omega
      rw [hn]
      simp only [Bool.false_eq_true, if_false]
      omega
    · rw [pr, if_pos h2, Lib.indexByte, hb, Lib.indexByte]
      have hn : ((10 : UInt8) == 10) = true := rfl
      rw [hn]
      simp
      omega
theorem pr_snoc {W : Nat} : ∀ (r : List Int) (i : Nat) (c : Int), pr W i (r ++ [c]) = pr W i r ++ (sg c :: if (i + r.length + 1) % W = 0 then [10] else [])
  | [], i, c => by simp [pr]
  | d :: r, i, c => by
    have ih := pr_snoc (W := W) r (i + 1) c
    rw [List.cons_append, pr, ih, pr, List.length_cons, show i + 1 + r.length + 1 = i + (r.length + 1) + 1 by omega]
    split <;> simp
theorem pr_small {W : Nat} (hW : 0 < W) (l : List Int) (k : Nat) : (pr W 0 (l.take k)).length ≤ 2 * k := by
  have h1 := pr_len hW (l.take k) 0
  rw [Nat.zero_add, Nat.zero_div] at h1
  have h2 := Nat.div_le_self (l.take k).length W
  have h3 : (l.take k).length ≤ k := by rw [List.length_take]; omega
  omega
theorem pr_step {W : Nat} (l : List Int) (k : Nat) (h : k < l.length) : pr W 0 (l.take (k + 1)) = pr W 0 (l.take k) ++ (sg l[k] :: if (k + 1) % W = 0 then [10] else []) := by
  rw [List.take_succ_eq_append_getElem h, pr_snoc, List.length_take, Nat.min_eq_left (by omega), Nat.zero_add]
/-- how many cells stand ahead of a place in the text -/
def kk (w j : Nat) : Nat := w * (j / (w + 1)) + j % (w + 1)
theorem kk_next (w j : Nat) : (j % (w + 1) < w ∧ kk w (j + 1) = kk w j + 1) ∨ (j % (w + 1) = w ∧ kk w (j + 1) = kk w j) := by
  unfold kk
  rcases next (w + 1) j (by omega) with ⟨h1, h2, h3⟩ | ⟨h1, h2, h3⟩
  · refine .inl ⟨by omega, ?_⟩
    rw [h2, h3]
    omega
  · refine .inr ⟨by omega, ?_⟩
    rw [h2, h3, Nat.mul_add]
    omega
theorem rd_len {w : Nat} : ∀ (s : List UInt8) (i : Nat) (l : List Int), rd w i s = some l → l.length + kk w i = kk w (i + s.length)
  | [], i, l, h => by
    injection h with h
    subst h
    simp
  | b :: s, i, l, h => by
    rw [rd] at h
    rw [List.length_cons, show i + (s.length + 1) = i + 1 + s.length by omega]
    rcases kk_next w i with ⟨h1, h2⟩ | ⟨h1, h2⟩
    · rw [if_neg (by omega)] at h
      split at h
      · cases h
      · obtain ⟨l', h3, rfl⟩ := Option.map_eq_some_iff.1 h
        have := rd_len s (i + 1) l' h3
        rw [List.length_cons]
        omega
    · rw [if_pos h1] at h
      split at h
      · have := rd_len s (i + 1) l h
        omega
      · cases h
theorem rd_bd {w : Nat} : ∀ (s : List UInt8) (i : Nat) (l : List Int), rd w i s = some l → ∀ c ∈ l, 0 ≤ c ∧ c ≤ 9
  | [], i, l, h => by
    injection h with h
    subst h
    simp
  | b :: s, i, l, h => by
    rw [rd] at h
    split at h
    · split at h
      · exact rd_bd s (i + 1) l h
      · cases h
    · split at h
      · cases h
      · rename_i hs
        obtain ⟨l', h3, rfl⟩ := Option.map_eq_some_iff.1 h
        have h4 := rd_bd s (i + 1) l' h3
        intro c hc
        rcases List.mem_cons.1 hc with rfl | hc
        · exact ⟨(sx_bd hs).1, (sx_bd hs).2.1⟩
        · exact h4 c hc
theorem pr_rd {w : Nat} (hw : 0 < w) : ∀ (n : Nat) (s : List UInt8) (i : Nat) (l : List Int), s.length ≤ n → rd w i s = some l → (i + s.length) % (w + 1) = 0 → (i % (w + 1) < w) → pr w (kk w i) l = s
  | 0, s, i, l, hn, h, _, _ => by
    obtain rfl : s = [] := List.eq_nil_of_length_eq_zero (by omega)
    injection h with h
    subst h
    rfl
  | n + 1, [], i, l, hn, h, _, _ => by
    injection h with h
    subst h
    rfl
  | n + 1, b :: s, i, l, hn, h, he, hi => by
    rw [rd, if_neg (by omega)] at h
    split at h
    · cases h
    rename_i hs
    obtain ⟨l', h3, rfl⟩ := Option.map_eq_some_iff.1 h
    obtain ⟨_, _, hsg⟩ := sx_bd hs
    rw [List.length_cons] at hn he
    have hkm : kk w i % w = i % (w + 1) := by
      unfold kk
      rw [Nat.add_comm, Nat.add_mul_mod_self_left, Nat.mod_eq_of_lt hi]
    rcases next (w + 1) i (by omega) with ⟨h1, h2, _⟩ | ⟨h1, _, _⟩
    · rcases kk_next w i with ⟨_, h4⟩ | ⟨h4, _⟩
      · rcases Nat.lt_or_ge (i % (w + 1) + 1) w with h5 | h5
        · have h6 : ¬ (kk w i + 1) % w = 0 := by
            rcases next w (kk w i) hw with ⟨_, h7, _⟩ | ⟨h7, _, _⟩ <;> omega
          rw [pr, if_neg h6, hsg, ← h4, pr_rd hw n s (i + 1) l' (by omega) h3 (by rw [← he]; congr 1; omega) (by omega)]
        · have h6 : (kk w i + 1) % w = 0 := by
            rcases next w (kk w i) hw with ⟨h7, _, _⟩ | ⟨_, h7, _⟩
            · omega
            · exact h7
          have hat : (i + 1) % (w + 1) = w := by omega
          match s, hn, he, h3 with
          | [], hn, he, h3 =>
            rw [List.length_nil, Nat.zero_add] at he
            omega
          | d :: s, hn, he, h3 =>
            rw [rd, if_pos hat] at h3
            split at h3
            · rename_i hd
              subst hd
              rcases next (w + 1) (i + 1) (by omega) with ⟨h8, _, _⟩ | ⟨_, h8, _⟩
              · omega
              · rcases kk_next w (i + 1) with ⟨h9, _⟩ | ⟨_, h9⟩
                · omega
                · rw [List.length_cons] at hn he
                  rw [pr, if_pos h6, hsg, ← h4, ← h9, pr_rd hw n s (i + 1 + 1) l' (by omega) h3 (by rw [← he]; congr 1; omega) (by omega)]
            · cases h3
      · omega
    · omega
/-- what a text reads as -/
structure Rd (s : List UInt8) (W H : Nat) (l : List Int) : Prop where
  idx : Lib.indexByte s 10 = W
  w1 : 1 ≤ W
  w8 : W ≤ 8
  len : s.length = (W + 1) * H
  h8 : H ≤ 8
  told : rd W 0 s = some l
theorem Rd.good {s : List UInt8} {W H : Nat} {l : List Int} (h : Rd s W H l) : GGood (W : Int) (H : Int) l := by
  have h1 := (Lib.indexByte_some h.idx).1
  have h2 := (List.getElem?_eq_some_iff.1 h1).1
  have hH : 1 ≤ H := by
    rcases Nat.eq_zero_or_pos H with h0 | h0
    · have := h.len
      rw [h0, Nat.mul_zero] at this
      omega
    · exact h0
  have hl := rd_len s 0 l h.told
  rw [Nat.zero_add, h.len] at hl
  have e0 : kk W 0 = 0 := by simp [kk]
  have e1 : kk W ((W + 1) * H) = W * H := by
    unfold kk
    rw [Nat.mul_div_cancel_left _ (by omega), Nat.mul_mod_right, Nat.add_zero]
  rw [e0, e1, Nat.add_zero] at hl
  have := h.w1
  have := h.w8
  have := h.h8
  exact ⟨by omega, by omega, by omega, by omega, by rw [hl]; rfl, rd_bd s 0 l h.told⟩
theorem Rd.back {s : List UInt8} {W H : Nat} {l : List Int} (h : Rd s W H l) : pr W 0 l = s := by
  have hw := h.w1
  have := pr_rd hw s.length s 0 l (Nat.le_refl _) h.told (by rw [Nat.zero_add, h.len, Nat.mul_mod_right]) (by simp; omega)
  have e0 : kk W 0 = 0 := by simp [kk]
  rwa [e0] at this
theorem Rd.unique {s : List UInt8} {W H W' H' : Nat} {l l' : List Int} (h : Rd s W H l) (k : Rd s W' H' l') : W' = W ∧ H' = H ∧ l' = l := by
  have e1 : W' = W := by
    have := h.idx.symm.trans k.idx
    omega
  subst e1
  have e2 : H' = H := by
    have := h.len.symm.trans k.len
    exact (Nat.eq_of_mul_eq_mul_left (by omega) this).symm
  subst e2
  have := h.told.symm.trans k.told
  injection this with this
  exact ⟨rfl, rfl, this.symm⟩
theorem rd_of_good {W H : Int} {l : List Int} (h : GGood W H l) : Rd (pr W.toNat 0 l) W.toNat H.toNat l := by
  have hw := h.w1
  have hw8 := h.w8
  have hh := h.h1
  have hh8 := h.h8
  obtain ⟨a, rfl⟩ : ∃ a : Nat, W = a := ⟨W.toNat, by omega⟩
  obtain ⟨b, rfl⟩ : ∃ b : Nat, H = b := ⟨H.toNat, by omega⟩
  simp only [Int.toNat_natCast]
  have hl : l.length = a * b := by exact_mod_cast h.len
  have ha : 0 < a := by omega
  have h1 := pr_len ha l 0
  rw [Nat.zero_add, hl, Nat.mul_div_cancel_left _ ha] at h1
  have hab : a * 1 ≤ a * b := Nat.mul_le_mul_left a (by omega)
  refine ⟨?_, by omega, by omega, ?_, by omega, ?_⟩
  · rw [pr_idx ha l 0 h.cell (by rw [hl]; simp; omega)]
    simp
  · rw [Nat.succ_mul]
    simp at h1
    omega
  · have := rd_pr ha l 0 h.cell
    simpa using this
end Go.Proofs.Ytlcgkbkmfelcfaa.MapsLaw
