/- Plain facts on what lies between (Floyd, Warshall): no Go in sight. -/
import Derived.Test.YtjebckehmmbkbaaVDijkMoreLaw
namespace Go.Proofs.Ytjebckehmmbkbaa.FloydLaw
open NetLaw BellLaw
set_option linter.unusedSimpArgs false
set_option linter.unusedVariables false
abbrev Mx (T : Type) := Nat → Nat → T
def set2 {T : Type} (M : Mx T) (i j : Nat) (x : T) : Mx T := fun a b => if a = i ∧ b = j then x else M a b
section
variable {T : Type} (orf thn : T → T → T)
def stp (k i : Nat) (M : Mx T) (j : Nat) : Mx T := set2 M i j (orf (M i j) (thn (M i k) (M k j)))
def inn (k i : Nat) (M : Mx T) : Nat → Mx T
  | 0 => M
  | j + 1 => stp orf thn k i (inn k i M j) j
def mid (n k : Nat) (M : Mx T) : Nat → Mx T
  | 0 => M
  | i + 1 => inn orf thn k i (mid n k M i) n
def out (n : Nat) (M : Mx T) : Nat → Mx T
  | 0 => M
  | k + 1 => mid orf thn n k (out n M k) n
def ed1 (edge : E → T) (M : Mx T) (e : E) : Mx T := set2 M e.1.toNat e.2.1.toNat (orf (M e.1.toNat e.2.1.toNat) (edge e))
def eds (edge : E → T) (l : List E) (M : Mx T) : Mx T := l.foldl (ed1 orf edge) M
def ini (none self : T) : Mx T := fun i j => if i = j then self else none
def clo (none self : T) (edge : E → T) (n : Nat) (l : List E) : Mx T := out orf thn n (eds orf edge l (ini none self)) n

/-- where the middle's own row and column stay, a phase is one step for all -/
theorem inn_eq {n k i : Nat} {M C : Mx T} (hc : ∀ a, orf (M a k) (thn (M a k) (M k k)) = M a k) (hr : ∀ b, orf (M k b) (thn (M k k) (M k b)) = M k b)
    (hC : C = fun a b => if a < i ∧ b < n then orf (M a b) (thn (M a k) (M k b)) else M a b) (j : Nat) :
    inn orf thn k i C j = fun a b => if (a < i ∧ b < n) ∨ (a = i ∧ b < j) then orf (M a b) (thn (M a k) (M k b)) else M a b := by
  induction j with
  | zero =>
    rw [inn, hC]
    funext a b
    by_cases h : a < i ∧ b < n
    · rw [if_pos h, if_pos (.inl h)]
    · rw [if_neg h, if_neg (by omega)]
  | succ j ih =>
    rw [inn, ih]
    generalize hX : (fun a b => if (a < i ∧ b < n) ∨ (a = i ∧ b < j) then orf (M a b) (thn (M a k) (M k b)) else M a b) = X
    have hX' : ∀ a b, X a b = if (a < i ∧ b < n) ∨ (a = i ∧ b < j) then orf (M a b) (thn (M a k) (M k b)) else M a b := fun a b => by rw [← hX]
    have h1 : X i k = M i k := by rw [hX']; split <;> simp [hc]
    have h2 : X k j = M k j := by rw [hX']; split <;> simp [hr]
    have h3 : X i j = M i j := by rw [hX', if_neg (by omega)]
    funext a b
    rw [stp, h1, h2, h3, set2]
    by_cases h : a = i ∧ b = j
    · obtain ⟨rfl, rfl⟩ := h
      rw [if_pos ⟨rfl, rfl⟩, if_pos (by omega)]
    · rw [if_neg h, hX']
      by_cases h4 : (a < i ∧ b < n) ∨ (a = i ∧ b < j)
      · rw [if_pos h4, if_pos (by omega)]
      · rw [if_neg h4, if_neg (by omega)]
theorem mid_eq {n k : Nat} {M : Mx T} (hc : ∀ a, orf (M a k) (thn (M a k) (M k k)) = M a k) (hr : ∀ b, orf (M k b) (thn (M k k) (M k b)) = M k b) (i : Nat) :
    mid orf thn n k M i = fun a b => if a < i ∧ b < n then orf (M a b) (thn (M a k) (M k b)) else M a b := by
  induction i with
  | zero => rw [mid]; funext a b; rw [if_neg (by omega)]
  | succ i ih =>
    rw [mid, inn_eq orf thn hc hr ih n]
    funext a b
    by_cases h : (a < i ∧ b < n) ∨ (a = i ∧ b < n)
    · rw [if_pos h, if_pos (by omega)]
    · rw [if_neg h, if_neg (by omega)]
/-- what all steps keep, all phases keep -/
theorem inn_ind {P : Mx T → Prop} {n k i : Nat} (h : ∀ M i j, P M → P (stp orf thn k i M j)) {M : Mx T} (hM : P M) (j : Nat) : P (inn orf thn k i M j) := by
  induction j with
  | zero => exact hM
  | succ j ih => exact h _ _ _ ih
theorem mid_ind {P : Mx T → Prop} {n k : Nat} (h : ∀ M i j, P M → P (stp orf thn k i M j)) {M : Mx T} (hM : P M) (i : Nat) : P (mid orf thn n k M i) := by
  induction i with
  | zero => exact hM
  | succ i ih => exact inn_ind orf thn (n := n) h ih n
theorem out_ind {P : Mx T → Prop} {n : Nat} (h : ∀ k M i j, P M → P (stp orf thn k i M j)) {M : Mx T} (hM : P M) (k : Nat) : P (out orf thn n M k) := by
  induction k with
  | zero => exact hM
  | succ k ih => exact mid_ind orf thn (h k) ih n
end
/-- a picture of one ring in another -/
theorem map_inn {T U : Type} {orf thn : T → T → T} {orf' thn' : U → U → U} {φ : T → U} (h1 : ∀ a b, φ (orf a b) = orf' (φ a) (φ b)) (h2 : ∀ a b, φ (thn a b) = thn' (φ a) (φ b)) (k i : Nat) (M : Mx T) (j : Nat) :
    (fun a b => φ (inn orf thn k i M j a b)) = inn orf' thn' k i (fun a b => φ (M a b)) j := by
  induction j with
  | zero => rfl
  | succ j ih =>
    rw [inn, inn, ← ih]
    funext a b
    unfold stp set2
    split <;> simp [h1, h2]
theorem map_mid {T U : Type} {orf thn : T → T → T} {orf' thn' : U → U → U} {φ : T → U} (h1 : ∀ a b, φ (orf a b) = orf' (φ a) (φ b)) (h2 : ∀ a b, φ (thn a b) = thn' (φ a) (φ b)) (n k : Nat) (M : Mx T) (i : Nat) :
    (fun a b => φ (mid orf thn n k M i a b)) = mid orf' thn' n k (fun a b => φ (M a b)) i := by
  induction i with
  | zero => rfl
  | succ i ih => rw [mid, mid, ← ih, map_inn h1 h2]
theorem map_out {T U : Type} {orf thn : T → T → T} {orf' thn' : U → U → U} {φ : T → U} (h1 : ∀ a b, φ (orf a b) = orf' (φ a) (φ b)) (h2 : ∀ a b, φ (thn a b) = thn' (φ a) (φ b)) (n : Nat) (M : Mx T) (k : Nat) :
    (fun a b => φ (out orf thn n M k a b)) = out orf' thn' n (fun a b => φ (M a b)) k := by
  induction k with
  | zero => rfl
  | succ k ih => rw [out, out, ← ih, map_mid h1 h2]

/-! ### costs -/
def th (a b : Int) : Int := if a = far ∨ b = far then far else max (-far) (a + b)
def cst (e : E) : Int := e.2.2
def all (n : Nat) (l : List E) : Mx Int := clo min th far 0 cst n l
theorem far_pos : (0 : Int) < far := by decide
theorem th_rng {a b : Int} (ha : -far ≤ a ∧ a ≤ far) (hb : -far ≤ b ∧ b ≤ far) : -far ≤ th a b := by
  have := far_pos
  unfold th
  split <;> omega
theorem th_grow {a d : Int} (ha : -far ≤ a ∧ a ≤ far) (hd : 0 ≤ d) : a ≤ th a d ∧ a ≤ th d a := by
  unfold th
  constructor <;> split <;> omega
def Rng (M : Mx Int) : Prop := ∀ i j, -far ≤ M i j ∧ M i j ≤ far
theorem stp_rng {k i j : Nat} {M : Mx Int} (h : Rng M) : Rng (stp min th k i M j) := fun a b => by
  unfold stp set2
  split
  · have h1 := h i j
    have h2 := th_rng (h i k) (h k j)
    omega
  · exact h a b
theorem stp_le {k i j : Nat} {M M0 : Mx Int} (h : ∀ a b, M a b ≤ M0 a b) : ∀ a b, stp min th k i M j a b ≤ M0 a b := fun a b => by
  unfold stp set2
  split
  · rename_i e
    obtain ⟨rfl, rfl⟩ := e
    have := h a b
    omega
  · exact h a b
theorem out_rng {n k : Nat} {M : Mx Int} (h : Rng M) : Rng (out min th n M k) := out_ind min th (P := Rng) (fun _ _ _ _ h => stp_rng h) h k
theorem mid_le {n k i : Nat} {M : Mx Int} (a b : Nat) : mid min th n k M i a b ≤ M a b := mid_ind min th (n := n) (k := k) (P := fun X => ∀ a b, X a b ≤ M a b) (fun _ _ _ h => stp_le h) (fun _ _ => Int.le_refl _) i a b
theorem out_le {n : Nat} {M : Mx Int} {k m : Nat} (h : k ≤ m) (a b : Nat) : out min th n M m a b ≤ out min th n M k a b := by
  induction m with
  | zero => obtain rfl : k = 0 := by omega
            exact Int.le_refl _
  | succ m ih =>
    rcases Nat.lt_or_ge k (m + 1) with h1 | h1
    · exact Int.le_trans (mid_le a b) (ih (by omega))
    · obtain rfl : k = m + 1 := by omega
      exact Int.le_refl _
/-- the phase, where the middle costs nothing below 0 -/
theorem mid_min {n k : Nat} {M : Mx Int} (hR : Rng M) (hd : 0 ≤ M k k) (a b : Nat) (ha : a < n) (hb : b < n) : mid min th n k M n a b = min (M a b) (th (M a k) (M k b)) := by
  rw [mid_eq min th (fun a => by have := th_grow (hR a k) hd; omega) (fun b => by have := th_grow (hR k b) hd; omega) n]
  simp only [ha, hb, and_self, if_true]
/-- what holds between phases -/
structure FW (n k : Nat) (l : List E) (M : Mx Int) : Prop where
  rng : Rng M
  bd : ∀ i j, i < n → j < n → M i j < far → ∃ S : List Nat, S.Nodup ∧ (∀ m ∈ S, m < k) ∧ (∀ m ∈ S, M i m < far ∧ M m j < far ∧ M i m + M m j ≤ M i j) ∧ -(10000 * ((S.length : Int) + 1)) ≤ M i j ∧ M i j ≤ 10000 * ((S.length : Int) + 1)
  tri : ∀ i j m, i < n → j < n → m < k → M i m < far → M m j < far → M i j ≤ M i m + M m j
  wk : ∀ i j, i < n → j < n → M i j < far → Wk l i j (M i j)
theorem nodup_len {S : List Nat} {k : Nat} (h : S.Nodup) (hk : ∀ m ∈ S, m < k) : S.length ≤ k := by
  induction k generalizing S with
  | zero =>
    match S, hk with
    | [], _ => simp
    | a :: r, hk => exact absurd (hk a (by simp)) (by omega)
  | succ k ih =>
    have h1 : ∀ m ∈ S.erase k, m < k := fun m hm => by
      have h2 := (List.Nodup.mem_erase_iff h).1 hm
      have := hk m h2.2
      omega
    have := ih (List.Nodup.erase k h) h1
    have h3 := List.length_erase (a := k) (l := S)
    split at h3 <;> omega
theorem FW.small {n k : Nat} {l : List E} {M : Mx Int} (h : FW n k l M) (hk : k ≤ 64) {i j : Nat} (hi : i < n) (hj : j < n) (hf : M i j < far) : -650000 ≤ M i j ∧ M i j ≤ 650000 := by
  obtain ⟨S, h1, h2, _, h4, h5⟩ := h.bd i j hi hj hf
  have := nodup_len h1 h2
  omega
theorem FW.next {n k : Nat} {l : List E} {M : Mx Int} (h : FW n k l M) (hk : k < n) (hn : n ≤ 64) (hd : ∀ m, m < n → 0 ≤ mid min th n k M n m m) : FW n (k + 1) l (mid min th n k M n) := by
  have hle : ∀ a b, mid min th n k M n a b ≤ M a b := fun a b => mid_le a b
  have hkk : 0 ≤ M k k := Int.le_trans (hd k hk) (hle k k)
  have hrng : Rng (mid min th n k M n) := mid_ind min th (P := Rng) (fun _ _ _ h => stp_rng h) h.rng n
  have hfar : far = 1099511627776 := rfl
  have hv : ∀ a b, a < n → b < n → mid min th n k M n a b = min (M a b) (if M a k < far ∧ M k b < far then M a k + M k b else far) := fun a b ha hb => by
    rw [mid_min h.rng hkk a b ha hb, th]
    have r1 := h.rng a k
    have r2 := h.rng k b
    by_cases c1 : M a k < far
    · by_cases c2 : M k b < far
      · have s1 := h.small (by omega) ha hk c1
        have s2 := h.small (by omega) hk hb c2
        rw [if_neg (by omega), if_pos ⟨c1, c2⟩]
        omega
      · rw [if_pos (by omega), if_neg (by omega)]
    · rw [if_pos (by omega), if_neg (by omega)]
  generalize mid min th n k M n = M' at *
  have small : ∀ a b, a < n → b < n → M a b < far → -650000 ≤ M a b ∧ M a b ≤ 650000 := fun a b ha hb => h.small (by omega) ha hb
  refine ⟨hrng, fun i j hi hj hf => ?_, fun i j m hi hj hm f1 f2 => ?_, fun i j hi hj hf => ?_⟩
  · have hij := hv i j hi hj
    by_cases hlt : M' i j < M i j
    · have hcond : M i k < far ∧ M k j < far := by
        by_cases c : M i k < far ∧ M k j < far
        · exact c
        · rw [if_neg c] at hij
          have := (h.rng i j).2
          omega
      obtain ⟨c1, c2⟩ := hcond
      rw [if_pos ⟨c1, c2⟩] at hij
      have hval : M' i j = M i k + M k j := by omega
      obtain ⟨S1, p1, p2, p3, p4, p5⟩ := h.bd i k hi hk c1
      obtain ⟨S2, q1, q2, q3, q4, q5⟩ := h.bd k j hk hj c2
      have hdis : ∀ m, m ∈ S1 → m ∈ S2 → False := fun m m1 m2 => by
        have hm := p2 m m1
        obtain ⟨a1, a2, a3⟩ := p3 m m1
        obtain ⟨b1, b2, b3⟩ := q3 m m2
        have t1 := h.tri i j m hi hj hm a1 b2
        have dm := hd m (by omega)
        have vm := hv m m (by omega) (by omega)
        rw [if_pos ⟨a2, b1⟩] at vm
        omega
      refine ⟨S1 ++ k :: S2, ?_, fun m hm => ?_, fun m hm => ?_, ?_, ?_⟩
      · rw [List.nodup_append]
        refine ⟨p1, List.nodup_cons.2 ⟨fun hm => by have := q2 k hm; omega, q1⟩, fun a ha b hb e => ?_⟩
        subst e
        rcases List.mem_cons.1 hb with e | e
        · subst e; have := p2 _ ha; omega
        · exact hdis a ha e
      · rcases List.mem_append.1 hm with hm | hm
        · have := p2 m hm; omega
        · rcases List.mem_cons.1 hm with e | e
          · omega
          · have := q2 m e; omega
      · rcases List.mem_append.1 hm with hm | hm
        · have hmk := p2 m hm
          obtain ⟨a1, a2, a3⟩ := p3 m hm
          have v1 := hv m j (by omega) hj
          rw [if_pos ⟨a2, c2⟩] at v1
          have l1 := hle i m
          have s1 := small m k (by omega) hk a2
          have s2 := small k j hk hj c2
          exact ⟨by omega, by omega, by omega⟩
        · rcases List.mem_cons.1 hm with e | e
          · subst e
            have l1 := hle i m
            have l2 := hle m j
            exact ⟨by omega, by omega, by omega⟩
          · have hmk := q2 m e
            obtain ⟨a1, a2, a3⟩ := q3 m e
            have v1 := hv i m hi (by omega)
            rw [if_pos ⟨c1, a1⟩] at v1
            have l1 := hle m j
            have s1 := small i k hi hk c1
            have s2 := small k m hk (by omega) a1
            exact ⟨by omega, by omega, by omega⟩
      · simp only [List.length_append, List.length_cons]; omega
      · simp only [List.length_append, List.length_cons]; omega
    · have he : M' i j = M i j := by have := hle i j; omega
      rw [he] at hf ⊢
      obtain ⟨S, p1, p2, p3, p4, p5⟩ := h.bd i j hi hj hf
      refine ⟨S, p1, fun m hm => by have := p2 m hm; omega, fun m hm => ?_, p4, p5⟩
      obtain ⟨a1, a2, a3⟩ := p3 m hm
      have l1 := hle i m
      have l2 := hle m j
      exact ⟨by omega, by omega, by omega⟩
  · have v1 := hv i j hi hj
    have v2 := hv i m hi (by omega)
    have v3 := hv m j (by omega) hj
    have sij := small i j hi hj
    have sik := small i k hi hk
    have skj := small k j hk hj
    have skm := small k m hk (by omega)
    have smk := small m k (by omega) hk
    have sim := small i m hi (by omega)
    have smj := small m j (by omega) hj
    rcases (show m < k ∨ m = k by omega) with hm | rfl
    · have t1 := h.tri i j m hi hj hm
      have t2 := h.tri k j m hk hj hm
      have t3 := h.tri i k m hi hk hm
      have t4 := h.tri k k m hk hk hm
      by_cases c1 : M i k < far <;> by_cases c2 : M k j < far <;> by_cases c3 : M k m < far <;> by_cases c4 : M m k < far <;> by_cases c5 : M i m < far <;> by_cases c6 : M m j < far <;> simp only [c1, c2, c3, c4, c5, c6, and_self, and_true, and_false, false_and, true_and, if_true, if_false, true_imp_iff, forall_const, false_implies] at v1 v2 v3 t1 t2 t3 t4 sik skj skm smk sim smj <;> omega
    · have hskk := small m m hk hk
      by_cases c1 : M i m < far <;> by_cases c2 : M m j < far <;> by_cases c3 : M m m < far <;> simp only [c1, c2, c3, and_self, and_true, and_false, false_and, true_and, if_true, if_false, false_implies] at v1 v2 v3 sik skj hskk <;> omega
  · have hij := hv i j hi hj
    by_cases hlt : M' i j < M i j
    · by_cases c : M i k < far ∧ M k j < far
      · rw [if_pos c] at hij
        have hval : M' i j = M i k + M k j := by omega
        rw [hval]
        exact DijkMorePlain.wk_join (h.wk i k hi hk c.1) (h.wk k j hk hj c.2)
      · rw [if_neg c] at hij
        have := (h.rng i j).2
        omega
    · have he : M' i j = M i j := by have := hle i j; omega
      rw [he] at hf ⊢
      exact h.wk i j hi hj hf
theorem FW.all {n : Nat} {l : List E} {M : Mx Int} (h : FW n 0 l M) (hn : n ≤ 64) (hd : ∀ m, m < n → 0 ≤ out min th n M n m m) (k : Nat) (hk : k ≤ n) : FW n k l (out min th n M k) := by
  induction k with
  | zero => exact h
  | succ k ih =>
    exact (ih (by omega)).next (by omega) hn fun m hm => Int.le_trans (hd m hm) (out_le (show k + 1 ≤ n from hk) m m)
/-- where all starts -/
theorem eds_start {n : Nat} {l : List E} (hg : NetLaw.Good n l) (r : List E) (hr : ∀ e ∈ r, e ∈ l) (M : Mx Int) (hM : ∀ i j, M i j = far ∨ (-10000 ≤ M i j ∧ M i j ≤ 10000 ∧ Wk l i j (M i j))) :
    (∀ i j, eds min cst r M i j = far ∨ (-10000 ≤ eds min cst r M i j ∧ eds min cst r M i j ≤ 10000 ∧ Wk l i j (eds min cst r M i j))) ∧ (∀ i j, eds min cst r M i j ≤ M i j) ∧ ∀ e ∈ r, eds min cst r M e.1.toNat e.2.1.toNat ≤ e.2.2 := by
  induction r generalizing M with
  | nil => exact ⟨hM, fun _ _ => Int.le_refl _, by simp⟩
  | cons e r ih =>
    have he := hr e (by simp)
    have h1 := hg.ends e he
    have h2 := hg.cost e he
    have hfar : far = 1099511627776 := rfl
    have hM' : ∀ i j, ed1 min cst M e i j = far ∨ (-10000 ≤ ed1 min cst M e i j ∧ ed1 min cst M e i j ≤ 10000 ∧ Wk l i j (ed1 min cst M e i j)) := fun i j => by
      unfold ed1 set2 cst
      split
      · rename_i h
        obtain ⟨rfl, rfl⟩ := h
        have hw : Wk l (e.1.toNat : Nat) (e.2.1.toNat : Nat) e.2.2 := by
          have := Wk.step (l := l) (fr := e.1) (e := e) Wk.here he rfl
          rw [Int.zero_add] at this
          rwa [Int.toNat_of_nonneg h1.1, Int.toNat_of_nonneg h1.2.2.1]
        rcases Int.le_total (M e.1.toNat e.2.1.toNat) e.2.2 with hle | hle
        · rw [Int.min_eq_left hle]
          exact hM _ _
        · rw [Int.min_eq_right hle]
          exact .inr ⟨h2.1, h2.2, hw⟩
      · exact hM i j
    have hle : ∀ i j, ed1 min cst M e i j ≤ M i j := fun i j => by
      unfold ed1 set2
      split
      · rename_i h
        obtain ⟨rfl, rfl⟩ := h
        omega
      · exact Int.le_refl _
    obtain ⟨a, b, c⟩ := ih (fun x hx => hr x (by simp [hx])) (ed1 min cst M e) hM'
    refine ⟨a, fun i j => Int.le_trans (b i j) (hle i j), fun x hx => ?_⟩
    rcases List.mem_cons.1 hx with rfl | hx
    · refine Int.le_trans (b _ _) ?_
      unfold ed1 set2 cst
      rw [if_pos ⟨rfl, rfl⟩]
      omega
    · exact c x hx
theorem ini_ok (l : List E) (i j : Nat) : ini far (0 : Int) i j = far ∨ (-10000 ≤ ini far (0 : Int) i j ∧ ini far (0 : Int) i j ≤ 10000 ∧ Wk l i j (ini far (0 : Int) i j)) := by
  unfold ini
  split
  · rename_i h; subst h; exact .inr ⟨by decide, by decide, Wk.here⟩
  · exact .inl rfl
theorem start_rng {n : Nat} {l : List E} (hg : NetLaw.Good n l) : Rng (eds min cst l (ini far 0)) := fun i j => by
  have hfar : far = 1099511627776 := rfl
  rcases (eds_start hg l (fun _ h => h) (ini far 0) (ini_ok l)).1 i j with h | h <;> omega
theorem start_fw {n : Nat} {l : List E} (hg : NetLaw.Good n l) : FW n 0 l (eds min cst l (ini far 0)) := by
  have hfar : far = 1099511627776 := rfl
  have h := (eds_start hg l (fun _ h => h) (ini far 0) (ini_ok l)).1
  refine ⟨start_rng hg, fun i j _ _ hf => ⟨[], List.nodup_nil, by simp, by simp, ?_, ?_⟩, fun i j m _ _ hm => by omega, fun i j _ _ hf => ?_⟩
  all_goals
    rcases h i j with h | h
    · omega
    · first
      | (simp; omega)
      | exact h.2.2
/-- what All's answer keeps, where there is one -/
structure Fl (n : Nat) (l : List E) (M : Mx Int) : Prop where
  self : ∀ i, i < n → M i i = 0
  small : ∀ i j, i < n → j < n → M i j < far → -650000 ≤ M i j ∧ M i j ≤ 650000
  hi : ∀ i j, M i j ≤ far
  tri : ∀ i j m, i < n → j < n → m < n → M i m < far → M m j < far → M i j ≤ M i m + M m j
  wk : ∀ i j, i < n → j < n → M i j < far → Wk l i j (M i j)
  edge : ∀ e ∈ l, M e.1.toNat e.2.1.toNat ≤ e.2.2
theorem all_ok {n : Nat} {l : List E} (hg : NetLaw.Good n l) (hd : ∀ m, m < n → 0 ≤ all n l m m) : Fl n l (all n l) := by
  have hn : n ≤ 64 := by have := hg.hi; omega
  have h := FW.all (start_fw hg) hn hd n (Nat.le_refl _)
  obtain ⟨_, s2, s3⟩ := eds_start hg l (fun _ h => h) (ini far 0) (ini_ok l)
  refine ⟨fun i hi => ?_, fun i j hi hj hf => h.small hn hi hj hf, fun i j => (h.rng i j).2, fun i j m hi hj hm => h.tri i j m hi hj hm, h.wk, fun e he => ?_⟩
  · have h1 := hd i hi
    have h2 := out_le (n := n) (M := eds min cst l (ini far 0)) (Nat.zero_le n) i i
    have h3 := s2 i i
    have h4 : ini far (0 : Int) i i = 0 := by simp [ini]
    have h5 : all n l i i ≤ eds min cst l (ini far 0) i i := h2
    omega
  · have h2 := out_le (n := n) (M := eds min cst l (ini far 0)) (Nat.zero_le n) e.1.toNat e.2.1.toNat
    exact Int.le_trans h2 (s3 e he)
end Go.Proofs.Ytjebckehmmbkbaa.FloydLaw
