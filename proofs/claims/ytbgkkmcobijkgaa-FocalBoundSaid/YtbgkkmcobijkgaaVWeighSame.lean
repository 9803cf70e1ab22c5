/- Plain facts on fractions in lowest terms: no Go in sight. -/
/- The walks of package ratio: what each function answers. -/
/- The walk of weigh.Weight; three boxes. -/
/- The walks of weigh.Weight, weigh.Key and weigh.Run. -/
/- What a law wants of weigh.Run: the answers, one by one. -/
/- What the law of one weight wants: the two searches answer alike. -/
import Derived.RowKit
import Derived.Test.YtbgkkmcobijkgaaVKit
import Derived.Test.YtbgkkmcobijkgaaVStarFn
import Derived.Test.YtbgkkmcobijkgaaVStarRunW
import Derived.Test.YtbgkkmcobijkgaaVStarKeep
import Derived.Test.YtbgkkmcobijkgaaVStarUse
namespace Go.Proofs.Ytbgkkmcobijkgaa.RatioLaw
set_option linter.unusedSimpArgs false
set_option linter.unusedVariables false
/-- a fraction in lowest terms within the bounds -/
def Ok (n d : Int) : Prop := 1 ≤ d ∧ d ≤ 1000000 ∧ -1000000 ≤ n ∧ n ≤ 1000000 ∧ Int.gcd n d = 1

instance (n d : Int) : Decidable (Ok n d) := by unfold Ok; infer_instance

theorem gcd_pos {n d : Int} (h : 1 ≤ d) : 1 ≤ Int.gcd n d := by
  rcases Nat.eq_zero_or_pos (Int.gcd n d) with h0 | h0
  · rw [Int.gcd_eq_zero_iff] at h0; omega
  · exact h0
theorem gcd_le {n d : Int} (h : 1 ≤ d) : (Int.gcd n d : Int) ≤ d := by
  have := Int.gcd_dvd_right n d
  exact Int.le_of_dvd (by omega) this
theorem gcd_tmod (a b : Int) : Int.gcd b (a.tmod b) = Int.gcd a b := by
  rw [Int.gcd_eq_natAbs_gcd_natAbs, Int.gcd_eq_natAbs_gcd_natAbs, Int.natAbs_tmod, Nat.gcd_comm, ← Nat.gcd_rec, Nat.gcd_comm]
theorem tmod_lt (a : Int) {b : Int} (h : b ≠ 0) : (a.tmod b).natAbs < b.natAbs := by
  rw [Int.natAbs_tmod]
  exact Nat.mod_lt _ (by omega)
theorem dvd_of_gcd {d n e : Int} (h : Int.gcd n d = 1) (hd : d ∣ n * e) : d ∣ e := by
  rw [← Int.natAbs_dvd_natAbs] at hd ⊢
  rw [Int.natAbs_mul] at hd
  have hc : Nat.Coprime d.natAbs n.natAbs := by
    rw [Int.gcd_comm] at h
    exact h
  exact hc.dvd_of_dvd_mul_left hd
/-- lowest terms are one: equal cross products of lowest terms with denominators above 0 -/
theorem cross {n d m e : Int} (hd : 1 ≤ d) (he : 1 ≤ e) (h1 : Int.gcd n d = 1) (h2 : Int.gcd m e = 1) (h : n * e = m * d) : n = m ∧ d = e := by
  have hde : d ∣ e := dvd_of_gcd h1 (by rw [h]; exact Int.dvd_mul_left m d)
  have hed : e ∣ d := dvd_of_gcd h2 (by rw [← h]; exact Int.dvd_mul_left n e)
  have hd' : d = e := Int.le_antisymm (Int.le_of_dvd (by omega) hde) (Int.le_of_dvd (by omega) hed)
  subst hd'
  exact ⟨Int.eq_of_mul_eq_mul_right (by omega) h, rfl⟩
theorem lowest {n d : Int} (hd : 1 ≤ d) : Int.gcd (n / (Int.gcd n d : Int)) (d / (Int.gcd n d : Int)) = 1 ∧ 1 ≤ d / (Int.gcd n d : Int) ∧ n / (Int.gcd n d : Int) * (Int.gcd n d : Int) = n ∧ d / (Int.gcd n d : Int) * (Int.gcd n d : Int) = d := by
  have hp := gcd_pos (n := n) hd
  have hn := Int.ediv_mul_cancel (Int.gcd_dvd_left n d)
  have hd2 := Int.ediv_mul_cancel (Int.gcd_dvd_right n d)
  refine ⟨?_, ?_, hn, hd2⟩
  · rw [Int.gcd_ediv (Int.gcd_dvd_left n d) (Int.gcd_dvd_right n d), Int.natAbs_natCast]
    exact Nat.div_self hp
  rcases Int.lt_or_le 0 (d / (Int.gcd n d : Int)) with h | h
  · omega
  · exfalso
    have : d / (Int.gcd n d : Int) * (Int.gcd n d : Int) ≤ 0 := Int.mul_nonpos_of_nonpos_of_nonneg h (by omega)
    omega
theorem Ok.neg {n d : Int} (h : Ok n d) : Ok (-n) d := by
  obtain ⟨h1, h2, h3, h4, h5⟩ := h
  exact ⟨h1, h2, by omega, by omega, by rw [Int.neg_gcd]; exact h5⟩
theorem Ok.neg_iff {n d : Int} : Ok (-n) d ↔ Ok n d := ⟨fun h => by have := h.neg; rwa [Int.neg_neg] at this, Ok.neg⟩

/-- the comparison of a/b and c/d -/
def cm (a b c d : Int) : Int := if a * d < c * b then -1 else if c * b < a * d then 1 else 0
theorem cm_bd (a b c d : Int) : -1 ≤ cm a b c d ∧ cm a b c d ≤ 1 := by
  unfold cm; repeat' split
  all_goals omega
theorem cm_neg (a b c d : Int) : cm a b c d = -cm c d a b := by
  unfold cm; repeat' split
  all_goals omega
theorem cm_zero {a b c d : Int} (h : Ok a b) (k : Ok c d) : cm a b c d = 0 ↔ a = c ∧ b = d := by
  constructor
  · intro h0
    have : a * d = c * b := by
      unfold cm at h0
      split at h0
      · omega
      · split at h0
        · omega
        · omega
    exact cross h.1 k.1 h.2.2.2.2 k.2.2.2.2 this
  · rintro ⟨rfl, rfl⟩
    unfold cm
    rw [if_neg (by omega), if_neg (by omega)]
theorem cm_le_iff (a b c d : Int) : cm a b c d ≤ 0 ↔ a * d ≤ c * b := by
  unfold cm; repeat' split
  all_goals omega
theorem cm_trans {a b c d e f : Int} (h : Ok a b) (k : Ok c d) (l : Ok e f) (h1 : cm a b c d ≤ 0) (h2 : cm c d e f ≤ 0) : cm a b e f ≤ 0 := by
  rw [cm_le_iff] at *
  have e1 : a * d * f ≤ c * b * f := Int.mul_le_mul_of_nonneg_right h1 (by have := l.1; omega)
  have e2 : c * f * b ≤ e * d * b := Int.mul_le_mul_of_nonneg_right h2 (by have := h.1; omega)
  have e3 : (a * f) * d ≤ (e * b) * d := by
    rw [show (a * f) * d = a * d * f from by rw [Int.mul_assoc, Int.mul_assoc, Int.mul_comm f d], show (e * b) * d = e * d * b from by rw [Int.mul_assoc, Int.mul_assoc, Int.mul_comm b d]]
    exact Int.le_trans e1 (by rw [show c * b * f = c * f * b from by rw [Int.mul_assoc, Int.mul_assoc, Int.mul_comm b f]]; exact e2)
  exact Int.le_of_mul_le_mul_right e3 (by have := k.1; omega)
theorem prod_bd {a d : Int} (h1 : -1000000 ≤ a) (h2 : a ≤ 1000000) (h3 : -1000000 ≤ d) (h4 : d ≤ 1000000) : -1000000000000 ≤ a * d ∧ a * d ≤ 1000000000000 := by
  have : (a * d).natAbs ≤ 1000000 * 1000000 := by
    rw [Int.natAbs_mul]
    exact Nat.mul_le_mul (by omega) (by omega)
  omega
theorem pos_bd {a d : Int} (h1 : 1 ≤ a) (h2 : a ≤ 1000000) (h3 : 1 ≤ d) (h4 : d ≤ 1000000) : 1 ≤ a * d ∧ a * d ≤ 1000000000000 := by
  have := prod_bd (a := a) (d := d) (by omega) (by omega) (by omega) (by omega)
  have : 0 < a * d := Int.mul_pos (by omega) (by omega)
  omega

/-- the whole numbers about a fraction -/
theorem floor_go {n d : Int} (hd : 1 ≤ d) : (if n.tmod d < 0 then n.tdiv d - 1 else n.tdiv d) = n / d := by
  have h1 := Int.tdiv_eq_ediv (a := n) (b := d)
  have h2 := Int.tmod_eq_emod (a := n) (b := d)
  have hs : d.sign = 1 := Int.sign_eq_one_of_pos (by omega)
  have hm := Int.emod_nonneg n (b := d) (by omega)
  have hm2 := Int.emod_lt_of_pos n (b := d) (by omega)
  have hna : (d.natAbs : Int) = d := by omega
  by_cases hc : 0 ≤ n ∨ d ∣ n
  · rw [if_pos hc] at h1 h2
    rw [if_neg (by omega)]
    omega
  · rw [if_neg hc] at h1 h2
    rw [if_pos (by omega)]
    omega
theorem halves {n d : Int} (h : Ok n d) : (n / d = -(-n / d) ↔ d = 1) ∧ -(-n / d) - n / d ≤ 1 ∧ n / d ≤ -(-n / d) := by
  have hd := h.1
  have e1 := Int.mul_ediv_add_emod n d
  have e2 := Int.mul_ediv_add_emod (-n) d
  have m1 := Int.emod_nonneg n (b := d) (by omega)
  have m2 := Int.emod_lt_of_pos n (b := d) (by omega)
  have m3 := Int.emod_nonneg (-n) (b := d) (by omega)
  have m4 := Int.emod_lt_of_pos (-n) (b := d) (by omega)
  generalize n / d = q at *
  generalize -n / d = p at *
  generalize n % d = r at *
  generalize -n % d = t at *
  have e3 : d * (q + p) = -(r + t) := by rw [Int.mul_add]; omega
  have k1 : q + p ≤ 0 := by
    rcases Int.lt_or_le 0 (q + p) with hh | hh
    · have : 0 < d * (q + p) := Int.mul_pos (by omega) hh
      omega
    · exact hh
  have k2 : -2 < q + p := by
    rcases Int.lt_or_le (-2) (q + p) with hh | hh
    · exact hh
    · have : d * (q + p) ≤ d * (-2) := Int.mul_le_mul_of_nonneg_left hh (by omega)
      omega
  refine ⟨⟨fun hq => ?_, fun h1 => ?_⟩, by omega, by omega⟩
  · have h0 : q + p = 0 := by omega
    rw [h0] at e3
    have hr : r = 0 := by omega
    have hdn : d ∣ n := ⟨q, by omega⟩
    have hg := h.2.2.2.2
    have : (Int.gcd n d : Int) = d := Int.gcd_eq_right (by omega) hdn
    omega
  · subst h1
    omega
/-- in lowest terms, if there is room: numerator, denominator, error -/
def ft (n d : Int) : Int × Int × Int :=
  if -1000000 ≤ n / (Int.gcd n d : Int) ∧ n / (Int.gcd n d : Int) ≤ 1000000 ∧ d / (Int.gcd n d : Int) ≤ 1000000 then (n / (Int.gcd n d : Int), d / (Int.gcd n d : Int), 0) else (0, 0, 2)
def ad (a b c d : Int) : Int × Int × Int := if Ok a b ∧ Ok c d then ft (a * d + c * b) (b * d) else (0, 0, 3)
def mu (a b c d : Int) : Int × Int × Int := if Ok a b ∧ Ok c d then ft (a * c) (b * d) else (0, 0, 3)
theorem ad_comm (a b c d : Int) : ad c d a b = ad a b c d := by
  unfold ad
  exact ite_congr (propext and_comm) (fun _ => by rw [Int.add_comm (c * b), Int.mul_comm d b]) (fun _ => rfl)
theorem mu_comm (a b c d : Int) : mu c d a b = mu a b c d := by
  unfold mu
  exact ite_congr (propext and_comm) (fun _ => by rw [Int.mul_comm c a, Int.mul_comm d b]) (fun _ => rfl)
/-- what fits is a fraction of the same worth -/
theorem ft_ok {n d x y : Int} (hd : 1 ≤ d) (h : ft n d = (x, y, 0)) : Ok x y ∧ x * d = n * y := by
  have hl := lowest (n := n) hd
  unfold ft at h
  split at h
  · rename_i hc
    simp only [Prod.mk.injEq] at h
    obtain ⟨rfl, rfl, _⟩ := h
    obtain ⟨l1, l2, l3, l4⟩ := hl
    refine ⟨⟨l2, hc.2.2, hc.1, hc.2.1, l1⟩, ?_⟩
    generalize n / (Int.gcd n d : Int) = x at *
    generalize d / (Int.gcd n d : Int) = y at *
    generalize (Int.gcd n d : Int) = g at *
    subst l3 l4
    rw [Int.mul_comm y g, ← Int.mul_assoc]
  · simp at h
theorem ad_ok {a b c d x y : Int} (h : ad a b c d = (x, y, 0)) : Ok a b ∧ Ok c d ∧ Ok x y ∧ x * (b * d) = (a * d + c * b) * y := by
  unfold ad at h
  split at h
  · rename_i hc
    have hp := pos_bd hc.1.1 hc.1.2.1 hc.2.1 hc.2.2.1
    have := ft_ok hp.1 h
    exact ⟨hc.1, hc.2, this.1, this.2⟩
  · simp at h
theorem mu_ok {a b c d x y : Int} (h : mu a b c d = (x, y, 0)) : Ok a b ∧ Ok c d ∧ Ok x y ∧ x * (b * d) = (a * c) * y := by
  unfold mu at h
  split at h
  · rename_i hc
    have hp := pos_bd hc.1.1 hc.1.2.1 hc.2.1 hc.2.2.1
    have := ft_ok hp.1 h
    exact ⟨hc.1, hc.2, this.1, this.2⟩
  · simp at h
/-- the sum is spread over the product -/
theorem spread {a b c d e f p1 p2 s1 s2 t1 t2 l1 l2 r1 r2 : Int} (hp : ad a b c d = (p1, p2, 0)) (hs : mu a b e f = (s1, s2, 0)) (ht : mu c d e f = (t1, t2, 0))
    (hl : mu p1 p2 e f = (l1, l2, 0)) (hr : ad s1 s2 t1 t2 = (r1, r2, 0)) : l1 = r1 ∧ l2 = r2 := by
  obtain ⟨ka, kc, kp, ep⟩ := ad_ok hp
  obtain ⟨_, ke, ks, es⟩ := mu_ok hs
  obtain ⟨_, _, kt, et⟩ := mu_ok ht
  obtain ⟨_, _, kl, el⟩ := mu_ok hl
  obtain ⟨_, _, kr, er⟩ := ad_ok hr
  refine cross kl.1 kr.1 kl.2.2.2.2 kr.2.2.2.2 ?_
  have b0 : b ≠ 0 := by have := ka.1; omega
  have d0 : d ≠ 0 := by have := kc.1; omega
  have f0 : f ≠ 0 := by have := ke.1; omega
  have p0 : p2 ≠ 0 := by have := kp.1; omega
  have s0 : s2 ≠ 0 := by have := ks.1; omega
  have t0 : t2 ≠ 0 := by have := kt.1; omega
  have hne : p2 * f * (b * d) * (s2 * t2) * (b * f) * (d * f) ≠ 0 := by simp [Int.mul_eq_zero, b0, d0, f0, p0, s0, t0]
  refine Int.eq_of_mul_eq_mul_right hne ?_
  -- l1 r2 K = r1 l2 K
  have A : l1 * (p2 * f) * (b * d) = (a * d + c * b) * p2 * e * l2 := by
    rw [el, ← ep]
    grind
  have B : r1 * (s2 * t2) * (b * f) * (d * f) = (s1 * (b * f)) * t2 * (d * f) * r2 + (t1 * (d * f)) * s2 * (b * f) * r2 := by
    rw [er]
    grind
  rw [es, et] at B
  grind
end Go.Proofs.Ytbgkkmcobijkgaa.RatioLaw

namespace Go.Proofs.Ytbgkkmcobijkgaa.Ratio
open Go.RowKit Go.Proofs.Ytbgkkmcobijkgaa RatioLaw
set_option linter.unusedSimpArgs false
set_option linter.unusedVariables false

theorem tdiv_of {a b : Int} {g : Nat} (h : g = Int.gcd a b) : a.tdiv (g : Int) = a / (g : Int) := by
  subst h
  exact Int.tdiv_eq_ediv_of_dvd (Int.gcd_dvd_left a b)

set_option maxHeartbeats 400000 in
theorem gcd_any (a b : Int) (w : World) (ha : -4000000000000 ≤ a) (ha' : a ≤ 4000000000000) (hb : -4000000000000 ≤ b) (hb' : b ≤ 4000000000000) :
    Calls Try.prog 98 #[.int .i64 a, .int .i64 b] w fun e w' => e = .returned (.int .i64 (Int.gcd a b)) ∧ ∃ n, w' = w.drewN n := by
  go_enter Try.func98, Try.ntmps98
  go_wp2
  go_loopw [0, 1] (fun x y wr => ∃ a' b' : Int, x = .int .i64 a' ∧ y = .int .i64 b' ∧ -4000000000000 ≤ a' ∧ a' ≤ 4000000000000 ∧ -4000000000000 ≤ b' ∧ b' ≤ 4000000000000 ∧ Int.gcd a' b' = Int.gcd a b ∧ ∃ n, wr = w.drewN n) (fun _ y _ => (intOf y).natAbs)
  case atStart => exact ⟨a, b, rfl, rfl, ha, ha', hb, hb', rfl, 0, rfl⟩
  case round =>
    obtain ⟨a', b', rfl, rfl, h1, h2, h3, h4, hg, n, rfl⟩ := hrel
    have HG := Lib.hid hg
    clear hg
    by_cases hz : b' = 0
    · subst hz
      go_wp2
      all_goals
        go_ret
        exact ⟨ret_int (by have := HG.out; rw [Int.gcd_zero_right] at this; omega), n, rfl⟩
    · go_wp2
      go_quiet (fail)
      go_wp2
      go_roundw
      case rel =>
        have ht := tmod_lt a' hz
        exact ⟨b', a'.tmod b', rfl, rfl, h3, h4, by omega, by omega, by rw [gcd_tmod]; exact HG.out, n + nq, World.drewN_drewN _ _ _⟩
      case measure => exact tmod_lt a' hz

set_option maxHeartbeats 400000 in
theorem within_any (a : Int) (r : Bool) (w : World) (hr : decide (-1000000 ≤ a ∧ a ≤ 1000000) = r) :
    Calls Try.prog 94 #[.int .i64 a] w fun e w' => e = .returned (.bool r) ∧ w = w' := by
  subst hr
  by_cases h1 : -1000000 ≤ a
  · by_cases h2 : a ≤ 1000000
    · go_enter Try.func94, Try.ntmps94
      go_wp2
      go_ret
      exact ⟨by simp [h1, h2], rfl⟩
    · go_enter Try.func94, Try.ntmps94
      go_wp2
      go_ret
      exact ⟨by simp; omega, rfl⟩
  · go_enter Try.func94, Try.ntmps94
    go_wp2
    go_ret
    exact ⟨by simp; omega, rfl⟩

set_option maxHeartbeats 400000 in
theorem least_any (a b : Int) (w : World) (ha : -2000000000000 ≤ a) (ha' : a ≤ 2000000000000) (hb : 1 ≤ b) (hb' : b ≤ 1000000000000) :
    Calls Try.prog 95 #[.int .i64 a, .int .i64 b] w fun e w' => e = .returned (.agg #[.int .i64 (a / (Int.gcd a b : Int)), .int .i64 (b / (Int.gcd a b : Int))]) ∧ Below w.heap.size w w' := by
  have hp := gcd_pos (n := a) hb
  have hl := gcd_le (n := a) hb
  have hnn : (0 : Int) ≤ (Int.gcd a b : Int) := by omega
  obtain ⟨g, hg⟩ : ∃ g : Nat, g = Int.gcd a b := ⟨_, rfl⟩
  rw [← hg] at hp hl hnn ⊢
  have HG := Lib.hid hg
  clear hg
  go_enter Try.func95, Try.ntmps95
  go_wp2_with (go_at_call 98; refine (gcd_any _ _ _ (by omega) (by omega) (by omega) (by omega)).mono ?_; rintro e w' ⟨rfl, n, rfl⟩; rw [← HG.out])
  go_region
  go_wp2
  refine bodyPost_ret (v := .agg #[.int .i64 (a / (g : Int)), .int .i64 (b / (g : Int))]) (by simp [results, Try.results95, go_sem, tdiv_of HG.out]) rfl ⟨rfl, ?_⟩
  exact ((below_drewN ((Below.refl _ _).alloc (Nat.le_refl _) _) _).setCell (by simp) _).setCell (by simp) _

set_option maxHeartbeats 400000 in
theorem make_yes (a b : Int) (w : World) (h1 : -1000000 ≤ a) (h2 : a ≤ 1000000) (h3 : 1 ≤ b) (h4 : b ≤ 1000000) :
    Calls Try.prog 87 #[.int .i64 a, .int .i64 b] w fun e w' => e = .returned (.tuple #[.agg #[.int .i64 (a / (Int.gcd a b : Int)), .int .i64 (b / (Int.gcd a b : Int))], .int .i64 0]) ∧ Below w.heap.size w w' := by
  go_enter Try.func87, Try.ntmps87
  go_wp2_with (first
    | (go_at_call 94; refine (within_any _ true _ (by simp; omega)).mono ?_; rintro e w' ⟨rfl, rfl⟩)
    | (go_at_call 95; refine (least_any _ _ _ (by omega) (by omega) (by omega) (by omega)).mono ?_; rintro e w1 ⟨rfl, hb⟩; obtain ⟨hc, hf⟩ := bcell hb; have hz : w.heap.size < w1.heap.size := by have := hb.size; simp at this; omega))
  refine bodyPost_ret (v := .tuple #[.agg #[.int .i64 (a / (Int.gcd a b : Int)), .int .i64 (b / (Int.gcd a b : Int))], .int .i64 0]) (by simp [results, Try.results87, go_sem, hc, hf, hz]) rfl ⟨rfl, ?_⟩
  exact ((((Below.refl _ _).alloc (Nat.le_refl _) _).trans (hb.mono (by simp))).setCell (by simp) _).setCell (by simp) _

set_option maxHeartbeats 400000 in
theorem make_no (a b : Int) (w : World) (h : ¬ (-1000000 ≤ a ∧ a ≤ 1000000 ∧ 1 ≤ b ∧ b ≤ 1000000)) :
    Calls Try.prog 87 #[.int .i64 a, .int .i64 b] w fun e w' => e = .returned (.tuple #[.agg #[.int .i64 0, .int .i64 0], .int .i64 1]) ∧ Below w.heap.size w w' := by
  by_cases h1 : b < 1
  · clear h
    go_enter Try.func87, Try.ntmps87
    go_wp2
    refine bodyPost_ret (v := .tuple #[.agg #[.int .i64 0, .int .i64 0], .int .i64 1]) (by simp [results, Try.results87, go_sem]) rfl ⟨rfl, ?_⟩
    exact ((Below.refl _ _).alloc (Nat.le_refl _) _)
  · by_cases h2 : -1000000 ≤ a ∧ a ≤ 1000000
    · have h3 : ¬ (b ≤ 1000000) := by omega
      clear h
      go_enter Try.func87, Try.ntmps87
      go_wp2_with fail
      refine (within_any _ true _ (by simp; omega)).mono ?_
      rintro e w' ⟨rfl, rfl⟩
      go_wp2_with fail
      refine (within_any _ false _ (by simp; omega)).mono ?_
      rintro e w' ⟨rfl, rfl⟩
      go_wp2
      refine bodyPost_ret (v := .tuple #[.agg #[.int .i64 0, .int .i64 0], .int .i64 1]) (by simp [results, Try.results87, go_sem]) rfl ⟨rfl, ?_⟩
      exact ((Below.refl _ _).alloc (Nat.le_refl _) _)
    · clear h
      go_enter Try.func87, Try.ntmps87
      go_wp2_with (go_at_call 94; refine (within_any _ false _ (by simp; omega)).mono ?_; rintro e w' ⟨rfl, rfl⟩)
      refine bodyPost_ret (v := .tuple #[.agg #[.int .i64 0, .int .i64 0], .int .i64 1]) (by simp [results, Try.results87, go_sem]) rfl ⟨rfl, ?_⟩
      exact ((Below.refl _ _).alloc (Nat.le_refl _) _)


set_option maxHeartbeats 400000 in
theorem check_yes (a b : Int) (w : World) (h : Ok a b) :
    Calls Try.prog 57 #[.agg #[.int .i64 a, .int .i64 b]] w fun e w' => e = .returned (.int .i64 0) ∧ Below w.heap.size w w' := by
  obtain ⟨h1, h2, h3, h4, h5⟩ := h
  have key := fun W => make_yes a b W h3 h4 h1 h2
  rw [h5] at key
  simp only [Int.natCast_one, Int.ediv_one] at key
  have KEY := Lib.hid key
  clear key h5
  go_enter Try.func57, Try.ntmps57
  go_wp2_with fail
  refine (KEY.out _).mono ?_
  rintro e w1 ⟨rfl, hb⟩
  obtain ⟨hc, hf, _⟩ := bafter hb
  have hz : w.heap.size < w1.heap.size := by have := hb.size; simp at this; omega
  have hB : Below w.heap.size w w1 := ((Below.refl _ _).alloc (Nat.le_refl _) _).trans (hb.mono (by simp))
  go_wp2
  go_ret
  exact ⟨rfl, hB.alloc hB.size _⟩

set_option maxHeartbeats 400000 in
theorem check_no (a b : Int) (w : World) (h : ¬ Ok a b) :
    Calls Try.prog 57 #[.agg #[.int .i64 a, .int .i64 b]] w fun e w' => e = .returned (.int .i64 3) ∧ Below w.heap.size w w' := by
  by_cases h' : -1000000 ≤ a ∧ a ≤ 1000000 ∧ 1 ≤ b ∧ b ≤ 1000000
  · have hg : Int.gcd a b ≠ 1 := fun hg => h ⟨h'.2.2.1, h'.2.2.2, h'.1, h'.2.1, hg⟩
    have hp := gcd_pos (n := a) h'.2.2.1
    have key := fun W => make_yes a b W h'.1 h'.2.1 h'.2.2.1 h'.2.2.2
    have hne : (b / (Int.gcd a b : Int) == b) = false := by
      rw [beq_eq_false_iff_ne]
      intro he
      have hl := (lowest (n := a) h'.2.2.1).2.2.2
      rw [he] at hl
      have : b * (Int.gcd a b : Int) = b * 1 := by omega
      have := Int.eq_of_mul_eq_mul_left (by omega) this
      omega
    have KEY := Lib.hid key
    clear key h hg
    generalize a / (Int.gcd a b : Int) = a1 at KEY
    generalize b / (Int.gcd a b : Int) = b1 at KEY hne
    clear hp
    go_enter Try.func57, Try.ntmps57
    go_wp2_with fail
    refine (KEY.out _).mono ?_
    rintro e w1 ⟨rfl, hb⟩
    obtain ⟨hc, hf, _⟩ := bafter hb
    have hz : w.heap.size < w1.heap.size := by have := hb.size; simp at this; omega
    have hB : Below w.heap.size w w1 := ((Below.refl _ _).alloc (Nat.le_refl _) _).trans (hb.mono (by simp))
    go_wp2
    go_ret
    exact ⟨rfl, hB.alloc hB.size _⟩
  · go_enter Try.func57, Try.ntmps57
    go_wp2_with fail
    refine (make_no _ _ _ h').mono ?_
    rintro e w1 ⟨rfl, hb⟩
    obtain ⟨hc, hf, _⟩ := bafter hb
    have hz : w.heap.size < w1.heap.size := by have := hb.size; simp at this; omega
    have hB : Below w.heap.size w w1 := ((Below.refl _ _).alloc (Nat.le_refl _) _).trans (hb.mono (by simp))
    clear h h'
    go_wp2
    go_ret
    exact ⟨rfl, hB.alloc hB.size _⟩

end Go.Proofs.Ytbgkkmcobijkgaa.Ratio

namespace Go.Proofs.Ytbgkkmcobijkgaa.StarF
open Go.RowKit Go.Proofs.Ytbgkkmcobijkgaa NetLaw BellLaw DijkLaw HeurLaw RatioLaw Go.Proofs.Ytbgkkmcobijkgaa.Net Go.Proofs.Ytbgkkmcobijkgaa.Dijk Go.Proofs.Ytbgkkmcobijkgaa.Std Go.Proofs.Ytbgkkmcobijkgaa.Heur
set_option linter.unusedSimpArgs false
set_option linter.unusedVariables false

/-- what weigh.Weight answers -/
def wgt (a b : Int) : Int := if 1 ≤ b ∧ b ≤ 1000000 ∧ -1000000 ≤ a ∧ a ≤ 1000000 ∧ Int.gcd a b = 1 then (if a < b then 1 else 0) else 3
theorem wgt_zero {a b : Int} : wgt a b = 0 ↔ Ok a b ∧ b ≤ a := by
  unfold wgt
  split
  · rename_i h
    obtain ⟨h1, h2, h3, h4, h5⟩ := h
    split
    · exact ⟨fun x => by omega, fun x => by omega⟩
    · exact ⟨fun _ => ⟨⟨h1, h2, h3, h4, h5⟩, by omega⟩, fun _ => rfl⟩
  · rename_i h
    exact ⟨fun x => by omega, fun x => absurd x.1 h⟩
set_option maxHeartbeats 1000000 in
theorem weight_any (a b : Int) (w : World) :
    Calls Try.prog 30 #[.agg #[.int .i64 a, .int .i64 b]] w fun e w' => e = .returned (.int .i64 (wgt a b)) ∧ Below w.heap.size w w' := by
  have hw0 : Below w.heap.size w (w.alloc (.cells #[.int .i64 a, .int .i64 b] 54)) := (Below.refl _ _).alloc (Nat.le_refl _) _
  have hbox := heap_alloc_new w (.cells #[.int .i64 a, .int .i64 b] 54)
  have HBOX := Lib.hid hbox
  clear hbox
  by_cases hok : 1 ≤ b ∧ b ≤ 1000000 ∧ -1000000 ≤ a ∧ a ≤ 1000000 ∧ Int.gcd a b = 1
  · have hp : wgt a b = if a < b then 1 else 0 := by unfold wgt; rw [if_pos hok]
    have key := fun W => Ratio.check_yes a b W hok
    have KEY := Lib.hid key
    clear key hok
    by_cases hlt : a < b
    · rw [if_pos hlt] at hp
      rw [hp]
      have hd : decide (a < b) = true := decide_eq_true hlt
      clear hp
      go_enter Try.func30, Try.ntmps30
      go_wp2_with fail
      refine (KEY.out _).mono ?_
      rintro e w1 ⟨rfl, hb1⟩
      have H1 := hw0.trans (hb1.mono (by simp))
      have hb := blk_below HBOX.out hb1 (by simp)
      have q0 := blk_cell hb 0
      have q1 := blk_cell hb 1
      simp only [List.getElem?_toArray, List.getElem?_cons_zero, List.getElem?_cons_succ] at q0 q1
      have hz : w.heap.size < w1.heap.size := lt_of_block hb
      clear hb hb1
      go_wp2
      go_ret
      exact ⟨rfl, H1⟩
    · rw [if_neg hlt] at hp
      rw [hp]
      have hd : decide (a < b) = false := decide_eq_false hlt
      clear hp
      go_enter Try.func30, Try.ntmps30
      go_wp2_with fail
      refine (KEY.out _).mono ?_
      rintro e w1 ⟨rfl, hb1⟩
      have H1 := hw0.trans (hb1.mono (by simp))
      have hb := blk_below HBOX.out hb1 (by simp)
      have q0 := blk_cell hb 0
      have q1 := blk_cell hb 1
      simp only [List.getElem?_toArray, List.getElem?_cons_zero, List.getElem?_cons_succ] at q0 q1
      have hz : w.heap.size < w1.heap.size := lt_of_block hb
      clear hb hb1
      go_wp2
      go_ret
      exact ⟨rfl, H1⟩
  · have hp : wgt a b = 3 := by unfold wgt; rw [if_neg hok]
    have key := fun W => Ratio.check_no a b W hok
    have KEY := Lib.hid key
    rw [hp]
    clear key hok hp
    go_enter Try.func30, Try.ntmps30
    go_wp2_with fail
    refine (KEY.out _).mono ?_
    rintro e w1 ⟨rfl, hb1⟩
    have H1 := hw0.trans (hb1.mono (by simp))
    clear hb1
    go_wp2
    go_ret
    exact ⟨rfl, H1⟩
/-- the three boxes behind what was made since -/
theorem wbox {w w9 W : World} {v0 v1 v2 v3 v4 v5 v6 : Value} {k0 k1 k2 : TypeId} (hbox : w9.heap[w.heap.size]? = some (.cells #[v0, v1] k0 (0, 0))) (hrat : w9.heap[w.heap.size + 1]? = some (.cells #[v2, v3] k1 (0, 0))) (hres : w9.heap[w.heap.size + 1 + 1]? = some (.cells #[v4, v5, v6] k2 (0, 0))) (hw0 : Below w.heap.size w w9) (hz0 : w.heap.size + 3 = w9.heap.size) (hW : Below w9.heap.size w9 W) :
    (W.cell? ⟨w.heap.size, 0, none⟩ = some v0 ∧ W.cell? ⟨w.heap.size, 1, none⟩ = some v1 ∧ W.cell? ⟨w.heap.size + 1, 0, none⟩ = some v2 ∧ W.cell? ⟨w.heap.size + 1, 1, none⟩ = some v3) ∧
    (W.cell? ⟨w.heap.size + 1 + 1, 0, none⟩ = some v4 ∧ W.cell? ⟨w.heap.size + 1 + 1, 1, none⟩ = some v5 ∧ W.cell? ⟨w.heap.size + 1 + 1, 2, none⟩ = some v6 ∧ W.frozen? ⟨w.heap.size + 1 + 1, 0, none⟩ = false ∧ W.frozen? ⟨w.heap.size + 1 + 1, 1, none⟩ = false ∧ W.frozen? ⟨w.heap.size + 1 + 1, 2, none⟩ = false) ∧
    W.heap[w.heap.size + 1 + 1]? = some (.cells #[v4, v5, v6] k2 (0, 0)) ∧ w.heap.size + 3 ≤ W.heap.size ∧ Below w.heap.size w W := by
  have b0 := blk_below hbox hW (by omega)
  have b1 := blk_below hrat hW (by omega)
  have b2 := blk_below hres hW (by omega)
  have c0 := blk_cell b0 0
  have c1 := blk_cell b0 1
  have c2 := blk_cell b1 0
  have c3 := blk_cell b1 1
  have c4 := blk_cell b2 0
  have c5 := blk_cell b2 1
  have c6 := blk_cell b2 2
  simp only [List.getElem?_toArray, List.getElem?_cons_zero, List.getElem?_cons_succ] at c0 c1 c2 c3 c4 c5 c6
  exact ⟨⟨c0, c1, c2, c3⟩, ⟨c4, c5, c6, blk_free b2 0, blk_free b2 1, blk_free b2 2⟩, b2, Nat.le_trans (Nat.le_of_eq hz0) hW.size, hw0.trans (hW.mono (by omega))⟩
end Go.Proofs.Ytbgkkmcobijkgaa.StarF

namespace Go.Proofs.Ytbgkkmcobijkgaa.StarF
open Go.RowKit Go.Proofs.Ytbgkkmcobijkgaa NetLaw BellLaw DijkLaw HeurLaw StarLaw RatioLaw Go.Proofs.Ytbgkkmcobijkgaa.Net Go.Proofs.Ytbgkkmcobijkgaa.Dijk Go.Proofs.Ytbgkkmcobijkgaa.Std Go.Proofs.Ytbgkkmcobijkgaa.Heur
set_option linter.unusedSimpArgs false
set_option linter.unusedVariables false

set_option maxHeartbeats 1000000 in
theorem key_new (p q : Int) (w : World) :
    Calls Try.prog 55 #[.agg #[.int .i64 p, .int .i64 q]] w fun e w' => ∃ Bw, e = .returned (StarW.FN Bw) ∧ StarW.KOk w' w'.heap.size Bw q p ∧ Below w.heap.size w w' := by
  go_enter Try.func55, Try.ntmps55
  go_wp2
  go_ret
  refine ⟨w.heap.size, rfl, ⟨by simp, by simp, by simp⟩, (Below.refl _ _).alloc (Nat.le_refl _) _⟩
theorem says_form {n f t : Nat} {l : List E} {hs : List Int} {q p : Int} {w w' : World} {e : Ending} (h : StarW.SearchSays n f t l hs q p w e w') : ∃ A1 cl c1 dt A2 ol c2 x, e = .returned (.tuple #[.agg #[.slice A1 cl c1, .int .i64 dt, .slice A2 ol c2], .int .i64 x]) ∧ Below w.heap.size w w' := by
  obtain ⟨D, P, ord, _, hc, hb⟩ := h
  rcases hc with ⟨_, cs, A1, c1, A2, c2, _, rfl, _, _⟩ | ⟨_, rfl⟩
  · exact ⟨_, _, _, _, _, _, _, _, rfl, hb⟩
  · exact ⟨_, _, _, _, _, _, _, _, rfl, hb⟩
theorem says_kept {n f t : Nat} {l : List E} {hs : List Int} {q p : Int} {w W w4 : World} {e : Ending} {R : Nat} {cs : Array Value} (h : StarW.SearchSays n f t l hs q p W e w4) (hr : w4.heap[R]? = some (.cells cs 45 (0, 0))) (hz : w.heap.size ≤ W.heap.size) {x y z : Value} (hB : Below w.heap.size w (((w4.setCell ⟨R, 0, none⟩ x).setCell ⟨R, 1, none⟩ y).setCell ⟨R, 2, none⟩ z)) :
    StarW.SearchSays n f t l hs q p w e (((w4.setCell ⟨R, 0, none⟩ x).setCell ⟨R, 1, none⟩ y).setCell ⟨R, 2, none⟩ z) := by
  obtain ⟨D, P, ord, hr', hc, hb⟩ := h
  refine ⟨D, P, ord, hr', ?_, hB⟩
  rcases hc with ⟨hn, cs', A1, c1, A2, c2, hch, he, o1, o2⟩ | ⟨hn, he⟩
  · exact .inl ⟨hn, cs', A1, c1, A2, c2, hch, he, StarW.res_kept (o1.mono hz) hr _ _ _, StarW.res_kept (o2.mono hz) hr _ _ _⟩
  · exact .inr ⟨hn, he⟩
/-- what weigh.Run answers -/
def WRunSays (N fr tt : Int) (l : List E) (hs : List Int) (p q : Int) (w : World) (e : Ending) (w' : World) : Prop :=
  (slook N fr tt l hs ≠ 0 → e = .returned (.tuple #[.agg #[.slice none 0 0, .int .i64 0, .slice none 0 0], .int .i64 (slook N fr tt l hs)])) ∧
  (slook N fr tt l hs = 0 → wgt p q ≠ 0 → e = .returned (.tuple #[.agg #[.slice none 0 0, .int .i64 0, .slice none 0 0], .int .i64 (wgt p q)])) ∧
  (slook N fr tt l hs = 0 → wgt p q = 0 → ∃ n f t : Nat, N = n ∧ fr = f ∧ tt = t ∧ StarW.SearchSays n f t l hs q p w e w') ∧ Below w.heap.size w w'
set_option maxRecDepth 100000 in
set_option maxHeartbeats 4000000 in
theorem wrun_any (N fr tt : Int) (A : Option Addr) (c : Nat) (l : List E) (Ah : Option Addr) (ch : Nat) (hs : List Int) (p q : Int) (w : World) (hl : Sl w w.heap.size 3 ce A l) (hh : Sl w w.heap.size 1 ci Ah hs) (hlen : l.length ≤ 9223372036854775807) (hlen' : hs.length ≤ 9223372036854775807) :
    Calls Try.prog 27 #[.agg #[.int .i64 N, .slice A l.length c], .int .i64 fr, .int .i64 tt, .slice Ah hs.length ch, .agg #[.int .i64 p, .int .i64 q]] w fun e w' => WRunSays N fr tt l hs p q w e w' := by
  obtain ⟨w9, hw9⟩ : ∃ w9, w9 = ((w.alloc (.cells #[.int .i64 N, .slice A l.length c] 32)).alloc (.cells #[.int .i64 p, .int .i64 q] 54)).alloc (.cells #[.slice none 0 0, .int .i64 0, .slice none 0 0] 45) := ⟨_, rfl⟩
  have hw0 : Below w.heap.size w w9 := by rw [hw9]; exact (((Below.refl _ _).alloc (Nat.le_refl _) _).alloc (by simp) _).alloc (by simp; omega) _
  have hz0 : w.heap.size + 3 = w9.heap.size := by rw [hw9]; simp
  have hbox : w9.heap[w.heap.size]? = some (.cells #[.int .i64 N, .slice A l.length c] 32 (0, 0)) := by rw [hw9]; exact blk_alloc (blk_alloc (heap_alloc_new w _) _) _
  have hrat : w9.heap[w.heap.size + 1]? = some (.cells #[.int .i64 p, .int .i64 q] 54 (0, 0)) := by
    have h := blk_alloc (heap_alloc_new (w.alloc (.cells #[.int .i64 N, .slice A l.length c] 32)) (.cells #[.int .i64 p, .int .i64 q] 54)) (.cells #[.slice none 0 0, .int .i64 0, .slice none 0 0] 45)
    rw [hw9]; simpa using h
  have hres : w9.heap[w.heap.size + 1 + 1]? = some (.cells #[.slice none 0 0, .int .i64 0, .slice none 0 0] 45 (0, 0)) := by
    have h := heap_alloc_new ((w.alloc (.cells #[.int .i64 N, .slice A l.length c] 32)).alloc (.cells #[.int .i64 p, .int .i64 q] 54)) (.cells #[.slice none 0 0, .int .i64 0, .slice none 0 0] 45)
    rw [hw9]; simpa using h
  have hk := fun W hW => wbox hbox hrat hres hw0 hz0 (W := W) hW
  have HK := Lib.hid hk
  clear hk hbox hrat hres
  have klook := fun W (hb : Below w.heap.size w W) => slook_any N fr tt A c l Ah ch hs W ((hl.keep hb (Nat.le_refl _)).more hb.size) ((hh.keep hb (Nat.le_refl _)).more hb.size) hlen hlen'
  have kwgt := fun W => weight_any p q W
  have BB := Lib.hid (Below.refl w9.heap.size w9)
  have HW0 := Lib.hid hw0
  unfold WRunSays
  by_cases hx : slook N fr tt l hs = 0
  · rw [hx] at klook
    by_cases hy : wgt p q = 0
    · rw [hy] at kwgt
      obtain ⟨⟨q1, q2, q3, q4, _⟩, q5⟩ := wgt_zero.1 hy
      obtain ⟨hlk, hC⟩ := slook_zero.1 hx
      obtain ⟨hg, hc, ⟨f0, f1⟩, t0, t1⟩ := DijkWay.looks_zero hlk
      have h1 := hg.lo
      obtain ⟨n, rfl⟩ := Int.eq_ofNat_of_zero_le (show 0 ≤ N by omega)
      obtain ⟨f, rfl⟩ := Int.eq_ofNat_of_zero_le f0
      obtain ⟨t, rfl⟩ := Int.eq_ofNat_of_zero_le t0
      have hhl : hs.length = n := by have := hC.len; omega
      have ksrch := fun W Bw (hb : Below w.heap.size w W) hK => StarW.search_any n f t A l.length c l Ah ch hs q p Bw W rfl ((hl.keep hb (Nat.le_refl _)).more hb.size) hg hc ((hh.keep hb (Nat.le_refl _)).more hb.size) hhl hC.lo (by omega) (by omega) ⟨q1, q2⟩ ⟨by omega, q4⟩ hK
      rw [hhl] at klook ⊢
      have KS := Lib.hid ksrch
      have KN := Lib.hid (fun W => key_new p q W)
      have HHL := Lib.hid hhl
      have HX := Lib.hid hx
      have HY := Lib.hid hy
      have KL := Lib.hid klook
      have KW := Lib.hid kwgt
      clear klook kwgt ksrch hhl hg hc hC hlk hx hy q1 q2 q3 q4 q5 hw0 hl hh
      go_enter Try.func27, Try.ntmps27
      go_wp2_with fail
      rw [← hw9]
      refine (KL.out _ HW0.out).mono ?_
      rintro e w1 ⟨rfl, hb1⟩
      have B1 := BB.out.trans (hb1.mono (Nat.le_refl _))
      obtain ⟨⟨n0, n1, r0, r1⟩, _, _, z1, H1⟩ := HK.out _ B1
      have z10 : w.heap.size < w1.heap.size := by omega
      have z11 : w.heap.size + 1 < w1.heap.size := by omega
      clear hb1
      go_wp2_with fail
      refine (KW.out _).mono ?_
      rintro e w2 ⟨rfl, hb2⟩
      have B2 := B1.trans (hb2.mono B1.size)
      clear hb2 n0 n1 r0 r1 z10 z11 z1 H1 B1
      obtain ⟨⟨n0, n1, r0, r1⟩, _, _, z2, H2⟩ := HK.out _ B2
      have z20 : w.heap.size < w2.heap.size := by omega
      have z21 : w.heap.size + 1 < w2.heap.size := by omega
      have z22 : w.heap.size + 1 + 1 < w2.heap.size := by omega
      go_upto_region 7 with fail
      go_region_with (first
        | (go_at_call 55; refine (KN.out _).mono ?_; rintro e w3 ⟨Bw, rfl, kk3, hb3⟩; have B3 : Below w9.heap.size w9 w3 := (by first | exact B2.trans (hb3.mono B2.size) | exact B2.drew.trans (hb3.mono B2.size) | exact (below_drewN B2 _).trans (hb3.mono B2.size)); obtain ⟨⟨n0, n1, r0, r1⟩, _, _, z3, H3⟩ := HK.out _ B3; have z30 : w.heap.size < w3.heap.size := (by omega))
        | (go_at_call 51; go_must (refine (KS.out _ Bw (by first | exact H3 | exact H3.drew | exact below_drewN H3 _) (by first | exact kk3 | exact kk3.keep (Below.refl _ _).drew | exact kk3.keep (below_drewN (Below.refl _ _) _))).mono ?_; rintro e w4 hsays; obtain ⟨A1, cl, c1, dt, A2, ol, c2, xe, rfl, hb4⟩ := says_form hsays; have HSAYS := Lib.hid hsays; clear hsays; have B4 : Below w9.heap.size w9 w4 := (by first | exact B3.trans (hb4.mono B3.size) | exact B3.drew.trans (hb4.mono B3.size) | exact (below_drewN B3 _).trans (hb4.mono B3.size)); obtain ⟨_, ⟨s0, s1, s2, s3, s4, s5⟩, hres4, z4, H4⟩ := HK.out _ B4; have z40 : w.heap.size + 1 + 1 < w4.heap.size := (by omega); have o4 := (show w.heap.size ≤ w3.heap.size by exact H3.size))))
      all_goals
        simp only [Act.put, List.getElem_toArray, List.getElem_cons_succ, List.getElem_cons_zero, List.setIfInBounds_toArray, List.set_cons_zero, List.set_cons_succ]
        have s0' := s0
        clear n0 n1 r0 r1 s0'
        go_wp2
        refine bodyPost_ret (v := .tuple #[.agg #[.slice A1 cl c1, .int .i64 dt, .slice A2 ol c2], .int .i64 xe]) (by simp [results, Try.results27, go_sem, z40, s0, s1, s2, s3, s4, s5]) rfl ?_
        have HB : Below w.heap.size w (((w4.setCell ⟨w.heap.size + 1 + 1, 0, none⟩ (.slice A1 cl c1)).setCell ⟨w.heap.size + 1 + 1, 1, none⟩ (.int .i64 dt)).setCell ⟨w.heap.size + 1 + 1, 2, none⟩ (.slice A2 ol c2)) := ((H4.setCell (by dsimp only; omega) _).setCell (by dsimp only; omega) _).setCell (by dsimp only; omega) _
        refine ⟨fun h => absurd HX.out h, fun _ h => absurd HY.out h, fun _ _ => ⟨n, f, t, rfl, rfl, rfl, ?_⟩, HB⟩
        first
          | exact says_kept HSAYS.out hres4 (by simp; omega) HB
          | exact says_kept HSAYS.out hres4 (by omega) HB
    · rw [show wgt p q = wgt p q from rfl] at kwgt
      have hne : (wgt p q != 0) = true := by rw [bne_iff_ne]; exact hy
      have HX := Lib.hid hx
      have HY := Lib.hid hy
      clear hx hy hl hh hw0
      generalize wgt p q = er at *
      have KL := Lib.hid klook
      have KW := Lib.hid kwgt
      clear klook kwgt
      go_enter Try.func27, Try.ntmps27
      go_wp2_with fail
      rw [← hw9]
      refine (KL.out _ HW0.out).mono ?_
      rintro e w1 ⟨rfl, hb1⟩
      have B1 := BB.out.trans (hb1.mono (Nat.le_refl _))
      obtain ⟨⟨n0, n1, r0, r1⟩, _, _, z1, H1⟩ := HK.out _ B1
      have z10 : w.heap.size < w1.heap.size := by omega
      have z11 : w.heap.size + 1 < w1.heap.size := by omega
      clear hb1
      go_wp2_with fail
      refine (KW.out _).mono ?_
      rintro e w2 ⟨rfl, hb2⟩
      have B2 := B1.trans (hb2.mono B1.size)
      clear hb2 n0 n1 r0 r1 z10 z11 z1 H1 B1
      obtain ⟨_, ⟨s0, s1, s2, s3, s4, s5⟩, _, z2, H2⟩ := HK.out _ B2
      have z22 : w.heap.size + 1 + 1 < w2.heap.size := by omega
      clear hw9
      go_wp2
      refine bodyPost_ret (v := .tuple #[.agg #[.slice none 0 0, .int .i64 0, .slice none 0 0], .int .i64 er]) (by simp [results, Try.results27, go_sem, z22, s0, s1, s2, s3, s4, s5]) rfl ?_
      exact ⟨fun h => absurd HX.out h, fun _ _ => rfl, fun _ h => absurd h HY.out, ((H2.setCell (by dsimp only; omega) _).setCell (by dsimp only; omega) _).setCell (by dsimp only; omega) _⟩
  · have hne : (slook N fr tt l hs != 0) = true := by rw [bne_iff_ne]; exact hx
    have HX := Lib.hid hx
    clear hx hl hh hw0
    generalize slook N fr tt l hs = er at *
    have KL := Lib.hid klook
    clear klook kwgt
    go_enter Try.func27, Try.ntmps27
    go_wp2_with fail
    rw [← hw9]
    refine (KL.out _ HW0.out).mono ?_
    rintro e w1 ⟨rfl, hb1⟩
    have B1 := BB.out.trans (hb1.mono (Nat.le_refl _))
    obtain ⟨_, ⟨s0, s1, s2, s3, s4, s5⟩, _, z2, H2⟩ := HK.out _ B1
    have z22 : w.heap.size + 1 + 1 < w1.heap.size := by omega
    clear hw9 hb1
    go_wp2
    refine bodyPost_ret (v := .tuple #[.agg #[.slice none 0 0, .int .i64 0, .slice none 0 0], .int .i64 er]) (by simp [results, Try.results27, go_sem, z22, s0, s1, s2, s3, s4, s5]) rfl ?_
    exact ⟨fun _ => rfl, fun h => absurd h HX.out, fun h => absurd h HX.out, ((H2.setCell (by dsimp only; omega) _).setCell (by dsimp only; omega) _).setCell (by dsimp only; omega) _⟩
end Go.Proofs.Ytbgkkmcobijkgaa.StarF

namespace Go.Proofs.Ytbgkkmcobijkgaa.StarF
open Go.RowKit Go.Proofs.Ytbgkkmcobijkgaa NetLaw BellLaw DijkLaw HeurLaw StarLaw RatioLaw Go.Proofs.Ytbgkkmcobijkgaa.Net Go.Proofs.Ytbgkkmcobijkgaa.Dijk Go.Proofs.Ytbgkkmcobijkgaa.Std Go.Proofs.Ytbgkkmcobijkgaa.Heur
set_option linter.unusedSimpArgs false
set_option linter.unusedVariables false
theorem wtwo_run (p q : Int) (hw : wgt p q = 0) (hs : List Int) (hhs : hs = [5, 0] ∨ hs = [0, 0]) (W : World) (g : Nat) (h : Sl W W.heap.size 3 ce (some ⟨g, 0, none⟩) [(0, 1, 5)]) (A' : Option Addr) (ch : Nat) (hh : Sl W W.heap.size 1 ci A' hs) :
    Calls Try.prog 27 #[.agg #[.int .i64 2, .slice (some ⟨g, 0, none⟩) 1 1], .int .i64 0, .int .i64 1,   .slice A' 2 ch, .agg #[.int .i64 p, .int .i64 q]] W fun e w' => ∃ A1 c1 A2 c2, e = .returned (.tuple #[.agg #[.slice A1 2 c1, .int .i64 5, .slice A2 2 c2], .int .i64 0]) ∧ Own w' W.heap.size 3 1 ci (.slice A1 2 c1) [0, 1] ∧ Own w' W.heap.size 3 1 ci (.slice A2 2 c2) [0, 1] ∧ Below W.heap.size W w' := by
  have h2 : hs.length = 2 := by rcases hhs with rfl | rfl <;> rfl
  have k := wrun_any 2 0 1 (some ⟨g, 0, none⟩) 1 [(0, 1, 5)] A' ch hs p q W h hh (by decide) (by omega)
  rw [h2] at k
  refine k.mono ?_
  rintro e w' ⟨_, _, k2, k3⟩
  obtain ⟨n, f, t, hn, hf, ht, D, P, ord, hr, hc, _⟩ := k2 (by rcases hhs with rfl | rfl <;> decide +kernel) hw
  obtain rfl : n = 2 := by omega
  obtain rfl : f = 0 := by omega
  obtain rfl : t = 1 := by omega
  obtain ⟨rfl, rfl, rfl⟩ := two_end hhs hr (hc.imp (fun x => x.1) (fun x => x.1))
  rcases hc with ⟨_, cs, A1, c1, A2, c2, hch, he, o1, o2⟩ | ⟨hno, _⟩
  · obtain rfl := two_way hch
    exact ⟨A1, c1, A2, c2, he, o1, o2, k3⟩
  · exact absurd ⟨by decide, by decide, by decide⟩ (hno 1)
/-- Run where something is not right -/
theorem wrun_bad (N fr tt : Int) (A : Option Addr) (c : Nat) (l : List E) (Ah : Option Addr) (ch : Nat) (hs : List Int) (p q : Int) (w : World) (hl : Sl w w.heap.size 3 ce A l) (hh : Sl w w.heap.size 1 ci Ah hs) (hlen : l.length ≤ 9223372036854775807) (hlen' : hs.length ≤ 9223372036854775807) (hx : slook N fr tt l hs ≠ 0 ∨ wgt p q ≠ 0) :
    Calls Try.prog 27 #[.agg #[.int .i64 N, .slice A l.length c], .int .i64 fr, .int .i64 tt, .slice Ah hs.length ch, .agg #[.int .i64 p, .int .i64 q]] w fun e w' => ∃ er : Int, (er != 0) = true ∧ Hid (slook N fr tt l hs ≠ 0 → er = slook N fr tt l hs) ∧ e = .returned (.tuple #[.agg #[.slice none 0 0, .int .i64 0, .slice none 0 0], .int .i64 er]) ∧ Below w.heap.size w w' := by
  refine (wrun_any N fr tt A c l Ah ch hs p q w hl hh hlen hlen').mono ?_
  rintro e w' ⟨k1, k2, _, k3⟩
  by_cases hs0 : slook N fr tt l hs = 0
  · have hw : wgt p q ≠ 0 := hx.resolve_left (fun h => h hs0)
    exact ⟨_, by rw [bne_iff_ne]; exact hw, Lib.hid (fun h => absurd hs0 h), k2 hs0 hw, k3⟩
  · exact ⟨_, by rw [bne_iff_ne]; exact hs0, Lib.hid (fun _ => rfl), k1 hs0, k3⟩
/-- what Run answers where they are: the way, or none -/
def WFound (n f t : Nat) (l : List E) (hs : List Int) (p q : Int) (w : World) (e : Ending) (w' : World) : Prop :=
  ∃ D P ord, Hid (Rch (StarW.KK q p) n f t l hs D P ord) ∧
    ((∃ (pa : List Int) (m : Nat) (A1 : Option Addr) (c1 k : Nat) (A2 : Option Addr) (c2 : Nat) (co : Int), e = .returned (.tuple #[.agg #[.slice A1 m c1, .int .i64 co, .slice A2 k c2], .int .i64 0]) ∧ Own w' w.heap.size 3 1 ci (.slice A1 m c1) pa ∧ Own w' w.heap.size 3 1 ci (.slice A2 k c2) (ord ++ [(t : Int)]) ∧ Hid (Nx (StarW.KK q p) n hs D ord t) ∧ Hid (Fnd n f t l pa co (ord ++ [(t : Int)])) ∧ Hid (pa.length = m) ∧ Hid ((ord ++ [(t : Int)]).length = k) ∧ Hid (dg D t = co) ∧ Hid (Ch P t pa.reverse))
     ∨ (e = .returned (.tuple #[.agg #[.slice none 0 0, .int .i64 0, .slice none 0 0], .int .i64 5]) ∧ Hid (∀ u, ¬ Opn n D ord u))) ∧ Below w.heap.size w w'
theorem wrun_good (n f t : Nat) (A : Option Addr) (c : Nat) (l : List E) (Ah : Option Addr) (ch : Nat) (hs : List Int) (p q : Int) (w : World) (hl : Sl w w.heap.size 3 ce A l) (hh : Sl w w.heap.size 1 ci Ah hs) (hlen : l.length ≤ 9223372036854775807) (hlen' : hs.length ≤ 9223372036854775807) (hx : slook n f t l hs = 0) (hy : wgt p q = 0) :
    Calls Try.prog 27 #[.agg #[.int .i64 n, .slice A l.length c], .int .i64 f, .int .i64 t, .slice Ah hs.length ch, .agg #[.int .i64 p, .int .i64 q]] w fun e w' => WFound n f t l hs p q w e w' := by
  refine (wrun_any n f t A c l Ah ch hs p q w hl hh hlen hlen').mono ?_
  rintro e w' ⟨_, _, k2, k3⟩
  obtain ⟨n', f', t', hn, hf, ht, D, P, ord, hr, hc, _⟩ := k2 hx hy
  obtain rfl : n = n' := by omega
  obtain rfl : f = f' := by omega
  obtain rfl : t = t' := by omega
  obtain ⟨hlk, _⟩ := slook_zero.1 hx
  obtain ⟨hg, hcc, ⟨f0, f1⟩, t0, t1⟩ := DijkWay.looks_zero hlk
  refine ⟨D, P, ord, Lib.hid hr, ?_, k3⟩
  rcases hc with ⟨hnx, cs, A1, c1, A2, c2, hch, he, o1, o2⟩ | ⟨hno, he⟩
  · refine .inl ⟨cs.reverse, cs.reverse.length, A1, c1, ord.length + 1, A2, c2, dg D t, he, o1, o2, Lib.hid hnx, Lib.hid (fnd hr hnx hch hg hcc (by omega) (by omega)), Lib.hid rfl, Lib.hid (by simp), Lib.hid rfl, Lib.hid (by rw [List.reverse_reverse]; exact hch)⟩
  · exact .inr ⟨he, Lib.hid hno⟩
/-- the boxes of net and weight, and the arguments, behind what was made since -/
theorem nbox2 {w W : World} {N p q : Int} {A Ah : Option Addr} {c : Nat} {l : List E} {h : List Int} (hl : Sl w w.heap.size 3 ce A l) (hh : Sl w w.heap.size 1 ci Ah h) (hW : Below (w.heap.size + 1 + 1) ((w.alloc (.cells #[.int .i64 N, .slice A l.length c] 32)).alloc (.cells #[.int .i64 p, .int .i64 q] 54)) W) :
    W.cell? ⟨w.heap.size, 0, none⟩ = some (.int .i64 N) ∧ W.cell? ⟨w.heap.size, 1, none⟩ = some (.slice A l.length c) ∧ W.cell? ⟨w.heap.size + 1, 0, none⟩ = some (.int .i64 p) ∧ W.cell? ⟨w.heap.size + 1, 1, none⟩ = some (.int .i64 q) ∧ w.heap.size + 1 + 1 ≤ W.heap.size ∧ Sl W W.heap.size 3 ce A l ∧ Sl W W.heap.size 1 ci Ah h ∧ Below w.heap.size w W := by
  have hz : w.heap.size + 1 + 1 ≤ W.heap.size := by have := hW.size; simpa using this
  have hX := (((Below.refl w.heap.size w).alloc (Nat.le_refl _) (.cells #[.int .i64 N, .slice A l.length c] 32)).alloc (by simp) (.cells #[.int .i64 p, .int .i64 q] 54)).trans (hW.mono (by omega))
  have b0 := blk_below (blk_alloc (heap_alloc_new w (.cells #[.int .i64 N, .slice A l.length c] 32)) (.cells #[.int .i64 p, .int .i64 q] 54)) hW (by omega)
  have b1 : W.heap[w.heap.size + 1]? = some (.cells #[.int .i64 p, .int .i64 q] 54 (0, 0)) := blk_below (by
    have h := heap_alloc_new (w.alloc (.cells #[.int .i64 N, .slice A l.length c] 32)) (.cells #[.int .i64 p, .int .i64 q] 54)
    simpa using h) hW (by omega)
  have c0 := blk_cell b0 0
  have c1 := blk_cell b0 1
  have c2 := blk_cell b1 0
  have c3 := blk_cell b1 1
  simp only [List.getElem?_toArray, List.getElem?_cons_zero, List.getElem?_cons_succ] at c0 c1 c2 c3
  exact ⟨c0, c1, c2, c3, hz, (hl.keep hX (Nat.le_refl _)).more (by omega), (hh.keep hX (Nat.le_refl _)).more (by omega), hX⟩
/-- fellkeep.one -/
theorem one_any (w : World) : Calls Try.prog 28 #[] w fun e w' => e = .returned (.agg #[.int .i64 1, .int .i64 1]) ∧ Below w.heap.size w w' := by
  go_enter Try.func28, Try.ntmps28
  go_wp2
  refine bodyPost_ret (v := .agg #[.int .i64 1, .int .i64 1]) (by simp [results, Try.results28, go_sem]) rfl ⟨rfl, ?_⟩
  exact (Below.refl _ _).alloc (Nat.le_refl _) _
end Go.Proofs.Ytbgkkmcobijkgaa.StarF

namespace Go.Proofs.Ytbgkkmcobijkgaa.StarF
open Go.RowKit Go.Proofs.Ytbgkkmcobijkgaa NetLaw BellLaw DijkLaw HeurLaw StarLaw RatioLaw Go.Proofs.Ytbgkkmcobijkgaa.Net Go.Proofs.Ytbgkkmcobijkgaa.Dijk Go.Proofs.Ytbgkkmcobijkgaa.Std Go.Proofs.Ytbgkkmcobijkgaa.Heur
set_option linter.unusedSimpArgs false
set_option linter.unusedVariables false
/-- what Run answers, in one form -/
theorem wrun_form (N fr tt : Int) (A : Option Addr) (c : Nat) (l : List E) (Ah : Option Addr) (ch : Nat) (hs : List Int) (p q : Int) (w : World) (hl : Sl w w.heap.size 3 ce A l) (hh : Sl w w.heap.size 1 ci Ah hs) (hlen : l.length ≤ 9223372036854775807) (hlen' : hs.length ≤ 9223372036854775807) :
    Calls Try.prog 27 #[.agg #[.int .i64 N, .slice A l.length c], .int .i64 fr, .int .i64 tt, .slice Ah hs.length ch, .agg #[.int .i64 p, .int .i64 q]] w fun e w' => ∃ A1 m c1 co A2 k c2 x, e = .returned (.tuple #[.agg #[.slice A1 m c1, .int .i64 co, .slice A2 k c2], .int .i64 x]) ∧ Below w.heap.size w w' ∧ Hid (WRunSays N fr tt l hs p q w (.returned (.tuple #[.agg #[.slice A1 m c1, .int .i64 co, .slice A2 k c2], .int .i64 x])) w') := by
  refine (wrun_any N fr tt A c l Ah ch hs p q w hl hh hlen hlen').mono ?_
  rintro e w' ⟨k1, k0, k2, k3⟩
  by_cases hx : slook N fr tt l hs = 0
  · by_cases hy : wgt p q = 0
    · have k4 := k2 hx hy
      obtain ⟨n, f, t, _, _, _, D, P, ord, _, hc, _⟩ := k4
      rcases hc with ⟨_, cs, A1, c1, A2, c2, _, rfl, _, _⟩ | ⟨_, rfl⟩
      · exact ⟨_, _, _, _, _, _, _, _, rfl, k3, Lib.hid ⟨k1, k0, k2, k3⟩⟩
      · exact ⟨_, _, _, _, _, _, _, _, rfl, k3, Lib.hid ⟨k1, k0, k2, k3⟩⟩
    · obtain rfl := k0 hx hy
      exact ⟨_, _, _, _, _, _, _, _, rfl, k3, Lib.hid ⟨k1, k0, k2, k3⟩⟩
  · obtain rfl := k1 hx
    exact ⟨_, _, _, _, _, _, _, _, rfl, k3, Lib.hid ⟨k1, k0, k2, k3⟩⟩
theorem wsays_set {N fr tt : Int} {l : List E} {hs : List Int} {p q : Int} {w W w4 : World} {e : Ending} {R : Nat} {cs : Array Value} (h : WRunSays N fr tt l hs p q W e w4) (hr : w4.heap[R]? = some (.cells cs 45 (0, 0))) (hz : Below w.heap.size w W) (hR : w.heap.size ≤ R) (x y z : Value) :
    WRunSays N fr tt l hs p q w e (((w4.setCell ⟨R, 0, none⟩ x).setCell ⟨R, 1, none⟩ y).setCell ⟨R, 2, none⟩ z) := by
  obtain ⟨k1, k0, k2, k3⟩ := h
  have hB : Below w.heap.size w (((w4.setCell ⟨R, 0, none⟩ x).setCell ⟨R, 1, none⟩ y).setCell ⟨R, 2, none⟩ z) := (((hz.trans (k3.mono hz.size)).setCell hR _).setCell hR _).setCell hR _
  refine ⟨k1, k0, fun hx hy => ?_, hB⟩
  obtain ⟨n, f, t, h1, h2, h3, D, P, ord, hr', hc, hb⟩ := k2 hx hy
  refine ⟨n, f, t, h1, h2, h3, D, P, ord, hr', ?_, hB⟩
  rcases hc with ⟨hn, cs', A1, c1, A2, c2, hch, he, o1, o2⟩ | ⟨hn, he⟩
  · exact .inl ⟨hn, cs', A1, c1, A2, c2, hch, he, StarW.res_kept (o1.mono hz.size) hr _ _ _, StarW.res_kept (o2.mono hz.size) hr _ _ _⟩
  · exact .inr ⟨hn, he⟩
theorem wsays_alloc {N fr tt : Int} {l : List E} {hs : List Int} {p q : Int} {w W w4 : World} {e : Ending} (h : WRunSays N fr tt l hs p q W e w4) (hz : Below w.heap.size w W) (o : Obj) : WRunSays N fr tt l hs p q w e (w4.alloc o) := by
  obtain ⟨k1, k0, k2, k3⟩ := h
  have hB : Below w.heap.size w (w4.alloc o) := (hz.trans (k3.mono hz.size)).alloc (Nat.le_trans hz.size k3.size) o
  refine ⟨k1, k0, fun hx hy => ?_, hB⟩
  obtain ⟨n, f, t, h1, h2, h3, D, P, ord, hr', hc, hb⟩ := k2 hx hy
  refine ⟨n, f, t, h1, h2, h3, D, P, ord, hr', ?_, hB⟩
  rcases hc with ⟨hn, cs', A1, c1, A2, c2, hch, he, o1, o2⟩ | ⟨hn, he⟩
  · exact .inl ⟨hn, cs', A1, c1, A2, c2, hch, he, (o1.mono hz.size).alloc _, (o2.mono hz.size).alloc _⟩
  · exact .inr ⟨hn, he⟩
/-- what the two answers have alike -/
structure AnsSame (w0 w1 wa wb : World) (A1 A2 B1 B2 : Option Addr) (m c1 k c2 m' d1 k' d2 : Nat) (pa o : List Int) : Prop where
  em : pa.length = m
  em' : pa.length = m'
  ek : o.length = k
  ek' : o.length = k'
  lo : m ≤ 64 ∧ k ≤ 64
  a1 : Own wa w0.heap.size 3 1 ci (.slice A1 m c1) pa
  a2 : Own wa w0.heap.size 3 1 ci (.slice A2 k c2) o
  b1 : Own wb w1.heap.size 3 1 ci (.slice B1 m' d1) pa
  b2 : Own wb w1.heap.size 3 1 ci (.slice B2 k' d2) o
theorem both {N fr tt : Int} {l : List E} {hs : List Int} {p q : Int} {w0 w1 wa wb : World} {A1 A2 B1 B2 : Option Addr} {m c1 k c2 m' d1 k' d2 : Nat} {co co' xe xw : Int}
    (hS : RunSays N fr tt l hs w0 (.returned (.tuple #[.agg #[.slice A1 m c1, .int .i64 co, .slice A2 k c2], .int .i64 xe])) wa)
    (hW : WRunSays N fr tt l hs p q w1 (.returned (.tuple #[.agg #[.slice B1 m' d1, .int .i64 co', .slice B2 k' d2], .int .i64 xw])) wb)
    (hy : wgt p q = 0) (heq : ∀ (n : Nat) (D ord : List Int) (v : Int), N = n → slook N fr tt l hs = 0 → (Nx (StarW.KK q p) n hs D ord v ↔ Nx (StarS.KK 1 1) n hs D ord v)) :
    xe = xw ∧ co = co' ∧ ∃ pa o, AnsSame w0 w1 wa wb A1 A2 B1 B2 m c1 k c2 m' d1 k' d2 pa o := by
  by_cases hx : slook N fr tt l hs = 0
  · obtain ⟨n, f, t, h1, h2, h3, D, P, ord, hr, hc, _⟩ := hS.2.1 hx
    obtain ⟨n', f', t', h1', h2', h3', D', P', ord', hr', hc', _⟩ := hW.2.2.1 hx hy
    obtain rfl : n = n' := by omega
    obtain rfl : f = f' := by omega
    obtain rfl : t = t' := by omega
    have heq' := fun D ord v => heq n D ord v h1 hx
    have hr2 := hr'.congr heq'
    have st1 : Stop (StarS.KK 1 1) n t hs D ord := hc.imp (fun x => x.1) (fun x => x.1)
    have st2 : Stop (StarS.KK 1 1) n t hs D' ord' := hc'.imp (fun x => (heq' _ _ _).1 x.1) (fun x => x.1)
    obtain ⟨rfl, rfl, rfl⟩ := hr.det st1 hr2 st2
    subst h1 h2 h3
    obtain ⟨hlk, _⟩ := slook_zero.1 hx
    obtain ⟨hg, hcc, ⟨f0, f1⟩, t0, t1⟩ := DijkWay.looks_zero hlk
    rcases hc with ⟨hn, cs, A1', c1', A2', c2', hch, he, o1, o2⟩ | ⟨hn, he⟩
    · rcases hc' with ⟨hn', cs', B1', d1', B2', d2', hch', he', o1', o2'⟩ | ⟨hn', he'⟩
      · obtain rfl := hch.unique hch'
        have hf := fnd hr hn hch hg hcc (by omega) (by omega)
        simp only [Ending.returned.injEq, Value.tuple.injEq, Value.agg.injEq, Value.slice.injEq, Value.int.injEq, Array.mk.injEq, List.cons.injEq, true_and, and_true] at he he'
        obtain ⟨⟨⟨rfl, rfl, rfl⟩, rfl, rfl, rfl, rfl⟩, rfl⟩ := he
        obtain ⟨⟨⟨rfl, rfl, rfl⟩, rfl, rfl, rfl, rfl⟩, rfl⟩ := he'
        exact ⟨rfl, rfl, cs.reverse, ord ++ [(t : Int)], rfl, rfl, by simp, by simp, ⟨hf.plen.2, by have := hf.olen.2; simpa using this⟩, o1, o2, o1', o2'⟩
      · exact absurd hn.1 (hn' t)
    · rcases hc' with ⟨hn', _⟩ | ⟨hn', he'⟩
      · exact absurd hn'.1 (hn t)
      · simp only [Ending.returned.injEq, Value.tuple.injEq, Value.agg.injEq, Value.slice.injEq, Value.int.injEq, Array.mk.injEq, List.cons.injEq, true_and, and_true] at he he'
        obtain ⟨⟨⟨rfl, rfl, rfl⟩, rfl, rfl, rfl, rfl⟩, rfl⟩ := he
        obtain ⟨⟨⟨rfl, rfl, rfl⟩, rfl, rfl, rfl, rfl⟩, rfl⟩ := he'
        exact ⟨rfl, rfl, [], [], rfl, rfl, rfl, rfl, ⟨by omega, by omega⟩, Own.nil_, Own.nil_, Own.nil_, Own.nil_⟩
  · have he := hS.1 hx
    have he' := hW.1 hx
    simp only [Ending.returned.injEq, Value.tuple.injEq, Value.agg.injEq, Value.slice.injEq, Value.int.injEq, Array.mk.injEq, List.cons.injEq, true_and, and_true] at he he'
    obtain ⟨⟨⟨rfl, rfl, rfl⟩, rfl, rfl, rfl, rfl⟩, rfl⟩ := he
    obtain ⟨⟨⟨rfl, rfl, rfl⟩, rfl, rfl, rfl, rfl⟩, rfl⟩ := he'
    exact ⟨rfl, rfl, [], [], rfl, rfl, rfl, rfl, ⟨by omega, by omega⟩, Own.nil_, Own.nil_, Own.nil_, Own.nil_⟩
/-- one as a weight: the same keys -/
theorem nx_w1 (n : Nat) (hs D ord : List Int) (v : Int) : Nx (StarW.KK 1 1) n hs D ord v ↔ Nx (StarS.KK 1 1) n hs D ord v := by
  have h : StarW.KK 1 1 = StarS.KK 1 1 := by funext c g; unfold StarW.KK StarS.KK; omega
  rw [h]
/-- without guesses: the same order of keys -/
theorem nx_w0 {p q : Int} (hq : 1 ≤ q) (n z : Nat) (D ord : List Int) (v : Int) : Nx (StarW.KK q p) n (List.replicate z 0) D ord v ↔ Nx (StarS.KK 1 1) n (List.replicate z 0) D ord v := by
  have hz : ∀ v, dg (List.replicate z 0) v = 0 := fun v => by
    rw [dg, List.getD_eq_getElem?_getD, List.getElem?_replicate]
    split <;> rfl
  have h1 := nx_scale (N := n) (p := p) hq hz D ord v
  exact h1.symm
end Go.Proofs.Ytbgkkmcobijkgaa.StarF
