/- Plain facts on fractions in lowest terms: no Go in sight. -/
/- The walks of package ratio: what each function answers. -/
/- The walk of weigh.Weight; three boxes. -/
import Derived.RowKit
import Derived.Test.YtpoolpaagbeokaaVKit
import Derived.Test.YtpoolpaagbeokaaVStarFn
namespace Go.Proofs.Ytpoolpaagbeokaa.RatioLaw
set_option linter.unusedSimpArgs false
set_option linter.unusedVariables false
/-- a fraction in lowest terms within the bounds -/
def Ok (n d : Int) : Prop := 1 ≤ d ∧ d ≤ 1000000 ∧ -1000000 ≤ n ∧ n ≤ 1000000 ∧ Int.gcd n d = 1

instance (n d : Int) : Decidable (Ok n d) := by unfold Ok; infer_instance

theorem gcd_pos {n d : Int} (h : 1 ≤ d) : 1 ≤ Int.gcd n d := by
  rcases Nat.eq_zero_or_pos (Int.gcd n d) with h0 | h0
  · rw [Int.gcd_eq_zero_iff] at h0; omega
  · exact h0
theorem gcd_le {n d : Int} (h : 1 ≤ d) : (Int.gcd n d : Int) ≤ d := by
  have := Int.gcd_dvd_right n d
  exact Int.le_of_dvd (by omega) this
theorem gcd_tmod (a b : Int) : Int.gcd b (a.tmod b) = Int.gcd a b := by
  rw [Int.gcd_eq_natAbs_gcd_natAbs, Int.gcd_eq_natAbs_gcd_natAbs, Int.natAbs_tmod, Nat.gcd_comm, ← Nat.gcd_rec, Nat.gcd_comm]
theorem tmod_lt (a : Int) {b : Int} (h : b ≠ 0) : (a.tmod b).natAbs < b.natAbs := by
  rw [Int.natAbs_tmod]
  exact Nat.mod_lt _ (by omega)
theorem dvd_of_gcd {d n e : Int} (h : Int.gcd n d = 1) (hd : d ∣ n * e) : d ∣ e := by
  rw [← Int.natAbs_dvd_natAbs] at hd ⊢
  rw [Int.natAbs_mul] at hd
  have hc : Nat.Coprime d.natAbs n.natAbs := by
    rw [Int.gcd_comm] at h
    exact h
  exact hc.dvd_of_dvd_mul_left hd
/-- lowest terms are one: equal cross products of lowest terms with denominators above 0 -/
theorem cross {n d m e : Int} (hd : 1 ≤ d) (he : 1 ≤ e) (h1 : Int.gcd n d = 1) (h2 : Int.gcd m e = 1) (h : n * e = m * d) : n = m ∧ d = e := by
  have hde : d ∣ e := dvd_of_gcd h1 (by rw [h]; exact Int.dvd_mul_left m d)
  have hed : e ∣ d := dvd_of_gcd h2 (by rw [← h]; exact Int.dvd_mul_left n e)
  have hd' : d = e := Int.le_antisymm (Int.le_of_dvd (by omega) hde) (Int.le_of_dvd (by omega) hed)
  subst hd'
  exact ⟨Int.eq_of_mul_eq_mul_right (by omega) h, rfl⟩
theorem lowest {n d : Int} (hd : 1 ≤ d) : Int.gcd (n / (Int.gcd n d : Int)) (d / (Int.gcd n d : Int)) = 1 ∧ 1 ≤ d / (Int.gcd n d : Int) ∧ n / (Int.gcd n d : Int) * (Int.gcd n d : Int) = n ∧ d / (Int.gcd n d : Int) * (Int.gcd n d : Int) = d := by
  have hp := gcd_pos (n := n) hd
  have hn := Int.ediv_mul_cancel (Int.gcd_dvd_left n d)
  have hd2 := Int.ediv_mul_cancel (Int.gcd_dvd_right n d)
  refine ⟨?_, ?_, hn, hd2⟩
  · rw [Int.gcd_ediv (Int.gcd_dvd_left n d) (Int.gcd_dvd_right n d), Int.natAbs_natCast]
    exact Nat.div_self hp
  rcases Int.lt_or_le 0 (d / (Int.gcd n d : Int)) with h | h
  · omega
  · exfalso
    have : d / (Int.gcd n d : Int) * (Int.gcd n d : Int) ≤ 0 := Int.mul_nonpos_of_nonpos_of_nonneg h (by omega)
    omega
theorem Ok.neg {n d : Int} (h : Ok n d) : Ok (-n) d := by
  obtain ⟨h1, h2, h3, h4, h5⟩ := h
  exact ⟨h1, h2, by omega, by omega, by rw [Int.neg_gcd]; exact h5⟩
theorem Ok.neg_iff {n d : Int} : Ok (-n) d ↔ Ok n d := ⟨fun h => by have := h.neg; rwa [Int.neg_neg] at this, Ok.neg⟩

/-- the comparison of a/b and c/d -/
def cm (a b c d : Int) : Int := if a * d < c * b then -1 else if c * b < a * d then 1 else 0
theorem cm_bd (a b c d : Int) : -1 ≤ cm a b c d ∧ cm a b c d ≤ 1 := by
  unfold cm; repeat' split
  all_goals omega
theorem cm_neg (a b c d : Int) : cm a b c d = -cm c d a b := by
  unfold cm; repeat' split
  all_goals omega
theorem cm_zero {a b c d : Int} (h : Ok a b) (k : Ok c d) : cm a b c d = 0 ↔ a = c ∧ b = d := by
  constructor
  · intro h0
    have : a * d = c * b := by
      unfold cm at h0
      split at h0
      · omega
      · split at h0
        · omega
        · omega
    exact cross h.1 k.1 h.2.2.2.2 k.2.2.2.2 this
  · rintro ⟨rfl, rfl⟩
    unfold cm
    rw [if_neg (by omega), if_neg (by omega)]
theorem cm_le_iff (a b c d : Int) : cm a b c d ≤ 0 ↔ a * d ≤ c * b := by
  unfold cm; repeat' split
  all_goals omega
theorem cm_trans {a b c d e f : Int} (h : Ok a b) (k : Ok c d) (l : Ok e f) (h1 : cm a b c d ≤ 0) (h2 : cm c d e f ≤ 0) : cm a b e f ≤ 0 := by
  rw [cm_le_iff] at *
  have e1 : a * d * f ≤ c * b * f := Int.mul_le_mul_of_nonneg_right h1 (by have := l.1; omega)
  have e2 : c * f * b ≤ e * d * b := Int.mul_le_mul_of_nonneg_right h2 (by have := h.1; omega)
  have e3 : (a * f) * d ≤ (e * b) * d := by
    rw [show (a * f) * d = a * d * f from by rw [Int.mul_assoc, Int.mul_assoc, Int.mul_comm f d], show (e * b) * d = e * d * b from by rw [Int.mul_assoc, Int.mul_assoc, Int.mul_comm b d]]
    exact Int.le_trans e1 (by rw [show c * b * f = c * f * b from by rw [Int.mul_assoc, Int.mul_assoc, Int.mul_comm b f]]; exact e2)
  exact Int.le_of_mul_le_mul_right e3 (by have := k.1; omega)
theorem prod_bd {a d : Int} (h1 : -1000000 ≤ a) (h2 : a ≤ 1000000) (h3 : -1000000 ≤ d) (h4 : d ≤ 1000000) : -1000000000000 ≤ a * d ∧ a * d ≤ 1000000000000 := by
  have : (a * d).natAbs ≤ 1000000 * 1000000 := by
    rw [Int.natAbs_mul]
    exact Nat.mul_le_mul (by omega) (by omega)
  omega
theorem pos_bd {a d : Int} (h1 : 1 ≤ a) (h2 : a ≤ 1000000) (h3 : 1 ≤ d) (h4 : d ≤ 1000000) : 1 ≤ a * d ∧ a * d ≤ 1000000000000 := by
  have := prod_bd (a := a) (d := d) (by omega) (by omega) (by omega) (by omega)
  have : 0 < a * d := Int.mul_pos (by omega) (by omega)
  omega

/-- the whole numbers about a fraction -/
theorem floor_go {n d : Int} (hd : 1 ≤ d) : (if n.tmod d < 0 then n.tdiv d - 1 else n.tdiv d) = n / d := by
  have h1 := Int.tdiv_eq_ediv (a := n) (b := d)
  have h2 := Int.tmod_eq_emod (a := n) (b := d)
  have hs : d.sign = 1 := Int.sign_eq_one_of_pos (by omega)
  have hm := Int.emod_nonneg n (b := d) (by omega)
  have hm2 := Int.emod_lt_of_pos n (b := d) (by omega)
  have hna : (d.natAbs : Int) = d := by omega
  by_cases hc : 0 ≤ n ∨ d ∣ n
  · rw [if_pos hc] at h1 h2
    rw [if_neg (by omega)]
    omega
  · rw [if_neg hc] at h1 h2
    rw [if_pos (by omega)]
    omega
theorem halves {n d : Int} (h : Ok n d) : (n / d = -(-n / d) ↔ d = 1) ∧ -(-n / d) - n / d ≤ 1 ∧ n / d ≤ -(-n / d) := by
  have hd := h.1
  have e1 := Int.mul_ediv_add_emod n d
  have e2 := Int.mul_ediv_add_emod (-n) d
  have m1 := Int.emod_nonneg n (b := d) (by omega)
  have m2 := Int.emod_lt_of_pos n (b := d) (by omega)
  have m3 := Int.emod_nonneg (-n) (b := d) (by omega)
  have m4 := Int.emod_lt_of_pos (-n) (b := d) (by omega)
  generalize n / d = q at *
  generalize -n / d = p at *
  generalize n % d = r at *
  generalize -n % d = t at *
  have e3 : d * (q + p) = -(r + t) := by rw [Int.mul_add]; omega
  have k1 : q + p ≤ 0 := by
    rcases Int.lt_or_le 0 (q + p) with hh | hh
    · have : 0 < d * (q + p) := Int.mul_pos (by omega) hh
      omega
    · exact hh
  have k2 : -2 < q + p := by
    rcases Int.lt_or_le (-2) (q + p) with hh | hh
    · exact hh
    · have : d * (q + p) ≤ d * (-2) := Int.mul_le_mul_of_nonneg_left hh (by omega)
      omega
  refine ⟨⟨fun hq => ?_, fun h1 => ?_⟩, by omega, by omega⟩
  · have h0 : q + p = 0 := by omega
    rw [h0] at e3
    have hr : r = 0 := by omega
    have hdn : d ∣ n := ⟨q, by omega⟩
    have hg := h.2.2.2.2
    have : (Int.gcd n d : Int) = d := Int.gcd_eq_right (by omega) hdn
    omega
  · subst h1
    omega
/-- in lowest terms, if there is room: numerator, denominator, error -/
def ft (n d : Int) : Int × Int × Int :=
  if -1000000 ≤ n / (Int.gcd n d : Int) ∧ n / (Int.gcd n d : Int) ≤ 1000000 ∧ d / (Int.gcd n d : Int) ≤ 1000000 then (n / (Int.gcd n d : Int), d / (Int.gcd n d : Int), 0) else (0, 0, 2)
def ad (a b c d : Int) : Int × Int × Int := if Ok a b ∧ Ok c d then ft (a * d + c * b) (b * d) else (0, 0, 3)
def mu (a b c d : Int) : Int × Int × Int := if Ok a b ∧ Ok c d then ft (a * c) (b * d) else (0, 0, 3)
theorem ad_comm (a b c d : Int) : ad c d a b = ad a b c d := by
  unfold ad
  exact ite_congr (propext and_comm) (fun _ => by rw [Int.add_comm (c * b), Int.mul_comm d b]) (fun _ => rfl)
theorem mu_comm (a b c d : Int) : mu c d a b = mu a b c d := by
  unfold mu
  exact ite_congr (propext and_comm) (fun _ => by rw [Int.mul_comm c a, Int.mul_comm d b]) (fun _ => rfl)
/-- what fits is a fraction of the same worth -/
theorem ft_ok {n d x y : Int} (hd : 1 ≤ d) (h : ft n d = (x, y, 0)) : Ok x y ∧ x * d = n * y := by
  have hl := lowest (n := n) hd
  unfold ft at h
  split at h
  · rename_i hc
    simp only [Prod.mk.injEq] at h
    obtain ⟨rfl, rfl, _⟩ := h
    obtain ⟨l1, l2, l3, l4⟩ := hl
    refine ⟨⟨l2, hc.2.2, hc.1, hc.2.1, l1⟩, ?_⟩
    generalize n / (Int.gcd n d : Int) = x at *
    generalize d / (Int.gcd n d : Int) = y at *
    generalize (Int.gcd n d : Int) = g at *
    subst l3 l4
    rw [Int.mul_comm y g, ← Int.mul_assoc]
  · simp at h
theorem ad_ok {a b c d x y : Int} (h : ad a b c d = (x, y, 0)) : Ok a b ∧ Ok c d ∧ Ok x y ∧ x * (b * d) = (a * d + c * b) * y := by
  unfold ad at h
  split at h
  · rename_i hc
    have hp := pos_bd hc.1.1 hc.1.2.1 hc.2.1 hc.2.2.1
    have := ft_ok hp.1 h
    exact ⟨hc.1, hc.2, this.1, this.2⟩
  · simp at h
theorem mu_ok {a b c d x y : Int} (h : mu a b c d = (x, y, 0)) : Ok a b ∧ Ok c d ∧ Ok x y ∧ x * (b * d) = (a * c) * y := by
  unfold mu at h
  split at h
  · rename_i hc
    have hp := pos_bd hc.1.1 hc.1.2.1 hc.2.1 hc.2.2.1
    have := ft_ok hp.1 h
    exact ⟨hc.1, hc.2, this.1, this.2⟩
  · simp at h
/-- the sum is spread over the product -/
theorem spread {a b c d e f p1 p2 s1 s2 t1 t2 l1 l2 r1 r2 : Int} (hp : ad a b c d = (p1, p2, 0)) (hs : mu a b e f = (s1, s2, 0)) (ht : mu c d e f = (t1, t2, 0))
    (hl : mu p1 p2 e f = (l1, l2, 0)) (hr : ad s1 s2 t1 t2 = (r1, r2, 0)) : l1 = r1 ∧ l2 = r2 := by
  obtain ⟨ka, kc, kp, ep⟩ := ad_ok hp
  obtain ⟨_, ke, ks, es⟩ := mu_ok hs
  obtain ⟨_, _, kt, et⟩ := mu_ok ht
  obtain ⟨_, _, kl, el⟩ := mu_ok hl
  obtain ⟨_, _, kr, er⟩ := ad_ok hr
  refine cross kl.1 kr.1 kl.2.2.2.2 kr.2.2.2.2 ?_
  have b0 : b ≠ 0 := by have := ka.1; omega
  have d0 : d ≠ 0 := by have := kc.1; omega
  have f0 : f ≠ 0 := by have := ke.1; omega
  have p0 : p2 ≠ 0 := by have := kp.1; omega
  have s0 : s2 ≠ 0 := by have := ks.1; omega
  have t0 : t2 ≠ 0 := by have := kt.1; omega
  have hne : p2 * f * (b * d) * (s2 * t2) * (b * f) * (d * f) ≠ 0 := by simp [Int.mul_eq_zero, b0, d0, f0, p0, s0, t0]
  refine Int.eq_of_mul_eq_mul_right hne ?_
  -- l1 r2 K = r1 l2 K
  have A : l1 * (p2 * f) * (b * d) = (a * d + c * b) * p2 * e * l2 := by
    rw [el, ← ep]
    grind
  have B : r1 * (s2 * t2) * (b * f) * (d * f) = (s1 * (b * f)) * t2 * (d * f) * r2 + (t1 * (d * f)) * s2 * (b * f) * r2 := by
    rw [er]
    grind
  rw [es, et] at B
  grind
end Go.Proofs.Ytpoolpaagbeokaa.RatioLaw

namespace Go.Proofs.Ytpoolpaagbeokaa.Ratio
open Go.RowKit Go.Proofs.Ytpoolpaagbeokaa RatioLaw
set_option linter.unusedSimpArgs false
set_option linter.unusedVariables false

theorem tdiv_of {a b : Int} {g : Nat} (h : g = Int.gcd a b) : a.tdiv (g : Int) = a / (g : Int) := by
  subst h
  exact Int.tdiv_eq_ediv_of_dvd (Int.gcd_dvd_left a b)

set_option maxHeartbeats 400000 in
theorem gcd_any (a b : Int) (w : World) (ha : -4000000000000 ≤ a) (ha' : a ≤ 4000000000000) (hb : -4000000000000 ≤ b) (hb' : b ≤ 4000000000000) :
    Calls Try.prog 78 #[.int .i64 a, .int .i64 b] w fun e w' => e = .returned (.int .i64 (Int.gcd a b)) ∧ ∃ n, w' = w.drewN n := by
  go_enter Try.func78, Try.ntmps78
  go_wp2
  go_loopw [0, 1] (fun x y wr => ∃ a' b' : Int, x = .int .i64 a' ∧ y = .int .i64 b' ∧ -4000000000000 ≤ a' ∧ a' ≤ 4000000000000 ∧ -4000000000000 ≤ b' ∧ b' ≤ 4000000000000 ∧ Int.gcd a' b' = Int.gcd a b ∧ ∃ n, wr = w.drewN n) (fun _ y _ => (intOf y).natAbs)
  case atStart => exact ⟨a, b, rfl, rfl, ha, ha', hb, hb', rfl, 0, rfl⟩
  case round =>
    obtain ⟨a', b', rfl, rfl, h1, h2, h3, h4, hg, n, rfl⟩ := hrel
    have HG := Lib.hid hg
    clear hg
    by_cases hz : b' = 0
    · subst hz
      go_wp2
      all_goals
        go_ret
        exact ⟨ret_int (by have := HG.out; rw [Int.gcd_zero_right] at this; omega), n, rfl⟩
    · go_wp2
      go_quiet (fail)
      go_wp2
      go_roundw
      case rel =>
        have ht := tmod_lt a' hz
        exact ⟨b', a'.tmod b', rfl, rfl, h3, h4, by omega, by omega, by rw [gcd_tmod]; exact HG.out, n + nq, World.drewN_drewN _ _ _⟩
      case measure => exact tmod_lt a' hz

set_option maxHeartbeats 400000 in
theorem within_any (a : Int) (r : Bool) (w : World) (hr : decide (-1000000 ≤ a ∧ a ≤ 1000000) = r) :
    Calls Try.prog 64 #[.int .i64 a] w fun e w' => e = .returned (.bool r) ∧ w = w' := by
  subst hr
  by_cases h1 : -1000000 ≤ a
  · by_cases h2 : a ≤ 1000000
    · go_enter Try.func64, Try.ntmps64
      go_wp2
      go_ret
      exact ⟨by simp [h1, h2], rfl⟩
    · go_enter Try.func64, Try.ntmps64
      go_wp2
      go_ret
      exact ⟨by simp; omega, rfl⟩
  · go_enter Try.func64, Try.ntmps64
    go_wp2
    go_ret
    exact ⟨by simp; omega, rfl⟩

set_option maxHeartbeats 400000 in
theorem least_any (a b : Int) (w : World) (ha : -2000000000000 ≤ a) (ha' : a ≤ 2000000000000) (hb : 1 ≤ b) (hb' : b ≤ 1000000000000) :
    Calls Try.prog 65 #[.int .i64 a, .int .i64 b] w fun e w' => e = .returned (.agg #[.int .i64 (a / (Int.gcd a b : Int)), .int .i64 (b / (Int.gcd a b : Int))]) ∧ Below w.heap.size w w' := by
  have hp := gcd_pos (n := a) hb
  have hl := gcd_le (n := a) hb
  have hnn : (0 : Int) ≤ (Int.gcd a b : Int) := by omega
  obtain ⟨g, hg⟩ : ∃ g : Nat, g = Int.gcd a b := ⟨_, rfl⟩
  rw [← hg] at hp hl hnn ⊢
  have HG := Lib.hid hg
  clear hg
  go_enter Try.func65, Try.ntmps65
  go_wp2_with (go_at_call 78; refine (gcd_any _ _ _ (by omega) (by omega) (by omega) (by omega)).mono ?_; rintro e w' ⟨rfl, n, rfl⟩; rw [← HG.out])
  go_region
  go_wp2
  refine bodyPost_ret (v := .agg #[.int .i64 (a / (g : Int)), .int .i64 (b / (g : Int))]) (by simp [results, Try.results65, go_sem, tdiv_of HG.out]) rfl ⟨rfl, ?_⟩
  exact ((below_drewN ((Below.refl _ _).alloc (Nat.le_refl _) _) _).setCell (by simp) _).setCell (by simp) _

set_option maxHeartbeats 400000 in
theorem make_yes (a b : Int) (w : World) (h1 : -1000000 ≤ a) (h2 : a ≤ 1000000) (h3 : 1 ≤ b) (h4 : b ≤ 1000000) :
    Calls Try.prog 50 #[.int .i64 a, .int .i64 b] w fun e w' => e = .returned (.tuple #[.agg #[.int .i64 (a / (Int.gcd a b : Int)), .int .i64 (b / (Int.gcd a b : Int))], .int .i64 0]) ∧ Below w.heap.size w w' := by
  go_enter Try.func50, Try.ntmps50
  go_wp2_with (first
    | (go_at_call 64; refine (within_any _ true _ (by simp; omega)).mono ?_; rintro e w' ⟨rfl, rfl⟩)
    | (go_at_call 65; refine (least_any _ _ _ (by omega) (by omega) (by omega) (by omega)).mono ?_; rintro e w1 ⟨rfl, hb⟩; obtain ⟨hc, hf⟩ := bcell hb; have hz : w.heap.size < w1.heap.size := by have := hb.size; simp at this; omega))
  refine bodyPost_ret (v := .tuple #[.agg #[.int .i64 (a / (Int.gcd a b : Int)), .int .i64 (b / (Int.gcd a b : Int))], .int .i64 0]) (by simp [results, Try.results50, go_sem, hc, hf, hz]) rfl ⟨rfl, ?_⟩
  exact ((((Below.refl _ _).alloc (Nat.le_refl _) _).trans (hb.mono (by simp))).setCell (by simp) _).setCell (by simp) _

set_option maxHeartbeats 400000 in
theorem make_no (a b : Int) (w : World) (h : ¬ (-1000000 ≤ a ∧ a ≤ 1000000 ∧ 1 ≤ b ∧ b ≤ 1000000)) :
    Calls Try.prog 50 #[.int .i64 a, .int .i64 b] w fun e w' => e = .returned (.tuple #[.agg #[.int .i64 0, .int .i64 0], .int .i64 1]) ∧ Below w.heap.size w w' := by
  by_cases h1 : b < 1
  · clear h
    go_enter Try.func50, Try.ntmps50
    go_wp2
    refine bodyPost_ret (v := .tuple #[.agg #[.int .i64 0, .int .i64 0], .int .i64 1]) (by simp [results, Try.results50, go_sem]) rfl ⟨rfl, ?_⟩
    exact ((Below.refl _ _).alloc (Nat.le_refl _) _)
  · by_cases h2 : -1000000 ≤ a ∧ a ≤ 1000000
    · have h3 : ¬ (b ≤ 1000000) := by omega
      clear h
      go_enter Try.func50, Try.ntmps50
      go_wp2_with fail
      refine (within_any _ true _ (by simp; omega)).mono ?_
      rintro e w' ⟨rfl, rfl⟩
      go_wp2_with fail
      refine (within_any _ false _ (by simp; omega)).mono ?_
      rintro e w' ⟨rfl, rfl⟩
      go_wp2
      refine bodyPost_ret (v := .tuple #[.agg #[.int .i64 0, .int .i64 0], .int .i64 1]) (by simp [results, Try.results50, go_sem]) rfl ⟨rfl, ?_⟩
      exact ((Below.refl _ _).alloc (Nat.le_refl _) _)
    · clear h
      go_enter Try.func50, Try.ntmps50
      go_wp2_with (go_at_call 64; refine (within_any _ false _ (by simp; omega)).mono ?_; rintro e w' ⟨rfl, rfl⟩)
      refine bodyPost_ret (v := .tuple #[.agg #[.int .i64 0, .int .i64 0], .int .i64 1]) (by simp [results, Try.results50, go_sem]) rfl ⟨rfl, ?_⟩
      exact ((Below.refl _ _).alloc (Nat.le_refl _) _)


set_option maxHeartbeats 400000 in
theorem check_yes (a b : Int) (w : World) (h : Ok a b) :
    Calls Try.prog 26 #[.agg #[.int .i64 a, .int .i64 b]] w fun e w' => e = .returned (.int .i64 0) ∧ Below w.heap.size w w' := by
  obtain ⟨h1, h2, h3, h4, h5⟩ := h
  have key := fun W => make_yes a b W h3 h4 h1 h2
  rw [h5] at key
  simp only [Int.natCast_one, Int.ediv_one] at key
  have KEY := Lib.hid key
  clear key h5
  go_enter Try.func26, Try.ntmps26
  go_wp2_with fail
  refine (KEY.out _).mono ?_
  rintro e w1 ⟨rfl, hb⟩
  obtain ⟨hc, hf, _⟩ := bafter hb
  have hz : w.heap.size < w1.heap.size := by have := hb.size; simp at this; omega
  have hB : Below w.heap.size w w1 := ((Below.refl _ _).alloc (Nat.le_refl _) _).trans (hb.mono (by simp))
  go_wp2
  go_ret
  exact ⟨rfl, hB.alloc hB.size _⟩

set_option maxHeartbeats 400000 in
theorem check_no (a b : Int) (w : World) (h : ¬ Ok a b) :
    Calls Try.prog 26 #[.agg #[.int .i64 a, .int .i64 b]] w fun e w' => e = .returned (.int .i64 3) ∧ Below w.heap.size w w' := by
  by_cases h' : -1000000 ≤ a ∧ a ≤ 1000000 ∧ 1 ≤ b ∧ b ≤ 1000000
  · have hg : Int.gcd a b ≠ 1 := fun hg => h ⟨h'.2.2.1, h'.2.2.2, h'.1, h'.2.1, hg⟩
    have hp := gcd_pos (n := a) h'.2.2.1
    have key := fun W => make_yes a b W h'.1 h'.2.1 h'.2.2.1 h'.2.2.2
    have hne : (b / (Int.gcd a b : Int) == b) = false := by
      rw [beq_eq_false_iff_ne]
      intro he
      have hl := (lowest (n := a) h'.2.2.1).2.2.2
      rw [he] at hl
      have : b * (Int.gcd a b : Int) = b * 1 := by omega
      have := Int.eq_of_mul_eq_mul_left (by omega) this
      omega
    have KEY := Lib.hid key
    clear key h hg
    generalize a / (Int.gcd a b : Int) = a1 at KEY
    generalize b / (Int.gcd a b : Int) = b1 at KEY hne
    clear hp
    go_enter Try.func26, Try.ntmps26
    go_wp2_with fail
    refine (KEY.out _).mono ?_
    rintro e w1 ⟨rfl, hb⟩
    obtain ⟨hc, hf, _⟩ := bafter hb
    have hz : w.heap.size < w1.heap.size := by have := hb.size; simp at this; omega
    have hB : Below w.heap.size w w1 := ((Below.refl _ _).alloc (Nat.le_refl _) _).trans (hb.mono (by simp))
    go_wp2
    go_ret
    exact ⟨rfl, hB.alloc hB.size _⟩
  · go_enter Try.func26, Try.ntmps26
    go_wp2_with fail
    refine (make_no _ _ _ h').mono ?_
    rintro e w1 ⟨rfl, hb⟩
    obtain ⟨hc, hf, _⟩ := bafter hb
    have hz : w.heap.size < w1.heap.size := by have := hb.size; simp at this; omega
    have hB : Below w.heap.size w w1 := ((Below.refl _ _).alloc (Nat.le_refl _) _).trans (hb.mono (by simp))
    clear h h'
    go_wp2
    go_ret
    exact ⟨rfl, hB.alloc hB.size _⟩

end Go.Proofs.Ytpoolpaagbeokaa.Ratio

namespace Go.Proofs.Ytpoolpaagbeokaa.StarF
open Go.RowKit Go.Proofs.Ytpoolpaagbeokaa NetLaw BellLaw DijkLaw HeurLaw RatioLaw Go.Proofs.Ytpoolpaagbeokaa.Net Go.Proofs.Ytpoolpaagbeokaa.Dijk Go.Proofs.Ytpoolpaagbeokaa.Std Go.Proofs.Ytpoolpaagbeokaa.Heur
set_option linter.unusedSimpArgs false
set_option linter.unusedVariables false

/-- what weigh.Weight answers -/
def wgt (a b : Int) : Int := if 1 ≤ b ∧ b ≤ 1000000 ∧ -1000000 ≤ a ∧ a ≤ 1000000 ∧ Int.gcd a b = 1 then (if a < b then 1 else 0) else 3
theorem wgt_zero {a b : Int} : wgt a b = 0 ↔ Ok a b ∧ b ≤ a := by
  unfold wgt
  split
  · rename_i h
    obtain ⟨h1, h2, h3, h4, h5⟩ := h
    split
    · exact ⟨fun x => by omega, fun x => by omega⟩
    · exact ⟨fun _ => ⟨⟨h1, h2, h3, h4, h5⟩, by omega⟩, fun _ => rfl⟩
  · rename_i h
    exact ⟨fun x => by omega, fun x => absurd x.1 h⟩
set_option maxHeartbeats 1000000 in
theorem weight_any (a b : Int) (w : World) :
    Calls Try.prog 55 #[.agg #[.int .i64 a, .int .i64 b]] w fun e w' => e = .returned (.int .i64 (wgt a b)) ∧ Below w.heap.size w w' := by
  have hw0 : Below w.heap.size w (w.alloc (.cells #[.int .i64 a, .int .i64 b] 39)) := (Below.refl _ _).alloc (Nat.le_refl _) _
  have hbox := heap_alloc_new w (.cells #[.int .i64 a, .int .i64 b] 39)
  have HBOX := Lib.hid hbox
  clear hbox
  by_cases hok : 1 ≤ b ∧ b ≤ 1000000 ∧ -1000000 ≤ a ∧ a ≤ 1000000 ∧ Int.gcd a b = 1
  · have hp : wgt a b = if a < b then 1 else 0 := by unfold wgt; rw [if_pos hok]
    have key := fun W => Ratio.check_yes a b W hok
    have KEY := Lib.hid key
    clear key hok
    by_cases hlt : a < b
    · rw [if_pos hlt] at hp
      rw [hp]
      have hd : decide (a < b) = true := decide_eq_true hlt
      clear hp
      go_enter Try.func55, Try.ntmps55
      go_wp2_with fail
      refine (KEY.out _).mono ?_
      rintro e w1 ⟨rfl, hb1⟩
      have H1 := hw0.trans (hb1.mono (by simp))
      have hb := blk_below HBOX.out hb1 (by simp)
      have q0 := blk_cell hb 0
      have q1 := blk_cell hb 1
      simp only [List.getElem?_toArray, List.getElem?_cons_zero, List.getElem?_cons_succ] at q0 q1
      have hz : w.heap.size < w1.heap.size := lt_of_block hb
      clear hb hb1
      go_wp2
      go_ret
      exact ⟨rfl, H1⟩
    · rw [if_neg hlt] at hp
      rw [hp]
      have hd : decide (a < b) = false := decide_eq_false hlt
      clear hp
      go_enter Try.func55, Try.ntmps55
      go_wp2_with fail
      refine (KEY.out _).mono ?_
      rintro e w1 ⟨rfl, hb1⟩
      have H1 := hw0.trans (hb1.mono (by simp))
      have hb := blk_below HBOX.out hb1 (by simp)
      have q0 := blk_cell hb 0
      have q1 := blk_cell hb 1
      simp only [List.getElem?_toArray, List.getElem?_cons_zero, List.getElem?_cons_succ] at q0 q1
      have hz : w.heap.size < w1.heap.size := lt_of_block hb
      clear hb hb1
      go_wp2
      go_ret
      exact ⟨rfl, H1⟩
  · have hp : wgt a b = 3 := by unfold wgt; rw [if_neg hok]
    have key := fun W => Ratio.check_no a b W hok
    have KEY := Lib.hid key
    rw [hp]
    clear key hok hp
    go_enter Try.func55, Try.ntmps55
    go_wp2_with fail
    refine (KEY.out _).mono ?_
    rintro e w1 ⟨rfl, hb1⟩
    have H1 := hw0.trans (hb1.mono (by simp))
    clear hb1
    go_wp2
    go_ret
    exact ⟨rfl, H1⟩
/-- the three boxes behind what was made since -/
theorem wbox {w w9 W : World} {v0 v1 v2 v3 v4 v5 v6 : Value} {k0 k1 k2 : TypeId} (hbox : w9.heap[w.heap.size]? = some (.cells #[v0, v1] k0 (0, 0))) (hrat : w9.heap[w.heap.size + 1]? = some (.cells #[v2, v3] k1 (0, 0))) (hres : w9.heap[w.heap.size + 1 + 1]? = some (.cells #[v4, v5, v6] k2 (0, 0))) (hw0 : Below w.heap.size w w9) (hz0 : w.heap.size + 3 = w9.heap.size) (hW : Below w9.heap.size w9 W) :
    (W.cell? ⟨w.heap.size, 0, none⟩ = some v0 ∧ W.cell? ⟨w.heap.size, 1, none⟩ = some v1 ∧ W.cell? ⟨w.heap.size + 1, 0, none⟩ = some v2 ∧ W.cell? ⟨w.heap.size + 1, 1, none⟩ = some v3) ∧
    (W.cell? ⟨w.heap.size + 1 + 1, 0, none⟩ = some v4 ∧ W.cell? ⟨w.heap.size + 1 + 1, 1, none⟩ = some v5 ∧ W.cell? ⟨w.heap.size + 1 + 1, 2, none⟩ = some v6 ∧ W.frozen? ⟨w.heap.size + 1 + 1, 0, none⟩ = false ∧ W.frozen? ⟨w.heap.size + 1 + 1, 1, none⟩ = false ∧ W.frozen? ⟨w.heap.size + 1 + 1, 2, none⟩ = false) ∧
    W.heap[w.heap.size + 1 + 1]? = some (.cells #[v4, v5, v6] k2 (0, 0)) ∧ w.heap.size + 3 ≤ W.heap.size ∧ Below w.heap.size w W := by
  have b0 := blk_below hbox hW (by omega)
  have b1 := blk_below hrat hW (by omega)
  have b2 := blk_below hres hW (by omega)
  have c0 := blk_cell b0 0
  have c1 := blk_cell b0 1
  have c2 := blk_cell b1 0
  have c3 := blk_cell b1 1
  have c4 := blk_cell b2 0
  have c5 := blk_cell b2 1
  have c6 := blk_cell b2 2
  simp only [List.getElem?_toArray, List.getElem?_cons_zero, List.getElem?_cons_succ] at c0 c1 c2 c3 c4 c5 c6
  exact ⟨⟨c0, c1, c2, c3⟩, ⟨c4, c5, c6, blk_free b2 0, blk_free b2 1, blk_free b2 2⟩, b2, Nat.le_trans (Nat.le_of_eq hz0) hW.size, hw0.trans (hW.mono (by omega))⟩
end Go.Proofs.Ytpoolpaagbeokaa.StarF
