/- Plain facts on tables turned over: no Go in sight. -/
import Derived.Test.YtdgglgiafmndnaaFloydLaw
import Derived.Test.YtdgglgiafmndnaaNetTurn
namespace Go.Proofs.Ytdgglgiafmndnaa.FloydLaw
open NetLaw BellLaw Go.Proofs.Ytdgglgiafmndnaa.Net
set_option linter.unusedSimpArgs false
set_option linter.unusedVariables false
def tr {T : Type} (M : Mx T) : Mx T := fun i j => M j i
theorem tr_tr {T : Type} (M : Mx T) : tr (tr M) = M := rfl
theorem tr_ini {T : Type} (none self : T) : tr (ini none self) = ini none self := by
  funext i j
  unfold tr ini
  by_cases h : j = i
  · rw [if_pos h, if_pos h.symm]
  · rw [if_neg h, if_neg (fun e => h e.symm)]
theorem tr_ed1 {T : Type} {orf : T → T → T} {edge : E → T} (he : ∀ e, edge (e.2.1, e.1, e.2.2) = edge e) (M : Mx T) (e : E) : ed1 orf edge (tr M) (e.2.1, e.1, e.2.2) = tr (ed1 orf edge M e) := by
  funext i j
  unfold ed1 tr set2
  simp only [he]
  by_cases h : j = e.1.toNat ∧ i = e.2.1.toNat
  · rw [if_pos h, if_pos ⟨h.2, h.1⟩]
  · rw [if_neg h, if_neg (fun x => h ⟨x.2, x.1⟩)]
theorem tr_eds {T : Type} {orf : T → T → T} {edge : E → T} (he : ∀ e, edge (e.2.1, e.1, e.2.2) = edge e) (l : List E) (M : Mx T) : eds orf edge (tl l) (tr M) = tr (eds orf edge l M) := by
  induction l generalizing M with
  | nil => rfl
  | cons e r ih =>
    have h1 : eds orf edge (tl (e :: r)) (tr M) = eds orf edge (tl r) (ed1 orf edge (tr M) (e.2.1, e.1, e.2.2)) := rfl
    have h2 : eds orf edge (e :: r) M = eds orf edge r (ed1 orf edge M e) := rfl
    rw [h1, h2, tr_ed1 he, ih]
theorem tr_mid {T : Type} {orf thn : T → T → T} (hcm : ∀ a b, thn a b = thn b a) {n k : Nat} {M : Mx T} (hc : ∀ a, orf (M a k) (thn (M a k) (M k k)) = M a k) (hr : ∀ b, orf (M k b) (thn (M k k) (M k b)) = M k b) :
    mid orf thn n k (tr M) n = tr (mid orf thn n k M n) := by
  rw [mid_eq orf thn (n := n) (k := k) (M := M) hc hr, mid_eq orf thn (n := n) (k := k) (M := tr M) (fun a => by unfold tr; rw [hcm]; exact hr a) (fun b => by unfold tr; rw [hcm]; exact hc b)]
  funext a b
  unfold tr
  by_cases h : a < n ∧ b < n
  · rw [if_pos h]
    dsimp only
    rw [if_pos ⟨h.2, h.1⟩, hcm]
  · rw [if_neg h]
    dsimp only
    rw [if_neg (fun x => h ⟨x.2, x.1⟩)]
/-- where the middle never stirs its own row and column -/
theorem tr_out {T : Type} {orf thn : T → T → T} (hcm : ∀ a b, thn a b = thn b a) {n : Nat} {M : Mx T} (k : Nat)
    (h : ∀ k', k' < k → (∀ a, orf (out orf thn n M k' a k') (thn (out orf thn n M k' a k') (out orf thn n M k' k' k')) = out orf thn n M k' a k') ∧ (∀ b, orf (out orf thn n M k' k' b) (thn (out orf thn n M k' k' k') (out orf thn n M k' k' b)) = out orf thn n M k' k' b)) :
    out orf thn n (tr M) k = tr (out orf thn n M k) := by
  induction k with
  | zero => rfl
  | succ k ih =>
    obtain ⟨h1, h2⟩ := h k (Nat.lt_succ_self _)
    rw [out, out, ih (fun k' hk => h k' (by omega)), tr_mid hcm h1 h2]
theorem tr_lat {T : Type} {orf thn : T → T → T} {none self : T} {edge : E → T} (hcm : ∀ a b, thn a b = thn b a) (ha : ∀ a b, orf a (thn a b) = a) (he : ∀ e, edge (e.2.1, e.1, e.2.2) = edge e) (n : Nat) (l : List E) : clo orf thn none self edge n (tl l) = tr (clo orf thn none self edge n l) := by
  unfold clo
  have h := tr_eds (orf := orf) he l (ini none self)
  rw [tr_ini] at h
  rw [h]
  exact tr_out hcm n (fun k' _ => ⟨fun a => ha _ _, fun b => by rw [hcm]; exact ha _ _⟩)
theorem th_comm (a b : Int) : th a b = th b a := by
  unfold th
  by_cases h : a = far ∨ b = far
  · rw [if_pos h, if_pos h.symm]
  · rw [if_neg h, if_neg (fun x => h x.symm), Int.add_comm]
theorem tl_tl (l : List E) : tl (tl l) = l := by
  induction l with
  | nil => rfl
  | cons e r ih => exact congrArg (e :: ·) ih
theorem tl_good {N : Int} {l : List E} (hg : NetLaw.Good N l) : NetLaw.Good N (tl l) := by
  refine ⟨hg.lo, hg.hi, by rw [tl_len]; exact hg.len, fun e he => ?_, fun e he => ?_⟩
  · rw [tl, List.mem_map] at he
    obtain ⟨x, hx, rfl⟩ := he
    have := hg.ends x hx
    exact ⟨this.2.2.1, this.2.2.2, this.1, this.2.1⟩
  · rw [tl, List.mem_map] at he
    obtain ⟨x, hx, rfl⟩ := he
    exact hg.cost x hx
theorem tr_all {n : Nat} {l : List E} (hg : NetLaw.Good n l) (hd : ∀ m, m < n → 0 ≤ all n l m m) : all n (tl l) = tr (all n l) := by
  unfold all clo
  have h := tr_eds (orf := min) (edge := cst) (fun e => rfl) l (ini far 0)
  rw [tr_ini] at h
  rw [h]
  refine tr_out th_comm n fun k hk => ?_
  have hR : Rng (out min th n (eds min cst l (ini far 0)) k) := out_rng (start_rng hg)
  have hkk : 0 ≤ out min th n (eds min cst l (ini far 0)) k k k := Int.le_trans (hd k hk) (out_le (Nat.le_of_lt hk) k k)
  exact ⟨fun a => by have := th_grow (hR a k) hkk; omega, fun b => by have := th_grow (hR k b) hkk; omega⟩
theorem tr_neg {n : Nat} {l : List E} (hg : NetLaw.Good n l) : (∀ m, m < n → 0 ≤ all n l m m) ↔ (∀ m, m < n → 0 ≤ all n (tl l) m m) := by
  constructor
  · intro h m hm
    rw [tr_all hg h]
    exact h m hm
  · intro h m hm
    have h2 := tr_all (tl_good hg) h
    rw [tl_tl] at h2
    rw [h2]
    exact h m hm
end Go.Proofs.Ytdgglgiafmndnaa.FloydLaw
