/- Plain facts on what goes through a net: flows, cuts, and what one more way adds. No Go in sight. -/
import Derived.Test.YtjebckehmmbkbaaVNetTurn
import Derived.Test.YtjebckehmmbkbaaVFloydLaw
namespace Go.Proofs.Ytjebckehmmbkbaa.FlowLaw
open NetLaw Go.Proofs.Ytjebckehmmbkbaa.Net
set_option linter.unusedSimpArgs false
set_option linter.unusedVariables false
/-- a sum over the first k numbers -/
def rsum : Nat → (Nat → Int) → Int
  | 0, _ => 0
  | k + 1, f => rsum k f + f k
theorem rsum_le {f g : Nat → Int} (k : Nat) (h : ∀ i, i < k → f i ≤ g i) : rsum k f ≤ rsum k g := by
  induction k with
  | zero => exact Int.le_refl _
  | succ k ih =>
    have h1 := ih fun i hi => h i (by omega)
    have h2 := h k (by omega)
    rw [rsum, rsum]
    omega
theorem rsum_congr {f g : Nat → Int} (k : Nat) (h : ∀ i, i < k → f i = g i) : rsum k f = rsum k g := by
  induction k with
  | zero => rfl
  | succ k ih => rw [rsum, rsum, ih fun i hi => h i (by omega), h k (by omega)]
theorem rsum_upd {f g : Nat → Int} (k i : Nat) (hi : i < k) (h : ∀ j, j < k → j ≠ i → g j = f j) : rsum k g = rsum k f + (g i - f i) := by
  induction k with
  | zero => exact absurd hi (Nat.not_lt_zero _)
  | succ k ih =>
    rw [rsum, rsum]
    rcases Nat.lt_or_ge i k with h1 | h1
    · rw [ih h1 fun j hj => h j (by omega), h k (by omega) (by omega)]
      omega
    · obtain rfl : i = k := by omega
      rw [rsum_congr i fun j hj => h j (by omega) (by omega)]
      omega
theorem rsum_neg {f g : Nat → Int} (k : Nat) (h : ∀ i, i < k → f i = -g i) : rsum k f = -rsum k g := by
  induction k with
  | zero => rfl
  | succ k ih => rw [rsum, rsum, ih fun i hi => h i (by omega), h k (by omega)]; omega
/-- an edge, by its number -/
def ed (l : List E) (i : Nat) : E := l.getD i (0, 0, 0)
def fr (l : List E) (i : Nat) : Int := (ed l i).1
def en (l : List E) (i : Nat) : Int := (ed l i).2.1
def cpt (l : List E) (i : Nat) : Int := (ed l i).2.2
def fv (F : List Int) (i : Nat) : Int := F.getD i 0
theorem ed_mem {l : List E} {i : Nat} (h : i < l.length) : ed l i ∈ l := by
  unfold ed
  rw [List.getD_eq_getElem?_getD, List.getElem?_eq_getElem h]
  exact List.getElem_mem h
theorem ed_at {l : List E} {i : Nat} (h : i < l.length) : ed l i = l[i] := by
  unfold ed
  rw [List.getD_eq_getElem?_getD, List.getElem?_eq_getElem h]
  rfl
theorem fl_set {F : List Int} {i j : Nat} {x : Int} (h : i < F.length) : fv (F.set i x) j = if j = i then x else fv F j := by
  unfold fv
  rw [List.getD_eq_getElem?_getD, List.getD_eq_getElem?_getD]
  by_cases e : j = i
  · subst e; rw [if_pos rfl, List.getElem?_set_self h]; rfl
  · rw [if_neg e, List.getElem?_set_ne (by omega)]
/-- what flows out, weighed by heights -/
def W (l : List E) (F : List Int) (φ : Int → Int) : Int := rsum l.length fun i => fv F i * (φ (fr l i) - φ (en l i))
/-- what a side's edges bear that leave it -/
def C (l : List E) (S : Int → Bool) : Int := rsum l.length fun i => if S (fr l i) = true ∧ S (en l i) = false then cpt l i else 0
/-- so much flows from s to t -/
structure Fw (l : List E) (s t : Int) (F : List Int) (v : Int) : Prop where
  len : F.length = l.length
  cap : ∀ i, i < l.length → 0 ≤ fv F i ∧ fv F i ≤ cpt l i
  cons : ∀ φ : Int → Int, W l F φ = v * (φ s - φ t)
def ind (S : Int → Bool) (x : Int) : Int := if S x = true then 1 else 0
section
variable {l : List E} {s t v : Int} {F : List Int} {S : Int → Bool}
theorem term_le (f c : Int) (a b : Bool) (h0 : 0 ≤ f) (h1 : f ≤ c) : f * ((if a = true then (1 : Int) else 0) - (if b = true then 1 else 0)) ≤ if a = true ∧ b = false then c else 0 := by
  cases a <;> cases b <;> simp <;> omega
theorem Fw.le_cut (h : Fw l s t F v) (hs : S s = true) (ht : S t = false) : v ≤ C l S := by
  have h1 := h.cons (ind S)
  have e : ind S s - ind S t = 1 := by unfold ind; rw [if_pos hs, if_neg (by simp [ht])]; rfl
  rw [e, Int.mul_one] at h1
  rw [← h1]
  refine rsum_le _ fun i hi => ?_
  obtain ⟨a, b⟩ := h.cap i hi
  exact term_le _ _ _ _ a b
theorem Fw.eq_cut (h : Fw l s t F v) (hs : S s = true) (ht : S t = false) (h1 : ∀ i, i < l.length → S (fr l i) = true → S (en l i) = false → fv F i = cpt l i) (h2 : ∀ i, i < l.length → S (fr l i) = false → S (en l i) = true → fv F i = 0) : v = C l S := by
  have h3 := h.cons (ind S)
  have e : ind S s - ind S t = 1 := by unfold ind; rw [if_pos hs, if_neg (by simp [ht])]; rfl
  rw [e, Int.mul_one] at h3
  rw [← h3]
  refine rsum_congr _ fun i hi => ?_
  have a := h1 i hi
  have b := h2 i hi
  unfold ind
  generalize S (fr l i) = p at *
  generalize S (en l i) = q at *
  cases p <;> cases q <;> simp at a b ⊢ <;> omega
/-- the most that goes through -/
def Mx (l : List E) (s t v : Int) : Prop := (∃ F, Fw l s t F v) ∧ ∃ S : Int → Bool, S s = true ∧ S t = false ∧ C l S = v
theorem Mx.le {v' : Int} (h : Mx l s t v) (h' : Fw l s t F v') : v' ≤ v := by
  obtain ⟨_, S, hs, ht, hc⟩ := h
  have := h'.le_cut hs ht
  omega
theorem Mx.unique {v' : Int} (h : Mx l s t v) (h' : Mx l s t v') : v = v' := by
  obtain ⟨F, hF⟩ := h.1
  obtain ⟨F', hF'⟩ := h'.1
  have a := h.le hF'
  have b := h'.le hF
  omega
/-- turned round -/
theorem tl_ed (l : List E) (i : Nat) (hi : i < l.length) : fr (tl l) i = en l i ∧ en (tl l) i = fr l i ∧ cpt (tl l) i = cpt l i := by
  have h : i < (tl l).length := by simp [tl]; exact hi
  unfold fr en cpt
  rw [ed_at h, ed_at hi]
  simp [tl]
theorem tl_length (l : List E) : (tl l).length = l.length := by simp [tl]
theorem Fw.turn (h : Fw l s t F v) : Fw (tl l) t s F v := by
  refine ⟨by rw [tl_length]; exact h.len, fun i hi => ?_, fun φ => ?_⟩
  · rw [tl_length] at hi
    rw [(tl_ed l i hi).2.2]
    exact h.cap i hi
  · have h1 := h.cons φ
    have h2 : W (tl l) F φ = -W l F φ := by
      unfold W
      rw [tl_length]
      refine rsum_neg _ fun i hi => ?_
      obtain ⟨a, b, _⟩ := tl_ed l i hi
      rw [a, b, ← Int.mul_neg]
      congr 1
      omega
    rw [h2, h1, ← Int.mul_neg]
    congr 1
    omega
theorem tl_tl (l : List E) : tl (tl l) = l := by
  unfold tl
  rw [List.map_map]
  exact (List.map_congr_left fun e _ => rfl).trans (List.map_id l)
theorem Mx.turn {v' : Int} (h : Mx l s t v) (h' : Mx (tl l) t s v') : v = v' := by
  obtain ⟨F, hF⟩ := h.1
  obtain ⟨F', hF'⟩ := h'.1
  have a := h'.le hF.turn
  have b := hF'.turn
  rw [tl_tl] at b
  have c := h.le b
  omega
end
/-- which edge a place is come to by -/
def ix (b : Int) : Nat := if 0 ≤ b then b.toNat else (-1 - b).toNat
/-- from where -/
def prv (l : List E) (b : Int) : Int := if 0 ≤ b then fr l b.toNat else en l (-1 - b).toNat
/-- how much more it bears -/
def res (l : List E) (F : List Int) (b : Int) : Int := if 0 ≤ b then cpt l b.toNat - fv F b.toNat else fv F (-1 - b).toNat
def upd (M : Int) (F : List Int) (b : Int) : List Int := if 0 ≤ b then F.set b.toNat (fv F b.toNat + M) else F.set (-1 - b).toNat (fv F (-1 - b).toNat - M)
/-- v is come to by b, and more can -/
def Via (l : List E) (F : List Int) (b v : Int) : Prop := ix b < l.length ∧ (if 0 ≤ b then en l b.toNat = v else fr l (-1 - b).toNat = v) ∧ 0 < res l F b
/-- what is found, breadth first -/
structure Sk (n : Nat) (l : List E) (F : List Int) (s : Int) (B : List Int) (od : List Int) : Prop where
  bl : B.length = n
  nd : od.Nodup
  rng : ∀ x ∈ od, 0 ≤ x ∧ x < n
  hd : od.head? = some s
  un : ∀ v : Int, 0 ≤ v → v < n → v ∉ od → B.getD v.toNat 0 = l.length
  st : B.getD s.toNat 0 = l.length + 1
  via : ∀ k (hk : k < od.length), 0 < k → Via l F (B.getD (od[k]).toNat 0) od[k] ∧ prv l (B.getD (od[k]).toNat 0) ∈ od.take k
  cl : ∀ x ∈ od, ∀ i, i < l.length → (fr l i = x → fv F i < cpt l i → en l i ∈ od) ∧ (en l i = x → 0 < fv F i → fr l i ∈ od)
/-- back along the way -/
inductive Pth (l : List E) (F B : List Int) (s : Int) : Int → List Int → Prop
  | nil : Pth l F B s s []
  | cons {v : Int} {bs : List Int} : v ≠ s → Via l F (B.getD v.toNat 0) v → Pth l F B s (prv l (B.getD v.toNat 0)) bs → Pth l F B s v (B.getD v.toNat 0 :: bs)
section
variable {n : Nat} {l : List E} {F B od : List Int} {s t : Int}
theorem upd_len (M : Int) (F : List Int) (b : Int) : (upd M F b).length = F.length := by unfold upd; split <;> simp
theorem fl_upd {M b : Int} (h : ix b < F.length) (j : Nat) : fv (upd M F b) j = if j = ix b then (if 0 ≤ b then fv F j + M else fv F j - M) else fv F j := by
  unfold upd ix at *
  by_cases h0 : 0 ≤ b
  · rw [if_pos h0] at h
    simp only [if_pos h0]
    rw [fl_set h]
    split
    · rename_i e; rw [e]
    · rfl
  · rw [if_neg h0] at h
    simp only [if_neg h0]
    rw [fl_set h]
    split
    · rename_i e; rw [e]
    · rfl
theorem Sk.pth (h : Sk n l F s B od) (k : Nat) (hk : k < od.length) : ∃ bs, Pth l F B s od[k] bs ∧ bs.length ≤ k ∧ (∀ b ∈ bs, ∃ j, ∃ hj : j < od.length, 0 < j ∧ j ≤ k ∧ b = B.getD (od[j]).toNat 0) ∧ (bs.map ix).Nodup ∧ (0 < k → bs ≠ []) := by
  induction k using Nat.strongRecOn with
  | ind k ih =>
    by_cases hk0 : k = 0
    · subst hk0
      have e : od[0] = s := by
        have := h.hd
        rw [List.head?_eq_getElem?, List.getElem?_eq_getElem hk] at this
        injection this
      rw [e]
      exact ⟨[], .nil, Nat.zero_le _, by simp, by simp, fun h => absurd h (Nat.lt_irrefl _)⟩
    · obtain ⟨hv, hp⟩ := h.via k hk (by omega)
      obtain ⟨j, hj, hje⟩ := List.mem_iff_getElem.1 hp
      rw [List.length_take] at hj
      rw [List.getElem_take] at hje
      obtain ⟨bs, h1, h2, h3, h4, _⟩ := ih j (by omega) (by omega)
      have h0s : od[0]'(by omega) = s := by
        have := h.hd
        rw [List.head?_eq_getElem?, List.getElem?_eq_getElem (by omega)] at this
        injection this
      have hne : od[k] ≠ s := fun e => by
        rw [← h0s] at e
        have := (List.getElem_inj h.nd).1 e
        omega
      rw [hje] at h1
      refine ⟨B.getD (od[k]).toNat 0 :: bs, .cons hne hv h1, by rw [List.length_cons]; omega, fun b hb => ?_, ?_, fun _ => List.cons_ne_nil _ _⟩
      · rcases List.mem_cons.1 hb with rfl | hb
        · exact ⟨k, hk, by omega, Nat.le_refl _, rfl⟩
        · obtain ⟨i, hi, a, b', c⟩ := h3 b hb
          exact ⟨i, hi, a, by omega, c⟩
      · rw [List.map_cons, List.nodup_cons]
        refine ⟨fun hm => ?_, h4⟩
        rw [List.mem_map] at hm
        obtain ⟨b', hb', he⟩ := hm
        obtain ⟨i, hi, i0, ij, rfl⟩ := h3 b' hb'
        obtain ⟨hv', hp'⟩ := h.via i hi i0
        obtain ⟨q, hq, hqe⟩ := List.mem_iff_getElem.1 hp'
        rw [List.length_take] at hq
        rw [List.getElem_take] at hqe
        -- the two ends of the one, and of the other
        have hends : ∀ (b v : Int), Via l F b v → (fr l (ix b) = v ∧ en l (ix b) = prv l b) ∨ (en l (ix b) = v ∧ fr l (ix b) = prv l b) := fun b v hv => by
          obtain ⟨_, h2, _⟩ := hv
          unfold ix prv
          by_cases h0 : 0 ≤ b
          · rw [if_pos h0] at h2; rw [if_pos h0, if_pos h0]; exact .inr ⟨h2, rfl⟩
          · rw [if_neg h0] at h2; rw [if_neg h0, if_neg h0]; exact .inl ⟨h2, rfl⟩
        have e1 := hends _ _ hv
        have e2 := hends _ _ hv'
        rw [he] at e2
        have hin : od[k] = od[i] ∨ od[k] = od[q]'(by omega) := by
          rw [hqe]
          rcases e1 with ⟨a, _⟩ | ⟨a, _⟩ <;> rcases e2 with ⟨b, c⟩ | ⟨b, c⟩
          · exact .inl (a.symm.trans b)
          · exact .inr (a.symm.trans c)
          · exact .inr (a.symm.trans c)
          · exact .inl (a.symm.trans b)
        rcases hin with e | e
        · have := (List.getElem_inj h.nd).1 e; omega
        · have := (List.getElem_inj h.nd).1 e; omega
/-- one more way -/
theorem fold_fw (M : Int) (hM : 0 ≤ M) : ∀ (bs : List Int) (v : Int) (G : List Int), Pth l F B s v bs → (bs.map ix).Nodup → G.length = l.length → (∀ b ∈ bs, M ≤ res l G b) → (∀ i, i < l.length → 0 ≤ fv G i ∧ fv G i ≤ cpt l i) →
    (bs.foldl (upd M) G).length = l.length ∧ (∀ i, i < l.length → 0 ≤ fv (bs.foldl (upd M) G) i ∧ fv (bs.foldl (upd M) G) i ≤ cpt l i) ∧ ∀ φ : Int → Int, W l (bs.foldl (upd M) G) φ = W l G φ + M * (φ s - φ v) := by
  intro bs
  induction bs with
  | nil =>
    intro v G hp _ hG _ hc
    cases hp
    exact ⟨hG, hc, fun φ => by rw [Int.sub_self, Int.mul_zero, Int.add_zero]; rfl⟩
  | cons b bs ih =>
    intro v G hp hnd hG hres hc
    cases hp with
    | cons hvs hvia hp2 =>
      obtain ⟨hib, hev, _⟩ := hvia
      rw [List.map_cons, List.nodup_cons] at hnd
      have hrb := hres _ (List.mem_cons_self ..)
      obtain ⟨r1, r2, r3⟩ := ih _ (upd M G (B.getD v.toNat 0)) hp2 hnd.2 (by rw [upd_len]; exact hG) (fun b hb => by
        have h1 := hres b (List.mem_cons_of_mem _ hb)
        have hne : ix b ≠ ix (B.getD v.toNat 0) := fun e => hnd.1 (by rw [← e]; exact List.mem_map_of_mem hb)
        unfold res at h1 ⊢
        unfold ix at hne
        by_cases h0 : 0 ≤ b
        · rw [if_pos h0] at h1 hne ⊢
          rw [fl_upd (by rw [hG]; exact hib), if_neg (by unfold ix; exact hne)]
          exact h1
        · rw [if_neg h0] at h1 hne ⊢
          rw [fl_upd (by rw [hG]; exact hib), if_neg (by unfold ix; exact hne)]
          exact h1) (fun i hi => by
        have h1 := hc i hi
        rw [fl_upd (by rw [hG]; exact hib)]
        split
        · rename_i e
          unfold res at hrb
          unfold ix at e
          by_cases h0 : 0 ≤ B.getD v.toNat 0
          · rw [if_pos h0] at hrb e ⊢
            rw [← e] at hrb
            omega
          · rw [if_neg h0] at hrb e ⊢
            rw [← e] at hrb
            omega
        · exact h1)
      refine ⟨r1, r2, fun φ => ?_⟩
      rw [List.foldl_cons, r3 φ]
      have hW : W l (upd M G (B.getD v.toNat 0)) φ = W l G φ + M * (φ (prv l (B.getD v.toNat 0)) - φ v) := by
        have hu := rsum_upd (f := fun i => fv G i * (φ (fr l i) - φ (en l i))) (g := fun i => fv (upd M G (B.getD v.toNat 0)) i * (φ (fr l i) - φ (en l i))) l.length (ix (B.getD v.toNat 0)) hib (fun j hj hne => by
          rw [fl_upd (by rw [hG]; exact hib), if_neg hne])
        unfold W
        rw [hu]
        rw [fl_upd (by rw [hG]; exact hib), if_pos rfl]
        congr 1
        unfold prv
        generalize B.getD v.toNat 0 = b at *
        by_cases h0 : 0 ≤ b
        · have e : ix b = b.toNat := by unfold ix; rw [if_pos h0]
          rw [if_pos h0] at hev ⊢
          rw [if_pos h0, e, hev, Int.add_mul]
          omega
        · have e : ix b = (-1 - b).toNat := by unfold ix; rw [if_neg h0]
          rw [if_neg h0] at hev ⊢
          rw [if_neg h0, e, hev, Int.sub_mul]
          have : M * (φ (en l (-1 - b).toNat) - φ v) = -(M * (φ v - φ (en l (-1 - b).toNat))) := by rw [← Int.mul_neg]; congr 1; omega
          rw [this]
          omega
      rw [hW, Int.add_assoc, ← Int.mul_add]
      congr 2
      omega
/-- the least of what the way's edges still bear -/
def least (l : List E) (F : List Int) (bs : List Int) : Int := (bs.map (res l F)).foldl min 1099511627776
theorem foldl_min (r : List Int) (x : Int) : r.foldl min x ≤ x ∧ (∀ y ∈ r, r.foldl min x ≤ y) ∧ (r.foldl min x = x ∨ r.foldl min x ∈ r) := by
  induction r generalizing x with
  | nil => exact ⟨Int.le_refl _, by simp, .inl rfl⟩
  | cons y r ih =>
    obtain ⟨h1, h2, h3⟩ := ih (min x y)
    rw [List.foldl_cons]
    refine ⟨by omega, fun z hz => ?_, ?_⟩
    · rcases List.mem_cons.1 hz with rfl | hz
      · omega
      · exact h2 z hz
    · rcases h3 with h | h
      · rcases Int.le_total x y with e | e
        · exact .inl (by rw [h]; omega)
        · exact .inr (by rw [h, show min x y = y by omega]; exact List.mem_cons_self ..)
      · exact .inr (List.mem_cons_of_mem _ h)
theorem Pth.via {v : Int} {bs : List Int} (h : Pth l F B s v bs) : ∀ b ∈ bs, ∃ w, Via l F b w := by
  induction h with
  | nil => simp
  | cons hne hv _ ih =>
    intro b hb
    rcases List.mem_cons.1 hb with rfl | hb
    · exact ⟨_, hv⟩
    · exact ih b hb
theorem least_at {v : Int} {bs : List Int} (h : Pth l F B s v bs) (hne : bs ≠ []) (hc : ∀ i, i < l.length → 0 ≤ fv F i ∧ fv F i ≤ cpt l i) (hb : ∀ i, i < l.length → cpt l i ≤ 10000) : 1 ≤ least l F bs ∧ least l F bs ≤ 10000 ∧ ∀ b ∈ bs, least l F bs ≤ res l F b := by
  obtain ⟨h1, h2, h3⟩ := foldl_min (bs.map (res l F)) 1099511627776
  have h4 : ∀ b ∈ bs, 0 < res l F b ∧ res l F b ≤ 10000 := fun b hbm => by
    obtain ⟨w, a, _, c⟩ := h.via b hbm
    refine ⟨c, ?_⟩
    unfold ix at a
    unfold res
    split
    · rename_i h0; rw [if_pos h0] at a; have := hc _ a; have := hb _ a; omega
    · rename_i h0; rw [if_neg h0] at a; have := hc _ a; have := hb _ a; omega
  have h5 : ∀ b ∈ bs, least l F bs ≤ res l F b := fun b hbm => h2 _ (List.mem_map_of_mem hbm)
  obtain ⟨b, hb0⟩ := List.exists_mem_of_ne_nil _ hne
  have h6 := h5 b hb0
  have h7 := h4 b hb0
  refine ⟨?_, by omega, h5⟩
  rcases h3 with e | e
  · unfold least at h6 ⊢; omega
  · rw [List.mem_map] at e
    obtain ⟨b', hb', e⟩ := e
    have := h4 b' hb'
    unfold least
    omega
theorem Fw.push {v : Int} {bs : List Int} (h : Fw l s t F v) (hp : Pth l F B s t bs) (hne : bs ≠ []) (hnd : (bs.map ix).Nodup) (hb : ∀ i, i < l.length → cpt l i ≤ 10000) : Fw l s t (bs.foldl (upd (least l F bs)) F) (v + least l F bs) := by
  obtain ⟨h1, _, h3⟩ := least_at hp hne h.cap hb
  obtain ⟨a, b, c⟩ := fold_fw (least l F bs) (by omega) bs t F hp hnd h.len h3 h.cap
  refine ⟨a, b, fun φ => ?_⟩
  rw [c φ, h.cons φ, Int.add_mul]
theorem Sk.mx {v : Int} (h : Sk n l F s B od) (hf : Fw l s t F v) (ht : t ∉ od) : Mx l s t v ∧ C l (fun x => decide (x ∈ od)) = v := by
  have hs : s ∈ od := List.mem_of_head? h.hd
  have e : v = C l (fun x => decide (x ∈ od)) := by
    refine hf.eq_cut (by simpa using hs) (by simpa using ht) (fun i hi h1 h2 => ?_) (fun i hi h1 h2 => ?_)
    · have a := (h.cl _ (of_decide_eq_true h1) i hi).1 rfl
      have b := hf.cap i hi
      rcases Int.lt_or_le (fv F i) (cpt l i) with c | c
      · exact absurd (a c) (of_decide_eq_false h2)
      · omega
    · have a := (h.cl _ (of_decide_eq_true h2) i hi).2 rfl
      have b := hf.cap i hi
      rcases Int.lt_or_le 0 (fv F i) with c | c
      · exact absurd (a c) (of_decide_eq_false h1)
      · omega
  exact ⟨⟨⟨F, hf⟩, _, by simpa using hs, by simpa using ht, e.symm⟩, e.symm⟩
theorem Fw.zero (h : ∀ i, i < l.length → 0 ≤ cpt l i) : Fw l s t (List.replicate l.length 0) 0 := by
  have hz : ∀ i, fv (List.replicate l.length (0 : Int)) i = 0 := fun i => by
    unfold fv
    rw [List.getD_eq_getElem?_getD, List.getElem?_replicate]
    split <;> rfl
  refine ⟨by simp, fun i hi => by rw [hz]; exact ⟨Int.le_refl _, h i hi⟩, fun φ => ?_⟩
  rw [Int.zero_mul]
  have h1 : W l (List.replicate l.length 0) φ = rsum l.length fun _ => 0 := rsum_congr _ fun i hi => by rw [hz, Int.zero_mul]
  rw [h1]
  have : ∀ k, rsum k (fun _ => (0 : Int)) = 0 := fun k => by induction k with | zero => rfl | succ k ih => rw [rsum, ih]; rfl
  exact this _
theorem Fw.bd {v : Int} (h : Fw l s t F v) (hst : s ≠ t) (hb : ∀ i, i < l.length → cpt l i ≤ 10000) (hl : l.length ≤ 600) : v ≤ 6000000 := by
  have h1 := h.le_cut (S := fun x => decide (x = s)) (by simp) (by simp; exact fun e => hst e.symm)
  have h2 : C l (fun x => decide (x = s)) ≤ rsum l.length fun _ => 10000 := rsum_le _ fun i hi => by
    have := hb i hi
    split <;> omega
  have h3 : ∀ k : Nat, rsum k (fun _ => (10000 : Int)) = 10000 * k := fun k => by induction k with | zero => rfl | succ k ih => rw [rsum, ih]; omega
  rw [h3] at h2
  omega
/-- a place that is found has a way -/
theorem Sk.way (h : Sk n l F s B od) (ht : t ∈ od) (hts : t ≠ s) : ∃ bs, Pth l F B s t bs ∧ bs.length ≤ n ∧ bs ≠ [] ∧ (bs.map ix).Nodup := by
  obtain ⟨k, hk, rfl⟩ := List.mem_iff_getElem.1 ht
  obtain ⟨bs, h1, h2, _, h4, h5⟩ := h.pth k hk
  have hod : od.length ≤ n := by
    have := FloydLaw.nodup_len (S := od.map Int.toNat) (k := n) (by
      rw [List.Nodup, List.pairwise_map]
      refine List.Pairwise.imp_of_mem (fun ha hb hne e => ?_) h.nd
      have a := h.rng _ ha
      have b := h.rng _ hb
      exact hne (by omega)) (fun m hm => by
      rw [List.mem_map] at hm
      obtain ⟨x, hx, rfl⟩ := hm
      have := h.rng x hx
      omega)
    rwa [List.length_map] at this
  refine ⟨bs, h1, by omega, h5 ?_, h4⟩
  rcases Nat.eq_zero_or_pos k with e | e
  · subst e
    have := h.hd
    rw [List.head?_eq_getElem?, List.getElem?_eq_getElem hk] at this
    injection this with this
    exact absurd this hts
  · exact e
theorem Sk.seen (h : Sk n l F s B od) {v : Int} (v0 : 0 ≤ v) (v1 : v < n) : B.getD v.toNat 0 = l.length ↔ v ∉ od := by
  constructor
  · intro e hm
    obtain ⟨k, hk, rfl⟩ := List.mem_iff_getElem.1 hm
    rcases Nat.eq_zero_or_pos k with e0 | e0
    · subst e0
      have h0 := h.hd
      rw [List.head?_eq_getElem?, List.getElem?_eq_getElem hk] at h0
      injection h0 with h0
      have := h.st
      rw [h0] at e
      omega
    · obtain ⟨⟨a, _⟩, _⟩ := h.via k hk e0
      rw [e] at a
      unfold ix at a
      rw [if_pos (by omega)] at a
      omega
  · exact h.un v v0 v1
end
end Go.Proofs.Ytjebckehmmbkbaa.FlowLaw
