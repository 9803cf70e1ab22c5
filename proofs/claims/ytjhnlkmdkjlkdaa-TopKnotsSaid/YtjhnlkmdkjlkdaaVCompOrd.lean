/- Plain facts on knots (Tarjan): no Go in sight. -/
/- Plain facts on Kahn's order and on longest costs: no Go in sight. -/
/- Plain facts on the order of knots, and on Kahn's order that takes the least first: no Go in sight. -/
import Derived.Test.YtjhnlkmdkjlkdaaVNetLaw
import Derived.Test.YtjhnlkmdkjlkdaaVBellLaw
import Derived.Test.YtjhnlkmdkjlkdaaVFloydLaw
namespace Go.Proofs.Ytjhnlkmdkjlkdaa.CompLaw
open NetLaw
set_option linter.unusedSimpArgs false
set_option linter.unusedVariables false
/-- a walk leads from a to .. -/
inductive Ld (l : List E) (a : Int) : Int → Prop
  | here : Ld l a a
  | step {u : Int} {e : E} : Ld l a u → e ∈ l → e.1 = u → Ld l a e.2.1
theorem Ld.edge {l : List E} {e : E} (h : e ∈ l) : Ld l e.1 e.2.1 := .step .here h rfl
theorem Ld.trans {l : List E} {a b c : Int} (h1 : Ld l a b) (h2 : Ld l b c) : Ld l a c := by
  induction h2 with
  | here => exact h1
  | step _ he hu ih => exact .step ih he hu
/-- a closed set holds all that it leads to -/
theorem Ld.closed {l : List E} {P : Int → Prop} (hP : ∀ e ∈ l, P e.1 → P e.2.1) {a b : Int} (h : Ld l a b) (ha : P a) : P b := by
  induction h with
  | here => exact ha
  | step _ he hu ih => exact hP _ he (by rw [hu]; exact ih)
/-- k is the least of u's knot -/
def Lst (l : List E) (u k : Int) : Prop := Ld l u k ∧ Ld l k u ∧ ∀ x, Ld l u x → Ld l x u → k ≤ x
/-- index, low, least, the stack, the last index given -/
structure TS where
  ix : Int → Int
  lw : Int → Int
  le : Int → Int
  st : List Int
  nx : Int
def Done (s : TS) (u : Int) : Prop := s.ix u ≠ 0 ∧ u ∉ s.st
/-- what holds all along; G: the places whose visits are under way -/
structure TI (l : List E) (G : List Int) (s : TS) : Prop where
  rng : ∀ u, 0 ≤ s.ix u ∧ s.ix u ≤ s.nx
  vis : ∀ u ∈ s.st, s.ix u ≠ 0
  srt : s.st.Pairwise (fun a b => s.ix a < s.ix b)
  gst : ∀ g ∈ G, g ∈ s.st
  low : ∀ x ∈ s.st, ∃ g ∈ G, s.ix g ≤ s.ix x ∧ Ld l x g
  up : ∀ g ∈ G, ∀ x ∈ s.st, s.ix g ≤ s.ix x → Ld l g x
  blk : ∀ e ∈ l, s.ix e.1 ≠ 0 → e.1 ∉ G → s.ix e.2.1 ≠ 0
  don : ∀ e ∈ l, Done s e.1 → Done s e.2.1
  lst : ∀ u, Done s u → Lst l u (s.le u)
/-- what a visit of v leaves -/
structure VP (l : List E) (G : List Int) (v : Int) (s0 s : TS) : Prop where
  ti : TI l G s
  st : ∃ X, s.st = s0.st ++ X ∧ ∀ x ∈ X, ∀ e ∈ l, e.1 = x → e.2.1 ∈ s0.st → s.lw v ≤ s0.ix e.2.1
  old : ∀ u, s0.ix u ≠ 0 → s.ix u = s0.ix u ∧ s.lw u = s0.lw u
  new : ∀ u, s0.ix u = 0 → s.ix u ≠ 0 → s0.nx < s.ix u
  me : s.ix v ≠ 0
  lw : s0.nx < s.lw v ∨ ∃ y ∈ s0.st, s.lw v = s0.ix y ∧ Ld l v y
/-- within a visit of v; todo: its edges not yet looked at -/
structure LI (l : List E) (G : List Int) (v : Int) (s0 : TS) (todo : List E) (s : TS) : Prop where
  ti : TI l (v :: G) s
  t0 : TI l G s0
  white : s0.ix v = 0
  st : ∃ X, s.st = s0.st ++ v :: X ∧ ∀ x ∈ X, ∀ e ∈ l, e.1 = x → e.2.1 ∈ s0.st → s.lw v ≤ s0.ix e.2.1
  old : ∀ u, s0.ix u ≠ 0 → s.ix u = s0.ix u ∧ s.lw u = s0.lw u
  new : ∀ u, s0.ix u = 0 → s.ix u ≠ 0 → s0.nx < s.ix u
  lo : s.lw v = s.ix v ∨ ∃ y ∈ s0.st, s.lw v = s0.ix y ∧ Ld l v y
  pro : ∀ e ∈ l, e.1 = v → e ∈ todo ∨ (s.ix e.2.1 ≠ 0 ∧ (e.2.1 ∈ s0.st → s.lw v ≤ s0.ix e.2.1))
/-- one place set -/
def up1 (f : Int → Int) (v x : Int) : Int → Int := fun u => if u = v then x else f u
theorem up1_eq (f : Int → Int) (v x : Int) : up1 f v x v = x := by simp [up1]
theorem up1_ne (f : Int → Int) {v u : Int} (x : Int) (h : u ≠ v) : up1 f v x u = f u := by simp [up1, h]
def enter (v : Int) (s : TS) : TS := ⟨up1 s.ix v (s.nx + 1), up1 s.lw v (s.nx + 1), s.le, s.st ++ [v], s.nx + 1⟩
def lower (v x : Int) (s : TS) : TS := ⟨s.ix, up1 s.lw v (min (s.lw v) x), s.le, s.st, s.nx⟩
def pop (b : List Int) (X : List Int) (m : Int) (s : TS) : TS := ⟨s.ix, s.lw, fun u => if u ∈ X then m else s.le u, b, s.nx⟩
section
variable {l : List E} {G : List Int} {v : Int} {s0 s s1 : TS} {todo : List E}
theorem TI.lower (h : TI l G s) (v x : Int) : TI l G (lower v x s) := ⟨h.rng, h.vis, h.srt, h.gst, h.low, h.up, h.blk, h.don, h.lst⟩
theorem TI.not_st (h : TI l G s) (hv : s.ix v = 0) : v ∉ s.st := fun hm => h.vis v hm hv
theorem LI.start (h : TI l G s0) (hv : s0.ix v = 0) (hr : ∀ g ∈ G, Ld l g v) (hall : ∀ e ∈ l, e.1 = v → e ∈ todo) : LI l G v s0 todo (enter v s0) := by
  have hn : v ∉ s0.st := h.not_st hv
  have hne : ∀ u ∈ s0.st, u ≠ v := fun u hu e => hn (e ▸ hu)
  have hneG : ∀ u ∈ G, u ≠ v := fun u hu => hne u (h.gst u hu)
  have hx : ∀ u, u ≠ v → (enter v s0).ix u = s0.ix u := fun u hu => up1_ne _ _ hu
  have hxv : (enter v s0).ix v = s0.nx + 1 := up1_eq _ _ _
  have hnx := (h.rng v).2
  have hnx0 := (h.rng v).1
  have hm : ∀ u, u ∈ (enter v s0).st ↔ u ∈ s0.st ∨ u = v := fun u => by simp [enter]
  have hdone : ∀ u, Done (enter v s0) u ↔ Done s0 u := fun u => by
    by_cases e : u = v
    · subst e
      exact ⟨fun hd => absurd ((hm u).2 (.inr rfl)) hd.2, fun hd => absurd hv hd.1⟩
    · unfold Done
      rw [hx u e, hm u]
      simp [e]
  refine ⟨⟨fun u => ?_, fun u hu => ?_, ?_, fun g hg => ?_, fun x hxm => ?_, fun g hg x hxm hle => ?_, fun e he h1 h2 => ?_, fun e he hd => (hdone _).2 (h.don e he ((hdone _).1 hd)), fun u hd => h.lst u ((hdone _).1 hd)⟩, h, hv, ⟨[], rfl, fun x hx => by cases hx⟩, fun u hu => ?_, fun u h1 h2 => ?_, .inl ?_, fun e he hev => .inl (hall e he hev)⟩
  · have := h.rng u
    by_cases e : u = v
    · subst e; rw [hxv]; show 0 ≤ _ ∧ _ ≤ s0.nx + 1; omega
    · rw [hx u e]; show 0 ≤ _ ∧ _ ≤ s0.nx + 1; omega
  · rcases (hm u).1 hu with h1 | rfl
    · rw [hx u (hne u h1)]; exact h.vis u h1
    · rw [hxv]; omega
  · show (s0.st ++ [v]).Pairwise _
    rw [List.pairwise_append]
    refine ⟨List.Pairwise.imp_of_mem (fun {a b} ha hb hab => ?_) h.srt, List.pairwise_singleton _ _, fun a ha b hb => ?_⟩
    · rw [hx a (hne a ha), hx b (hne b hb)]; exact hab
    · rw [List.mem_singleton.1 hb, hx a (hne a ha), hxv]
      have := (h.rng a).2
      omega
  · rcases List.mem_cons.1 hg with rfl | h1
    · exact (hm g).2 (.inr rfl)
    · exact (hm g).2 (.inl (h.gst g h1))
  · rcases (hm x).1 hxm with h1 | rfl
    · obtain ⟨g, hg, h2, h3⟩ := h.low x h1
      exact ⟨g, List.mem_cons_of_mem _ hg, by rw [hx g (hneG g hg), hx x (hne x h1)]; exact h2, h3⟩
    · exact ⟨x, List.mem_cons_self .., Int.le_refl _, .here⟩
  · rcases (hm x).1 hxm with h1 | rfl
    · rcases List.mem_cons.1 hg with rfl | h2
      · rw [hxv, hx x (hne x h1)] at hle
        have := (h.rng x).2
        omega
      · rw [hx g (hneG g h2), hx x (hne x h1)] at hle
        exact h.up g h2 x h1 hle
    · rcases List.mem_cons.1 hg with rfl | h2
      · exact .here
      · exact hr g h2
  · have e1 : e.1 ≠ v := fun e' => h2 (by rw [e']; exact List.mem_cons_self ..)
    rw [hx _ e1] at h1
    have := h.blk e he h1 (fun hm => h2 (List.mem_cons_of_mem _ hm))
    by_cases e2 : e.2.1 = v
    · rw [e2, hxv]; omega
    · rw [hx _ e2]; exact this
  · have e : u ≠ v := fun e => hu (by rw [e]; exact hv)
    exact ⟨hx u e, up1_ne _ _ e⟩
  · by_cases e : u = v
    · subst e; rw [hxv]; omega
    · rw [hx u e] at h2; exact absurd h1 h2
  · show up1 s0.lw v (s0.nx + 1) v = up1 s0.ix v (s0.nx + 1) v
    rw [up1_eq, up1_eq]
theorem LI.ixv (h : LI l G v s0 todo s) : s0.nx < s.ix v ∧ v ∈ s.st ∧ s.ix v ≠ 0 := by
  obtain ⟨X, hX, _⟩ := h.st
  have hm : v ∈ s.st := by rw [hX]; simp
  have hv := h.ti.vis v hm
  exact ⟨h.new v h.white hv, hm, hv⟩
theorem LI.lo_le (h : LI l G v s0 todo s) : s.lw v ≤ s.ix v := by
  rcases h.lo with h1 | ⟨y, hy, h1, _⟩
  · omega
  · have := (h.t0.rng y).2
    have := h.ixv.1
    omega
/-- who stands above v on the stack was come to later -/
theorem LI.above (h : LI l G v s0 todo s) {X : List Int} (hX : s.st = s0.st ++ v :: X) {x : Int} (hx : x ∈ v :: X) : s.ix v ≤ s.ix x := by
  have hs := h.ti.srt
  rw [hX, List.pairwise_append] at hs
  rcases List.mem_cons.1 hx with rfl | h1
  · exact Int.le_refl _
  · have := (List.pairwise_cons.1 hs.2.1).1 x h1
    omega
/-- lowered by a number x: an index reached, or one above v -/
theorem LI.less {x : Int} {e : E} (h : LI l G v s0 (e :: todo) s) (hx : s.ix v ≤ x ∨ ∃ y ∈ s0.st, x = s0.ix y ∧ Ld l v y) (he : s.ix e.2.1 ≠ 0 ∧ (e.2.1 ∈ s0.st → x ≤ s0.ix e.2.1)) : LI l G v s0 todo (lower v x s) := by
  have hlv : (lower v x s).lw v = min (s.lw v) x := up1_eq _ _ _
  have hll := h.lo_le
  refine ⟨h.ti.lower v x, h.t0, h.white, ?_, fun u hu => ?_, h.new, ?_, fun e' he' hev => ?_⟩
  · obtain ⟨X, hX, h1⟩ := h.st
    refine ⟨X, hX, fun y hy e' he' h2 h3 => ?_⟩
    have := h1 y hy e' he' h2 h3
    rw [hlv]; omega
  · have e1 : u ≠ v := fun e1 => hu (by rw [e1]; exact h.white)
    obtain ⟨h1, h2⟩ := h.old u hu
    exact ⟨h1, by show up1 _ _ _ u = _; rw [up1_ne _ _ e1]; exact h2⟩
  · rw [hlv]
    show _ = s.ix v ∨ _
    rcases hx with h1 | ⟨y, hy, h1, h2⟩
    · have e1 : min (s.lw v) x = s.lw v := by omega
      rw [e1]; exact h.lo
    · by_cases hc : s.lw v ≤ x
      · have e1 : min (s.lw v) x = s.lw v := by omega
        rw [e1]; exact h.lo
      · have e1 : min (s.lw v) x = x := by omega
        rw [e1]; exact .inr ⟨y, hy, h1, h2⟩
  · rw [hlv]
    show _ ∨ (s.ix _ ≠ 0 ∧ _)
    rcases h.pro e' he' hev with h1 | ⟨h1, h2⟩
    · rcases List.mem_cons.1 h1 with rfl | h3
      · refine .inr ⟨he.1, fun h3 => ?_⟩
        have := he.2 h3
        omega
      · exact .inl h3
    · refine .inr ⟨h1, fun h3 => ?_⟩
      have := h2 h3
      omega
theorem LI.skip {e : E} (h : LI l G v s0 (e :: todo) s) (he : s.ix e.2.1 ≠ 0 ∧ e.2.1 ∉ s.st) : LI l G v s0 todo s := by
  refine ⟨h.ti, h.t0, h.white, h.st, h.old, h.new, h.lo, fun e' he' hev => ?_⟩
  rcases h.pro e' he' hev with h1 | h1
  · rcases List.mem_cons.1 h1 with rfl | h3
    · obtain ⟨X, hX, _⟩ := h.st
      exact .inr ⟨he.1, fun h3 => absurd (by rw [hX]; simp [h3]) he.2⟩
    · exact .inl h3
  · exact .inr h1
/-- an edge to a place on the stack -/
theorem LI.back {e : E} (h : LI l G v s0 (e :: todo) s) (hel : e ∈ l) (hev : e.1 = v) (he : e.2.1 ∈ s.st) : LI l G v s0 todo (lower v (s.ix e.2.1) s) := by
  have hne := h.ti.vis _ he
  obtain ⟨X, hX, _⟩ := h.st
  refine h.less ?_ ⟨hne, fun h3 => ?_⟩
  · have he' := he
    rw [hX, List.mem_append] at he'
    rcases he' with h1 | h1
    · have := (h.old _ (h.t0.vis _ h1)).1
      exact .inr ⟨e.2.1, h1, this, by rw [← hev]; exact .edge hel⟩
    · exact .inl (h.above hX h1)
  · rw [(h.old _ (h.t0.vis _ h3)).1]
    exact Int.le_refl _
/-- what a visit asks, from within a visit -/
theorem LI.ask {e : E} (h : LI l G v s0 (e :: todo) s) (hel : e ∈ l) (hev : e.1 = v) : ∀ g ∈ v :: G, Ld l g e.2.1 := fun g hg => by
  have hve : Ld l v e.2.1 := by rw [← hev]; exact .edge hel
  rcases List.mem_cons.1 hg with rfl | h1
  · exact hve
  · have hgs := h.t0.gst g h1
    have h2 := (h.t0.rng g).2
    have h3 := (h.old g (h.t0.vis g hgs)).1
    obtain ⟨h4, h5, _⟩ := h.ixv
    exact (h.ti.up g hg v h5 (by omega)).trans hve
/-- behind a visit of an edge's end -/
theorem LI.down {e : E} (h : LI l G v s0 (e :: todo) s) (hel : e ∈ l) (hev : e.1 = v) (hw : s.ix e.2.1 = 0) (h1 : VP l (v :: G) e.2.1 s s1) : LI l G v s0 todo (lower v (s1.lw e.2.1) s1) := by
  obtain ⟨X, hX, hXp⟩ := h.st
  obtain ⟨Y, hY, hYp⟩ := h1.st
  obtain ⟨g1, g2, g3⟩ := h.ixv
  obtain ⟨o1, o2⟩ := h1.old v g3
  have hve : Ld l v e.2.1 := by rw [← hev]; exact .edge hel
  have hold : ∀ u, s0.ix u ≠ 0 → s1.ix u = s0.ix u ∧ s1.lw u = s0.lw u := fun u hu => by
    obtain ⟨a1, a2⟩ := h.old u hu
    obtain ⟨b1, b2⟩ := h1.old u (by rw [a1]; exact hu)
    exact ⟨b1.trans a1, b2.trans a2⟩
  have hsn : s0.nx ≤ s.nx := by have := (h.ti.rng v).2; omega
  have hlx : s1.ix v ≤ s1.lw e.2.1 ∨ ∃ y ∈ s0.st, s1.lw e.2.1 = s0.ix y ∧ Ld l v y := by
    rcases h1.lw with h2 | ⟨y, hy, h2, h3⟩
    · have := (h.ti.rng v).2
      left; omega
    · have hy' := hy
      rw [hX, List.mem_append] at hy'
      rcases hy' with h4 | h4
      · exact .inr ⟨y, h4, by rw [h2, (h.old y (h.t0.vis y h4)).1], hve.trans h3⟩
      · have := h.above hX h4
        left; omega
  have mid : LI l G v s0 (e :: todo) { s1 with lw := up1 s1.lw v (min (s1.lw v) (s1.lw e.2.1)) } := by
    have hlv : up1 s1.lw v (min (s1.lw v) (s1.lw e.2.1)) v = min (s1.lw v) (s1.lw e.2.1) := up1_eq _ _ _
    have hll := h.lo_le
    refine ⟨h1.ti.lower v (s1.lw e.2.1), h.t0, h.white, ⟨X ++ Y, by show s1.st = _; rw [hY, hX]; simp, fun x hx e' he' h2 h3 => ?_⟩, fun u hu => ?_, fun u h2 h3 => ?_, ?_, fun e' he' hev' => ?_⟩
    · show up1 _ _ _ v ≤ _
      rw [hlv]
      rcases List.mem_append.1 hx with h4 | h4
      · have := hXp x h4 e' he' h2 h3
        omega
      · have := hYp x h4 e' he' h2 (by rw [hX]; simp [h3])
        rw [(h.old _ (h.t0.vis _ h3)).1] at this
        omega
    · have e1 : u ≠ v := fun e1 => hu (by rw [e1]; exact h.white)
      obtain ⟨a1, a2⟩ := hold u hu
      exact ⟨a1, by show up1 _ _ _ u = _; rw [up1_ne _ _ e1]; exact a2⟩
    · by_cases hz : s.ix u = 0
      · have h4 : s.nx < s1.ix u := h1.new u hz h3
        show s0.nx < s1.ix u
        omega
      · have := h.new u h2 hz
        have := (h1.old u hz).1
        show s0.nx < s1.ix u
        omega
    · show up1 _ _ _ v = s1.ix v ∨ (∃ y ∈ s0.st, up1 _ _ _ v = _ ∧ _)
      rw [hlv]
      rcases hlx with h2 | ⟨y, hy, h2, h3⟩
      · have e1 : min (s1.lw v) (s1.lw e.2.1) = s.lw v := by omega
        rw [e1, o1]; exact h.lo
      · by_cases hc : s1.lw v ≤ s1.lw e.2.1
        · have e1 : min (s1.lw v) (s1.lw e.2.1) = s.lw v := by omega
          rw [e1, o1]; exact h.lo
        · have e1 : min (s1.lw v) (s1.lw e.2.1) = s1.lw e.2.1 := by omega
          rw [e1]; exact .inr ⟨y, hy, h2, h3⟩
    · show _ ∨ (s1.ix _ ≠ 0 ∧ (_ → up1 _ _ _ v ≤ _))
      rw [hlv]
      rcases h.pro e' he' hev' with h2 | ⟨h2, h3⟩
      · exact .inl h2
      · refine .inr ⟨by rw [(h1.old _ h2).1]; exact h2, fun h4 => ?_⟩
        have := h3 h4
        omega
  refine ⟨mid.ti, mid.t0, mid.white, mid.st, mid.old, mid.new, mid.lo, fun e' he' hev' => ?_⟩
  rcases mid.pro e' he' hev' with h2 | h2
  · rcases List.mem_cons.1 h2 with rfl | h3
    · exact .inr ⟨h1.me, fun h4 => absurd hw (h.ti.vis _ (by rw [hX]; simp [h4]))⟩
    · exact .inl h3
  · exact .inr h2
/-- the visit ends: v leads to a place below it -/
theorem LI.stay (h : LI l G v s0 [] s) (hlt : s.lw v < s.ix v) : VP l G v s0 s := by
  obtain ⟨X, hX, hXp⟩ := h.st
  obtain ⟨g1, g2, g3⟩ := h.ixv
  have hlo : ∃ y ∈ s0.st, s.lw v = s0.ix y ∧ Ld l v y := by
    rcases h.lo with h1 | h1
    · omega
    · exact h1
  have hG : ∀ g ∈ G, g ∈ s.st := fun g hg => h.ti.gst g (List.mem_cons_of_mem _ hg)
  have hvg : ∃ g ∈ G, s.ix g ≤ s.ix v ∧ Ld l v g := by
    obtain ⟨y, hy, h1, h2⟩ := hlo
    have hys : y ∈ s.st := by rw [hX]; simp [hy]
    have hyi := (h.old y (h.t0.vis y hy)).1
    have hyn := (h.t0.rng y).2
    obtain ⟨g, hg, h3, h4⟩ := h.ti.low y hys
    rcases List.mem_cons.1 hg with rfl | h5
    · omega
    · exact ⟨g, h5, by omega, h2.trans h4⟩
  refine ⟨⟨h.ti.rng, h.ti.vis, h.ti.srt, hG, fun x hx => ?_, fun g hg => h.ti.up g (List.mem_cons_of_mem _ hg), fun e he h1 h2 => ?_, h.ti.don, h.ti.lst⟩, ⟨v :: X, hX, fun x hx e he h1 h2 => ?_⟩, h.old, h.new, g3, .inr hlo⟩
  · obtain ⟨g, hg, h3, h4⟩ := h.ti.low x hx
    rcases List.mem_cons.1 hg with rfl | h5
    · obtain ⟨g', h6, h7, h8⟩ := hvg
      exact ⟨g', h6, by omega, h4.trans h8⟩
    · exact ⟨g, h5, h3, h4⟩
  · by_cases e1 : e.1 = v
    · rcases h.pro e he e1 with h3 | h3
      · cases h3
      · exact h3.1
    · exact h.ti.blk e he h1 (fun hm => by
        rcases List.mem_cons.1 hm with h3 | h3
        · exact e1 h3
        · exact h2 h3)
  · rcases List.mem_cons.1 hx with rfl | h3
    · rcases h.pro e he h1 with h4 | h4
      · cases h4
      · exact h4.2 h2
    · exact hXp x h3 e he h1 h2
/-- the visit ends: v and all above it are a knot -/
theorem LI.knot (h : LI l G v s0 [] s) (hge : ¬ s.lw v < s.ix v) {X : List Int} (hX : s.st = s0.st ++ v :: X) {m : Int} (hm : m ∈ v :: X) (hmin : ∀ x ∈ v :: X, m ≤ x) : VP l G v s0 (pop s0.st (v :: X) m s) := by
  obtain ⟨X', hX', hXp⟩ := h.st
  obtain rfl : X' = X := by
    have := hX'.symm.trans hX
    have := List.append_cancel_left this
    injection this
  obtain ⟨g1, g2, g3⟩ := h.ixv
  have hle := h.lo_le
  have hlv : s.lw v = s.ix v := by omega
  have hsub : ∀ x ∈ s0.st, x ∈ s.st := fun x hx => by rw [hX]; simp [hx]
  have hsubX : ∀ x ∈ v :: X', x ∈ s.st := fun x hx => by rw [hX]; exact List.mem_append_right _ hx
  have hnd : ∀ x ∈ v :: X', x ∉ s0.st := fun x hx hx0 => by
    have h1 := h.above hX hx
    have h2 := (h.old x (h.t0.vis x hx0)).1
    have h3 := (h.t0.rng x).2
    omega
  have hpd : ∀ u, Done (pop s0.st (v :: X') m s) u ↔ Done s u ∨ u ∈ v :: X' := fun u => by
    show (s.ix u ≠ 0 ∧ u ∉ s0.st) ↔ _
    constructor
    · intro ⟨h1, h2⟩
      by_cases hu : u ∈ v :: X'
      · exact .inr hu
      · exact .inl ⟨h1, fun h3 => by
          rw [hX, List.mem_append] at h3
          rcases h3 with h3 | h3
          · exact h2 h3
          · exact hu h3⟩
    · rintro (h1 | h1)
      · exact ⟨h1.1, fun h2 => h1.2 (hsub u h2)⟩
      · exact ⟨h.ti.vis u (hsubX u h1), hnd u h1⟩
  have hno : ∀ e ∈ l, e.1 ∈ v :: X' → s.ix e.2.1 ≠ 0 ∧ e.2.1 ∉ s0.st := fun e he h1 => by
    have hG : e.1 ≠ v → s.ix e.2.1 ≠ 0 := fun hne => h.ti.blk e he (h.ti.vis _ (hsubX _ h1)) (fun hm => by
      rcases List.mem_cons.1 hm with h3 | h3
      · exact hne h3
      · exact hnd _ h1 (h.t0.gst _ h3))
    have hlow : e.2.1 ∈ s0.st → s.lw v ≤ s0.ix e.2.1 := fun h2 => by
      rcases List.mem_cons.1 h1 with h3 | h3
      · rcases h.pro e he h3 with h4 | h4
        · cases h4
        · exact h4.2 h2
      · exact hXp _ h3 e he rfl h2
    refine ⟨?_, fun h2 => ?_⟩
    · by_cases e1 : e.1 = v
      · rcases h.pro e he e1 with h3 | h3
        · cases h3
        · exact h3.1
      · exact hG e1
    · have := hlow h2
      have := (h.t0.rng e.2.1).2
      omega
  have hdon : ∀ e ∈ l, Done (pop s0.st (v :: X') m s) e.1 → Done (pop s0.st (v :: X') m s) e.2.1 := fun e he hd => by
    rcases (hpd _).1 hd with h1 | h1
    · exact (hpd _).2 (.inl (h.ti.don e he h1))
    · obtain ⟨h2, h3⟩ := hno e he h1
      exact ⟨h2, h3⟩
  have hvx : ∀ x ∈ v :: X', Ld l v x := fun x hx => h.ti.up v (List.mem_cons_self ..) x (hsubX x hx) (h.above hX hx)
  have hxv : ∀ x ∈ v :: X', Ld l x v := fun x hx => by
    obtain ⟨g, hg, _, h2⟩ := h.ti.low x (hsubX x hx)
    rcases List.mem_cons.1 hg with rfl | h3
    · exact h2
    · exfalso
      have h4 : Done (pop s0.st (v :: X') m s) g := Ld.closed (P := Done (pop s0.st (v :: X') m s)) hdon h2 ((hpd x).2 (.inr hx))
      exact h4.2 (h.t0.gst g h3)
  have hcl : ∀ y, Ld l v y → Ld l y v → y ∈ v :: X' := fun y h1 h2 => by
    have h3 : Done (pop s0.st (v :: X') m s) y := Ld.closed (P := Done (pop s0.st (v :: X') m s)) hdon h1 ((hpd v).2 (.inr (List.mem_cons_self ..)))
    rcases (hpd y).1 h3 with h4 | h4
    · have h5 : Done s v := Ld.closed (P := Done s) h.ti.don h2 h4
      exact absurd g2 h5.2
    · exact h4
  refine ⟨⟨h.ti.rng, fun u hu => h.ti.vis u (hsub u hu), ?_, fun g hg => h.t0.gst g hg, fun x hx => ?_, fun g hg x hx hle => h.ti.up g (List.mem_cons_of_mem _ hg) x (hsub x hx) hle, fun e he h1 h2 => ?_, hdon, fun u hd => ?_⟩, ⟨[], by simp [pop], fun x hx => by cases hx⟩, h.old, h.new, g3, .inl ?_⟩
  · have := h.ti.srt
    rw [hX, List.pairwise_append] at this
    exact this.1
  · obtain ⟨g, hg, h2, h3⟩ := h.ti.low x (hsub x hx)
    rcases List.mem_cons.1 hg with rfl | h4
    · have h5 := (h.old x (h.t0.vis x hx)).1
      have h6 := (h.t0.rng x).2
      omega
    · exact ⟨g, h4, h2, h3⟩
  · by_cases e1 : e.1 = v
    · exact (hno e he (by rw [e1]; exact List.mem_cons_self ..)).1
    · exact h.ti.blk e he h1 (fun hm => by
        rcases List.mem_cons.1 hm with h3 | h3
        · exact e1 h3
        · exact h2 h3)
  · rcases (hpd u).1 hd with h1 | h1
    · have hu : u ∉ v :: X' := fun h2 => h1.2 (hsubX u h2)
      show Lst l u (if u ∈ v :: X' then m else s.le u)
      rw [if_neg hu]
      exact h.ti.lst u h1
    · show Lst l u (if u ∈ v :: X' then m else s.le u)
      rw [if_pos h1]
      exact ⟨(hxv u h1).trans (hvx m hm), (hxv m hm).trans (hvx u h1), fun x h2 h3 => hmin x (hcl x ((hvx u h1).trans h2) (h3.trans (hxv u h1)))⟩
  · show s0.nx < s.lw v
    omega
/-- all at rest: nothing on the stack -/
theorem TI.rest (h : TI l [] s) : s.st = [] := by
  cases hs : s.st with
  | nil => rfl
  | cons x r =>
    obtain ⟨g, hg, _⟩ := h.low x (by rw [hs]; exact List.mem_cons_self ..)
    cases hg
theorem TI.done (h : TI l [] s) {u : Int} (hu : s.ix u ≠ 0) : Lst l u (s.le u) := h.lst u ⟨hu, by rw [h.rest]; simp⟩
theorem TI.zero (l : List E) (le : Int → Int) (lw : Int → Int) : TI l [] ⟨fun _ => 0, lw, le, [], 0⟩ :=
  ⟨fun u => ⟨Int.le_refl _, Int.le_refl _⟩, fun u hu => (by cases hu), List.Pairwise.nil, fun g hg => (by cases hg), fun x hx => (by cases hx), fun g hg => (by cases hg), fun e he h => absurd rfl h, fun e he h => absurd rfl h.1, fun u h => absurd rfl h.1⟩
/-- how many are not yet come to -/
def wh (n : Nat) (f : Int → Int) : Nat := (List.range n).countP fun k : Nat => decide (f (k : Int) = 0)
theorem wh_le {n : Nat} {f f' : Int → Int} (h : ∀ u, f u ≠ 0 → f' u ≠ 0) : wh n f' ≤ wh n f :=
  List.countP_mono_left fun k _ hk => by
    simp only [decide_eq_true_eq] at hk ⊢
    exact Classical.byContradiction fun hc => h _ hc hk
theorem wh_lt {n : Nat} {f f' : Int → Int} (h : ∀ u, f u ≠ 0 → f' u ≠ 0) {v : Nat} (hv : v < n) (h0 : f v = 0) (h1 : f' v ≠ 0) : wh n f' < wh n f := by
  induction n with
  | zero => omega
  | succ n ih =>
    unfold wh
    rw [List.range_succ, List.countP_append, List.countP_append, List.countP_singleton, List.countP_singleton]
    by_cases e : v = n
    · subst e
      have h2 := wh_le (n := v) h
      unfold wh at h2
      rw [if_neg (by simpa using h1), if_pos (by simpa using h0)]
      omega
    · have h2 := ih (by omega)
      unfold wh at h2
      have h3 : (if decide (f' (n : Int) = 0) = true then 1 else 0) ≤ (if decide (f (n : Int) = 0) = true then 1 else 0) := by
        by_cases h4 : f' (n : Int) = 0
        · have h5 : f (n : Int) = 0 := Classical.byContradiction fun hc => h _ hc h4
          simp [h4, h5]
        · simp [h4]
      omega
theorem VP.wh (h : VP l G v s0 s) (n : Nat) : CompLaw.wh n s.ix ≤ CompLaw.wh n s0.ix := wh_le fun u hu => by rw [(h.old u hu).1]; exact hu
theorem LI.wh (h : LI l G v s0 todo s) {n : Nat} (v0 : 0 ≤ v) (v1 : v < n) : CompLaw.wh n s.ix < CompLaw.wh n s0.ix := by
  obtain ⟨k, rfl⟩ := Int.eq_ofNat_of_zero_le v0
  exact wh_lt (fun u hu => by rw [(h.old u hu).1]; exact hu) (v := k) (by omega) h.white h.ixv.2.2
/-- the least of a knot is one -/
theorem Lst.uniq {u k k' : Int} (h : Lst l u k) (h' : Lst l u k') : k = k' :=
  Int.le_antisymm (h.2.2 k' h'.1 h'.2.1) (h'.2.2 k h.1 h.2.1)
theorem Lst.same {a b k k' : Int} (h : Lst l a k) (h' : Lst l b k') : k = k' ↔ Ld l a b ∧ Ld l b a := by
  constructor
  · rintro rfl
    exact ⟨h.1.trans h'.2.1, h'.1.trans h.2.1⟩
  · intro ⟨h1, h2⟩
    exact Int.le_antisymm (h.2.2 k' (h1.trans h'.1) (h'.2.1.trans h2)) (h'.2.2 k (h2.trans h.1) (h.2.1.trans h1))
/-- turned round -/
theorem Ld.turn {a b : Int} (h : Ld l a b) : Ld (l.map fun e => (e.2.1, e.1, e.2.2)) b a := by
  induction h with
  | here => exact .here
  | @step u e _ he hu ih =>
    have : Ld (l.map fun e => (e.2.1, e.1, e.2.2)) e.2.1 e.1 := Ld.edge (e := (e.2.1, e.1, e.2.2)) (List.mem_map.2 ⟨e, he, rfl⟩)
    rw [hu] at this
    exact this.trans ih
theorem Lst.turn {u k : Int} (h : Lst l u k) : Lst (l.map fun e => (e.2.1, e.1, e.2.2)) u k := by
  have e2 : ((l.map fun e => (e.2.1, e.1, e.2.2)).map fun e : E => (e.2.1, e.1, e.2.2)) = l := by
    rw [List.map_map]
    exact (List.map_congr_left (fun e _ => rfl)).trans (List.map_id _)
  refine ⟨h.2.1.turn, h.1.turn, fun x h1 h2 => ?_⟩
  have a1 := h1.turn
  have a2 := h2.turn
  rw [e2] at a1 a2
  exact h.2.2 x a2 a1
end
end Go.Proofs.Ytjhnlkmdkjlkdaa.CompLaw

namespace Go.Proofs.Ytjhnlkmdkjlkdaa.DagLaw
open NetLaw BellLaw
set_option linter.unusedSimpArgs false
set_option linter.unusedVariables false
/-- edges to v from those who have not come -/
def inn (l : List E) (out : List Int) (v : Int) : Nat := l.countP fun e => decide (e.2.1 = v ∧ e.1 ∉ out)
/-- edges to v -/
def tdn (todo : List E) (v : Int) : Nat := todo.countP fun e => decide (e.2.1 = v)
theorem tdn_snoc (l : List E) (e : E) (v : Int) : tdn (l ++ [e]) v = tdn l v + if e.2.1 = v then 1 else 0 := by
  simp only [tdn, List.countP_append, List.countP_cons, List.countP_nil]
  by_cases h : e.2.1 = v <;> simp [h]
theorem tdn_cons (l : List E) (e : E) (v : Int) : tdn (e :: l) v = tdn l v + if e.2.1 = v then 1 else 0 := by
  simp only [tdn, List.countP_cons]
  by_cases h : e.2.1 = v <;> simp [h]
theorem tdn_le (l : List E) (v : Int) : tdn l v ≤ l.length := List.countP_le_length
theorem inn_nil (l : List E) (v : Int) : inn l [] v = tdn l v := by simp [inn, tdn]
/-- v comes: its edges are now to be taken off -/
theorem inn_take (l : List E) (out : List Int) (v u : Int) (hv : v ∉ out) : inn l out u = inn l (out ++ [v]) u + tdn (l.filter fun e => decide (e.1 = v)) u := by
  unfold inn tdn
  induction l with
  | nil => rfl
  | cons e r ih =>
    rw [List.countP_cons, List.countP_cons, ih, List.filter_cons]
    by_cases h1 : e.1 = v
    · have h2 : e.1 ∉ out := by rw [h1]; exact hv
      by_cases h3 : e.2.1 = u
      · simp [h1, h3, hv, List.countP_cons]; omega
      · simp [h1, h3, List.countP_cons]
    · by_cases h3 : e.2.1 = u
      · by_cases h4 : e.1 ∈ out
        · simp [h1, h3, h4]
        · simp [h1, h3, h4]; omega
      · simp [h1, h3]
/-- what holds all along: A how many edges lead to each from those who have not come, H who waits, out who has come, todo the edges still to be taken off -/
structure KI (N : Nat) (l : List E) (A H out : List Int) (todo : List E) : Prop where
  len : A.length = N
  cnt : ∀ v : Int, 0 ≤ v → v < N → dg A v = ((inn l out v + tdn todo v : Nat) : Int)
  zero : ∀ v : Int, 0 ≤ v → v < N → (dg A v = 0 ↔ v ∈ H ∨ v ∈ out)
  hr : ∀ v ∈ H, 0 ≤ v ∧ v < N
  or_ : ∀ v ∈ out, 0 ≤ v ∧ v < N
  nd : (H ++ out).Nodup
  fwd : ∀ i (h : i < out.length), ∀ e ∈ l, e.2.1 = out[i] → e.1 ∈ out.take i
/-- an order in which each edge leads on -/
structure Topo (N : Nat) (l : List E) (out : List Int) : Prop where
  len : out.length = N
  rng : ∀ v ∈ out, 0 ≤ v ∧ v < N
  nd : out.Nodup
  fwd : ∀ i (h : i < out.length), ∀ e ∈ l, e.2.1 = out[i] → e.1 ∈ out.take i
section
variable {N : Nat} {l : List E} {A H H' out : List Int} {todo : List E}
theorem KI.start (hl : A.length = N) (hc : ∀ v : Int, 0 ≤ v → v < N → dg A v = ((tdn l v : Nat) : Int)) (hn : H.Nodup) (hm : ∀ v : Int, v ∈ H ↔ 0 ≤ v ∧ v < N ∧ dg A v = 0) : KI N l A H [] [] := by
  refine ⟨hl, fun v v0 v1 => ?_, fun v v0 v1 => ?_, fun v hv => ?_, (fun v hv => by cases hv), by simpa using hn, fun i h => absurd h (Nat.not_lt_zero _)⟩
  · rw [hc v v0 v1, inn_nil]; rfl
  · rw [hm]; constructor
    · intro x; exact .inl ⟨v0, v1, x⟩
    · rintro (x | x)
      · exact x.2.2
      · cases x
  · have := (hm v).1 hv; exact ⟨this.1, this.2.1⟩
theorem KI.take {v : Int} (h : KI N l A H out []) (hp : (v :: H').Perm H) : KI N l A H' (out ++ [v]) (l.filter fun e => decide (e.1 = v)) ∧ 0 ≤ v ∧ v < N := by
  have hv : v ∈ H := hp.mem_iff.1 (List.mem_cons_self ..)
  obtain ⟨v0, v1⟩ := h.hr v hv
  have hnd : ((v :: H') ++ out).Nodup := (hp.append_right out).nodup_iff.2 h.nd
  rw [List.cons_append, List.nodup_cons] at hnd
  obtain ⟨hn1, hn2⟩ := hnd
  rw [List.mem_append, not_or] at hn1
  refine ⟨⟨h.len, fun u u0 u1 => ?_, fun u u0 u1 => ?_, fun u hu => h.hr u (hp.mem_iff.1 (List.mem_cons_of_mem _ hu)), fun u hu => ?_, ?_, fun i hi e he ht => ?_⟩, v0, v1⟩
  · rw [h.cnt u u0 u1, inn_take l out v u hn1.2]; rfl
  · rw [h.zero u u0 u1, ← hp.mem_iff, List.mem_cons, List.mem_append, List.mem_singleton]
    constructor
    · rintro ((h1 | h1) | h1)
      · exact .inr (.inr h1)
      · exact .inl h1
      · exact .inr (.inl h1)
    · rintro (h1 | h1 | h1)
      · exact .inl (.inr h1)
      · exact .inr h1
      · exact .inl (.inl h1)
  · rcases List.mem_append.1 hu with h1 | h1
    · exact h.or_ u h1
    · rw [List.mem_singleton] at h1; subst h1; exact ⟨v0, v1⟩
  · rw [← List.append_assoc, List.nodup_append]
    refine ⟨hn2, by simp, fun a ha b hb e => ?_⟩
    rw [List.mem_singleton] at hb
    subst hb e
    rcases List.mem_append.1 ha with h1 | h1
    · exact hn1.1 h1
    · exact hn1.2 h1
  · rw [List.length_append, List.length_singleton] at hi
    by_cases hlt : i < out.length
    · rw [List.getElem_append_left hlt] at ht
      rw [List.take_append_of_le_length (by omega)]
      exact h.fwd i hlt e he ht
    · obtain rfl : i = out.length := by omega
      rw [List.getElem_append_right (Nat.le_refl _)] at ht
      simp at ht
      rw [List.take_append_of_le_length (Nat.le_refl _), List.take_length]
      have hz := (h.zero v v0 v1).2 (.inl hv)
      rw [h.cnt v v0 v1] at hz
      have hz2 : inn l out v = 0 := by omega
      unfold inn at hz2
      rw [List.countP_eq_zero] at hz2
      have := hz2 e he
      simp only [decide_eq_true_eq, not_and, Decidable.not_not] at this
      exact this ht
theorem KI.dec {e : E} (h : KI N l A H out (e :: todo)) (t0 : 0 ≤ e.2.1) (t1 : e.2.1 < N) :
    1 ≤ dg A e.2.1 ∧ (dg A e.2.1 - 1 = 0 → ∀ H', H'.Perm (e.2.1 :: H) → KI N l (A.set e.2.1.toNat (dg A e.2.1 - 1)) H' out todo) ∧ (dg A e.2.1 - 1 ≠ 0 → KI N l (A.set e.2.1.toNat (dg A e.2.1 - 1)) H out todo) := by
  have hl := h.len
  have hs := fun v hv => dg_set (D := A) (t := e.2.1) (v := v) (x := dg A e.2.1 - 1) t0 (by omega) hv
  have hc := h.cnt e.2.1 t0 t1
  rw [tdn_cons, if_pos rfl] at hc
  have h1 : 1 ≤ dg A e.2.1 := by omega
  have hno : e.2.1 ∉ H ∧ e.2.1 ∉ out := by
    rw [← not_or]
    intro hm
    have := (h.zero _ t0 t1).2 hm
    omega
  have hcnt : ∀ v : Int, 0 ≤ v → v < N → dg (A.set e.2.1.toNat (dg A e.2.1 - 1)) v = ((inn l out v + tdn todo v : Nat) : Int) := fun v v0 v1 => by
    rw [hs v v0]
    by_cases hv : v = e.2.1
    · subst hv; rw [if_pos rfl]; omega
    · rw [if_neg hv, h.cnt v v0 v1, tdn_cons, if_neg (fun x => hv x.symm)]; rfl
  refine ⟨h1, fun hz H' hp => ⟨by rw [List.length_set]; exact hl, hcnt, fun v v0 v1 => ?_, fun v hv => ?_, h.or_, ?_, h.fwd⟩, fun hz => ⟨by rw [List.length_set]; exact hl, hcnt, fun v v0 v1 => ?_, h.hr, h.or_, h.nd, h.fwd⟩⟩
  · rw [hs v v0, hp.mem_iff, List.mem_cons]
    by_cases hv : v = e.2.1
    · subst hv; rw [if_pos rfl]; simp [hz]
    · rw [if_neg hv, h.zero v v0 v1]; simp [hv]
  · rcases List.mem_cons.1 (hp.mem_iff.1 hv) with rfl | hv
    · exact ⟨t0, t1⟩
    · exact h.hr v hv
  · refine (hp.append_right out).nodup_iff.2 ?_
    rw [List.cons_append, List.nodup_cons, List.mem_append, not_or]
    exact ⟨hno, h.nd⟩
  · rw [hs v v0]
    by_cases hv : v = e.2.1
    · subst hv; rw [if_pos rfl]
      constructor
      · intro x; exact absurd x hz
      · rintro (x | x)
        · exact absurd x hno.1
        · exact absurd x hno.2
    · rw [if_neg hv]; exact h.zero v v0 v1
theorem KI.len_le (h : KI N l A H out todo) : H.length + out.length ≤ N := by
  have h1 : ((H ++ out).map Int.toNat).Nodup := by
    rw [List.Nodup, List.pairwise_map]
    refine List.Pairwise.imp_of_mem (fun {x y} hx hy hxy e => hxy ?_) h.nd
    have hx' : 0 ≤ x ∧ x < N := by rcases List.mem_append.1 hx with q | q; exact h.hr x q; exact h.or_ x q
    have hy' : 0 ≤ y ∧ y < N := by rcases List.mem_append.1 hy with q | q; exact h.hr y q; exact h.or_ y q
    omega
  have h3 := FloydLaw.nodup_len h1 (k := N) (fun m hm => by
    rw [List.mem_map] at hm
    obtain ⟨y, hy, rfl⟩ := hm
    have hy' : 0 ≤ y ∧ y < N := by rcases List.mem_append.1 hy with q | q; exact h.hr y q; exact h.or_ y q
    omega)
  simpa using h3
theorem KI.fin (h : KI N l A [] out []) (hl : ¬ out.length < N) : Topo N l out :=
  ⟨by have := h.len_le; simp at this; omega, h.or_, by simpa using h.nd, h.fwd⟩
end
/-- all that has come, where not all comes -/
structure Stuck (N : Nat) (l : List E) (out : List Int) : Prop where
  some_ : ∃ v : Int, 0 ≤ v ∧ v < N ∧ v ∉ out
  back : ∀ v : Int, 0 ≤ v → v < N → v ∉ out → ∃ e ∈ l, e.2.1 = v ∧ e.1 ∉ out
theorem all_len {N : Nat} {out : List Int} (h : ∀ v : Int, 0 ≤ v → v < N → v ∈ out) : N ≤ out.length := by
  have h3 : ∀ (N : Nat) (out : List Int), (∀ v : Int, 0 ≤ v → v < N → v ∈ out) → N ≤ out.length := by
    intro N
    induction N with
    | zero => intro _ _; exact Nat.zero_le _
    | succ N ih =>
      intro out h
      have hm := h (N : Int) (by omega) (by omega)
      have := ih (out.erase (N : Int)) (fun v v0 v1 => by
        rw [List.mem_erase_of_ne (by omega)]
        exact h v v0 (by omega))
      rw [List.length_erase_of_mem hm] at this
      have := List.length_pos_of_mem hm
      omega
  exact h3 N out h
theorem KI.stuck {N : Nat} {l : List E} {A out : List Int} (h : KI N l A [] out []) (hl : out.length < N) : Stuck N l out := by
  refine ⟨?_, fun v v0 v1 hv => ?_⟩
  · by_cases hex : ∃ v : Int, 0 ≤ v ∧ v < N ∧ v ∉ out
    · exact hex
    · have := all_len (N := N) (out := out) fun v v0 v1 => by
        by_cases hv : v ∈ out
        · exact hv
        · exact absurd ⟨v, v0, v1, hv⟩ hex
      omega
  · have hz : dg A v ≠ 0 := fun hz => by
      rcases (h.zero v v0 v1).1 hz with h1 | h1
      · cases h1
      · exact hv h1
    rw [h.cnt v v0 v1] at hz
    have h1 : 0 < inn l out v := by
      have : tdn [] v = 0 := rfl
      omega
    unfold inn at h1
    rw [List.countP_pos_iff] at h1
    obtain ⟨e, he, h2⟩ := h1
    rw [decide_eq_true_eq] at h2
    exact ⟨e, he, h2⟩
/-- longest costs, between two places -/
structure LB (N : Nat) (l : List E) (dn : List Int) (D : List Int) : Prop where
  len : D.length = N
  lo : ∀ v : Int, 0 ≤ v → v < N → 0 ≤ dg D v ∧ dg D v ≤ 10000 * (dn.length : Int)
  rel : ∀ e ∈ l, e.1 ∈ dn → dg D e.1 + e.2.2 ≤ dg D e.2.1
  tight : ∀ v : Int, 0 ≤ v → v < N → 0 < dg D v → ∃ e ∈ l, e.2.1 = v ∧ e.1 ∈ dn ∧ dg D e.1 + e.2.2 = dg D v
/-- .. and at one: v, its edges still to be looked at -/
structure LI (N : Nat) (l : List E) (dn : List Int) (v : Int) (D : List Int) (todo : List E) : Prop where
  len : D.length = N
  lo : ∀ u : Int, 0 ≤ u → u < N → 0 ≤ dg D u ∧ dg D u ≤ 10000 * (dn.length + 1 : Int)
  lov : dg D v ≤ 10000 * (dn.length : Int)
  rel : ∀ e ∈ l, e.1 ∈ dn → dg D e.1 + e.2.2 ≤ dg D e.2.1
  cur : ∀ e ∈ l, e.1 = v → e ∈ todo ∨ dg D e.1 + e.2.2 ≤ dg D e.2.1
  tight : ∀ u : Int, 0 ≤ u → u < N → 0 < dg D u → ∃ e ∈ l, e.2.1 = u ∧ (e.1 ∈ dn ∨ e.1 = v) ∧ dg D e.1 + e.2.2 = dg D u
section
variable {N : Nat} {l : List E} {dn D : List Int} {v : Int} {todo : List E}
theorem LB.start (l : List E) : LB N l [] (List.replicate N 0) := by
  have hz : ∀ v : Int, dg (List.replicate N 0) v = 0 := fun v => by
    unfold dg
    rw [List.getD_eq_getElem?_getD, List.getElem?_replicate]
    split <;> rfl
  refine ⟨by simp, fun v _ _ => by rw [hz]; simp, (fun e _ h => by cases h), fun v _ _ h => by rw [hz] at h; omega⟩
theorem LB.go (h : LB N l dn D) (v0 : 0 ≤ v) (v1 : v < N) (ht : ∀ e ∈ l, e.1 = v → e ∈ todo) : LI N l dn v D todo :=
  ⟨h.len, fun u u0 u1 => by have := h.lo u u0 u1; omega, (h.lo v v0 v1).2, h.rel, fun e he hv => .inl (ht e he hv), fun u u0 u1 hu => by
    obtain ⟨e, he, h1, h2, h3⟩ := h.tight u u0 u1 hu
    exact ⟨e, he, h1, .inl h2, h3⟩⟩
theorem LI.stop (h : LI N l dn v D []) : LB N l (dn ++ [v]) D := by
  refine ⟨h.len, fun u u0 u1 => by have := h.lo u u0 u1; simp; omega, fun e he hd => ?_, fun u u0 u1 hu => ?_⟩
  · rcases List.mem_append.1 hd with h1 | h1
    · exact h.rel e he h1
    · rw [List.mem_singleton] at h1
      rcases h.cur e he h1 with h2 | h2
      · cases h2
      · exact h2
  · obtain ⟨e, he, h1, h2, h3⟩ := h.tight u u0 u1 hu
    refine ⟨e, he, h1, ?_, h3⟩
    rw [List.mem_append, List.mem_singleton]
    exact h2
theorem LI.step {e : E} (h : LI N l dn v D (e :: todo)) (hends : ∀ e ∈ l, 0 ≤ e.1 ∧ e.1 < N ∧ 0 ≤ e.2.1 ∧ e.2.1 < N) (he : e ∈ l) (hv : e.1 = v) (ht : e.2.1 ∉ dn) (htv : e.2.1 ≠ v) (hc : e.2.2 ≤ 10000) :
    LI N l dn v (D.set e.2.1.toNat (max (dg D e.2.1) (dg D v + e.2.2))) todo := by
  have hl := h.len
  obtain ⟨v0, v1, t0, t1⟩ := hends e he
  rw [hv] at v0 v1
  have hs := fun u hu => dg_set (D := D) (t := e.2.1) (v := u) (x := max (dg D e.2.1) (dg D v + e.2.2)) t0 (by omega) hu
  have hsv : dg (D.set e.2.1.toNat (max (dg D e.2.1) (dg D v + e.2.2))) v = dg D v := by rw [hs v v0, if_neg (fun x => htv x.symm)]
  have hdn : ∀ u, 0 ≤ u → u ∈ dn → dg (D.set e.2.1.toNat (max (dg D e.2.1) (dg D v + e.2.2))) u = dg D u := fun u u0 hu => by
    rw [hs u u0, if_neg (fun x => ht (by rw [← x]; exact hu))]
  have hge : ∀ u, 0 ≤ u → dg D u ≤ dg (D.set e.2.1.toNat (max (dg D e.2.1) (dg D v + e.2.2))) u := fun u u0 => by
    rw [hs u u0]
    split
    · rename_i x; subst x; omega
    · omega
  refine ⟨by rw [List.length_set]; exact hl, fun u u0 u1 => ?_, by rw [hsv]; exact h.lov, fun x hx hd => ?_, fun x hx hxv => ?_, fun u u0 u1 hu => ?_⟩
  · rw [hs u u0]
    have a := h.lo u u0 u1
    have b := h.lov
    split
    · rename_i x; subst x; omega
    · exact a
  · obtain ⟨a, _, b, _⟩ := hends x hx
    rw [hdn x.1 a hd]
    have := h.rel x hx hd
    have := hge x.2.1 b
    omega
  · obtain ⟨a, _, b, _⟩ := hends x hx
    rcases h.cur x hx hxv with h1 | h1
    · rcases List.mem_cons.1 h1 with h2 | h2
      · right
        subst h2
        rw [hxv, hsv, hs _ b, if_pos rfl]
        omega
      · exact .inl h2
    · right
      rw [hxv, hsv]
      rw [hxv] at h1
      have := hge x.2.1 b
      omega
  · rw [hs u u0] at hu ⊢
    have keep : ∀ y : E, y ∈ l → (y.1 ∈ dn ∨ y.1 = v) → dg (D.set e.2.1.toNat (max (dg D e.2.1) (dg D v + e.2.2))) y.1 = dg D y.1 := fun y hy hd => by
      rcases hd with hd | hd
      · exact hdn _ (hends y hy).1 hd
      · rw [hd, hsv]
    by_cases e1 : u = e.2.1
    · rw [if_pos e1] at hu ⊢
      by_cases e2 : dg D e.2.1 < dg D v + e.2.2
      · refine ⟨e, he, e1.symm, .inr hv, ?_⟩
        rw [keep e he (.inr hv), hv]
        omega
      · obtain ⟨y, hy, y1, y2, y3⟩ := h.tight u u0 u1 (by rw [e1]; omega)
        refine ⟨y, hy, y1, y2, ?_⟩
        rw [keep y hy y2, y3, e1]
        omega
    · rw [if_neg e1] at hu ⊢
      obtain ⟨y, hy, y1, y2, y3⟩ := h.tight u u0 u1 hu
      exact ⟨y, hy, y1, y2, by rw [keep y hy y2, y3]⟩
/-- along an order: the edges of a place lead to none that has come -/
theorem Topo.next {out : List Int} (h : Topo N l out) {i : Nat} (hi : i < out.length) {e : E} (he : e ∈ l) (hv : e.1 = out[i]) : e.2.1 ∉ out.take i ∧ e.2.1 ≠ out[i] := by
  have key : ∀ j (hj : j < out.length), j ≤ i → e.2.1 ≠ out[j] := fun j hj hji ht => by
    have := h.fwd j hj e he ht
    rw [hv] at this
    obtain ⟨m, hm, hm2⟩ := List.mem_iff_getElem.1 this
    rw [List.length_take] at hm
    rw [List.getElem_take] at hm2
    have := (List.getElem_inj h.nd).1 hm2
    omega
  refine ⟨fun hm => ?_, key i hi (Nat.le_refl _)⟩
  obtain ⟨m, hm1, hm2⟩ := List.mem_iff_getElem.1 hm
  rw [List.length_take] at hm1
  rw [List.getElem_take] at hm2
  exact key m (by omega) (by omega) hm2.symm
theorem Topo.mem {out : List Int} (h : Topo N l out) {v : Int} (v0 : 0 ≤ v) (v1 : v < N) : v ∈ out := by
  by_cases hm : v ∈ out
  · exact hm
  · exfalso
    have hr : ∀ x ∈ v :: out, 0 ≤ x ∧ x < N := fun x hx => by
      rcases List.mem_cons.1 hx with rfl | hx
      · exact ⟨v0, v1⟩
      · exact h.rng x hx
    have hn : (v :: out).Nodup := List.nodup_cons.2 ⟨hm, h.nd⟩
    have h1 : ((v :: out).map Int.toNat).Nodup := by
      rw [List.Nodup, List.pairwise_map]
      refine List.Pairwise.imp_of_mem (fun {x y} hx hy hxy e => hxy ?_) hn
      have := hr x hx
      have := hr y hy
      omega
    have h3 := FloydLaw.nodup_len h1 (k := N) (fun m hm => by
      rw [List.mem_map] at hm
      obtain ⟨y, hy, rfl⟩ := hm
      have := hr y hy
      omega)
    simp only [List.length_map, List.length_cons, h.len] at h3
    omega
end
end Go.Proofs.Ytjhnlkmdkjlkdaa.DagLaw

namespace Go.Proofs.Ytjhnlkmdkjlkdaa.CompOrd
open NetLaw BellLaw DagLaw CompLaw
set_option linter.unusedSimpArgs false
set_option linter.unusedVariables false
/-- an order of the places R: each behind all that P puts ahead of it, the least first -/
structure Od (R : Int → Prop) (N : Nat) (P : Int → Int → Prop) (out : List Int) : Prop where
  rng : ∀ v ∈ out, (0 ≤ v ∧ v < N) ∧ R v
  nd : out.Nodup
  fwd : ∀ i (h : i < out.length), ∀ u, P u out[i] → u ∈ out.take i
  gr : ∀ i (h : i < out.length), ∀ v : Int, 0 ≤ v → v < N → R v → v ∉ out.take i → (∀ u, P u v → u ∈ out.take i) → out[i] ≤ v
  back : ∀ v : Int, 0 ≤ v → v < N → R v → v ∉ out → ∃ u, P u v ∧ u ∉ out
theorem mem_take_lt {out : List Int} (hn : out.Nodup) {i : Nat} (h : i < out.length) : out[i] ∉ out.take i := fun hm => by
  obtain ⟨j, hj, he⟩ := List.mem_take_iff_getElem.1 hm
  have hjl : j < out.length := by omega
  have := (List.pairwise_iff_getElem.1 hn) j i hjl h (by omega)
  exact this he
theorem Od.take {R R' : Int → Prop} {N : Nat} {P P' : Int → Int → Prop} {o o' : List Int} (h : Od R N P o) (h' : Od R' N P' o') (hR : ∀ v : Int, 0 ≤ v → v < N → (R v ↔ R' v)) (hP : ∀ u v, P u v ↔ P' u v) : ∀ i, i ≤ o.length → i ≤ o'.length → o.take i = o'.take i := by
  intro i
  induction i with
  | zero => intro _ _; rfl
  | succ i ih =>
    intro h1 h2
    have e := ih (by omega) (by omega)
    have hi : i < o.length := by omega
    have hi' : i < o'.length := by omega
    have a := h.rng _ (List.getElem_mem hi)
    have a' := h'.rng _ (List.getElem_mem hi')
    have g1 := h.gr i hi o'[i] a'.1.1 a'.1.2 ((hR _ a'.1.1 a'.1.2).2 a'.2) (by rw [e]; exact mem_take_lt h'.nd hi') (fun u hu => by rw [e]; exact h'.fwd i hi' u ((hP _ _).1 hu))
    have g2 := h'.gr i hi' o[i] a.1.1 a.1.2 ((hR _ a.1.1 a.1.2).1 a.2) (by rw [← e]; exact mem_take_lt h.nd hi) (fun u hu => by rw [← e]; exact h.fwd i hi u ((hP _ _).2 hu))
    rw [List.take_succ_eq_append_getElem hi, List.take_succ_eq_append_getElem hi', e, Int.le_antisymm g1 g2]
theorem Od.len {R R' : Int → Prop} {N : Nat} {P P' : Int → Int → Prop} {o o' : List Int} (h : Od R N P o) (h' : Od R' N P' o') (hR : ∀ v : Int, 0 ≤ v → v < N → (R v ↔ R' v)) (hP : ∀ u v, P u v ↔ P' u v) : o.length ≤ o'.length := by
  rcases Nat.lt_or_ge o'.length o.length with hlt | hge
  · exfalso
    have e := h.take h' hR hP o'.length (by omega) (Nat.le_refl _)
    rw [List.take_length] at e
    have a := h.rng _ (List.getElem_mem hlt)
    have hn := mem_take_lt h.nd hlt
    rw [e] at hn
    obtain ⟨u, hu, hn2⟩ := h'.back _ a.1.1 a.1.2 ((hR _ a.1.1 a.1.2).1 a.2) hn
    have := h.fwd _ hlt u ((hP _ _).2 hu)
    rw [e] at this
    exact hn2 this
  · exact hge
/-- there is but one such order -/
theorem Od.one {R R' : Int → Prop} {N : Nat} {P P' : Int → Int → Prop} {o o' : List Int} (h : Od R N P o) (h' : Od R' N P' o') (hR : ∀ v : Int, 0 ≤ v → v < N → (R v ↔ R' v)) (hP : ∀ u v, P u v ↔ P' u v) : o = o' := by
  have e1 := h.len h' hR hP
  have e2 := h'.len h (fun v a b => (hR v a b).symm) (fun u v => (hP u v).symm)
  have e := h.take h' hR hP o.length (Nat.le_refl _) e1
  rw [List.take_length, List.take_of_length_le e2] at e
  exact e
/-- without a cycle all come -/
theorem Od.all {R : Int → Prop} {N : Nat} {P : Int → Int → Prop} {o : List Int} (h : Od R N P o) (rk : Int → Nat) (hP : ∀ u v : Int, P u v → (0 ≤ u ∧ u < N ∧ R u) ∧ rk u < rk v) : ∀ v : Int, 0 ≤ v → v < N → R v → v ∈ o := by
  have key : ∀ k, ∀ v : Int, rk v < k → 0 ≤ v → v < N → R v → v ∈ o := by
    intro k
    induction k with
    | zero => intro v hv; omega
    | succ k ih =>
      intro v hv v0 v1 vR
      by_cases hm : v ∈ o
      · exact hm
      · obtain ⟨u, hu, hn⟩ := h.back v v0 v1 vR hm
        obtain ⟨⟨u0, u1, uR⟩, hr⟩ := hP u v hu
        exact absurd (ih u (by omega) u0 u1 uR) hn
  exact fun v => key (rk v + 1) v (Nat.lt_succ_self _)
/-- who comes ahead of whom -/
theorem Od.ahead {R : Int → Prop} {N : Nat} {P : Int → Int → Prop} {o : List Int} (h : Od R N P o) {u v : Int} (hp : P u v) (hv : v ∈ o) : o.idxOf u < o.idxOf v := by
  have hi := List.idxOf_lt_length_iff.2 hv
  have hg : o[o.idxOf v] = v := List.getElem_idxOf hi
  have hm := h.fwd _ hi u (by rw [hg]; exact hp)
  obtain ⟨j, hj, he⟩ := List.mem_take_iff_getElem.1 hm
  have : o.idxOf u ≤ j := by
    rw [← he]
    have hjl : j < o.length := by omega
    have : ∀ (o : List Int) (j : Nat) (h : j < o.length), o.idxOf o[j] ≤ j := by
      intro o
      induction o with
      | nil => intro j h; exact absurd h (Nat.not_lt_zero _)
      | cons a r ih =>
        intro j h
        cases j with
        | zero => simp
        | succ j =>
          rw [List.getElem_cons_succ, List.idxOf_cons]
          have := ih j (by simpa using h)
          cases hq : (a == r[j]'(by simpa using h)) with
          | true => simp
          | false => simp only [cond_false]; omega
    exact this o j hjl
  omega
/-- what holds all along: A how many edges lead to each from those who have not come, H who waits, out who has come, todo the edges still to be taken off; R: whom it is about -/
structure KG (R : Int → Prop) (N : Nat) (l : List E) (A H out : List Int) (todo : List E) : Prop where
  len : A.length = N
  cnt : ∀ v : Int, 0 ≤ v → v < N → dg A v = ((inn l out v + tdn todo v : Nat) : Int)
  zero : ∀ v : Int, 0 ≤ v → v < N → R v → (dg A v = 0 ↔ v ∈ H ∨ v ∈ out)
  hr : ∀ v ∈ H, (0 ≤ v ∧ v < N) ∧ R v
  or_ : ∀ v ∈ out, (0 ≤ v ∧ v < N) ∧ R v
  nd : (H ++ out).Nodup
  fwd : ∀ i (h : i < out.length), ∀ e ∈ l, e.2.1 = out[i] → e.1 ∈ out.take i
  gr : ∀ i (h : i < out.length), ∀ v : Int, 0 ≤ v → v < N → R v → v ∉ out.take i → (∀ e ∈ l, e.2.1 = v → e.1 ∈ out.take i) → out[i] ≤ v
section
variable {R : Int → Prop} {N : Nat} {l : List E} {A H H' out : List Int} {todo : List E}
theorem KG.start (hl : A.length = N) (hc : ∀ v : Int, 0 ≤ v → v < N → dg A v = ((tdn l v : Nat) : Int)) (hn : H.Nodup) (hm : ∀ v : Int, v ∈ H ↔ (0 ≤ v ∧ v < N) ∧ R v ∧ dg A v = 0) : KG R N l A H [] [] := by
  refine ⟨hl, fun v v0 v1 => ?_, fun v v0 v1 vR => ?_, fun v hv => ?_, (fun v hv => by cases hv), by simpa using hn, fun i h => absurd h (Nat.not_lt_zero _), fun i h => absurd h (Nat.not_lt_zero _)⟩
  · rw [hc v v0 v1, inn_nil]; rfl
  · rw [hm]; constructor
    · intro x; exact .inl ⟨⟨v0, v1⟩, vR, x⟩
    · rintro (x | x)
      · exact x.2.2
      · cases x
  · have := (hm v).1 hv; exact ⟨this.1, this.2.1⟩
theorem KG.take {v : Int} (h : KG R N l A H out []) (hp : (v :: H').Perm H) (hmin : ∀ u ∈ H', v ≤ u) : KG R N l A H' (out ++ [v]) (l.filter fun e => decide (e.1 = v)) ∧ ((0 ≤ v ∧ v < N) ∧ R v) := by
  have hv : v ∈ H := hp.mem_iff.1 (List.mem_cons_self ..)
  obtain ⟨⟨v0, v1⟩, vR⟩ := h.hr v hv
  have hnd : ((v :: H') ++ out).Nodup := (hp.append_right out).nodup_iff.2 h.nd
  rw [List.cons_append, List.nodup_cons] at hnd
  obtain ⟨hn1, hn2⟩ := hnd
  rw [List.mem_append, not_or] at hn1
  refine ⟨⟨h.len, fun u u0 u1 => ?_, fun u u0 u1 uR => ?_, fun u hu => h.hr u (hp.mem_iff.1 (List.mem_cons_of_mem _ hu)), fun u hu => ?_, ?_, fun i hi e he ht => ?_, fun i hi u u0 u1 uR hu1 hu2 => ?_⟩, ⟨v0, v1⟩, vR⟩
  · rw [h.cnt u u0 u1, inn_take l out v u hn1.2]; rfl
  · rw [h.zero u u0 u1 uR, ← hp.mem_iff, List.mem_cons, List.mem_append, List.mem_singleton]
    constructor
    · rintro ((h1 | h1) | h1)
      · exact .inr (.inr h1)
      · exact .inl h1
      · exact .inr (.inl h1)
    · rintro (h1 | h1 | h1)
      · exact .inl (.inr h1)
      · exact .inr h1
      · exact .inl (.inl h1)
  · rcases List.mem_append.1 hu with h1 | h1
    · exact h.or_ u h1
    · rw [List.mem_singleton] at h1; subst h1; exact ⟨⟨v0, v1⟩, vR⟩
  · rw [← List.append_assoc, List.nodup_append]
    refine ⟨hn2, by simp, fun a ha b hb e => ?_⟩
    rw [List.mem_singleton] at hb
    subst hb e
    rcases List.mem_append.1 ha with h1 | h1
    · exact hn1.1 h1
    · exact hn1.2 h1
  · rw [List.length_append, List.length_singleton] at hi
    by_cases hlt : i < out.length
    · rw [List.getElem_append_left hlt] at ht
      rw [List.take_append_of_le_length (by omega)]
      exact h.fwd i hlt e he ht
    · obtain rfl : i = out.length := by omega
      rw [List.getElem_append_right (Nat.le_refl _)] at ht
      simp at ht
      rw [List.take_append_of_le_length (Nat.le_refl _), List.take_length]
      have hz := (h.zero v v0 v1 vR).2 (.inl hv)
      rw [h.cnt v v0 v1] at hz
      have hz2 : inn l out v = 0 := by omega
      unfold inn at hz2
      rw [List.countP_eq_zero] at hz2
      have := hz2 e he
      simp only [decide_eq_true_eq, not_and, Decidable.not_not] at this
      exact this ht
  · rw [List.length_append, List.length_singleton] at hi
    by_cases hlt : i < out.length
    · rw [List.getElem_append_left hlt]
      rw [List.take_append_of_le_length (by omega)] at hu1 hu2
      exact h.gr i hlt u u0 u1 uR hu1 hu2
    · obtain rfl : i = out.length := by omega
      rw [List.getElem_append_right (Nat.le_refl _)]
      rw [List.take_append_of_le_length (Nat.le_refl _), List.take_length] at hu1 hu2
      simp only [Nat.sub_self, List.getElem_cons_zero]
      have hz : inn l out u = 0 := by
        unfold inn
        rw [List.countP_eq_zero]
        intro e he hd
        simp only [decide_eq_true_eq] at hd
        exact hd.2 (hu2 e he hd.1)
      have hz2 : dg A u = 0 := by
        rw [h.cnt u u0 u1, hz]; rfl
      rcases (h.zero u u0 u1 uR).1 hz2 with h1 | h1
      · rcases List.mem_cons.1 (hp.mem_iff.2 h1) with rfl | h2
        · exact Int.le_refl _
        · exact hmin u h2
      · exact absurd h1 hu1
theorem KG.dec {e : E} (h : KG R N l A H out (e :: todo)) (t0 : 0 ≤ e.2.1) (t1 : e.2.1 < N) (tR : R e.2.1) :
    1 ≤ dg A e.2.1 ∧ (dg A e.2.1 - 1 = 0 → ∀ H', H'.Perm (e.2.1 :: H) → KG R N l (A.set e.2.1.toNat (dg A e.2.1 - 1)) H' out todo) ∧ (dg A e.2.1 - 1 ≠ 0 → KG R N l (A.set e.2.1.toNat (dg A e.2.1 - 1)) H out todo) := by
  have hl := h.len
  have hs := fun v hv => dg_set (D := A) (t := e.2.1) (v := v) (x := dg A e.2.1 - 1) t0 (by omega) hv
  have hc := h.cnt e.2.1 t0 t1
  rw [tdn_cons, if_pos rfl] at hc
  have h1 : 1 ≤ dg A e.2.1 := by omega
  have hno : e.2.1 ∉ H ∧ e.2.1 ∉ out := by
    rw [← not_or]
    intro hm
    have := (h.zero _ t0 t1 tR).2 hm
    omega
  have hcnt : ∀ v : Int, 0 ≤ v → v < N → dg (A.set e.2.1.toNat (dg A e.2.1 - 1)) v = ((inn l out v + tdn todo v : Nat) : Int) := fun v v0 v1 => by
    rw [hs v v0]
    by_cases hv : v = e.2.1
    · subst hv; rw [if_pos rfl]; omega
    · rw [if_neg hv, h.cnt v v0 v1, tdn_cons, if_neg (fun x => hv x.symm)]; rfl
  refine ⟨h1, fun hz H' hp => ⟨by rw [List.length_set]; exact hl, hcnt, fun v v0 v1 vR => ?_, fun v hv => ?_, h.or_, ?_, h.fwd, h.gr⟩, fun hz => ⟨by rw [List.length_set]; exact hl, hcnt, fun v v0 v1 vR => ?_, h.hr, h.or_, h.nd, h.fwd, h.gr⟩⟩
  · rw [hs v v0, hp.mem_iff, List.mem_cons]
    by_cases hv : v = e.2.1
    · subst hv; rw [if_pos rfl]; simp [hz]
    · rw [if_neg hv, h.zero v v0 v1 vR]; simp [hv]
  · rcases List.mem_cons.1 (hp.mem_iff.1 hv) with rfl | hv
    · exact ⟨⟨t0, t1⟩, tR⟩
    · exact h.hr v hv
  · refine (hp.append_right out).nodup_iff.2 ?_
    rw [List.cons_append, List.nodup_cons, List.mem_append, not_or]
    exact ⟨hno, h.nd⟩
  · rw [hs v v0]
    by_cases hv : v = e.2.1
    · subst hv; rw [if_pos rfl]
      constructor
      · intro x; exact absurd x hz
      · rintro (x | x)
        · exact absurd x hno.1
        · exact absurd x hno.2
    · rw [if_neg hv]; exact h.zero v v0 v1 vR
theorem KG.len_le (h : KG R N l A H out todo) : H.length + out.length ≤ N := by
  have h1 : ((H ++ out).map Int.toNat).Nodup := by
    rw [List.Nodup, List.pairwise_map]
    refine List.Pairwise.imp_of_mem (fun {x y} hx hy hxy e => hxy ?_) h.nd
    have hx' : 0 ≤ x ∧ x < N := by rcases List.mem_append.1 hx with q | q; exact (h.hr x q).1; exact (h.or_ x q).1
    have hy' : 0 ≤ y ∧ y < N := by rcases List.mem_append.1 hy with q | q; exact (h.hr y q).1; exact (h.or_ y q).1
    omega
  have h3 := FloydLaw.nodup_len h1 (k := N) (fun m hm => by
    rw [List.mem_map] at hm
    obtain ⟨y, hy, rfl⟩ := hm
    have hy' : 0 ≤ y ∧ y < N := by rcases List.mem_append.1 hy with q | q; exact (h.hr y q).1; exact (h.or_ y q).1
    omega)
  simpa using h3
theorem KG.od (h : KG R N l A [] out []) : Od R N (fun u v => ∃ e ∈ l, e.1 = u ∧ e.2.1 = v) out := by
  refine ⟨h.or_, by simpa using h.nd, fun i hi u hu => ?_, fun i hi v v0 v1 vR h1 h2 => h.gr i hi v v0 v1 vR h1 fun e he ht => h2 _ ⟨e, he, rfl, ht⟩, fun v v0 v1 vR hv => ?_⟩
  · obtain ⟨e, he, rfl, ht⟩ := hu
    exact h.fwd i hi e he ht
  · have hz : dg A v ≠ 0 := fun hz => by
      rcases (h.zero v v0 v1 vR).1 hz with h1 | h1
      · cases h1
      · exact hv h1
    rw [h.cnt v v0 v1] at hz
    have h1 : 0 < inn l out v := by
      have : tdn [] v = 0 := rfl
      omega
    unfold inn at h1
    rw [List.countP_pos_iff] at h1
    obtain ⟨e, he, h2⟩ := h1
    rw [decide_eq_true_eq] at h2
    exact ⟨e.1, ⟨e, he, rfl, h2.1⟩, h2.2⟩
end
/-- the edges between knots; cm: whose knot -/
def cl (cm : Int → Int) (l : List E) : List E := (l.map fun e => (cm e.1, cm e.2.1, (0 : Int))).filter fun e => decide (e.1 ≠ e.2.1)
theorem cl_nil (cm : Int → Int) : cl cm [] = [] := rfl
theorem cl_cons (cm : Int → Int) (e : E) (r : List E) : cl cm (e :: r) = if cm e.1 ≠ cm e.2.1 then (cm e.1, cm e.2.1, 0) :: cl cm r else cl cm r := by
  unfold cl
  rw [List.map_cons, List.filter_cons]
  by_cases h : cm e.1 = cm e.2.1 <;> simp [h]
theorem cl_append (cm : Int → Int) (a b : List E) : cl cm (a ++ b) = cl cm a ++ cl cm b := by simp [cl]
theorem cl_len (cm : Int → Int) (l : List E) : (cl cm l).length ≤ l.length := by
  unfold cl
  refine Nat.le_trans (List.length_filter_le _ _) (by simp)
theorem cl_mem {cm : Int → Int} {l : List E} {u v : Int} : (∃ e ∈ cl cm l, e.1 = u ∧ e.2.1 = v) ↔ ∃ e ∈ l, cm e.1 = u ∧ cm e.2.1 = v ∧ u ≠ v := by
  unfold cl
  constructor
  · rintro ⟨e, he, rfl, rfl⟩
    obtain ⟨h1, h2⟩ := List.mem_filter.1 he
    obtain ⟨x, hx, rfl⟩ := List.mem_map.1 h1
    exact ⟨x, hx, rfl, rfl, by simpa using h2⟩
  · rintro ⟨e, he, rfl, rfl, hne⟩
    exact ⟨(cm e.1, cm e.2.1, 0), List.mem_filter.2 ⟨List.mem_map.2 ⟨e, he, rfl⟩, by simpa using hne⟩, rfl, rfl⟩
/-- the edges still to be taken off that leave c -/
def tk (cm : Int → Int) (c : Int) (l : List E) : List E := (cl cm l).filter fun e => decide (e.1 = c)
theorem tk_yes {cm : Int → Int} {c : Int} {e : E} {r : List E} (h1 : cm e.1 = c) (h2 : cm e.2.1 ≠ c) : tk cm c (e :: r) = (c, cm e.2.1, 0) :: tk cm c r := by
  subst h1
  unfold tk
  rw [cl_cons, if_pos (fun h => h2 h.symm), List.filter_cons]
  simp
theorem tk_no {cm : Int → Int} {c : Int} {e : E} {r : List E} (h : cm e.1 ≠ c ∨ cm e.2.1 = c) : tk cm c (e :: r) = tk cm c r := by
  unfold tk
  rw [cl_cons]
  by_cases h1 : cm e.1 = cm e.2.1
  · rw [if_neg (fun h => h h1)]
  · rw [if_pos h1, List.filter_cons]
    have : cm e.1 ≠ c := fun h3 => by
      rcases h with h | h
      · exact h h3
      · exact h1 (h3.trans h.symm)
    simp [this]
/-- how many lead to a place -/
noncomputable def rk (N : Nat) (l : List E) (v : Int) : Nat := by
  classical exact (List.range N).countP fun k : Nat => decide (Ld l (k : Int) v)
theorem rk_lt {N : Nat} {l : List E} {u v : Int} (h : Ld l u v) (h0 : 0 ≤ v) (h1 : v < N) (hn : ¬ Ld l v u) : rk N l u < rk N l v := by
  classical
  obtain ⟨k, rfl⟩ := Int.eq_ofNat_of_zero_le h0
  have := wh_lt (n := N) (f := fun x => if Ld l x u then 1 else 0) (f' := fun x => if Ld l x (k : Int) then 1 else 0) (v := k) (fun x hx => by
    by_cases hc : Ld l x u
    · simp [hc.trans h]
    · simp [hc] at hx) (by omega) (by simp [hn]) (by simp [Ld.here])
  have key : ∀ (N : Nat) (w : Int), rk N l w + CompLaw.wh N (fun x => if Ld l x w then 1 else 0) = N := by
    intro N w
    induction N with
    | zero => rfl
    | succ N ih =>
      unfold rk CompLaw.wh at ih ⊢
      rw [List.range_succ, List.countP_append, List.countP_append, List.countP_singleton, List.countP_singleton]
      by_cases hc : Ld l (N : Int) w
      · simp [hc] at ih ⊢
        omega
      · simp [hc] at ih ⊢
        omega
  have a := key N u
  have b := key N (k : Int)
  omega
section
variable {N : Nat} {l : List E} {cm : Int → Int} {o : List Int}
/-- the order of the knots: all of them -/
theorem od_all (hm : ∀ v : Int, 0 ≤ v → v < N → Lst l v (cm v)) (hr : ∀ v : Int, 0 ≤ v → v < N → 0 ≤ cm v ∧ cm v < N) (hends : ∀ e ∈ l, 0 ≤ e.1 ∧ e.1 < N ∧ 0 ≤ e.2.1 ∧ e.2.1 < N) (h : Od (fun v => cm v = v) N (fun u v => ∃ e ∈ cl cm l, e.1 = u ∧ e.2.1 = v) o) : ∀ v : Int, 0 ≤ v → v < N → cm v = v → v ∈ o := by
  refine h.all (rk N l) fun u v huv => ?_
  obtain ⟨e, he, rfl, rfl, hne⟩ := cl_mem.1 huv
  obtain ⟨e0, e1, e2, e3⟩ := hends e he
  have a := hm _ e0 e1
  have b := hm _ e2 e3
  have ra := hr _ e0 e1
  have rb := hr _ e2 e3
  have hab : Ld l (cm e.1) (cm e.2.1) := a.2.1.trans ((Ld.edge he).trans b.1)
  have hcc : cm (cm e.1) = cm e.1 := (hm _ ra.1 ra.2).uniq ⟨.here, .here, fun x h1 h2 => a.2.2 x (a.1.trans h1) (h2.trans a.2.1)⟩
  exact ⟨⟨ra.1, ra.2, hcc⟩, rk_lt hab rb.1 rb.2 fun hc => hne (Int.le_antisymm (a.2.2 _ (a.1.trans hab) (hc.trans a.2.1)) (b.2.2 _ (b.1.trans hc) (hab.trans b.2.1)))⟩
/-- an edge leads on, or stays -/
theorem od_edge (hr : ∀ v : Int, 0 ≤ v → v < N → 0 ≤ cm v ∧ cm v < N) (hcc : ∀ v : Int, 0 ≤ v → v < N → cm (cm v) = cm v) (hends : ∀ e ∈ l, 0 ≤ e.1 ∧ e.1 < N ∧ 0 ≤ e.2.1 ∧ e.2.1 < N) (h : Od (fun v => cm v = v) N (fun u v => ∃ e ∈ cl cm l, e.1 = u ∧ e.2.1 = v) o) (hall : ∀ v : Int, 0 ≤ v → v < N → cm v = v → v ∈ o) {e : E} (he : e ∈ l) : o.idxOf (cm e.1) ≤ o.idxOf (cm e.2.1) := by
  obtain ⟨e0, e1, e2, e3⟩ := hends e he
  have rb := hr _ e2 e3
  by_cases hne : cm e.1 = cm e.2.1
  · rw [hne]; exact Nat.le_refl _
  · exact Nat.le_of_lt (h.ahead (cl_mem.2 ⟨e, he, rfl, rfl, hne⟩) (hall _ rb.1 rb.2 (hcc _ e2 e3)))
/-- who leads to whom comes ahead of it -/
theorem od_lead (hr : ∀ v : Int, 0 ≤ v → v < N → 0 ≤ cm v ∧ cm v < N) (hcc : ∀ v : Int, 0 ≤ v → v < N → cm (cm v) = cm v) (hends : ∀ e ∈ l, 0 ≤ e.1 ∧ e.1 < N ∧ 0 ≤ e.2.1 ∧ e.2.1 < N) (h : Od (fun v => cm v = v) N (fun u v => ∃ e ∈ cl cm l, e.1 = u ∧ e.2.1 = v) o) (hall : ∀ v : Int, 0 ≤ v → v < N → cm v = v → v ∈ o) {a b : Int} (hab : Ld l a b) : o.idxOf (cm a) ≤ o.idxOf (cm b) := by
  induction hab with
  | here => exact Nat.le_refl _
  | @step u e _ he hu ih =>
    have := od_edge hr hcc hends h hall he
    rw [hu] at this
    omega
end
end Go.Proofs.Ytjhnlkmdkjlkdaa.CompOrd
