/- Plain facts on knots (Tarjan): no Go in sight. -/
import Derived.Test.YtjhnlkmdkjlkdaaNetLaw
namespace Go.Proofs.Ytjhnlkmdkjlkdaa.CompLaw
open NetLaw
set_option linter.unusedSimpArgs false
set_option linter.unusedVariables false
/-- a walk leads from a to .. -/
inductive Ld (l : List E) (a : Int) : Int → Prop
  | here : Ld l a a
  | step {u : Int} {e : E} : Ld l a u → e ∈ l → e.1 = u → Ld l a e.2.1
theorem Ld.edge {l : List E} {e : E} (h : e ∈ l) : Ld l e.1 e.2.1 := .step .here h rfl
theorem Ld.trans {l : List E} {a b c : Int} (h1 : Ld l a b) (h2 : Ld l b c) : Ld l a c := by
  induction h2 with
  | here => exact h1
  | step _ he hu ih => exact .step ih he hu
/-- a closed set holds all that it leads to -/
theorem Ld.closed {l : List E} {P : Int → Prop} (hP : ∀ e ∈ l, P e.1 → P e.2.1) {a b : Int} (h : Ld l a b) (ha : P a) : P b := by
  induction h with
  | here => exact ha
  | step _ he hu ih => exact hP _ he (by rw [hu]; exact ih)
/-- k is the least of u's knot -/
def Lst (l : List E) (u k : Int) : Prop := Ld l u k ∧ Ld l k u ∧ ∀ x, Ld l u x → Ld l x u → k ≤ x
/-- index, low, least, the stack, the last index given -/
structure TS where
  ix : Int → Int
  lw : Int → Int
  le : Int → Int
  st : List Int
  nx : Int
def Done (s : TS) (u : Int) : Prop := s.ix u ≠ 0 ∧ u ∉ s.st
/-- what holds all along; G: the places whose visits are under way -/
structure TI (l : List E) (G : List Int) (s : TS) : Prop where
  rng : ∀ u, 0 ≤ s.ix u ∧ s.ix u ≤ s.nx
  vis : ∀ u ∈ s.st, s.ix u ≠ 0
  srt : s.st.Pairwise (fun a b => s.ix a < s.ix b)
  gst : ∀ g ∈ G, g ∈ s.st
  low : ∀ x ∈ s.st, ∃ g ∈ G, s.ix g ≤ s.ix x ∧ Ld l x g
  up : ∀ g ∈ G, ∀ x ∈ s.st, s.ix g ≤ s.ix x → Ld l g x
  blk : ∀ e ∈ l, s.ix e.1 ≠ 0 → e.1 ∉ G → s.ix e.2.1 ≠ 0
  don : ∀ e ∈ l, Done s e.1 → Done s e.2.1
  lst : ∀ u, Done s u → Lst l u (s.le u)
/-- what a visit of v leaves -/
structure VP (l : List E) (G : List Int) (v : Int) (s0 s : TS) : Prop where
  ti : TI l G s
  st : ∃ X, s.st = s0.st ++ X ∧ ∀ x ∈ X, ∀ e ∈ l, e.1 = x → e.2.1 ∈ s0.st → s.lw v ≤ s0.ix e.2.1
  old : ∀ u, s0.ix u ≠ 0 → s.ix u = s0.ix u ∧ s.lw u = s0.lw u
  new : ∀ u, s0.ix u = 0 → s.ix u ≠ 0 → s0.nx < s.ix u
  me : s.ix v ≠ 0
  lw : s0.nx < s.lw v ∨ ∃ y ∈ s0.st, s.lw v = s0.ix y ∧ Ld l v y
/-- within a visit of v; todo: its edges not yet looked at -/
structure LI (l : List E) (G : List Int) (v : Int) (s0 : TS) (todo : List E) (s : TS) : Prop where
  ti : TI l (v :: G) s
  t0 : TI l G s0
  white : s0.ix v = 0
  st : ∃ X, s.st = s0.st ++ v :: X ∧ ∀ x ∈ X, ∀ e ∈ l, e.1 = x → e.2.1 ∈ s0.st → s.lw v ≤ s0.ix e.2.1
  old : ∀ u, s0.ix u ≠ 0 → s.ix u = s0.ix u ∧ s.lw u = s0.lw u
  new : ∀ u, s0.ix u = 0 → s.ix u ≠ 0 → s0.nx < s.ix u
  lo : s.lw v = s.ix v ∨ ∃ y ∈ s0.st, s.lw v = s0.ix y ∧ Ld l v y
  pro : ∀ e ∈ l, e.1 = v → e ∈ todo ∨ (s.ix e.2.1 ≠ 0 ∧ (e.2.1 ∈ s0.st → s.lw v ≤ s0.ix e.2.1))
/-- one place set -/
def up1 (f : Int → Int) (v x : Int) : Int → Int := fun u => if u = v then x else f u
theorem up1_eq (f : Int → Int) (v x : Int) : up1 f v x v = x := by simp [up1]
theorem up1_ne (f : Int → Int) {v u : Int} (x : Int) (h : u ≠ v) : up1 f v x u = f u := by simp [up1, h]
def enter (v : Int) (s : TS) : TS := ⟨up1 s.ix v (s.nx + 1), up1 s.lw v (s.nx + 1), s.le, s.st ++ [v], s.nx + 1⟩
def lower (v x : Int) (s : TS) : TS := ⟨s.ix, up1 s.lw v (min (s.lw v) x), s.le, s.st, s.nx⟩
def pop (b : List Int) (X : List Int) (m : Int) (s : TS) : TS := ⟨s.ix, s.lw, fun u => if u ∈ X then m else s.le u, b, s.nx⟩
section
variable {l : List E} {G : List Int} {v : Int} {s0 s s1 : TS} {todo : List E}
theorem TI.lower (h : TI l G s) (v x : Int) : TI l G (lower v x s) := ⟨h.rng, h.vis, h.srt, h.gst, h.low, h.up, h.blk, h.don, h.lst⟩
theorem TI.not_st (h : TI l G s) (hv : s.ix v = 0) : v ∉ s.st := fun hm => h.vis v hm hv
theorem LI.start (h : TI l G s0) (hv : s0.ix v = 0) (hr : ∀ g ∈ G, Ld l g v) (hall : ∀ e ∈ l, e.1 = v → e ∈ todo) : LI l G v s0 todo (enter v s0) := by
  have hn : v ∉ s0.st := h.not_st hv
  have hne : ∀ u ∈ s0.st, u ≠ v := fun u hu e => hn (e ▸ hu)
  have hneG : ∀ u ∈ G, u ≠ v := fun u hu => hne u (h.gst u hu)
  have hx : ∀ u, u ≠ v → (enter v s0).ix u = s0.ix u := fun u hu => up1_ne _ _ hu
  have hxv : (enter v s0).ix v = s0.nx + 1 := up1_eq _ _ _
  have hnx := (h.rng v).2
  have hnx0 := (h.rng v).1
  have hm : ∀ u, u ∈ (enter v s0).st ↔ u ∈ s0.st ∨ u = v := fun u => by simp [enter]
  have hdone : ∀ u, Done (enter v s0) u ↔ Done s0 u := fun u => by
    by_cases e : u = v
    · subst e
      exact ⟨fun hd => absurd ((hm u).2 (.inr rfl)) hd.2, fun hd => absurd hv hd.1⟩
    · unfold Done
      rw [hx u e, hm u]
      simp [e]
  refine ⟨⟨fun u => ?_, fun u hu => ?_, ?_, fun g hg => ?_, fun x hxm => ?_, fun g hg x hxm hle => ?_, fun e he h1 h2 => ?_, fun e he hd => (hdone _).2 (h.don e he ((hdone _).1 hd)), fun u hd => h.lst u ((hdone _).1 hd)⟩, h, hv, ⟨[], rfl, fun x hx => by cases hx⟩, fun u hu => ?_, fun u h1 h2 => ?_, .inl ?_, fun e he hev => .inl (hall e he hev)⟩
  · have := h.rng u
    by_cases e : u = v
    · subst e; rw [hxv]; show 0 ≤ _ ∧ _ ≤ s0.nx + 1; omega
    · rw [hx u e]; show 0 ≤ _ ∧ _ ≤ s0.nx + 1; omega
  · rcases (hm u).1 hu with h1 | rfl
    · rw [hx u (hne u h1)]; exact h.vis u h1
    · rw [hxv]; omega
  · show (s0.st ++ [v]).Pairwise _
    rw [List.pairwise_append]
    refine ⟨List.Pairwise.imp_of_mem (fun {a b} ha hb hab => ?_) h.srt, List.pairwise_singleton _ _, fun a ha b hb => ?_⟩
    · rw [hx a (hne a ha), hx b (hne b hb)]; exact hab
    · rw [List.mem_singleton.1 hb, hx a (hne a ha), hxv]
      have := (h.rng a).2
      omega
  · rcases List.mem_cons.1 hg with rfl | h1
    · exact (hm g).2 (.inr rfl)
    · exact (hm g).2 (.inl (h.gst g h1))
  · rcases (hm x).1 hxm with h1 | rfl
    · obtain ⟨g, hg, h2, h3⟩ := h.low x h1
      exact ⟨g, List.mem_cons_of_mem _ hg, by rw [hx g (hneG g hg), hx x (hne x h1)]; exact h2, h3⟩
    · exact ⟨x, List.mem_cons_self .., Int.le_refl _, .here⟩
  · rcases (hm x).1 hxm with h1 | rfl
    · rcases List.mem_cons.1 hg with rfl | h2
      · rw [hxv, hx x (hne x h1)] at hle
        have := (h.rng x).2
        omega
      · rw [hx g (hneG g h2), hx x (hne x h1)] at hle
        exact h.up g h2 x h1 hle
    · rcases List.mem_cons.1 hg with rfl | h2
      · exact .here
      · exact hr g h2
  · have e1 : e.1 ≠ v := fun e' => h2 (by rw [e']; exact List.mem_cons_self ..)
    rw [hx _ e1] at h1
    have := h.blk e he h1 (fun hm => h2 (List.mem_cons_of_mem _ hm))
    by_cases e2 : e.2.1 = v
    · rw [e2, hxv]; omega
    · rw [hx _ e2]; exact this
  · have e : u ≠ v := fun e => hu (by rw [e]; exact hv)
    exact ⟨hx u e, up1_ne _ _ e⟩
  · by_cases e : u = v
    · subst e; rw [hxv]; omega
    · rw [hx u e] at h2; exact absurd h1 h2
  · show up1 s0.lw v (s0.nx + 1) v = up1 s0.ix v (s0.nx + 1) v
    rw [up1_eq, up1_eq]
theorem LI.ixv (h : LI l G v s0 todo s) : s0.nx < s.ix v ∧ v ∈ s.st ∧ s.ix v ≠ 0 := by
  obtain ⟨X, hX, _⟩ := h.st
  have hm : v ∈ s.st := by rw [hX]; simp
  have hv := h.ti.vis v hm
  exact ⟨h.new v h.white hv, hm, hv⟩
theorem LI.lo_le (h : LI l G v s0 todo s) : s.lw v ≤ s.ix v := by
  rcases h.lo with h1 | ⟨y, hy, h1, _⟩
  · omega
  · have := (h.t0.rng y).2
    have := h.ixv.1
    omega
/-- who stands above v on the stack was come to later -/
theorem LI.above (h : LI l G v s0 todo s) {X : List Int} (hX : s.st = s0.st ++ v :: X) {x : Int} (hx : x ∈ v :: X) : s.ix v ≤ s.ix x := by
  have hs := h.ti.srt
  rw [hX, List.pairwise_append] at hs
  rcases List.mem_cons.1 hx with rfl | h1
  · exact Int.le_refl _
  · have := (List.pairwise_cons.1 hs.2.1).1 x h1
    omega
/-- lowered by a number x: an index reached, or one above v -/
theorem LI.less {x : Int} {e : E} (h : LI l G v s0 (e :: todo) s) (hx : s.ix v ≤ x ∨ ∃ y ∈ s0.st, x = s0.ix y ∧ Ld l v y) (he : s.ix e.2.1 ≠ 0 ∧ (e.2.1 ∈ s0.st → x ≤ s0.ix e.2.1)) : LI l G v s0 todo (lower v x s) := by
  have hlv : (lower v x s).lw v = min (s.lw v) x := up1_eq _ _ _
  have hll := h.lo_le
  refine ⟨h.ti.lower v x, h.t0, h.white, ?_, fun u hu => ?_, h.new, ?_, fun e' he' hev => ?_⟩
  · obtain ⟨X, hX, h1⟩ := h.st
    refine ⟨X, hX, fun y hy e' he' h2 h3 => ?_⟩
    have := h1 y hy e' he' h2 h3
    rw [hlv]; omega
  · have e1 : u ≠ v := fun e1 => hu (by rw [e1]; exact h.white)
    obtain ⟨h1, h2⟩ := h.old u hu
    exact ⟨h1, by show up1 _ _ _ u = _; rw [up1_ne _ _ e1]; exact h2⟩
  · rw [hlv]
    show _ = s.ix v ∨ _
    rcases hx with h1 | ⟨y, hy, h1, h2⟩
    · have e1 : min (s.lw v) x = s.lw v := by omega
      rw [e1]; exact h.lo
    · by_cases hc : s.lw v ≤ x
      · have e1 : min (s.lw v) x = s.lw v := by omega
        rw [e1]; exact h.lo
      · have e1 : min (s.lw v) x = x := by omega
        rw [e1]; exact .inr ⟨y, hy, h1, h2⟩
  · rw [hlv]
    show _ ∨ (s.ix _ ≠ 0 ∧ _)
    rcases h.pro e' he' hev with h1 | ⟨h1, h2⟩
    · rcases List.mem_cons.1 h1 with rfl | h3
      · refine .inr ⟨he.1, fun h3 => ?_⟩
        have := he.2 h3
        omega
      · exact .inl h3
    · refine .inr ⟨h1, fun h3 => ?_⟩
      have := h2 h3
      omega
theorem LI.skip {e : E} (h : LI l G v s0 (e :: todo) s) (he : s.ix e.2.1 ≠ 0 ∧ e.2.1 ∉ s.st) : LI l G v s0 todo s := by
  refine ⟨h.ti, h.t0, h.white, h.st, h.old, h.new, h.lo, fun e' he' hev => ?_⟩
  rcases h.pro e' he' hev with h1 | h1
  · rcases List.mem_cons.1 h1 with rfl | h3
    · obtain ⟨X, hX, _⟩ := h.st
      exact .inr ⟨he.1, fun h3 => absurd (by rw [hX]; simp [h3]) he.2⟩
    · exact .inl h3
  · exact .inr h1
/-- an edge to a place on the stack -/
theorem LI.back {e : E} (h : LI l G v s0 (e :: todo) s) (hel : e ∈ l) (hev : e.1 = v) (he : e.2.1 ∈ s.st) : LI l G v s0 todo (lower v (s.ix e.2.1) s) := by
  have hne := h.ti.vis _ he
  obtain ⟨X, hX, _⟩ := h.st
  refine h.less ?_ ⟨hne, fun h3 => ?_⟩
  · have he' := he
    rw [hX, List.mem_append] at he'
    rcases he' with h1 | h1
    · have := (h.old _ (h.t0.vis _ h1)).1
      exact .inr ⟨e.2.1, h1, this, by rw [← hev]; exact .edge hel⟩
    · exact .inl (h.above hX h1)
  · rw [(h.old _ (h.t0.vis _ h3)).1]
    exact Int.le_refl _
/-- what a visit asks, from within a visit -/
theorem LI.ask {e : E} (h : LI l G v s0 (e :: todo) s) (hel : e ∈ l) (hev : e.1 = v) : ∀ g ∈ v :: G, Ld l g e.2.1 := fun g hg => by
  have hve : Ld l v e.2.1 := by rw [← hev]; exact .edge hel
  rcases List.mem_cons.1 hg with rfl | h1
  · exact hve
  · have hgs := h.t0.gst g h1
    have h2 := (h.t0.rng g).2
    have h3 := (h.old g (h.t0.vis g hgs)).1
    obtain ⟨h4, h5, _⟩ := h.ixv
    exact (h.ti.up g hg v h5 (by omega)).trans hve
/-- behind a visit of an edge's end -/
theorem LI.down {e : E} (h : LI l G v s0 (e :: todo) s) (hel : e ∈ l) (hev : e.1 = v) (hw : s.ix e.2.1 = 0) (h1 : VP l (v :: G) e.2.1 s s1) : LI l G v s0 todo (lower v (s1.lw e.2.1) s1) := by
  obtain ⟨X, hX, hXp⟩ := h.st
  obtain ⟨Y, hY, hYp⟩ := h1.st
  obtain ⟨g1, g2, g3⟩ := h.ixv
  obtain ⟨o1, o2⟩ := h1.old v g3
  have hve : Ld l v e.2.1 := by rw [← hev]; exact .edge hel
  have hold : ∀ u, s0.ix u ≠ 0 → s1.ix u = s0.ix u ∧ s1.lw u = s0.lw u := fun u hu => by
    obtain ⟨a1, a2⟩ := h.old u hu
    obtain ⟨b1, b2⟩ := h1.old u (by rw [a1]; exact hu)
    exact ⟨b1.trans a1, b2.trans a2⟩
  have hsn : s0.nx ≤ s.nx := by have := (h.ti.rng v).2; omega
  have hlx : s1.ix v ≤ s1.lw e.2.1 ∨ ∃ y ∈ s0.st, s1.lw e.2.1 = s0.ix y ∧ Ld l v y := by
    rcases h1.lw with h2 | ⟨y, hy, h2, h3⟩
    · have := (h.ti.rng v).2
      left; omega
    · have hy' := hy
      rw [hX, List.mem_append] at hy'
      rcases hy' with h4 | h4
      · exact .inr ⟨y, h4, by rw [h2, (h.old y (h.t0.vis y h4)).1], hve.trans h3⟩
      · have := h.above hX h4
        left; omega
  have mid : LI l G v s0 (e :: todo) { s1 with lw := up1 s1.lw v (min (s1.lw v) (s1.lw e.2.1)) } := by
    have hlv : up1 s1.lw v (min (s1.lw v) (s1.lw e.2.1)) v = min (s1.lw v) (s1.lw e.2.1) := up1_eq _ _ _
    have hll := h.lo_le
    refine ⟨h1.ti.lower v (s1.lw e.2.1), h.t0, h.white, ⟨X ++ Y, by show s1.st = _; rw [hY, hX]; simp, fun x hx e' he' h2 h3 => ?_⟩, fun u hu => ?_, fun u h2 h3 => ?_, ?_, fun e' he' hev' => ?_⟩
    · show up1 _ _ _ v ≤ _
      rw [hlv]
      rcases List.mem_append.1 hx with h4 | h4
      · have := hXp x h4 e' he' h2 h3
        omega
      · have := hYp x h4 e' he' h2 (by rw [hX]; simp [h3])
        rw [(h.old _ (h.t0.vis _ h3)).1] at this
        omega
    · have e1 : u ≠ v := fun e1 => hu (by rw [e1]; exact h.white)
      obtain ⟨a1, a2⟩ := hold u hu
      exact ⟨a1, by show up1 _ _ _ u = _; rw [up1_ne _ _ e1]; exact a2⟩
    · by_cases hz : s.ix u = 0
      · have h4 : s.nx < s1.ix u := h1.new u hz h3
        show s0.nx < s1.ix u
        omega
      · have := h.new u h2 hz
        have := (h1.old u hz).1
        show s0.nx < s1.ix u
        omega
    · show up1 _ _ _ v = s1.ix v ∨ (∃ y ∈ s0.st, up1 _ _ _ v = _ ∧ _)
      rw [hlv]
      rcases hlx with h2 | ⟨y, hy, h2, h3⟩
      · have e1 : min (s1.lw v) (s1.lw e.2.1) = s.lw v := by omega
        rw [e1, o1]; exact h.lo
      · by_cases hc : s1.lw v ≤ s1.lw e.2.1
        · have e1 : min (s1.lw v) (s1.lw e.2.1) = s.lw v := by omega
          rw [e1, o1]; exact h.lo
        · have e1 : min (s1.lw v) (s1.lw e.2.1) = s1.lw e.2.1 := by omega
          rw [e1]; exact .inr ⟨y, hy, h2, h3⟩
    · show _ ∨ (s1.ix _ ≠ 0 ∧ (_ → up1 _ _ _ v ≤ _))
      rw [hlv]
      rcases h.pro e' he' hev' with h2 | ⟨h2, h3⟩
      · exact .inl h2
      · refine .inr ⟨by rw [(h1.old _ h2).1]; exact h2, fun h4 => ?_⟩
        have := h3 h4
        omega
  refine ⟨mid.ti, mid.t0, mid.white, mid.st, mid.old, mid.new, mid.lo, fun e' he' hev' => ?_⟩
  rcases mid.pro e' he' hev' with h2 | h2
  · rcases List.mem_cons.1 h2 with rfl | h3
    · exact .inr ⟨h1.me, fun h4 => absurd hw (h.ti.vis _ (by rw [hX]; simp [h4]))⟩
    · exact .inl h3
  · exact .inr h2
/-- the visit ends: v leads to a place below it -/
theorem LI.stay (h : LI l G v s0 [] s) (hlt : s.lw v < s.ix v) : VP l G v s0 s := by
  obtain ⟨X, hX, hXp⟩ := h.st
  obtain ⟨g1, g2, g3⟩ := h.ixv
  have hlo : ∃ y ∈ s0.st, s.lw v = s0.ix y ∧ Ld l v y := by
    rcases h.lo with h1 | h1
    · omega
    · exact h1
  have hG : ∀ g ∈ G, g ∈ s.st := fun g hg => h.ti.gst g (List.mem_cons_of_mem _ hg)
  have hvg : ∃ g ∈ G, s.ix g ≤ s.ix v ∧ Ld l v g := by
    obtain ⟨y, hy, h1, h2⟩ := hlo
    have hys : y ∈ s.st := by rw [hX]; simp [hy]
    have hyi := (h.old y (h.t0.vis y hy)).1
    have hyn := (h.t0.rng y).2
    obtain ⟨g, hg, h3, h4⟩ := h.ti.low y hys
    rcases List.mem_cons.1 hg with rfl | h5
    · omega
    · exact ⟨g, h5, by omega, h2.trans h4⟩
  refine ⟨⟨h.ti.rng, h.ti.vis, h.ti.srt, hG, fun x hx => ?_, fun g hg => h.ti.up g (List.mem_cons_of_mem _ hg), fun e he h1 h2 => ?_, h.ti.don, h.ti.lst⟩, ⟨v :: X, hX, fun x hx e he h1 h2 => ?_⟩, h.old, h.new, g3, .inr hlo⟩
  · obtain ⟨g, hg, h3, h4⟩ := h.ti.low x hx
    rcases List.mem_cons.1 hg with rfl | h5
    · obtain ⟨g', h6, h7, h8⟩ := hvg
      exact ⟨g', h6, by omega, h4.trans h8⟩
    · exact ⟨g, h5, h3, h4⟩
  · by_cases e1 : e.1 = v
    · rcases h.pro e he e1 with h3 | h3
      · cases h3
      · exact h3.1
    · exact h.ti.blk e he h1 (fun hm => by
        rcases List.mem_cons.1 hm with h3 | h3
        · exact e1 h3
        · exact h2 h3)
  · rcases List.mem_cons.1 hx with rfl | h3
    · rcases h.pro e he h1 with h4 | h4
      · cases h4
      · exact h4.2 h2
    · exact hXp x h3 e he h1 h2
/-- the visit ends: v and all above it are a knot -/
theorem LI.knot (h : LI l G v s0 [] s) (hge : ¬ s.lw v < s.ix v) {X : List Int} (hX : s.st = s0.st ++ v :: X) {m : Int} (hm : m ∈ v :: X) (hmin : ∀ x ∈ v :: X, m ≤ x) : VP l G v s0 (pop s0.st (v :: X) m s) := by
  obtain ⟨X', hX', hXp⟩ := h.st
  obtain rfl : X' = X := by
    have := hX'.symm.trans hX
    have := List.append_cancel_left this
    injection this
  obtain ⟨g1, g2, g3⟩ := h.ixv
  have hle := h.lo_le
  have hlv : s.lw v = s.ix v := by omega
  have hsub : ∀ x ∈ s0.st, x ∈ s.st := fun x hx => by rw [hX]; simp [hx]
  have hsubX : ∀ x ∈ v :: X', x ∈ s.st := fun x hx => by rw [hX]; exact List.mem_append_right _ hx
  have hnd : ∀ x ∈ v :: X', x ∉ s0.st := fun x hx hx0 => by
    have h1 := h.above hX hx
    have h2 := (h.old x (h.t0.vis x hx0)).1
    have h3 := (h.t0.rng x).2
    omega
  have hpd : ∀ u, Done (pop s0.st (v :: X') m s) u ↔ Done s u ∨ u ∈ v :: X' := fun u => by
    show (s.ix u ≠ 0 ∧ u ∉ s0.st) ↔ _
    constructor
    · intro ⟨h1, h2⟩
      by_cases hu : u ∈ v :: X'
      · exact .inr hu
      · exact .inl ⟨h1, fun h3 => by
          rw [hX, List.mem_append] at h3
          rcases h3 with h3 | h3
          · exact h2 h3
          · exact hu h3⟩
    · rintro (h1 | h1)
      · exact ⟨h1.1, fun h2 => h1.2 (hsub u h2)⟩
      · exact ⟨h.ti.vis u (hsubX u h1), hnd u h1⟩
  have hno : ∀ e ∈ l, e.1 ∈ v :: X' → s.ix e.2.1 ≠ 0 ∧ e.2.1 ∉ s0.st := fun e he h1 => by
    have hG : e.1 ≠ v → s.ix e.2.1 ≠ 0 := fun hne => h.ti.blk e he (h.ti.vis _ (hsubX _ h1)) (fun hm => by
      rcases List.mem_cons.1 hm with h3 | h3
      · exact hne h3
      · exact hnd _ h1 (h.t0.gst _ h3))
    have hlow : e.2.1 ∈ s0.st → s.lw v ≤ s0.ix e.2.1 := fun h2 => by
      rcases List.mem_cons.1 h1 with h3 | h3
      · rcases h.pro e he h3 with h4 | h4
        · cases h4
        · exact h4.2 h2
      · exact hXp _ h3 e he rfl h2
    refine ⟨?_, fun h2 => ?_⟩
    · by_cases e1 : e.1 = v
      · rcases h.pro e he e1 with h3 | h3
        · cases h3
        · exact h3.1
      · exact hG e1
    · have := hlow h2
      have := (h.t0.rng e.2.1).2
      omega
  have hdon : ∀ e ∈ l, Done (pop s0.st (v :: X') m s) e.1 → Done (pop s0.st (v :: X') m s) e.2.1 := fun e he hd => by
    rcases (hpd _).1 hd with h1 | h1
    · exact (hpd _).2 (.inl (h.ti.don e he h1))
    · obtain ⟨h2, h3⟩ := hno e he h1
      exact ⟨h2, h3⟩
  have hvx : ∀ x ∈ v :: X', Ld l v x := fun x hx => h.ti.up v (List.mem_cons_self ..) x (hsubX x hx) (h.above hX hx)
  have hxv : ∀ x ∈ v :: X', Ld l x v := fun x hx => by
    obtain ⟨g, hg, _, h2⟩ := h.ti.low x (hsubX x hx)
    rcases List.mem_cons.1 hg with rfl | h3
    · exact h2
    · exfalso
      have h4 : Done (pop s0.st (v :: X') m s) g := Ld.closed (P := Done (pop s0.st (v :: X') m s)) hdon h2 ((hpd x).2 (.inr hx))
      exact h4.2 (h.t0.gst g h3)
  have hcl : ∀ y, Ld l v y → Ld l y v → y ∈ v :: X' := fun y h1 h2 => by
    have h3 : Done (pop s0.st (v :: X') m s) y := Ld.closed (P := Done (pop s0.st (v :: X') m s)) hdon h1 ((hpd v).2 (.inr (List.mem_cons_self ..)))
    rcases (hpd y).1 h3 with h4 | h4
    · have h5 : Done s v := Ld.closed (P := Done s) h.ti.don h2 h4
      exact absurd g2 h5.2
    · exact h4
  refine ⟨⟨h.ti.rng, fun u hu => h.ti.vis u (hsub u hu), ?_, fun g hg => h.t0.gst g hg, fun x hx => ?_, fun g hg x hx hle => h.ti.up g (List.mem_cons_of_mem _ hg) x (hsub x hx) hle, fun e he h1 h2 => ?_, hdon, fun u hd => ?_⟩, ⟨[], by simp [pop], fun x hx => by cases hx⟩, h.old, h.new, g3, .inl ?_⟩
  · have := h.ti.srt
    rw [hX, List.pairwise_append] at this
    exact this.1
  · obtain ⟨g, hg, h2, h3⟩ := h.ti.low x (hsub x hx)
    rcases List.mem_cons.1 hg with rfl | h4
    · have h5 := (h.old x (h.t0.vis x hx)).1
      have h6 := (h.t0.rng x).2
      omega
    · exact ⟨g, h4, h2, h3⟩
  · by_cases e1 : e.1 = v
    · exact (hno e he (by rw [e1]; exact List.mem_cons_self ..)).1
    · exact h.ti.blk e he h1 (fun hm => by
        rcases List.mem_cons.1 hm with h3 | h3
        · exact e1 h3
        · exact h2 h3)
  · rcases (hpd u).1 hd with h1 | h1
    · have hu : u ∉ v :: X' := fun h2 => h1.2 (hsubX u h2)
      show Lst l u (if u ∈ v :: X' then m else s.le u)
      rw [if_neg hu]
      exact h.ti.lst u h1
    · show Lst l u (if u ∈ v :: X' then m else s.le u)
      rw [if_pos h1]
      exact ⟨(hxv u h1).trans (hvx m hm), (hxv m hm).trans (hvx u h1), fun x h2 h3 => hmin x (hcl x ((hvx u h1).trans h2) (h3.trans (hxv u h1)))⟩
  · show s0.nx < s.lw v
    omega
/-- all at rest: nothing on the stack -/
theorem TI.rest (h : TI l [] s) : s.st = [] := by
  cases hs : s.st with
  | nil => rfl
  | cons x r =>
    obtain ⟨g, hg, _⟩ := h.low x (by rw [hs]; exact List.mem_cons_self ..)
    cases hg
theorem TI.done (h : TI l [] s) {u : Int} (hu : s.ix u ≠ 0) : Lst l u (s.le u) := h.lst u ⟨hu, by rw [h.rest]; simp⟩
theorem TI.zero (l : List E) (le : Int → Int) (lw : Int → Int) : TI l [] ⟨fun _ => 0, lw, le, [], 0⟩ :=
  ⟨fun u => ⟨Int.le_refl _, Int.le_refl _⟩, fun u hu => (by cases hu), List.Pairwise.nil, fun g hg => (by cases hg), fun x hx => (by cases hx), fun g hg => (by cases hg), fun e he h => absurd rfl h, fun e he h => absurd rfl h.1, fun u h => absurd rfl h.1⟩
/-- how many are not yet come to -/
def wh (n : Nat) (f : Int → Int) : Nat := (List.range n).countP fun k : Nat => decide (f (k : Int) = 0)
theorem wh_le {n : Nat} {f f' : Int → Int} (h : ∀ u, f u ≠ 0 → f' u ≠ 0) : wh n f' ≤ wh n f :=
  List.countP_mono_left fun k _ hk => by
    simp only [decide_eq_true_eq] at hk ⊢
    exact Classical.byContradiction fun hc => h _ hc hk
theorem wh_lt {n : Nat} {f f' : Int → Int} (h : ∀ u, f u ≠ 0 → f' u ≠ 0) {v : Nat} (hv : v < n) (h0 : f v = 0) (h1 : f' v ≠ 0) : wh n f' < wh n f := by
  induction n with
  | zero => omega
  | succ n ih =>
    unfold wh
    rw [List.range_succ, List.countP_append, List.countP_append, List.countP_singleton, List.countP_singleton]
    by_cases e : v = n
    · subst e
      have h2 := wh_le (n := v) h
      unfold wh at h2
      rw [if_neg (by simpa using h1), if_pos (by simpa using h0)]
      omega
    · have h2 := ih (by omega)
      unfold wh at h2
      have h3 : (if decide (f' (n : Int) = 0) = true then 1 else 0) ≤ (if decide (f (n : Int) = 0) = true then 1 else 0) := by
        by_cases h4 : f' (n : Int) = 0
        · have h5 : f (n : Int) = 0 := Classical.byContradiction fun hc => h _ hc h4
          simp [h4, h5]
        · simp [h4]
      omega
theorem VP.wh (h : VP l G v s0 s) (n : Nat) : CompLaw.wh n s.ix ≤ CompLaw.wh n s0.ix := wh_le fun u hu => by rw [(h.old u hu).1]; exact hu
theorem LI.wh (h : LI l G v s0 todo s) {n : Nat} (v0 : 0 ≤ v) (v1 : v < n) : CompLaw.wh n s.ix < CompLaw.wh n s0.ix := by
  obtain ⟨k, rfl⟩ := Int.eq_ofNat_of_zero_le v0
  exact wh_lt (fun u hu => by rw [(h.old u hu).1]; exact hu) (v := k) (by omega) h.white h.ixv.2.2
/-- the least of a knot is one -/
theorem Lst.uniq {u k k' : Int} (h : Lst l u k) (h' : Lst l u k') : k = k' :=
  Int.le_antisymm (h.2.2 k' h'.1 h'.2.1) (h'.2.2 k h.1 h.2.1)
theorem Lst.same {a b k k' : Int} (h : Lst l a k) (h' : Lst l b k') : k = k' ↔ Ld l a b ∧ Ld l b a := by
  constructor
  · rintro rfl
    exact ⟨h.1.trans h'.2.1, h'.1.trans h.2.1⟩
  · intro ⟨h1, h2⟩
    exact Int.le_antisymm (h.2.2 k' (h1.trans h'.1) (h'.2.1.trans h2)) (h'.2.2 k (h2.trans h.1) (h.2.1.trans h1))
/-- turned round -/
theorem Ld.turn {a b : Int} (h : Ld l a b) : Ld (l.map fun e => (e.2.1, e.1, e.2.2)) b a := by
  induction h with
  | here => exact .here
  | @step u e _ he hu ih =>
    have : Ld (l.map fun e => (e.2.1, e.1, e.2.2)) e.2.1 e.1 := Ld.edge (e := (e.2.1, e.1, e.2.2)) (List.mem_map.2 ⟨e, he, rfl⟩)
    rw [hu] at this
    exact this.trans ih
theorem Lst.turn {u k : Int} (h : Lst l u k) : Lst (l.map fun e => (e.2.1, e.1, e.2.2)) u k := by
  have e2 : ((l.map fun e => (e.2.1, e.1, e.2.2)).map fun e : E => (e.2.1, e.1, e.2.2)) = l := by
    rw [List.map_map]
    exact (List.map_congr_left (fun e _ => rfl)).trans (List.map_id _)
  refine ⟨h.2.1.turn, h.1.turn, fun x h1 h2 => ?_⟩
  have a1 := h1.turn
  have a2 := h2.turn
  rw [e2] at a1 a2
  exact h.2.2 x a2 a1
end
end Go.Proofs.Ytjhnlkmdkjlkdaa.CompLaw
