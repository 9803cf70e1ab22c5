/- The walks of flow.look, flow.Max and flow.Cut. -/
import Derived.Test.YtjhnlkmdkjlkdaaVFlowFull
import Derived.Test.YtjhnlkmdkjlkdaaVDijkWalks
import Derived.BigQuiet
namespace Go.Proofs.Ytjhnlkmdkjlkdaa.Flow
open Go.RowKit Go.Proofs.Ytjhnlkmdkjlkdaa NetLaw FlowLaw FlowBfs Go.Proofs.Ytjhnlkmdkjlkdaa.Net Go.Proofs.Ytjhnlkmdkjlkdaa.Std Go.Proofs.Ytjhnlkmdkjlkdaa.Queue
set_option linter.unusedSimpArgs false
set_option linter.unusedVariables false
theorem pos_good {N : Int} {l : List E} (hg : NetLaw.Good N l) (hc : ∀ e ∈ l, 1 ≤ e.2.2) : Dijk.pos N l = 0 := by
  have h0 : Dijk.posE l = 0 := by
    clear hg
    induction l with
    | nil => rfl
    | cons e r ih =>
      have := hc e (by simp)
      rw [Dijk.posE, if_neg (by omega)]
      exact ih fun x hx => hc x (by simp [hx])
  rw [Dijk.pos, if_neg (by simpa using chk_zero.2 hg)]; exact h0
theorem lookE_zero {N : Int} {ps : List Int} : Dijk.lookE N ps = 0 ↔ ∀ v ∈ ps, 0 ≤ v ∧ v < N := by
  induction ps with
  | nil => simp [Dijk.lookE]
  | cons x r ih =>
    unfold Dijk.lookE
    by_cases h : x < 0 ∨ N ≤ x
    · rw [if_pos h]
      constructor
      · intro h1; omega
      · intro h1; have := h1 x (List.mem_cons_self ..); omega
    · rw [if_neg h, ih]
      constructor
      · intro h1 y hy
        rcases List.mem_cons.1 hy with rfl | hy
        · omega
        · exact h1 y hy
      · intro h1 y hy; exact h1 y (List.mem_cons_of_mem _ hy)
theorem look_good {N : Int} {l : List E} {ps : List Int} (hg : NetLaw.Good N l) (hc : ∀ e ∈ l, 1 ≤ e.2.2) (hp : ∀ v ∈ ps, 0 ≤ v ∧ v < N) : Dijk.look N l ps = 0 := by
  have h1 := pos_good hg hc
  rw [Dijk.look, if_neg (by simpa using h1)]; exact lookE_zero.2 hp
/-- the fault that is told -/
def ferr (N : Int) (l : List E) (s t : Int) : Int := if Dijk.look N l [s, t] ≠ 0 then Dijk.look N l [s, t] else if s = t then 1 else 0
theorem ferr_zero {N s t : Int} {l : List E} : ferr N l s t = 0 ↔ NetLaw.Good N l ∧ (∀ e ∈ l, 1 ≤ e.2.2) ∧ (0 ≤ s ∧ s < N) ∧ (0 ≤ t ∧ t < N) ∧ s ≠ t := by
  have hlk : Dijk.look N l [s, t] = 0 ↔ NetLaw.Good N l ∧ (∀ e ∈ l, 1 ≤ e.2.2) ∧ (0 ≤ s ∧ s < N) ∧ (0 ≤ t ∧ t < N) := by
    constructor
    · intro h
      have h0 := h
      unfold Dijk.look at h
      split at h
      · rename_i h1; exact absurd h h1
      · rename_i h1
        have hs : Dijk.look N l [s] = 0 := by
          unfold Dijk.look
          rw [if_neg h1]
          unfold Dijk.lookE at h ⊢
          split at h
          · cases h
          · rename_i h2; rw [if_neg h2]; rfl
        obtain ⟨a, b, c, d⟩ := Dijk.look_zero hs
        unfold Dijk.lookE Dijk.lookE at h
        split at h
        · cases h
        · split at h
          · cases h
          · rename_i h3; exact ⟨a, b, ⟨c, d⟩, by omega⟩
    · rintro ⟨a, b, c, d⟩
      exact look_good a b (by intro y hy; simp at hy; rcases hy with rfl | rfl <;> omega)
  unfold ferr
  by_cases h : Dijk.look N l [s, t] = 0
  · rw [if_neg (fun hn => hn h)]
    obtain ⟨a, b, c, d⟩ := hlk.1 h
    by_cases hst : s = t
    · rw [if_pos hst]; exact ⟨fun h => (by cases h), fun h => absurd hst h.2.2.2.2⟩
    · rw [if_neg hst]; exact ⟨fun _ => ⟨a, b, c, d, hst⟩, fun _ => rfl⟩
  · rw [if_pos h]
    exact ⟨fun h' => absurd h' h, fun h' => absurd (hlk.2 ⟨h'.1, h'.2.1, h'.2.2.1, h'.2.2.2.1⟩) h⟩

set_option maxRecDepth 100000 in
set_option maxHeartbeats 2000000 in
theorem flook_any (N s t : Int) (A : Option Addr) (c : Nat) (l : List E) (w : World) (hl : Sl w w.heap.size 3 ce A l) (hlen : l.length ≤ 9223372036854775807) :
    Calls Try.prog 65 #[.agg #[.int .i64 N, .slice A l.length c], .int .i64 s, .int .i64 t] w fun e w' => e = .returned (.int .i64 (ferr N l s t)) ∧ Below w.heap.size w w' := by
  have hw0 : Below w.heap.size w ((w.alloc (.cells #[.int .i64 N, .slice A l.length c] 24)).alloc (.cells #[.int .i64 s, .int .i64 t] 3)) := ((Below.refl _ _).alloc (Nat.le_refl _) _).alloc (by simp) _
  have key := Dijk.look_any N A c l _ 2 2 [s, t] _ ((hl.keep hw0 (Nat.le_refl _)).more hw0.size) (sl_new' (cell := ci) (by decide) (w.alloc (.cells #[.int .i64 N, .slice A l.length c] 24)) #[.int .i64 s, .int .i64 t] 3 [s, t] (by simp : _ = w.heap.size + 1) rfl) rfl hlen (by decide)
  have hfe : ferr N l s t = if Dijk.look N l [s, t] ≠ 0 then Dijk.look N l [s, t] else if s = t then 1 else 0 := rfl
  obtain ⟨x, hx⟩ : ∃ x, Dijk.look N l [s, t] = x := ⟨_, rfl⟩
  rw [hx] at key hfe
  have KEY := Lib.hid key
  have HFE := Lib.hid hfe
  clear key hl hx hfe
  by_cases h0 : x = 0
  · subst h0
    by_cases hst : s = t
    · have d1 : (s == t) = true := by rw [beq_iff_eq]; exact hst
      have hv : ferr N l s t = 1 := by rw [HFE.out, if_neg (by simp), if_pos hst]
      have HV := Lib.hid hv
      clear hst hv HFE
      go_enter Try.func65, Try.ntmps65
      go_wp2_with fail
      refine KEY.out.mono ?_
      rintro e w1 ⟨rfl, hb1⟩
      have H1 := hw0.trans (hb1.mono hw0.size)
      clear hb1 KEY
      go_wp2
      go_ret
      exact ⟨by rw [HV.out]; rfl, H1⟩
    · have d1 : (s == t) = false := by rw [beq_eq_false_iff_ne]; exact hst
      have hv : ferr N l s t = 0 := by rw [HFE.out, if_neg (by simp), if_neg hst]
      have HV := Lib.hid hv
      clear hst hv HFE
      go_enter Try.func65, Try.ntmps65
      go_wp2_with fail
      refine KEY.out.mono ?_
      rintro e w1 ⟨rfl, hb1⟩
      have H1 := hw0.trans (hb1.mono hw0.size)
      clear hb1 KEY
      go_wp2
      go_ret
      exact ⟨by rw [HV.out]; rfl, H1⟩
  · have d1 : (x != 0) = true := by rw [bne_iff_ne]; exact h0
    have hv : ferr N l s t = x := by rw [HFE.out, if_pos h0]
    have HV := Lib.hid hv
    clear h0 hv HFE
    go_enter Try.func65, Try.ntmps65
    go_wp2_with fail
    refine KEY.out.mono ?_
    rintro e w1 ⟨rfl, hb1⟩
    have H1 := hw0.trans (hb1.mono hw0.size)
    clear hb1 KEY
    go_wp2
    go_ret
    exact ⟨by rw [HV.out]; rfl, H1⟩

def MaxSays (N s t : Int) (l : List E) (w : World) (e : Ending) (w' : World) : Prop :=
  (ferr N l s t ≠ 0 → e = .returned (.tuple #[.int .i64 0, .slice none 0 0, .int .i64 (ferr N l s t)])) ∧
  (ferr N l s t = 0 → ∃ v Sf F, e = .returned (.tuple #[.int .i64 v, .slice (some ⟨Sf, 0, none⟩) l.length l.length, .int .i64 0]) ∧ Own w' w.heap.size 3 1 ci (.slice (some ⟨Sf, 0, none⟩) l.length l.length) F ∧ Hid (Mx l s t v ∧ Fw l s t F v)) ∧ Below w.heap.size w w'

set_option maxRecDepth 100000 in
set_option maxHeartbeats 4000000 in
theorem max_any (N s t : Int) (A : Option Addr) (c : Nat) (l : List E) (w : World) (hl : Sl w w.heap.size 3 ce A l) (hlen : l.length ≤ 9223372036854775807) :
    Calls Try.prog 30 #[.agg #[.int .i64 N, .slice A l.length c], .int .i64 s, .int .i64 t] w fun e w' => MaxSays N s t l w e w' := by
  have hw0 : Below w.heap.size w (w.alloc (.cells #[.int .i64 N, .slice A l.length c] 24)) := (Below.refl _ _).alloc (Nat.le_refl _) _
  have key := flook_any N s t A c l _ ((hl.keep hw0 (Nat.le_refl _)).more hw0.size) hlen
  have hbx := heap_alloc_new w (.cells #[.int .i64 N, .slice A l.length c] 24)
  have HBX := Lib.hid hbx
  have HSL := Lib.hid hl
  by_cases h0 : ferr N l s t = 0
  · obtain ⟨hg, hc, ⟨s0, s1⟩, ⟨t0, t1⟩, hst⟩ := ferr_zero.1 h0
    rw [h0] at key
    obtain ⟨n, rfl⟩ := Int.eq_ofNat_of_zero_le (show 0 ≤ N by omega)
    obtain ⟨s, rfl⟩ := Int.eq_ofNat_of_zero_le s0
    obtain ⟨t, rfl⟩ := Int.eq_ofNat_of_zero_le t0
    have kf := fun W h => full_any n s t A c l W h hg hc (by omega) (by omega) (by omega)
    have KEY := Lib.hid key
    have KF := Lib.hid kf
    have HE := Lib.hid h0
    clear key kf h0 hg hc s0 s1 t0 t1 hst hl hbx
    go_enter Try.func30, Try.ntmps30
    go_wp2_with fail
    refine KEY.out.mono ?_
    rintro e w1 ⟨rfl, hb1⟩
    have H1 := hw0.trans (hb1.mono hw0.size)
    have hb := blk_below HBX.out hb1 (by simp)
    have q0 := blk_cell hb 0
    have q1 := blk_cell hb 1
    simp only [List.getElem?_toArray, List.getElem?_cons_zero, List.getElem?_cons_succ] at q0 q1
    have z1 := lt_of_block hb
    clear hb hb1 KEY
    go_wp2_with fail
    refine (KF.out _ ((HSL.out.keep H1 (Nat.le_refl _)).more H1.size)).mono ?_
    rintro e w2 ⟨v, Sf, Sb, F, B, od, rfl, ownF, ownB, HX, hb2⟩
    have H2 := H1.trans (hb2.mono H1.size)
    have OWF := Lib.hid (ownF.mono H1.size)
    have HMX := Lib.hid (And.intro (HX.out.2.1.mx HX.out.1 HX.out.2.2).1 HX.out.1)
    clear ownF ownB hb2 H1 q0 q1 KF
    go_wp2
    go_ret3
    exact ⟨fun h => absurd HE.out h, fun _ => ⟨v, Sf, F, rfl, OWF.out, HMX⟩, H2⟩
  · have KEY := Lib.hid key
    have HE := Lib.hid h0
    have hne : (ferr N l s t != 0) = true := by rw [bne_iff_ne]; exact h0
    have hms : ∀ e w', e = .returned (.tuple #[.int .i64 0, .slice none 0 0, .int .i64 (ferr N l s t)]) → Below w.heap.size w w' → MaxSays N s t l w e w' := fun e w' h1 h2 => ⟨fun _ => h1, fun h => absurd h h0, h2⟩
    have HMS := Lib.hid hms
    generalize ferr N l s t = x at *
    clear key h0 hl hbx hms
    go_enter Try.func30, Try.ntmps30
    go_wp2_with fail
    refine KEY.out.mono ?_
    rintro e w1 ⟨rfl, hb1⟩
    have H1 := hw0.trans (hb1.mono hw0.size)
    clear hb1 KEY
    go_wp2
    go_ret3
    exact HMS.out _ _ rfl H1
end Go.Proofs.Ytjhnlkmdkjlkdaa.Flow
