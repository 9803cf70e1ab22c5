/- heur.Marks and heur.Of where the arguments are not right. -/
import Derived.Test.YtdpjbjgecmnmnaaHeurOf
namespace Go.Proofs.Ytdpjbjgecmnmnaa.Heur
open Go.RowKit Go.Proofs.Ytdpjbjgecmnmnaa NetLaw BellLaw DijkLaw HeurLaw Go.Proofs.Ytdpjbjgecmnmnaa.Net Go.Proofs.Ytdpjbjgecmnmnaa.Dijk Go.Proofs.Ytdpjbjgecmnmnaa.Std
set_option linter.unusedSimpArgs false
set_option linter.unusedVariables false
/-- right landmarks -/
def OkM (N : Int) (l : List E) (ms : List Int) : Prop := Dijk.pos N l = 0 ∧ ms.length ≤ 4 ∧ Dijk.lookE N ms = 0
theorem okM_iff {N : Int} {l : List E} {ms : List Int} : OkM N l ms ↔ (NetLaw.Good N l ∧ ∀ e ∈ l, 1 ≤ e.2.2) ∧ ms.length ≤ 4 ∧ ∀ v ∈ ms, 0 ≤ v ∧ v < N := by
  unfold OkM
  rw [lookE_zero]
  constructor
  · rintro ⟨a, b⟩; exact ⟨Dijk.pos_zero a, b⟩
  · rintro ⟨⟨a, b⟩, c⟩; exact ⟨pos_good a b, c⟩
/-- an error and nothing else -/
def NoTab (w : World) (e : Ending) (w' : World) : Prop := ∃ x : Int, x ≠ 0 ∧ e = .returned (.tuple #[.agg #[.slice none 0 0, .slice none 0 0], .int .i64 x]) ∧ Below w.heap.size w w'

set_option maxRecDepth 100000 in
set_option maxHeartbeats 4000000 in
theorem marks_no (N : Int) (A : Option Addr) (c : Nat) (l : List E) (Am : Option Addr) (cm : Nat) (ms : List Int) (w : World) (hl : Sl w w.heap.size 3 ce A l) (hm : Sl w w.heap.size 1 ci Am ms) (hlen : l.length ≤ 9223372036854775807) (hlm : ms.length ≤ 9223372036854775807) (hno : ¬ OkM N l ms) :
    Calls Try.prog 51 #[.agg #[.int .i64 N, .slice A l.length c], .slice Am ms.length cm] w fun e w' => NoTab w e w' := by
  have hw0 : Below w.heap.size w ((w.alloc (.cells #[.int .i64 N, .slice A l.length c] 24)).alloc (.cells #[.slice none 0 0, .slice none 0 0] 75)) := ((Below.refl _ _).alloc (Nat.le_refl _) _).alloc (by simp) _
  have hz0 : w.heap.size ≤ ((w.alloc (.cells #[.int .i64 N, .slice A l.length c] 24)).alloc (.cells #[.slice none 0 0, .slice none 0 0] 75)).heap.size := by simp; omega
  have box0 := blk_alloc (heap_alloc_new w (.cells #[.int .i64 N, .slice A l.length c] 24)) (.cells #[.slice none 0 0, .slice none 0 0] 75)
  have res0 := heap_alloc_new (w.alloc (.cells #[.int .i64 N, .slice A l.length c] 24)) (.cells #[.slice none 0 0, .slice none 0 0] 75)
  have hzz : (w.alloc (.cells #[.int .i64 N, .slice A l.length c] 24)).heap.size = w.heap.size + 1 := by simp
  rw [hzz] at res0
  have kp := fun W h => Dijk.pos_any N A c l W h hlen
  have BOX0 := Lib.hid box0
  have RES0 := Lib.hid res0
  have HSL0 := Lib.hid hl
  have HSM0 := Lib.hid hm
  have HNO := Lib.hid hno
  clear box0 res0 hl hm hzz hno
  by_cases hp : Dijk.pos N l = 0
  · have hlk : Dijk.look N l ms = Dijk.lookE N ms := by unfold Dijk.look; rw [if_neg (by simpa using hp)]
    have kl := fun W h h' => Dijk.look_any N A c l Am cm ms.length ms W h h' rfl hlen hlm
    rw [hlk] at kl
    rw [hp] at kp
    have KP := Lib.hid kp
    have KL := Lib.hid kl
    have HP := Lib.hid hp
    clear kp kl hlk hp
    go_enter Try.func51, Try.ntmps51
    go_wp2_with fail
    refine (KP.out _ ((HSL0.out.keep hw0 (Nat.le_refl _)).more hz0)).mono ?_
    rintro e w1 ⟨rfl, hb1⟩
    have H1 := hw0.trans (hb1.mono hz0)
    have hbox1 := blk_below BOX0.out hb1 (by simp; omega)
    have hres1 := blk_below RES0.out hb1 (by simp)
    have q0 := blk_cell hbox1 0
    have q1 := blk_cell hbox1 1
    have s0 := blk_cell hres1 0
    have s1 := blk_cell hres1 1
    have f0 := blk_free hres1 0
    have f1 := blk_free hres1 1
    simp only [List.getElem?_toArray, List.getElem?_cons_zero, List.getElem?_cons_succ] at q0 q1 s0 s1
    have RES1 := Lib.hid hres1
    have hzr := lt_of_block hres1
    clear hbox1 hres1 hb1 BOX0 RES0 KP
    by_cases h4 : 4 < ms.length
    · have d4 : decide ((ms.length : Int) > 4) = true := by simp; omega
      have d5 : (4 : Int) < ms.length := by omega
      go_wp2
      refine bodyPost_ret (v := .tuple #[.agg #[.slice none 0 0, .slice none 0 0], .int .i64 2]) (by simp [results, Try.results51, go_sem, f0, f1, s0, s1]) rfl ?_
      exact ⟨2, by decide, rfl, (H1.setCell (by dsimp only; omega) _).setCell (by dsimp only; omega) _⟩
    · have d4 : decide ((ms.length : Int) > 4) = false := by simp; omega
      have hx : Dijk.lookE N ms ≠ 0 := fun h => HNO.out ⟨HP.out, by omega, h⟩
      have kl := KL.out w1 ((HSL0.out.keep H1 (Nat.le_refl _)).more H1.size) ((HSM0.out.keep H1 (Nat.le_refl _)).more H1.size)
      have hne : (Dijk.lookE N ms != 0) = true := by rw [bne_iff_ne]; exact hx
      generalize Dijk.lookE N ms = er at *
      have KK := Lib.hid kl
      clear kl s0 s1 f0 f1
      go_wp2_with fail
      refine KK.out.mono ?_
      rintro e w2 ⟨rfl, hb2⟩
      have H2 := H1.trans (hb2.mono H1.size)
      have hres2 := blk_below RES1.out hb2 (lt_of_block RES1.out)
      have s0 := blk_cell hres2 0
      have s1 := blk_cell hres2 1
      have f0 := blk_free hres2 0
      have f1 := blk_free hres2 1
      simp only [List.getElem?_toArray, List.getElem?_cons_zero, List.getElem?_cons_succ] at s0 s1
      have hzr2 := lt_of_block hres2
      clear hb2 hres2 q0 q1
      go_wp2
      refine bodyPost_ret (v := .tuple #[.agg #[.slice none 0 0, .slice none 0 0], .int .i64 er]) (by simp [results, Try.results51, go_sem, f0, f1, s0, s1]) rfl ?_
      exact ⟨er, hx, rfl, (H2.setCell (by dsimp only; omega) _).setCell (by dsimp only; omega) _⟩
  · have hne : (Dijk.pos N l != 0) = true := by rw [bne_iff_ne]; exact hp
    generalize Dijk.pos N l = er at *
    have KP := Lib.hid kp
    clear kp
    go_enter Try.func51, Try.ntmps51
    go_wp2_with fail
    refine (KP.out _ ((HSL0.out.keep hw0 (Nat.le_refl _)).more hz0)).mono ?_
    rintro e w1 ⟨rfl, hb1⟩
    have H1 := hw0.trans (hb1.mono hz0)
    have hres1 := blk_below RES0.out hb1 (by simp)
    have s0 := blk_cell hres1 0
    have s1 := blk_cell hres1 1
    have f0 := blk_free hres1 0
    have f1 := blk_free hres1 1
    simp only [List.getElem?_toArray, List.getElem?_cons_zero, List.getElem?_cons_succ] at s0 s1
    have hzr := lt_of_block hres1
    clear hres1 hb1 BOX0 RES0 KP
    go_wp2
    refine bodyPost_ret (v := .tuple #[.agg #[.slice none 0 0, .slice none 0 0], .int .i64 er]) (by simp [results, Try.results51, go_sem, f0, f1, s0, s1]) rfl ?_
    exact ⟨er, hp, rfl, (H1.setCell (by dsimp only; omega) _).setCell (by dsimp only; omega) _⟩

/-- an error and no guesses -/
def NoOf (w : World) (e : Ending) (w' : World) : Prop := ∃ x : Int, x ≠ 0 ∧ e = .returned (.tuple #[.slice none 0 0, .int .i64 x]) ∧ Below w.heap.size w w'
set_option maxRecDepth 100000 in
set_option maxHeartbeats 4000000 in
theorem of_no (N : Int) (A : Option Addr) (c : Nat) (l : List E) (Am : Option Addr) (cm : Nat) (ms : List Int) (t : Int) (w : World) (hl : Sl w w.heap.size 3 ce A l) (hm : Sl w w.heap.size 1 ci Am ms) (hlen : l.length ≤ 9223372036854775807) (hlm : ms.length ≤ 9223372036854775807) (hno : ¬ (OkM N l ms ∧ 0 ≤ t ∧ t < N)) :
    Calls Try.prog 18 #[.agg #[.int .i64 N, .slice A l.length c], .slice Am ms.length cm, .int .i64 t] w fun e w' => NoOf w e w' := by
  have hw0 : Below w.heap.size w (w.alloc (.cells #[.int .i64 N, .slice A l.length c] 24)) := (Below.refl _ _).alloc (Nat.le_refl _) _
  have hz0' : w.heap.size ≤ (w.alloc (.cells #[.int .i64 N, .slice A l.length c] 24)).heap.size := by simp
  have box0 := heap_alloc_new w (.cells #[.int .i64 N, .slice A l.length c] 24)
  have BOX0 := Lib.hid box0
  have HSL0 := Lib.hid hl
  have HSM0 := Lib.hid hm
  clear box0 hl hm
  by_cases hok : OkM N l ms
  · obtain ⟨⟨hg, hc⟩, h4, hr⟩ := okM_iff.1 hok
    have hN := hg.lo
    obtain ⟨n, rfl⟩ := Int.eq_ofNat_of_zero_le (show 0 ≤ N by omega)
    have km := fun W h h' => marks_yes n A c l Am cm ms W h h' hg hc h4 hr
    have kl := fun W A' h h' => Dijk.look_any n A c l A' 1 1 [t] W h h' rfl hlen (by decide)
    have hlk : Dijk.look n l [t] ≠ 0 := fun h => by
      obtain ⟨_, _, a, b⟩ := Dijk.look_zero h
      exact hno ⟨hok, a, b⟩
    have hne : (Dijk.look n l [t] != 0) = true := by rw [bne_iff_ne]; exact hlk
    generalize Dijk.look n l [t] = er at *
    have KM := Lib.hid km
    have KL := Lib.hid kl
    have hER := hlk
    clear km kl hg hc hr hno hok hlk
    go_enter Try.func18, Try.ntmps18
    go_wp2_with fail
    refine (KM.out _ ((HSL0.out.keep hw0 (Nat.le_refl _)).more hz0') ((HSM0.out.keep hw0 (Nat.le_refl _)).more hz0')).mono ?_
    rintro e w1 ⟨A1, c1, R1, D1, A2, c2, R2, D2, rfl, T1, T2, hsh, hb1⟩
    have H1 := hw0.trans (hb1.mono hz0')
    have hbox1 := blk_below BOX0.out hb1 (by simp)
    have q0 := blk_cell hbox1 0
    have q1 := blk_cell hbox1 1
    simp only [List.getElem?_toArray, List.getElem?_cons_zero, List.getElem?_cons_succ] at q0 q1
    have hzw := lt_of_block hbox1
    have hZ : Below w1.heap.size w1 ((w1.alloc (.cells #[.slice A1 ms.length c1, .slice A2 ms.length c2] 75)).alloc (.cells #[.int .i64 t] 3)) := ((Below.refl _ _).alloc (Nat.le_refl _) _).alloc (by simp) _
    have H3 := H1.trans (hZ.mono H1.size)
    have kk := KL.out ((w1.alloc (.cells #[.slice A1 ms.length c1, .slice A2 ms.length c2] 75)).alloc (.cells #[.int .i64 t] 3)) (some ⟨w1.heap.size + 1, 0, none⟩) ((HSL0.out.keep H3 (Nat.le_refl _)).more H3.size) (sl_new' (by decide) (w1.alloc (.cells #[.slice A1 ms.length c1, .slice A2 ms.length c2] 75)) #[.int .i64 t] 3 [t] (by simp) rfl)
    have KK := Lib.hid kk
    clear T1 T2 hsh hb1 hbox1 kk KM KL BOX0 hZ
    go_wp2_with fail
    refine KK.out.mono ?_
    rintro e w4 ⟨rfl, hb4⟩
    have H4 := H3.trans (hb4.mono H3.size)
    clear hb4 q0 q1
    go_wp2
    go_ret2
    exact ⟨er, hER, rfl, H4⟩
  · have km := fun W h h' => marks_no N A c l Am cm ms W h h' hlen hlm hok
    have KM := Lib.hid km
    clear km hok hno
    go_enter Try.func18, Try.ntmps18
    go_wp2_with fail
    refine (KM.out _ ((HSL0.out.keep hw0 (Nat.le_refl _)).more hz0') ((HSM0.out.keep hw0 (Nat.le_refl _)).more hz0')).mono ?_
    rintro e w1 ⟨x, hx, rfl, hb1⟩
    have H1 := hw0.trans (hb1.mono hz0')
    have hne : (x != 0) = true := by rw [bne_iff_ne]; exact hx
    clear hb1 KM BOX0
    go_wp2
    go_ret2
    exact ⟨x, hx, rfl, H1.alloc H1.size _⟩
end Go.Proofs.Ytdpjbjgecmnmnaa.Heur
