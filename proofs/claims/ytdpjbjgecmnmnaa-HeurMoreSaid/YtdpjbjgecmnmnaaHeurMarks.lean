/- The walk of heur.Marks. -/
import Derived.Test.YtdpjbjgecmnmnaaHeurMem
namespace Go.Proofs.Ytdpjbjgecmnmnaa.Heur
open Go.RowKit Go.Proofs.Ytdpjbjgecmnmnaa NetLaw BellLaw DijkLaw HeurLaw Go.Proofs.Ytdpjbjgecmnmnaa.Net Go.Proofs.Ytdpjbjgecmnmnaa.Dijk Go.Proofs.Ytdpjbjgecmnmnaa.Std
set_option linter.unusedSimpArgs false
set_option linter.unusedVariables false
theorem newsr {n S : Nat} {w : World} {e : TypeId} {g : Nat} (hg : w.heap.size = g) : ∀ j, j < 1 → (w.alloc (.cells #[.slice (some ⟨S, 0, none⟩) n n] e)).cell? ⟨g, j, none⟩ = some (cr n S j) := by
  subst hg
  intro j hj
  obtain rfl : j = 0 := by omega
  rw [cell_new]; rfl
theorem pos_good {N : Int} {l : List E} (hg : NetLaw.Good N l) (hc : ∀ e ∈ l, 1 ≤ e.2.2) : Dijk.pos N l = 0 := by
  have h0 : Dijk.posE l = 0 := by
    clear hg
    induction l with
    | nil => rfl
    | cons e r ih =>
      have := hc e (by simp)
      rw [Dijk.posE, if_neg (by omega)]
      exact ih fun x hx => hc x (by simp [hx])
  rw [Dijk.pos, if_neg (by simpa using chk_zero.2 hg)]; exact h0
theorem lookE_zero {N : Int} {ps : List Int} : Dijk.lookE N ps = 0 ↔ ∀ v ∈ ps, 0 ≤ v ∧ v < N := by
  induction ps with
  | nil => simp [Dijk.lookE]
  | cons x r ih =>
    unfold Dijk.lookE
    by_cases h : x < 0 ∨ N ≤ x
    · rw [if_pos h]
      constructor
      · intro h1; omega
      · intro h1; have := h1 x (List.mem_cons_self ..); omega
    · rw [if_neg h, ih]
      constructor
      · intro h1 y hy
        rcases List.mem_cons.1 hy with rfl | hy
        · omega
        · exact h1 y hy
      · intro h1 y hy; exact h1 y (List.mem_cons_of_mem _ hy)
theorem look_good {N : Int} {l : List E} {ps : List Int} (hg : NetLaw.Good N l) (hc : ∀ e ∈ l, 1 ≤ e.2.2) (hp : ∀ v ∈ ps, 0 ≤ v ∧ v < N) : Dijk.look N l ps = 0 := by
  have h1 := pos_good hg hc
  rw [Dijk.look, if_neg (by simpa using h1)]; exact lookE_zero.2 hp
theorem good_tl {N : Int} {l : List E} (h : NetLaw.Good N l) : NetLaw.Good N (tl l) := by
  refine ⟨h.lo, h.hi, by rw [tl_len]; exact h.len, fun e he => ?_, fun e he => ?_⟩
  · unfold tl at he; rw [List.mem_map] at he; obtain ⟨x, hx, rfl⟩ := he
    have := h.ends x hx
    exact ⟨this.2.2.1, this.2.2.2, this.1, this.2.1⟩
  · unfold tl at he; rw [List.mem_map] at he; obtain ⟨x, hx, rfl⟩ := he
    exact h.cost x hx
/-- what Marks answers -/
def MarksSays (n : Nat) (l : List E) (ms : List Int) (w : World) (e : Ending) (w' : World) : Prop :=
  ∃ A1 c1 R1 D1 A2 c2 R2 D2, e = .returned (.tuple #[.agg #[.slice A1 ms.length c1, .slice A2 ms.length c2], .int .i64 0]) ∧ Tb w' w.heap.size n A1 ms.length c1 R1 D1 ∧ Tb w' w.heap.size n A2 ms.length c2 R2 D2 ∧
    (∀ i (h : i < ms.length), Sh n ms[i] l (D1.getD i []) ∧ Sh n ms[i] (tl l) (D2.getD i [])) ∧ Below w.heap.size w w'

set_option maxRecDepth 100000 in
set_option maxHeartbeats 8000000 in
theorem marks_yes (n : Nat) (A : Option Addr) (c : Nat) (l : List E) (Am : Option Addr) (cm : Nat) (ms : List Int) (w : World) (hl : Sl w w.heap.size 3 ce A l) (hm : Sl w w.heap.size 1 ci Am ms) (hg : NetLaw.Good n l) (hc : ∀ e ∈ l, 1 ≤ e.2.2) (h4 : ms.length ≤ 4) (hr : ∀ v ∈ ms, 0 ≤ v ∧ v < n) :
    Calls Try.prog 51 #[.agg #[.int .i64 n, .slice A l.length c], .slice Am ms.length cm] w fun e w' => MarksSays n l ms w e w' := by
  obtain ⟨r0, hri, hrz0, hrz1, hrz2⟩ := info_parts infoRow
  have hN := hg.hi
  have hlen := hg.len
  have hw0 : Below w.heap.size w ((w.alloc (.cells #[.int .i64 n, .slice A l.length c] 24)).alloc (.cells #[.slice none 0 0, .slice none 0 0] 75)) := ((Below.refl _ _).alloc (Nat.le_refl _) _).alloc (by simp) _
  have hz0 : w.heap.size ≤ ((w.alloc (.cells #[.int .i64 n, .slice A l.length c] 24)).alloc (.cells #[.slice none 0 0, .slice none 0 0] 75)).heap.size := by simp; omega
  have box0 := blk_alloc (heap_alloc_new w (.cells #[.int .i64 n, .slice A l.length c] 24)) (.cells #[.slice none 0 0, .slice none 0 0] 75)
  have res0 := heap_alloc_new (w.alloc (.cells #[.int .i64 n, .slice A l.length c] 24)) (.cells #[.slice none 0 0, .slice none 0 0] 75)
  have hzz : (w.alloc (.cells #[.int .i64 n, .slice A l.length c] 24)).heap.size = w.heap.size + 1 := by simp
  rw [hzz] at res0
  have kp := fun W h => Dijk.pos_any n A c l W h (by omega)
  rw [pos_good hg hc] at kp
  have kl := fun W h h' => Dijk.look_any n A c l Am cm ms.length ms W h h' rfl (by omega) (by omega)
  rw [look_good hg hc hr] at kl
  have kt := fun W h => turned_any n A c l W h (by omega)
  have krun := fun (m : Nat) (hmn : m < n) W h => run_any n m A c l W h hg hmn (fun e he => by have := hc e he; omega)
  have krun2 := fun (m : Nat) (hmn : m < n) (Ab : Option Addr) (cb : Nat) W (h : Sl W W.heap.size 3 ce Ab (tl l)) => run_any n m Ab cb (tl l) W h (good_tl hg) hmn (fun e he => by
    unfold tl at he; rw [List.mem_map] at he; obtain ⟨x, hx, rfl⟩ := he
    have := hc x hx; simp only; omega)
  rw [tl_len] at krun2
  have KP := Lib.hid kp
  have KL := Lib.hid kl
  have KT := Lib.hid kt
  have KRUN := Lib.hid krun
  have KRUN2 := Lib.hid krun2
  have BOX0 := Lib.hid box0
  have RES0 := Lib.hid res0
  have HR := Lib.hid hr
  have HSL0 := Lib.hid hl
  have HSM0 := Lib.hid hm
  clear kp kl kt krun krun2 box0 res0 hr hg hc hl hm hzz
  go_enter Try.func51, Try.ntmps51
  go_wp2_with fail
  refine (KP.out _ ((HSL0.out.keep hw0 (Nat.le_refl _)).more hz0)).mono ?_
  rintro e w1 ⟨rfl, hb1⟩
  have H1 := hw0.trans (hb1.mono hz0)
  have hbox1 := blk_below BOX0.out hb1 (by simp; omega)
  have hres1 := blk_below RES0.out hb1 (by simp)
  have q0 := blk_cell hbox1 0
  have q1 := blk_cell hbox1 1
  simp only [List.getElem?_toArray, List.getElem?_cons_zero, List.getElem?_cons_succ] at q0 q1
  have BOX1 := Lib.hid hbox1
  have RES1 := Lib.hid hres1
  have d4 : decide ((ms.length : Int) > 4) = false := by simp; omega
  clear hbox1 hres1 hb1 BOX0 RES0 KP
  go_wp2_with fail
  refine (KL.out _ ((HSL0.out.keep H1 (Nat.le_refl _)).more H1.size) ((HSM0.out.keep H1 (Nat.le_refl _)).more H1.size)).mono ?_
  rintro e w2 ⟨rfl, hb2⟩
  have H2 := H1.trans (hb2.mono H1.size)
  have hbox2 := blk_below BOX1.out hb2 (lt_of_block BOX1.out)
  have hres2 := blk_below RES1.out hb2 (lt_of_block RES1.out)
  have p0 := blk_cell hbox2 0
  have p1 := blk_cell hbox2 1
  simp only [List.getElem?_toArray, List.getElem?_cons_zero, List.getElem?_cons_succ] at p0 p1
  have BOX2 := Lib.hid hbox2
  have RES2 := Lib.hid hres2
  clear hbox2 hres2 hb2 BOX1 RES1 KL q0 q1 d4
  go_wp2_with fail
  refine (KT.out _ ((HSL0.out.keep H2 (Nat.le_refl _)).more H2.size)).mono ?_
  rintro e w3 ⟨Ab, cb, rfl, ownb, hb3⟩
  rw [tl_len] at ownb ⊢
  have H3 := H2.trans (hb3.mono H2.size)
  have hbox3 := blk_below BOX2.out hb3 (lt_of_block BOX2.out)
  have hres3 := blk_below RES2.out hb3 (lt_of_block RES2.out)
  have hr3 := lt_of_block hres3
  have bk3 := blk_alloc (heap_alloc_new w3 (.cells #[.int .i64 n, .slice Ab l.length cb] 24)) (.cells #[.slice none 0 0, .slice none 0 0] 75)
  have tb3 := heap_alloc_new (w3.alloc (.cells #[.int .i64 n, .slice Ab l.length cb] 24)) (.cells #[.slice none 0 0, .slice none 0 0] 75)
  have hzz : (w3.alloc (.cells #[.int .i64 n, .slice Ab l.length cb] 24)).heap.size = w3.heap.size + 1 := by simp
  rw [hzz] at tb3
  have mk3 : Mk w ((w3.alloc (.cells #[.int .i64 n, .slice Ab l.length cb] 24)).alloc (.cells #[.slice none 0 0, .slice none 0 0] 75)) n A c l w3.heap.size (w3.heap.size + 1) Ab cb none 0 0 [] [] none 0 0 [] [] :=
    ⟨blk_alloc (blk_alloc hbox3 _) _, blk_alloc (blk_alloc hres3 _) _, bk3, ((ownb.mono H2.size).alloc _).alloc _, tb3, Tb.nil _ _ _, Tb.nil _ _ _, (fun g h => by cases h), by omega, (H3.alloc H3.size _).alloc (by simp; have := H3.size; omega) _⟩
  have MK3 := Lib.hid mk3
  clear mk3 bk3 tb3 hzz hbox3 hres3 ownb hb3 BOX2 RES2 KT p0 p1
  go_wp2
  generalize ((w3.alloc (.cells #[.int .i64 n, .slice Ab l.length cb] 24)).alloc (.cells #[.slice none 0 0, .slice none 0 0] 75)) = w5 at *
  obtain ⟨X, hX⟩ : ∃ X, X = w3.heap.size := ⟨_, rfl⟩
  obtain ⟨T, hT⟩ : ∃ T, T = w3.heap.size + 1 := ⟨_, rfl⟩
  rw [← hT, ← hX] at MK3
  rw [← hT, ← hX]
  clear hT hX
  go_loopw [33] (fun s wr => ∃ (k : Nat) (A1 : Option Addr) (c1 : Nat) (R1 : List Nat) (D1 : List (List Int)) (A2 : Option Addr) (c2 : Nat) (R2 : List Nat) (D2 : List (List Int)), k ≤ ms.length ∧ s = .int .i64 k ∧ Mk w wr n A c l X T Ab cb A1 k c1 R1 D1 A2 k c2 R2 D2 ∧ Hid (∀ i (h : i < ms.length), i < k → Sh n ms[i] l (D1.getD i []) ∧ Sh n ms[i] (tl l) (D2.getD i []))) (fun s _ => ms.length - (intOf s).toNat)
  case atStart => exact ⟨0, none, 0, [], [], none, 0, [], [], Nat.zero_le _, rfl, MK3.out, Lib.hid fun i _ h => absurd h (Nat.not_lt_zero _)⟩
  case round =>
    clear MK3
    obtain ⟨k, A1, c1, R1, D1, A2, c2, R2, D2, hk, rfl, hmk, hsh0⟩ := hrel
    by_cases hlt : k < ms.length
    · obtain ⟨bm, om, rfl, hbm, hcm⟩ := (HSM0.out.keep hmk.lo (Nat.le_refl _)).atI hlt
      obtain ⟨m0, m1⟩ := HR.out _ (List.getElem_mem hlt)
      obtain ⟨m, hmm⟩ := Int.eq_ofNat_of_zero_le m0
      have hmn : m < n := by omega
      rw [hmm] at hcm
      have HMM := Lib.hid hmm
      have kr := KRUN.out m hmn
      have kr2 := KRUN2.out m hmn Ab cb
      have KR := Lib.hid kr
      have KR2 := Lib.hid kr2
      have b0 := blk_cell hmk.box 0
      have b1 := blk_cell hmk.box 1
      have t0 := blk_cell hmk.tbl 0
      have t1 := blk_cell hmk.tbl 1
      simp only [List.getElem?_toArray, List.getElem?_cons_zero, List.getElem?_cons_succ] at b0 b1 t0 t1
      have hSLN := ((HSL0.out.keep hmk.lo (Nat.le_refl _)).more hmk.lo.size).keep (Below.refl _ _).drew (Nat.le_refl _)
      have SLN := Lib.hid hSLN
      have MK0 := Lib.hid hmk
      clear hmm kr kr2 m0 m1 hSLN hmk
      go_wp2
      refine Sink.wp_region_sink 4 8 (fun w' => w'.cell? ⟨T, 0, none⟩ = some (.slice A1 k c1) ∧ w'.cell? ⟨w.heap.size, 0, none⟩ = some (.int .i64 n) ∧ w'.cell? ⟨w.heap.size, 1, none⟩ = some (.slice A l.length c)) (by kernel_rfl) (by kernel_rfl) ?_ (fun hHeld => ?_)
      · go_keep
      simp only [List.take_succ_cons, List.take_zero, List.drop_succ_cons, List.drop_zero]
      repeat
        (refine Sink.Head.cons ?_ (by rfl) (fun w' hSw => ?_) ?_
         rotate_left
         · ((try dsimp only at hSw); go_split_ands; go_simp; try with_reducible rfl)
         simp only [Act.put, List.setIfInBounds_toArray, List.set_cons_zero, List.set_cons_succ])
      refine Sink.Head.nil ?_
      refine Sink.Tail.cons (fun K hK => ?_)
      go_simp
      go_at_call 50
      refine (KR.out _ SLN.out).mono ?_
      rintro e wd ⟨S, D, rfl, ownD, hsh, hbd⟩
      have hbd0 : Below wr.heap.size wr wd := ((Below.refl _ _).drew).trans hbd
      have mkd := MK0.out.keep hbd0
      have x0 := blk_cell mkd.tbl 0
      have x1 := blk_cell mkd.box 0
      have x2 := blk_cell mkd.box 1
      simp only [List.getElem?_toArray, List.getElem?_cons_zero, List.getElem?_cons_succ] at x0 x1 x2
      have OWND := Lib.hid (ownD.mono (show w.heap.size ≤ _ from MK0.out.lo.size))
      have HSH := Lib.hid hsh
      have MKD := Lib.hid mkd
      have hzd := mkd.lo.size
      clear ownD hsh hbd hbd0 mkd
      refine hK.out _ _ ⟨x0, x1, x2⟩ (fun hH2 => ?_)
      clear hK K hHeld
      refine Sink.Tail.cons (fun K hK => ?_)
      go_simp
      refine hK.out _ _ (by go_keep) (fun hH3 => ?_)
      clear hK K hH2
      refine Sink.Tail.cons (fun K hK => ?_)
      refine step_push _ rfl (.tmp 38) (.tmp 42) _ rfl w.heap.size 25 r0 _ 1 24 (cr n) Try.underlying53 hri hrz0 hrz1 hrz2 rfl (by decide) _ R1 k MKD.out.t1.len rfl (MKD.out.t1.own.alloc _) wd.heap.size 1 S rfl (newsr (by rfl)) (fun _ _ => one_cr _ _ _) (by omega) (by omega) (by simp; omega) ?_
      intro A4 c4 w4 hown4 hgrow4 hat4
      obtain ⟨ht4, mk4⟩ := (MKD.out.keep (by exact (Below.refl _ _).alloc (Nat.le_refl _) _)).first hgrow4 hown4 (OWND.out.alloc _) (by have := HSH.out.len; omega) (by rcases hat4 with h1 | h1; exact .inl ((ob_eq A4 (k + 1) c4).symm.trans (h1.trans (ob_eq A1 k c1))); exact .inr ⟨_, (ob_eq ..).symm.trans h1, by simp⟩)
      have y0 := blk_cell ht4 0
      have yf := blk_free ht4 0
      have hbb4 := blk_grown (blk_alloc MKD.out.box _) hgrow4 (MKD.out.t1.own.ne_ MKD.out.box (by decide))
      have y1 := blk_cell hbb4 0
      have y2 := blk_cell hbb4 1
      simp only [List.getElem?_toArray, List.getElem?_cons_zero, List.getElem?_cons_succ] at y0 y1 y2
      have MK4 := Lib.hid mk4
      refine hK.out _ _ ⟨y0, y1, y2⟩ (fun hH4 => ?_)
      clear hK K hH3
      refine Sink.Tail.cons (fun K hK => ?_)
      go_simp
      refine hK.out _ _ hH4 (fun hH5 => ?_)
      clear hK K hH4
      refine Sink.Tail.one ?_
      clear hown4 hgrow4 hat4 ht4 mk4 hbb4 hH5
      go_wp2
      refine NoPanic.normal ?_
      generalize (w4.setCell ⟨T, 0, none⟩ (.slice A4 (k + 1) c4)) = w6 at MK4 ⊢
      have mk6 := MK4.out
      have b0' := blk_cell mk6.bk 0
      have b1' := blk_cell mk6.bk 1
      have t0' := blk_cell mk6.tbl 0
      have t1' := blk_cell mk6.tbl 1
      simp only [List.getElem?_toArray, List.getElem?_cons_zero, List.getElem?_cons_succ] at b0' b1' t0' t1'
      have hSLN := mk6.back.sl.2.keep (Below.refl _ _).drew (Nat.le_refl _)
      have SLN2 := Lib.hid hSLN
      clear mk6 hSLN b0 b1 t0 t1 x0 x1 x2 y0 y1 y2 yf hzd
      go_wp2
      refine Sink.wp_region_sink 4 8 (fun w' => w'.cell? ⟨T, 1, none⟩ = some (.slice A2 k c2) ∧ w'.cell? ⟨X, 0, none⟩ = some (.int .i64 n) ∧ w'.cell? ⟨X, 1, none⟩ = some (.slice Ab l.length cb)) (by kernel_rfl) (by kernel_rfl) ?_ (fun hHeld => ?_)
      · go_keep
      simp only [List.take_succ_cons, List.take_zero, List.drop_succ_cons, List.drop_zero]
      repeat
        (refine Sink.Head.cons ?_ (by rfl) (fun w' hSw => ?_) ?_
         rotate_left
         · ((try dsimp only at hSw); go_split_ands; go_simp; try with_reducible rfl)
         simp only [Act.put, List.setIfInBounds_toArray, List.set_cons_zero, List.set_cons_succ])
      refine Sink.Head.nil ?_
      refine Sink.Tail.cons (fun K hK => ?_)
      go_simp
      go_at_call 50
      refine (KR2.out _ SLN2.out).mono ?_
      rintro e wd8 ⟨S8, D8, rfl, ownD, hsh, hbd⟩
      have hbd0 : Below w6.heap.size w6 wd8 := ((Below.refl _ _).drew).trans hbd
      have mkd8 := MK4.out.keep hbd0
      have x0 := blk_cell mkd8.tbl 1
      have x1 := blk_cell mkd8.bk 0
      have x2 := blk_cell mkd8.bk 1
      simp only [List.getElem?_toArray, List.getElem?_cons_zero, List.getElem?_cons_succ] at x0 x1 x2
      have OWND8 := Lib.hid (ownD.mono (show w.heap.size ≤ _ from MK4.out.lo.size))
      have HSH8 := Lib.hid hsh
      have MKD8 := Lib.hid mkd8
      have hzd8 := mkd8.lo.size
      clear ownD hsh hbd hbd0 mkd8
      refine hK.out _ _ ⟨x0, x1, x2⟩ (fun hH2 => ?_)
      clear hK K hHeld
      refine Sink.Tail.cons (fun K hK => ?_)
      go_simp
      refine hK.out _ _ (by go_keep) (fun hH3 => ?_)
      clear hK K hH2
      refine Sink.Tail.cons (fun K hK => ?_)
      refine step_push _ rfl (.tmp 46) (.tmp 50) _ rfl w.heap.size 25 r0 _ 1 24 (cr n) Try.underlying53 hri hrz0 hrz1 hrz2 rfl (by decide) _ R2 k MKD8.out.t2.len rfl (MKD8.out.t2.own.alloc _) wd8.heap.size 1 S8 rfl (newsr (by rfl)) (fun _ _ => one_cr _ _ _) (by omega) (by omega) (by simp; omega) ?_
      intro A8 c8 w8 hown8 hgrow8 hat8
      obtain ⟨ht8, mk8⟩ := (MKD8.out.keep (by exact (Below.refl _ _).alloc (Nat.le_refl _) _)).second hgrow8 hown8 (OWND8.out.alloc _) (by have := HSH8.out.len; omega) (by rcases hat8 with h1 | h1; exact .inl ((ob_eq A8 (k + 1) c8).symm.trans (h1.trans (ob_eq A2 k c2))); exact .inr ⟨_, (ob_eq ..).symm.trans h1, by simp⟩)
      have y0 := blk_cell ht8 1
      have yf := blk_free ht8 1
      have hbb8 := blk_grown (blk_alloc MKD8.out.bk _) hgrow8 (MKD8.out.t2.own.ne_ MKD8.out.bk (by decide))
      have y1 := blk_cell hbb8 0
      have y2 := blk_cell hbb8 1
      simp only [List.getElem?_toArray, List.getElem?_cons_zero, List.getElem?_cons_succ] at y0 y1 y2
      have MK8 := Lib.hid mk8
      refine hK.out _ _ ⟨y0, y1, y2⟩ (fun hH4 => ?_)
      clear hK K hH3
      refine Sink.Tail.cons (fun K hK => ?_)
      go_simp
      refine hK.out _ _ hH4 (fun hH5 => ?_)
      clear hK K hH4
      refine Sink.Tail.one ?_
      clear hown8 hgrow8 hat8 ht8 mk8 hbb8 hH5
      go_wp2
      refine NoPanic.normal ?_
      generalize (w8.setCell ⟨T, 1, none⟩ (.slice A8 (k + 1) c8)) = w9 at MK8 ⊢
      clear b0' b1' t0' t1' x0 x1 x2 y0 y1 y2 yf hzd8
      go_wp2
      go_roundw
      case rel =>
        refine ⟨k + 1, A4, c4, _, _, A8, c8, _, _, by omega, by go_num, MK8.out, Lib.hid fun i h hi => ?_⟩
        have e1 := MK0.out.t1.dlen
        have e2 := MK0.out.t2.dlen
        by_cases e : i < k
        · rw [List.getD_eq_getElem?_getD, List.getElem?_append_left (by omega), ← List.getD_eq_getElem?_getD, List.getD_eq_getElem?_getD (l := D2 ++ _), List.getElem?_append_left (by omega), ← List.getD_eq_getElem?_getD]
          exact hsh0.out i h e
        · obtain rfl : i = k := by omega
          rw [List.getD_eq_getElem?_getD, List.getElem?_append_right (by omega), List.getD_eq_getElem?_getD (l := D2 ++ _), List.getElem?_append_right (by omega), e1, e2, Nat.sub_self, HMM.out]
          exact ⟨HSH.out, HSH8.out⟩
      case measure => simp [intOf]; omega
    · obtain rfl : k = ms.length := by omega
      have t0 := blk_cell hmk.tbl 0
      have t1 := blk_cell hmk.tbl 1
      have s0 := blk_cell hmk.res 0
      have s1 := blk_cell hmk.res 1
      have f0 := blk_free hmk.res 0
      have f1 := blk_free hmk.res 1
      simp only [List.getElem?_toArray, List.getElem?_cons_zero, List.getElem?_cons_succ] at t0 t1 s0 s1
      have hB := hmk.lo
      have k1 := hmk.t1.setCell (p := ⟨w.heap.size + 1, 0, none⟩) hmk.res (by decide) (by decide) (.slice A1 ms.length c1)
      have k2 := hmk.t2.setCell (p := ⟨w.heap.size + 1, 0, none⟩) hmk.res (by decide) (by decide) (.slice A1 ms.length c1)
      have hres2 := blk_set hmk.res 0 (.slice A1 ms.length c1)
      have k3 := k1.setCell (p := ⟨w.heap.size + 1, 1, none⟩) hres2 (by decide) (by decide) (.slice A2 ms.length c2)
      have k4 := k2.setCell (p := ⟨w.heap.size + 1, 1, none⟩) hres2 (by decide) (by decide) (.slice A2 ms.length c2)
      have K3 := Lib.hid k3
      have K4 := Lib.hid k4
      have hzr := lt_of_block hmk.res
      clear k1 k2 k3 k4 hres2 hmk
      go_wp2
      refine bodyPost_ret (v := .tuple #[.agg #[.slice A1 ms.length c1, .slice A2 ms.length c2], .int .i64 0]) (by simp [results, Try.results51, go_sem, f0, f1, s0, s1]) rfl ?_
      exact ⟨A1, c1, R1, D1, A2, c2, R2, D2, rfl, K3.out, K4.out, fun i h => hsh0.out i h h, (hB.setCell (by dsimp only; omega) _).setCell (by dsimp only; omega) _⟩
end Go.Proofs.Ytdpjbjgecmnmnaa.Heur
