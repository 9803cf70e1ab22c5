/- The walk of comp's visit, which calls itself. -/
import Derived.Test.YtjhnlkmdkjlkdaaVCompMem
import Derived.Deep.CutRange
import Derived.IntWalk
namespace Go.Proofs.Ytjhnlkmdkjlkdaa.Comp
open Go.RowKit Go.Proofs.Ytjhnlkmdkjlkdaa NetLaw CompLaw Go.Proofs.Ytjhnlkmdkjlkdaa.Net Go.Proofs.Ytjhnlkmdkjlkdaa.Std
set_option linter.unusedSimpArgs false
set_option linter.unusedVariables false
theorem infoIntV : (Try.prog.info? 3).map (fun i => (i.zero, i.size, i.bytes)) = some (some (.int .i64 0), 1, 8) := by kernel_rfl
/-- what a visit leaves -/
def VSays (w0 : World) (n : Nat) (A : Option Addr) (c : Nat) (l : List E) (Z SI SL SO SM T : Nat) (F : Nat → Option Addr × Nat) (G : List Int) (v : Nat) (s : TS) (e : Ending) (w' : World) : Prop :=
  (∃ r, e = .returned r) ∧ ∃ As ms cs s', CM w0 w' n A c l Z SI SL SO SM T F As ms cs s' (onst s') ∧ VP l G v s s' ∧ Sd n s'
theorem cm_z {w0 w : World} {n c Z SI SL SO SM T ms cs : Nat} {A As : Option Addr} {F : Nat → Option Addr × Nat} {l : List E} {s : TS} {on : Int → Bool} (h : CM w0 w n A c l Z SI SL SO SM T F As ms cs s on) :
    (w.cell? ⟨Z, 0, none⟩ = some (.int .i64 n) ∧ w.cell? ⟨Z, 1, none⟩ = some (.slice A l.length c) ∧ w.cell? ⟨Z, 2, none⟩ = some (.slice (some ⟨T, 0, none⟩) n n) ∧ w.cell? ⟨Z, 3, none⟩ = some (.slice (some ⟨SI, 0, none⟩) n n) ∧ w.cell? ⟨Z, 4, none⟩ = some (.slice (some ⟨SL, 0, none⟩) n n) ∧ w.cell? ⟨Z, 5, none⟩ = some (.slice As ms cs) ∧ w.cell? ⟨Z, 6, none⟩ = some (.slice (some ⟨SO, 0, none⟩) n n) ∧ w.cell? ⟨Z, 7, none⟩ = some (.int .i64 s.nx) ∧ w.cell? ⟨Z, 8, none⟩ = some (.slice (some ⟨SM, 0, none⟩) n n)) ∧ (w.frozen? ⟨Z, 5, none⟩ = false ∧ w.frozen? ⟨Z, 7, none⟩ = false) ∧ Z < w.heap.size := by
  have z0 := blk_cell h.z 0
  have z1 := blk_cell h.z 1
  have z2 := blk_cell h.z 2
  have z3 := blk_cell h.z 3
  have z4 := blk_cell h.z 4
  have z5 := blk_cell h.z 5
  have z6 := blk_cell h.z 6
  have z7 := blk_cell h.z 7
  have z8 := blk_cell h.z 8
  simp only [List.getElem?_toArray, List.getElem?_cons_zero, List.getElem?_cons_succ] at z0 z1 z2 z3 z4 z5 z6 z7 z8
  exact ⟨⟨z0, z1, z2, z3, z4, z5, z6, z7, z8⟩, ⟨blk_free h.z 5, blk_free h.z 7⟩, lt_of_block h.z⟩
theorem st_len {l : List E} {G : List Int} {s : TS} {n : Nat} (h : TI l G s) (hs : Sd n s) : s.st.length ≤ n := by
  have h1 : (s.st.map Int.toNat).Nodup := by
    rw [List.Nodup, List.pairwise_map]
    refine List.Pairwise.imp_of_mem (fun {x y} hx hy hxy e => ?_) h.srt
    have hx' := hs.rng (h.vis x hx)
    have hy' := hs.rng (h.vis y hy)
    have : x = y := by omega
    subst this
    exact absurd hxy (Int.lt_irrefl _)
  have h3 := FloydLaw.nodup_len h1 (k := n) (fun m hm => by
    rw [List.mem_map] at hm
    obtain ⟨y, hy, rfl⟩ := hm
    have hy' := hs.rng (h.vis y hy)
    omega)
  simpa using h3
theorem te_cons {l : List E} {js : List Int} {j i : Nat} (hj : j < js.length) (hi : js[j] = (i : Int)) (hil : i < l.length) : te l (js.drop j) = l[i] :: te l (js.drop (j + 1)) := by
  rw [List.drop_eq_getElem_cons hj, te, List.map_cons, hi]
  simp [te, List.getD_eq_getElem?_getD, List.getElem?_eq_getElem hil]
set_option maxRecDepth 100000 in
set_option maxHeartbeats 8000000 in
theorem visit_any (w0 : World) (n : Nat) (A : Option Addr) (c : Nat) (l : List E) (Z SI SL SO SM T : Nat) (F : Nat → Option Addr × Nat) (hg : NetLaw.Good n l) (hl : Sl w0 w0.heap.size 3 ce A l) (k : Nat) : ∀ (s : TS) (G : List Int) (v : Nat) (As : Option Addr) (ms cs : Nat) (w : World), wh n s.ix ≤ k → v < n → s.ix v = 0 → TI l G s → (∀ g ∈ G, Ld l g v) → Sd n s → CM w0 w n A c l Z SI SL SO SM T F As ms cs s (onst s) →
    Calls Try.prog 48 #[.pointer (some ⟨Z, 0, none⟩), .int .i64 v] w fun e w' => VSays w0 n A c l Z SI SL SO SM T F G v s e w' := by
  induction k with
  | zero =>
    intro s G v As ms cs w hk hv h0
    exfalso
    have := wh_lt (n := n) (f := s.ix) (f' := fun _ => 1) (v := v) (fun u hu => by decide) hv h0 (by decide)
    omega
  | succ k ih =>
    intro s G v As ms cs w hk hv h0 hti hG hsd hcm
    have hn := hg.hi
    have hl6 := hg.len
    have hends := hg.ends
    obtain ⟨i0, hi, hzi0, hzi1, hzi2⟩ := info_parts infoIntV
    have hx0 : 0 ≤ s.nx := by have := hti.rng v; omega
    have hx1 := hsd.bd
    have hli : LI l G v s (te l (ol l l.length v)) (enter v s) := LI.start hti h0 hG te_all
    have hsd1 : Sd n (enter v s) := hsd.enter hv h0 hx0
    have IH := Lib.hid ih
    have HK := Lib.hid hk
    have HLI0 := Lib.hid hli
    have HSD0 := Lib.hid hsd1
    have HE := Lib.hid hends
    have HL := Lib.hid hl
    have H0 := Lib.hid h0
    have HSE := Lib.hid hsd
    have HTI := Lib.hid hti
    obtain ⟨x, hx⟩ : ∃ x, s.nx = x := ⟨_, rfl⟩
    obtain ⟨⟨_, _, _, _, _, _, _, z7, _⟩, ⟨_, f7⟩, zl⟩ := cm_z hcm
    rw [hx] at hx0 hx1 z7
    have HX := Lib.hid hx
    have cm1 := hcm.setN (x + 1)
    have CM1 := Lib.hid cm1
    clear ih hk hli hsd1 hends hl hx h0 hsd hti hG hcm cm1 hg
    go_enter Try.func48, Try.ntmps48
    go_upto_region 1 with fail
    have cm1 := CM1.out
    generalize w.setCell ⟨Z, 7, none⟩ (.int .i64 (x + 1)) = w1 at cm1 ⊢
    clear CM1 z7 f7 zl
    obtain ⟨⟨_, _, _, z3, z4, z5, _, z7, _⟩, ⟨f5, _⟩, zl⟩ := cm_z cm1
    simp only at z7
    obtain ⟨a0, a1⟩ := cm1.ix.cell hv
    obtain ⟨b0, b1⟩ := cm1.lw.cell hv
    simp only at a0 b0
    obtain ⟨n1, n2, n3⟩ := cm1.ne
    have n4 : SL ≠ SI := fun e => n1 e.symm
    have cm2 : CM w0 ((w1.setCell ⟨SI, v, none⟩ (.int .i64 (x + 1))).setCell ⟨SL, v, none⟩ (.int .i64 (x + 1))) n A c l Z SI SL SO SM T F As ms cs ⟨up1 s.ix v (x + 1), up1 s.lw v (x + 1), s.le, s.st, x + 1⟩ (onst s) := (cm1.setI hv (x + 1)).setL hv (x + 1)
    have cm2' : CM w0 ((w1.setCell ⟨SL, v, none⟩ (.int .i64 (x + 1))).setCell ⟨SI, v, none⟩ (.int .i64 (x + 1))) n A c l Z SI SL SO SM T F As ms cs ⟨up1 s.ix v (x + 1), up1 s.lw v (x + 1), s.le, s.st, x + 1⟩ (onst s) := (cm1.setL hv (x + 1)).setI hv (x + 1)
    have CM2 := Lib.hid cm2
    have CM2' := Lib.hid cm2'
    clear cm1 cm2 cm2' z5 f5
    generalize s.ix v = ix0 at a0
    generalize s.lw v = lw0 at b0
    go_cut [] from 21 to 40 (fun wx => Hid (CM w0 wx n A c l Z SI SL SO SM T F As ms cs ⟨up1 s.ix v (x + 1), up1 s.lw v (x + 1), s.le, s.st, x + 1⟩ (onst s)))
    case first =>
      go_region
      all_goals
        go_wp2_with fail
        go_meet
        first
          | exact Lib.hid (CM2.out.drewN 1)
          | exact Lib.hid (CM2'.out.drewN 1)
    case rest =>
      clear CM2 CM2' z3 z4 z7 a0 a1 b0 b1 zl n1 n2 n3 n4
      have cm3 := hcut.out
      obtain ⟨⟨_, _, _, _, _, z5, _, _, _⟩, ⟨f5, _⟩, zl⟩ := cm_z cm3
      have hown := cm3.st
      have hown1 := hown.alloc (.cells #[.int .i64 v] 3)
      have cm3a := cm3.alloc (.cells #[.int .i64 v] 3)
      have hsz := cm3.lo.size
      have hms : ms ≤ 64 := by
        have h1 := st_len HTI.out HSE.out
        have h2 := cm3.sl
        simp only at h2
        omega
      have HSL := Lib.hid cm3.sl
      have HOWN1 := Lib.hid hown1
      have CM3 := Lib.hid cm3a
      clear hcut cm3 hown hown1 cm3a
      go_upto_region 3 with (at_builtin; go_must (refine wpList_push _ rfl (.tmp 45) (.tmp 47) _ rfl w0.heap.size 3 i0 (.int .i64 0) 1 8 ci Try.underlying25 hi hzi0 hzi1 hzi2 rfl (by decide) _ s.st ms HSL.out rfl HOWN1.out wc.heap.size 1 (v : Int) rfl news1 (fun _ _ => one_ci _ _) (by omega) (by omega) (by simp; omega) ?_; intro A9 c9 w9 hown9 hgrow9 hat9; have hz9 := blk_grown CM3.out.z hgrow9 (fun e => CM3.out.neZ.2.2.2.2.2.1 ((ob_eq As ms cs).symm.trans e)); have c95 := blk_cell hz9 5; have f95 := blk_free hz9 5; have l95 := lt_of_block hz9; simp only [List.getElem?_toArray, List.getElem?_cons_zero, List.getElem?_cons_succ] at c95; clear hz9))
      have cm4 : CM w0 (w9.setCell ⟨Z, 5, none⟩ (.slice A9 (ms + 1) c9)) n A c l Z SI SL SO SM T F A9 (ms + 1) c9 ⟨up1 s.ix v (x + 1), up1 s.lw v (x + 1), s.le, s.st ++ [(v : Int)], x + 1⟩ (onst s) := CM3.out.push hgrow9 hown9 (by rcases hat9 with h1 | h1; exact .inl h1; exact .inr ⟨_, h1, by simp⟩)
      have CM4 := Lib.hid cm4
      clear hgrow9 hown9 hat9 c95 f95 l95 cm4 CM3 HOWN1 HSL z5 f5 zl hsz
      have cm4 := CM4.out
      generalize w9.setCell ⟨Z, 5, none⟩ (.slice A9 (ms + 1) c9) = w4 at cm4 ⊢
      clear CM4
      obtain ⟨⟨_, _, _, _, _, _, z6, _, _⟩, _, zl⟩ := cm_z cm4
      obtain ⟨o0, o1⟩ := cm4.on.cell hv
      generalize onst s (v : Int) = ob0 at o0
      have cm5 : CM w0 (w4.setCell ⟨SO, v, none⟩ (.bool true)) n A c l Z SI SL SO SM T F A9 (ms + 1) c9 (enter v s) (onst (enter v s)) := by
        have e5 : (⟨up1 s.ix v (x + 1), up1 s.lw v (x + 1), s.le, s.st ++ [(v : Int)], x + 1⟩ : TS) = enter v s := by rw [← HX.out]; rfl
        have h5 := cm4.setO hv true
        rw [e5] at h5
        exact h5.same rfl rfl (fun _ _ => rfl) (fun _ _ => rfl) (fun _ _ => rfl) (fun u _ => by
          unfold onst enter
          by_cases e : (u : Int) = (v : Int)
          · simp [e]
          · simp [e])
      have CM5 := Lib.hid cm5
      clear cm4 cm5
      go_upto_region 4 with fail
      have cm5 := CM5.out
      generalize w4.setCell ⟨SO, v, none⟩ (.bool true) = w5 at cm5 ⊢
      clear CM5 z6 zl o0 o1
      obtain ⟨⟨_, _, z2, _, _, _, _, _, _⟩, _, zl⟩ := cm_z cm5
      obtain ⟨tc, _⟩ := cm5.tab.cell hv
      obtain ⟨K, hK⟩ : ∃ K, (ol l l.length v).length = K := ⟨_, rfl⟩
      obtain ⟨Aq, hAq⟩ : ∃ Aq, (F v).1 = Aq := ⟨_, rfl⟩
      obtain ⟨cq, hcq⟩ : ∃ cq, (F v).2 = cq := ⟨_, rfl⟩
      rw [hK, hAq, hcq] at tc
      have hrow : ∀ (wx : World) As ms cs s1 on, CM w0 wx n A c l Z SI SL SO SM T F As ms cs s1 on → Own wx w0.heap.size 3 1 ci (.slice Aq K cq) (ol l l.length v) := fun wx As ms cs s1 on hx => by
        have := hx.tab.own v hv
        rw [hK, hAq, hcq] at this
        exact this
      have hK6 : K ≤ 600 := by have := ol_len l l.length v; omega
      have HROW := Lib.hid hrow
      have HKK := Lib.hid hK
      have CM5 := Lib.hid cm5
      clear hrow hK hAq hcq cm5
      go_upto_region 5 with fail
      go_loopw [65] (fun i wy => ∃ (j : Nat) (As : Option Addr) (ms cs : Nat) (s1 : TS), j ≤ K ∧ i = .int .i64 j ∧ CM w0 wy n A c l Z SI SL SO SM T F As ms cs s1 (onst s1) ∧ Hid (LI l G v s (te l ((ol l l.length v).drop j)) s1) ∧ Hid (Sd n s1)) (fun i _ => K - (intOf i).toNat)
      case atStart => exact ⟨0, A9, ms + 1, c9, _, Nat.zero_le _, rfl, CM5.out, HLI0, HSD0⟩
      case round =>
        clear CM5 HLI0 HSD0 z2 tc zl
        obtain ⟨j, As1, ms1, cs1, s1, hj, rfl, cm, HLI, HSD⟩ := hrel
        by_cases hlt : j < K
        · have hjl : j < (ol l l.length v).length := by rw [HKK.out]; exact hlt
          obtain ⟨bq, offq, rfl, hbq, hcj⟩ := (HROW.out _ _ _ _ _ _ cm).sl.2.atI hjl
          obtain ⟨i, hi', hil, hiq⟩ := ol_memC (List.getElem_mem hjl)
          rw [hi'] at hcj
          obtain ⟨b, off, f, t, co, rfl, hbB, he, hcf, hct, hcc⟩ := (HL.out.keep cm.lo (Nat.le_refl _)).atE hil
          have hel := List.getElem_mem hil
          have hen := HE.out _ hel
          have hte := te_cons hjl hi' hil
          have hlg : l.getD i (0, 0, 0) = l[i] := by rw [List.getD_eq_getElem?_getD, List.getElem?_eq_getElem hil]; rfl
          rw [hlg] at hiq
          rw [he] at hen hel hte hiq
          obtain ⟨_, _, t0, t1⟩ := hen
          simp only at t0 t1 hiq
          subst hiq
          obtain ⟨t, rfl⟩ := Int.eq_ofNat_of_zero_le t0
          have htn : t < n := by omega
          have hli := HLI.out
          rw [hte] at hli
          obtain ⟨⟨_, z1, _, z3, z4, _, z6, _, _⟩, _, zl⟩ := cm_z cm
          obtain ⟨a0, _⟩ := cm.ix.cell htn
          have hzi : (i : Int) < (l.length : Int) := by omega
          have hkj : (j : Int) < (K : Int) := by omega
          have HEL := Lib.hid hel
          clear hjl hte hlg hi' he hcf hcc hil HLI t0 hel
          by_cases hz : s1.ix t = 0
          · have hwh := hli.wh (n := n) (by omega) (by omega)
            have hwk := HK.out
            have kcall := IH.out s1 ((v : Int) :: G) t As1 ms1 cs1 wr (by omega) htn hz hli.ti (hli.ask HEL.out rfl) HSD.out cm
            rw [hz] at a0
            have KCALL := Lib.hid kcall
            have HLI := Lib.hid hli
            have HZ := Lib.hid hz
            clear kcall hli hwh hwk cm hz HSD
            go_wp2_with fail
            refine KCALL.out.mono ?_
            rintro e w2 ⟨⟨r, rfl⟩, As2, ms2, cs2, s2, cm2, vp, sd2⟩
            have hli2 := Lib.hid (HLI.out.down HEL.out rfl HZ.out vp)
            simp only at hli2
            have SD2 := Lib.hid sd2
            clear z1 z3 z4 z6 zl a0 hct hcj KCALL HLI HZ vp sd2
            obtain ⟨⟨_, _, _, _, z4, _, _, _, _⟩, _, zl⟩ := cm_z cm2
            obtain ⟨b0, b1⟩ := cm2.lw.cell hv
            obtain ⟨b2, _⟩ := cm2.lw.cell htn
            obtain ⟨p, hp⟩ : ∃ p, s2.lw v = p := ⟨_, rfl⟩
            obtain ⟨q, hq⟩ : ∃ q, s2.lw t = q := ⟨_, rfl⟩
            have cm3 : CM w0 (w2.setCell ⟨SL, v, none⟩ (.int .i64 (if q < p then q else p))) n (some ⟨b, off, none⟩) c l Z SI SL SO SM T F As2 ms2 cs2 (lower v (s2.lw t) s2) (onst (lower v (s2.lw t) s2)) := by
              have h3 := cm2.setL hv (if q < p then q else p)
              rw [show (if q < p then q else p) = min (s2.lw v) (s2.lw t) by rw [hp, hq]; split <;> omega] at h3 ⊢
              exact h3
            have CM3 := Lib.hid (cm3.drewN 1)
            rw [hp] at b0
            rw [hq] at b2
            clear hp hq cm2 cm3
            go_upto_region 10 with fail
            go_region
            all_goals
              go_wp2
              go_roundw
              case' rel => exact ⟨j + 1, As2, ms2, cs2, lower v (s2.lw t) s2, by omega, by go_num, CM3.out, hli2, Lib.hid ⟨SD2.out.cnt, SD2.out.out⟩⟩
              case' measure => simp [intOf]; omega
          · have hze : (s1.ix t == 0) = false := by rw [beq_eq_false_iff_ne]; exact hz
            obtain ⟨o0, _⟩ := cm.on.cell htn
            have HLI := Lib.hid hli
            by_cases hon : (t : Int) ∈ s1.st
            · have hli2 := Lib.hid (hli.back HEL.out rfl hon)
              simp only at hli2
              rw [show onst s1 (t : Int) = true from decide_eq_true hon] at o0
              obtain ⟨b0, b1⟩ := cm.lw.cell hv
              obtain ⟨p, hp⟩ : ∃ p, s1.lw v = p := ⟨_, rfl⟩
              obtain ⟨q, hq⟩ : ∃ q, s1.ix t = q := ⟨_, rfl⟩
              have cm3 : CM w0 (wr.setCell ⟨SL, v, none⟩ (.int .i64 (if q < p then q else p))) n (some ⟨b, off, none⟩) c l Z SI SL SO SM T F As1 ms1 cs1 (lower v (s1.ix t) s1) (onst (lower v (s1.ix t) s1)) := by
                have h3 := cm.setL hv (if q < p then q else p)
                rw [show (if q < p then q else p) = min (s1.lw v) (s1.ix t) by rw [hp, hq]; split <;> omega] at h3 ⊢
                exact h3
              have CM3 := Lib.hid (cm3.drewN 1)
              rw [hp] at b0
              rw [hq] at a0 hze
              clear hp hq cm cm3 hli hon hz HLI
              go_upto_region 12 with fail
              go_region
              all_goals
                go_wp2
                go_roundw
                case' rel => exact ⟨j + 1, As1, ms1, cs1, lower v (s1.ix t) s1, by omega, by go_num, CM3.out, hli2, Lib.hid ⟨HSD.out.cnt, HSD.out.out⟩⟩
                case' measure => simp [intOf]; omega
            · have hli2 := Lib.hid (hli.skip ⟨hz, hon⟩)
              rw [show onst s1 (t : Int) = false from decide_eq_false hon] at o0
              obtain ⟨q, hq⟩ : ∃ q, s1.ix t = q := ⟨_, rfl⟩
              rw [hq] at a0 hze
              have CM3 := Lib.hid cm
              clear hq cm hli hon hz HLI
              go_wp2_with fail
              go_roundw
              case' rel => exact ⟨j + 1, As1, ms1, cs1, s1, by omega, by go_num, CM3.out, hli2, HSD⟩
              case' measure => simp [intOf]; omega
        · obtain rfl : j = K := by omega
          have hli := HLI.out
          rw [List.drop_eq_nil_of_le (by rw [HKK.out]; exact Nat.le_refl _)] at hli
          obtain ⟨⟨_, _, _, z3, z4, z5, _, _, _⟩, _, zl⟩ := cm_z cm
          obtain ⟨a0, _⟩ := cm.ix.cell hv
          obtain ⟨b0, _⟩ := cm.lw.cell hv
          by_cases hlw : s1.lw v < s1.ix v
          · have vp := Lib.hid (hli.stay hlw)
            have CMD := Lib.hid cm
            obtain ⟨p, hp⟩ : ∃ p, s1.lw v = p := ⟨_, rfl⟩
            obtain ⟨q, hq⟩ : ∃ q, s1.ix v = q := ⟨_, rfl⟩
            rw [hp] at b0 hlw
            rw [hq] at a0 hlw
            have hd : decide (p < q) = true := decide_eq_true hlw
            clear hp hq cm hli HLI
            go_wp2_with fail
            go_region
            all_goals
              go_wp2
              refine bodyPost_ret (v := .tuple #[]) (by simp [results, Try.results48, go_sem]) rfl ?_
              exact ⟨⟨_, rfl⟩, As1, ms1, cs1, s1, CMD.out.drewN 1, vp.out, HSD.out⟩
          · obtain ⟨X, hX, _⟩ := hli.st
            obtain ⟨P, hP⟩ : ∃ P, s.st.length = P := ⟨_, rfl⟩
            have hlen : ms1 = P + (X.length + 1) := by have h1 := cm.sl; rw [hX] at h1; simp at h1; omega
            obtain ⟨g, cg, hAg, hgb, hgl, hcg, hgc⟩ := cm.st.some_ (by rw [cm.sl]; omega)
            injection hAg with hA1 hA2 hA3
            subst hA1 hA3
            have hms1 : ms1 ≤ 64 := by
              have h1 := st_len hli.ti HSD.out
              have h2 := cm.sl
              omega
            have hcs1 : ms1 ≤ cs1 := by rw [cm.sl] at hcg; exact hcg
            have hget : ∀ j (h : j < ms1), wr.cell? ⟨g, j, none⟩ = some (.int .i64 (s1.st[j]'(by rw [cm.sl]; exact h))) := fun j h => by
              have := (hgc j (by rw [cm.sl]; exact h) 0 (by decide)).1
              rw [Nat.mul_one, Nat.add_zero] at this
              exact this
            have hpv : ∀ j (h : j < ms1), (s1.st[j]'(by rw [cm.sl]; exact h) = (v : Int) ↔ j = P) := fun j h => by
              have e : s1.st[P]'(by rw [cm.sl]; omega) = (v : Int) := by
                simp only [hX]
                rw [List.getElem_append_right (by omega)]
                simp [hP]
              constructor
              · intro e2
                rcases Nat.lt_trichotomy j P with h3 | h3 | h3
                · have := (List.pairwise_iff_getElem.1 hli.ti.srt) j P (by rw [cm.sl]; exact h) (by rw [cm.sl]; omega) h3
                  rw [e2, e] at this
                  omega
                · exact h3
                · have := (List.pairwise_iff_getElem.1 hli.ti.srt) P j (by rw [cm.sl]; omega) (by rw [cm.sl]; exact h) h3
                  rw [e2, e] at this
                  omega
              · rintro rfl
                exact e
            have hsp : Sp wr g P ((v : Int) :: X) := fun i hi => by
              have hi' : i < X.length + 1 := hi
              rw [hget (P + i) (by omega)]
              congr 2
              simp only [hX]
              rw [List.getElem_append_right (by omega)]
              simp [hP]
            have hrg : ∀ x ∈ (v : Int) :: X, 0 ≤ x ∧ x < n := fun x hx => HSD.out.rng (hli.ti.vis x (by rw [hX]; exact List.mem_append_right _ hx))
            have hkn := fun m hm hmin => hli.knot hlw hX (m := m) hm hmin
            have hdj : ∀ x ∈ s.st, x ∉ (v : Int) :: X := fun x hx hx2 => by
              have hs := hli.ti.srt
              rw [hX, List.pairwise_append] at hs
              have := hs.2.2 x hx x hx2
              omega
            have HSP := Lib.hid hsp
            have HRG := Lib.hid hrg
            have HKN := Lib.hid hkn
            have HDJ := Lib.hid hdj
            have HSX := Lib.hid hX
            have HSP0 := Lib.hid hP
            have HGET := Lib.hid (fun j h => (⟨_, hget j h, hpv j h⟩ : ∃ y : Int, wr.cell? ⟨g, j, none⟩ = some (.int .i64 y) ∧ (y = (v : Int) ↔ j = P)))
            have CMD := Lib.hid cm
            obtain ⟨p, hp⟩ : ∃ p, s1.lw v = p := ⟨_, rfl⟩
            obtain ⟨q, hq⟩ : ∃ q, s1.ix v = q := ⟨_, rfl⟩
            rw [hp] at b0 hlw
            rw [hq] at a0 hlw
            have hd : decide (p < q) = false := decide_eq_false hlw
            clear hp hq cm hli HLI hget hpv hsp hrg hkn hX hdj hP hA2 hgc hcg
            go_wp2_with fail
            go_region
            all_goals
              have cmd := CMD.out.drewN 1
              have sp := Lib.hid (show Sp wr.drew g P ((v : Int) :: X) from HSP.out)
              have gt := Lib.hid (show ∀ j, j < ms1 → ∃ y : Int, wr.drew.cell? ⟨g, j, none⟩ = some (.int .i64 y) ∧ (y = (v : Int) ↔ j = P) from HGET.out)
              change CM w0 wr.drew n A c l Z SI SL SO SM T F (some ⟨g, 0, none⟩) ms1 cs1 s1 (onst s1) at cmd
              generalize wr.drew = wd at cmd sp gt ⊢
              clear CMD HSP HGET z3 z4 z5 zl a0 b0 hgl
              obtain ⟨⟨_, _, _, _, _, z5, _, _, _⟩, ⟨f5, _⟩, zl⟩ := cm_z cmd
              have CMD := Lib.hid cmd
              clear cmd
              go_upto_region 16 with fail
              have hms0 : (ms1 : Int) - 1 = ((ms1 - 1 : Nat) : Int) := by omega
              have hp0 : (0 : Int) ≤ (P : Int) := by omega
              have hp1 : (P : Int) ≤ (ms1 : Int) := by omega
              have hp2 : (ms1 : Int) ≤ (cs1 : Int) := by omega
              have hp3 : (P : Int) ≤ (cs1 : Int) := by omega
              go_loopw [7] (fun i wy => ∃ j : Nat, i = .int .i64 j ∧ P ≤ j ∧ j < ms1 ∧ wy = wd) (fun i _ => (intOf i).toNat)
              case atStart => exact ⟨ms1 - 1, by rw [show ((ms1 - 1 : Nat) : Int) = (P : Int) + ((X.length : Int) + 1) - 1 by omega], by omega, by omega, by trivial⟩
              case round =>
                obtain ⟨j, rfl, hj1, hj2, hjw⟩ := hrel
                subst hjw
                obtain ⟨y, hy, hyv⟩ := gt.out j hj2
                have hjm : (j : Int) < (ms1 : Int) := by omega
                by_cases hjp : j = P
                · have hyv' := hyv.2 hjp
                  subst hyv' hjp
                  have cm6 : CM w0 (wr.setCell ⟨Z, 5, none⟩ (.slice (some ⟨g, 0, none⟩) j cs1)) n A c l Z SI SL SO SM T F (some ⟨g, 0, none⟩) j cs1 ⟨s1.ix, s1.lw, s1.le, s.st, s1.nx⟩ (onst s1) := by
                    have e : s1.st.take j = s.st := by
                      rw [HSX.out]
                      exact List.take_left' HSP0.out
                    have h6 := CMD.out.cut (k := j) (by omega) rfl
                    rw [e] at h6
                    exact h6
                  have sp6 := sp.out.far (q := ⟨Z, 5, none⟩) (fun e => CMD.out.neZ.2.2.2.2.2.1 (by rw [show g = Z from e]; rfl)) (.slice (some ⟨g, 0, none⟩) j cs1)
                  have CM6 := Lib.hid cm6
                  have SP6 := Lib.hid sp6
                  clear cm6 sp6 gt hyv sp CMD hms0
                  go_upto_region 20 with fail
                  have cm6 := CM6.out
                  have sp6 := SP6.out
                  generalize wr.setCell ⟨Z, 5, none⟩ (.slice (some ⟨g, 0, none⟩) j cs1) = w6 at cm6 sp6 ⊢
                  have CM6 := Lib.hid cm6
                  have SP6 := Lib.hid sp6
                  clear cm6 sp6 z5 f5 zl hy hjm
                  have hxl : X.length + 1 ≤ 64 := by omega
                  go_upto_region 22 with fail
                  go_loopw [189, 9] (fun s189 s9 wy => ∃ i : Nat, i ≤ X.length + 1 ∧ s189 = .int .i64 i ∧ s9 = .int .i64 (mn v (((v : Int) :: X).take i)) ∧ CM w0 wy n A c l Z SI SL SO SM T F (some ⟨g, 0, none⟩) j cs1 ⟨s1.ix, s1.lw, s1.le, s.st, s1.nx⟩ (fun u => if u ∈ ((v : Int) :: X).take i then false else onst s1 u) ∧ Hid (Sp wy g j ((v : Int) :: X))) (fun s _ _ => X.length + 1 - (intOf s).toNat)
                  case atStart => exact ⟨0, Nat.zero_le _, rfl, rfl, by simpa using CM6.out, SP6⟩
                  case round =>
                    clear CM6 SP6
                    obtain ⟨i, hi2, rfl, rfl, cm, SP⟩ := hrel
                    by_cases hlt : i < X.length + 1
                    · have hil : i < ((v : Int) :: X).length := hlt
                      obtain ⟨u, hu⟩ : ∃ u, ((v : Int) :: X)[i] = u := ⟨_, rfl⟩
                      have hcu := SP.out i hil
                      have hur := HRG.out _ (List.getElem_mem hil)
                      rw [hu] at hcu hur
                      obtain ⟨u0, u1⟩ := hur
                      obtain ⟨u, rfl⟩ := Int.eq_ofNat_of_zero_le u0
                      have hun : u < n := by omega
                      obtain ⟨⟨_, _, _, _, _, _, z6, _, _⟩, _, zl⟩ := cm_z cm
                      obtain ⟨o0, o1⟩ := cm.on.cell hun
                      have hgo : g ≠ SO := fun e => cm.neZ.2.2.2.2.2.2.2.2.2.2.1 (by rw [e]; rfl)
                      have hts : ((v : Int) :: X).take (i + 1) = ((v : Int) :: X).take i ++ [(u : Int)] := by rw [List.take_succ_eq_append_getElem hil, hu]
                      obtain ⟨m, hm⟩ : ∃ m, mn v (((v : Int) :: X).take i) = m := ⟨_, rfl⟩
                      have hm2 : mn v (((v : Int) :: X).take (i + 1)) = if (u : Int) < m then (u : Int) else m := by rw [hts, mn_snoc, hm]; split <;> omega
                      have cm7 : CM w0 (wr.setCell ⟨SO, u, none⟩ (.bool false)) n A c l Z SI SL SO SM T F (some ⟨g, 0, none⟩) j cs1 ⟨s1.ix, s1.lw, s1.le, s.st, s1.nx⟩ (fun x => if x ∈ ((v : Int) :: X).take (i + 1) then false else onst s1 x) :=
                        (cm.setO hun false).same rfl rfl (fun _ _ => rfl) (fun _ _ => rfl) (fun _ _ => rfl) (fun x _ => by
                          rw [hts]
                          by_cases e : (x : Int) = (u : Int)
                          · simp [e]
                          · simp only [List.mem_append, List.mem_singleton, e, or_false, if_false])
                      have SP7 := Lib.hid (SP.out.far (q := ⟨SO, u, none⟩) hgo (.bool false))
                      have CM7 := Lib.hid cm7
                      have HM2 := Lib.hid hm2
                      have hxi : (i : Int) < (X.length : Int) + 1 := by omega
                      rw [hm]
                      generalize (if (u : Int) ∈ ((v : Int) :: X).take i then false else onst s1 u) = ob1 at o0
                      clear cm7 hm2 cm hu hts hil hm SP u0
                      go_wp2
                      go_roundw
                      case' rel => exact ⟨i + 1, by omega, by go_num, by rw [HM2.out], CM7.out, SP7⟩
                      case' measure => simp [intOf]; omega
                    · obtain rfl : i = X.length + 1 := by omega
                      rw [List.take_of_length_le (by simp)] at cm ⊢
                      obtain ⟨m, hm⟩ : ∃ m, mn v ((v : Int) :: X) = m := ⟨_, rfl⟩
                      have hmm : m ∈ (v : Int) :: X := by
                        rw [← hm]
                        rcases mn_mem (v := (v : Int)) (L := (v : Int) :: X) with h1 | h1
                        · rw [h1]; exact List.mem_cons_self ..
                        · exact h1
                      have hmn : ∀ x ∈ (v : Int) :: X, m ≤ x := by rw [← hm]; exact mn_le.2
                      have vp := HKN.out m hmm hmn
                      rw [hm]
                      have VP0 := Lib.hid vp
                      have CM6 := Lib.hid cm
                      clear vp hm hmm hmn cm
                      go_upto_region 28 with fail
                      go_loopw [205] (fun s205 wy => ∃ i : Nat, i ≤ X.length + 1 ∧ s205 = .int .i64 i ∧ CM w0 wy n A c l Z SI SL SO SM T F (some ⟨g, 0, none⟩) j cs1 ⟨s1.ix, s1.lw, fun u => if u ∈ ((v : Int) :: X).take i then m else s1.le u, s.st, s1.nx⟩ (fun u => if u ∈ (v : Int) :: X then false else onst s1 u) ∧ Hid (Sp wy g j ((v : Int) :: X))) (fun s _ => X.length + 1 - (intOf s).toNat)
                      case atStart => exact ⟨0, Nat.zero_le _, rfl, by simpa using CM6.out, SP⟩
                      case round =>
                        clear CM6 SP
                        obtain ⟨i, hi2, rfl, cm, SP⟩ := hrel
                        by_cases hlt : i < X.length + 1
                        · have hil : i < ((v : Int) :: X).length := hlt
                          obtain ⟨u, hu⟩ : ∃ u, ((v : Int) :: X)[i] = u := ⟨_, rfl⟩
                          have hcu := SP.out i hil
                          have hur := HRG.out _ (List.getElem_mem hil)
                          rw [hu] at hcu hur
                          obtain ⟨u0, u1⟩ := hur
                          obtain ⟨u, rfl⟩ := Int.eq_ofNat_of_zero_le u0
                          have hun : u < n := by omega
                          obtain ⟨⟨_, _, _, _, _, _, _, _, z8⟩, _, zl⟩ := cm_z cm
                          obtain ⟨o0, o1⟩ := cm.le.cell hun
                          have hgo : g ≠ SM := fun e => cm.sep.2.2 (by rw [e]; rfl)
                          have hts : ((v : Int) :: X).take (i + 1) = ((v : Int) :: X).take i ++ [(u : Int)] := by rw [List.take_succ_eq_append_getElem hil, hu]
                          have cm7 : CM w0 (wr.setCell ⟨SM, u, none⟩ (.int .i64 m)) n A c l Z SI SL SO SM T F (some ⟨g, 0, none⟩) j cs1 ⟨s1.ix, s1.lw, fun u => if u ∈ ((v : Int) :: X).take (i + 1) then m else s1.le u, s.st, s1.nx⟩ (fun u => if u ∈ (v : Int) :: X then false else onst s1 u) :=
                            (cm.setM hun m).same (s' := ⟨s1.ix, s1.lw, fun u => if u ∈ ((v : Int) :: X).take (i + 1) then m else s1.le u, s.st, s1.nx⟩) (on' := fun u => if u ∈ (v : Int) :: X then false else onst s1 u) rfl rfl (fun _ _ => rfl) (fun _ _ => rfl) (fun x _ => by
                              show up1 _ _ _ _ = if _ ∈ ((v : Int) :: X).take (i + 1) then _ else _
                              rw [hts]
                              unfold up1
                              by_cases e : (x : Int) = (u : Int)
                              · simp [e]
                              · simp only [List.mem_append, List.mem_singleton, e, or_false, if_false]) (fun _ _ => rfl)
                          have SP7 := Lib.hid (SP.out.far (q := ⟨SM, u, none⟩) hgo (.int .i64 m))
                          have CM7 := Lib.hid cm7
                          have hxi : (i : Int) < (X.length : Int) + 1 := by omega
                          simp only at o0
                          generalize (if (u : Int) ∈ ((v : Int) :: X).take i then m else s1.le u) = ob1 at o0
                          clear cm7 cm hu hts hil SP u0
                          go_wp2
                          go_roundw
                          case' rel => exact ⟨i + 1, by omega, by go_num, CM7.out, SP7⟩
                          case' measure => simp [intOf]; omega
                        · obtain rfl : i = X.length + 1 := by omega
                          rw [List.take_of_length_le (by simp)] at cm
                          have cme : CM w0 wr n A c l Z SI SL SO SM T F (some ⟨g, 0, none⟩) j cs1 (pop s.st ((v : Int) :: X) m s1) (onst (pop s.st ((v : Int) :: X) m s1)) := cm.same rfl rfl (fun _ _ => rfl) (fun _ _ => rfl) (fun _ _ => rfl) (fun x _ => by
                            show (if (x : Int) ∈ (v : Int) :: X then false else decide ((x : Int) ∈ s1.st)) = decide ((x : Int) ∈ s.st)
                            rw [HSX.out]
                            by_cases e : (x : Int) ∈ (v : Int) :: X
                            · rw [if_pos e, decide_eq_false (fun h => HDJ.out _ h e)]
                            · rw [if_neg e]
                              simp only [List.mem_append, e, or_false])
                          have CME := Lib.hid cme
                          clear cm cme
                          go_wp2
                          refine bodyPost_end (v := .tuple #[]) (by simp [results, Try.results48, go_sem]) rfl ?_
                          exact ⟨⟨_, rfl⟩, _, _, _, _, CME.out, VP0.out, ⟨HSD.out.cnt, HSD.out.out⟩⟩
                · have hjne : (y != (v : Int)) = true := by rw [bne_iff_ne]; exact fun e => hjp (hyv.1 e)
                  clear hyv
                  go_wp2
                  go_roundw
                  case' rel => exact ⟨j - 1, by rw [show ((j - 1 : Nat) : Int) = (j : Int) - 1 by omega], by omega, by omega, by trivial⟩
                  case' measure => simp [intOf]; omega
end Go.Proofs.Ytjhnlkmdkjlkdaa.Comp
