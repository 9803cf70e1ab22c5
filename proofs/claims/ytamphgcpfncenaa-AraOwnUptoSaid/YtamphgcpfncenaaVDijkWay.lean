/- The walk of dijk.Way. -/
import Derived.Test.YtamphgcpfncenaaVDijkWalks
import Derived.Test.YtamphgcpfncenaaVWayLaw
import Derived.Test.YtamphgcpfncenaaVSink
import Derived.Deep.RegionLaw
namespace Go.Proofs.Ytamphgcpfncenaa.DijkWay
open Go.RowKit Go.Proofs.Ytamphgcpfncenaa NetLaw BellLaw DijkLaw HeapLaw WayLaw Go.Proofs.Ytamphgcpfncenaa.Net Go.Proofs.Ytamphgcpfncenaa.Heap Go.Proofs.Ytamphgcpfncenaa.Std Go.Proofs.Ytamphgcpfncenaa.Dijk
set_option linter.unusedSimpArgs false
set_option linter.unusedVariables false
theorem infoIntW : (Try.prog.info? 3).map (fun i => (i.zero, i.size, i.bytes)) = some (some (.int .i64 0), 1, 8) := by kernel_rfl
theorem looks_zero {N : Int} {l : List E} {a b : Int} (h : Dijk.look N l [a, b] = 0) : NetLaw.Good N l ∧ (∀ e ∈ l, 1 ≤ e.2.2) ∧ (0 ≤ a ∧ a < N) ∧ 0 ≤ b ∧ b < N := by
  unfold Dijk.look at h
  split at h
  · rename_i h1; exact absurd h h1
  · rename_i h1
    obtain ⟨x, y⟩ := pos_zero (by simpa using h1)
    simp only [lookE] at h
    split at h
    · omega
    · split at h
      · omega
      · exact ⟨x, y, by omega, by omega⟩
/-- what Way answers -/
def WaySays (N : Int) (l : List E) (fr tt : Int) (w : World) (e : Ending) (w' : World) : Prop :=
  (Dijk.look N l [fr, tt] ≠ 0 → e = .returned (.tuple #[.agg #[.slice none 0 0, .int .i64 0], .int .i64 (Dijk.look N l [fr, tt])])) ∧
  (Dijk.look N l [fr, tt] = 0 → ∃ D, Sh N fr l D ∧ (dg D tt = far → e = .returned (.tuple #[.agg #[.slice none 0 0, .int .i64 0], .int .i64 5])) ∧
    (dg D tt < far → ∃ A c p, e = .returned (.tuple #[.agg #[.slice A p.length c, .int .i64 (dg D tt)], .int .i64 0]) ∧ Own w' w.heap.size 3 1 ci (.slice A p.length c) p ∧ Wy N.toNat l D fr tt p)) ∧ Below w.heap.size w w'

/-- the way back -/
structure Rl (w wr : World) (n : Nat) (A : Option Addr) (c : Nat) (l : List E) (S : Nat) (D : List Int) (t : Nat) (A' : Option Addr) (c' : Nat) (b : List Int) (v : Int) : Prop where
  own : Own wr w.heap.size 3 1 ci (.slice A' b.length c') b
  dist : Own wr w.heap.size 3 1 ci (.slice (some ⟨S, 0, none⟩) n n) D
  sep : ∀ x y, (Value.slice A' x y).ownBlock ≠ some S
  net : wr.heap[w.heap.size]? = some (.cells #[.int .i64 n, .slice A l.length c] 24 (0, 0))
  res : wr.heap[w.heap.size + 1]? = some (.cells #[.slice none 0 0, .int .i64 0] 36 (0, 0))
  lo : Below w.heap.size w wr
  bk : Bk n l D t v b
theorem Rl.keep {w wr wx : World} {n : Nat} {A : Option Addr} {c : Nat} {l : List E} {S : Nat} {D : List Int} {t : Nat} {A' : Option Addr} {c' : Nat} {b : List Int} {v : Int} (h : Rl w wr n A c l S D t A' c' b v) (hb : Below wr.heap.size wr wx) : Rl w wx n A c l S D t A' c' b v :=
  ⟨h.own.keep hb, h.dist.keep hb, h.sep, blk_below h.net hb (lt_of_block h.net), blk_below h.res hb (lt_of_block h.res), h.lo.trans (hb.mono h.lo.size), h.bk⟩
/-- the way turned -/
structure R3 (w wx : World) (X : Nat) (dt : Int) (A' : Option Addr) (c' : Nat) (b : List Int) (A3 : Option Addr) (c3 k : Nat) : Prop where
  back : Own wx w.heap.size 3 1 ci (.slice A' b.length c') b
  path : Own wx w.heap.size 3 1 ci (.slice A3 k c3) (b.reverse.take k)
  sep : ∀ x y x' y', (Value.slice A' x y).ownBlock ≠ (Value.slice A3 x' y').ownBlock
  box : wx.heap[X]? = some (.cells #[.slice A3 k c3, .int .i64 dt] 36 (0, 0))
  res : wx.heap[w.heap.size + 1]? = some (.cells #[.slice none 0 0, .int .i64 0] 36 (0, 0))
  lo : Below w.heap.size w wx
  hX : w.heap.size + 1 < X
theorem rev_take {b : List Int} {k : Nat} (hk : k < b.length) : b.reverse.take (k + 1) = b.reverse.take k ++ [b[b.length - 1 - k]'(by omega)] := by
  rw [List.take_succ_eq_append_getElem (by rw [List.length_reverse]; exact hk), List.getElem_reverse]

set_option maxRecDepth 100000 in
set_option maxHeartbeats 4000000 in
theorem way_any (N : Int) (A : Option Addr) (c : Nat) (l : List E) (fr tt : Int) (w : World) (hl : Sl w w.heap.size 3 ce A l) (hlen : l.length ≤ 9223372036854775807) :
    Calls Try.prog 34 #[.agg #[.int .i64 N, .slice A l.length c], .int .i64 fr, .int .i64 tt] w fun e w' => WaySays N l fr tt w e w' := by
  have hw0 : Below w.heap.size w (((w.alloc (.cells #[.int .i64 N, .slice A l.length c] 24)).alloc (.cells #[.slice none 0 0, .int .i64 0] 36)).alloc (.cells #[.int .i64 fr, .int .i64 tt] 3)) := (((Below.refl _ _).alloc (Nat.le_refl _) _).alloc (by simp) _).alloc (by simp; omega) _
  have hz0 : w.heap.size ≤ (((w.alloc (.cells #[.int .i64 N, .slice A l.length c] 24)).alloc (.cells #[.slice none 0 0, .int .i64 0] 36)).alloc (.cells #[.int .i64 fr, .int .i64 tt] 3)).heap.size := by simp; omega
  have hbox := blk_alloc (blk_alloc (heap_alloc_new w (.cells #[.int .i64 N, .slice A l.length c] 24)) (.cells #[.slice none 0 0, .int .i64 0] 36)) (.cells #[.int .i64 fr, .int .i64 tt] 3)
  have hres : (((w.alloc (.cells #[.int .i64 N, .slice A l.length c] 24)).alloc (.cells #[.slice none 0 0, .int .i64 0] 36)).alloc (.cells #[.int .i64 fr, .int .i64 tt] 3)).heap[w.heap.size + 1]? = some (.cells #[.slice none 0 0, .int .i64 0] 36 (0, 0)) := by
    have h := blk_alloc (heap_alloc_new (w.alloc (.cells #[.int .i64 N, .slice A l.length c] 24)) (.cells #[.slice none 0 0, .int .i64 0] 36)) (.cells #[.int .i64 fr, .int .i64 tt] 3)
    simpa using h
  have key := look_any N A c l (some ⟨w.heap.size + 1 + 1, 0, none⟩) 2 2 [fr, tt] _ ((hl.keep hw0 (Nat.le_refl _)).more hz0) (sl_new' (by decide) ((w.alloc (.cells #[.int .i64 N, .slice A l.length c] 24)).alloc (.cells #[.slice none 0 0, .int .i64 0] 36)) #[.int .i64 fr, .int .i64 tt] 3 [fr, tt] (by simp) rfl) rfl hlen (by decide)
  by_cases hx : Dijk.look N l [fr, tt] = 0
  · obtain ⟨hg, hc, ⟨f0, f1⟩, t0, t1⟩ := looks_zero hx
    rw [hx] at key
    have h1 := hg.lo
    have hN2 := hg.hi
    have h6 := hg.len
    obtain ⟨n, rfl⟩ := Int.eq_ofNat_of_zero_le (show 0 ≤ N by omega)
    obtain ⟨f, rfl⟩ := Int.eq_ofNat_of_zero_le f0
    obtain ⟨t, rfl⟩ := Int.eq_ofNat_of_zero_le t0
    have krun := fun W hs => run_any n f A c l W hs hg (by omega) (fun e he => by have := hc e he; omega)
    have hpv := fun (D : List Int) (v : Int) (hD : Sh n f l D) => pv_spec (v := v) hD hg hc
    obtain ⟨i0, hi, hz0i, hz1i, hz2i⟩ := info_parts infoIntW
    have KEY := Lib.hid key
    have KRUN := Lib.hid krun
    have HX := Lib.hid hx
    have HBOX := Lib.hid hbox
    have HRES := Lib.hid hres
    have HPV := Lib.hid hpv
    have HG := Lib.hid hg
    have HCC := Lib.hid hc
    clear key krun hx hbox hg hc hres hpv
    go_enter Try.func34, Try.ntmps34
    go_wp2_with fail
    refine KEY.out.mono ?_
    rintro e w1 ⟨rfl, hb1⟩
    have H1 := hw0.trans (hb1.mono hz0)
    have hb := blk_below HBOX.out hb1 (by simp; omega)
    have hr := blk_below HRES.out hb1 (by simp)
    have q0 := blk_cell hb 0
    have q1 := blk_cell hb 1
    simp only [List.getElem?_toArray, List.getElem?_cons_zero, List.getElem?_cons_succ] at q0 q1
    have HB := Lib.hid hb
    have HR := Lib.hid hr
    clear hb hr hb1
    go_wp2_with fail
    refine (KRUN.out _ ((hl.keep H1 (Nat.le_refl _)).more H1.size)).mono ?_
    rintro e w2 ⟨S, D, rfl, ho, hsh, hb2⟩
    have H2 := H1.trans (hb2.mono H1.size)
    have hS := (ho.base_ S rfl).1
    have hS2 := (ho.base_ S rfl).2
    have hb := blk_below HB.out hb2 (lt_of_block HB.out)
    have hr := blk_below HR.out hb2 (lt_of_block HR.out)
    have hwS := Nat.le_trans H1.size hS
    have ho2 := ho.mono H1.size
    have hDl := hsh.len
    have hDn : D.length = n := by omega
    have htn : t < n := by omega
    obtain ⟨dc, _⟩ := own_at1 hDn ho2 htn
    have hdt : D.getD t 0 = dg D (t : Int) := by rw [dg, Int.toNat_natCast]
    have htf := (hsh.lo t (by omega) (by omega)).2
    rw [hdt] at dc
    have r0 := blk_cell hr 0
    have r1 := blk_cell hr 1
    have rf0 := blk_free hr 0
    have rf1 := blk_free hr 1
    simp only [List.getElem?_toArray, List.getElem?_cons_zero, List.getElem?_cons_succ] at r0 r1
    have hzr : w.heap.size + 1 < w2.heap.size := lt_of_block hr
    have HO := Lib.hid ho2
    have HSH := Lib.hid hsh
    have HB2 := Lib.hid hb
    have HR2 := Lib.hid hr
    have HDT := Lib.hid hdt
    clear ho ho2 hsh hb hr hb2 HB HR q0 q1 hdt hDl
    by_cases hfar : dg D (t : Int) = far
    · have hfar' := hfar
      unfold far at hfar'
      rw [hfar'] at dc
      have HF := Lib.hid hfar
      clear hfar hfar' htf
      go_wp2
      refine bodyPost_ret (v := .tuple #[.agg #[.slice none 0 0, .int .i64 0], .int .i64 5]) (by simp [results, Try.results34, go_sem, hzr, r0, r1, rf0, rf1]) rfl ?_
      refine ⟨fun h => absurd HX.out h, fun _ => ⟨D, HSH.out, fun _ => rfl, fun h => by rw [HF.out] at h; exact absurd h (Int.lt_irrefl _)⟩, ?_⟩
      exact (H2.setCell (by dsimp only; omega) _).setCell (by dsimp only; omega) _
    · have hlt : dg D (t : Int) < far := by omega
      have hne5 : (dg D (t : Int) == 1099511627776) = false := by simp; exact hfar
      have HLT := Lib.hid hlt
      clear hfar hlt htf
      generalize hdv : dg D (t : Int) = dt at *
      have HDV := Lib.hid hdv
      clear hdv
      have bk0 : Own (w2.alloc (.cells #[.int .i64 t] 3)) w.heap.size 3 1 ci (.slice (some ⟨w2.heap.size, 0, none⟩) 1 1) [(t : Int)] := own_new' w2 _ _ rfl rfl (by omega) (by decide) rfl
      have rl0 : Rl w (w2.alloc (.cells #[.int .i64 t] 3)) n A c l S D t (some ⟨w2.heap.size, 0, none⟩) 1 [(t : Int)] t :=
        ⟨bk0, HO.out.alloc _, fun x y e => by simp [Value.ownBlock] at e; omega, blk_alloc HB2.out _, blk_alloc HR2.out _, H2.alloc H2.size _, Bk.one ⟨t0, t1⟩ (by rw [HDV.out]; exact HLT.out)⟩
      have RL0 := Lib.hid rl0
      have HDN := Lib.hid hDn
      clear bk0 rl0
      go_wp2
      clear HO HB2 HR2 hDn r0 r1 rf0 rf1 dc H1 H2
      go_loopw [10, 11] (fun s10 s11 wx => ∃ (A' : Option Addr) (c' : Nat) (b : List Int) (v : Int), s10 = .slice A' b.length c' ∧ s11 = .int .i64 v ∧ Rl w wx n A c l S D t A' c' b v) (fun _ s11 _ => (dg D (intOf s11)).toNat)
      case atStart => exact ⟨_, _, [(t : Int)], t, rfl, rfl, RL0.out⟩
      case round =>
        clear RL0
        obtain ⟨A', c', b, v, rfl, rfl, hr⟩ := hrel
        have n0 := blk_cell hr.net 0
        have n1 := blk_cell hr.net 1
        simp only [List.getElem?_toArray, List.getElem?_cons_zero, List.getElem?_cons_succ] at n0 n1
        have hzn := lt_of_block hr.net
        have hvin : v ∈ b := List.mem_of_getLast? hr.bk.last
        obtain ⟨v0, v1, _, vf⟩ := hr.bk.rng v hvin
        by_cases hvf : v = f
        · subst hvf
          have hd1 : ((f : Int) != (f : Int)) = false := by simp
          obtain ⟨dc, _⟩ := own_at1 HDN.out hr.dist htn
          have hgt : D.getD t 0 = dt := by rw [← HDV.out, dg, Int.toNat_natCast]
          rw [hgt] at dc
          have hSw := (hr.dist.base_ S rfl).2
          have hbl := hr.bk.len
          have hlen0 : (0 : Int) ≤ (b.length : Int) - 1 := by omega
          have HR := Lib.hid hr
          clear hgt hr hvin v0 v1 vf
          have r30 : R3 w (wr.alloc (.cells #[.slice none 0 0, .int .i64 dt] 36)) wr.heap.size dt A' c' b none 0 0 :=
            ⟨HR.out.own.alloc _, Own.nil_, fun x y x' y' e => by
              obtain ⟨S1, c1, e1, _⟩ := HR.out.own.some_ hbl.2
              have e2 : (Value.slice A' x y).ownBlock = (Value.slice A' b.length c').ownBlock := obs ..
              rw [e2, e1] at e
              simp [Value.ownBlock] at e, heap_alloc_new _ _, blk_alloc HR.out.res _, HR.out.lo.alloc HR.out.lo.size _, lt_of_block HR.out.res⟩
          have hway := HR.out.bk.way
          have R30 := Lib.hid r30
          have HWAY := Lib.hid hway
          clear r30 hway
          go_wp2
          clear HR n0 n1 hzn dc hSw
          generalize hX : wr.heap.size = X at *
          have HX2 := Lib.hid hX
          clear hX
          go_loopw [16] (fun s16 wx => ∃ (k : Nat) (A3 : Option Addr) (c3 : Nat), k ≤ b.length ∧ s16 = .int .i64 ((b.length : Int) - 1 - k) ∧ R3 w wx X dt A' c' b A3 c3 k) (fun s16 _ => (intOf s16 + 1).toNat)
          case atStart => exact ⟨0, none, 0, Nat.zero_le _, by simp, R30.out⟩
          case round =>
            clear R30
            obtain ⟨k, A3, c3, hk, rfl, hr⟩ := hrel
            have x0 := blk_cell hr.box 0
            have x1 := blk_cell hr.box 1
            have xf0 := blk_free hr.box 0
            have r0 := blk_cell hr.res 0
            have r1 := blk_cell hr.res 1
            have rf0 := blk_free hr.res 0
            have rf1 := blk_free hr.res 1
            simp only [List.getElem?_toArray, List.getElem?_cons_zero, List.getElem?_cons_succ] at x0 x1 r0 r1
            have hzX := lt_of_block hr.box
            have hzR := lt_of_block hr.res
            have hXr := hr.hX
            by_cases hlt : k < b.length
            · obtain ⟨m, hm⟩ : ∃ m : Nat, b.length - 1 - k = m := ⟨_, rfl⟩
              have hmi : (b.length : Int) - 1 - k = (m : Int) := by omega
              have hmb : m < b.length := by omega
              obtain ⟨sb, so, rfl, hsb, hbc⟩ := hr.back.sl.2.atI hmb
              have hnx := rev_take hlt
              have hbx : b[b.length - 1 - k]'(by omega) = b[m] := by congr 1
              rw [hbx] at hnx
              obtain ⟨x, hxb⟩ : ∃ x, x = b[m] := ⟨_, rfl⟩
              rw [← hxb] at hnx hbc
              have HXB := Lib.hid hxb
              clear hxb
              have hln : (b.reverse.take k).length = k := by rw [List.length_take, List.length_reverse]; omega
              have hown := hr.path
              have hrz := hr.lo.size
              have HR := Lib.hid hr
              have HNX := Lib.hid hnx
              have HLN := Lib.hid hln
              have HMI := Lib.hid hmi
              rw [hmi]
              clear hnx hln hr hbx hm hmi
              go_wp2
              refine Sink.wp_region_sink 6 9 (fun w' => w'.cell? ⟨X, 0, none⟩ = some (.slice A3 k c3) ∧ w'.cell? ⟨sb, so + m, none⟩ = some (.int .i64 x)) (by kernel_rfl) (by kernel_rfl) ?_ (fun hHeld => ?_)
              · go_keep
              simp only [List.take_succ_cons, List.take_zero, List.drop_succ_cons, List.drop_zero]
              repeat
                (refine Sink.Head.cons ?_ (by rfl) (fun w' hSw => ?_) ?_
                 rotate_left
                 · ((try dsimp only at hSw); go_split_ands; go_simp; try with_reducible rfl)
                 simp only [Act.put, List.setIfInBounds_toArray, List.set_cons_zero, List.set_cons_succ])
              refine Sink.Head.nil ?_
              refine Sink.Tail.cons (fun K hK => ?_)
              go_simp
              refine hK.out _ _ (by go_keep) (fun hH2 => ?_)
              clear hK K hHeld
              refine Sink.Tail.cons (fun K hK => ?_)
              refine step_push _ rfl (.tmp 92) (.tmp 97) _ rfl w.heap.size 3 i0 _ 1 8 ci Try.underlying34 hi hz0i hz1i hz2i rfl (by decide) _ (b.reverse.take k) k HLN.out rfl (hown.alloc _) wr.heap.size 1 x rfl (news1' (by simp)) (fun _ _ => one_ci _ _) (by omega) (by omega) (by simp; omega) ?_
              intro A4 c4 w4 hown4 hgrow4 hat4
              have hg4 : World.grownBy (wr.alloc (.cells #[.int .i64 x] 3)).drew w4 (Value.slice A3 k c3).ownBlock := hgrow4
              have ha4 : (Value.slice A4 (k + 1) c4).ownBlock = (Value.slice A3 k c3).ownBlock ∨ (Value.slice A4 (k + 1) c4).ownBlock = some (wr.alloc (.cells #[.int .i64 x] 3)).drew.heap.size := hat4
              have hX0 : (wr.alloc (.cells #[.int .i64 x] 3)).drew.heap[X]? = some (.cells #[.slice A3 k c3, .int .i64 dt] 36 (0, 0)) := blk_alloc HR.out.box _
              have hR0 : (wr.alloc (.cells #[.int .i64 x] 3)).drew.heap[w.heap.size + 1]? = some (.cells #[.slice none 0 0, .int .i64 0] 36 (0, 0)) := blk_alloc HR.out.res _
              have hb0 : Own (wr.alloc (.cells #[.int .i64 x] 3)).drew w.heap.size 3 1 ci (.slice (some ⟨sb, so, none⟩) b.length c') b := HR.out.back.alloc _
              have hl0 : Below w.heap.size w (wr.alloc (.cells #[.int .i64 x] 3)).drew := (HR.out.lo.alloc hrz _).drew
              have hsz0 : (wr.alloc (.cells #[.int .i64 x] 3)).drew.heap.size = wr.heap.size + 1 := by show (wr.alloc (.cells #[.int .i64 x] 3)).heap.size = _; simp
              have hX4 := blk_grown hX0 hg4 (hown.ne_ HR.out.box (by decide))
              have hR4 := blk_grown hR0 hg4 (hown.ne_ HR.out.res (by decide))
              have hb4 := hb0.kept hg4 (.inr (HR.out.sep _ _ _ _))
              obtain ⟨sb2, so2, es2, _, hc2⟩ := hb4.sl.2.atI hmb
              cases es2
              rw [← HXB.out] at hc2
              have y0 := blk_cell hX4 0
              have yf0 := blk_free hX4 0
              simp only [List.getElem?_toArray, List.getElem?_cons_zero, List.getElem?_cons_succ] at y0
              have hlo4 : Below w.heap.size w w4 := hl0.grown hg4 (by omega) hown.lo
              have hsep4 : ∀ x y x' y', (Value.slice (some ⟨sb, so, none⟩) x y).ownBlock ≠ (Value.slice A4 x' y').ownBlock := fun a1 a2 a3 a4 e => by
                have e4 : (Value.slice A4 a3 a4).ownBlock = (Value.slice A4 (k + 1) c4).ownBlock := obs ..
                rcases ha4 with h | h
                · rw [e4, h] at e
                  exact HR.out.sep _ _ _ _ e
                · rw [e4, h, hsz0] at e
                  simp [Value.ownBlock] at e
                  omega
              refine hK.out _ _ ⟨y0, hc2⟩ (fun hH3 => ?_)
              clear hK K hH2
              refine Sink.Tail.cons (fun K hK => ?_)
              go_simp
              refine hK.out _ _ hH3 (fun hH4 => ?_)
              clear hK K hH3
              refine Sink.Tail.one ?_
              have HN4 := Lib.hid hown4
              have HB4 := Lib.hid hb4
              have HX4 := Lib.hid hX4
              have HR4 := Lib.hid hR4
              have HS4 := Lib.hid hsep4
              have HL4 := Lib.hid hlo4
              clear hown4 hb4 hX4 hR4 hsep4 hlo4 hgrow4 hat4 hown hH4 hc2 hg4 ha4 hX0 hR0 hb0 hl0 hsz0
              go_wp2
              refine NoPanic.normal ?_
              go_wp2
              go_roundw
              case rel =>
                refine ⟨k + 1, A4, c4, by omega, by have := HMI.out; congr 1; omega, ?_⟩
                refine ⟨HB4.out.setCell (HB4.out.ne_ HX4.out (by decide)) _, ?_, HS4.out, blk_set HX4.out 0 _, blk_far HR4.out (by dsimp only; omega) _, HL4.out.setCell (by dsimp only; omega) _, hXr⟩
                rw [HNX.out]
                exact HN4.out.setCell (HN4.out.ne_ HX4.out (by decide)) _
              case measure =>
                have := HMI.out
                simp [intOf] <;> omega
            · obtain rfl : k = b.length := by omega
              have hm1 : (b.length : Int) - 1 - (b.length : Int) = -1 := by omega
              rw [hm1]
              have HR := Lib.hid hr
              have hne := hr.path.ne_ hr.res (by decide)
              have HNE := Lib.hid hne
              clear hm1 hr hne
              go_wp2
              refine bodyPost_ret (v := .tuple #[.agg #[.slice A3 b.length c3, .int .i64 dt], .int .i64 0]) (by simp [results, Try.results34, go_sem, hzR, r0, r1, rf0, rf1]) rfl ?_
              refine ⟨fun h => absurd HX.out h, fun _ => ⟨D, HSH.out, fun h => ?_, fun _ => ⟨A3, c3, b.reverse, by rw [List.length_reverse, HDV.out], ?_, by rw [Int.toNat_natCast]; exact HWAY.out⟩⟩, ?_⟩
              · have h2 := HLT.out
                rw [← HDV.out, h] at h2
                exact absurd h2 (Int.lt_irrefl _)
              · have hp := HR.out.path
                rw [List.take_of_length_le (by simp)] at hp
                rw [List.length_reverse]
                exact (hp.setCell HNE.out _).setCell HNE.out _
              · exact (HR.out.lo.setCell (by dsimp only; omega) _).setCell (by dsimp only; omega) _
        · have hne : (v != (f : Int)) = true := by rw [bne_iff_ne]; exact hvf
          obtain ⟨p1, p2, p3, p4⟩ := HPV.out D v HSH.out ⟨v0, v1⟩ vf hvf
          obtain ⟨v, rfl⟩ := Int.eq_ofNat_of_zero_le v0
          have hvn : v < n := by omega
          have hp0 : (n : Int) = pv n (l.take 0) D v := rfl
          have P1 := Lib.hid p1
          have P4 := Lib.hid p4
          have HP0 := Lib.hid hp0
          have VF := Lib.hid vf
          have HR := Lib.hid hr
          clear p1 p4 hp0 vf hvin hr v0 v1 hvf
          go_wp2
          go_loopw [12, 46] (fun s12 s46 wx => ∃ (k : Nat) (u : Int), k ≤ l.length ∧ s46 = .int .i64 k ∧ s12 = .int .i64 u ∧ Hid (u = pv n (l.take k) D v) ∧ Rl w wx n A c l S D t A' c' b v) (fun _ s46 _ => l.length - (intOf s46).toNat)
          case atStart => exact ⟨0, n, Nat.zero_le _, rfl, rfl, HP0, HR.out⟩
          case round =>
            clear HR n0 n1 hzn HP0
            obtain ⟨k, u, hk, rfl, rfl, hu, hr⟩ := hrel
            have n0 := blk_cell hr.net 0
            have n1 := blk_cell hr.net 1
            simp only [List.getElem?_toArray, List.getElem?_cons_zero, List.getElem?_cons_succ] at n0 n1
            have hzn := lt_of_block hr.net
            by_cases hlt : k < l.length
            · obtain ⟨bb, off, fe, te, co, rfl, hbB, he, hcf, hct, hcc⟩ := (hl.keep hr.lo (Nat.le_refl _)).atE hlt
              have hbw : bb < wr.heap.size := by omega
              have hen := HG.out.ends _ (List.getElem_mem hlt)
              have hco := HG.out.cost _ (List.getElem_mem hlt)
              rw [he] at hen hco
              obtain ⟨e0, e1, e2, e3⟩ := hen
              simp only at e0 e1 e2 e3 hco
              obtain ⟨fe, rfl⟩ := Int.eq_ofNat_of_zero_le e0
              obtain ⟨te, rfl⟩ := Int.eq_ofNat_of_zero_le e2
              have hfn : fe < n := by omega
              obtain ⟨dx, _⟩ := own_at1 HDN.out hr.dist hfn
              obtain ⟨dy, _⟩ := own_at1 HDN.out hr.dist hvn
              have hSw := (hr.dist.base_ S rfl).2
              have hlox := HSH.out.lo fe (by omega) (by omega)
              have hnx := pv_succ n l D v k hlt
              rw [he, ← hu.out] at hnx
              unfold pvS at hnx
              have hgx : D.getD fe 0 = dg D (fe : Int) := by rw [dg, Int.toNat_natCast]
              have hgy : D.getD v 0 = dg D (v : Int) := by rw [dg, Int.toNat_natCast]
              rw [hgx] at dx
              rw [hgy] at dy
              simp only at hnx
              have HNX := Lib.hid hnx
              clear hnx
              generalize dg D (fe : Int) = x at *
              generalize dg D (v : Int) = y at *
              have hE := hr.keep ((Below.refl _ _).alloc (Nat.le_refl _) (.cells #[.int .i64 fe, .int .i64 te, .int .i64 co] 27))
              have HE := Lib.hid hE
              unfold far at hlox
              obtain ⟨x0, x1⟩ := hlox
              obtain ⟨co0, co1⟩ := hco
              clear hE hr he hgx hgy e0 e2
              by_cases htv : te = v
              · have hb1 : ((te : Int) == (v : Int)) = true := by rw [beq_iff_eq]; omega
                by_cases hxy : x + co = y
                · have hb2 : (x + co == y) = true := by simp; exact hxy
                  have hu2 : pv n (l.take (k + 1)) D v = min u fe := by have := HNX.out; rwa [if_pos ⟨by omega, hxy⟩] at this
                  have HU := Lib.hid hu2
                  clear hxy hu2 htv
                  go_wp2
                  go_quiet (fail)
                  have HE2 := Lib.hid (HE.out.keep (below_drewN (Below.refl _ _) nq))
                  go_wp2
                  all_goals
                    go_roundw
                    case' rel => exact ⟨k + 1, _, by omega, by go_num, rfl, Lib.hid (by rw [HU.out]; omega), HE2.out⟩
                    case' measure => simp [intOf]; omega
                · have hb2 : (x + co == y) = false := by simp; exact hxy
                  have hu2 : pv n (l.take (k + 1)) D v = u := by have := HNX.out; rwa [if_neg (fun h => hxy h.2)] at this
                  have HU := Lib.hid hu2
                  clear hxy hu2 htv
                  go_wp2
                  go_quiet (fail)
                  have HE2 := Lib.hid (HE.out.keep (below_drewN (Below.refl _ _) nq))
                  go_wp2
                  go_roundw
                  case rel => exact ⟨k + 1, u, by omega, by go_num, rfl, Lib.hid HU.out.symm, HE2.out⟩
                  case measure => simp [intOf]; omega
              · have hb1 : ((te : Int) == (v : Int)) = false := by rw [beq_eq_false_iff_ne]; omega
                have hu2 : pv n (l.take (k + 1)) D v = u := by have := HNX.out; rwa [if_neg (fun h => htv (by have := h.1; omega))] at this
                have HU := Lib.hid hu2
                clear hu2 htv
                go_wp2
                go_quiet (fail)
                have HE2 := Lib.hid (HE.out.keep (below_drewN (Below.refl _ _) nq))
                go_wp2
                go_roundw
                case rel => exact ⟨k + 1, u, by omega, by go_num, rfl, Lib.hid HU.out.symm, HE2.out⟩
                case measure => simp [intOf]; omega
            · obtain rfl : k = l.length := by omega
              have hu' : u = pv n l D v := by rw [hu.out, List.take_length]
              have p1 := P1.out
              have p4 := P4.out
              rw [← hu'] at p1 p2 p3 p4
              have hlo := (HSH.out.lo u p2 p3).1
              have hbk := hr.bk.add p1 ⟨p2, p3⟩ p4 VF.out
              have hbl := hr.bk.len
              have hown := hr.own
              have hSw := (hr.dist.base_ S rfl).2
              have hrz := hr.lo.size
              have HR := Lib.hid hr
              have HBK := Lib.hid hbk
              have P5 := Lib.hid p4
              clear hu hu' p1 p4 hr hbk P1 P4
              go_wp2_with (at_builtin; refine wpList_push _ rfl (.tmp 74) (.tmp 76) _ rfl w.heap.size 3 i0 _ 1 8 ci Try.underlying34 hi hz0i hz1i hz2i rfl (by decide) _ b b.length rfl rfl (hown.alloc _) wr.heap.size 1 u rfl news1 (fun _ _ => one_ci _ _) (by omega) (by omega) (by simp; omega) ?_; intro A3 c3 w3 hown3 hgrow3 hat3)
              have r3 : Rl w w3 n A c l S D t A3 c3 (b ++ [u]) u := by
                refine ⟨by rw [List.length_append]; exact hown3, (HR.out.dist.alloc _).kept hgrow3 (.inr fun e => HR.out.sep _ _ e.symm), fun x y e => ?_, blk_grown (blk_alloc HR.out.net _) hgrow3 (hown.ne_ HR.out.net (by decide)), blk_grown (blk_alloc HR.out.res _) hgrow3 (hown.ne_ HR.out.res (by decide)), (HR.out.lo.alloc hrz _).grown hgrow3 (by simp; omega) hown.lo, HBK.out⟩
                rcases hat3 with h | h
                · rw [obs A3 x (b.length + 1) y c3, h] at e
                  exact HR.out.sep _ _ e
                · rw [obs A3 x (b.length + 1) y c3, h] at e
                  simp at e
                  omega
              have R3 := Lib.hid r3
              clear r3 hgrow3 hat3 hown3 hown
              go_roundw
              case rel => exact ⟨A3, c3, b ++ [u], u, by simp, rfl, R3.out⟩
              case measure =>
                have := P5.out
                simp [intOf]
                omega
  · have hne : (Dijk.look N l [fr, tt] != 0) = true := by rw [bne_iff_ne]; exact hx
    unfold WaySays
    generalize Dijk.look N l [fr, tt] = x at *
    have KEY := Lib.hid key
    have HRES := Lib.hid hres
    clear key hl hbox hres
    go_enter Try.func34, Try.ntmps34
    go_wp2_with fail
    refine KEY.out.mono ?_
    rintro e w1 ⟨rfl, hb1⟩
    have H1 := hw0.trans (hb1.mono hz0)
    have hr := blk_below HRES.out hb1 (by simp)
    have r0 := blk_cell hr 0
    have r1 := blk_cell hr 1
    have rf0 := blk_free hr 0
    have rf1 := blk_free hr 1
    simp only [List.getElem?_toArray, List.getElem?_cons_zero, List.getElem?_cons_succ] at r0 r1
    clear hb1 hr
    go_wp2
    refine bodyPost_ret (v := .tuple #[.agg #[.slice none 0 0, .int .i64 0], .int .i64 x]) (by simp [results, Try.results34, go_sem, r0, r1, rf0, rf1]) rfl ⟨fun _ => rfl, fun h => absurd h hx, ?_⟩
    first
      | exact (H1.setCell (by dsimp only; omega) _).setCell (by dsimp only; omega) _
      | exact H1
end Go.Proofs.Ytamphgcpfncenaa.DijkWay
