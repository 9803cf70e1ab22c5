/- For every net and two places: TwinFlow answers true (two ways at once are there just if two go through edges that bear one each), and the arguments read as before. No condition. -/
import Derived.Test.YtjhnlkmdkjlkdaaRows
import Derived.Test.YtjhnlkmdkjlkdaaOpen
import Derived.Test.YtjhnlkmdkjlkdaaTwinUse
import Derived.Test.YtjhnlkmdkjlkdaaTwinUnit
import Derived.Test.YtjhnlkmdkjlkdaaStdCE
import Derived.Test.YtjhnlkmdkjlkdaaRowSet
import Derived.Deep.RegionHeld3
import Derived.Deep.CutRange
import Derived.BigQuiet
namespace Go.Proofs.Ytjhnlkmdkjlkdaa.TwinFlowLaw
open Go.ChangeShapes Go.WideShapes Go.ChangeAt Go.RowKit Go.Proofs.Ytjhnlkmdkjlkdaa NetLaw FlowLaw TwinLaw Go.Proofs.Ytjhnlkmdkjlkdaa.Net Go.Proofs.Ytjhnlkmdkjlkdaa.Twin Go.Proofs.Ytjhnlkmdkjlkdaa.Std Go.Proofs.Ytjhnlkmdkjlkdaa.Refs Go.Proofs.Ytjhnlkmdkjlkdaa.Flow
set_option linter.unusedSimpArgs false
set_option linter.unusedVariables false

/-- what lies there once the net is copied over -/
structure Fd (w wx : World) (N : Int) (l : List E) (L H : Nat) (A7 : Option Addr) (c7 : Nat) : Prop where
  box : wx.heap[H]? = some (.cells #[.int .i64 N, .slice A7 L c7] 24 (0, 0))
  own : Own wx w.heap.size 30 3 ce (.slice A7 L c7) l
  below : Below w.heap.size w wx
theorem fd_set {w wd : World} {N : Int} {L b c7 H : Nat} {l : List E} {A7 : Option Addr} {cs : Array Value} (own : Own wd b 30 3 ce (.slice A7 L c7) l) (hb : w.heap.size ≤ b) (HB : Below w.heap.size w wd) (hX : w.heap.size ≤ H) (m : wd.heap[H]? = some (.cells cs 24 (0, 0))) (hcs : ∃ x y, cs = #[x, y]) :
    Fd w ((wd.setCell ⟨H, 0, none⟩ (.int .i64 N)).setCell ⟨H, 1, none⟩ (.slice A7 L c7)) N l L H A7 c7 := by
  have hne := own.ne_ m (by decide)
  obtain ⟨x, y, rfl⟩ := hcs
  exact ⟨blk_set (blk_set m 0 (.int .i64 N)) 1 (.slice A7 L c7), ((own.mono hb).setCell hne _).setCell hne _, (HB.setCell hX _).setCell hX _⟩

set_option maxRecDepth 100000 in
set_option maxHeartbeats 4000000 in
theorem walk (w : World) (N : Int) (A : Option Addr) (c : Nat) (l : List E) (hA : Arg w 3 ce A c l) (a : Int) (ha : -9223372036854775808 ≤ a ∧ a ≤ 9223372036854775807) (b : Int) (hb : -9223372036854775808 ≤ b ∧ b ≤ 9223372036854775807) :
    Calls Try.prog 8 #[.agg #[.int .i64 N, .slice A l.length c], .int .i64 a, .int .i64 b] w fun e w' => e = .returned (.bool true) ∧ Below w.heap.size w w' := by
  have hs := hA.sl
  have hnil := hA.nil
  have hll : l.length ≤ 9223372036854775807 := Nat.le_trans hA.cap hA.max
  clear hA ha hb
  have hw0 : Below w.heap.size w (w.alloc (.cells #[.int .i64 N, .slice A l.length c] 24)) := (Below.refl _ _).alloc (Nat.le_refl _) _
  have key0 := fun W g h => two_some 2 0 1 (some ⟨g, 0, none⟩) 2 l54 W h (by decide)
  have KEY0 := Lib.hid key0
  clear key0
  go_enter Try.func8, Try.ntmps8
  go_upto_region 2 with fail
  have e54 : Sl ((w.alloc (.cells #[.int .i64 N, .slice A l.length c] 24)).alloc (.cells #[.int .i64 0, .int .i64 1, .int .i64 5, .int .i64 0, .int .i64 1, .int .i64 4] 30)) ((w.alloc (.cells #[.int .i64 N, .slice A l.length c] 24)).alloc (.cells #[.int .i64 0, .int .i64 1, .int .i64 5, .int .i64 0, .int .i64 1, .int .i64 4] 30)).heap.size 3 ce (some ⟨w.heap.size + 1, 0, none⟩) l54 := by
    exact sl_new' (by decide) (w.alloc (.cells #[.int .i64 N, .slice A l.length c] 24)) #[.int .i64 0, .int .i64 1, .int .i64 5, .int .i64 0, .int .i64 1, .int .i64 4] 30 l54 (by simp) rfl
  have E54 := Lib.hid e54
  clear e54
  go_wp2_with fail
  refine (KEY0.out _ _ ((E54.out.keep ((Below.refl _ _).alloc (Nat.le_refl _) _) (Nat.le_refl _)).more (by simp))).mono ?_
  rintro e w2 ⟨A1, m1, c1, a1, A2, m2, c2, a2, er, rfl, hb2, F⟩
  obtain ⟨rfl, h9⟩ := tf54 F.out
  have hw9 : IntKind.i64.wrap (a1 + a2) = 9 := by rw [h9]; decide
  have hbA := hb2.mono (show w.heap.size + 1 + 1 + 1 ≤ _ by simp)
  go_upto_region 5 with fail
  have hb3 := (hb2.alloc hb2.size (.cells #[.slice A1 m1 c1, .int .i64 a1] 48)).alloc (by have := hb2.size; simp at this ⊢; omega) (.cells #[.slice A2 m2 c2, .int .i64 a2] 48)
  have hbox := blk_below (blk_alloc (blk_alloc (heap_alloc_new w (.cells #[.int .i64 N, .slice A l.length c] 24)) (.cells #[.int .i64 0, .int .i64 1, .int .i64 5, .int .i64 0, .int .i64 1, .int .i64 4] 30)) (.cells #[.int .i64 2, .slice (some ⟨w.heap.size + 1, 0, none⟩) 2 2] 24)) hb3 (by simp; omega)
  have hh := blk_below (heap_alloc_new ((w.alloc (.cells #[.int .i64 N, .slice A l.length c] 24)).alloc (.cells #[.int .i64 0, .int .i64 1, .int .i64 5, .int .i64 0, .int .i64 1, .int .i64 4] 30)) (.cells #[.int .i64 2, .slice (some ⟨w.heap.size + 1, 0, none⟩) 2 2] 24)) hb3 (by simp)
  have hlow : Below w.heap.size w ((w2.alloc (.cells #[.slice A1 m1 c1, .int .i64 a1] 48)).alloc (.cells #[.slice A2 m2 c2, .int .i64 a2] 48)) := ((hw0.alloc (by simp) _).alloc (by simp; omega) _).trans (hb3.mono (by simp; omega))
  generalize (w2.alloc (.cells #[.slice A1 m1 c1, .int .i64 a1] 48)).alloc (.cells #[.slice A2 m2 c2, .int .i64 a2] 48) = w3 at hbox hh hlow ⊢
  have hsz : ((w.alloc (.cells #[.int .i64 N, .slice A l.length c] 24)).alloc (.cells #[.int .i64 0, .int .i64 1, .int .i64 5, .int .i64 0, .int .i64 1, .int .i64 4] 30)).heap.size = w.heap.size + 1 + 1 := by simp
  rw [hsz] at hh
  obtain ⟨H, hH⟩ : ∃ H, H = w.heap.size + 1 + 1 := ⟨_, rfl⟩
  have hHw : w.heap.size < H := by omega
  rw [← hH] at hh ⊢
  clear hsz hH hb3 hb2 F h9 hw9 E54 KEY0 hw0
  have BX := Lib.hid hbox
  have HH := Lib.hid hh
  have LOW := Lib.hid hlow
  have q0 := blk_cell hbox 0
  have q1 := blk_cell hbox 1
  have h0 := blk_cell hh 0
  have h1 := blk_cell hh 1
  have hf0 := blk_free hh 0
  have hf1 := blk_free hh 1
  simp only [List.getElem?_toArray, List.getElem?_cons_zero, List.getElem?_cons_succ] at q0 q1 h0 h1
  have zB := lt_of_block hbox
  have zH := lt_of_block hh
  have hs3 := (hs.keep hlow (Nat.le_refl _)).more hlow.size
  clear hbox hh hlow
  have k5 := fun W h => two_some N a b A c l W h hll
  have K5 := Lib.hid k5
  clear k5
  by_cases hzz : Dijk.look N l [a, b] = 0 ∧ a ≠ b
  · obtain ⟨hz, hab⟩ := hzz
    obtain ⟨hg, hfz⟩ := ones_err hz hab
    have h6 := hg.len
    have hor := fun x y er (h : TF N l a b x y er) => (h.2.2 hz hab).elim (fun h => (.inr h.2.1 : er = 0 ∨ er = 5)) (fun h => .inl h.1)
    have kcl := fun (W : World) (h : Sl W W.heap.size 3 ce A l) => clone_edge A c l W.heap.size W h (Nat.le_refl _) hnil (by omega)
    have kmx := fun W A' c' h => max_some N a b A' c' (ones l) W h (by rw [ones_len]; exact hll)
    rw [ones_len] at kmx
    have hlaw := fun x y er v er' (h : TF N l a b x y er) (h' : Flow.MaxFact N a b (ones l) v er') => flow_law hz hab h h'
    have OR := Lib.hid hor
    have KCL := Lib.hid kcl
    have KMX := Lib.hid kmx
    have LAW := Lib.hid hlaw
    clear hor kcl kmx hlaw hz hab hg hnil hfz
    go_wp2_with fail
    refine (K5.out _ hs3).mono ?_
    rintro e w4 ⟨A1, m1, c1, a1, A2, m2, c2, b1, er1, rfl, hb4, F1⟩
    have hbx := hb4.alloc hb4.size (.cells #[.slice A1 m1 c1, .int .i64 a1] 48)
    have hb5 := hbx.alloc (by have := hb4.size; simp at this ⊢; omega) (.cells #[.slice A2 m2 c2, .int .i64 b1] 48)
    have bx5 := blk_below BX.out hb5 (lt_of_block BX.out)
    have hh5 := blk_below HH.out hb5 (lt_of_block HH.out)
    have low5 := LOW.out.trans (hb5.mono LOW.out.size)
    clear q0 q1 h0 h1 hf0 hf1 zB zH hs3 hbx hb5 hb4
    have hs5 := (hs.keep low5 (Nat.le_refl _)).more low5.size
    have BX5 := Lib.hid bx5
    have HH5 := Lib.hid hh5
    have LOW5 := Lib.hid low5
    clear bx5 hh5 low5 BX HH LOW
    rcases OR.out _ _ _ F1.out with rfl | rfl
    all_goals
      go_upto_region 8 with fail
      have hbx := BX5.out
      have hhh := HH5.out
      have hlo := LOW5.out
      clear BX5 HH5 LOW5
      generalize (w4.alloc (.cells #[.slice A1 m1 c1, .int .i64 a1] 48)).alloc (.cells #[.slice A2 m2 c2, .int .i64 b1] 48) = w5 at hbx hhh hlo hs5 ⊢
      have q0 := blk_cell hbx 0
      have q1 := blk_cell hbx 1
      simp only [List.getElem?_toArray, List.getElem?_cons_zero, List.getElem?_cons_succ] at q0 q1
      have zB := lt_of_block hbx
      have zH := lt_of_block hhh
      have HHH := Lib.hid hhh
      have HLO := Lib.hid hlo
      have hks : ∀ W, Below w5.heap.size w5 W → (W.cell? ⟨w.heap.size, 0, none⟩ = some (.int .i64 N) ∧ W.cell? ⟨w.heap.size, 1, none⟩ = some (.slice A l.length c)) := fun W hW =>
        ⟨(hW.cell (p := ⟨w.heap.size, 0, none⟩) zB).trans q0, (hW.cell (p := ⟨w.heap.size, 1, none⟩) zB).trans q1⟩
      have KS := Lib.hid hks
      have hsd : Sl w5.drew w5.drew.heap.size 3 ce A l := hs5
      have KC := Lib.hid (KCL.out w5.drew hsd)
      clear hbx hhh hlo hks hsd hs5
      go_cut [7] from 52 to 57 (fun s7 wx => ∃ (A7 : Option Addr) (c7 : Nat), s7 = .pointer (some ⟨H, 0, none⟩) ∧ Hid (Fd w wx N l l.length H A7 c7))
      case first =>
        go_region_held3 (fun w' => w'.cell? ⟨w.heap.size, 0, none⟩ = some (.int .i64 N) ∧ w'.cell? ⟨w.heap.size, 1, none⟩ = some (.slice A l.length c))
          (first
            | go_keep
            | exact ⟨p0, p1⟩
            | exact ⟨(World.cell?_setCell_far _ _ _ _ (by dsimp only; omega)).trans ((World.cell?_setCell_far _ _ _ _ (by dsimp only; omega)).trans p0), (World.cell?_setCell_far _ _ _ _ (by dsimp only; omega)).trans ((World.cell?_setCell_far _ _ _ _ (by dsimp only; omega)).trans p1)⟩)
          (first
            | (go_at_call 29; refine KC.out.mono ?_; rintro e wd ⟨A7, c7, rfl, own7, hb7⟩; have HB7 : Below w5.heap.size w5 wd := ((Below.refl _ _).drew.trans (hb7.mono (Nat.le_refl _))); obtain ⟨p0, p1⟩ := KS.out _ HB7; have m4 := blk_below HHH.out HB7 zH; have m40 := blk_cell m4 0; have m41 := blk_cell m4 1; have mf0 := blk_free m4 0; have mf1 := blk_free m4 1; simp only [List.getElem?_toArray, List.getElem?_cons_zero, List.getElem?_cons_succ] at m40 m41; have zH4 := lt_of_block m4))
        all_goals
          go_wp2_with fail
          go_meet
          refine ⟨A7, c7, rfl, Lib.hid ?_⟩
          exact fd_set own7 (HLO.out.size) (HLO.out.trans (HB7.mono HLO.out.size)) (by omega) m4 ⟨_, _, rfl⟩
      case rest =>
        obtain ⟨A7, c7, rfl, FD⟩ := hcut
        have x0 := blk_cell FD.out.box 0
        have x1 := blk_cell FD.out.box 1
        simp only [List.getElem?_toArray, List.getElem?_cons_zero, List.getElem?_cons_succ] at x0 x1
        have zX := lt_of_block FD.out.box
        clear q0 q1 zB zH HHH HLO KS KC
        go_wp2
        go_loopw [61] (fun i wr => ∃ k : Nat, k ≤ l.length ∧ i = .int .i64 k ∧ Hid (Fd w wr N (onk l k) l.length H A7 c7)) (fun i _ => l.length - (intOf i).toNat)
        case atStart => exact ⟨0, Nat.zero_le _, rfl, by rw [onk_zero]; exact FD⟩
        case round =>
          obtain ⟨k, hk, rfl, FK⟩ := hrel
          clear x0 x1 zX FD
          have x0 := blk_cell FK.out.box 0
          have x1 := blk_cell FK.out.box 1
          simp only [List.getElem?_toArray, List.getElem?_cons_zero, List.getElem?_cons_succ] at x0 x1
          have zX := lt_of_block FK.out.box
          by_cases hlt : k < l.length
          · obtain ⟨S, f, t, co, rfl, hS0, hS1, he, hcf, hct, hcc, g0, g1, g2⟩ := own_atE (onk_len l k) FK.out.own (show k < (onk l k).length by rw [onk_len]; exact hlt)
            have hXS : ¬ H = S := fun e => (FK.out.own.ne_ FK.out.box (by decide)) (by rw [e]; rfl)
            have he' := he
            rw [onk_get l k hlt] at he'
            have hset := own_setj (onk_len l k) FK.out.own k 2 (one1 l[k]) (by rw [onk_len]; exact hlt) (by decide) (fun q hq hne => by
              rw [he, he']
              match q, hq, hne with
              | 0, _, _ => rfl
              | 1, _, _ => rfl
              | 2, _, hne => exact absurd rfl hne)
            rw [onk_set l k hlt] at hset
            have hset' : Own (wr.setCell ⟨S, k * 3 + 2, none⟩ (.int .i64 1)) w.heap.size 30 3 ce (.slice (some ⟨S, 0, none⟩) l.length c7) (onk l (k + 1)) := hset
            have FK1 : Hid (Fd w (wr.setCell ⟨S, k * 3 + 2, none⟩ (.int .i64 1)) N (onk l (k + 1)) l.length H (some ⟨S, 0, none⟩) c7) := Lib.hid ⟨blk_far FK.out.box (by dsimp only; omega) _, hset', FK.out.below.setCell hS0 _⟩
            clear he he' hset hset' FK
            go_wp2
            go_roundw
            case rel => exact ⟨k + 1, by omega, by go_num, FK1⟩
            case measure => simp [intOf]; omega
          · obtain rfl : k = l.length := by omega
            rw [onk_all] at FK
            have hsl := FK.out.own.sl.2
            have km := KMX.out _ _ c7 hsl
            have KM := Lib.hid km
            have hlo := FK.out.below
            have LOW := Lib.hid hlo
            clear hsl km hlo FK
            go_wp2_with fail
            refine KM.out.mono ?_
            rintro e w9 ⟨v, A9, n9, c9, er9, rfl, hb9, F9⟩
            obtain ⟨he9, hv9⟩ := LAW.out _ _ _ _ _ F1.out F9.out
            subst he9
            have LOW9 := Lib.hid (LOW.out.trans (hb9.mono LOW.out.size))
            clear x0 x1 zX KM hb9 LOW
            rcases hv9 with ⟨e9, h9⟩ | ⟨e9, h9⟩
            · first
                | exact absurd e9 (by decide)
                | (have d9 : decide (v ≥ 2) = true := decide_eq_true h9
                   clear e9 h9
                   go_wp2_with fail
                   go_ret
                   exact ⟨by simp, LOW9.out⟩)
            · first
                | exact absurd e9 (by decide)
                | (have d9 : decide (v ≥ 2) = false := decide_eq_false (by omega)
                   clear e9 h9
                   go_wp2_with fail
                   go_ret
                   exact ⟨by simp, LOW9.out⟩)
  · have hne := fun x y er (h : TF N l a b x y er) => tf_bad hzz h
    have NE := Lib.hid hne
    clear hne hzz
    go_wp2_with fail
    refine (K5.out _ hs3).mono ?_
    rintro e w4 ⟨A1, m1, c1, a1, A2, m2, c2, b1, er1, rfl, hb4, F1⟩
    obtain ⟨e0, e5⟩ := NE.out _ _ _ F1.out
    have d0 : (er1 != 0) = true := by rw [bne_iff_ne]; exact e0
    have d5 : (er1 != 5) = true := by rw [bne_iff_ne]; exact e5
    clear q0 q1 zB h0 h1 hf0 hf1 zH e0 e5
    have hb7 := (hb4.alloc hb4.size (.cells #[.slice A1 m1 c1, .int .i64 a1] 48)).alloc (by have := hb4.size; simp at this ⊢; omega) (.cells #[.slice A2 m2 c2, .int .i64 b1] 48)
    have LOW7 := Lib.hid (LOW.out.trans (hb7.mono LOW.out.size))
    clear hb7 hb4 hs3
    go_wp2_with fail
    go_ret
    exact ⟨by simp, LOW7.out⟩

theorem own : ownKnob Try.prog.godebug = none := by kernel_rfl
theorem laidOut : laidOutB Try.prog = true := by kernel_rfl

set_option maxRecDepth 100000 in
theorem lifted (os : Os) (started : os.Started) (H : Type) (enc : TypeId × Value → H) :
    ReturnsInHanded {} Try.checked os 8 .any (Rows.twinFlowSpec.pre6 enc Try.prog Try.f8 Rows.twinFlowRow.domain false) (Rows.twinFlowSpec.post enc Try.prog Try.f8 false true false false) := by
  refine returnsInHanded_of_change (C := Try.checked) own started (by kernel_rfl) Try.func8
    (ChangeSpec.witness6 (enc := enc) (C := Try.checked) false ⟨#[], #[.agg #[.int .i64 0, .slice none 0 0], .int .i64 0, .int .i64 0], []⟩ 8 (by kernel_rfl) (by kernel_rfl) (by kernel_rfl) (by kernel_rfl)) ?_
  intro W base args ds gs before hval0 hW hcnd _
  have hval : ∀ (j : Nat) t v, Try.f8.params[j]? = some t → args[j]? = some v → Value.okWide Try.prog W .any base t v := hval0
  have hW' := hW
  obtain ⟨p, q, hA0, hV, rfl, hfz, hnd⟩ := hW
  have hA : DataW.TrodAll enc Try.prog W 0 (fun _ => true) true Try.f8.params.toList args.toList ds p := hA0
  rw [Try.params8] at hA hval
  obtain ⟨v0, vs0, d0, ds0, p0, q0, hargs, rfl, rfl, h0, r0⟩ := trodAll_cons hA
  obtain ⟨v1, vs1, d1, ds1, p1, q1, rfl, rfl, rfl, h1, r1⟩ := trodAll_cons r0
  obtain ⟨v2, vs2, d2, ds2, p2, q2, rfl, rfl, rfl, h2, r2⟩ := trodAll_cons r1
  obtain ⟨rfl, rfl, rfl⟩ := trodAll_nil r2
  obtain rfl : args = #[v0, v1, v2] := by cases args; simp_all
  obtain ⟨rfl, rfl⟩ := trodVars_none hV
  obtain ⟨N0, A0, c0, l0, dd0, rfl, hN0, hG0, hb0, rfl, hd0⟩ := open_net Try.underlying24 (by kernel_rfl) (by kernel_rfl) Try.underlying3 Try.underlying22 Try.underlying30 (by kernel_rfl) (by kernel_rfl) Try.underlying3 Try.underlying3 Try.underlying3 (hval 0 24 v0 rfl rfl) h0
  obtain ⟨a1, rfl, rfl, rfl, wa1⟩ := open_int Try.underlying3 (hval 1 3 v1 rfl rfl) h1
  obtain ⟨a2, rfl, rfl, rfl, wa2⟩ := open_int Try.underlying3 (hval 2 3 v2 rfl rfl) h2
  refine (walk W N0 A0 c0 l0 hG0 a1 (wf_bd wa1) a2 (wf_bd wa2)).mono fun e W' ⟨he, hB⟩ => ?_
  subst he
  exact ⟨_, rfl, post_of_law laidOut rfl Try.underlying4 rfl (by intro t ht; rw [Try.params8] at ht; simp at ht; rcases ht with rfl | rfl | rfl <;> exact ⟨by kernel_rfl, of_decide_eq_true (by kernel_rfl)⟩) hW' rfl hB⟩

theorem holds : Rows.TwinFlowSaid :=
  OpenClaim.holds_of_wide 8 Try.f8 rfl rfl rfl rfl rfl rfl rfl ⟨rfl, rfl, rfl, rfl, rfl⟩ rfl rfl rfl rfl rfl (by kernel_rfl) Try.func8 (by kernel_rfl)
    (of_decide_eq_true (by kernel_rfl)) (by unfold Func.isWrapper; first | (rw [if_pos (by decide +kernel)]; kernel_rfl) | (rw [if_neg (by decide +kernel)]; exact ⟨rfl, rfl⟩))
    (fun os started H enc _ => lifted os started H enc)
#print axioms holds
end Go.Proofs.Ytjhnlkmdkjlkdaa.TwinFlowLaw
