/- For every net and two places: TwinTurns answers true (two ways at once cost as much through the net turned round), and the arguments read as before. No condition. -/
import Derived.Test.YtjhnlkmdkjlkdaaRows
import Derived.Test.YtjhnlkmdkjlkdaaOpen
import Derived.Test.YtjhnlkmdkjlkdaaTwinUse
import Derived.Test.YtjhnlkmdkjlkdaaNetTurn
namespace Go.Proofs.Ytjhnlkmdkjlkdaa.TwinTurnsLaw
open Go.ChangeShapes Go.WideShapes Go.ChangeAt Go.RowKit Go.Proofs.Ytjhnlkmdkjlkdaa NetLaw FlowLaw TwinLaw Go.Proofs.Ytjhnlkmdkjlkdaa.Net Go.Proofs.Ytjhnlkmdkjlkdaa.Twin Go.Proofs.Ytjhnlkmdkjlkdaa.Std
set_option linter.unusedSimpArgs false
set_option linter.unusedVariables false

set_option maxRecDepth 100000 in
set_option maxHeartbeats 4000000 in
theorem walk (w : World) (N : Int) (A : Option Addr) (c : Nat) (l : List E) (hA : Arg w 3 ce A c l) (a : Int) (ha : -9223372036854775808 ≤ a ∧ a ≤ 9223372036854775807) (b : Int) (hb : -9223372036854775808 ≤ b ∧ b ≤ 9223372036854775807) :
    Calls Try.prog 7 #[.agg #[.int .i64 N, .slice A l.length c], .int .i64 a, .int .i64 b] w fun e w' => e = .returned (.bool true) ∧ Below w.heap.size w w' := by
  have hs := hA.sl
  have hll : l.length ≤ 9223372036854775807 := Nat.le_trans hA.cap hA.max
  clear hA ha hb
  have hw0 : Below w.heap.size w (w.alloc (.cells #[.int .i64 N, .slice A l.length c] 24)) := (Below.refl _ _).alloc (Nat.le_refl _) _
  have key0 := fun W g h => two_some 2 0 1 (some ⟨g, 0, none⟩) 2 l54 W h (by decide)
  have KEY0 := Lib.hid key0
  clear key0
  go_enter Try.func7, Try.ntmps7
  go_upto_region 2 with fail
  have e54 : Sl ((w.alloc (.cells #[.int .i64 N, .slice A l.length c] 24)).alloc (.cells #[.int .i64 0, .int .i64 1, .int .i64 5, .int .i64 0, .int .i64 1, .int .i64 4] 30)) ((w.alloc (.cells #[.int .i64 N, .slice A l.length c] 24)).alloc (.cells #[.int .i64 0, .int .i64 1, .int .i64 5, .int .i64 0, .int .i64 1, .int .i64 4] 30)).heap.size 3 ce (some ⟨w.heap.size + 1, 0, none⟩) l54 := by
    exact sl_new' (by decide) (w.alloc (.cells #[.int .i64 N, .slice A l.length c] 24)) #[.int .i64 0, .int .i64 1, .int .i64 5, .int .i64 0, .int .i64 1, .int .i64 4] 30 l54 (by simp) rfl
  have E54 := Lib.hid e54
  clear e54
  go_wp2_with fail
  refine (KEY0.out _ _ ((E54.out.keep ((Below.refl _ _).alloc (Nat.le_refl _) _) (Nat.le_refl _)).more (by simp))).mono ?_
  rintro e w2 ⟨A1, m1, c1, a1, A2, m2, c2, a2, er, rfl, hb2, F⟩
  obtain ⟨rfl, h9⟩ := tf54 F.out
  have hw9 : IntKind.i64.wrap (a1 + a2) = 9 := by rw [h9]; decide
  have hbA := hb2.mono (show w.heap.size + 1 + 1 + 1 ≤ _ by simp)
  go_upto_region 5 with fail
  have hb3 := (hb2.alloc hb2.size (.cells #[.slice A1 m1 c1, .int .i64 a1] 48)).alloc (by have := hb2.size; simp at this ⊢; omega) (.cells #[.slice A2 m2 c2, .int .i64 a2] 48)
  have hbox := blk_below (blk_alloc (blk_alloc (heap_alloc_new w (.cells #[.int .i64 N, .slice A l.length c] 24)) (.cells #[.int .i64 0, .int .i64 1, .int .i64 5, .int .i64 0, .int .i64 1, .int .i64 4] 30)) (.cells #[.int .i64 2, .slice (some ⟨w.heap.size + 1, 0, none⟩) 2 2] 24)) hb3 (by simp; omega)
  have hh := blk_below (heap_alloc_new ((w.alloc (.cells #[.int .i64 N, .slice A l.length c] 24)).alloc (.cells #[.int .i64 0, .int .i64 1, .int .i64 5, .int .i64 0, .int .i64 1, .int .i64 4] 30)) (.cells #[.int .i64 2, .slice (some ⟨w.heap.size + 1, 0, none⟩) 2 2] 24)) hb3 (by simp)
  have hlow : Below w.heap.size w ((w2.alloc (.cells #[.slice A1 m1 c1, .int .i64 a1] 48)).alloc (.cells #[.slice A2 m2 c2, .int .i64 a2] 48)) := ((hw0.alloc (by simp) _).alloc (by simp; omega) _).trans (hb3.mono (by simp; omega))
  generalize (w2.alloc (.cells #[.slice A1 m1 c1, .int .i64 a1] 48)).alloc (.cells #[.slice A2 m2 c2, .int .i64 a2] 48) = w3 at hbox hh hlow ⊢
  have hsz : ((w.alloc (.cells #[.int .i64 N, .slice A l.length c] 24)).alloc (.cells #[.int .i64 0, .int .i64 1, .int .i64 5, .int .i64 0, .int .i64 1, .int .i64 4] 30)).heap.size = w.heap.size + 1 + 1 := by simp
  rw [hsz] at hh
  obtain ⟨H, hH⟩ : ∃ H, H = w.heap.size + 1 + 1 := ⟨_, rfl⟩
  have hHw : w.heap.size < H := by omega
  rw [← hH] at hh ⊢
  clear hsz hH hb3 hb2 F h9 hw9 E54 KEY0 hw0
  have BX := Lib.hid hbox
  have HH := Lib.hid hh
  have LOW := Lib.hid hlow
  have q0 := blk_cell hbox 0
  have q1 := blk_cell hbox 1
  have h0 := blk_cell hh 0
  have h1 := blk_cell hh 1
  have hf0 := blk_free hh 0
  have hf1 := blk_free hh 1
  simp only [List.getElem?_toArray, List.getElem?_cons_zero, List.getElem?_cons_succ] at q0 q1 h0 h1
  have zB := lt_of_block hbox
  have zH := lt_of_block hh
  have hs3 := (hs.keep hlow (Nat.le_refl _)).more hlow.size
  clear hbox hh hlow
  by_cases hg : NetLaw.Good N l
  · have hN1 := hg.lo
    have hN2 := hg.hi
    obtain ⟨n, rfl⟩ := Int.eq_ofNat_of_zero_le (show 0 ≤ N by omega)
    have k2 := fun W h => turn_yes n A c l W h hg
    have k5 := fun W h => two_some n a b A c l W h hll
    have k6 := fun W A' c' h => two_some n b a A' c' (tl l) W h (by rw [tl_len]; exact hll)
    have hlaw := fun x y er x' y' er' (h : TF n l a b x y er) (h' : TF n (tl l) b a x' y' er') => tf_turn hg h h'
    have hln := tl_len l
    have K2 := Lib.hid k2
    have K5 := Lib.hid k5
    have K6 := Lib.hid k6
    have LAW := Lib.hid hlaw
    clear k2 k5 k6 hg hlaw
    generalize tl l = lt at *
    have HLN := Lib.hid hln
    clear hln
    go_wp2_with fail
    refine (K2.out _ hs3).mono ?_
    rintro e w4 ⟨A5, c5, rfl, own4, hb4⟩
    have bx4 := blk_below BX.out hb4 (lt_of_block BX.out)
    have hh4 := blk_below HH.out hb4 (lt_of_block HH.out)
    have low4 := LOW.out.trans (hb4.mono LOW.out.size)
    have hneH := own4.ne_ hh4 (by decide)
    clear q0 q1 h0 h1 hf0 hf1 zB zH hs3
    have hf0 := blk_free hh4 0
    have hf1 := blk_free hh4 1
    have h0 := blk_cell hh4 0
    have h1 := blk_cell hh4 1
    simp only [List.getElem?_toArray, List.getElem?_cons_zero, List.getElem?_cons_succ] at h0 h1
    have zH := lt_of_block hh4
    have bx5 : ((w4.setCell ⟨H, 0, none⟩ (.int .i64 n)).setCell ⟨H, 1, none⟩ (.slice A5 lt.length c5)).heap[w.heap.size]? = _ := blk_far (blk_far bx4 (by dsimp only; omega) _) (by dsimp only; omega) _
    have hh5 := blk_set (blk_set hh4 0 (.int .i64 n)) 1 (.slice A5 lt.length c5)
    have own5 := (own4.setCell hneH (.int .i64 n) (p := ⟨H, 0, none⟩)).setCell hneH (.slice A5 lt.length c5) (p := ⟨H, 1, none⟩)
    have low5 := (low4.setCell (p := ⟨H, 0, none⟩) (by dsimp only; omega) (.int .i64 n)).setCell (p := ⟨H, 1, none⟩) (by dsimp only; omega) (.slice A5 lt.length c5)
    have BX5 := Lib.hid bx5
    have HH5 := Lib.hid hh5
    have OWN5 := Lib.hid own5
    have LOW5 := Lib.hid low5
    clear bx4 hh4 low4 hneH bx5 hh5 own5 low5 own4 hb4 BX HH LOW
    go_upto_region 6 with fail
    clear hf0 hf1 h0 h1 zH
    have hbx := BX5.out
    have hhh := HH5.out
    have hlo := LOW5.out
    have hs5 := (hs.keep LOW5.out (Nat.le_refl _)).more LOW5.out.size
    have hsl5 := (OWN5.out.sl).2
    clear BX5 HH5 OWN5 LOW5
    generalize (w4.setCell ⟨H, 0, none⟩ (.int .i64 n)).setCell ⟨H, 1, none⟩ (.slice A5 lt.length c5) = w5 at hbx hhh hlo hs5 hsl5 ⊢
    have BX := Lib.hid hbx
    have HH := Lib.hid hhh
    have LOW := Lib.hid hlo
    have q0 := blk_cell hbx 0
    have q1 := blk_cell hbx 1
    simp only [List.getElem?_toArray, List.getElem?_cons_zero, List.getElem?_cons_succ] at q0 q1
    have zB := lt_of_block hbx
    have SL5 := Lib.hid hsl5
    clear hbx hhh hlo hsl5
    go_wp2_with fail
    refine (K5.out _ hs5).mono ?_
    rintro e w6 ⟨A1, m1, c1, a1, A2, m2, c2, b1, er1, rfl, hb6, F1⟩
    have bx6 := blk_below BX.out hb6 (lt_of_block BX.out)
    have hh6 := blk_below HH.out hb6 (lt_of_block HH.out)
    have low6 := LOW.out.trans (hb6.mono LOW.out.size)
    have s6 := SL5.out.keep hb6 (Nat.le_refl _)
    clear q0 q1 zB
    go_upto_region 7 with fail
    have hb7 := (hb6.alloc hb6.size (.cells #[.slice A1 m1 c1, .int .i64 a1] 48)).alloc (by have := hb6.size; simp at this ⊢; omega) (.cells #[.slice A2 m2 c2, .int .i64 b1] 48)
    have hh7 := blk_alloc (blk_alloc hh6 (.cells #[.slice A1 m1 c1, .int .i64 a1] 48)) (.cells #[.slice A2 m2 c2, .int .i64 b1] 48)
    have hlo7 := LOW.out.trans (hb7.mono LOW.out.size)
    have hwa := blk_alloc (heap_alloc_new w6 (.cells #[.slice A1 m1 c1, .int .i64 a1] 48)) (.cells #[.slice A2 m2 c2, .int .i64 b1] 48)
    have hwb := heap_alloc_new (w6.alloc (.cells #[.slice A1 m1 c1, .int .i64 a1] 48)) (.cells #[.slice A2 m2 c2, .int .i64 b1] 48)
    have hsl7 := SL5.out.keep hb7 (Nat.le_refl _)
    have hsz : (w6.alloc (.cells #[.slice A1 m1 c1, .int .i64 a1] 48)).heap.size = w6.heap.size + 1 := by simp
    rw [hsz] at hwb
    have z7 : ((w6.alloc (.cells #[.slice A1 m1 c1, .int .i64 a1] 48)).alloc (.cells #[.slice A2 m2 c2, .int .i64 b1] 48)).heap.size = w6.heap.size + 1 + 1 := by simp
    generalize (w6.alloc (.cells #[.slice A1 m1 c1, .int .i64 a1] 48)).alloc (.cells #[.slice A2 m2 c2, .int .i64 b1] 48) = w7 at hb7 hh7 hlo7 hwa hwb hsl7 z7 ⊢
    have HH7 := Lib.hid hh7
    have LOW7 := Lib.hid hlo7
    have WA := Lib.hid hwa
    have WB := Lib.hid hwb
    have hsl8 := hsl7.more (show w5.heap.size ≤ w7.heap.size from hb7.size)
    have q0 := blk_cell hh7 0
    have q1 := blk_cell hh7 1
    simp only [List.size_toArray, Array.getElem?_setIfInBounds, Array.set!, List.setIfInBounds_toArray, List.set_cons_zero, List.set_cons_succ, List.getElem?_toArray, List.getElem?_cons_zero, List.getElem?_cons_succ] at q0 q1
    have zH := lt_of_block hh7
    have z5 := lt_of_block hwa
    have z6 := lt_of_block hwb
    clear hb7 hh7 hlo7 hwa hwb hsl7 z7 hsz BX HH LOW SL5 bx6 hh6 low6 s6 hb6 hs5
    go_upto_region 9 with fail
    go_wp2_with fail
    refine (K6.out _ _ _ hsl8).mono ?_
    rintro e w8 ⟨A3, m3, c3, a3, A4, m4, c4, b3, er3, rfl, hb8, F3⟩
    obtain ⟨rfl, hsum⟩ := LAW.out _ _ _ _ _ _ F1.out F3.out
    generalize hv : IntKind.i64.wrap (a1 + b1) = v
    have hv3 : IntKind.i64.wrap (a3 + b3) = v := by rw [← hsum]; exact hv
    go_upto_region 10 with fail
    have hb9 := (hb8.alloc hb8.size (.cells #[.slice A3 m3 c3, .int .i64 a3] 48)).alloc (by have := hb8.size; simp at this ⊢; omega) (.cells #[.slice A4 m4 c4, .int .i64 b3] 48)
    have wa9 := blk_below WA.out hb9 (lt_of_block WA.out)
    have wb9 := blk_below WB.out hb9 (lt_of_block WB.out)
    have wc9 := blk_alloc (heap_alloc_new w8 (.cells #[.slice A3 m3 c3, .int .i64 a3] 48)) (.cells #[.slice A4 m4 c4, .int .i64 b3] 48)
    have wd9 := heap_alloc_new (w8.alloc (.cells #[.slice A3 m3 c3, .int .i64 a3] 48)) (.cells #[.slice A4 m4 c4, .int .i64 b3] 48)
    have hsz : (w8.alloc (.cells #[.slice A3 m3 c3, .int .i64 a3] 48)).heap.size = w8.heap.size + 1 := by simp
    rw [hsz] at wd9
    have hlo9 := LOW7.out.trans (hb9.mono LOW7.out.size)
    generalize (w8.alloc (.cells #[.slice A3 m3 c3, .int .i64 a3] 48)).alloc (.cells #[.slice A4 m4 c4, .int .i64 b3] 48) = w9 at hb9 wa9 wb9 wc9 wd9 hlo9 ⊢
    have LOW9 := Lib.hid hlo9
    have r0 := blk_cell wa9 1
    have r1 := blk_cell wb9 1
    have r2 := blk_cell wc9 1
    have r3 := blk_cell wd9 1
    simp only [List.getElem?_toArray, List.getElem?_cons_zero, List.getElem?_cons_succ] at r0 r1 r2 r3
    have y0 := lt_of_block wa9
    have y1 := lt_of_block wb9
    have y2 := lt_of_block wc9
    have y3 := lt_of_block wd9
    clear hb9 wa9 wb9 wc9 wd9 hlo9 hsz q0 q1 zH z5 z6 hsum hsl8 hb8
    go_wp2_with fail
    go_ret
    exact ⟨by simp, LOW9.out⟩
  · have hne : (chk N l != 0) = true := by rw [bne_iff_ne]; exact fun h => hg (chk_zero.1 h)
    have k2 := fun W h => turn_no N A c l W h hll hg
    have k5 := fun W h => two_some N a b A c l W h hll
    have hch := fun x y er (h : TF N l a b x y er) => tf_chk (fun e => hg (chk_zero.1 e)) h
    have K2 := Lib.hid k2
    have K5 := Lib.hid k5
    have CHK := Lib.hid hch
    clear k2 k5 hg hch
    generalize chk N l = ch at *
    go_wp2_with fail
    refine (K2.out _ hs3).mono ?_
    rintro e w4 ⟨rfl, hb4⟩
    have bx4 := blk_below BX.out hb4 (lt_of_block BX.out)
    have hh4 := blk_below HH.out hb4 (lt_of_block HH.out)
    have low4 := LOW.out.trans (hb4.mono LOW.out.size)
    clear q0 q1 h0 h1 hf0 hf1 zB zH hs3
    have hf0 := blk_free hh4 0
    have hf1 := blk_free hh4 1
    have h0 := blk_cell hh4 0
    have h1 := blk_cell hh4 1
    simp only [List.getElem?_toArray, List.getElem?_cons_zero, List.getElem?_cons_succ] at h0 h1
    have zH := lt_of_block hh4
    have bx5 : ((w4.setCell ⟨H, 0, none⟩ (.int .i64 0)).setCell ⟨H, 1, none⟩ (.slice none 0 0)).heap[w.heap.size]? = _ := blk_far (blk_far bx4 (by dsimp only; omega) _) (by dsimp only; omega) _
    have low5 := (low4.setCell (p := ⟨H, 0, none⟩) (by dsimp only; omega) (.int .i64 0)).setCell (p := ⟨H, 1, none⟩) (by dsimp only; omega) (.slice none 0 0)
    have BX5 := Lib.hid bx5
    have LOW5 := Lib.hid low5
    clear bx4 hh4 low4 bx5 low5 hb4 BX HH LOW
    go_upto_region 6 with fail
    clear hf0 hf1 h0 h1 zH
    have hbx := BX5.out
    have hlo := LOW5.out
    have hs5 := (hs.keep LOW5.out (Nat.le_refl _)).more LOW5.out.size
    clear BX5 LOW5
    generalize (w4.setCell ⟨H, 0, none⟩ (.int .i64 0)).setCell ⟨H, 1, none⟩ (.slice none 0 0) = w5 at hbx hlo hs5 ⊢
    have LOW := Lib.hid hlo
    have q0 := blk_cell hbx 0
    have q1 := blk_cell hbx 1
    simp only [List.getElem?_toArray, List.getElem?_cons_zero, List.getElem?_cons_succ] at q0 q1
    have zB := lt_of_block hbx
    clear hbx hlo
    go_wp2_with fail
    refine (K5.out _ hs5).mono ?_
    rintro e w6 ⟨A1, m1, c1, a1, A2, m2, c2, b1, er1, rfl, hb6, F1⟩
    obtain rfl := CHK.out _ _ _ F1.out
    clear q0 q1 zB
    have hb7 := (hb6.alloc hb6.size (.cells #[.slice A1 m1 c1, .int .i64 a1] 48)).alloc (by have := hb6.size; simp at this ⊢; omega) (.cells #[.slice A2 m2 c2, .int .i64 b1] 48)
    have LOW7 := Lib.hid (LOW.out.trans (hb7.mono LOW.out.size))
    clear hb7 hb6 hs5
    go_wp2_with fail
    go_ret
    exact ⟨by simp, LOW7.out⟩

theorem own : ownKnob Try.prog.godebug = none := by kernel_rfl
theorem laidOut : laidOutB Try.prog = true := by kernel_rfl

set_option maxRecDepth 100000 in
theorem lifted (os : Os) (started : os.Started) (H : Type) (enc : TypeId × Value → H) :
    ReturnsInHanded {} Try.checked os 7 .any (Rows.twinTurnsSpec.pre6 enc Try.prog Try.f7 Rows.twinTurnsRow.domain false) (Rows.twinTurnsSpec.post enc Try.prog Try.f7 false true false false) := by
  refine returnsInHanded_of_change (C := Try.checked) own started (by kernel_rfl) Try.func7
    (ChangeSpec.witness6 (enc := enc) (C := Try.checked) false ⟨#[], #[.agg #[.int .i64 0, .slice none 0 0], .int .i64 0, .int .i64 0], []⟩ 8 (by kernel_rfl) (by kernel_rfl) (by kernel_rfl) (by kernel_rfl)) ?_
  intro W base args ds gs before hval0 hW hcnd _
  have hval : ∀ (j : Nat) t v, Try.f7.params[j]? = some t → args[j]? = some v → Value.okWide Try.prog W .any base t v := hval0
  have hW' := hW
  obtain ⟨p, q, hA0, hV, rfl, hfz, hnd⟩ := hW
  have hA : DataW.TrodAll enc Try.prog W 0 (fun _ => true) true Try.f7.params.toList args.toList ds p := hA0
  rw [Try.params7] at hA hval
  obtain ⟨v0, vs0, d0, ds0, p0, q0, hargs, rfl, rfl, h0, r0⟩ := trodAll_cons hA
  obtain ⟨v1, vs1, d1, ds1, p1, q1, rfl, rfl, rfl, h1, r1⟩ := trodAll_cons r0
  obtain ⟨v2, vs2, d2, ds2, p2, q2, rfl, rfl, rfl, h2, r2⟩ := trodAll_cons r1
  obtain ⟨rfl, rfl, rfl⟩ := trodAll_nil r2
  obtain rfl : args = #[v0, v1, v2] := by cases args; simp_all
  obtain ⟨rfl, rfl⟩ := trodVars_none hV
  obtain ⟨N0, A0, c0, l0, dd0, rfl, hN0, hG0, hb0, rfl, hd0⟩ := open_net Try.underlying24 (by kernel_rfl) (by kernel_rfl) Try.underlying3 Try.underlying22 Try.underlying30 (by kernel_rfl) (by kernel_rfl) Try.underlying3 Try.underlying3 Try.underlying3 (hval 0 24 v0 rfl rfl) h0
  obtain ⟨a1, rfl, rfl, rfl, wa1⟩ := open_int Try.underlying3 (hval 1 3 v1 rfl rfl) h1
  obtain ⟨a2, rfl, rfl, rfl, wa2⟩ := open_int Try.underlying3 (hval 2 3 v2 rfl rfl) h2
  refine (walk W N0 A0 c0 l0 hG0 a1 (wf_bd wa1) a2 (wf_bd wa2)).mono fun e W' ⟨he, hB⟩ => ?_
  subst he
  exact ⟨_, rfl, post_of_law laidOut rfl Try.underlying4 rfl (by intro t ht; rw [Try.params7] at ht; simp at ht; rcases ht with rfl | rfl | rfl <;> exact ⟨by kernel_rfl, of_decide_eq_true (by kernel_rfl)⟩) hW' rfl hB⟩

theorem holds : Rows.TwinTurnsSaid :=
  OpenClaim.holds_of_wide 7 Try.f7 rfl rfl rfl rfl rfl rfl rfl ⟨rfl, rfl, rfl, rfl, rfl⟩ rfl rfl rfl rfl rfl (by kernel_rfl) Try.func7 (by kernel_rfl)
    (of_decide_eq_true (by kernel_rfl)) (by unfold Func.isWrapper; first | (rw [if_pos (by decide +kernel)]; kernel_rfl) | (rw [if_neg (by decide +kernel)]; exact ⟨rfl, rfl⟩))
    (fun os started H enc _ => lifted os started H enc)
#print axioms holds
end Go.Proofs.Ytjhnlkmdkjlkdaa.TwinTurnsLaw
