/- For every net and order of edges of bulk at most 2^20: SpanLeast answers true (of any edges those that are needed, taken in any order, cost no less than Kruskal's), and the arguments read as before. -/
import Derived.Test.YtdpjbjgecmnmnaaRows
import Derived.Test.YtdpjbjgecmnmnaaOpen
import Derived.Test.YtdpjbjgecmnmnaaBulk
import Derived.Test.YtdpjbjgecmnmnaaSpanPick
import Derived.Deep.RegionHeld3
import Derived.BigQuiet
import Derived.SizedLaws
namespace Go.Proofs.Ytdpjbjgecmnmnaa.SpanLeastLaw
open Go.ChangeShapes Go.WideShapes Go.ChangeAt Go.RowKit Go.Proofs.Ytdpjbjgecmnmnaa NetLaw SpanLaw Go.Proofs.Ytdpjbjgecmnmnaa.Net Go.Proofs.Ytdpjbjgecmnmnaa.Span Go.Proofs.Ytdpjbjgecmnmnaa.Refs Go.Proofs.Ytdpjbjgecmnmnaa.Std Go.Proofs.Ytdpjbjgecmnmnaa.Within
set_option linter.unusedSimpArgs false
set_option linter.unusedVariables false

theorem clone_from {w0 w4 : World} {N : Int} {A : Option Addr} {c : Nat} {l : List E} (Aj : Option Addr) (cj : Nat) (js : List Int) (m : Nat) (hm : js.length = m) (W : World) (hf : From w0 w4 N A c l W) (hz : Sl W W.heap.size 1 ci Aj js) (hnil : Aj = none → m = 0 ∧ cj = 0) (hlen : m ≤ 1048576) :
    Calls Try.prog 20 #[.slice Aj m cj] W fun e w' => ∃ A' c', e = .returned (.slice A' m c') ∧ Own w' W.heap.size 3 1 ci (.slice A' m c') js ∧ From w0 w4 N A c l w' ∧ Below W.heap.size W w' := by
  subst hm
  refine (clone_int Aj cj js W.heap.size W hz (Nat.le_refl _) hnil (by omega)).mono ?_
  rintro e w' ⟨A', c', h1, h2, h3⟩
  exact ⟨A', c', h1, h2, hf.go h3, h3⟩
theorem news1x {w : World} {e : TypeId} {x : Int} {g : Nat} (hg : w.heap.size = g) : ∀ j, j < 1 → (w.alloc (.cells #[.int .i64 x] e)).cell? ⟨g, j, none⟩ = some (ci x j) := by
  subst hg
  exact news1
theorem own_nil {α : Type} {w : World} {base sz : Nat} {e : TypeId} {cell : α → Nat → Value} {A : Option Addr} {n c : Nat} {l : List α} (h : Own w base e sz cell (.slice A n c) l) : A = none → n = 0 ∧ c = 0 := by
  obtain ⟨A', c', e1, _, h'⟩ := h.form
  injection e1 with e1 e2 e3
  subst e1 e2 e3
  exact h'
theorem sl_some {w : World} {B sz : Nat} {α : Type} {cell : α → Nat → Value} {A : Option Addr} {l : List α} (h : Sl w B sz cell A l) (h0 : 0 < l.length) : A ≠ none := fun e => by
  obtain ⟨b, off, hA, _⟩ := h h0
  rw [hA] at e
  cases e

set_option maxRecDepth 100000 in
set_option maxHeartbeats 8000000 in
theorem walk (w : World) (N : Int) (A : Option Addr) (c : Nat) (l : List E) (hA : Arg w 3 ce A c l) (Ar : Option Addr) (cr : Nat) (ord : List Int) (hAr : Arg w 1 ci Ar cr ord) (hbulk : l.length + ord.length ≤ 1048576) :
    Calls Try.prog 13 #[.agg #[.int .i64 N, .slice A l.length c], .slice Ar ord.length cr] w fun e w' => e = .returned (.bool true) ∧ Below w.heap.size w w' := by
  have hs := hA.sl
  have hso := hAr.sl
  have hnilo := hAr.nil
  have hll : l.length ≤ 9223372036854775807 := Nat.le_trans hA.cap hA.max
  obtain ⟨i0, hi, hz0, hz1, hz2⟩ := info_parts infoIS
  clear hA hAr
  have hw0 : Below w.heap.size w (w.alloc (.cells #[.int .i64 N, .slice A l.length c] 24)) := (Below.refl _ _).alloc (Nat.le_refl _) _
  have key0 := fun W g h => tree_pair W g h
  have key1 := fun W A A' c c' B B' h h' => eq_one 1 W A A' c c' B B' h h'
  have KEY0 := Lib.hid key0
  have KEY1 := Lib.hid key1
  have HNO := Lib.hid hnilo
  clear key0 key1 hnilo
  by_cases hx : chk N l = 0
  · have hg := chk_zero.1 hx
    have hN1 := hg.lo
    have hN2 := hg.hi
    have h6 := hg.len
    obtain ⟨n, rfl⟩ := Int.eq_ofNat_of_zero_le (show 0 ≤ N by omega)
    have hn64 : n ≤ 64 := by omega
    have k2 := fun W h => tree_yes n A c l W h hg
    have K2 := Lib.hid k2
    have HG := Lib.hid hg
    clear k2 hx hg
    go_enter Try.func13, Try.ntmps13
    go_wp2_with fail
    refine (KEY0.out _ _ (sl_new' (by decide) (w.alloc (.cells #[.int .i64 n, .slice A l.length c] 24)) #[.int .i64 0, .int .i64 1, .int .i64 5, .int .i64 1, .int .i64 0, .int .i64 4] _ _ (by simp) rfl)).mono ?_
    rintro e w2 ⟨A2, c2, rfl, own2, hb2⟩
    have B2 : Below (w.heap.size + 1) (w.alloc (.cells #[.int .i64 n, .slice A l.length c] 24)) w2 := ((Below.refl _ _).alloc (by simp) _).trans (hb2.mono (by simp))
    have Z2 : w.heap.size + 1 ≤ w2.heap.size := by have := hb2.size; simp at this; omega
    clear hb2
    go_wp2_with fail
    refine (KEY1.out _ _ _ _ _ _ _ (own2.alloc _).sl.2 (sl_new' (by decide) w2 #[.int .i64 1] _ _ rfl rfl)).mono ?_
    rintro e w3 ⟨rfl, n3, rfl⟩
    have B3 := below_drewN (B2.alloc Z2 (.cells #[.int .i64 1] 3)) n3
    have Z3 : w.heap.size + 1 ≤ (w2.alloc (.cells #[.int .i64 1] 3)).heap.size := by simp; omega
    generalize (w2.alloc (.cells #[.int .i64 1] 3)) = w3 at B3 Z3 ⊢
    clear own2 B2 Z2
    have z3 : w.heap.size < w3.heap.size := by omega
    have H3 := hw0.trans (B3.mono (Nat.le_succ _))
    obtain ⟨cc3, _⟩ := keepAt B3 (Nat.lt_succ_self _)
    have q0 := cc3 0
    have q1 := cc3 1
    simp at q0 q1
    clear cc3
    go_wp2_with fail
    refine (K2.out _ ((hs.keep H3 (Nat.le_refl _)).more (by simp; omega))).mono ?_
    rintro e w4 ⟨Ao, co', out, rfl, own4, hkru, hb4⟩
    have hch := ch_of hkru
    have B4 := B3.trans (hb4.mono Z3)
    have H4 : Below w.heap.size w w4 := hw0.trans (B4.mono (Nat.le_succ _))
    have z4 : w.heap.size < w4.heap.size := by have := hb4.size; simp at this; omega
    obtain ⟨cc4, _⟩ := keepAt B4 (Nat.lt_succ_self _)
    have q0' := cc4 0
    have q1' := cc4 1
    simp at q0' q1'
    have hfr : From w w4 n A c l w4 := ⟨Below.refl _ _, H4, q0', q1', (hs.keep H4 (Nat.le_refl _)).more H4.size, z4⟩
    have hrd : Rd w4 Ao out := own4.sl.2
    have hol := hch.len
    obtain ⟨m, hm⟩ : ∃ m, out.length = m := ⟨_, rfl⟩
    have hro : Sl w4 w4.heap.size 1 ci Ar ord := (hso.keep H4 (Nat.le_refl _)).more H4.size
    have FR := Lib.hid hfr
    have RD := Lib.hid hrd
    have RO := Lib.hid hro
    have CH := Lib.hid hch
    have KR' := Lib.hid hkru
    have HM := Lib.hid hm
    rw [hm] at hol ⊢
    clear q0 q1 q0' q1' B3 H3 z3 Z3 hb4 own4 hkru hch cc4 hfr hrd hm hs hso hro hw0 B4
    have f4 := FR.out
    have n0 := f4.n0
    have n1 := f4.n1
    have z4 := f4.lt
    have H4 := f4.lo
    clear f4
    by_cases hl0 : l.length = 0
    · have hm0 : m = 0 := by
        rw [← HM.out]
        match out, CH.out.lt with
        | [], _ => rfl
        | x :: r, h => exact absurd (h x (by simp)) (by omega)
      subst hm0
      have e0 : decide ((l.length : Int) = 0) = true := decide_eq_true (by omega)
      have e1 : (l.length : Int) = 0 := by omega
      clear hl0
      go_wp2
      go_ret
      exact ⟨rfl, H4⟩
    · have hl1 : 1 ≤ l.length := by omega
      have e1 : ¬ ((l.length : Int) = 0) := by omega
      have e2 : ((l.length : Int) == 0) = false := by rw [beq_eq_false_iff_ne]; exact e1
      obtain ⟨T, hT⟩ : ∃ T, ord.length + l.length = T := ⟨_, rfl⟩
      have HT := Lib.hid hT
      have HTb : T ≤ 1048576 := by omega
      have hrl : (zs (List.range l.length)).length = l.length := by rw [zs_len, List.length_range]
      have HRL := Lib.hid hrl
      clear hrl
      have HOb : ord.length ≤ 1048576 := by omega
      clear hT hl0
      go_upto_region 9 with fail
      go_cut [54, 55, 56] from 50 to 56 (fun s54 s55 s56 wx => ∃ Ac cc, s54 = .slice Ac T cc ∧ s55 = .int .i64 T ∧ s56 = .int .i64 0 ∧ Sl wx wx.heap.size 1 ci Ac (ord ++ zs (List.range l.length)) ∧ From w w4 n A c l wx)
      case first =>
        go_region_held3 (fun w' => w'.cell? ⟨w.heap.size, 0, none⟩ = some (.int .i64 n) ∧ w'.cell? ⟨w.heap.size, 1, none⟩ = some (.slice A l.length c))
          (first | go_keep | exact ⟨F5.n0, F5.n1⟩ | exact ⟨F6.n0, F6.n1⟩ | exact ⟨F7.n0, F7.n1⟩)
          (first
            | (go_at_call 20; refine (clone_from (w0 := w) (w4 := w4) (N := n) (A := A) (c := c) (l := l) Ar cr ord ord.length rfl _ (by first | exact FR.out | exact FR.out.drew) (by first | exact RO.out | exact RO.out.keep (Below.refl _ _).drew (Nat.le_refl _)) HNO.out HOb).mono ?_; rintro e w5 ⟨A5, c5, rfl, own5, F5, hb5⟩)
            | (go_at_call 44; refine (all_any n A c l _ (by first | exact F5.net | exact F5.drew.net) h6).mono ?_; rintro e w6 ⟨A6, c6, rfl, own6, hb6⟩; have F6 : From w w4 n A c l w6 := F5.go hb6; have own56 := own5.keep hb6; have S6 : Sl w6 w6.heap.size 1 ci A6 (zs (List.range l.length)) := own6.sl.2; have hn6 := sl_some S6 (by rw [zs_len, List.length_range]; omega))
            | (refine step_pushAll _ rfl (.tmp 51) (.tmp 53) _ rfl w4.heap.size 3 i0 (.int .i64 0) 1 8 ci Try.underlying25 hi hz0 hz1 hz2 rfl (by decide) _ ord ord.length rfl rfl (own56.mono (by simp)) w6.heap.size A6 l.length c6 (zs (List.range l.length)) HRL.out rfl (fun e => absurd e hn6) S6 one_ci (by omega) (by omega) F6.below.size ?_; intro A7 c7 w7 hown7 hgrow7 hat7; rw [HT.out] at hown7; rw [HT.out]; have hb7 : Below w4.heap.size w4 w7 := F6.below.grown hgrow7 F6.below.size (own56.mono (by simp)).lo; have F7 : From w w4 n A c l w7 := FR.out.go hb7))
        go_wp2_with fail
        go_meet
        exact ⟨A7, c7, rfl, rfl, rfl, hown7.sl.2, F7⟩
      case rest =>
        obtain ⟨Ac, cc, rfl, rfl, rfl, SL5, F5⟩ := hcut
        obtain ⟨w5, rfl⟩ : ∃ w5 : World, w5 = wc := ⟨_, rfl⟩
        have RO5 := Lib.hid (RD.out.at_ F5)
        have FR5 := Lib.hid F5.here
        have HSL5 := Lib.hid SL5
        have H5 := F5.lo
        have z5 := F5.lt
        clear FR RD RO n0 n1 z4 H4 SL5 F5 HNO HOb e2 e1
        go_wp2
        go_loopw [10, 56] (fun s i wr => ∃ (k m9 : Nat) (ot : List Nat) (A9 : Option Addr) (c9 : Nat), k ≤ T ∧ i = .int .i64 k ∧ s = .slice A9 m9 c9 ∧ Own wr w5.heap.size 3 1 ci (.slice A9 m9 c9) (zs ot) ∧ Hid (ot.length = m9) ∧ Hid (From w w5 n A c l wr) ∧ Hid (Pk n l (ord ++ zs (List.range l.length)) k ot)) (fun _ i _ => T - (intOf i).toNat)
        case atStart => exact ⟨0, 0, [], none, 0, Nat.zero_le _, rfl, rfl, Own.nil_, Lib.hid rfl, FR5, Lib.hid (Pk.start n l _)⟩
        case round =>
          obtain ⟨k, m9, ot, A9, c9, hk, rfl, rfl, own9, hm9, F9, hpk⟩ := hrel
          have hmn : m9 ≤ n := by rw [← hm9.out]; exact hpk.out.len
          have RD9 : Hid (Rd wr A9 ot) := Lib.hid own9.sl.2
          have FR9 := Lib.hid F9.out.here
          have OW9 := Lib.hid own9
          have n0 := F9.out.n0
          have n1 := F9.out.n1
          have z9 := F9.out.lt
          have H9 := F9.out.lo
          have y9 := F9.out.below.size
          clear own9
          by_cases hlt : k < T
          · have hkL : k < (ord ++ zs (List.range l.length)).length := by rw [List.length_append, HRL.out, HT.out]; exact hlt
            obtain ⟨bl, ol, rfl, hbl, hcl⟩ := Sl.atI (HSL5.out.keep F9.out.below (Nat.le_refl _)) hkL
            have hvl := (wi_spec (ord ++ zs (List.range l.length))[k] l.length hl1 (by omega)).2
            have hnx := hpk.out.next HG.out hkL rfl hvl
            have kw := fun W => within_any (ord ++ zs (List.range l.length))[k] l.length hl1 (by omega) W
            generalize wi (ord ++ zs (List.range l.length))[k] l.length = v at *
            generalize (ord ++ zs (List.range l.length))[k] = x at *
            have KW := Lib.hid kw
            have HNX := Lib.hid hnx
            have HVL := Lib.hid hvl
            clear kw hnx hvl hkL
            go_wp2_with fail
            refine (KW.out _).mono ?_
            rintro e w6 ⟨rfl, hw6⟩
            have hw6x := hw6.symm
            clear hw6
            subst hw6x
            clear KW hcl hbl
            go_wp2
            go_region_held3 (fun w' => w'.cell? ⟨w.heap.size, 0, none⟩ = some (.int .i64 n) ∧ w'.cell? ⟨w.heap.size, 1, none⟩ = some (.slice A l.length c))
              (first | go_keep | exact ⟨F10.n0, F10.n1⟩ | exact ⟨F11.n0, F11.n1⟩)
              (first
                | (go_at_call 43; refine (pairs_from (w0 := w) (w4 := wr) (js := ot) _ (by first | exact FR9.out | exact FR9.out.drew) (RD9.out.at_ (by first | exact FR9.out | exact FR9.out.drew)) hm9.out h6 (by omega) hpk.out.lt).mono ?_; rintro e w10 ⟨A10, c10, rfl, S10, F10⟩)
                | (go_at_call 45; refine (many_from' (w0 := w) (w4 := wr) (js := ot) _ (by first | exact F10 | exact F10.drew) (by exact S10) hn64 hm9.out (by omega) HG.out hpk.out.lt (hpk.out.ind.trans hm9.out)).mono ?_; rintro e w11 ⟨rfl, F11⟩))
            have FR11 := Lib.hid F11.here
            have FW11 := Lib.hid (F9.out.go F11.below)
            have OW11 := Lib.hid (OW9.out.keep F11.below)
            have RD11 : Hid (Rd w11 A9 ot) := Lib.hid OW11.out.sl.2
            have NL9 := Lib.hid (own_nil OW11.out)
            have m0 := F11.n0
            have m1 := F11.n1
            have z11 := F11.lt
            have y11 := FW11.out.below.size
            clear F10 F11 S10 n0 n1 z9 FR9 RD9 OW9 F9 H9 y9
            obtain ⟨r2, hr2⟩ : ∃ r2, rk n ((ot ++ [v]).map (es l)) = r2 := ⟨_, rfl⟩
            have hzl : (zs ot).length = m9 := by rw [zs_len]; exact hm9.out
            have hzl2 : (ot ++ [v]).length = m9 + 1 := by rw [List.length_append, hm9.out]; rfl
            have hlt2 : ∀ i ∈ ot ++ [v], i < l.length := fun i hi => by
              rcases List.mem_append.1 hi with h1 | h1
              · exact hpk.out.lt i h1
              · rw [List.mem_singleton] at h1; subst h1; exact HVL.out
            have HR2 := Lib.hid hr2
            have HZ := Lib.hid hzl
            have HZ2 := Lib.hid hzl2
            have HL2 := Lib.hid hlt2
            have HST := Lib.hid (zs_snoc ot v)
            clear hr2 hzl hzl2 hlt2
            go_upto_region 14 with fail
            go_cut [15, 16] from 74 to 86 (fun s15 s16 wx => s15 = .int .i64 ((n : Int) - (r2 : Int)) ∧ s16 = .int .i64 0 ∧ From w w11 n A c l wx)
            case first =>
              go_region_held3 (fun w' => w'.cell? ⟨w.heap.size, 0, none⟩ = some (.int .i64 n) ∧ w'.cell? ⟨w.heap.size, 1, none⟩ = some (.slice A l.length c))
                (first | go_keep | exact ⟨F12.n0, F12.n1⟩ | exact ⟨F14.n0, F14.n1⟩ | exact ⟨F15.n0, F15.n1⟩ | exact ⟨F16.n0, F16.n1⟩)
                (first
                  | (go_at_call 20; refine (clone_from (w0 := w) (w4 := w11) (N := n) (A := A) (c := c) (l := l) A9 c9 (zs ot) m9 HZ.out _ (by first | exact FR11.out | exact FR11.out.drew | exact FR11.out.drew.go ((Below.refl _ _).alloc (Nat.le_refl _) _)) (RD11.out.at_ (by first | exact FR11.out | exact FR11.out.drew | exact FR11.out.drew.go ((Below.refl _ _).alloc (Nat.le_refl _) _))) NL9.out (by omega)).mono ?_; rintro e w12 ⟨A12, c12, rfl, own12, F12, hb12⟩)
                  | (refine step_push _ rfl (.tmp 79) (.tmp 81) _ rfl w11.heap.size 3 i0 (.int .i64 0) 1 8 ci Try.underlying25 hi hz0 hz1 hz2 rfl (by decide) _ (zs ot) m9 HZ.out rfl (own12.alloc _) w12.heap.size 1 (v : Int) rfl (news1x (by simp)) (fun _ _ => one_ci _ _) (by omega) (by omega) (by have := F12.below.size; simp; omega) ?_; intro A14 c14 w14 hown14 hgrow14 hat14; rw [← HST.out] at hown14; have hb14 : Below w11.heap.size w11 w14 := (F12.below.alloc F12.below.size _).grown hgrow14 (by have := F12.below.size; simp; omega) own12.lo; have F14 : From w w11 n A c l w14 := FR11.out.go hb14)
                  | (refine step_push _ rfl (.tmp 79) (.tmp 81) _ rfl w11.heap.size 3 i0 (.int .i64 0) 1 8 ci Try.underlying25 hi hz0 hz1 hz2 rfl (by decide) _ (zs ot) m9 HZ.out rfl (own12.mono (by simp)) w11.heap.size 1 (v : Int) rfl (fun j hj => ((keepAt hb12 (b := w11.heap.size) (by simp)).1 _).trans (news1x (w := w11.drew) (by simp) j hj)) (fun _ _ => one_ci _ _) (by omega) (by omega) F12.below.size ?_; intro A14 c14 w14 hown14 hgrow14 hat14; rw [← HST.out] at hown14; have hb14 : Below w11.heap.size w11 w14 := F12.below.grown hgrow14 F12.below.size (own12.mono (by simp)).lo; have F14 : From w w11 n A c l w14 := FR11.out.go hb14)
                  | (go_at_call 43; refine (pairs_from (w0 := w) (w4 := w11) (js := ot ++ [v]) _ (by exact F14) hown14.sl.2 HZ2.out h6 (by omega) HL2.out).mono ?_; rintro e w15 ⟨A15, c15, rfl, S15, F15⟩)
                  | (go_at_call 45; refine (many_from' (w0 := w) (w4 := w11) (js := ot ++ [v]) _ (by exact F15) (by exact S15) hn64 HZ2.out (by omega) HG.out HL2.out HR2.out).mono ?_; rintro e w16 ⟨rfl, F16⟩))
              all_goals
                go_wp2_with fail
                go_meet
                exact ⟨rfl, rfl, F16⟩
            case rest =>
              obtain ⟨rfl, rfl, F16⟩ := hcut
              have FW16 := Lib.hid (FW11.out.go F16.below)
              have own16 := OW11.out.keep F16.below
              have y16 := FW16.out.below.size
              have z16 := FW16.out.lt
              clear F16 m0 m1 z11 y11 FR11 RD11 OW11 FW11 NL9
              rcases HNX.out with ⟨hr, hpk'⟩ | ⟨hr, hpk'⟩
              · obtain rfl : r2 = m9 := by rw [← HR2.out, hr, hm9.out]
                have OW16 := Lib.hid own16
                have HPK := Lib.hid hpk'
                clear hr hpk' own16 HR2 HNX
                go_wp2
                go_roundw
                case rel => exact ⟨k + 1, r2, ot, A9, c9, by omega, by go_num, rfl, OW16.out, hm9, FW16, HPK⟩
                case measure => simp [intOf]; omega
              · obtain rfl : r2 = m9 + 1 := by rw [← HR2.out, hr, hm9.out]
                have HPK := Lib.hid hpk'
                have own2 := own16.alloc (.cells #[.int .i64 v] 3)
                have HLO := Lib.hid own16.lo
                have hB16 := FW16.out.below
                have e5 : (n : Int) - ((m9 + 1 : Nat) : Int) < (n : Int) - (m9 : Int) := by omega
                clear hr hpk' own16 HR2 HNX
                go_wp2_with (at_builtin; refine wpList_push _ rfl (.tmp 96) (.tmp 98) _ rfl w5.heap.size 3 i0 (.int .i64 0) 1 8 ci Try.underlying25 hi hz0 hz1 hz2 rfl (by decide) _ (zs ot) m9 HZ.out rfl own2 wc.heap.size 1 (v : Int) rfl news1 (fun _ _ => one_ci _ _) (by omega) (by omega) (by simp; omega) ?_; intro A3 c3 w17 hown3 hgrow3 hat3; rw [← HST.out] at hown3; have hB3 := (hB16.alloc y16 (.cells #[.int .i64 v] 3)).grown hgrow3 (by simp; omega) HLO.out; have HOWN3 := Lib.hid hown3; clear hgrow3 hat3 hown3)
                go_roundw
                case rel => exact ⟨k + 1, m9 + 1, ot ++ [v], A3, c3, by omega, by go_num, rfl, HOWN3.out, HZ2, Lib.hid (FR5.out.go hB3), HPK⟩
                case measure => simp [intOf]; omega
          · obtain rfl : k = T := by omega
            obtain ⟨hfl, hfc⟩ := hpk.out.fin HG.out h6 HT.out.symm KR'.out
            obtain rfl : m9 = m := by rw [← HM.out, ← hm9.out]; exact hfl
            have HLT := Lib.hid hpk.out.lt
            have hc1 := cs_bd (fun i => co_bd HG.out i) out
            have hc2 := cs_bd (fun i => co_bd HG.out i) ot
            have l1 := cost_any w.heap.size A c l Ao co' out m9 wr _ _ HM.out (by omega) HG.out n1 F9.out.net (RO5.out.keep F9.out.below (Nat.le_refl _)) CH.out.lt
            have l2 := cost_any w.heap.size A c l A9 c9 ot m9 wr _ _ hm9.out (by omega) HG.out n1 F9.out.net RD9.out HLT.out
            generalize cs (co l) out = x1 at *
            generalize cs (co l) ot = x2 at *
            have L1 := Lib.hid l1
            have L2 := Lib.hid l2
            clear l1 l2 hlt
            go_wp2_with fail
            refine L1.out.mono ?_
            rintro e w20 ⟨rfl, hw20⟩
            have hw20x := hw20.symm
            clear hw20
            subst hw20x
            go_wp2_with fail
            refine L2.out.mono ?_
            rintro e w21 ⟨rfl, hw21⟩
            have hw21x := hw21.symm
            clear hw21
            subst hw21x
            go_wp2
            go_ret
            exact ⟨rfl, H9⟩
  · have k2 := fun W h => tree_no N A c l W h hll hx
    have hne : (chk N l != 0) = true := by rw [bne_iff_ne]; exact hx
    generalize chk N l = er at *
    have K2 := Lib.hid k2
    clear k2 hx
    go_enter Try.func13, Try.ntmps13
    go_wp2_with fail
    refine (KEY0.out _ _ (sl_new' (by decide) (w.alloc (.cells #[.int .i64 N, .slice A l.length c] 24)) #[.int .i64 0, .int .i64 1, .int .i64 5, .int .i64 1, .int .i64 0, .int .i64 4] _ _ (by simp) rfl)).mono ?_
    rintro e w2 ⟨A2, c2, rfl, own2, hb2⟩
    have B2 : Below (w.heap.size + 1) (w.alloc (.cells #[.int .i64 N, .slice A l.length c] 24)) w2 := ((Below.refl _ _).alloc (by simp) _).trans (hb2.mono (by simp))
    have Z2 : w.heap.size + 1 ≤ w2.heap.size := by have := hb2.size; simp at this; omega
    clear hb2
    go_wp2_with fail
    refine (KEY1.out _ _ _ _ _ _ _ (own2.alloc _).sl.2 (sl_new' (by decide) w2 #[.int .i64 1] _ _ rfl rfl)).mono ?_
    rintro e w3 ⟨rfl, n3, rfl⟩
    have B3 := below_drewN (B2.alloc Z2 (.cells #[.int .i64 1] 3)) n3
    have Z3 : w.heap.size + 1 ≤ (w2.alloc (.cells #[.int .i64 1] 3)).heap.size := by simp; omega
    generalize (w2.alloc (.cells #[.int .i64 1] 3)) = w3 at B3 Z3 ⊢
    clear own2 B2 Z2
    have z3 : w.heap.size < w3.heap.size := by omega
    have H3 := hw0.trans (B3.mono (Nat.le_succ _))
    obtain ⟨cc3, _⟩ := keepAt B3 (Nat.lt_succ_self _)
    have q0 := cc3 0
    have q1 := cc3 1
    simp at q0 q1
    clear cc3
    go_wp2_with fail
    refine (K2.out _ ((hs.keep H3 (Nat.le_refl _)).more (by simp; omega))).mono ?_
    rintro e w4 ⟨rfl, hb4⟩
    have H4 := H3.trans (hb4.mono (by simp; omega))
    clear hb4 B3 H3 z3 Z3 q0 q1
    go_wp2
    go_ret
    exact ⟨rfl, H4⟩

theorem own : ownKnob Try.prog.godebug = none := by kernel_rfl
theorem laidOut : laidOutB Try.prog = true := by kernel_rfl

set_option maxRecDepth 100000 in
theorem contract (H : Type) (enc : TypeId × Value → H) (W : World) (base : Nat) (args : Array Value) (ds gs : List (DataW H)) (before : List MemPlace)
    (hval0 : ∀ (j : Nat) t v, Try.f13.params[j]? = some t → args[j]? = some v → Value.okWide Try.prog W .any base t v)
    (hW : DataW.Whole enc Try.prog Try.f13.params.toList Rows.spanLeastSpec.vars false W args.toList ds gs before) (hk : Rows.uptoSmall H (ds ++ gs) = true) :
    Calls Try.prog 13 args W fun e W' => ∃ v, e = .returned v ∧ Rows.spanLeastSpec.post enc Try.prog Try.f13 false true false false W args v W' := by
  have hval : ∀ (j : Nat) t v, Try.f13.params[j]? = some t → args[j]? = some v → Value.okWide Try.prog W .any base t v := hval0
  have hW' := hW
  obtain ⟨p, q, hA0, hV, rfl, hfz, hnd⟩ := hW
  have hA : DataW.TrodAll enc Try.prog W 0 (fun _ => true) true Try.f13.params.toList args.toList ds p := hA0
  rw [Try.params13] at hA hval
  obtain ⟨v0, vs0, d0, ds0, p0, q0, hargs, rfl, rfl, h0, r0⟩ := trodAll_cons hA
  obtain ⟨v1, vs1, d1, ds1, p1, q1, rfl, rfl, rfl, h1, r1⟩ := trodAll_cons r0
  obtain ⟨rfl, rfl, rfl⟩ := trodAll_nil r1
  obtain rfl : args = #[v0, v1] := by cases args; simp_all
  obtain ⟨rfl, rfl⟩ := trodVars_none hV
  obtain ⟨N0, A0, c0, l0, dd0, rfl, hN0, hG0, hb0, rfl, hd0⟩ := open_net Try.underlying24 (by kernel_rfl) (by kernel_rfl) Try.underlying3 Try.underlying22 Try.underlying60 (by kernel_rfl) (by kernel_rfl) Try.underlying3 Try.underlying3 Try.underlying3 (hval 0 24 v0 rfl rfl) h0
  obtain ⟨A1, c1, l1, rfl, hG1, hd1, hb1⟩ := open_sl1 Try.underlying25 Try.underlying3 (by kernel_rfl) (hval 1 25 v1 rfl rfl) h1
  have hbulk := bulk_bound hk
  simp only [List.cons_append, List.nil_append, List.append_nil, Rows.uptoBulkAll] at hbulk
  have hq0 := bulk_agg2 (x := .lit (.int .i64 N0)) hd0
  have hq1 := bulk_len hd1
  refine (walk W N0 A0 c0 l0 hG0 A1 c1 l1 hG1 (by omega)).mono fun e W' ⟨he, hB⟩ => ?_
  subst he
  exact ⟨_, rfl, post_of_law laidOut rfl Try.underlying4 rfl (by intro t ht; rw [Try.params13] at ht; simp at ht; rcases ht with rfl | rfl <;> exact ⟨by kernel_rfl, of_decide_eq_true (by kernel_rfl)⟩) hW' rfl hB⟩

set_option maxRecDepth 100000 in
theorem lifted (os : Os) (started : os.Started) (H : Type) (enc : TypeId × Value → H) (F : Stop.Interp) :
    ReturnsInHanded {} Try.checked os 13 .any ((Rows.OpenSpec.upto Rows.spanLeastSpec).pre6 enc Try.prog Try.f13 Rows.spanLeastUptoRow.domain false) (((Rows.OpenSpec.upto Rows.spanLeastSpec).at F).post enc Try.prog Try.f13 false true false false) := by
  refine returnsInHanded_of_cond (C := Try.checked) (s := Rows.OpenSpec.upto Rows.spanLeastSpec) (k := Rows.uptoSmall) rfl own started (by kernel_rfl) Try.func13
    (OpenSpec.witness (enc := enc) (C := Try.checked) (s := Rows.OpenSpec.upto Rows.spanLeastSpec) (k := Rows.uptoSmall) rfl false ⟨#[], #[.agg #[.int .i64 0, .slice none 0 0], .slice none 0 0], []⟩ 8 (by kernel_rfl) (by kernel_rfl) (by kernel_rfl)
      (x := ([.agg [.lit (.int .i64 0), .nil], .nil], [], [])) (by kernel_rfl) rfl (by kernel_rfl)) ?_
  intro W base args ds gs before hval hW _ hk _
  exact contract H enc W base args ds gs before hval hW hk

theorem holds : Rows.SpanLeastUptoSaid :=
  OpenClaim.holds_of_cond 13 Try.f13 rfl rfl rfl rfl rfl rfl rfl ⟨rfl, rfl, rfl, rfl, rfl⟩ rfl rfl rfl rfl rfl (by kernel_rfl) Try.func13 (by kernel_rfl)
    (of_decide_eq_true (by kernel_rfl)) (by unfold Func.isWrapper; first | (rw [if_pos (by decide +kernel)]; kernel_rfl) | (rw [if_neg (by decide +kernel)]; exact ⟨rfl, rfl⟩))
    (fun os started H enc _ F => lifted os started H enc F)
#print axioms holds
end Go.Proofs.Ytdpjbjgecmnmnaa.SpanLeastLaw
