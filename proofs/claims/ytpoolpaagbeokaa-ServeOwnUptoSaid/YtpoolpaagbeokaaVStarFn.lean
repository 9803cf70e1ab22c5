/- The walk of star.Look. -/
import Derived.Test.YtpoolpaagbeokaaVHeurWalks
import Derived.Test.YtpoolpaagbeokaaVDijkWay
namespace Go.Proofs.Ytpoolpaagbeokaa.StarF
open Go.RowKit Go.Proofs.Ytpoolpaagbeokaa NetLaw BellLaw DijkLaw HeurLaw Go.Proofs.Ytpoolpaagbeokaa.Net Go.Proofs.Ytpoolpaagbeokaa.Dijk Go.Proofs.Ytpoolpaagbeokaa.Std Go.Proofs.Ytpoolpaagbeokaa.Heur
set_option linter.unusedSimpArgs false
set_option linter.unusedVariables false

/-- what star.Look answers -/
def slook (N fr tt : Int) (l : List E) (hs : List Int) : Int := if Dijk.look N l [fr, tt] = 0 then hck (Dijk.look N l [tt]) N tt l hs else Dijk.look N l [fr, tt]
theorem look_snd {N : Int} {l : List E} {a b : Int} (h : Dijk.look N l [a, b] = 0) : Dijk.look N l [b] = 0 := by
  unfold Dijk.look at h ⊢
  split at h
  · rename_i h1; rw [if_pos h1]; exact h
  · rename_i h1
    rw [if_neg h1]
    simp only [lookE] at h ⊢
    repeat' split at h
    all_goals first | omega | (repeat' split) <;> omega
theorem slook_zero {N fr tt : Int} {l : List E} {hs : List Int} : slook N fr tt l hs = 0 ↔ Dijk.look N l [fr, tt] = 0 ∧ Cons N tt l hs := by
  unfold slook
  split
  · rename_i h; rw [hck_zero]; exact ⟨fun x => ⟨h, x.2⟩, fun x => ⟨look_snd h, x.2⟩⟩
  · rename_i h; exact ⟨fun x => absurd x h, fun x => absurd x.1 h⟩

set_option maxRecDepth 100000 in
set_option maxHeartbeats 2000000 in
theorem slook_any (N fr tt : Int) (A : Option Addr) (c : Nat) (l : List E) (Ah : Option Addr) (ch : Nat) (hs : List Int) (w : World) (hl : Sl w w.heap.size 3 ce A l) (hh : Sl w w.heap.size 1 ci Ah hs) (hlen : l.length ≤ 9223372036854775807) (hlen' : hs.length ≤ 9223372036854775807) :
    Calls Try.prog 36 #[.agg #[.int .i64 N, .slice A l.length c], .int .i64 fr, .int .i64 tt, .slice Ah hs.length ch] w fun e w' => e = .returned (.int .i64 (slook N fr tt l hs)) ∧ Below w.heap.size w w' := by
  have hw0 : Below w.heap.size w ((w.alloc (.cells #[.int .i64 N, .slice A l.length c] 52)).alloc (.cells #[.int .i64 fr, .int .i64 tt] 3)) := ((Below.refl _ _).alloc (Nat.le_refl _) _).alloc (by simp) _
  have hz0 : w.heap.size ≤ ((w.alloc (.cells #[.int .i64 N, .slice A l.length c] 52)).alloc (.cells #[.int .i64 fr, .int .i64 tt] 3)).heap.size := by simp; omega
  have hbox := blk_alloc (heap_alloc_new w (.cells #[.int .i64 N, .slice A l.length c] 52)) (.cells #[.int .i64 fr, .int .i64 tt] 3)
  have key := Dijk.look_any N A c l (some ⟨w.heap.size + 1, 0, none⟩) 2 2 [fr, tt] _ ((hl.keep hw0 (Nat.le_refl _)).more hz0) (sl_new' (by decide) (w.alloc (.cells #[.int .i64 N, .slice A l.length c] 52)) #[.int .i64 fr, .int .i64 tt] 3 [fr, tt] (by simp) rfl) rfl hlen (by decide)
  have kchk := fun W (hb : Below w.heap.size w W) => check_h N tt A c l Ah ch hs W ((hl.keep hb (Nat.le_refl _)).more hb.size) ((hh.keep hb (Nat.le_refl _)).more hb.size) hlen hlen'
  have KEY := Lib.hid key
  have KCHK := Lib.hid kchk
  have HBOX := Lib.hid hbox
  clear key kchk hbox
  by_cases hx : Dijk.look N l [fr, tt] = 0
  · have hsl : slook N fr tt l hs = hck (Dijk.look N l [tt]) N tt l hs := by unfold slook; rw [if_pos hx]
    rw [hx] at KEY
    have HSL := Lib.hid hsl
    clear hsl hx
    go_enter Try.func36, Try.ntmps36
    go_wp2_with fail
    refine KEY.out.mono ?_
    rintro e w1 ⟨rfl, hb1⟩
    have H1 := hw0.trans (hb1.mono hz0)
    have hb := blk_below HBOX.out hb1 (by simp; omega)
    have q0 := blk_cell hb 0
    have q1 := blk_cell hb 1
    have hzb : w.heap.size < w1.heap.size := lt_of_block hb
    simp only [List.getElem?_toArray, List.getElem?_cons_zero, List.getElem?_cons_succ] at q0 q1
    clear hb hb1
    go_wp2_with fail
    refine (KCHK.out _ H1).mono ?_
    rintro e w2 ⟨rfl, hb2⟩
    have H2 := H1.trans (hb2.mono H1.size)
    clear hb2 q0 q1
    go_wp2
    go_ret
    rw [HSL.out]
    exact ⟨rfl, H2⟩
  · have hsl : Dijk.look N l [fr, tt] = slook N fr tt l hs := by unfold slook; rw [if_neg hx]
    have hne : (Dijk.look N l [fr, tt] != 0) = true := by rw [bne_iff_ne]; exact hx
    rw [hsl] at KEY hne
    clear hsl hx
    generalize slook N fr tt l hs = er at *
    go_enter Try.func36, Try.ntmps36
    go_wp2_with fail
    refine KEY.out.mono ?_
    rintro e w1 ⟨rfl, hb1⟩
    have H1 := hw0.trans (hb1.mono hz0)
    clear hb1
    go_wp2
    go_ret
    exact ⟨rfl, H1⟩
end Go.Proofs.Ytpoolpaagbeokaa.StarF
