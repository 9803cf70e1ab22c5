/- The walk of span.Neck's closure: it looks whether two places hold together, and writes what its maker keeps. -/
import Derived.Test.YtdpjbjgecmnmnaaSpanMem
import Derived.Test.YtdpjbjgecmnmnaaNeckLaw
import Derived.Deep.RegionHeld3
namespace Go.Proofs.Ytdpjbjgecmnmnaa.Span
open Go.RowKit Go.Proofs.Ytdpjbjgecmnmnaa NetLaw HeapLaw UnionLaw SpanLaw Go.Proofs.Ytdpjbjgecmnmnaa.Net Go.Proofs.Ytdpjbjgecmnmnaa.Heap Go.Proofs.Ytdpjbjgecmnmnaa.Union
set_option linter.unusedSimpArgs false
set_option linter.unusedVariables false
/-- the closure's surroundings -/
structure Nb (w : World) (n : Nat) (A : Option Addr) (c : Nat) (l : List E) (a b gA gB gN g9 g10 : Nat) : Prop where
  ca : w.heap[gA]? = some (.cells #[.int .i64 a] 3 (0, 0))
  cb : w.heap[gB]? = some (.cells #[.int .i64 b] 3 (0, 0))
  cn : w.heap[gN]? = some (.cells #[.int .i64 n, .slice A l.length c] 24 (0, 0))
  c9 : w.heap[g9]? = some (.cells #[.int .i64 0] 3 (0, 0))
  c10 : w.heap[g10]? = some (.cells #[.int .i64 5] 26 (0, 0))
section
variable {w w' : World} {n c B G a b gA gB gN g9 g10 : Nat} {A : Option Addr} {l : List E} {v : Value} {L L' : List Nat}
theorem Nb.below (h : Nb w n A c l a b gA gB gN g9 g10) (hb : Below w.heap.size w w') : Nb w' n A c l a b gA gB gN g9 g10 :=
  ⟨blk_below h.ca hb (lt_of_block h.ca), blk_below h.cb hb (lt_of_block h.cb), blk_below h.cn hb (lt_of_block h.cn), blk_below h.c9 hb (lt_of_block h.c9), blk_below h.c10 hb (lt_of_block h.c10)⟩
theorem Nb.drew (h : Nb w n A c l a b gA gB gN g9 g10) : Nb w.drew n A c l a b gA gB gN g9 g10 := ⟨h.ca, h.cb, h.cn, h.c9, h.c10⟩
theorem Nb.kept (h : Nb w n A c l a b gA gB gN g9 g10) (hv : ∀ g, g < B → v.ownBlock ≠ some g) (hB : gA < B ∧ gB < B ∧ gN < B ∧ g9 < B ∧ g10 < B) (hk : w.grownBy w' v.ownBlock) : Nb w' n A c l a b gA gB gN g9 g10 :=
  ⟨blk_grown h.ca hk (hv _ hB.1), blk_grown h.cb hk (hv _ hB.2.1), blk_grown h.cn hk (hv _ hB.2.2.1), blk_grown h.c9 hk (hv _ hB.2.2.2.1), blk_grown h.c10 hk (hv _ hB.2.2.2.2)⟩
theorem Nb.at_ (h : Nb w n A c l a b gA gB gN g9 g10) : w.cell? ⟨gA, 0, none⟩ = some (.int .i64 a) ∧ w.cell? ⟨gB, 0, none⟩ = some (.int .i64 b) := ⟨blk_cell h.ca 0, blk_cell h.cb 0⟩
end
theorem cell_grown2 {w w1 : World} {row : Option Nat} (h : w.grownBy w1 row) {p : Addr} (hlt : p.block < w.heap.size) (hne : row ≠ some p.block) : w1.cell? p = w.cell? p := by
  unfold World.cell?
  rw [h.block p.block hlt (fun e => hne e.symm)]
/-- what the closure does -/
def TellSays (w : World) (B G : Nat) (v : Value) (L : List Nat) (a b g9 g10 : Nat) (x : Int) (e : Ending) (w' : World) : Prop :=
  ∃ w1 L', Kept w w1 B G v L L' ∧ ((root (fn L) a ≠ root (fn L) b ∧ e = .returned (.bool true) ∧ w' = w1) ∨ (root (fn L) a = root (fn L) b ∧ e = .returned (.bool false) ∧ w' = (w1.setCell ⟨g9, 0, none⟩ (.int .i64 x)).setCell ⟨g10, 0, none⟩ (.int .i64 0)))
set_option maxRecDepth 100000 in
set_option maxHeartbeats 2000000 in
theorem tell_neck (n : Nat) (A : Option Addr) (c : Nat) (l : List E) (a b gA gB gN g9 g10 B Bs G : Nat) (v : Value) (L : List Nat) (i : Nat) (w : World) (hnb : Nb w n A c l a b gA gB gN g9 g10) (hB : gA < B ∧ gB < B ∧ gN < B ∧ g9 < B ∧ g10 < B)
    (hs : Sl w Bs 3 ce A l) (hBs : Bs ≤ B) (hg : Grp w B G v L) (hd : Down L) (ha : a < L.length) (hb : b < L.length) (hn : L.length ≤ 64) (hi : i < l.length) (h6 : l.length ≤ 600) (hBz : B ≤ w.heap.size) :
    Calls Try.prog 76 #[.int .i64 (i : Int), .pointer (some ⟨G, 0, none⟩), .pointer (some ⟨gA, 0, none⟩), .pointer (some ⟨gB, 0, none⟩), .pointer (some ⟨gN, 0, none⟩), .pointer (some ⟨g9, 0, none⟩), .pointer (some ⟨g10, 0, none⟩)] w fun e w' => TellSays w B G v L a b g9 g10 (co l i) e w' := by
  have hvb : ∀ g, g < B → v.ownBlock ≠ some g := fun g hlt e => by have := (vlt hg e).1; omega
  obtain ⟨b0, off, f, t, x, rfl, hbB, he, hcf, hct, hcc⟩ := hs.atE hi
  have hx : co l i = x := by unfold co; rw [getD_at hi, he]
  rw [hx]
  have k1 := fun W (h : Grp W B G v L) => find_any B G a v L W h hd ha hn
  have h9 : g9 ≠ g10 := fun e => by
    have h1 := hnb.c9
    have h2 := hnb.c10
    rw [e, h2] at h1
    injection h1 with h1
    injection h1 with h1 h2
    exact absurd h2 (by decide)
  have K1 := Lib.hid k1
  have NB := Lib.hid hnb
  have HVB := Lib.hid hvb
  have GR := Lib.hid hg
  have qa := hnb.at_.1
  have qb := hnb.at_.2
  have hil : (i : Int) < (l.length : Int) := by omega
  clear k1 hnb hvb hg hx he hs
  by_cases hr : root (fn L) a = root (fn L) b
  · go_enter Try.func76, Try.ntmps76
    go_wp2
    go_region_held3 (fun w' => w'.cell? ⟨gA, 0, none⟩ = some (.int .i64 a) ∧ w'.cell? ⟨gB, 0, none⟩ = some (.int .i64 b))
      (first | go_keep | exact NB2.at_ | exact NB3.at_)
      (first
        | (go_at_call_of 75 a; refine (K1.out _ (by first | exact GR.out | exact GR.out.drew)).mono ?_; rintro e w2 ⟨rfl, L2, k2⟩; have NB2 : Nb w2 n (some ⟨b0, off, none⟩) c l a b gA gB gN g9 g10 := by first | exact NB.out.kept HVB.out hB k2.only | exact NB.out.drew.kept HVB.out hB k2.only)
        | (go_at_call_of 75 b; refine (find_any B G b v L2 _ k2.grp k2.down (by rw [k2.len]; exact hb) (by rw [k2.len]; exact hn)).mono ?_; rintro e w3 ⟨rfl, L3, k3⟩; have NB3 : Nb w3 n (some ⟨b0, off, none⟩) c l a b gA gB gN g9 g10 := NB2.kept HVB.out hB k3.only))
    have KK : Kept w w3 B G v L L3 := ⟨k3.grp, k3.len.trans k2.len, k3.down, fun j => (k3.root j).trans (k2.root j), only_trans (only_trans (only_drew (World.grownBy.refl w _)) k2.only) k3.only⟩
    have n1 := blk_cell NB3.cn 1
    have c90 := blk_cell NB3.c9 0
    have f90 := blk_free NB3.c9 0
    have c100 := blk_cell NB3.c10 0
    have f100 := blk_free NB3.c10 0
    simp only [List.getElem?_toArray, List.getElem?_cons_zero, List.getElem?_cons_succ] at n1 c90 c100
    have c3 : w3.cell? ⟨b0, off + i * 3 + 2, none⟩ = some (.int .i64 x) := (cell_grown2 KK.only (by dsimp only; omega) (HVB.out b0 (by omega))).trans hcc
    have hr2 := k2.root b
    have KKH := Lib.hid KK
    have RR := Lib.hid hr
    clear KK k2 k3 NB2 NB3 hcf hct hcc qa qb
    rw [hr2]
    clear hr2
    generalize root (fn L) a = ra at hr ⊢
    generalize root (fn L) b = rb at hr ⊢
    subst hr
    go_wp2
    go_ret
    exact ⟨w3, L3, KKH.out, .inr ⟨RR.out, rfl, rfl⟩⟩
  · go_enter Try.func76, Try.ntmps76
    go_wp2
    go_region_held3 (fun w' => w'.cell? ⟨gA, 0, none⟩ = some (.int .i64 a) ∧ w'.cell? ⟨gB, 0, none⟩ = some (.int .i64 b))
      (first | go_keep | exact NB2.at_ | exact NB3.at_)
      (first
        | (go_at_call_of 75 a; refine (K1.out _ (by first | exact GR.out | exact GR.out.drew)).mono ?_; rintro e w2 ⟨rfl, L2, k2⟩; have NB2 : Nb w2 n (some ⟨b0, off, none⟩) c l a b gA gB gN g9 g10 := by first | exact NB.out.kept HVB.out hB k2.only | exact NB.out.drew.kept HVB.out hB k2.only)
        | (go_at_call_of 75 b; refine (find_any B G b v L2 _ k2.grp k2.down (by rw [k2.len]; exact hb) (by rw [k2.len]; exact hn)).mono ?_; rintro e w3 ⟨rfl, L3, k3⟩; have NB3 : Nb w3 n (some ⟨b0, off, none⟩) c l a b gA gB gN g9 g10 := NB2.kept HVB.out hB k3.only))
    have KK : Kept w w3 B G v L L3 := ⟨k3.grp, k3.len.trans k2.len, k3.down, fun j => (k3.root j).trans (k2.root j), only_trans (only_trans (only_drew (World.grownBy.refl w _)) k2.only) k3.only⟩
    have n1 := blk_cell NB3.cn 1
    have c90 := blk_cell NB3.c9 0
    have f90 := blk_free NB3.c9 0
    have c100 := blk_cell NB3.c10 0
    have f100 := blk_free NB3.c10 0
    simp only [List.getElem?_toArray, List.getElem?_cons_zero, List.getElem?_cons_succ] at n1 c90 c100
    have c3 : w3.cell? ⟨b0, off + i * 3 + 2, none⟩ = some (.int .i64 x) := (cell_grown2 KK.only (by dsimp only; omega) (HVB.out b0 (by omega))).trans hcc
    have hr2 := k2.root b
    have KKH := Lib.hid KK
    have RR := Lib.hid hr
    clear KK k2 k3 NB2 NB3 hcf hct hcc qa qb
    rw [hr2]
    clear hr2
    generalize root (fn L) a = ra at hr ⊢
    generalize root (fn L) b = rb at hr ⊢
    have hne : ((ra : Int) == (rb : Int)) = false := by rw [beq_eq_false_iff_ne]; omega
    have hne2 : ¬ ((ra : Int) = (rb : Int)) := by omega
    go_wp2
    go_ret
    exact ⟨w3, L3, KKH.out, .inl ⟨RR.out, rfl, rfl⟩⟩
end Go.Proofs.Ytdpjbjgecmnmnaa.Span
