/- The memory of an ara.Search: who lies where, and what each write leaves as it was. -/
/- The walks of (*ara.Search).key, Over and of Top of its heap. -/
import Derived.Test.YtpoolpaagbeokaaVAraTwo
import Derived.Test.YtpoolpaagbeokaaVHeapPlacePop
import Derived.Test.YtpoolpaagbeokaaVNetOuts
import Derived.Test.YtpoolpaagbeokaaVFlowMem
import Derived.Test.YtpoolpaagbeokaaVBellWalks
import Derived.StillTailTactics
import Derived.BigRegion
import Derived.BigQuiet
import Derived.Deep.RegionHeld3
namespace Go.Proofs.Ytpoolpaagbeokaa.Ara
open Go.RowKit Go.Proofs.Ytpoolpaagbeokaa NetLaw BellLaw StarLaw AraLaw Go.Proofs.Ytpoolpaagbeokaa.Net Go.Proofs.Ytpoolpaagbeokaa.Std Go.Proofs.Ytpoolpaagbeokaa.Flow
open Go.Proofs.Ytpoolpaagbeokaa.Heap (Kp Kp.refl Kp.below Kp.alloc Kp.drew Kp.setCell Kp.grown Kp.to fnOf)
open Go.Proofs.Ytpoolpaagbeokaa.HeapP (HeapAt d0 ltP ltP_ord)
set_option linter.unusedSimpArgs false
set_option linter.unusedVariables false
def ob (A : Option Addr) : Option Nat := (Value.slice A 0 0).ownBlock
theorem ob_ (A : Option Addr) (n c : Nat) : (Value.slice A n c).ownBlock = ob A := by cases A <;> rfl
/-- a round in memory: weight, way's slice, cost, steps; and the places that lie there -/
structure RE where
  num : Int
  den : Int
  A : Option Addr
  k : Nat
  c : Nat
  cost : Int
  done : Int
  path : List Int
def cr (x : RE) (j : Nat) : Value := match j with | 0 => .int .i64 x.num | 1 => .int .i64 x.den | 2 => .slice x.A x.k x.c | 3 => .int .i64 x.cost | _ => .int .i64 x.done
theorem one_cr (x : RE) (j : Nat) : (cr x j).oneCell' = true := by unfold cr; split <;> rfl
def RE.rnd (x : RE) : Rnd := ⟨x.num, x.den, x.path, x.cost, x.done⟩
/-- what stays where it is -/
structure Fix where
  n : Nat
  tt : Nat
  l : List E
  h : List Int
  ws : List (Int × Int)
  AE : Option Addr
  cE : Nat
  TO : Nat
  FO : Nat → Option Addr × Nat
  AH : Option Addr
  cH : Nat
  AW : Option Addr
  cW : Nat
  SC : Nat
  SP : Nat
  SD : Nat
  H : Nat
/-- what may lie elsewhere later: late ones, the heap's row, the rounds' row -/
structure Var where
  AL : Option Addr
  kl : Nat
  cl : Nat
  LT : List Int
  Ah : Option Addr
  m : Nat
  ch : Nat
  L : List HeapP.Pop
  AR : Option Addr
  kr : Nat
  cr : Nat
  RS : List RE
/-- a search's blocks -/
structure AM (b : Nat) (w : World) (P : Nat) (F : Fix) (Y : Var) (s : AS) : Prop where
  z : w.heap[P]? = some (.cells #[.int .i64 F.n, .slice F.AE F.l.length F.cE, .slice (some ⟨F.TO, 0, none⟩) F.n F.n, .int .i64 F.tt, .slice F.AH F.n F.cH, .slice F.AW F.ws.length F.cW, .slice (some ⟨F.SC, 0, none⟩) F.n F.n, .slice (some ⟨F.SP, 0, none⟩) F.n F.n, .slice (some ⟨F.SD, 0, none⟩) F.n F.n, .slice Y.AL Y.kl Y.cl, .pointer (some ⟨F.H, 0, none⟩), .int .i64 s.sp, .slice Y.AR Y.kr Y.cr] 105 (0, 0))
  zl : b ≤ P
  net : Own w b 110 3 ce (.slice F.AE F.l.length F.cE) F.l
  tab : Tab w b F.TO F.n F.FO (ol F.l F.l.length)
  hh : Own w b 3 1 ci (.slice F.AH F.n F.cH) F.h
  wt : Own w b 39 2 cp (.slice F.AW F.ws.length F.cW) F.ws
  cost : Own w b 3 1 ci (.slice (some ⟨F.SC, 0, none⟩) F.n F.n) s.C
  pred : Own w b 3 1 ci (.slice (some ⟨F.SP, 0, none⟩) F.n F.n) s.P
  done : Own w b 4 1 cb (.slice (some ⟨F.SD, 0, none⟩) F.n F.n) s.dn
  late : Own w b 3 1 ci (.slice Y.AL Y.kl Y.cl) Y.LT
  heap : HeapAt w b F.H (fnOf 40) Y.Ah Y.m Y.ch Y.L
  hp : HeapLaw.Hp d0 ltP Y.L
  rows : Own w b 43 5 Ara.cr (.slice Y.AR Y.kr Y.cr) Y.RS
  ways : ∀ x ∈ Y.RS, Own w b 3 1 ci (.slice x.A x.k x.c) x.path
  rds : Y.RS.map RE.rnd = s.rds
  lenC : s.C.length = F.n
  lenP : s.P.length = F.n
  lenD : s.dn.length = F.n
  lenH : F.h.length = F.n
  lenL : Y.LT.length = Y.kl
  lenR : Y.RS.length = Y.kr
  neCP : F.SC ≠ F.SP
  neH : ob F.AH ≠ some F.SC ∧ ob F.AH ≠ some F.SP
  neO : ∀ v, v < F.n → ob (F.FO v).1 ≠ some F.SC ∧ ob (F.FO v).1 ≠ some F.SP
  neL : ∀ g, ob Y.AL = some g → g ≠ F.SC ∧ g ≠ F.SP ∧ ob F.AH ≠ some g ∧ (∀ v, v < F.n → ob (F.FO v).1 ≠ some g) ∧ ∀ x ∈ Y.RS, ob x.A ≠ some g
  neW : ∀ x ∈ Y.RS, ob x.A ≠ some F.SC ∧ ob x.A ≠ some F.SP
/-- a block that a search may write -/
def Mut (P : Nat) (F : Fix) (Y : Var) (g : Nat) : Prop := g = P ∨ g = F.SC ∨ g = F.SP ∨ g = F.SD ∨ g = F.H ∨ ob Y.Ah = some g ∨ ob Y.AL = some g ∨ ob Y.AR = some g
/-- all else is as it was -/
structure Fr (P : Nat) (F : Fix) (Y Y' : Var) (w w' : World) : Prop where
  os : w'.os = w.os
  tape : w'.tape = w.tape
  output : w'.output = w.output
  size : w.heap.size ≤ w'.heap.size
  block : ∀ g, g < w.heap.size → ¬ Mut P F Y g → w'.heap[g]? = w.heap[g]?
  new : ∀ g, Mut P F Y' g → Mut P F Y g ∨ w.heap.size ≤ g
  ways : ∀ x ∈ Y'.RS, x ∈ Y.RS ∨ ∀ g, ob x.A = some g → w.heap.size ≤ g
section
variable {b : Nat} {w w' w'' : World} {P : Nat} {F : Fix} {Y Y' Y'' : Var} {s : AS}
theorem Fr.refl (P : Nat) (F : Fix) (Y : Var) (w : World) : Fr P F Y Y w w := ⟨rfl, rfl, rfl, Nat.le_refl _, fun _ _ _ => rfl, fun _ h => .inl h, fun _ h => .inl h⟩
theorem Fr.trans (h : Fr P F Y Y' w w') (h' : Fr P F Y' Y'' w' w'') : Fr P F Y Y'' w w'' :=
  ⟨h'.os.trans h.os, h'.tape.trans h.tape, h'.output.trans h.output, Nat.le_trans h.size h'.size,
   fun g hg hn => (h'.block g (Nat.lt_of_lt_of_le hg h.size) (fun hm => (h.new g hm).elim hn (fun hl => by omega))).trans (h.block g hg hn),
   fun g hm => (h'.new g hm).elim (fun hm => h.new g hm) (fun hl => .inr (Nat.le_trans h.size hl)),
   fun x hx => (h'.ways x hx).elim (fun hx => h.ways x hx) (fun hn => .inr fun g hg => Nat.le_trans h.size (hn g hg))⟩
theorem Fr.below (h : Fr P F Y Y' w w') (hb : Below w'.heap.size w' w'') : Fr P F Y Y' w w'' :=
  ⟨hb.os.trans h.os, hb.tape.trans h.tape, hb.output.trans h.output, Nat.le_trans h.size hb.size, fun g hg hn => (hb.block g (Nat.lt_of_lt_of_le hg h.size)).trans (h.block g hg hn), h.new, h.ways⟩
theorem Fr.drewN (h : Fr P F Y Y' w w') (k : Nat) : Fr P F Y Y' w (w'.drewN k) := h.below (below_drewN (Below.refl _ _) k)
theorem Fr.drew (h : Fr P F Y Y' w w') : Fr P F Y Y' w w'.drew := h.drewN 1
theorem Fr.set (h : Fr P F Y Y' w w') {p : Addr} (hp : Mut P F Y p.block ∨ w.heap.size ≤ p.block) (u : Value) : Fr P F Y Y' w (w'.setCell p u) :=
  ⟨h.os, h.tape, h.output, by have := h.size; simpa [World.setCell] using this, fun g hg hn => (Below.heap_setCell _ _ _ _ (fun e => by
    rcases hp with hp | hp
    · exact hn (e ▸ hp)
    · omega)).trans (h.block g hg hn), h.new, h.ways⟩
theorem Fr.of (hb : Below w.heap.size w w') : Fr P F Y Y w w' := (Fr.refl P F Y w).below hb
theorem Fr.pre (hb : Below w.heap.size w w') (h : Fr P F Y Y' w' w'') (hm : ∀ g, Mut P F Y g → g < w.heap.size) : Fr P F Y Y' w w'' := (Fr.of hb).trans h
theorem AM.keep (h : AM b w P F Y s) (hb : Below w.heap.size w w') : AM b w' P F Y s :=
  ⟨blk_below h.z hb (lt_of_block h.z), h.zl, h.net.keep hb, h.tab.keep hb, h.hh.keep hb, h.wt.keep hb, h.cost.keep hb, h.pred.keep hb, h.done.keep hb, h.late.keep hb, h.heap.keep hb, h.hp, h.rows.keep hb, fun x hx => (h.ways x hx).keep hb, h.rds, h.lenC, h.lenP, h.lenD, h.lenH, h.lenL, h.lenR, h.neCP, h.neH, h.neO, h.neL, h.neW⟩
theorem AM.size (h : AM b w P F Y s) : b ≤ w.heap.size := Nat.le_trans h.zl (Nat.le_of_lt (lt_of_block h.z))
/-- what a search writes is its own -/
theorem AM.mut (h : AM b w P F Y s) {g : Nat} (hm : Mut P F Y g) : b ≤ g ∧ g < w.heap.size := by
  rcases hm with rfl | rfl | rfl | rfl | rfl | hm | hm | hm
  · exact ⟨h.zl, lt_of_block h.z⟩
  · exact h.cost.base_ _ rfl
  · exact h.pred.base_ _ rfl
  · exact h.done.base_ _ rfl
  · exact ⟨h.heap.hb, h.heap.lt⟩
  · exact h.heap.own.base_ _ ((ob_ ..).trans hm)
  · exact h.late.base_ _ ((ob_ ..).trans hm)
  · exact h.rows.base_ _ ((ob_ ..).trans hm)
theorem AM.lo (h : AM b w P F Y s) (hf : Fr P F Y Y' w w') : Below b w w' :=
  ⟨hf.os, hf.tape, hf.output, hf.size, fun g hg => hf.block g (Nat.lt_of_lt_of_le hg h.size) (fun hm => by have := (h.mut hm).1; omega)⟩
end
end Go.Proofs.Ytpoolpaagbeokaa.Ara

namespace Go.Proofs.Ytpoolpaagbeokaa.Ara
open Go.RowKit Go.Proofs.Ytpoolpaagbeokaa NetLaw BellLaw StarLaw AraLaw Go.Proofs.Ytpoolpaagbeokaa.Net Go.Proofs.Ytpoolpaagbeokaa.Std Go.Proofs.Ytpoolpaagbeokaa.Flow
open Go.Proofs.Ytpoolpaagbeokaa.Heap (Kp Kp.refl Kp.below Kp.alloc Kp.drew Kp.setCell Kp.grown Kp.to fnOf)
open Go.Proofs.Ytpoolpaagbeokaa.HeapP (HeapAt d0 ltP ltP_ord)
set_option linter.unusedSimpArgs false
set_option linter.unusedVariables false
/-- a weight that may be -/
def WOk (w : Int × Int) : Prop := (1 ≤ w.2 ∧ w.2 ≤ 1000000) ∧ 1 ≤ w.1 ∧ w.1 ≤ 1000000
section
variable {b : Nat} {w w' : World} {P : Nat} {F : Fix} {Y : Var} {s : AS}
theorem AM.kr_ (h : AM b w P F Y s) : Y.kr = s.rds.length := by rw [← h.lenR, ← h.rds, List.length_map]
theorem AM.zs (h : AM b w P F Y s) : (w.cell? ⟨P, 0, none⟩ = some (.int .i64 F.n) ∧ w.cell? ⟨P, 1, none⟩ = some (.slice F.AE F.l.length F.cE) ∧ w.cell? ⟨P, 2, none⟩ = some (.slice (some ⟨F.TO, 0, none⟩) F.n F.n) ∧ w.cell? ⟨P, 3, none⟩ = some (.int .i64 F.tt) ∧ w.cell? ⟨P, 4, none⟩ = some (.slice F.AH F.n F.cH) ∧ w.cell? ⟨P, 5, none⟩ = some (.slice F.AW F.ws.length F.cW)) ∧ (w.cell? ⟨P, 6, none⟩ = some (.slice (some ⟨F.SC, 0, none⟩) F.n F.n) ∧ w.cell? ⟨P, 7, none⟩ = some (.slice (some ⟨F.SP, 0, none⟩) F.n F.n) ∧ w.cell? ⟨P, 8, none⟩ = some (.slice (some ⟨F.SD, 0, none⟩) F.n F.n) ∧ w.cell? ⟨P, 9, none⟩ = some (.slice Y.AL Y.kl Y.cl) ∧ w.cell? ⟨P, 10, none⟩ = some (.pointer (some ⟨F.H, 0, none⟩)) ∧ w.cell? ⟨P, 11, none⟩ = some (.int .i64 s.sp) ∧ w.cell? ⟨P, 12, none⟩ = some (.slice Y.AR Y.kr Y.cr)) ∧ P < w.heap.size := by
  refine ⟨⟨?_, ?_, ?_, ?_, ?_, ?_⟩, ⟨?_, ?_, ?_, ?_, ?_, ?_, ?_⟩, lt_of_block h.z⟩ <;> (rw [blk_cell h.z]; rfl)
/-- a place's cost and guess -/
theorem AM.cells (h : AM b w P F Y s) {v : Nat} (hv : v < F.n) : ∃ bh oh, F.AH = some ⟨bh, oh, none⟩ ∧ bh < w.heap.size ∧ F.SC < w.heap.size ∧ w.cell? ⟨F.SC, v, none⟩ = some (.int .i64 (dg s.C v)) ∧ w.cell? ⟨bh, oh + v, none⟩ = some (.int .i64 (dg F.h v)) := by
  obtain ⟨c1, _⟩ := own_at1 h.lenC h.cost hv
  obtain ⟨bh, oh, hA, hb, hc⟩ := h.hh.sl.2.atI (k := v) (by rw [h.lenH]; exact hv)
  refine ⟨bh, oh, hA, hb, (h.cost.base_ F.SC rfl).2, ?_, ?_⟩
  · rw [c1]; unfold dg; rw [Int.toNat_natCast]
  · rw [hc]; unfold dg; rw [Int.toNat_natCast, List.getD_eq_getElem?_getD, List.getElem?_eq_getElem (by rw [h.lenH]; exact hv)]; rfl
theorem AM.weight (h : AM b w P F Y s) (hr : s.rds.length < F.ws.length) : ∃ bw ow, F.AW = some ⟨bw, ow, none⟩ ∧ bw < w.heap.size ∧ w.cell? ⟨bw, ow + s.rds.length * 2, none⟩ = some (.int .i64 (cwt F.ws s).1) ∧ w.cell? ⟨bw, ow + s.rds.length * 2 + 1, none⟩ = some (.int .i64 (cwt F.ws s).2) := by
  have hc : cwt F.ws s = F.ws[s.rds.length] := by unfold cwt; rw [List.getD_eq_getElem?_getD, List.getElem?_eq_getElem hr]; rfl
  obtain ⟨b, off, hA, hB, hcc⟩ := h.wt.sl.2 (by omega)
  rw [hc]
  exact ⟨b, off, hA, hB, hcc _ hr 0 (by omega), hcc _ hr 1 (by omega)⟩
theorem isover_any (h : AM b w P F Y s) : Calls Try.prog 34 #[.pointer (some ⟨P, 0, none⟩)] w fun e w' => e = .returned (.bool (decide (s.rds.length = F.ws.length))) ∧ ∃ k, w' = w.drewN k := by
  obtain ⟨⟨_, _, _, _, _, z5⟩, ⟨_, _, _, _, _, _, z12⟩, zp⟩ := h.zs
  have hk := h.kr_
  rw [hk] at z12
  clear h hk
  generalize s.rds.length = k at *
  go_enter Try.func34, Try.ntmps34
  go_upto_region 1 with fail
  go_quiet (fail)
  go_wp2
  go_ret
  have hd : ((k : Int) == (F.ws.length : Int)) = decide (k = F.ws.length) := by
    by_cases hx : k = F.ws.length
    · rw [hx]; simp
    · have : (k : Int) ≠ (F.ws.length : Int) := by omega
      simp [hx, this]
  exact ⟨by rw [← hd]; rfl, nq, rfl⟩
/-- weigh.Key, and the function that it makes -/
theorem wkey_any (p q : Int) (w : World) : Calls Try.prog 69 #[.agg #[.int .i64 p, .int .i64 q]] w fun e w' => e = .returned (.func (.func 79) #[] #[.pointer (some ⟨w.heap.size, 0, none⟩)]) ∧ w' = w.alloc (.cells #[.int .i64 p, .int .i64 q] 39) := by
  go_enter Try.func69, Try.ntmps69
  go_wp2
  go_ret
  exact ⟨rfl, rfl⟩
theorem wkey_b (p q : Int) (w : World) : Calls Try.prog 69 #[.agg #[.int .i64 p, .int .i64 q]] w fun e w' => ∃ B, e = .returned (.func (.func 79) #[] #[.pointer (some ⟨B, 0, none⟩)]) ∧ Below w.heap.size w w' ∧ w'.cell? ⟨B, 0, none⟩ = some (.int .i64 p) ∧ w'.cell? ⟨B, 1, none⟩ = some (.int .i64 q) := by
  refine (wkey_any p q w).mono ?_
  rintro e w' ⟨rfl, rfl⟩
  exact ⟨_, rfl, (Below.refl _ _).alloc (Nat.le_refl _) _, blk_cell (heap_alloc_new w _) 0, blk_cell (heap_alloc_new w _) 1⟩
theorem kfn_any (Bw : Nat) (p q c g : Int) (w : World) (h0 : w.cell? ⟨Bw, 0, none⟩ = some (.int .i64 p)) (h1 : w.cell? ⟨Bw, 1, none⟩ = some (.int .i64 q)) (hw : WOk (p, q)) (hc : 0 ≤ c ∧ c ≤ far) (hg : 0 ≤ g ∧ g ≤ far) :
    Calls Try.prog 79 #[.int .i64 c, .int .i64 g, .pointer (some ⟨Bw, 0, none⟩)] w fun e w' => e = .returned (.int .i64 (q * c + p * g)) ∧ ∃ k, w' = w.drewN k := by
  obtain ⟨⟨q1, q2⟩, p1, p2⟩ := hw
  simp only at q1 q2 p1 p2
  have m1 : 0 ≤ q * c := Int.mul_nonneg (by omega) hc.1
  have m2 : 0 ≤ p * g := Int.mul_nonneg (by omega) hg.1
  have m3 : q * c ≤ 1000000 * 1099511627776 := Int.mul_le_mul (by omega) (by have := hc.2; unfold far at this; omega) hc.1 (by omega)
  have m4 : p * g ≤ 1000000 * 1099511627776 := Int.mul_le_mul (by omega) (by have := hg.2; unfold far at this; omega) hg.1 (by omega)
  obtain ⟨x, hx⟩ : ∃ x, q * c = x := ⟨_, rfl⟩
  obtain ⟨y, hy⟩ : ∃ y, p * g = y := ⟨_, rfl⟩
  rw [hx] at m1 m3 ⊢
  rw [hy] at m2 m4 ⊢
  have w1 : IntKind.i64.wrap x = x := IntWalk.i64_in _ (by omega)
  have w2 : IntKind.i64.wrap y = y := IntWalk.i64_in _ (by omega)
  have w3 : IntKind.i64.wrap (x + y) = x + y := IntWalk.i64_in _ (by omega)
  clear hc hg q1 q2 p1 p2
  go_enter Try.func79, Try.ntmps79
  go_wp2
  go_ret
  exact ⟨rfl, 0, rfl⟩
theorem below_cells {w1 w2 : World} {P : Nat} {B : Nat} (hb : Below B w1 w2) {o : Nat} {x : Value} (hP : P < B) (h : w1.cell? ⟨P, o, none⟩ = some x) : w2.cell? ⟨P, o, none⟩ = some x := (hb.cell (p := ⟨P, o, none⟩) hP).trans h
/-- a place's key, by the weight of now -/
theorem key_any (h : AM b w P F Y s) (hr : s.rds.length < F.ws.length) (hw : WOk (cwt F.ws s)) {v : Nat} (hv : v < F.n) (hc : 0 ≤ dg s.C v ∧ dg s.C v ≤ far) (hg : 0 ≤ dg F.h v ∧ dg F.h v ≤ far) :
    Calls Try.prog 59 #[.pointer (some ⟨P, 0, none⟩), .int .i64 v] w fun e w' => e = .returned (.int .i64 ((cwt F.ws s).2 * dg s.C v + (cwt F.ws s).1 * dg F.h v)) ∧ Below w.heap.size w w' := by
  obtain ⟨⟨_, _, _, _, z4, z5⟩, ⟨z6, _, _, _, _, _, z12⟩, zp⟩ := h.zs
  obtain ⟨bw, ow, e5, b5, x0, x1⟩ := h.weight hr
  obtain ⟨bh, oh, e4, b4, b6, y0, y1⟩ := h.cells hv
  have hk := h.kr_
  rw [hk] at z12
  rw [e5] at z5
  rw [e4] at z4
  clear h hk e5 e4
  generalize s.rds.length = k at *
  generalize F.ws.length = mw at *
  generalize dg s.C v = c at *
  generalize dg F.h v = g at *
  generalize cwt F.ws s = u at *
  obtain ⟨p, q⟩ := u
  simp only at x0 x1 ⊢
  have HB0 : Below w.heap.size w w := Below.refl _ _
  go_enter Try.func59, Try.ntmps59
  go_upto_region 1 with fail
  go_region_held3 (fun w' => w'.cell? ⟨P, 4, none⟩ = some (.slice (some ⟨bh, oh, none⟩) F.n F.cH) ∧ w'.cell? ⟨P, 5, none⟩ = some (.slice (some ⟨bw, ow, none⟩) mw F.cW) ∧ w'.cell? ⟨P, 6, none⟩ = some (.slice (some ⟨F.SC, 0, none⟩) F.n F.n) ∧ w'.cell? ⟨P, 12, none⟩ = some (.slice Y.AR k Y.cr) ∧ w'.cell? ⟨bw, ow + k * 2, none⟩ = some (.int .i64 p) ∧ w'.cell? ⟨bw, ow + k * 2 + 1, none⟩ = some (.int .i64 q) ∧ w'.cell? ⟨F.SC, v, none⟩ = some (.int .i64 c) ∧ w'.cell? ⟨bh, oh + v, none⟩ = some (.int .i64 g))
    (first
      | go_keep
      | exact p8
      | exact q8)
    (first
      | (go_at_call 69; refine (wkey_b p q _).mono ?_; rintro e wd ⟨B, rfl, hbd, t0, t1⟩; have p9 : Below w.heap.size w wd := HB0.drew.trans (hbd.mono (by simp)); have p8 : wd.cell? ⟨P, 4, none⟩ = some (.slice (some ⟨bh, oh, none⟩) F.n F.cH) ∧ wd.cell? ⟨P, 5, none⟩ = some (.slice (some ⟨bw, ow, none⟩) mw F.cW) ∧ wd.cell? ⟨P, 6, none⟩ = some (.slice (some ⟨F.SC, 0, none⟩) F.n F.n) ∧ wd.cell? ⟨P, 12, none⟩ = some (.slice Y.AR k Y.cr) ∧ wd.cell? ⟨bw, ow + k * 2, none⟩ = some (.int .i64 p) ∧ wd.cell? ⟨bw, ow + k * 2 + 1, none⟩ = some (.int .i64 q) ∧ wd.cell? ⟨F.SC, v, none⟩ = some (.int .i64 c) ∧ wd.cell? ⟨bh, oh + v, none⟩ = some (.int .i64 g) := ⟨below_cells p9 zp z4, below_cells p9 zp z5, below_cells p9 zp z6, below_cells p9 zp z12, below_cells p9 b5 x0, below_cells p9 b5 x1, below_cells p9 b6 y0, below_cells p9 b4 y1⟩)
      | (go_at_call 79; refine (kfn_any _ p q c g _ (by assumption) (by assumption) hw hc hg).mono ?_; rintro e we ⟨rfl, kk, hwe⟩; have q9 : Below w.heap.size w we := (by rw [hwe]; exact below_drewN p9 kk); have q8 : we.cell? ⟨P, 4, none⟩ = some (.slice (some ⟨bh, oh, none⟩) F.n F.cH) ∧ we.cell? ⟨P, 5, none⟩ = some (.slice (some ⟨bw, ow, none⟩) mw F.cW) ∧ we.cell? ⟨P, 6, none⟩ = some (.slice (some ⟨F.SC, 0, none⟩) F.n F.n) ∧ we.cell? ⟨P, 12, none⟩ = some (.slice Y.AR k Y.cr) ∧ we.cell? ⟨bw, ow + k * 2, none⟩ = some (.int .i64 p) ∧ we.cell? ⟨bw, ow + k * 2 + 1, none⟩ = some (.int .i64 q) ∧ we.cell? ⟨F.SC, v, none⟩ = some (.int .i64 c) ∧ we.cell? ⟨bh, oh + v, none⟩ = some (.int .i64 g) := ⟨below_cells q9 zp z4, below_cells q9 zp z5, below_cells q9 zp z6, below_cells q9 zp z12, below_cells q9 b5 x0, below_cells q9 b5 x1, below_cells q9 b6 y0, below_cells q9 b4 y1⟩))
  all_goals
    clear hwe
    go_wp2
    go_ret
    exact ⟨rfl, below_drewN p9 kk⟩
end
end Go.Proofs.Ytpoolpaagbeokaa.Ara
