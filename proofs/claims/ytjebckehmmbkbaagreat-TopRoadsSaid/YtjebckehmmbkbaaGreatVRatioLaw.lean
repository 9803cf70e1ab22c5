/- The keys of a search, and (*star.search).reach. The walk of star.Search. Plain facts on fractions in lowest terms: no Go in sight. -/
import Derived.Test.YtjebckehmmbkbaaGreatVStarWait
set_option linter.unusedSimpArgs false
set_option linter.unusedVariables false
set_option maxRecDepth 100000
set_option maxHeartbeats 24000000
namespace Go.Proofs.YtjebckehmmbkbaaGreat
namespace StarW
open Go.RowKit NetLaw BellLaw StarLaw HeapLaw Net Go.Proofs.YtjebckehmmbkbaaGreat.Std Flow Star
open Heap (Kp Kp.refl Kp.below Kp.alloc Kp.drew Kp.setCell Kp.grown Kp.to fnOf)
open HeapP (HeapAt d0 ltP ltP_ord less_any push_any)
def KK (q p:Int) (c g:Int):Int:=q*c+p*g
def FN (Bw:Nat):Value:= .func (.func 73) #[] #[.pointer (some ⟨Bw,0,none⟩)]
def KOk (w:World) (B Bw:Nat) (q p:Int):Prop:=w.cell? ⟨Bw,0,none⟩=some (.int .i64 p)/\w.cell? ⟨Bw,1,none⟩=some (.int .i64 q)/\Bw<B
theorem KOk.keep {w w':World} {B Bw:Nat} {q p:Int} (h:KOk w B Bw q p) (hb:Below B w w'):KOk w' B Bw q p:=⟨by rw[hb.cell (p:=⟨Bw,0,none⟩) h.2.2];exact h.1,by rw[hb.cell (p:=⟨Bw,1,none⟩) h.2.2];exact h.2.1,h.2.2⟩
theorem key_any (B Bw:Nat) (q p c g:Int) (w:World) (hq:1<=q/\q<=1000000) (hp:1<=p/\p<=1000000) (hc:0<=c/\c<=1099511627776) (hg:0<=g/\g<=1099511627776) (hK:KOk w B Bw q p) :
 Calls Tryz.prog 73 #[.int .i64 c,.int .i64 g,.pointer (some ⟨Bw,0,none⟩)] w fun e w'=>e= .returned (.int .i64 (KK q p c g))/\w'=w:=by
 obtain⟨k0,k1,kB⟩:=hK;obtain⟨c0,c1⟩:=hc;obtain⟨g0,g1⟩:=hg;have m1:0<=q*c:=Int.mul_nonneg (by omega) c0;have m2:0<=p*g:=Int.mul_nonneg (by omega) g0;have m3:q*c<=1000000*1099511627776:=Int.mul_le_mul (by omega) c1 c0 (by decide);have m4:p*g<=1000000*1099511627776:=Int.mul_le_mul (by omega) g1 g0 (by decide);unfold KK;generalize hx:q*c=x at *;generalize hy:p*g=y at *;go_enter Tryz.func73,Tryz.ntmps73;go_wp2;go_ret;exact⟨rfl,rfl⟩
def No (h D ord:List Int) (v:Nat) (x:Int):Prop:=(v:Int)∈ord\/dg D v<=x\/dg h v=far
section
variable {w0 w:World} {n m c ch Z SC SP SD T H mw cw top Bw:Nat} {A Ah Aw:Option Addr} {l:List E} {F:Nat->Option Addr × Nat} {L:List Pl} {D P ord hs:List Int} {q p:Int}
theorem cells (h:SM w0 w n A m c l Ah ch Z SC SP SD T H F (FN Bw) Aw mw cw L D P ord top) (hh:Sl w0 w0.heap.size 1 ci Ah hs) (hl:hs.length=n) {v:Nat} (hv:v<n) :
 w.cell? ⟨SC,v,none⟩=some (.int .i64 (dg D v))/\w.cell? ⟨SP,v,none⟩=some (.int .i64 (dg P v))/\w.cell? ⟨SD,v,none⟩=some (.bool (decide ((v:Int)∈ord)))/\∃b o,Ah=some ⟨b,o,none⟩/\b<w0.heap.size/\w.cell? ⟨b,o+v,none⟩=some (.int .i64 (dg hs v)):=by
 have e1:=(own_at1 h.dl h.cost hv).1;have e2:=(own_at1 h.pl h.pred hv).1;have e3:=(own_atG false (dnl_len ord n) h.done hv).1;rw[dnl_get hv] at e3;obtain⟨b,o,hA,hb,hc⟩:=(hh.keep h.lo zzL).atI (show v<hs.length by omega);have hd:∀X:List Int,dg X (v:Int)=X.getD v 0:=fun X=>by rw[dg,Int.toNat_natCast]
 refine⟨by rw[hd];exact e1,by rw[hd];exact e2,e3,b,o,hA,hb,?_⟩;rw[hc,hd,List.getD_eq_getElem?_getD,List.getElem?_eq_getElem (by omega)]
 rfl
theorem reach_no (h:SM w0 w n A m c l Ah ch Z SC SP SD T H F (FN Bw) Aw mw cw L D P ord top) (hh:Sl w0 w0.heap.size 1 ci Ah hs) (hl:hs.length=n) (hn:n<=64) {v:Nat} (hv:v<n) (x u:Int) (hno:No hs D ord v x) :
 Calls Tryz.prog 68 #[.pointer (some ⟨Z,0,none⟩),.int .i64 v,.int .i64 x,.int .i64 u] w fun e w'=>(∃r,e= .returned r)/\w'=w:=by
 obtain⟨c1,c2,c3,b,o,rfl,hb,c4⟩:=cells h hh hl hv;have z2:=blk_cell h.z 3;have z3:=blk_cell h.z 4;have z4:=blk_cell h.z 5;have z5:=blk_cell h.z 6;simp only[zzG,zzH,zzI] at z2 z3 z4 z5;have zv:(v:Int)<(n:Int):=by omega
 unfold No at hno;unfold far at hno
 by_cases a1:(v:Int)∈ord
 ·rw[decide_eq_true a1] at c3
  clear h hh hno a1 c1 c2 c4;go_enter Tryz.func68,Tryz.ntmps68;go_wp2;refine bodyPost_ret (v:= .tuple #[]) (by simp[results,Tryz.results68,go_sem]) rfl ?_;exact⟨⟨_,rfl⟩,rfl⟩
 ·rw[decide_eq_false a1] at c3
  by_cases a2:dg D v<=x
  ·clear h hh hno a1 c2 c4
   generalize dg D (v:Int)=y at *;go_enter Tryz.func68,Tryz.ntmps68;go_wp2;refine bodyPost_ret (v:= .tuple #[]) (by simp[results,Tryz.results68,go_sem]) rfl ?_;exact⟨⟨_,rfl⟩,rfl⟩
  ·have a3:dg hs v=1099511627776:=by
    rcases hno with h1|h1|h1
    ·exact absurd h1 a1
    ·exact absurd h1 a2
    ·exact h1
   rw[a3] at c4;clear h hh hno a1 c2 a3;generalize dg D (v:Int)=y at *;go_enter Tryz.func68,Tryz.ntmps68;go_wp2;refine bodyPost_ret (v:= .tuple #[]) (by simp[results,Tryz.results68,go_sem]) rfl ?_;exact⟨⟨_,rfl⟩,rfl⟩
def ReachSays (w0:World) (n:Nat) (A:Option Addr) (m c:Nat) (l:List E) (Ah:Option Addr) (ch Z SC SP SD T H:Nat) (F:Nat->Option Addr × Nat) (fn:Value) (Aw:Option Addr) (mw cw:Nat) (L:List Pl) (D P ord:List Int) (top:Nat) (k:Pl) (v:Nat) (x u:Int) (w:World) (e:Ending) (w':World):Prop :=
 (∃r,e= .returned r)/\∃Aw' cw' L',SM w0 w' n A m c l Ah ch Z SC SP SD T H F fn Aw' (mw+1) cw' L' (D.set v x) (P.set v u) ord top/\L'.Perm (k::L)/\Hp d0 ltP L' /\
   (∀g,g<w.heap.size->g≠SC->g≠SP->g≠H->(Value.slice Aw mw cw).ownBlock≠some g->w'.heap[g]?=w.heap[g]?)/\w.heap.size<=w'.heap.size/\∀S,(Value.slice Aw' (mw+1) cw').ownBlock=some S->(Value.slice Aw mw cw).ownBlock=some S\/w.heap.size<=S
theorem reach_yes (h:SM w0 w n A m c l Ah ch Z SC SP SD T H F (FN Bw) Aw mw cw L D P ord top) (hp:Hp d0 ltP L) (hh:Sl w0 w0.heap.size 1 ci Ah hs) (hl:hs.length=n) (hn:n<=64) {v:Nat} (hv:v<n) (x u:Int) (hno:¬No hs D ord v x)
 (hx:0<=x/\x<=1099511627776) (hlo:∀y∈hs,0<=y/\y<=far) (hq:1<=q/\q<=1000000) (hpp:1<=p/\p<=1000000) (hK:KOk w0 w0.heap.size Bw q p) (hmw:mw<=7000) :
 Calls Tryz.prog 68 #[.pointer (some ⟨Z,0,none⟩),.int .i64 v,.int .i64 x,.int .i64 u] w fun e w'=>ReachSays w0 n A m c l Ah ch Z SC SP SD T H F (FN Bw) Aw mw cw L D P ord top (KK q p x (dg hs v),dg hs v,v) v x u w e w':=by
 obtain⟨c1,c2,c3,b,o,rfl,hb,c4⟩:=cells h hh hl hv;have f1:=(own_at1 h.dl h.cost hv).2;have f2:=(own_at1 h.pl h.pred hv).2;have z2:=blk_cell h.z 3;have z3:=blk_cell h.z 4;have z4:=blk_cell h.z 5;have z5:=blk_cell h.z 6;have z6:=blk_cell h.z 7;have z7:=blk_cell h.z 8;simp only[zzG,zzH,zzI] at z2 z3 z4 z5 z6 z7;unfold FN at z7;have zv:(v:Int)<(n:Int):=by omega
 have a1:¬(v:Int)∈ord:=fun e=>hno (.inl e);have a2:¬dg D v<=x:=fun e=>hno (.inr (.inl e));have a3:¬dg hs v=1099511627776:=fun e=>hno (.inr (.inr e))
 have hgb:0<=dg hs v/\dg hs v<=1099511627776:=by
  have:=hlo (dg hs v) (HeurLaw.dg_mem (by omega) (by omega));unfold far at this;exact this
 have a4:(dg hs v == 1099511627776)=false:=beq_eq_false_iff_ne.2 a3;rw[decide_eq_false a1] at c3;have hSC:=(own_blk h.cost);have hSP:=(own_blk h.pred);obtain⟨k1,hk1⟩:=hSC;obtain⟨k2,hk2⟩:=hSP;have n1:Z≠SC:=blk_ne h.z hk1 (by decide);have n2:Z≠SP:=blk_ne h.z hk2 (by decide);have n3:=h.ne;have nb1:b≠SC:=by have:=(h.cost.base_ SC rfl).1;omega
 have nb2:b≠SP:=by have:=(h.pred.base_ SP rfl).1;omega
 have hset:=((h.setC v x).setP v u);have hwb:Below w0.heap.size w0 w:=h.lo;have HSET:=hid hset;have HP:=hid hp;have HKK:=hid hK;have HM:=hid h;clear hno a1 a3 hh hlo hset hp hK h hwb hk1 hk2;generalize hy:dg D (v:Int)=y at *;generalize hg:dg hs (v:Int)=g at *;clear hy hg;go_enter Tryz.func68,Tryz.ntmps68;go_upto_region 1 with fail
 go_cut [] from 36 to 49 (fun wx=>Hid (SM w0 wx n A m c l (some ⟨b,o,none⟩) ch Z SC SP SD T H F (FN Bw) Aw mw cw L (D.set v x) (P.set v u) ord top)/\Hid (∀g,g<w.heap.size->g≠SC->g≠SP->wx.heap[g]?=w.heap[g]?)/\Hid (wx.heap.size=w.heap.size)/\wx.cell? ⟨b,o+v,none⟩=some (.int .i64 g)/\Hid (Below w0.heap.size w0 wx))
 case first =>
  go_region
  all_goals
   go_wp2
   go_meet
   have hsw:∀g,g<w.heap.size->g≠SC->g≠SP->((w.setCell ⟨SC,v,none⟩ (.int .i64 x)).setCell ⟨SP,v,none⟩ (.int .i64 u)).heap[g]?=w.heap[g]?:=fun g _ h1 h2=>(Below.heap_setCell _ _ _ _ h2).trans (Below.heap_setCell _ _ _ _ h1);have hsw2:∀g,g<w.heap.size->g≠SC->g≠SP->((w.setCell ⟨SP,v,none⟩ (.int .i64 u)).setCell ⟨SC,v,none⟩ (.int .i64 x)).heap[g]?=w.heap[g]?:=fun g _ h1 h2=>(Below.heap_setCell _ _ _ _ h1).trans (Below.heap_setCell _ _ _ _ h2);have hm2:=((HM.out.setP v u).setC v x)
   first
    |exact⟨hid HSET.out.drew,hid hsw,hid (by simp[World.setCell]),(World.cell?_setCell_far _ ⟨SP,v,none⟩ ⟨b,o+v,none⟩ _ (fun e=>nb2 e.symm)).trans ((World.cell?_setCell_far _ ⟨SC,v,none⟩ ⟨b,o+v,none⟩ _ (fun e=>nb1 e.symm)).trans c4),hid HSET.out.drew.lo⟩
    |exact⟨hid hm2.drew,hid hsw2,hid (by simp[World.setCell]),(World.cell?_setCell_far _ ⟨SC,v,none⟩ ⟨b,o+v,none⟩ _ (fun e=>nb1 e.symm)).trans ((World.cell?_setCell_far _ ⟨SP,v,none⟩ ⟨b,o+v,none⟩ _ (fun e=>nb2 e.symm)).trans c4),hid hm2.drew.lo⟩
 case rest =>
  obtain⟨HS,HF,HZ,c5,HLO⟩:=hcut;clear c1 c2 c3 c4 z2 z3 z4 z5 z6 z7 f1 f2 HSET;have z2:=blk_cell HS.out.z 3;have z6:=blk_cell HS.out.z 7;have z7:=blk_cell HS.out.z 8;simp only[zzG,zzH,zzI] at z2 z6 z7;unfold FN at z7;have kk:=fun W hW=>key_any w0.heap.size Bw q p x g W hq hpp hx hgb hW;have kdr:KOk wc.drew w0.heap.size Bw q p:=HKK.out.keep HLO.out.drew;have KK1:=hid (kk wc.drew kdr);have kpush:=push_any ltP ltP_ord less_any w0.heap.size H Aw mw cw L (KK q p x g) g v wc.drew HS.out.drew.heap HP.out (by omega) HS.out.drew.lo.size;have KPUSH:=hid kpush;clear kk kdr kpush HKK;go_wp2;refine wp_region_still_tail 26 (by kernel_rfl) (by kernel_rfl) ?_;simp only[List.take_succ_cons,List.take_zero,List.drop_succ_cons,List.drop_zero]
  repeat still_step
  still_call (KK1.out)
  repeat still_step
  refine wpStill_nil ?_
  change wpList _ _ _ _ _ wc.drew
  go_wp2_with fail
  refine KPUSH.out.mono ?_;rintro e w8 ⟨⟨r,rfl⟩,A8,c8,L8,hh8,hpm8,hhp8,hkp8,hat8⟩;have hm8:=HS.out.drew.kp hkp8 hh8;have hfr:∀g,g<w.heap.size->g≠SC->g≠SP->g≠H->(Value.slice Aw mw cw).ownBlock≠some g->w8.heap[g]?=w.heap[g]?:=fun g h1 h2 h3 h4 h5=>(hkp8.block g (by have:=HZ.out;show g<wc.heap.size;omega) h4 (fun e=>h5 e.symm)).trans (HF.out g h1 h2 h3);have hsz:w.heap.size<=w8.heap.size:=by have h1:=hkp8.size;have h2:=HZ.out;have h3:wc.drew.heap.size=wc.heap.size:=rfl;omega
  have hat:∀S,(Value.slice A8 (mw+1) c8).ownBlock=some S->(Value.slice Aw mw cw).ownBlock=some S\/w.heap.size<=S:=fun S hS=>by
   rcases hat8 S hS with h1|h1
   ·exact .inl h1
   ·have h2:=HZ.out;have h3:wc.drew.heap.size=wc.heap.size:=rfl;exact .inr (by omega)
  have HM8:=hid hm8;have HFR:=hid hfr;have HAT:=hid hat;clear hm8 hfr hat hkp8 hat8 hh8 z2 z6 z7 c5;go_wp2;refine bodyPost_end (v:= .tuple #[]) (by simp[results,Tryz.results68,go_sem]) rfl ?_;exact⟨⟨_,rfl⟩,A8,c8,L8,HM8.out,hpm8,hhp8,HFR.out,hsz,HAT.out⟩
end
end StarW
namespace StarW
open Go.RowKit NetLaw BellLaw DijkLaw StarLaw HeapLaw Net Go.Proofs.YtjebckehmmbkbaaGreat.Std Flow Star
open Heap (Kp Kp.refl Kp.below Kp.alloc Kp.drew Kp.setCell Kp.grown Kp.to fnOf)
open HeapP (HeapAt d0 ltP ltP_ord less_any push_any pop_any new_any len_any PopSays)
open Dijk (td ol_mem ol_count Tab_mono)
open Makers (wpAnyH_makers putsF mnum mdst lists)
theorem td_ol (l:List E) (v:Nat):td l (ol l l.length v)=oe l v:=by
 have h:=oe_take (l:=l) (v:=(v:Int)) l.length;rw[if_pos zzL,List.take_length] at h;rw[<-h];unfold td ol;rw[List.map_map];refine List.map_congr_left fun i _=> ?_;simp
def Mkr (w0:World) (n:Nat) (l:List E) (i:Nat) (v:Value) (lo hi:Nat) (w':World):Prop :=
 if i=2 then ∃T F,v= .slice (some ⟨T,0,none⟩) n n/\Tab w' lo T n F (ol l l.length)/\T<hi/\∀u,u<n->∀g,(Value.slice (F u).1 0 0).ownBlock=some g->g<hi
 else if i=12 then ∃g,v= .slice (some ⟨g,0,none⟩) n n/\g<hi/\Own w' lo 4 1 cb (.slice (some ⟨g,0,none⟩) n n) (List.replicate n false)
 else if i=13 then ∃H,v= .pointer (some ⟨H,0,none⟩)/\H<hi/\HeapAt w' lo H (fnOf 67) none 0 0 []
 else ∃g,v= .slice (some ⟨g,0,none⟩) n n/\g<hi/\Own w' lo 3 1 ci (.slice (some ⟨g,0,none⟩) n n) (List.replicate n 0)
theorem Mkr.keep {w0 w1 w2:World} {n:Nat} {l:List E} {i:Nat} {v:Value} {lo hi:Nat} (h:Mkr w0 n l i v lo hi w1) (hb:Below w1.heap.size w1 w2):Mkr w0 n l i v lo hi w2:=by
 unfold Mkr at *;split at h
 ·rename_i hi2
  rw[if_pos hi2];obtain⟨T,F,h1,h2,h3⟩:=h;exact⟨T,F,h1,h2.keep hb,h3⟩
 ·rename_i hi2
  rw[if_neg hi2];split at h
  ·rename_i hi3
   rw[if_pos hi3];obtain⟨g,h1,h2,h3⟩:=h;exact⟨g,h1,h2,h3.keep hb⟩
  ·rename_i hi3
   rw[if_neg hi3];split at h
   ·rename_i hi4
    rw[if_pos hi4];obtain⟨g,h1,h2,h3⟩:=h;exact⟨g,h1,h2,h3.keep hb⟩
   ·rename_i hi4
    rw[if_neg hi4];obtain⟨g,h1,h2,h3⟩:=h;exact⟨g,h1,h2,h3.keep hb⟩
theorem KK_mono {q p:Int} (hq:1<=q) (c c' g:Int) (h:c<=c'):KK q p c g<=KK q p c' g:=by
 unfold KK
 first
  |omega
  |(have h1:=Int.mul_le_mul_of_nonneg_left h (show 0<=q by omega)
    omega)
theorem wt_start {q p:Int} {n:Nat} {hs:List Int}:Wt (KK q p) n hs (List.replicate n far) [] [] :=
 ⟨fun e he=>(by cases he),fun u hu=>absurd hu.2.1 (by rw[rep_dg hu.1.1 hu.1.2];exact Int.lt_irrefl _)⟩
structure Lp (w0 w:World) (n fr tt:Nat) (A:Option Addr) (m c:Nat) (l:List E) (Ah:Option Addr) (ch:Nat) (hs:List Int) (q p:Int) (Z SC SP SD T H:Nat) (F:Nat->Option Addr × Nat) (fn:Value) (tp:Nat) (Aw:Option Addr) (mw cw:Nat) (L:List Pl) (D P ord:List Int) (v:Value):Prop where
 sm:SM w0 w n A m c l Ah ch Z SC SP SD T H F fn Aw mw cw L D P ord tp
 hp:Hp d0 ltP L
 wt:Wt (KK q p) n hs D ord L
 rch:Rch (KK q p) n fr tt l hs D P ord
 own:Own w tp 3 1 ci v ord
def SearchSays (n fr tt:Nat) (l:List E) (hs:List Int) (q p:Int) (w:World) (e:Ending) (w':World):Prop :=
 ∃D P ord,Rch (KK q p) n fr tt l hs D P ord /\
  ((Nx (KK q p) n hs D ord tt/\∃cs A1 c1 A2 c2,Ch P tt cs/\e= .returned (.tuple #[.agg #[.slice A1 cs.reverse.length c1,.int .i64 (dg D tt),.slice A2 (ord.length+1) c2],.int .i64 0])/\Own w' w.heap.size 3 1 ci (.slice A1 cs.reverse.length c1) cs.reverse/\Own w' w.heap.size 3 1 ci (.slice A2 (ord.length+1) c2) (ord++[(tt:Int)]))
   \/ ((∀u,¬Opn n D ord u)/\e= .returned (.tuple #[.agg #[.slice none 0 0,.int .i64 0,.slice none 0 0],.int .i64 5])))/\Below w.heap.size w w'
theorem bd_set {D:List Int} {t n:Nat} {x:Int} (h:∀u:Nat,u<n->0<=dg D u/\dg D u<=far) (hx:0<=x/\x<=far):∀u:Nat,u<n->0<=dg (D.set t x) u/\dg (D.set t x) u<=far:=by
 intro u hu;have h1:=h u hu;rw[dg,Int.toNat_natCast,List.getD_eq_getElem?_getD] at h1;rw[dg,Int.toNat_natCast,List.getD_eq_getElem?_getD,List.getElem?_set];split
 ·split
  ·exact hx
  ·simp[far]
 ·exact h1
theorem td_take {l:List E} {r:List Int} {j i:Nat} (hj:j<r.length) (hi:r[j]=(i:Int)) (hil:i<l.length):td l (r.take (j+1))=td l (r.take j)++[l[i]]:=by
 rw[List.take_add_one,List.getElem?_eq_getElem hj,td,List.map_append,hi];simp[td,List.getD_eq_getElem?_getD,List.getElem?_eq_getElem hil]
theorem own_fr {w w':World} {b:Nat} {v:Value} {r:List Int} (ho:Own w b 3 1 ci v r) (hf:∀g cs,v.ownBlock=some g->w.heap[g]?=some (.cells cs 3 (0,0))->w'.heap[g]?=w.heap[g]?):Own w' b 3 1 ci v r:=by
 refine⟨ho.1,?_⟩;rcases ho.2 with h3|⟨g,cap,cur,rfl,hg,hh,rest⟩
 ·exact .inl h3
 ·exact .inr ⟨g,cap,cur,rfl,hg,(hf g _ rfl hh).trans hh,rest⟩
theorem res_kept {w:World} {R b:Nat} {v:Value} {r:List Int} {cs:Array Value} (h:Own w b 3 1 ci v r) (hr:w.heap[R]?=some (.cells cs 38 (0,0))) (x y z:Value) :
 Own (((w.setCell ⟨R,0,none⟩ x).setCell ⟨R,1,none⟩ y).setCell ⟨R,2,none⟩ z) b 3 1 ci v r:=by
 have hne:=h.ne_ hr (by decide);exact((h.setCell hne x).setCell hne y).setCell hne z
def Made (w0:World) (n:Nat) (A:Option Addr) (m c:Nat) (l:List E) (Ah:Option Addr) (ch:Nat) (fn:Value) (Z:Nat) (w:World):Prop :=
 ∃SC SP SD T H F,SM w0 w n A m c l Ah ch Z SC SP SD T H F fn none 0 0 [] (List.replicate n 0) (List.replicate n 0) [] w.heap.size
theorem search_any (n fr tt:Nat) (A:Option Addr) (m c:Nat) (l:List E) (Ah:Option Addr) (ch:Nat) (hs:List Int) (q p:Int) (Bw:Nat) (w:World) (hm:l.length=m) (hl:Sl w w.heap.size 3 ce A l) (hg:NetLaw.Good n l) (hc:∀e∈l,1<=e.2.2) (hh:Sl w w.heap.size 1 ci Ah hs) (hhl:hs.length=n) (hlo:∀y∈hs,0<=y/\y<=far) (hf:fr<n) (ht:tt<n) (hq:1<=q/\q<=1000000) (hp:1<=p/\p<=1000000) (hK:KOk w w.heap.size Bw q p) :
 Calls Tryz.prog 33 #[.agg #[.int .i64 n,.slice A m c],.int .i64 fr,.int .i64 tt,.slice Ah n ch,FN Bw] w fun e w'=>SearchSays n fr tt l hs q p w e w':=by
 have hn1:=hg.lo;have hn64:=hg.hi;have hl6:=hg.len;rw[hm] at hl6;have hw0:Below w.heap.size w ((w.alloc (.cells #[.int .i64 n,.slice A m c] 24)).alloc (.cells #[.slice none 0 0,.int .i64 0,.slice none 0 0] 38)):=((Below.refl _ _).alloc zzL _).alloc (by simp) _;have hbox:=blk_alloc (heap_alloc_new w (.cells #[.int .i64 n,.slice A m c] 24)) (.cells #[.slice none 0 0,.int .i64 0,.slice none 0 0] 38);have hres:=heap_alloc_new (w.alloc (.cells #[.int .i64 n,.slice A m c] 24)) (.cells #[.slice none 0 0,.int .i64 0,.slice none 0 0] 38);rw[show (w.alloc (.cells #[.int .i64 n,.slice A m c] 24)).heap.size=w.heap.size+1 by simp] at hres
 have hmk:∀w,(Instr.makeSlice 25 (.int .i64 (n:Int)) (.int .i64 (n:Int))).run Tryz.prog w= .ok (.slice (some ⟨w.heap.size,0,none⟩) n n) (w.alloc (.cells (madeCells #[.int .i64 0] n) 3)) :=
  run_make_row' (P:=Tryz.prog) 25 3 (.int .i64 0) 8 Tryz.underlying25 (by kernel_rfl) rfl .i64 .i64 n (by omega) (by omega)
 have hmb:∀w,(Instr.makeSlice 86 (.int .i64 (n:Int)) (.int .i64 (n:Int))).run Tryz.prog w= .ok (.slice (some ⟨w.heap.size,0,none⟩) n n) (w.alloc (.cells (madeCells #[.bool false] n) 4)) :=
  run_make_row' (P:=Tryz.prog) 86 4 (.bool false) 1 Tryz.underlying86 (by kernel_rfl) rfl .i64 .i64 n (by omega) (by omega)
 have ko:∀W,Sl W W.heap.size 3 ce A l->Calls Tryz.prog 37 #[.agg #[.int .i64 n,.slice A m c]] W fun e w'=>∃S F,e= .returned (.slice (some ⟨S,0,none⟩) n n)/\Tab w' W.heap.size S n F (ol l l.length)/\Below W.heap.size W w':=fun W h=>by
  have:=outs_wide n A c l W h (Wide.of hg);rw[show (Value.slice A m c)=Value.slice A l.length c by rw[hm]];exact this
 have knew:=fun W=>new_any 67 W;unfold fnOf at knew;have KO:=hid ko;have KNEW:=hid knew;have HMK:=hid hmk;have HMB:=hid hmb;have HBOX:=hid hbox;have HRES:=hid hres;have HSL:=hid hl;have HG:=hid hg;have HC:=hid hc;have HH:=hid hh;have HHL:=hid hhl;have HLO:=hid hlo;have HKK:=hid hK;have HM:=hid hm;have HF:=hid hf;have HT:=hid ht;have HQ:=hid hq;have HP:=hid hp;have HW0:=hid hw0;clear ko knew hmk hmb hl hg hc hh hhl hlo hK hm hf ht hq hp;go_enter Tryz.func33,Tryz.ntmps33;go_upto_region 1 with fail
 go_cut [12] from 12 to 35 (fun s12 wx=>∃Z:Nat,s12= .pointer (some ⟨Z,0,none⟩)/\Hid (Made w n A m c l Ah ch (FN Bw) Z wx))
 case first =>
  refine Go.wp_region_held_drew (S:=fun w'=>w'.cell? ⟨w.heap.size,0,none⟩=some (.int .i64 n)/\w'.cell? ⟨w.heap.size,1,none⟩=some (.slice A m c)) (by kernel_rfl) ?_ (fun hHeld=> ?_)
  ·exact⟨blk_cell HBOX.out 0,blk_cell HBOX.out 1⟩
  ·skip
   refine zzT 17 0 ?_ rfl (by kernel_rfl) (fun _ _ _ h=>h) (.inl ⟨by rfl,?_⟩) ‹_› ?_;rotate_left;(intro w hSw;(try dsimp only at hSw);go_simp;try with_reducible rfl);try simp only[Act.put,zzA,zzB,zzC,zzD,zzE,zzF];refine zzT 16 1 ?_ rfl (by kernel_rfl) (fun _ _ _ h=>h) (.inl ⟨by rfl,?_⟩) ‹_› ?_;rotate_left;(intro w hSw;(try dsimp only at hSw);go_simp;try with_reducible rfl);try simp only[Act.put,zzA,zzB,zzC,zzD,zzE,zzF];refine zzT 15 3 ?_ rfl (by kernel_rfl) (fun _ _ _ h=>h) (.inl ⟨by rfl,?_⟩) ‹_› ?_;rotate_left;(intro w hSw;(try dsimp only at hSw);go_simp;try with_reducible rfl);try simp only[Act.put,zzA,zzB,zzC,zzD,zzE,zzF];refine zzT 14 4 ?_ rfl (by kernel_rfl) (fun _ _ _ h=>h) (.inl ⟨by rfl,?_⟩) ‹_› ?_;rotate_left;(intro w hSw;(try dsimp only at hSw);go_simp;try with_reducible rfl);try simp only[Act.put,zzA,zzB,zzC,zzD,zzE,zzF];refine zzT 13 5 ?_ rfl (by kernel_rfl) (fun _ _ _ h=>h) (.inl ⟨by rfl,?_⟩) ‹_› ?_;rotate_left;(intro w hSw;(try dsimp only at hSw);go_simp;try with_reducible rfl);try simp only[Act.put,zzA,zzB,zzC,zzD,zzE,zzF];refine zzT 12 7 ?_ rfl (by kernel_rfl) (fun _ _ _ h=>h) (.inl ⟨by rfl,?_⟩) ‹_› ?_;rotate_left;(intro w hSw;(try dsimp only at hSw);go_simp;try with_reducible rfl);try simp only[Act.put,zzA,zzB,zzC,zzD,zzE,zzF];refine zzT 11 8 ?_ rfl (by kernel_rfl) (fun _ _ _ h=>h) (.inl ⟨by rfl,?_⟩) ‹_› ?_;rotate_left;(intro w hSw;(try dsimp only at hSw);go_simp;try with_reducible rfl);try simp only[Act.put,zzA,zzB,zzC,zzD,zzE,zzF];refine zzT 10 10 ?_ rfl (by kernel_rfl) (fun _ _ _ h=>h) (.inl ⟨by rfl,?_⟩) ‹_› ?_;rotate_left;(intro w hSw;(try dsimp only at hSw);go_simp;try with_reducible rfl);try simp only[Act.put,zzA,zzB,zzC,zzD,zzE,zzF];refine zzT 9 11 ?_ rfl (by kernel_rfl) (fun _ _ _ h=>h) (.inl ⟨by rfl,?_⟩) ‹_› ?_;rotate_left;(intro w hSw;(try dsimp only at hSw);go_simp;try with_reducible rfl);try simp only[Act.put,zzA,zzB,zzC,zzD,zzE,zzF];refine zzT 8 14 ?_ rfl (by kernel_rfl) (fun _ _ _ h=>h) (.inl ⟨by rfl,?_⟩) ‹_› ?_;rotate_left;(intro w hSw;(try dsimp only at hSw);go_simp;try with_reducible rfl);try simp only[Act.put,zzA,zzB,zzC,zzD,zzE,zzF];refine wpAnyH_makers (fuel:=3) (ms:=[(2,21),(6,25),(9,28),(12,31),(13,32)]) (φ:=Mkr w n l) (by kernel_rfl) (by kernel_rfl) (by decide) (by decide) hHeld ?_ ?_ ?_
   ·exact fun p _ v a b w1 w2 h hb=>h.keep hb
   ·intro p hp o ho f w1 hS hB K hK
    have B01:=HW0.out.drew.trans (hB.mono HW0.out.size);have hz0:w.heap.size<w1.heap.size:=by have:=hB.size;simp at this;omega
    have hs2:∀w2,Below w1.heap.size w1 w2->w2.cell? ⟨w.heap.size,0,none⟩=some (.int .i64 n)/\w2.cell? ⟨w.heap.size,1,none⟩=some (.slice A m c):=fun w2 hb=>⟨(hb.cell (p:=⟨w.heap.size,0,none⟩) hz0).trans hS.1,(hb.cell (p:=⟨w.heap.size,1,none⟩) hz0).trans hS.2⟩;have hmk:=HMK.out;have hmb:=HMB.out;have HS2:=hid hs2;have HB01:=hid B01;clear hS hB hs2 B01 hHeld;simp only[List.mem_cons,List.not_mem_nil,or_false] at hp;rcases hp with rfl|rfl|rfl|rfl|rfl
    all_goals
     simp only[zzG,zzI,zzH,Option.some.injEq] at ho;subst ho;simp only[putsF,mdst,List.map_cons,List.map_nil,List.foldl_cons,List.foldl_nil,Act.put,List.setIfInBounds_toArray,List.set_cons_zero,List.set_cons_succ] at hK ⊢;have HKX:=hid hK;clear hK;go_simp
    ·refine(KO.out _ ((HSL.out.keep HB01.out zzL).more HB01.out.size)).mono ?_
     rintro e w2 ⟨T,F,rfl,htab,hb2⟩;exact HKX.out _ _ (by unfold Mkr;rw[if_pos rfl];exact⟨T,F,rfl,htab,htab.lt,fun u hu g hg=>((htab.own u hu).base_ g ((obs ..).trans hg)).2⟩) (HS2.out _ hb2) hb2
    ·exact HKX.out _ _ (by unfold Mkr;rw[if_neg (by decide),if_neg (by decide),if_neg (by decide)];exact⟨w1.heap.size,rfl,by simp,own_madeI n w1.heap.size w1 zzL (by omega) rfl⟩) (HS2.out _ ((Below.refl _ _).alloc zzL _)) ((Below.refl _ _).alloc zzL _)
    ·exact HKX.out _ _ (by unfold Mkr;rw[if_neg (by decide),if_neg (by decide),if_neg (by decide)];exact⟨w1.heap.size,rfl,by simp,own_madeI n w1.heap.size w1 zzL (by omega) rfl⟩) (HS2.out _ ((Below.refl _ _).alloc zzL _)) ((Below.refl _ _).alloc zzL _)
    ·exact HKX.out _ _ (by unfold Mkr;rw[if_neg (by decide),if_pos rfl];exact⟨w1.heap.size,rfl,by simp,own_madeB n w1.heap.size w1 zzL (by omega) rfl⟩) (HS2.out _ ((Below.refl _ _).alloc zzL _)) ((Below.refl _ _).alloc zzL _)
    ·refine(KNEW.out _).mono ?_
     rintro e w2 ⟨H,rfl,hh2,hb2⟩;exact HKX.out _ _ (by unfold Mkr;rw[if_neg (by decide),if_neg (by decide),if_pos rfl];exact⟨H,rfl,hh2.lt,hh2⟩) (HS2.out _ hb2) hb2
   ·intro f lo hi w1 hS hB hφ hdj
    have B01:=HW0.out.drew.trans (hB.mono HW0.out.size);have hz0:w.heap.size+2<=w1.heap.size:=by have:=hB.size;simp at this;omega
    have hbx1:=blk_below (w:=(World.drew _)) HBOX.out hB (by simp;omega);have hrs1:=blk_below (w:=(World.drew _)) HRES.out hB (by simp);obtain⟨m2,l2,k2⟩:=hφ (2,21) (by simp);obtain⟨m6,l6,k6⟩:=hφ (6,25) (by simp);obtain⟨m9,l9,k9⟩:=hφ (9,28) (by simp);obtain⟨m12,l12,k12⟩:=hφ (12,31) (by simp);obtain⟨m13,l13,k13⟩:=hφ (13,32) (by simp);have d69:=hdj (6,25) (by simp) (9,28) (by simp) (by decide);have d26:=hdj (2,21) (by simp) (6,25) (by simp) (by decide);have d29:=hdj (2,21) (by simp) (9,28) (by simp) (by decide);simp only at m2 l2 k2 m6 l6 k6 m9 l9 k9 m12 l12 k12 m13 l13 k13 d69 d26 d29;unfold Mkr at m2 m6 m9 m12 m13;rw[if_pos rfl] at m2;rw[if_neg (by decide),if_neg (by decide),if_neg (by decide)] at m6 m9;rw[if_neg (by decide),if_pos rfl] at m12;rw[if_neg (by decide),if_neg (by decide),if_pos rfl] at m13;obtain⟨T,F,e21,htab,hT,hF⟩:=m2;obtain⟨SC,e25,hSC,oC⟩:=m6;obtain⟨SP,e28,hSP,oP⟩:=m9;obtain⟨SD,e31,hSD,oD⟩:=m12;obtain⟨H,e32,hH,hh⟩:=m13;clear hφ;simp only[putsF,mdst,List.map_cons,List.map_nil,List.foldl_cons,List.foldl_nil,Act.put,List.setIfInBounds_toArray,List.set_cons_zero,List.set_cons_succ,e21,e25,e28,e31,e32];clear e21 e25 e28 e31 e32;have bz:w.heap.size<=((w.alloc (.cells #[.int .i64 n,.slice A m c] 24)).alloc (.cells #[.slice none 0 0,.int .i64 0,.slice none 0 0] 38)).heap.size:=HW0.out.size;have hne:SC≠SP:=fun e=>by have h1:=(oC.base_ SC rfl).1;have h2:=(oP.base_ SP rfl).1;omega
    have hFl:∀u,u<n->∀g,(Value.slice (F u).1 0 0).ownBlock=some g->lo 2<=g/\g<hi 2:=fun u hu g hg=>⟨((htab.own u hu).base_ g ((obs ..).trans hg)).1,hF u hu g hg⟩;have hsep:∀u,u<n->(Value.slice (F u).1 0 0).ownBlock≠some SC/\(Value.slice (F u).1 0 0).ownBlock≠some SP:=fun u hu=>⟨fun e=>by have h1:=(oC.base_ SC rfl).1;have h2:=hFl u hu _ e;omega,fun e=>by have h1:=(oP.base_ SP rfl).1;have h2:=hFl u hu _ e;omega⟩
    have hsm:∀(fn:Value),SM w (w1.alloc (.cells #[.int .i64 n,.slice A m c,.slice (some ⟨T,0,none⟩) n n,.slice Ah n ch,.slice (some ⟨SC,0,none⟩) n n,.slice (some ⟨SP,0,none⟩) n n,.slice (some ⟨SD,0,none⟩) n n,.pointer (some ⟨H,0,none⟩),fn] 132)) n A m c l Ah ch w1.heap.size SC SP SD T H F fn none 0 0 [] (List.replicate n 0) (List.replicate n 0) [] (w1.heap.size+1):=fun fn =>
     ⟨blk_alloc hbx1 _,blk_alloc hrs1 _,heap_alloc_new _ _,(oC.mono (Nat.le_trans bz l6)).alloc _,(oP.mono (Nat.le_trans bz l9)).alloc _,by rw[dnl_nil];exact(oD.mono (Nat.le_trans bz l12)).alloc _,(Tab_mono htab (Nat.le_trans bz l2)).alloc _,(heap_mono hh (Nat.le_trans bz l13)).alloc _,hne,hsep,B01.alloc B01.size _,by simp,by simp,⟨by omega,by omega,fun u hu g hg=>by have:=hFl u hu g hg;omega⟩,by simp,by omega⟩
    have HSM:=hid hsm;clear hdj hsm hsep hFl oC oP oD hh htab hF hbx1 hrs1 d69 d26 d29 hB B01;unfold FN;refine zzT 2 15 ?_ rfl (by kernel_rfl) (fun _ _ _ h=>h) (.inl ⟨by rfl,?_⟩) ‹_› ?_;rotate_left;(intro w hSw;(try dsimp only at hSw);go_simp;try with_reducible rfl);try simp only[Act.put,zzA,zzB,zzC,zzD,zzE,zzF];refine Go.wpAnyH_ready (fuel:=1) (rs:=[16]) (by kernel_rfl) (by simp) ?_;refine Go.AllReadyH.cons (o:=_) rfl (fun K hK=> ?_) Go.AllReadyH.nil;have HKX:=hid hK;clear hK;go_simp;refine HKX.out.out _ _ ?_ (fun hHeld2=> ?_)
    ·exact⟨((Below.refl w1.heap.size w1).alloc zzL _).cell (p:=⟨w.heap.size,0,none⟩) (by show w.heap.size<w1.heap.size;omega) |>.trans hS.1,((Below.refl w1.heap.size w1).alloc zzL _).cell (p:=⟨w.heap.size,1,none⟩) (by show w.heap.size<w1.heap.size;omega) |>.trans hS.2⟩
    ·try simp only[Act.put,zzA,zzB,zzC,zzD,zzE,zzF]
     refine zzT 0 17 ?_ rfl (by kernel_rfl) (fun _ _ _ h=>h) (.inl ⟨by rfl,?_⟩) (by exact hHeld2) ?_;rotate_left;(intro w hSw;(try dsimp only at hSw);go_simp;try with_reducible rfl);try simp only[Act.put,zzA,zzB,zzC,zzD,zzE,zzF];refine Go.wpAnyH_done (by kernel_rfl) ?_ _;go_wp2
     go_meet
     exact⟨w1.heap.size,rfl,hid ⟨SC,SP,SD,T,H,F,by simpa [FN] using HSM.out (FN Bw)⟩⟩
 case rest =>
  obtain⟨Z,rfl,hmd⟩:=hcut;obtain⟨SC,SP,SD,T,H,F,hsm⟩:=hmd.out;clear hmd;obtain⟨tp,htp⟩:∃tp,tp=wc.heap.size:=⟨_,rfl⟩;rw[<-htp] at hsm;have HSM0:=hid hsm;have zc:=blk_cell hsm.z 4;simp only[zzG,zzH,zzI] at zc;clear hsm htp hbox hres hw0 HBOX HRES HMK HMB KO KNEW HW0
  go_wp2_with fail
  go_loopw [41] (fun s41 wr=>∃(k:Nat),k<=n/\s41= .int .i64 k/\SM w wr n A m c l Ah ch Z SC SP SD T H F (FN Bw) none 0 0 [] (List.replicate k far++List.replicate (n - k) 0) (List.replicate k (-1)++List.replicate (n - k) 0) [] tp) (fun i _=>n - (intOf i).toNat)
  case atStart=>exact⟨0,Nat.zero_le _,rfl,by simpa using HSM0.out⟩
  case round =>
   obtain⟨k,hk,rfl,sm⟩:=hrel;clear HSM0
   by_cases hlt:k<n
   ·have z1:=blk_cell sm.z 4
    have z2:=blk_cell sm.z 5;simp only[zzG,zzH,zzI] at z1 z2;obtain⟨c0,c1⟩:=own_at1 sm.dl sm.cost hlt;obtain⟨p0,p1⟩:=own_at1 sm.pl sm.pred hlt;have hcp:=sm.ne;have hpc:SP≠SC:=fun e=>hcp e.symm;have HS:=hid sm;clear sm
    go_wp2_with fail
    go_region
    all_goals
     go_wp2
     go_roundw
     case' rel=>exact⟨k+1,by omega,by go_num,by rw[<-Bell.fill_step n k far 0 hlt, <-Bell.fill_step n k (-1) 0 hlt];first|exact((HS.out.setC k far).setP k (-1)).drewN 1|exact((HS.out.setP k (-1)).setC k far).drewN 1⟩
     case' measure=>simp[intOf];omega
   ·obtain rfl:n=k:=by omega
    rw[Nat.sub_self,List.replicate_zero,List.append_nil,List.append_nil] at sm
    have kr:Calls Tryz.prog 68 #[.pointer (some ⟨Z,0,none⟩),.int .i64 fr,.int .i64 0,.int .i64 (-1)] wr fun e w'=>(∃r,e= .returned r)/\∃Aw mw cw L,SM w w' n A m c l Ah ch Z SC SP SD T H F (FN Bw) Aw mw cw L (D0 n fr hs) (P0 n) [] tp/\Hp d0 ltP L/\Wt (KK q p) n hs (D0 n fr hs) [] L/\L.length<=1:=by
     by_cases hgf:dg hs fr=far
     ·refine(reach_no sm HH.out HHL.out (by omega) HF.out 0 (-1) (.inr (.inr hgf))).mono ?_
      rintro e w' ⟨hr,rfl⟩;refine⟨hr,none,0,0,[],?_,Hp.nil,?_,Nat.zero_le _⟩
      ·unfold D0 P0;rw[if_pos hgf];exact sm
      ·unfold D0;rw[if_pos hgf];exact wt_start
     ·have hdf:dg (List.replicate n far) (fr:Int)=far:=rep_dg (by omega) (by have:=HF.out;omega)
      have hno:¬No hs (List.replicate n far) [] fr 0:=by
       rintro (h|h|h)
       ·cases h
       ·rw[hdf] at h
        unfold far at h;omega
       ·exact hgf h
      refine(reach_yes sm Hp.nil HH.out HHL.out (by omega) HF.out 0 (-1) hno (by omega) HLO.out HQ.out HP.out HKK.out (by omega)).mono ?_;rintro e w' ⟨hr,Aw',cw',L',sm',hpm,hhp,_⟩;refine⟨hr,Aw',1,cw',L',?_,hhp,?_,by rw[hpm.length_eq];exact Nat.le_refl _⟩
      ·unfold D0 P0;rw[if_neg hgf]
       have:(List.replicate n (-1:Int)).set fr (-1)=List.replicate n (-1):=by simp
       rw[this] at sm';exact sm'
      ·unfold D0;rw[if_neg hgf]
       exact wt_start.set (KK_mono HQ.out.1) HF.out (by simp) (by rw[hdf];unfold far;omega) (by unfold far;omega) hpm
    have KR:=hid kr;clear kr sm
    go_wp2_with fail
    refine KR.out.mono ?_;rintro e w1 ⟨⟨r,rfl⟩,Aw0,mw0,cw0,L0,sm0,hp0,wt0,hL0⟩;have lp0:Lp w w1 n fr tt A m c l Ah ch hs q p Z SC SP SD T H F (FN Bw) tp Aw0 mw0 cw0 L0 (D0 n fr hs) (P0 n) [] (.slice none 0 0):=⟨sm0,hp0,wt0,.start,Own.nil_⟩;have LP0:=hid lp0;clear lp0 sm0 hp0 wt0 KR
    go_wp2_with fail
    go_loopg [14] (1+l.length) (fun g s14 wr=>∃(Aw:Option Addr) (mw cw:Nat) (L:List Pl) (D P ord:List Int) (Ao:Option Addr) (mo co:Nat),s14= .slice Ao mo co/\Lp w wr n fr tt A m c l Ah ch hs q p Z SC SP SD T H F (FN Bw) tp Aw mw cw L D P ord (.slice Ao mo co)/\L.length+(l.length - outs l ord)<=g/\g<=1+l.length)
    case atStart=>exact⟨Aw0,mw0,cw0,L0,_,_,[],none,0,0,rfl,LP0.out,by rw[outs_nil];omega,Nat.le_refl _⟩
    case round =>
     clear LP0;obtain⟨Aw,mw,cw,L,D,P,ord,Ao,mo,co,rfl,lp,hgh,hgb⟩:=hrel;have hll:l.length<=600:=by have:=HM.out;omega
     have klen:=len_any wr lp.sm.heap;have hLm:=lp.sm.heap.len;have zw:=blk_cell lp.sm.z 7;have zr:=blk_cell lp.sm.res 0;simp only[zzG,zzH,zzI] at zw;have KLEN:=hid klen;clear klen
     by_cases hm0:mw=0
     ·subst hm0
      have hL:L=[]:=List.eq_nil_of_length_eq_zero hLm;subst hL;have LP:=hid lp;have hres:=lp.sm.res;have hrz:=lt_of_block hres;clear lp hLm hgh zr
      go_wp2_with fail
      refine KLEN.out.mono ?_;rintro e w5 ⟨rfl,rfl⟩;have r0:=blk_cell hres 0;have r1:=blk_cell hres 1;have r2:=blk_cell hres 2;have f0:=blk_free hres 0;have f1:=blk_free hres 1;have f2:=blk_free hres 2;simp only[zzG,zzH,zzI] at r0 r1 r2;clear hres;go_wp2
      (try simp only[Exit.inBlock,Exit.then])
      refine bodyPost_ret (v:= .tuple #[.agg #[.slice none 0 0,.int .i64 0,.slice none 0 0],.int .i64 5]) (by simp[results,Tryz.results33,go_sem,r0,r1,r2,f0,f1,f2]) rfl ?_
      exact⟨D,P,ord,LP.out.rch,.inr ⟨LP.out.wt.none,rfl⟩,by
       have:=LP.out.sm.lo;exact((this.setCell (by dsimp only;omega) _).setCell (by dsimp only;omega) _).setCell (by dsimp only;omega) _⟩
     ·obtain⟨mw,rfl⟩:∃k,mw=k+1:=⟨mw - 1,by omega⟩
      have kpop:=pop_any ltP ltP_ord less_any w.heap.size H Aw mw cw L wr lp.sm.heap lp.hp (by omega) lp.sm.lo.size;have htop:=lp.hp.top_mem ltP_ord;have KPOP:=hid kpop;have HTOP:=hid htop;have LP:=hid lp;have HGH:=hid hgh;have HLM:=hid hLm;have hL6:L.length<=601:=by omega
      have HL6:=hid hL6;clear kpop htop lp hm0 hgh hLm zr hL6
      go_wp2_with fail
      refine KLEN.out.mono ?_;rintro e w5 ⟨rfl,rfl⟩
      go_wp2_with fail
      refine KPOP.out.mono ?_;rintro e w6 ⟨pk,pg,pv,L5,rfl,hg0,hh5,hpm5,hhp5,hkp⟩;have sm6:=LP.out.sm.kp hkp hh5;have own6:=own_kp LP.out.sm.heap hkp LP.out.own (by decide) (by decide)
      have hmin:∀y∈L,StarLaw.lt3 y (pk,pg,pv)=false:=fun y hy=>by
       have:=HTOP.out y hy;rw[hg0] at this;exact this
      have hpin:(pk,pg,pv)∈L:=hpm5.mem_iff.1 (List.mem_cons_self ..);obtain⟨⟨v0,v1⟩,hdv,hpg,hkk⟩:=LP.out.wt.ent _ hpin;simp only at v0 v1 hdv hpg hkk;obtain⟨v,rfl⟩:=Int.eq_ofNat_of_zero_le v0;have hvn:v<n:=by omega
      have hst:=LP.out.rch.st HG.out.ends (fun e he=>⟨HC.out e he,(HG.out.cost e he).2⟩) HF.out;have hdr:=hst.lo v v0 v1
      have hgr:0<=pg/\pg<=far:=by
       rw[hpg]
       exact HLO.out _ (by
        rw[dg,Int.toNat_natCast,List.getD_eq_getElem?_getD,List.getElem?_eq_getElem (by have:=HHL.out;omega)];exact List.getElem_mem _)
      have hpm5l:=hpm5.length_eq;have hL5:L5.length=mw:=hh5.len;have sm7:=sm6.alloc (.cells #[.int .i64 pk,.int .i64 pg,.int .i64 v] 129);have own7:=own6.alloc (.cells #[.int .i64 pk,.int .i64 pg,.int .i64 v] 129);have hbx7:=heap_alloc_new w6 (.cells #[.int .i64 pk,.int .i64 pg,.int .i64 v] 129);have hrow7:(Value.slice Aw mw cw).ownBlock≠some w6.heap.size:=fun e=>Nat.lt_irrefl _ (sm6.heap.own.base_ _ e).2;have HMIN:=hid hmin;have HPM5:=hid hpm5;have HHP5:=hid hhp5;have HL5:=hid hL5;have HST:=hid hst;have HDV:=hid hdv;have HPG:=hid hpg;clear hg0 hh5 hkp sm6 own6 hmin hpin hpm5 hhp5 hL5 hkk hst hdv hpg hpm5l;go_upto_region 11 with fail;obtain⟨gB,hgB⟩:∃gB,w6.heap.size=gB:=⟨_,rfl⟩;rw[hgB] at hbx7 hrow7 ⊢;have HROW7:=hid hrow7;clear hrow7;have kok7:KOk (w6.alloc (.cells #[.int .i64 pk,.int .i64 pg,.int .i64 v] 129)) w.heap.size Bw q p:=HKK.out.keep sm7.lo;have hsz7:(w6.alloc (.cells #[.int .i64 pk,.int .i64 pg,.int .i64 v] 129)).heap.size=gB+1:=by simp[hgB]
      clear hgB;generalize hw7:w6.alloc (.cells #[.int .i64 pk,.int .i64 pg,.int .i64 v] 129)=w7 at sm7 own7 hbx7 kok7 hsz7 ⊢;clear hw7;have hcc:=cells sm7 HH.out HHL.out hvn;have c0:=hcc.1;have c3:=hcc.2.2.1;clear hcc;have b0:=blk_cell hbx7 0;have b1:=blk_cell hbx7 1;have b2:=blk_cell hbx7 2;have z4:=blk_cell sm7.z 4;have z6:=blk_cell sm7.z 6;simp only[zzG,zzH,zzI] at b0 b1 b2 z4 z6;have kkey:=fun k=>key_any w.heap.size Bw q p (dg D (v:Int)) pg (w7.drewN k) HQ.out HP.out hdr hgr (kok7.keep (below_drewN (Below.refl _ _) k));have SM7:=hid sm7;have OWN7:=hid own7;have HBX7:=hid hbx7;have HGR:=hid hgr;have HDR:=hid hdr;clear sm7 own7 hbx7 kok7 hgr hdr;unfold FN
      by_cases hin:(v:Int)∈ord
      ·have hwt:=LP.out.wt.skip HPM5.out (.inl hin)
       have HWT:=hid hwt;rw[decide_eq_true hin] at c3;clear hwt hin kkey;go_quiet (fail);go_wp2
       go_roundg (L5.length+(l.length - outs l ord))
       case measure=>have h1:=HGH.out;have h2:=HLM.out;have h3:=HL5.out;omega
       case rel=>exact⟨Aw,mw,cw,L5,D,P,ord,Ao,mo,co,rfl,⟨SM7.out.drewN _,HHP5.out,HWT.out,LP.out.rch,OWN7.out.drewN _⟩,Nat.le_refl _,by have h1:=HGH.out;have h2:=HLM.out;have h3:=HL5.out;omega⟩
      ·rw[decide_eq_false hin] at c3
       by_cases hlt:KK q p (dg D (v:Int)) pg<pk
       ·have hwt:=LP.out.wt.skip HPM5.out (.inr hlt)
        have HWT:=hid hwt;have HIN:=hid hin;generalize KK q p (dg D (v:Int)) pg=kv at hlt kkey;generalize dg D (v:Int)=y at c0 kkey;have hd1:decide (pk > kv)=true:=decide_eq_true hlt;have hd2:decide (kv<pk)=true:=decide_eq_true hlt;have KKEY:=hid kkey;clear hwt hin kkey;go_quiet (go_must ((go_at_call 73;exact Calls.quiet_of_same (KKEY.out _))));go_wp2
        go_roundg (L5.length+(l.length - outs l ord))
        case measure=>have h1:=HGH.out;have h2:=HLM.out;have h3:=HL5.out;omega
        case rel=>exact⟨Aw,mw,cw,L5,D,P,ord,Ao,mo,co,rfl,⟨SM7.out.drewN _,HHP5.out,HWT.out,LP.out.rch,OWN7.out.drewN _⟩,Nat.le_refl _,by have h1:=HGH.out;have h2:=HLM.out;have h3:=HL5.out;omega⟩
       ·obtain⟨hky,hnx,hwt⟩:=LP.out.wt.take HPM5.out HMIN.out hin hlt
        have f3:=(own_atG false (dnl_len ord n) SM7.out.done hvn).2;have hz7:SD<w7.heap.size:=(SM7.out.done.base_ SD rfl).2;have hgz:Z<w7.heap.size:=lt_of_block SM7.out.z;have HWT:=hid hwt;have HIN:=hid hin;have HNX:=hid hnx;have HKY:=hid hky;generalize KK q p (dg D (v:Int)) pg=kv at hlt kkey;have HDG:=hid c0;generalize dg D (v:Int)=y at c0 kkey;have hd1:decide (pk > kv)=false:=decide_eq_false hlt;have hd2:decide (kv<pk)=false:=decide_eq_false hlt;have KKEY:=hid kkey;clear hwt hin kkey hnx hky hlt;go_quiet (go_must ((go_at_call 73;exact Calls.quiet_of_same (KKEY.out _))));go_wp2
        have hSg:SD≠gB:=fun e=>by
         obtain⟨cur,hb⟩:=own_blk SM7.out.done;exact blk_ne hb HBX7.out (by decide) e
        have hgS:gB≠SD:=fun e=>hSg e.symm
        go_region
        all_goals
         go_upto_region 13 with fail;have sm8:=(SM7.out.drewN (nq+1)).setD v hvn
         have own8:Own ((w7.drewN (nq+1)).setCell ⟨SD,v,none⟩ (.bool true)) tp 3 1 ci (.slice Ao mo co) ord:=(OWN7.out.drewN (nq+1)).setCell (by
          obtain⟨cur,hb⟩:=own_blk SM7.out.done;exact OWN7.out.ne_ hb (by decide)) _
         have hbx8:=blk_far (w:=w7.drewN (nq+1)) HBX7.out hgS (.bool true) (p:=⟨SD,v,none⟩);generalize hw8:(w7.drewN (nq+1)).setCell ⟨SD,v,none⟩ (.bool true)=w8 at sm8 own8 hbx8 ⊢;obtain⟨i0,hi,hzi0,hzi1,hzi2⟩:=info_parts infoInt
         have hmo:ord.length=mo:=by
          obtain⟨A',c',hv,_⟩:=own8.form;injection hv with _ hv _;exact hv.symm
         have hmo64:mo<=64:=by rw[<-hmo];exact HST.out.ordlen (by omega)
         have htw:=sm8.tw;have hown1:=own8.alloc (.cells #[.int .i64 v] 3);have b2':=blk_cell hbx8 2;simp only[zzG,zzH,zzI] at b2';have HMO:=hid hmo;have SM8:=hid sm8;have HBX8:=hid hbx8;have HOWN1:=hid hown1;clear hmo sm8 hbx8 hown1 own8 hw8 c0 c3 f3 b0 b1 b2 z4 z6 hd1 hd2 hSg hgS hgz hz7;go_upto_region 14 with (at_builtin;refine wpList_push _ rfl (.tmp 103) (.tmp 106) _ rfl tp 3 i0 (.int .i64 0) 1 8 ci Tryz.underlying25 hi hzi0 hzi1 hzi2 rfl (by decide) _ ord mo HMO.out rfl HOWN1.out w8.heap.size 1 (v:Int) rfl news1 (fun _ _=>one_ci _ _) (by omega) (by omega) (by simp;omega) ?_;intro A9 c9 w9 hown9 hgrow9 hat9);have sm9:=(SM8.out.alloc (.cells #[.int .i64 v] 3)).grown (row:=none) HOWN1.out zzL hgrow9;have hbx9:=blk_grown (blk_alloc HBX8.out (.cells #[.int .i64 v] 3)) hgrow9 (HOWN1.out.ne_ (blk_alloc HBX8.out _) (by decide));have b2:=blk_cell hbx9 2;simp only[zzG,zzH,zzI] at b2;have HBX9:=hid hbx9;have HOWN9:=hid hown9;clear hgrow9 hat9 hown9 hbx9 b2' hzi0 hzi1 hzi2 hi HOWN1 SM8 HBX8
         by_cases hvt:v=tt
         ·subst hvt
          obtain⟨cs,hch,hcin,hc64,_,_,_,_⟩:=HST.out.way HG.out HC.out v0 v1 HDV.out;have z4:=blk_cell sm9.z 4;have z5:=blk_cell sm9.z 5;simp only[zzG,zzH,zzI] at z4 z5;have hcc:=cells sm9 HH.out HHL.out hvn;have c0:=hcc.1;clear hcc;obtain⟨y9,hy9⟩:∃y9,dg D (v:Int)=y9:=⟨_,rfl⟩;rw[hy9] at c0
          have kb:∀k,Calls Tryz.prog 71 #[.slice (some ⟨SP,0,none⟩) n n,.int .i64 v,.int .i64 y9] (w9.drewN k) fun e w'=>SomeWay cs.reverse y9 (w9.drewN k) e w':=fun k=>by
           have h9:=(sm9.drewN k).pred.sl;exact back_any (some ⟨SP,0,none⟩) n n P v y9 cs (w9.drewN k) h9.2 sm9.pl hch hcin hc64 (by omega)
          have KB:=hid kb;have SM9:=hid sm9;have HY9:=hid hy9;have HCH:=hid hch;have hee:decide ((v:Int)=(v:Int))=true:=by simp
          clear kb sm9 hy9 hch hcin hc64;go_wp2
          go_region_with (go_at_call 71;refine(KB.out _).mono ?_;rintro e w10 ⟨A10,c10,rfl,own10,hb10⟩;have hrs:=blk_below (w:=World.drewN _ _) SM9.out.res hb10 (lt_of_block SM9.out.res);have hrl:=lt_of_block hrs;have r0:=blk_cell hrs 0;have r1:=blk_cell hrs 1;have r2:=blk_cell hrs 2;have f0:=blk_free hrs 0;have f1:=blk_free hrs 1;have f2:=blk_free hrs 2;simp only[zzG,zzH,zzI] at r0 r1 r2;have HRS:=hid hrs;have OWN10:=hid own10;have HB10:=hid hb10;clear hrs own10 hb10)
          all_goals
           go_wp2
           (try simp only[Exit.inBlock,Exit.then])
           refine bodyPost_ret (v:= .tuple #[.agg #[.slice A10 cs.reverse.length c10,.int .i64 y9,.slice A9 (mo+1) c9],.int .i64 0]) (by simp[results,Tryz.results33,go_sem,r0,r1,r2,f0,f1,f2]) rfl ?_;have hzt:=SM9.out.zt;have hlo:=SM9.out.lo;have hsz9:=hlo.size;refine⟨D,P,ord,LP.out.rch,.inl ⟨HNX.out,cs,A10,c10,A9,c9,HCH.out,by rw[HY9.out,HMO.out],?_,?_⟩,?_⟩
           ·exact res_kept (OWN10.out.mono hsz9) HRS.out _ _ _
           ·rw[HMO.out]
            exact res_kept (((HOWN9.out.drewN 1).keep HB10.out).mono (by omega)) HRS.out _ _ _
           ·have hb:=(below_drewN hlo 1).trans (HB10.out.mono hsz9)
            exact((hb.setCell (by dsimp only;omega) _).setCell (by dsimp only;omega) _).setCell (by dsimp only;omega) _
         ·have hvt':¬(v:Int)=(tt:Int):=fun e=>hvt (by omega)
          have hee:((v:Int) == (tt:Int))=false:=beq_eq_false_iff_ne.2 hvt';have z2:=blk_cell sm9.z 2;simp only[zzG,zzH,zzI] at z2;obtain⟨tc,_⟩:=sm9.tab.cell hvn;have hrow:∀(wx:World) (Ax:Option Addr) (mx cx:Nat) (Lx:List Pl) (Dx Px ox:List Int),SM w wx n A m c l Ah ch Z SC SP SD T H F (FN Bw) Ax mx cx Lx Dx Px ox tp->Own wx w.heap.size 3 1 ci (.slice (F v).1 (ol l l.length v).length (F v).2) (ol l l.length v):=fun _ _ _ _ _ _ _ _ hx=>hx.tab.own v hvn;obtain⟨K,hK⟩:∃K,(ol l l.length v).length=K:=⟨_,rfl⟩;obtain⟨Aq,hAq⟩:∃Aq,(F v).1=Aq:=⟨_,rfl⟩;obtain⟨cq,hcq⟩:∃cq,(F v).2=cq:=⟨_,rfl⟩;rw[hK] at tc hrow;rw[hAq,hcq] at tc hrow;have HROW:=hid hrow;have SM9:=hid sm9;have HK:=hid hK;have HVT:=hid hvt';have hK6:K<=600:=by have:=ol_len l l.length v;omega
          clear hrow sm9 hK hAq hcq hvt hvt';go_wp2;go_quiet (fail);go_wp2
          go_loopw [136] (fun s136 wy=>∃(j:Nat) (A6:Option Addr) (m6 c6:Nat) (L6:List Pl) (D6 P6:List Int),j<=K/\s136= .int .i64 j/\SM w wy n A m c l Ah ch Z SC SP SD T H F (FN Bw) A6 m6 c6 L6 D6 P6 (ord++[(v:Int)]) tp/\Hp d0 ltP L6/\Hid (Wt (KK q p) n hs D6 (ord++[(v:Int)]) L6)/\Hid (rxs hs (ord++[(v:Int)]) v (td l ((ol l l.length v).take j)) (D,P)=(D6,P6))/\L6.length<=L5.length+j/\wy.heap[gB]?=some (.cells #[.int .i64 pk,.int .i64 pg,.int .i64 v] 129 (0,0))/\(Value.slice A6 m6 c6).ownBlock≠some gB/\Hid (Own wy tp 3 1 ci (.slice A9 (mo+1) c9) (ord++[(v:Int)]))/\∀u:Nat,u<n->0<=dg D6 u/\dg D6 u<=far) (fun i _=>K - (intOf i).toNat)
          case atStart=>exact⟨0,Aw,mw,cw,L5,D,P,Nat.zero_le _,rfl,SM9.out.drewN _,HHP5.out,HWT,hid (by simp[td,rxs]),Nat.le_refl _,HBX9.out,HROW7.out,hid (HOWN9.out.drewN _),fun u hu=>HST.out.lo u (by omega) (by omega)⟩
          case round =>
           clear SM9 tc HBX9 HOWN9 HWT HHP5;obtain⟨j,A6,m6,c6,L6,D6,P6,hj,rfl,sm,hhp6,HWT,HRX,hlen6,hbx6,hrb6,HOW6,hbd⟩:=hrel
           by_cases hjk:j<K
           ·have hjl:j<(ol l l.length v).length:=by rw[HK.out];exact hjk
            obtain⟨bq,offq,rfl,hbq,hcj⟩:=(HROW.out _ _ _ _ _ _ _ _ sm).sl.2.atI hjl;obtain⟨i,hi,hil,hiq⟩:=ol_mem (List.getElem_mem hjl);rw[hi] at hcj;obtain⟨b,off,f,t,co,rfl,hbB,he,hcf,hct,hcc⟩:=(HSL.out.keep sm.lo zzL).atE hil;have hen:=HG.out.ends _ (List.getElem_mem hil);have hco:=HG.out.cost _ (List.getElem_mem hil);have hco0:=HC.out _ (List.getElem_mem hil);have htk:=td_take hjl hi hil;rw[he] at hen hco hco0 htk;obtain⟨_,_,t0,t1⟩:=hen;simp only at t0 t1 hco hco0;obtain⟨t,rfl⟩:=Int.eq_ofNat_of_zero_le t0;have htn:t<n:=by omega
            have hx0:=hbd v hvn;have ht0:=hbd t htn;have hsn:=rxs_snoc hs (ord++[(v:Int)]) v (td l ((ol l l.length v).take j)) (f,(t:Int),co) (D,P);rw[<-htk,HRX.out] at hsn
            have kr:∀W,Below wr.heap.size wr W->Calls Tryz.prog 68 #[.pointer (some ⟨Z,0,none⟩),.int .i64 t,.int .i64 (dg D6 (v:Int)+co),.int .i64 v] W fun e w'=>(∃r,e= .returned r)/\∃(A7:Option Addr) (m7 c7:Nat) (L7:List Pl) (D7 P7:List Int),SM w w' n (some ⟨b,off,none⟩) m c l Ah ch Z SC SP SD T H F (FN Bw) A7 m7 c7 L7 D7 P7 (ord++[(v:Int)]) tp/\Hp d0 ltP L7/\Hid (Wt (KK q p) n hs D7 (ord++[(v:Int)]) L7)/\Hid (rxs hs (ord++[(v:Int)]) v (td l ((ol l l.length v).take (j+1))) (D,P)=(D7,P7))/\L7.length<=L5.length+(j+1)/\w'.heap[gB]?=some (.cells #[.int .i64 pk,.int .i64 pg,.int .i64 v] 129 (0,0))/\(Value.slice A7 m7 c7).ownBlock≠some gB/\Hid (Own w' tp 3 1 ci (.slice A9 (mo+1) c9) (ord++[(v:Int)]))/\∀u:Nat,u<n->0<=dg D7 u/\dg D7 u<=far:=fun W hb=>by
             have smW:=sm.keep hb;have hbW:=blk_below hbx6 hb (lt_of_block hbx6);have hoW:=HOW6.out.keep hb
             by_cases hno:No hs D6 (ord++[(v:Int)]) t (dg D6 (v:Int)+co)
             ·refine(reach_no smW HH.out HHL.out (by omega) htn _ _ hno).mono ?_
              rintro e w' ⟨hr,rfl⟩;refine⟨hr,A6,m6,c6,L6,D6,P6,smW,hhp6,HWT,hid ?_,by omega,hbW,hrb6,hid hoW,hbd⟩;rw[hsn];exact if_pos hno
             ·have hmw:=sm.heap.len
              have hlt:dg D6 (v:Int)+co<dg D6 (t:Int):=by
               refine Int.not_le.1 fun h=>hno (.inr (.inl h))
              have hfr:far=1099511627776:=rfl;have h5:=HL5.out;have h6:=HLM.out;have h7:=HL6.out;refine(reach_yes smW hhp6 HH.out HHL.out (by omega) htn (dg D6 (v:Int)+co) v hno (by omega) HLO.out HQ.out HP.out HKK.out (by omega)).mono ?_;rintro e w' ⟨hr,A7,c7,L7,sm7,hpm,hhp,hfrm,hsz,hrow⟩;have hgW:=lt_of_block hbW;obtain⟨cuc,hbc⟩:=own_blk smW.cost;obtain⟨cup,hbp⟩:=own_blk smW.pred;refine⟨hr,A7,m6+1,c7,L7,D6.set t (dg D6 (v:Int)+co),P6.set t v,sm7,hhp,hid (HWT.out.set (KK_mono HQ.out.1) htn sm.dl hlt (by omega) hpm),hid ?_,by rw[hpm.length_eq];simp;omega,?_,?_,hid ?_,bd_set hbd (by omega)⟩
              ·rw[hsn]
               exact if_neg hno
              ·exact(hfrm gB hgW (blk_ne hbW hbc (by decide)) (blk_ne hbW hbp (by decide)) (blk_ne hbW smW.heap.blk (by decide)) hrb6).trans hbW
              ·intro e
               rcases hrow gB e with h|h
               ·exact hrb6 h
               ·omega
              ·refine own_fr hoW fun g cs hg hcs=> ?_
               have h1:=(hoW.base_ g hg).1;have h2:=smW.tops;exact hfrm g (lt_of_block hcs) (by omega) (by omega) (blk_ne hcs smW.heap.blk (by decide)) (fun e=>smW.heap.own.ne_ hcs (by decide) e)
            have z0:=blk_cell sm.box 1;have zb:=blk_cell hbx6 2;have zz:=blk_cell sm.z 4;have hcc9:=cells sm HH.out HHL.out hvn;have zc9:=hcc9.1;simp only[zzG,zzH,zzI] at z0 zb zz;have zj:(j:Int)<(K:Int):=by omega
            have zi:(i:Int)<(m:Int):=by have:=HM.out;omega
            have zl1:w.heap.size<wr.heap.size:=lt_of_block sm.box;have zl2:gB<wr.heap.size:=lt_of_block hbx6;have zl3:Z<wr.heap.size:=lt_of_block sm.z;have zl4:SC<wr.heap.size:=(sm.cost.base_ SC rfl).2;have zl5:b<wr.heap.size:=by omega
            obtain⟨y9,hy9⟩:∃y9,dg D6 (v:Int)=y9:=⟨_,rfl⟩;rw[hy9] at zc9 kr
            have hxb:0<=y9+co/\y9+co<=1099511637776:=by
             have hfr:far=1099511627776:=rfl;omega
            have hwrp:IntKind.i64.wrap (y9+co)=y9+co:=IntWalk.i64_in _ (by omega);have KR:=hid kr;clear kr hcc9 hsn htk hbd ht0 hx0 he hi hy9 hco hco0 hrb6 hbx6 sm HRX HOW6;go_upto_region 20 with fail;have hbw:Below wr.heap.size wr (wr.alloc (.cells #[.int .i64 f,.int .i64 t,.int .i64 co] 70)):=(Below.refl _ _).alloc zzL _;have hen:=heap_alloc_new wr (.cells #[.int .i64 f,.int .i64 t,.int .i64 co] 70);have e1:=blk_cell hen 1;have e2:=blk_cell hen 2;simp only[zzG,zzH,zzI] at e1 e2;have e3:=(hbw.cell (p:=⟨Z,4,none⟩) zl3).trans zz;have e4:=(hbw.cell (p:=⟨gB,2,none⟩) zl2).trans zb;have e5:=(hbw.cell (p:=⟨SC,v,none⟩) zl4).trans zc9;clear hen z0 zb zz zc9 hcf hct hcc hcj;generalize wr.alloc (.cells #[.int .i64 f,.int .i64 t,.int .i64 co] 70)=w8b at hbw e1 e2 e3 e4 e5 ⊢;have KR2:=hid (KR.out _ hbw.drew);clear hbw KR;refine wp_region_still_tail 16 (by kernel_rfl) (by kernel_rfl) ?_;simp only[List.take_succ_cons,List.take_zero,List.drop_succ_cons,List.drop_zero]
            repeat still_step
            refine wpStill_nil ?_
            change wpList _ _ _ _ _ w8b.drew
            go_wp2_with fail
            refine KR2.out.mono ?_;rintro e w11 ⟨⟨r,rfl⟩,hrel9⟩;have HREL9:=hid hrel9;clear hrel9 KR2;go_wp2
            go_roundw
            case rel =>
             obtain⟨A7,m7,c7,L7,D7,P7,h1,h2,h3,h4,h5,h6,h7,h8,h9⟩:=HREL9.out;exact⟨j+1,A7,m7,c7,L7,D7,P7,by omega,by go_num,h1,h2,h3,h4,h5,h6,h7,h8,h9⟩
            case measure=>simp[intOf];omega
           ·obtain rfl:K=j:=by omega
            have hrch:=LP.out.rch.step HNX.out HVT.out;have hrx:=HRX.out;rw[List.take_of_length_le (by rw[HK.out];exact Nat.le_refl _),td_ol] at hrx;rw[hrx] at hrch;have HRCH:=hid hrch;have hcnt:=Dijk.ol_count l v;have houts:=outs_snoc l ord v HIN.out
            have HMS:Hid (L6.length+(l.length - outs l (ord++[(v:Int)]))+1<=L.length+(l.length - outs l ord)):=hid (by
             have h1:=HLM.out;have h2:=HL5.out;have h3:=outs_le l (ord++[(v:Int)]);have h4:=HK.out;omega)
            have SM6:=hid sm;clear hrx hrch hcnt houts sm hbd hrb6 hbx6 hlen6;go_wp2
            go_roundg (L6.length+(l.length - outs l (ord++[(v:Int)])))
            case measure=>have h1:=HGH.out;have h2:=HMS.out;omega
            case rel=>exact⟨A6,m6,c6,L6,D6,P6,ord++[(v:Int)],A9,mo+1,c9,rfl,⟨SM6.out,hhp6,HWT.out,HRCH.out,HOW6.out⟩,Nat.le_refl _,by have h1:=HGH.out;have h2:=HMS.out;omega⟩
end StarW
namespace RatioLaw
def Ok (n d:Int):Prop:=1<=d/\d<=1000000/\ -1000000<=n/\n<=1000000/\Int.gcd n d=1
instance (n d:Int):Decidable (Ok n d):=by unfold Ok;infer_instance
theorem gcd_pos {n d:Int} (h:1<=d):1<=Int.gcd n d:=by
 rcases Nat.eq_zero_or_pos (Int.gcd n d) with h0|h0
 ·rw[Int.gcd_eq_zero_iff] at h0;omega
 ·exact h0
theorem gcd_le {n d:Int} (h:1<=d):(Int.gcd n d:Int)<=d:=by
 have:=Int.gcd_dvd_right n d;exact Int.le_of_dvd (by omega) this
theorem gcd_tmod (a b:Int):Int.gcd b (a.tmod b)=Int.gcd a b:=by
 rw[Int.gcd_eq_natAbs_gcd_natAbs,Int.gcd_eq_natAbs_gcd_natAbs,Int.natAbs_tmod,Nat.gcd_comm, <-Nat.gcd_rec,Nat.gcd_comm]
theorem tmod_lt (a:Int) {b:Int} (h:b≠0):(a.tmod b).natAbs<b.natAbs:=by
 rw[Int.natAbs_tmod];exact Nat.mod_lt _ (by omega)
theorem lowest {n d:Int} (hd:1<=d):Int.gcd (n / (Int.gcd n d:Int)) (d / (Int.gcd n d:Int))=1/\1<=d / (Int.gcd n d:Int)/\n / (Int.gcd n d:Int)*(Int.gcd n d:Int)=n/\d / (Int.gcd n d:Int)*(Int.gcd n d:Int)=d:=by
 have hp:=gcd_pos (n:=n) hd;have hn:=Int.ediv_mul_cancel (Int.gcd_dvd_left n d);have hd2:=Int.ediv_mul_cancel (Int.gcd_dvd_right n d);refine⟨?_,?_,hn,hd2⟩
 ·rw[Int.gcd_ediv (Int.gcd_dvd_left n d) (Int.gcd_dvd_right n d),Int.natAbs_natCast]
  exact Nat.div_self hp
 rcases Int.lt_or_le 0 (d / (Int.gcd n d:Int)) with h|h
 ·omega
 ·exfalso
  have:d / (Int.gcd n d:Int)*(Int.gcd n d:Int)<=0:=Int.mul_nonpos_of_nonpos_of_nonneg h (by omega);omega
end RatioLaw
end Go.Proofs.YtjebckehmmbkbaaGreat
