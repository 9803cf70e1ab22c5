/- The keys of a search, and (*star.search).reach. Plain facts on what waits in a search with keys. -/
import Derived.Test.YtjebckehmmbkbaaGreatVStarMem
set_option linter.unusedSimpArgs false
set_option linter.unusedVariables false
set_option maxRecDepth 100000
set_option maxHeartbeats 24000000
namespace Go.Proofs.YtjebckehmmbkbaaGreat
namespace StarS
open Go.RowKit NetLaw BellLaw StarLaw HeapLaw Net Go.Proofs.YtjebckehmmbkbaaGreat.Std Flow Star
open Heap (Kp Kp.refl Kp.below Kp.alloc Kp.drew Kp.setCell Kp.grown Kp.to fnOf)
open HeapP (HeapAt d0 ltP ltP_ord less_any push_any)
def KK (q p:Int) (c g:Int):Int:=c+g
def FN (Bw:Nat):Value:= .func (.func 34) #[] #[]
def KOk (w:World) (B Bw:Nat) (q p:Int):Prop:=True
theorem KOk.keep {w w':World} {B Bw:Nat} {q p:Int} (h:KOk w B Bw q p) (hb:Below B w w'):KOk w' B Bw q p:=trivial
theorem key_any (B Bw:Nat) (q p c g:Int) (w:World) (hq:1<=q/\q<=1000000) (hp:1<=p/\p<=1000000) (hc:0<=c/\c<=1099511627776) (hg:0<=g/\g<=1099511627776) (hK:KOk w B Bw q p) :
 Calls Tryz.prog 34 #[.int .i64 c,.int .i64 g] w fun e w'=>e= .returned (.int .i64 (KK q p c g))/\w'=w:=by
 obtain⟨c0,c1⟩:=hc;obtain⟨g0,g1⟩:=hg;unfold KK;go_enter Tryz.func34,Tryz.ntmps34;go_wp2;go_ret;exact⟨rfl,rfl⟩
def No (h D ord:List Int) (v:Nat) (x:Int):Prop:=(v:Int)∈ord\/dg D v<=x\/dg h v=far
section
variable {w0 w:World} {n m c ch Z SC SP SD T H mw cw top Bw:Nat} {A Ah Aw:Option Addr} {l:List E} {F:Nat->Option Addr × Nat} {L:List Pl} {D P ord hs:List Int} {q p:Int}
theorem cells (h:SM w0 w n A m c l Ah ch Z SC SP SD T H F (FN Bw) Aw mw cw L D P ord top) (hh:Sl w0 w0.heap.size 1 ci Ah hs) (hl:hs.length=n) {v:Nat} (hv:v<n) :
 w.cell? ⟨SC,v,none⟩=some (.int .i64 (dg D v))/\w.cell? ⟨SP,v,none⟩=some (.int .i64 (dg P v))/\w.cell? ⟨SD,v,none⟩=some (.bool (decide ((v:Int)∈ord)))/\∃b o,Ah=some ⟨b,o,none⟩/\b<w0.heap.size/\w.cell? ⟨b,o+v,none⟩=some (.int .i64 (dg hs v)):=by
 have e1:=(own_at1 h.dl h.cost hv).1;have e2:=(own_at1 h.pl h.pred hv).1;have e3:=(own_atG false (dnl_len ord n) h.done hv).1;rw[dnl_get hv] at e3;obtain⟨b,o,hA,hb,hc⟩:=(hh.keep h.lo zzL).atI (show v<hs.length by omega);have hd:∀X:List Int,dg X (v:Int)=X.getD v 0:=fun X=>by rw[dg,Int.toNat_natCast]
 refine⟨by rw[hd];exact e1,by rw[hd];exact e2,e3,b,o,hA,hb,?_⟩;rw[hc,hd,List.getD_eq_getElem?_getD,List.getElem?_eq_getElem (by omega)]
 rfl
theorem reach_no (h:SM w0 w n A m c l Ah ch Z SC SP SD T H F (FN Bw) Aw mw cw L D P ord top) (hh:Sl w0 w0.heap.size 1 ci Ah hs) (hl:hs.length=n) (hn:n<=64) {v:Nat} (hv:v<n) (x u:Int) (hno:No hs D ord v x) :
 Calls Tryz.prog 68 #[.pointer (some ⟨Z,0,none⟩),.int .i64 v,.int .i64 x,.int .i64 u] w fun e w'=>(∃r,e= .returned r)/\w'=w:=by
 obtain⟨c1,c2,c3,b,o,rfl,hb,c4⟩:=cells h hh hl hv;have z2:=blk_cell h.z 3;have z3:=blk_cell h.z 4;have z4:=blk_cell h.z 5;have z5:=blk_cell h.z 6;simp only[zzG,zzH,zzI] at z2 z3 z4 z5;have zv:(v:Int)<(n:Int):=by omega
 unfold No at hno;unfold far at hno
 by_cases a1:(v:Int)∈ord
 ·rw[decide_eq_true a1] at c3
  clear h hh hno a1 c1 c2 c4;go_enter Tryz.func68,Tryz.ntmps68;go_wp2;refine bodyPost_ret (v:= .tuple #[]) (by simp[results,Tryz.results68,go_sem]) rfl ?_;exact⟨⟨_,rfl⟩,rfl⟩
 ·rw[decide_eq_false a1] at c3
  by_cases a2:dg D v<=x
  ·clear h hh hno a1 c2 c4
   generalize dg D (v:Int)=y at *;go_enter Tryz.func68,Tryz.ntmps68;go_wp2;refine bodyPost_ret (v:= .tuple #[]) (by simp[results,Tryz.results68,go_sem]) rfl ?_;exact⟨⟨_,rfl⟩,rfl⟩
  ·have a3:dg hs v=1099511627776:=by
    rcases hno with h1|h1|h1
    ·exact absurd h1 a1
    ·exact absurd h1 a2
    ·exact h1
   rw[a3] at c4;clear h hh hno a1 c2 a3;generalize dg D (v:Int)=y at *;go_enter Tryz.func68,Tryz.ntmps68;go_wp2;refine bodyPost_ret (v:= .tuple #[]) (by simp[results,Tryz.results68,go_sem]) rfl ?_;exact⟨⟨_,rfl⟩,rfl⟩
def ReachSays (w0:World) (n:Nat) (A:Option Addr) (m c:Nat) (l:List E) (Ah:Option Addr) (ch Z SC SP SD T H:Nat) (F:Nat->Option Addr × Nat) (fn:Value) (Aw:Option Addr) (mw cw:Nat) (L:List Pl) (D P ord:List Int) (top:Nat) (k:Pl) (v:Nat) (x u:Int) (w:World) (e:Ending) (w':World):Prop :=
 (∃r,e= .returned r)/\∃Aw' cw' L',SM w0 w' n A m c l Ah ch Z SC SP SD T H F fn Aw' (mw+1) cw' L' (D.set v x) (P.set v u) ord top/\L'.Perm (k::L)/\Hp d0 ltP L' /\
   (∀g,g<w.heap.size->g≠SC->g≠SP->g≠H->(Value.slice Aw mw cw).ownBlock≠some g->w'.heap[g]?=w.heap[g]?)/\w.heap.size<=w'.heap.size/\∀S,(Value.slice Aw' (mw+1) cw').ownBlock=some S->(Value.slice Aw mw cw).ownBlock=some S\/w.heap.size<=S
theorem reach_yes (h:SM w0 w n A m c l Ah ch Z SC SP SD T H F (FN Bw) Aw mw cw L D P ord top) (hp:Hp d0 ltP L) (hh:Sl w0 w0.heap.size 1 ci Ah hs) (hl:hs.length=n) (hn:n<=64) {v:Nat} (hv:v<n) (x u:Int) (hno:¬No hs D ord v x)
 (hx:0<=x/\x<=1099511627776) (hlo:∀y∈hs,0<=y/\y<=far) (hq:1<=q/\q<=1000000) (hpp:1<=p/\p<=1000000) (hK:KOk w0 w0.heap.size Bw q p) (hmw:mw<=7000) :
 Calls Tryz.prog 68 #[.pointer (some ⟨Z,0,none⟩),.int .i64 v,.int .i64 x,.int .i64 u] w fun e w'=>ReachSays w0 n A m c l Ah ch Z SC SP SD T H F (FN Bw) Aw mw cw L D P ord top (KK q p x (dg hs v),dg hs v,v) v x u w e w':=by
 obtain⟨c1,c2,c3,b,o,rfl,hb,c4⟩:=cells h hh hl hv;have f1:=(own_at1 h.dl h.cost hv).2;have f2:=(own_at1 h.pl h.pred hv).2;have z2:=blk_cell h.z 3;have z3:=blk_cell h.z 4;have z4:=blk_cell h.z 5;have z5:=blk_cell h.z 6;have z6:=blk_cell h.z 7;have z7:=blk_cell h.z 8;simp only[zzG,zzH,zzI] at z2 z3 z4 z5 z6 z7;unfold FN at z7;have zv:(v:Int)<(n:Int):=by omega
 have a1:¬(v:Int)∈ord:=fun e=>hno (.inl e);have a2:¬dg D v<=x:=fun e=>hno (.inr (.inl e));have a3:¬dg hs v=1099511627776:=fun e=>hno (.inr (.inr e))
 have hgb:0<=dg hs v/\dg hs v<=1099511627776:=by
  have:=hlo (dg hs v) (HeurLaw.dg_mem (by omega) (by omega));unfold far at this;exact this
 have a4:(dg hs v == 1099511627776)=false:=beq_eq_false_iff_ne.2 a3;rw[decide_eq_false a1] at c3;have hSC:=(own_blk h.cost);have hSP:=(own_blk h.pred);obtain⟨k1,hk1⟩:=hSC;obtain⟨k2,hk2⟩:=hSP;have n1:Z≠SC:=blk_ne h.z hk1 (by decide);have n2:Z≠SP:=blk_ne h.z hk2 (by decide);have n3:=h.ne;have nb1:b≠SC:=by have:=(h.cost.base_ SC rfl).1;omega
 have nb2:b≠SP:=by have:=(h.pred.base_ SP rfl).1;omega
 have hset:=((h.setC v x).setP v u);have hwb:Below w0.heap.size w0 w:=h.lo;have HSET:=hid hset;have HP:=hid hp;have HKK:=hid hK;have HM:=hid h;clear hno a1 a3 hh hlo hset hp hK h hwb hk1 hk2;generalize hy:dg D (v:Int)=y at *;generalize hg:dg hs (v:Int)=g at *;clear hy hg;go_enter Tryz.func68,Tryz.ntmps68;go_upto_region 1 with fail
 go_cut [] from 36 to 49 (fun wx=>Hid (SM w0 wx n A m c l (some ⟨b,o,none⟩) ch Z SC SP SD T H F (FN Bw) Aw mw cw L (D.set v x) (P.set v u) ord top)/\Hid (∀g,g<w.heap.size->g≠SC->g≠SP->wx.heap[g]?=w.heap[g]?)/\Hid (wx.heap.size=w.heap.size)/\wx.cell? ⟨b,o+v,none⟩=some (.int .i64 g)/\Hid (Below w0.heap.size w0 wx))
 case first =>
  go_region
  all_goals
   go_wp2
   go_meet
   have hsw:∀g,g<w.heap.size->g≠SC->g≠SP->((w.setCell ⟨SC,v,none⟩ (.int .i64 x)).setCell ⟨SP,v,none⟩ (.int .i64 u)).heap[g]?=w.heap[g]?:=fun g _ h1 h2=>(Below.heap_setCell _ _ _ _ h2).trans (Below.heap_setCell _ _ _ _ h1);have hsw2:∀g,g<w.heap.size->g≠SC->g≠SP->((w.setCell ⟨SP,v,none⟩ (.int .i64 u)).setCell ⟨SC,v,none⟩ (.int .i64 x)).heap[g]?=w.heap[g]?:=fun g _ h1 h2=>(Below.heap_setCell _ _ _ _ h1).trans (Below.heap_setCell _ _ _ _ h2);have hm2:=((HM.out.setP v u).setC v x)
   first
    |exact⟨hid HSET.out.drew,hid hsw,hid (by simp[World.setCell]),(World.cell?_setCell_far _ ⟨SP,v,none⟩ ⟨b,o+v,none⟩ _ (fun e=>nb2 e.symm)).trans ((World.cell?_setCell_far _ ⟨SC,v,none⟩ ⟨b,o+v,none⟩ _ (fun e=>nb1 e.symm)).trans c4),hid HSET.out.drew.lo⟩
    |exact⟨hid hm2.drew,hid hsw2,hid (by simp[World.setCell]),(World.cell?_setCell_far _ ⟨SC,v,none⟩ ⟨b,o+v,none⟩ _ (fun e=>nb1 e.symm)).trans ((World.cell?_setCell_far _ ⟨SP,v,none⟩ ⟨b,o+v,none⟩ _ (fun e=>nb2 e.symm)).trans c4),hid hm2.drew.lo⟩
 case rest =>
  obtain⟨HS,HF,HZ,c5,HLO⟩:=hcut;clear c1 c2 c3 c4 z2 z3 z4 z5 z6 z7 f1 f2 HSET;have z2:=blk_cell HS.out.z 3;have z6:=blk_cell HS.out.z 7;have z7:=blk_cell HS.out.z 8;simp only[zzG,zzH,zzI] at z2 z6 z7;unfold FN at z7;have kk:=fun W hW=>key_any w0.heap.size Bw q p x g W hq hpp hx hgb hW;have kdr:KOk wc.drew w0.heap.size Bw q p:=HKK.out.keep HLO.out.drew;have KK1:=hid (kk wc.drew kdr);have kpush:=push_any ltP ltP_ord less_any w0.heap.size H Aw mw cw L (KK q p x g) g v wc.drew HS.out.drew.heap HP.out (by omega) HS.out.drew.lo.size;have KPUSH:=hid kpush;clear kk kdr kpush HKK;go_wp2;refine wp_region_still_tail 26 (by kernel_rfl) (by kernel_rfl) ?_;simp only[List.take_succ_cons,List.take_zero,List.drop_succ_cons,List.drop_zero]
  repeat still_step
  still_call (KK1.out)
  repeat still_step
  refine wpStill_nil ?_
  change wpList _ _ _ _ _ wc.drew
  go_wp2_with fail
  refine KPUSH.out.mono ?_;rintro e w8 ⟨⟨r,rfl⟩,A8,c8,L8,hh8,hpm8,hhp8,hkp8,hat8⟩;have hm8:=HS.out.drew.kp hkp8 hh8;have hfr:∀g,g<w.heap.size->g≠SC->g≠SP->g≠H->(Value.slice Aw mw cw).ownBlock≠some g->w8.heap[g]?=w.heap[g]?:=fun g h1 h2 h3 h4 h5=>(hkp8.block g (by have:=HZ.out;show g<wc.heap.size;omega) h4 (fun e=>h5 e.symm)).trans (HF.out g h1 h2 h3);have hsz:w.heap.size<=w8.heap.size:=by have h1:=hkp8.size;have h2:=HZ.out;have h3:wc.drew.heap.size=wc.heap.size:=rfl;omega
  have hat:∀S,(Value.slice A8 (mw+1) c8).ownBlock=some S->(Value.slice Aw mw cw).ownBlock=some S\/w.heap.size<=S:=fun S hS=>by
   rcases hat8 S hS with h1|h1
   ·exact .inl h1
   ·have h2:=HZ.out;have h3:wc.drew.heap.size=wc.heap.size:=rfl;exact .inr (by omega)
  have HM8:=hid hm8;have HFR:=hid hfr;have HAT:=hid hat;clear hm8 hfr hat hkp8 hat8 hh8 z2 z6 z7 c5;go_wp2;refine bodyPost_end (v:= .tuple #[]) (by simp[results,Tryz.results68,go_sem]) rfl ?_;exact⟨⟨_,rfl⟩,A8,c8,L8,HM8.out,hpm8,hhp8,HFR.out,hsz,HAT.out⟩
end
end StarS
namespace StarLaw
open NetLaw BellLaw DijkLaw HeurLaw
structure Wt (K:Int->Int->Int) (n:Nat) (h D ord:List Int) (L:List Tr):Prop where
 ent:∀e∈L,(0<=e.2.2/\e.2.2<n)/\dg D e.2.2<far/\e.2.1=dg h e.2.2/\K (dg D e.2.2) (dg h e.2.2)<=e.1
 pend:∀u,Opn n D ord u->ky K h D u∈L
section
variable {K:Int->Int->Int} {n:Nat} {h D ord:List Int} {L L':List Tr}
theorem Wt.skip {k g v:Int} (hw:Wt K n h D ord L) (hp:((k,g,v)::L').Perm L) (hno:v∈ord\/K (dg D v) g<k):Wt K n h D ord L':=by
 refine⟨fun e he=>hw.ent e (hp.mem_iff.1 (List.mem_cons_of_mem _ he)),fun u hu=> ?_⟩;rcases List.mem_cons.1 (hp.mem_iff.2 (hw.pend u hu)) with e|e
 ·exfalso
  unfold ky at e;injection e with e1 e2;injection e2 with e2 e3;subst e3;rcases hno with h1|h1
  ·exact hu.2.2 h1
  ·rw[<-e2] at h1;omega
 ·exact e
theorem Wt.take {k g v:Int} (hw:Wt K n h D ord L) (hp:((k,g,v)::L').Perm L) (hmin:∀e∈L,lt3 e (k,g,v)=false) (h1:v ∉ ord) (h2:¬K (dg D v) g<k) :
 (k,g,v)=ky K h D v/\Nx K n h D ord v/\Wt K n h D (ord++[v]) L':=by
 obtain⟨hv,hf,hg,hk⟩:=hw.ent (k,g,v) (hp.mem_iff.1 (List.mem_cons_self ..));simp only at hv hf hg hk;have hkk:k=K (dg D v) (dg h v):=by rw[hg] at h2;omega
 have hky:(k,g,v)=ky K h D v:=by unfold ky;rw[<-hkk, <-hg]
 refine⟨hky,⟨⟨hv,hf,h1⟩,fun u hu=> ?_⟩,fun e he=>hw.ent e (hp.mem_iff.1 (List.mem_cons_of_mem _ he)),fun u hu=> ?_⟩
 ·rw[<-hky]
  exact hmin _ (hw.pend u hu)
 ·have hu':Opn n D ord u:=⟨hu.1,hu.2.1,fun x=>hu.2.2 (List.mem_append_left _ x)⟩
  rcases List.mem_cons.1 (hp.mem_iff.2 (hw.pend u hu')) with e|e
  ·exfalso
   unfold ky at e;injection e with _ e2;injection e2 with _ e3;exact hu.2.2 (by rw[e3];exact List.mem_append_right _ (List.mem_singleton.2 rfl))
  ·exact e
theorem Wt.set {v:Nat} {x:Int} (hw:Wt K n h D ord L) (hK:∀c c' g,c<=c'->K c g<=K c' g) (hv:v<n) (hD:D.length=n) (hx:x<dg D v) (hxf:x<far) (hp:L'.Perm ((K x (dg h v),dg h v,(v:Int))::L)):Wt K n h (D.set v x) ord L':=by
 have hs:=fun u hu=>dg_set (D:=D) (t:=(v:Int)) (v:=u) (x:=x) (by omega) (by omega) hu;simp only[Int.toNat_natCast] at hs;refine⟨fun e he=> ?_,fun u hu=> ?_⟩
 ·rcases List.mem_cons.1 (hp.mem_iff.1 he) with h1|h1
  ·subst h1
   simp only[hs _ (show (0:Int)<=(v:Int) by omega),if_pos];exact⟨⟨by omega,by omega⟩,hxf,trivial,Int.le_refl _⟩
  ·obtain⟨⟨e0,e1⟩,e2,e3,e4⟩:=hw.ent e h1
   rw[hs _ e0];split
   ·rename_i hev
    refine⟨⟨e0,e1⟩,hxf,e3,Int.le_trans (hK _ _ _ ?_) e4⟩;rw[hev];omega
   ·exact⟨⟨e0,e1⟩,e2,e3,e4⟩
 ·obtain⟨⟨u0,u1⟩,u2,u3⟩:=hu
  rw[hs u u0] at u2;unfold ky;rw[hs u u0];split
  ·rename_i hev
   subst hev;exact hp.mem_iff.2 (List.mem_cons_self ..)
  ·rename_i hev
   rw[if_neg hev] at u2;exact hp.mem_iff.2 (List.mem_cons_of_mem _ (hw.pend u ⟨⟨u0,u1⟩,u2,u3⟩))
theorem Wt.none (hw:Wt K n h D ord []):∀u,¬Opn n D ord u:=fun u hu=>by cases hw.pend u hu
end
theorem oe_take {l:List E} {v:Int}:∀(k:Nat),(((List.range k).filter fun i=>(l.getD i (0,0,0)).1 == v).map fun i=>l.getD i (0,0,0))=if k<=l.length then oe (l.take k) v else ((List.range k).filter fun i=>(l.getD i (0,0,0)).1 == v).map fun i=>l.getD i (0,0,0):=by
 intro k;split
 ·rename_i hk
  induction k with
  |zero=>rfl
  |succ k ih =>
   have hk':k<l.length:=by omega
   rw[List.range_succ,List.filter_append,List.map_append,ih (by omega),List.take_succ_eq_append_getElem hk'];unfold oe;rw[List.filter_append]
   congr 1
   have e:l.getD k (0,0,0)=l[k]:=by rw[List.getD_eq_getElem?_getD,List.getElem?_eq_getElem hk'];rfl
   rw[List.filter_cons,List.filter_nil,List.filter_cons,List.filter_nil,e]
   by_cases h:l[k].1=v
   ·have h1:(l[k].1 == v)=true:=beq_iff_eq.2 h
    have h2:decide (l[k].1=v)=true:=decide_eq_true h;rw[if_pos h1,if_pos h2,List.map_cons,List.map_nil,e]
   ·have h1:¬(l[k].1 == v)=true:=fun x=>h (beq_iff_eq.1 x)
    have h2:¬decide (l[k].1=v)=true:=fun x=>h (of_decide_eq_true x);rw[if_neg h1,if_neg h2]
    rfl
 ·rfl
theorem rxs_snoc (h dn:List Int) (v:Int) (es:List E) (e:E) (s:List Int × List Int):rxs h dn v (es++[e]) s=rx1 h dn v (rxs h dn v es s) e:=by simp[rxs]
theorem outs_snoc (l:List E) (ord:List Int) (v:Int) (h:v ∉ ord):outs l (ord++[v])=outs l ord+l.countP fun e=>decide (e.1=v):=by
 rw[<-outs_cons l ord v h];unfold outs;refine List.countP_congr fun e _=> ?_;simp[or_comm]
end StarLaw
end Go.Proofs.YtjebckehmmbkbaaGreat
