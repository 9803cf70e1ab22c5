/- The walk of (*ara.Search).Step. The walk of ara.weights. The walk of ara.New. The walk of (*ara.Search).Rounds. The walks of ara.New where it makes no search, and of ara.Run. -/
import Derived.Test.YtjebckehmmbkbaaGreatVAraSettle
set_option linter.unusedSimpArgs false
set_option linter.unusedVariables false
set_option maxRecDepth 100000
set_option maxHeartbeats 24000000
namespace Go.Proofs.YtjebckehmmbkbaaGreat
namespace Ara
open Go.RowKit NetLaw BellLaw StarLaw AraLaw Net Go.Proofs.YtjebckehmmbkbaaGreat.Std Flow
open HeapP (HeapAt d0 ltP ltP_ord)
open Dijk (td ol_mem)
theorem tdA_ol (l:List E) (v:Nat):td l (ol l l.length v)=oe l v:=by
 have h:=oe_take (l:=l) (v:=(v:Int)) l.length;rw[if_pos zzL,List.take_length] at h;rw[<-h];unfold td ol;rw[List.map_map];refine List.map_congr_left fun i _=> ?_;simp
theorem tdA_take {l:List E} {r:List Int} {j i:Nat} (hj:j<r.length) (hi:r[j]=(i:Int)) (hil:i<l.length):td l (r.take (j+1))=td l (r.take j)++[l[i]]:=by
 rw[List.take_add_one,List.getElem?_eq_getElem hj,td,List.map_append,hi];simp[td,List.getD_eq_getElem?_getD,List.getElem?_eq_getElem hil]
def sj (F:Fix) (v:Nat) (es:List E) (s:AS):AS:=es.foldl (fun s e=>reach1 F.h e.2.1 (dg s.C v+e.2.2) v s) (AraLaw.mark v s)
theorem sj_snoc (F:Fix) (v:Nat) (es:List E) (e:E) (s:AS):sj F v (es++[e]) s=reach1 F.h e.2.1 (dg (sj F v es s).C v+e.2.2) v (sj F v es s):=by
 unfold sj;rw[List.foldl_append]
 rfl
theorem sj_rds (F:Fix) (v:Nat) (es:List E) (s:AS):(sj F v es s).rds=s.rds:=by
 suffices h:∀(es:List E) (s':AS),(es.foldl (fun s e=>reach1 F.h e.2.1 (dg s.C v+e.2.2) v s) s').rds=s'.rds from h es _
 intro es
 induction es with
 |nil=>intro s';rfl
 |cons e es ih=>intro s';rw[List.foldl_cons,ih,(reach1_rds ..).1]
structure SR (b:Nat) (w:World) (P:Nat) (F:Fix) (Y:Var) (fr k:Nat) (s:AS):Prop where
 run:Rn F.n F.tt F.l F.h F.ws fr k s
 sm:SM b w P F Y s (1100*(k+1))
 top:Top F Y s
section
variable {b:Nat} {w w':World} {P:Nat} {F:Fix} {Y:Var} {s:AS} {K fr k:Nat}
theorem SR.keep (h:SR b w P F Y fr k s) (hb:Below w.heap.size w w'):SR b w' P F Y fr k s:=⟨h.run,h.sm.keep hb,h.top⟩
theorem SR.si (h:SR b w P F Y fr k s) (hO:FO F) (hP:PO F fr):AraLaw.SI F.n fr F.tt F.l F.h F.ws s:=h.run.si hP.cons hO.gd hO.c1 hP.fr hO.tt hO.wl hP.ws
theorem SR.short (h:SR b w P F Y fr k s) (hO:FO F) (hP:PO F fr) (hr:s.rds.length<F.ws.length):k<=1000:=h.run.short hP.cons hO.gd hO.c1 hP.fr hO.tt hO.wl hP.ws hr
def StepSays (b:Nat) (w:World) (P:Nat) (F:Fix) (Y:Var) (fr k:Nat) (x:Int) (e:Ending) (w':World):Prop :=
 ∃(j:Nat) (s':AS) (Y':Var),e= .returned (.int .i64 j)/\SR b w' P F Y' fr (k+j) s'/\Fr P F Y Y' w w'/\((j:Int)<=x\/j=0)/\((j:Int)<x->s'.rds.length=F.ws.length)
theorem step_any (hO:FO F) (hP:PO F fr) (h:SR b w P F Y fr k s) (x:Int) (hx:x<=9223372036854775807) :
 Calls Tryz.prog 42 #[.pointer (some ⟨P,0,none⟩),.int .i64 x] w fun e w'=>StepSays b w P F Y fr k x e w':=by
 have SR0:=hid h;have HOO:=hid hO;have HPP:=hid hP;clear h hO hP;go_enter Tryz.func42,Tryz.ntmps42;go_wp2
 go_loopw [5] (fun i wr=>∃(j:Nat) (s1:AS) (Y1:Var),i= .int .i64 j/\((j:Int)<=x\/j=0)/\Hid (SR b wr P F Y1 fr (k+j) s1)/\Hid (Fr P F Y Y1 w wr)) (fun i _=>x.toNat - (intOf i).toNat)
 case atStart=>exact⟨0,s,Y,rfl,.inr rfl,SR0,hid (Fr.refl _ _ _ _)⟩
 case round =>
  obtain⟨j,s1,Y1,rfl,hjx,HM,HF⟩:=hrel;clear SR0
  by_cases hlt:(j:Int)<x
  ·have kov:=isover_any HM.out.sm.am
   have KOV:=hid kov;clear kov
   go_wp2_with fail
   refine KOV.out.mono ?_;rintro e w2 ⟨rfl,kk,rfl⟩;have HM2:=hid (HM.out.keep (below_drewN (Below.refl _ _) kk));have HF2:=hid (HF.out.drewN kk);clear HM HF KOV;generalize wr.drewN kk=w2 at HM2 HF2 ⊢
   by_cases hov:s1.rds.length=F.ws.length
   ·have hd:decide (s1.rds.length=F.ws.length)=true:=decide_eq_true hov
    have hfin:StepSays b w P F Y fr k x (.returned (.int .i64 j)) w2:=⟨j,s1,Y1,rfl,HM2.out,HF2.out,hjx,fun _=>hov⟩;have HFIN:=hid hfin;rw[hd];clear hfin hov hd;go_wp2;go_ret;exact HFIN.out
   ·have hd:decide (s1.rds.length=F.ws.length)=false:=decide_eq_false hov
    have hl:s1.rds.length<F.ws.length:=by have:=(SI.paths (HM2.out.si HOO.out HPP.out)).2;omega
    have HL:=hid hl;rw[hd];clear hov hd hl;have hkj:k+j<=1000:=HM2.out.short HOO.out HPP.out HL.out;obtain⟨htop0,htop1⟩:=HM2.out.top HL.out;obtain⟨m',hm'⟩:∃m',Y1.m=m'+1:=⟨Y1.m - 1,by omega⟩;have hhr:=HM2.out.sm.hr HL.out;have kpop:=HM2.out.sm.am.pop hm' (by have:=hhr.bm;omega);have hnx:=HM2.out.sm.nx HL.out ⟨htop0,htop1⟩;obtain⟨_,⟨_,_,_,_,z10,_,_⟩,zp⟩:=HM2.out.sm.am.zs;have hsp:=HM2.out.run.sp;have KPOP:=hid kpop;have HNX:=hid hnx;have HHR:=hid hhr;have HMM:=hid hm';have HSP:=hid hsp;clear kpop hnx hhr hm' htop0 htop1 hsp;have hfd:∀(a g x:Int) (w:World),(Instr.field 129 (.agg #[.int .i64 a,.int .i64 g,.int .i64 x]) 2).run Tryz.prog w= .ok (.int .i64 x) w:=fun _ _ _ _=>by kernel_rfl
    go_wp2_with fail
    refine KPOP.out.mono ?_;rintro e w3 ⟨a,g,v,L2,rfl,hg0,hpm,am3,fr3⟩;have hnv:=HNX.out.1;rw[hg0] at hnv;simp only at hnv;obtain⟨v0,v1⟩:=hnv.1.1;obtain⟨v,rfl⟩:=Int.eq_ofNat_of_zero_le v0;have hvn:v<F.n:=by omega
    have hr3:=HHR.out.take (A:=Y1.Ah) (c:=Y1.ch) am3.lenD HMM.out hpm ⟨v0,v1⟩ rfl;have hww:IntKind.i64.wrap (s1.sp+1)=s1.sp+1:=IntWalk.i64_in _ (by have:=HSP.out;omega);obtain⟨_,⟨_,_,z8,_,_,z11,_⟩,zp3⟩:=am3.zs;obtain⟨_,f11,_⟩:=am3.free;obtain⟨d1,d2⟩:=am3.cellD hvn;have n1:P≠F.SD:=blk_ne am3.z (own_blk am3.done).choose_spec (by decide);have n2:F.SD≠P:=fun e=>n1 e.symm;have am4:AM b ((w3.setCell ⟨F.SD,v,none⟩ (.bool true)).setCell ⟨P,11,none⟩ (.int .i64 (s1.sp+1))) P F (Y1.heap' Y1.Ah m' Y1.ch L2) (AraLaw.mark v s1):=((am3.setD hvn true).setS (s1.sp+1)).congr rfl rfl rfl rfl rfl;have fr4:=(fr3.set (p:=⟨F.SD,v,none⟩) (.inl (.inr (.inr (.inr (.inl rfl))))) (.bool true)).set (p:=⟨P,11,none⟩) (.inl (.inl rfl)) (.int .i64 (s1.sp+1));have sm4:SM b ((w3.setCell ⟨F.SD,v,none⟩ (.bool true)).setCell ⟨P,11,none⟩ (.int .i64 (s1.sp+1))) P F (Y1.heap' Y1.Ah m' Y1.ch L2) (sj F v (td F.l ((ol F.l F.l.length v).take 0)) s1) (1100*(k+j+1)+0):=⟨am4,fun _=>hr3,HM2.out.sm.cb⟩;have SM4:=hid sm4;have FR4:=hid fr4;have HNV:=hid hnv;have zv:(v:Int)<(F.n:Int):=v1;clear sm4 fr4 am4 am3 fr3 hpm hr3 hg0 hnv z10 zp KPOP v0 v1;go_upto_region 7 with fail;generalize (w3.setCell ⟨F.SD,v,none⟩ (.bool true)).setCell ⟨P,11,none⟩ (.int .i64 (s1.sp+1))=w4 at SM4 FR4 ⊢;clear z8 z11 zp3 f11 d1 d2 n1 n2 hww hfd;obtain⟨⟨_,_,z2,_,_,_⟩,_,zp⟩:=SM4.out.am.zs;obtain⟨tc,_⟩:=SM4.out.am.tab.cell hvn;have htl:=SM4.out.am.tab.lt;obtain⟨Kq,hKq⟩:∃Kq,(ol F.l F.l.length v).length=Kq:=⟨_,rfl⟩;rw[hKq] at tc;have hK6:Kq<=600:=by rw[<-hKq];exact Nat.le_trans (ol_len _ _ _) HOO.out.gd.len
    have HKQ:=hid hKq;clear hKq;go_wp2
    go_loopw [47] (fun i wy=>∃(q:Nat) (Y6:Var),i= .int .i64 q/\q<=Kq/\Hid (SM b wy P F Y6 (sj F v (td F.l ((ol F.l F.l.length v).take q)) s1) (1100*(k+j+1)+q))/\Hid (Fr P F Y1 Y6 w2 wy)) (fun i _=>Kq - (intOf i).toNat)
    case atStart=>exact⟨0,_,rfl,Nat.zero_le _,SM4,FR4⟩
    case round =>
     obtain⟨q,Y6,rfl,hq,HM6,HF6⟩:=hrel;clear SM4 FR4 z2 zp tc htl
     by_cases hltq:q<Kq
     ·have hql:q<(ol F.l F.l.length v).length:=by rw[HKQ.out];exact hltq
      have hown:=HM6.out.am.tab.own v hvn;obtain⟨bq,oq,hA,hbq,hcq⟩:=hown.sl.2.atI hql;obtain⟨i,hi,hil,hiv⟩:=ol_mem (List.getElem_mem hql);rw[hi] at hcq;obtain⟨be,oe',f,t,co,hAE,hbe,he,hcf,hct,hcc⟩:=HM6.out.am.net.sl.2.atE hil;have hel:=List.getElem_mem hil;rw[he] at hel;obtain⟨_,_,t0,t1⟩:=HOO.out.gd.ends _ hel;have hco:=HOO.out.gd.cost _ hel;have hco1:=HOO.out.c1 _ hel;simp only at t0 t1 hco hco1;obtain⟨t,rfl⟩:=Int.eq_ofNat_of_zero_le t0;have htn:t<F.n:=by omega
      have htd:=tdA_take hql hi hil;rw[he] at htd;have hsn:=sj_snoc F v (td F.l ((ol F.l F.l.length v).take q)) (f,(t:Int),co) s1;rw[<-htd] at hsn;simp only at hsn;have hrd:=sj_rds F v (td F.l ((ol F.l F.l.length v).take q)) s1;have hcb:=HM6.out.cb v (by omega) (by omega);generalize hsq:sj F v (td F.l ((ol F.l F.l.length v).take q)) s1=sq at HM6 hsn hrd hcb;have hrq:sq.rds.length<F.ws.length:=by rw[hrd];exact HL.out
      obtain⟨⟨z0,z1,_,_,_,_⟩,_,zp⟩:=HM6.out.am.zs;have zq:(q:Int)<(Kq:Int):=by omega
      have zi:(i:Int)<(F.l.length:Int):=by omega
      have HSN:=hid hsn;have HRQ:=hid hrq;have HCB:=hid hcb;have HCO:=hid (And.intro hco hco1);clear hql hown hi he hel hco hco1 htd hsn hrd hcb hsq hrq hiv t0 t1 hil;go_upto_region 11 with fail;have hb7:Below wr.heap.size wr (wr.alloc (.cells #[.int .i64 f,.int .i64 t,.int .i64 co] 70)):=(Below.refl _ _).alloc zzL _;have hbx:=heap_alloc_new wr (.cells #[.int .i64 f,.int .i64 t,.int .i64 co] 70);have HM7:=hid (HM6.out.keep hb7);have HF7:=hid (HF6.out.below hb7);generalize wr.alloc (.cells #[.int .i64 f,.int .i64 t,.int .i64 co] 70)=w7 at HM7 HF7 hbx ⊢;generalize wr.heap.size=X at hbx ⊢;clear z0 z1 zp hA hbq hcq hAE hbe hcf hct hcc HM6 HF6 hb7;obtain⟨_,⟨z6,_,_,_,_,_,_⟩,zp⟩:=HM7.out.am.zs;obtain⟨cv,_⟩:=HM7.out.am.cellC hvn;have x1:=blk_cell hbx 1;have x2:=blk_cell hbx 2;have zX:=lt_of_block hbx;have zC:=(HM7.out.am.cost.base_ F.SC rfl).2;simp only[zzG,zzH,zzI] at x1 x2;have hww2:IntKind.i64.wrap (dg sq.C v+co)=dg sq.C v+co:=IntWalk.i64_in _ (by have:=HCB.out;have:=HCO.out;unfold far at *;omega);have kre:=reach_any HOO.out (HM7.out.keep (Below.refl _ _).drew) HRQ.out (by omega) htn (c:=dg sq.C v+co) (u:=(v:Int)) (by have:=HCB.out;have:=HCO.out;omega) (by have:=HCB.out;have:=HCO.out;unfold far at *;omega);rw[<-HSN.out] at kre;have KRE:=hid kre;clear kre hbx HSN;generalize dg sq.C (v:Int)=cc at *
      go_still_tail 14,(by kernel_rfl)
      change wpList _ _ _ _ _ w7.drew
      have HF8:=hid HF7.out.drew;clear HM7 HF7 x1 x2 zX zC z6 zp cv;generalize w7.drew=w8 at KRE HF8 ⊢
      go_wp2_with fail
      refine KRE.out.mono ?_;rintro e w9 ⟨⟨r9,rfl⟩,Y9,sm9,fr9⟩;have SM9:=hid sm9;have FR9:=hid (HF8.out.trans fr9);clear sm9 fr9 KRE HF8;go_wp2
      go_roundw
      case rel=>exact⟨q+1,Y9,by go_num,hltq,SM9,FR9⟩
      case measure=>simp[intOf];omega
     ·obtain rfl:q=Kq:=by omega
      have hex:sj F v (td F.l ((ol F.l F.l.length v).take q)) s1=AraLaw.expand F.l F.h v s1:=by
       rw[<-HKQ.out,List.take_length,tdA_ol]
       rfl
      have hsi:=(HM2.out.si HOO.out HPP.out).look_ HPP.out.cons HOO.out.gd HOO.out.c1 HPP.out.fr HOO.out.wl HPP.out.ws HL.out HNV.out;have sm6:=HM6.out;rw[hex] at sm6;have kse:=settle_any HOO.out HPP.out sm6 hsi (by omega);have KSE:=hid kse;have HHX:=hid hex;have zq:¬((q:Int)<(q:Int)):=by omega
      have hwj:IntKind.i64.wrap ((j:Int)+1)=(j:Int)+1:=IntWalk.i64_in _ (by omega);clear hex hsi sm6 kse
      go_wp2_with fail
      refine KSE.out.mono ?_;rintro e w9 ⟨⟨r9,rfl⟩,s9,Y9,K9,hst9,sm9,fr9,hK9,htop9⟩;have hsr:SR b w9 P F Y9 fr (k+(j+1)) s9:=⟨Rn.step HM2.out.run HL.out HNV.out hst9,sm9.more (by omega),htop9⟩;have HSR:=hid hsr;have HFR:=hid (HF2.out.trans (HF6.out.trans fr9));clear hst9 sm9 fr9 hsr KSE htop9;go_wp2
      go_roundw
      case rel=>exact⟨j+1,s9,Y9,by go_num,.inl (by omega),HSR,HFR⟩
      case measure=>simp[intOf];omega
  ·have hfin:StepSays b w P F Y fr k x (.returned (.int .i64 j)) wr:=⟨j,s1,Y1,rfl,HM.out,HF.out,hjx,fun h=>absurd h hlt⟩
   have HFIN:=hid hfin;clear hfin;go_wp2;go_ret;exact HFIN.out
end
end Ara
namespace Ara
open Go.RowKit NetLaw BellLaw StarLaw AraLaw Net Go.Proofs.YtjebckehmmbkbaaGreat.Std
open StarF (wgt wgt_zero weight_any)
def wgo:Option (Int × Int)->List (Int × Int)->Int
 |_,[]=>0
 |u,v::r=>if wgt v.1 v.2=0 then (match u with|some x=>if x.1*v.2<=v.1*x.2 then 1 else wgo (some v) r|none=>wgo (some v) r) else wgt v.1 v.2
def wcode (ws:List (Int × Int)):Int:=if ws.length=0 then 1 else if 8<ws.length then 2 else wgo none ws
def prv (ws:List (Int × Int)) (j:Nat):Option (Int × Int):=if j=0 then none else ws[j - 1]?
theorem wgo_ok:∀(ws:List (Int × Int)) (u:Option (Int × Int)),wgo u ws=0->∀w∈ws,wgt w.1 w.2=0:=by
 intro ws
 induction ws with
 |nil=>intro u _ w hw;cases hw
 |cons v r ih =>
  intro u h w hw;unfold wgo at h
  by_cases h0:wgt v.1 v.2=0
  ·rw[if_pos h0] at h
   rcases List.mem_cons.1 hw with rfl|hw
   ·exact h0
   ·cases u with
    |none=>exact ih _ h w hw
    |some x =>
     simp only at h;split at h
     ·exact absurd h (by decide)
     ·exact ih _ h w hw
  ·rw[if_neg h0] at h
   exact absurd h h0
theorem wcode_ok {ws:List (Int × Int)} (h:wcode ws=0):(0<ws.length/\ws.length<=8)/\∀w∈ws,(1<=w.2/\w.2<=1000000)/\(1<=w.1/\w.1<=1000000)/\w.2<=w.1:=by
 unfold wcode at h;split at h
 ·exact absurd h (by decide)
 ·split at h
  ·exact absurd h (by decide)
  ·refine⟨⟨by omega,by omega⟩,fun w hw=> ?_⟩
   obtain⟨⟨h1,h2,h3,h4,_⟩,h5⟩:=wgt_zero.1 (wgo_ok ws none h w hw);exact⟨⟨h1,h2⟩,⟨by omega,h4⟩,h5⟩
theorem wgo_step {ws:List (Int × Int)} {j:Nat} (hj:j<ws.length):wgo (prv ws j) (ws.drop j)=if wgt ws[j].1 ws[j].2=0 then (if ∃x,prv ws j=some x/\x.1*ws[j].2<=ws[j].1*x.2 then 1 else wgo (prv ws (j+1)) (ws.drop (j+1))) else wgt ws[j].1 ws[j].2:=by
 have hp:prv ws (j+1)=some ws[j]:=by unfold prv;rw[if_neg (by omega),Nat.add_sub_cancel,List.getElem?_eq_getElem hj]
 rw[List.drop_eq_getElem_cons hj,hp];cases hq:prv ws j with
 |none=>simp[wgo]
 |some x=>simp[wgo]
theorem wgo_end {ws:List (Int × Int)}:wgo (prv ws ws.length) (ws.drop ws.length)=0:=by
 rw[List.drop_length];unfold wgo
 rfl
theorem weights_any (A:Option Addr) (c:Nat) (ws:List (Int × Int)) (w:World) (hl:Sl w w.heap.size 2 cp A ws) (hlen:ws.length<=9223372036854775807) :
 Calls Tryz.prog 77 #[.slice A ws.length c] w fun e w'=>e= .returned (.int .i64 (wcode ws))/\Below w.heap.size w w':=by
 have HB0:Below w.heap.size w w:=Below.refl _ _
 by_cases h0:ws.length=0
 ·have hc:wcode ws=1:=by unfold wcode;rw[if_pos h0]
  rw[hc,h0];clear hc hl hlen h0;go_enter Tryz.func77,Tryz.ntmps77;go_wp2;go_ret;exact⟨rfl,HB0⟩
 ·by_cases h8:8<ws.length
  ·have hc:wcode ws=2:=by unfold wcode;rw[if_neg h0,if_pos h8]
   rw[hc];have hn0:((ws.length:Int) == 0)=false:=beq_eq_false_iff_ne.2 (by omega);have hn1:(ws.length:Int) > 8:=by omega
   clear hc hl;generalize ws.length=m at *;go_enter Tryz.func77,Tryz.ntmps77;go_wp2;go_ret;exact⟨rfl,HB0⟩
  ·have hc:wcode ws=wgo none ws:=by unfold wcode;rw[if_neg h0,if_neg h8]
   have hn0:((ws.length:Int) == 0)=false:=beq_eq_false_iff_ne.2 (by omega);have hn1:¬(ws.length:Int) > 8:=by omega
   obtain⟨m,hm⟩:∃m,ws.length=m:=⟨_,rfl⟩;have hm8:m<=8:=by omega
   have HC:=hid hc;obtain⟨bw,ow,rfl,hbw,hcell⟩:=hl (by omega);have HCELL:=hid hcell;have HM:=hid hm;rw[hm] at hn0 hn1 ⊢;clear hc hl hcell hlen h0 h8 hm;go_enter Tryz.func77,Tryz.ntmps77;go_wp2
   go_loopw [14] (fun i wr=>∃j:Nat,i= .int .i64 j/\j<=m/\Hid (wgo (prv ws j) (ws.drop j)=wgo none ws)/\Hid (∀k,(hk:k<ws.length)->k<j->wgt ws[k].1 ws[k].2=0)/\Hid (Below w.heap.size w wr)) (fun i _=>m - (intOf i).toNat)
   case atStart=>exact⟨0,rfl,Nat.zero_le _,hid rfl,hid (fun k _ hk=>absurd hk (Nat.not_lt_zero _)),hid HB0⟩
   case round =>
    obtain⟨j,rfl,hj,HG,HO,HB⟩:=hrel
    by_cases hlt:j<m
    ·have hjl:j<ws.length:=by rw[HM.out];exact hlt
     have hst:=wgo_step hjl;have hc0:=HCELL.out j hjl 0 (by decide);have hc1:=HCELL.out j hjl 1 (by decide)
     have hok:wgt ws[j].1 ws[j].2=0->∀k,(hk:k<ws.length)->k<j+1->wgt ws[k].1 ws[k].2=0:=fun h0 k hk hkj=>by
      by_cases e:k=j
      ·subst e;exact h0
      ·exact HO.out k hk (by omega)
     obtain⟨p,hp⟩:∃p,ws[j].1=p:=⟨_,rfl⟩;obtain⟨q,hq⟩:∃q,ws[j].2=q:=⟨_,rfl⟩;have e0:cp ws[j] 0= .int .i64 p:=by rw[<-hp];rfl
     have e1:cp ws[j] 1= .int .i64 q:=by rw[<-hq];rfl
     rw[e0] at hc0;rw[e1] at hc1;rw[hp,hq] at hst hok;have c0:=below_cells HB.out hbw hc0;have c1:=below_cells HB.out hbw hc1;rw[Nat.add_zero] at c0;rw[<-Nat.add_assoc] at c1;have zj:(j:Int)<(m:Int):=by omega
     have hsz:=HB.out.size;have HST:=hid hst;have HOK:=hid hok;clear hst hok hc0 hc1 e0 e1 hp hq;go_upto_region 8 with fail;have hbx:=heap_alloc_new wr (.cells #[.int .i64 p,.int .i64 q] 43);have HB4:=hid (HB.out.alloc hsz (.cells #[.int .i64 p,.int .i64 q] 43));generalize wr.alloc (.cells #[.int .i64 p,.int .i64 q] 43)=w4 at hbx HB4 ⊢;generalize wr.heap.size=X at hbx ⊢;clear c0 c1 hsz;have x0:=blk_cell hbx 0;have x1:=blk_cell hbx 1;simp only[zzG,zzH,zzI] at x0 x1;have zX:=lt_of_block hbx;have HBX:=hid hbx;clear hbx
     go_wp2_with fail
     refine(weight_any p q w4).mono ?_;rintro e w5 ⟨rfl,hb5⟩;have hbx:=blk_below HBX.out hb5 zX;have HB5:=hid (HB4.out.trans (hb5.mono HB4.out.size));clear x0 x1 zX HBX hb5 HB4;have x0:=blk_cell hbx 0;have x1:=blk_cell hbx 1;simp only[zzG,zzH,zzI] at x0 x1;have zX:=lt_of_block hbx;clear hbx
     by_cases hw:wgt p q=0
     ·have hok2:=HOK.out hw
      have hst2:=HST.out;rw[if_pos hw] at hst2;have HOK2:=hid hok2;have HST2:=hid hst2;have hpq:=wgt_zero.1 hw;rw[hw];obtain⟨⟨q1,q2,p1,p2,_⟩,_⟩:=hpq;clear hok2 hst2 hw HST HOK;cases j with
      |zero =>
       have hst3:=HST2.out;rw[if_neg (fun ⟨x,hx,_⟩=>by cases hx)] at hst3;have HST3:=hid (hst3.symm.trans HG.out);clear hst3;go_upto_region 11 with fail;go_quiet (fail);have HB6:=hid (below_drewN HB5.out nq);go_wp2
       go_roundw
       case rel=>exact⟨1,by go_num,hlt,HST3,HOK2,HB6⟩
       case measure=>simp[intOf];omega
      |succ k =>
       have hkl:k<ws.length:=by omega
       have hd0:=HCELL.out k hkl 0 (by decide);have hd1:=HCELL.out k hkl 1 (by decide);have hkok:=HO.out k hkl (Nat.lt_succ_self k);have hprv:prv ws (k+1)=some ws[k]:=by unfold prv;rw[if_neg (by omega),Nat.add_sub_cancel,List.getElem?_eq_getElem hkl]
       obtain⟨⟨a2,a3,a4,a5,_⟩,_⟩:=wgt_zero.1 hkok;obtain⟨y1,hy1⟩:∃y1,ws[k].1=y1:=⟨_,rfl⟩;obtain⟨y2,hy2⟩:∃y2,ws[k].2=y2:=⟨_,rfl⟩;have e0:cp ws[k] 0= .int .i64 y1:=by rw[<-hy1];rfl
       have e1:cp ws[k] 1= .int .i64 y2:=by rw[<-hy2];rfl
       rw[e0] at hd0;rw[e1] at hd1;have g0:=below_cells HB5.out hbw hd0;have g1:=below_cells HB5.out hbw hd1;rw[Nat.add_zero] at g0;rw[<-Nat.add_assoc] at g1;have hst3:=HST2.out;rw[hprv] at hst3;have hgp:=HG.out;rw[hprv] at hgp;have HGP:=hid hgp;clear hgp;simp only[Option.some.injEq,exists_eq_left'] at hst3;rw[hy1,hy2] at hst3;rw[hy2] at a2 a3;rw[hy1] at a4 a5
       have m1: -1000000000000<=p*y2/\p*y2<=1000000000000:=by
        have h1:=Int.mul_le_mul_of_nonneg_right p2 (show 0<=y2 by omega);have h2:=Int.mul_le_mul_of_nonneg_right p1 (show 0<=y2 by omega);omega
       have m2: -1000000000000<=y1*q/\y1*q<=1000000000000:=by
        have h1:=Int.mul_le_mul_of_nonneg_right a5 (show 0<=q by omega);have h2:=Int.mul_le_mul_of_nonneg_right a4 (show 0<=q by omega);omega
       obtain⟨u1,hu1⟩:∃u1,p*y2=u1:=⟨_,rfl⟩;obtain⟨u2,hu2⟩:∃u2,y1*q=u2:=⟨_,rfl⟩;rw[hu1] at m1 hst3;rw[hu2] at m2 hst3;have v1:IntKind.i64.wrap u1=u1:=IntWalk.i64_in _ (by omega);have v2:IntKind.i64.wrap u2=u2:=IntWalk.i64_in _ (by omega);have v3:IntKind.i64.wrap (k:Int)=k:=IntWalk.i64_in _ (by omega);have zk:(k:Int)+1 > 0:=by omega
       have zk2:(k:Int)<(m:Int):=by omega
       have HST3:=hid hst3;clear hd0 hd1 hkok hprv hy1 hy2 e0 e1 hst3 m1 m2 a2 a3 a4 a5 p1 p2 q1 q2
       by_cases hcmp:u2<=u1
       ·have hst4:=HST3.out
        rw[if_pos hcmp] at hst4;have hval:(1:Int)=wcode ws:=by rw[HC.out, <-HGP.out,hst4]
        have hgg:u1 ≥ u2:=hcmp;have HVAL:=hid hval;clear hst4 hval hcmp;go_upto_region 11 with fail;go_quiet (fail);have HB6:=hid (below_drewN HB5.out nq);go_wp2;go_ret;exact⟨congrArg (fun z=>Ending.returned (.int .i64 z)) HVAL.out,HB6.out⟩
       ·have hst4:=HST3.out
        rw[if_neg hcmp] at hst4;have HST4:=hid (hst4.symm.trans HGP.out);have hgg:¬u1 ≥ u2:=hcmp;clear hst4 hcmp;go_upto_region 11 with fail;go_quiet (fail);have HB6:=hid (below_drewN HB5.out nq);go_wp2
        go_roundw
        case rel=>exact⟨k+1+1,by go_num,hlt,HST4,HOK2,HB6⟩
        case measure=>simp[intOf];omega
     ·have hst2:=HST.out
      rw[if_neg hw] at hst2;have hval:wgt p q=wcode ws:=by rw[HC.out, <-HG.out,hst2]
      have hne:(wgt p q != 0)=true:=by simpa using hw
      have HVAL:=hid hval;clear hst2 hval hw HST HOK;generalize wgt p q=z at *;go_wp2;go_ret;exact⟨congrArg (fun z=>Ending.returned (.int .i64 z)) HVAL.out,HB5.out⟩
    ·have hjm:j=m:=by omega
     have hval:(0:Int)=wcode ws:=by
      have h1:=HG.out;rw[hjm, <-HM.out,wgo_end] at h1;rw[HC.out];exact h1
     have zj:¬((j:Int)<(m:Int)):=by omega
     have HVAL:=hid hval;clear hval hjm;go_wp2;go_ret;exact⟨congrArg (fun z=>Ending.returned (.int .i64 z)) HVAL.out,HB.out⟩
end Ara
namespace Ara
open Go.RowKit NetLaw BellLaw StarLaw AraLaw Net Go.Proofs.YtjebckehmmbkbaaGreat.Std Flow
open Heap (Kp Kp.refl Kp.below Kp.alloc Kp.drew Kp.setCell Kp.grown Kp.to fnOf)
open HeapP (HeapAt d0 ltP ltP_ord)
open Makers (wpAnyH_makers putsF mnum mdst lists)
open StarF (slook slook_any slook_zero)
open Dijk (Tab_mono)
theorem infoRatioN:(Tryz.prog.info? 43).map (fun i=>(i.zero,i.size,i.bytes))=some (some (.agg #[.int .i64 0,.int .i64 0]),2,16):=by kernel_rfl
def MkA (n:Nat) (l:List E) (hs:List Int) (ws:List (Int × Int)) (i:Nat) (v:Value) (lo hi:Nat) (w':World):Prop :=
 if i=1 then ∃A c,v= .agg #[.int .i64 n,.slice A l.length c]/\Own w' lo 70 3 ce (.slice A l.length c) l/\∀g,ob A=some g->g<hi
 else if i=4 then ∃A c,v= .slice A n c/\Own w' lo 3 1 ci (.slice A n c) hs/\∀g,ob A=some g->g<hi
 else if i=6 then ∃A c,v= .slice A ws.length c/\Own w' lo 43 2 cp (.slice A ws.length c) ws/\∀g,ob A=some g->g<hi
 else if i=15 then ∃g,v= .slice (some ⟨g,0,none⟩) n n/\g<hi/\Own w' lo 4 1 cb (.slice (some ⟨g,0,none⟩) n n) (List.replicate n false)
 else if i=16 then ∃H,v= .pointer (some ⟨H,0,none⟩)/\H<hi/\HeapAt w' lo H (fnOf 67) none 0 0 []
 else ∃g,v= .slice (some ⟨g,0,none⟩) n n/\g<hi/\Own w' lo 3 1 ci (.slice (some ⟨g,0,none⟩) n n) (List.replicate n 0)
theorem MkA.keep {w1 w2:World} {n:Nat} {l:List E} {hs:List Int} {ws:List (Int × Int)} {i:Nat} {v:Value} {lo hi:Nat} (h:MkA n l hs ws i v lo hi w1) (hb:Below w1.heap.size w1 w2):MkA n l hs ws i v lo hi w2:=by
 unfold MkA at *
 by_cases h1:i=1
 ·rw[if_pos h1] at h ⊢
  obtain⟨A,c,a1,a2,a3⟩:=h;exact⟨A,c,a1,a2.keep hb,a3⟩
 ·rw[if_neg h1] at h ⊢
  by_cases h4:i=4
  ·rw[if_pos h4] at h ⊢
   obtain⟨A,c,a1,a2,a3⟩:=h;exact⟨A,c,a1,a2.keep hb,a3⟩
  ·rw[if_neg h4] at h ⊢
   by_cases h6:i=6
   ·rw[if_pos h6] at h ⊢
    obtain⟨A,c,a1,a2,a3⟩:=h;exact⟨A,c,a1,a2.keep hb,a3⟩
   ·rw[if_neg h6] at h ⊢
    by_cases h15:i=15
    ·rw[if_pos h15] at h ⊢
     obtain⟨g,a1,a2,a3⟩:=h;exact⟨g,a1,a2,a3.keep hb⟩
    ·rw[if_neg h15] at h ⊢
     by_cases h16:i=16
     ·rw[if_pos h16] at h ⊢
      obtain⟨g,a1,a2,a3⟩:=h;exact⟨g,a1,a2,a3.keep hb⟩
     ·rw[if_neg h16] at h ⊢
      obtain⟨g,a1,a2,a3⟩:=h;exact⟨g,a1,a2,a3.keep hb⟩
theorem heapA_mono {w:World} {base base' H n c:Nat} {fn:Value} {A:Option Addr} {L:List HeapP.Pop} (h:HeapAt w base H fn A n c L) (hb:base'<=base):HeapAt w base' H fn A n c L:=⟨Nat.le_trans hb h.hb,h.blk,h.own.mono hb,h.len⟩
structure Md (b:Nat) (w:World) (Z n t:Nat) (l:List E) (hs:List Int) (ws:List (Int × Int)) (AE:Option Addr) (cE:Nat) (AH:Option Addr) (cH:Nat) (AW:Option Addr) (cW SC SP SD H:Nat):Prop where
 z:w.heap[Z]?=some (.cells #[.int .i64 n,.slice AE l.length cE,.slice none 0 0,.int .i64 t,.slice AH n cH,.slice AW ws.length cW,.slice (some ⟨SC,0,none⟩) n n,.slice (some ⟨SP,0,none⟩) n n,.slice (some ⟨SD,0,none⟩) n n,.slice none 0 0,.pointer (some ⟨H,0,none⟩),.int .i64 0,.slice none 0 0] 98 (0,0))
 zl:b<=Z
 net:Own w b 70 3 ce (.slice AE l.length cE) l
 hh:Own w b 3 1 ci (.slice AH n cH) hs
 wt:Own w b 43 2 cp (.slice AW ws.length cW) ws
 cost:Own w b 3 1 ci (.slice (some ⟨SC,0,none⟩) n n) (List.replicate n 0)
 pred:Own w b 3 1 ci (.slice (some ⟨SP,0,none⟩) n n) (List.replicate n 0)
 done:Own w b 4 1 cb (.slice (some ⟨SD,0,none⟩) n n) (List.replicate n false)
 heap:HeapAt w b H (fnOf 67) none 0 0 []
 neCP:SC≠SP
 neH:ob AH≠some SC/\ob AH≠some SP
def sFill (n k:Nat):AS:=⟨List.replicate k far++List.replicate (n - k) 0,List.replicate k (-1)++List.replicate (n - k) 0,List.replicate n false,fun _=>false,fun _=>false,0,[]⟩
def s0A (n:Nat):AS:=⟨List.replicate n far,List.replicate n (-1),List.replicate n false,fun _=>false,fun _=>false,0,[]⟩
def Y0:Var:=⟨none,0,0,[],none,0,0,[],none,0,0,[]⟩
theorem Md.search {b:Nat} {w w':World} {Z n t:Nat} {l:List E} {hs:List Int} {ws:List (Int × Int)} {AE:Option Addr} {cE:Nat} {AH:Option Addr} {cH:Nat} {AW:Option Addr} {cW SC SP SD H TO:Nat} {FO:Nat->Option Addr × Nat} (h:Md b w Z n t l hs ws AE cE AH cH AW cW SC SP SD H) (hhl:hs.length=n) (hb:Below w.heap.size w w') (ht:Tab w' w.heap.size TO n FO (ol l l.length)) :
 ∃F:Fix,F.n=n/\F.tt=t/\F.l=l/\F.h=hs/\F.ws=ws/\AM b (w'.setCell ⟨Z,2,none⟩ (.slice (some ⟨TO,0,none⟩) n n)) Z F Y0 (sFill n 0)/\b<=F.SC/\b<=F.SP:=by
 have hZ:=lt_of_block h.z;have hz:=blk_below h.z hb hZ;have hbs:b<=w.heap.size:=by have:=h.zl;omega
 obtain⟨cs,hti,_⟩:=ht.blk;have hFl:∀v,v<n->∀g,ob (FO v).1=some g->w.heap.size<=g:=fun v hv g e=>((ht.own v hv).base_ g ((ob_ ..).trans e)).1;have hz2:=blk_set hz 2 (.slice (some ⟨TO,0,none⟩) n n)
 refine⟨⟨n,t,l,hs,ws,AE,cE,TO,FO,AH,cH,AW,cW,SC,SP,SD,H⟩,rfl,rfl,rfl,rfl,rfl,⟨by simpa [Y0,sFill] using hz2,h.zl,(h.net.keep hb).setCell ((h.net.keep hb).ne_ hz (by decide)) _,
  tab_far (p:=⟨Z,2,none⟩) (Tab_mono ht hbs) (blk_ne hz hti (by decide)) (fun v hv e=>by have:=hFl v hv Z ((ob_ ..).symm.trans e);omega) _,(h.hh.keep hb).setCell ((h.hh.keep hb).ne_ hz (by decide)) _,(h.wt.keep hb).setCell ((h.wt.keep hb).ne_ hz (by decide)) _,?_,?_,(h.done.keep hb).setCell ((h.done.keep hb).ne_ hz (by decide)) _,Own.nil_,
  heap_far (h.heap.keep hb) hz (by decide) (by decide) _,HeapLaw.Hp.nil,Own.nil_,fun x hx=>(by cases hx),rfl,?_,?_,?_,hhl,rfl,rfl,h.neCP,h.neH,fun v hv=>⟨fun e=> ?_,fun e=> ?_⟩,(fun g e=>by cases e),fun x hx=>(by cases hx)⟩,(h.cost.base_ SC rfl).1,(h.pred.base_ SP rfl).1⟩
 ·have:=(h.cost.keep hb).setCell (p:=⟨Z,2,none⟩) ((h.cost.keep hb).ne_ hz (by decide)) (.slice (some ⟨TO,0,none⟩) n n)
  simpa [sFill] using this
 ·have:=(h.pred.keep hb).setCell (p:=⟨Z,2,none⟩) ((h.pred.keep hb).ne_ hz (by decide)) (.slice (some ⟨TO,0,none⟩) n n)
  simpa [sFill] using this
 ·simp[sFill]
 ·simp[sFill]
 ·simp[sFill]
 ·have h1:w.heap.size<=SC:=hFl v hv _ e
  exact absurd (h.cost.base_ SC rfl).2 (by omega)
 ·have h1:w.heap.size<=SP:=hFl v hv _ e
  exact absurd (h.pred.base_ SP rfl).2 (by omega)
theorem am_fill {b:Nat} {w:World} {P:Nat} {F:Fix} {k:Nat} (hk:k<F.n) (h:AM b w P F Y0 { sFill F.n k with C:=(sFill F.n k).C.set k far,P:=(sFill F.n k).P.set k (-1) }):AM b w P F Y0 (sFill F.n (k+1)) :=
 h.congr (Bell.fill_step F.n k far 0 hk).symm (Bell.fill_step F.n k (-1) 0 hk).symm rfl rfl rfl
theorem am_full {b:Nat} {w:World} {P:Nat} {F:Fix} (h:AM b w P F Y0 (sFill F.n F.n)):SM b w P F Y0 (s0A F.n) 0:=by
 refine⟨h.congr (by simp[sFill,s0A]) (by simp[sFill,s0A]) rfl rfl rfl,fun _=>⟨fun v hv=>absurd hv.2 (by simp[s0A]),fun x hx=>(by cases hx),fun v hv=>absurd hv.2 (by simp[s0A]),fun v _ _=>⟨fun h=>(nomatch h),fun h=>(nomatch h)⟩,fun v hv=>(by cases hv),Nat.le_refl _,Nat.le_refl _⟩,fun v v0 v1=> ?_⟩
 show 0<=dg (List.replicate F.n far) v/\dg (List.replicate F.n far) v<=far
 rw[rep_dg v0 v1];exact⟨by decide,Int.le_refl _⟩
def NewYes (n f t:Nat) (l:List E) (hs:List Int) (ws:List (Int × Int)) (w:World) (e:Ending) (w':World):Prop :=
 ∃Z F Y s,e= .returned (.tuple #[.pointer (some ⟨Z,0,none⟩),.int .i64 0])/\F.n=n/\F.tt=t/\F.l=l/\F.h=hs/\F.ws=ws/\FO F/\PO F f/\SR w.heap.size w' Z F Y f 0 s/\Below w.heap.size w w'
theorem new_yes (n f t:Nat) (A:Option Addr) (c:Nat) (l:List E) (Ah:Option Addr) (ch:Nat) (hs:List Int) (Aw:Option Addr) (cw:Nat) (ws:List (Int × Int)) (w:World) (hl:Sl w w.heap.size 3 ce A l) (hA:A=none->l.length=0/\c=0) (hh:Sl w w.heap.size 1 ci Ah hs) (hAh:Ah=none->hs.length=0/\ch=0) (hw:Sl w w.heap.size 2 cp Aw ws) (hAw:Aw=none->ws.length=0/\cw=0) (hx:slook n f t l hs=0) (hy:wcode ws=0) :
 Calls Tryz.prog 40 #[.agg #[.int .i64 n,.slice A l.length c],.int .i64 f,.int .i64 t,.slice Ah hs.length ch,.slice Aw ws.length cw] w fun e w'=>NewYes n f t l hs ws w e w':=by
 obtain⟨i0,hi,hz0,hz1,hz2⟩:=info_parts infoIntO;obtain⟨i1,hi1,hy0,hy1,hy2⟩:=info_parts infoRatioN;obtain⟨hlk,hC⟩:=slook_zero.1 hx;obtain⟨hg,hc,⟨f0,f1⟩,t0,t1⟩:=DijkWay.looks_zero hlk;obtain⟨⟨hw1,hw8⟩,hwo⟩:=wcode_ok hy;have hn1:=hg.lo;have hn64:=hg.hi;have hl6:=hg.len;have hhl:hs.length=n:=by have:=hC.len;omega
 have hfn:f<n:=by omega
 have htn:t<n:=by omega
 have hw0:Below w.heap.size w (w.alloc (.cells #[.int .i64 n,.slice A l.length c] 24)):=(Below.refl _ _).alloc zzL _;have hbox:=heap_alloc_new w (.cells #[.int .i64 n,.slice A l.length c] 24);have klook:=fun W (hb:Below w.heap.size w W)=>slook_any n f t A c l Ah ch hs W ((hl.keep hb zzL).more hb.size) ((hh.keep hb zzL).more hb.size) (by omega) (by omega);have kwts:=fun W (hb:Below w.heap.size w W)=>weights_any Aw cw ws W ((hw.keep hb zzL).more hb.size) (by omega);have kcopy:=fun W (hb:Below w.heap.size w W)=>John.copy_any n A c l W ((hl.keep hb zzL).more hb.size) hA hl6;rw[hx] at klook;rw[hy] at kwts;rw[hhl] at klook hAh ⊢
 have hmk:∀w,(Instr.makeSlice 25 (.int .i64 (n:Int)) (.int .i64 (n:Int))).run Tryz.prog w= .ok (.slice (some ⟨w.heap.size,0,none⟩) n n) (w.alloc (.cells (madeCells #[.int .i64 0] n) 3)) :=
  run_make_row' (P:=Tryz.prog) 25 3 (.int .i64 0) 8 Tryz.underlying25 (by kernel_rfl) rfl .i64 .i64 n (by omega) (by omega)
 have hmb:∀w,(Instr.makeSlice 86 (.int .i64 (n:Int)) (.int .i64 (n:Int))).run Tryz.prog w= .ok (.slice (some ⟨w.heap.size,0,none⟩) n n) (w.alloc (.cells (madeCells #[.bool false] n) 4)) :=
  run_make_row' (P:=Tryz.prog) 86 4 (.bool false) 1 Tryz.underlying86 (by kernel_rfl) rfl .i64 .i64 n (by omega) (by omega)
 have knew:=fun W=>HeapP.new_any 67 W;unfold fnOf at knew;have kouts:=fun (W:World) (A':Option Addr) (c':Nat) (h:Sl W W.heap.size 3 ce A' l)=>outs_wide n A' c' l W h (Wide.of hg)
 have hfacts:∀F:Fix,F.n=n->F.tt=t->F.l=l->F.h=hs->F.ws=ws->FO F/\PO F f:=fun F e1 e2 e3 e4 e5=>by
  refine⟨⟨by rw[e1,e3];exact hg,by rw[e3];exact hc,fun v v0 v1=> ?_,by rw[e5];exact hw8,fun u hu=> ?_,by rw[e1,e2];exact htn⟩,by rw[e1,e2,e3,e4];exact hC,by rw[e1];exact hfn,fun u hu=> ?_⟩
  ·rw[e4]
   obtain⟨v,rfl⟩:=Int.eq_ofNat_of_zero_le v0;have hv:v<hs.length:=by omega
   rw[dg,Int.toNat_natCast,List.getD_eq_getElem?_getD,List.getElem?_eq_getElem hv];exact hC.lo _ (List.getElem_mem hv)
  ·rw[e5] at hu
   obtain⟨k1,k2,k3⟩:=hwo u hu;exact⟨k1,k2⟩
  ·rw[e5] at hu
   obtain⟨k1,k2,k3⟩:=hwo u hu;exact⟨k1.1,k3⟩
 have KLOOK:=hid klook;have KWTS:=hid kwts;have KCOPY:=hid kcopy;have KNEW:=hid knew;have KOUTS:=hid kouts;have HMK:=hid hmk;have HMB:=hid hmb;have HBOX:=hid hbox;have HW0:=hid hw0;have HFACTS:=hid hfacts;have HH:=hid hh;have HW:=hid hw;have HAH:=hid hAh;have HAW:=hid hAw;have HHL:=hid hhl;have HW8:=hid hw8;have HW1:=hid hw1;have HFN:=hid hfn;have HN64:=hid hn64;have hq:=blk_cell hbox 0;have hq1:=blk_cell hbox 1;have zx:=lt_of_block hbox;simp only[zzG,zzH,zzI] at hq hq1;have HQ:=hid (And.intro hq (And.intro hq1 zx));clear klook kwts kcopy knew kouts hmk hmb hbox hw0 hfacts hh hw hAh hAw hhl hw8 hl hA hx hy hlk hC hg hc f0 f1 t0 t1 hw1 hwo hn1 hn64 hl6 hq hq1 zx;go_enter Tryz.func40,Tryz.ntmps40;obtain⟨x0,x1,zx⟩:=HQ.out
 go_wp2_with fail
 refine(KLOOK.out _ HW0.out).mono ?_;rintro e w1 ⟨rfl,hb1⟩;have hb2:=HW0.out.trans (hb1.mono HW0.out.size);have hx1:=blk_below HBOX.out hb1 (lt_of_block HBOX.out);have HB2:=hid hb2;have HX1:=hid hx1;clear hb1 hb2 hx1 KLOOK HW0 HBOX HQ x0 x1 zx
 go_wp2_with fail
 refine(KWTS.out _ HB2.out).mono ?_;rintro e w2 ⟨rfl,hb3⟩;have HB3:=hid (HB2.out.trans (hb3.mono HB2.out.size));have HX2:=hid (blk_below HX1.out hb3 (lt_of_block HX1.out));clear hb3 HB2 HX1 KWTS;go_upto_region 7 with fail
 go_cut [14] from 29 to 48 (fun s14 wx=>∃Z AE cE AH cH AW cW SC SP SD H,s14= .pointer (some ⟨Z,0,none⟩)/\Hid (Md w.heap.size wx Z n t l hs ws AE cE AH cH AW cW SC SP SD H)/\Hid (Below w.heap.size w wx))
 case first =>
  refine Go.wp_region_held_drew (S:=fun w'=>w'.cell? ⟨w.heap.size,0,none⟩=some (.int .i64 n)/\w'.cell? ⟨w.heap.size,1,none⟩=some (.slice A l.length c)) (by kernel_rfl) ?_ (fun hHeld=> ?_)
  ·exact⟨blk_cell HX2.out 0,blk_cell HX2.out 1⟩
  ·skip
   refine zzT 19 0 ?_ rfl (by kernel_rfl) (fun _ _ _ h=>h) (.inl ⟨by rfl,?_⟩) ‹_› ?_;rotate_left;(intro w hSw;(try dsimp only at hSw);go_simp;try with_reducible rfl);try simp only[Act.put,zzA,zzB,zzC,zzD,zzE,zzF];refine zzT 18 2 ?_ rfl (by kernel_rfl) (fun _ _ _ h=>h) (.inl ⟨by rfl,?_⟩) ‹_› ?_;rotate_left;(intro w hSw;(try dsimp only at hSw);go_simp;try with_reducible rfl);try simp only[Act.put,zzA,zzB,zzC,zzD,zzE,zzF];refine zzT 17 3 ?_ rfl (by kernel_rfl) (fun _ _ _ h=>h) (.inl ⟨by rfl,?_⟩) ‹_› ?_;rotate_left;(intro w hSw;(try dsimp only at hSw);go_simp;try with_reducible rfl);try simp only[Act.put,zzA,zzB,zzC,zzD,zzE,zzF];refine zzT 16 5 ?_ rfl (by kernel_rfl) (fun _ _ _ h=>h) (.inl ⟨by rfl,?_⟩) ‹_› ?_;rotate_left;(intro w hSw;(try dsimp only at hSw);go_simp;try with_reducible rfl);try simp only[Act.put,zzA,zzB,zzC,zzD,zzE,zzF];refine zzT 15 7 ?_ rfl (by kernel_rfl) (fun _ _ _ h=>h) (.inl ⟨by rfl,?_⟩) ‹_› ?_;rotate_left;(intro w hSw;(try dsimp only at hSw);go_simp;try with_reducible rfl);try simp only[Act.put,zzA,zzB,zzC,zzD,zzE,zzF];refine zzT 14 8 ?_ rfl (by kernel_rfl) (fun _ _ _ h=>h) (.inl ⟨by rfl,?_⟩) ‹_› ?_;rotate_left;(intro w hSw;(try dsimp only at hSw);go_simp;try with_reducible rfl);try simp only[Act.put,zzA,zzB,zzC,zzD,zzE,zzF];refine zzT 13 10 ?_ rfl (by kernel_rfl) (fun _ _ _ h=>h) (.inl ⟨by rfl,?_⟩) ‹_› ?_;rotate_left;(intro w hSw;(try dsimp only at hSw);go_simp;try with_reducible rfl);try simp only[Act.put,zzA,zzB,zzC,zzD,zzE,zzF];refine zzT 12 11 ?_ rfl (by kernel_rfl) (fun _ _ _ h=>h) (.inl ⟨by rfl,?_⟩) ‹_› ?_;rotate_left;(intro w hSw;(try dsimp only at hSw);go_simp;try with_reducible rfl);try simp only[Act.put,zzA,zzB,zzC,zzD,zzE,zzF];refine zzT 11 13 ?_ rfl (by kernel_rfl) (fun _ _ _ h=>h) (.inl ⟨by rfl,?_⟩) ‹_› ?_;rotate_left;(intro w hSw;(try dsimp only at hSw);go_simp;try with_reducible rfl);try simp only[Act.put,zzA,zzB,zzC,zzD,zzE,zzF];refine zzT 10 14 ?_ rfl (by kernel_rfl) (fun _ _ _ h=>h) (.inl ⟨by rfl,?_⟩) ‹_› ?_;rotate_left;(intro w hSw;(try dsimp only at hSw);go_simp;try with_reducible rfl);try simp only[Act.put,zzA,zzB,zzC,zzD,zzE,zzF];refine wpAnyH_makers (fuel:=3) (ms:=[(1,30),(4,33),(6,35),(9,38),(12,41),(15,44),(16,45)]) (φ:=MkA n l hs ws) (by kernel_rfl) (by kernel_rfl) (by decide) (by decide) hHeld ?_ ?_ ?_
   ·exact fun p _ v a b w1 w2 h hb=>h.keep hb
   ·intro p hp o ho f w1 hS hB K hK
    have B01:=HB3.out.drew.trans (hB.mono HB3.out.size);have hz0':w.heap.size<w1.heap.size:=by have h1:=hB.size;have h2:=lt_of_block HX2.out;simp at h1;omega
    have hs2:∀w2,Below w1.heap.size w1 w2->w2.cell? ⟨w.heap.size,0,none⟩=some (.int .i64 n)/\w2.cell? ⟨w.heap.size,1,none⟩=some (.slice A l.length c):=fun w2 hb=>⟨(hb.cell (p:=⟨w.heap.size,0,none⟩) hz0').trans hS.1,(hb.cell (p:=⟨w.heap.size,1,none⟩) hz0').trans hS.2⟩;have hmk:=HMK.out;have hmb:=HMB.out;have HS2:=hid hs2;have HB01:=hid B01;clear hS hB hs2 B01 hHeld;simp only[List.mem_cons,List.not_mem_nil,or_false] at hp;rcases hp with rfl|rfl|rfl|rfl|rfl|rfl|rfl
    all_goals
     simp only[zzG,zzI,zzH,Option.some.injEq] at ho;subst ho;simp only[putsF,mdst,List.map_cons,List.map_nil,List.foldl_cons,List.foldl_nil,Act.put,List.setIfInBounds_toArray,List.set_cons_zero,List.set_cons_succ] at hK ⊢;have HKX:=hid hK;clear hK
    ·go_simp
     refine(KCOPY.out _ HB01.out).mono ?_;rintro e w2 ⟨A2,c2,rfl,own2,hb2⟩;exact HKX.out _ _ (by unfold MkA;rw[if_pos rfl];exact⟨A2,c2,rfl,own2,fun g e=>(own2.base_ g ((ob_ ..).trans e)).2⟩) (HS2.out _ hb2) hb2
    ·refine wp_pushAll _ (.const (.slice none 0 0)) (.tmp 32) _ rfl w1.heap.size 3 i0 (.int .i64 0) 1 8 ci Tryz.underlying25 hi hz0 hz1 hz2 rfl (by decide) _ [] 0 rfl rfl Own.nil_ w.heap.size Ah n ch hs HHL.out rfl HAH.out (HH.out.keep HB01.out zzL) one_ci (by have:=HN64.out;omega) (by have:=HN64.out;omega) zzL ?_
     intro A2 c2 w2 own2 hgrow hat;simp only[Nat.zero_add,List.nil_append] at own2;have hb2:Below w1.heap.size w1 w2:=(Below.refl _ _).grown hgrow zzL (fun k hk=>by cases hk);simp only[Nat.zero_add];exact HKX.out _ _ (by unfold MkA;rw[if_neg (by decide),if_pos rfl];exact⟨A2,c2,rfl,own2,fun g e=>(own2.base_ g ((ob_ ..).trans e)).2⟩) (HS2.out _ hb2) hb2
    ·refine wp_pushAll _ (.const (.slice none 0 0)) (.tmp 34) _ rfl w1.heap.size 43 i1 _ 2 16 cp Tryz.underlying49 hi1 hy0 hy1 hy2 rfl (by decide) _ [] 0 rfl rfl Own.nil_ w.heap.size Aw ws.length cw ws rfl rfl HAW.out (HW.out.keep HB01.out zzL) one_cp (by have:=HW8.out;omega) (by have:=HW8.out;omega) zzL ?_
     intro A2 c2 w2 own2 hgrow hat;simp only[Nat.zero_add,List.nil_append] at own2;have hb2:Below w1.heap.size w1 w2:=(Below.refl _ _).grown hgrow zzL (fun k hk=>by cases hk);simp only[Nat.zero_add];exact HKX.out _ _ (by unfold MkA;rw[if_neg (by decide),if_neg (by decide),if_pos rfl];exact⟨A2,c2,rfl,own2,fun g e=>(own2.base_ g ((ob_ ..).trans e)).2⟩) (HS2.out _ hb2) hb2
    ·go_simp
     exact HKX.out _ _ (by unfold MkA;rw[if_neg (by decide),if_neg (by decide),if_neg (by decide),if_neg (by decide),if_neg (by decide)];exact⟨w1.heap.size,rfl,by simp,own_madeI n w1.heap.size w1 zzL (by have:=HN64.out;omega) rfl⟩) (HS2.out _ ((Below.refl _ _).alloc zzL _)) ((Below.refl _ _).alloc zzL _)
    ·go_simp
     exact HKX.out _ _ (by unfold MkA;rw[if_neg (by decide),if_neg (by decide),if_neg (by decide),if_neg (by decide),if_neg (by decide)];exact⟨w1.heap.size,rfl,by simp,own_madeI n w1.heap.size w1 zzL (by have:=HN64.out;omega) rfl⟩) (HS2.out _ ((Below.refl _ _).alloc zzL _)) ((Below.refl _ _).alloc zzL _)
    ·go_simp
     exact HKX.out _ _ (by unfold MkA;rw[if_neg (by decide),if_neg (by decide),if_neg (by decide),if_pos rfl];exact⟨w1.heap.size,rfl,by simp,own_madeB n w1.heap.size w1 zzL (by have:=HN64.out;omega) rfl⟩) (HS2.out _ ((Below.refl _ _).alloc zzL _)) ((Below.refl _ _).alloc zzL _)
    ·go_simp
     refine(KNEW.out _).mono ?_;rintro e w2 ⟨H,rfl,hh2,hb2⟩;exact HKX.out _ _ (by unfold MkA;rw[if_neg (by decide),if_neg (by decide),if_neg (by decide),if_neg (by decide),if_pos rfl];exact⟨H,rfl,hh2.lt,hh2⟩) (HS2.out _ hb2) hb2
   ·intro f lo hi w1 hS hB hφ hdj
    have B01:=HB3.out.drew.trans (hB.mono HB3.out.size);have hz0':w.heap.size<w1.heap.size:=by have h1:=hB.size;have h2:=lt_of_block HX2.out;simp at h1;omega
    have hs2:∀w2,Below w1.heap.size w1 w2->w2.cell? ⟨w.heap.size,0,none⟩=some (.int .i64 n)/\w2.cell? ⟨w.heap.size,1,none⟩=some (.slice A l.length c):=fun w2 hb=>⟨(hb.cell (p:=⟨w.heap.size,0,none⟩) hz0').trans hS.1,(hb.cell (p:=⟨w.heap.size,1,none⟩) hz0').trans hS.2⟩;have HS2:=hid hs2;obtain⟨m1,l1,k1⟩:=hφ (1,30) (by simp);obtain⟨m4,l4,k4⟩:=hφ (4,33) (by simp);obtain⟨m6,l6,k6⟩:=hφ (6,35) (by simp);obtain⟨m9,l9,k9⟩:=hφ (9,38) (by simp);obtain⟨m12,l12,k12⟩:=hφ (12,41) (by simp);obtain⟨m15,l15,k15⟩:=hφ (15,44) (by simp);obtain⟨m16,l16,k16⟩:=hφ (16,45) (by simp);have d912:=hdj (9,38) (by simp) (12,41) (by simp) (by decide);have d49:=hdj (4,33) (by simp) (9,38) (by simp) (by decide);have d412:=hdj (4,33) (by simp) (12,41) (by simp) (by decide);simp only at m1 l1 k1 m4 l4 k4 m6 l6 k6 m9 l9 k9 m12 l12 k12 m15 l15 k15 m16 l16 k16 d912 d49 d412;unfold MkA at m1 m4 m6 m9 m12 m15 m16;rw[if_pos rfl] at m1;rw[if_neg (by decide),if_pos rfl] at m4;rw[if_neg (by decide),if_neg (by decide),if_pos rfl] at m6;rw[if_neg (by decide),if_neg (by decide),if_neg (by decide),if_neg (by decide),if_neg (by decide)] at m9 m12;rw[if_neg (by decide),if_neg (by decide),if_neg (by decide),if_pos rfl] at m15;rw[if_neg (by decide),if_neg (by decide),if_neg (by decide),if_neg (by decide),if_pos rfl] at m16;obtain⟨AE,cE,e30,oE,hE⟩:=m1;obtain⟨AH,cH,e33,oH,hH4⟩:=m4;obtain⟨AW,cW,e35,oW,hW6⟩:=m6;obtain⟨SC,e38,hSC,oC⟩:=m9;obtain⟨SP,e41,hSP,oP⟩:=m12;obtain⟨SD,e44,hSD,oD⟩:=m15;obtain⟨H,e45,hH,hh⟩:=m16;clear hφ;simp only[putsF,mdst,List.map_cons,List.map_nil,List.foldl_cons,List.foldl_nil,Act.put,List.setIfInBounds_toArray,List.set_cons_zero,List.set_cons_succ,e30,e33,e35,e38,e41,e44,e45];clear e30 e33 e35 e38 e41 e44 e45;have bz:=HB3.out.size;have hsz2:w.heap.size<=w2.drew.heap.size:=bz;have hne:SC≠SP:=fun e=>by have h1:=(oC.base_ SC rfl).1;have h2:=(oP.base_ SP rfl).1;omega
    have hneH:ob AH≠some SC/\ob AH≠some SP:=⟨fun e=>by have h1:=(oC.base_ SC rfl).1;have h2:=hH4 SC e;have h3:=(oH.base_ SC ((ob_ ..).trans e)).1;omega,fun e=>by have h1:=(oP.base_ SP rfl).1;have h2:=hH4 SP e;have h3:=(oH.base_ SP ((ob_ ..).trans e)).1;omega⟩
    have hmd:Md w.heap.size (w1.alloc (.cells #[.int .i64 n,.slice AE l.length cE,.slice none 0 0,.int .i64 t,.slice AH n cH,.slice AW ws.length cW,.slice (some ⟨SC,0,none⟩) n n,.slice (some ⟨SP,0,none⟩) n n,.slice (some ⟨SD,0,none⟩) n n,.slice none 0 0,.pointer (some ⟨H,0,none⟩),.int .i64 0,.slice none 0 0] 98)) w1.heap.size n t l hs ws AE cE AH cH AW cW SC SP SD H :=
     ⟨heap_alloc_new _ _,Nat.le_of_lt hz0',(oE.mono (Nat.le_trans hsz2 l1)).alloc _,(oH.mono (Nat.le_trans hsz2 l4)).alloc _,(oW.mono (Nat.le_trans hsz2 l6)).alloc _,(oC.mono (Nat.le_trans hsz2 l9)).alloc _,(oP.mono (Nat.le_trans hsz2 l12)).alloc _,(oD.mono (Nat.le_trans hsz2 l15)).alloc _,(heapA_mono hh (Nat.le_trans hsz2 l16)).alloc _,hne,hneH⟩
    have HMD:=hid hmd;have HBE:=hid (B01.alloc B01.size (.cells #[.int .i64 n,.slice AE l.length cE,.slice none 0 0,.int .i64 t,.slice AH n cH,.slice AW ws.length cW,.slice (some ⟨SC,0,none⟩) n n,.slice (some ⟨SP,0,none⟩) n n,.slice (some ⟨SD,0,none⟩) n n,.slice none 0 0,.pointer (some ⟨H,0,none⟩),.int .i64 0,.slice none 0 0] 98));clear hdj hmd hne hneH oE oH oW oC oP oD hh hE hH4 hW6 d912 d49 d412 hB B01 hs2;refine zzT 2 17 ?_ rfl (by kernel_rfl) (fun _ _ _ h=>h) (.inl ⟨by rfl,?_⟩) ‹_› ?_;rotate_left;(intro w hSw;(try dsimp only at hSw);go_simp;try with_reducible rfl);try simp only[Act.put,zzA,zzB,zzC,zzD,zzE,zzF];refine Go.wpAnyH_ready (fuel:=1) (rs:=[18]) (by kernel_rfl) (by simp) ?_;refine Go.AllReadyH.cons (o:=_) rfl (fun K hK=> ?_) Go.AllReadyH.nil;have HKX:=hid hK;clear hK;go_simp;refine HKX.out.out _ _ (HS2.out _ ((Below.refl _ _).alloc zzL _)) (fun hHeld2=> ?_)
    try simp only[Act.put,zzA,zzB,zzC,zzD,zzE,zzF]
    refine zzT 0 19 ?_ rfl (by kernel_rfl) (fun _ _ _ h=>h) (.inl ⟨by rfl,?_⟩) (by exact hHeld2) ?_;rotate_left;(intro w hSw;(try dsimp only at hSw);go_simp;try with_reducible rfl);try simp only[Act.put,zzA,zzB,zzC,zzD,zzE,zzF];refine Go.wpAnyH_done (by kernel_rfl) ?_ _
    go_wp2_with fail
    go_meet
    exact⟨w1.heap.size,AE,cE,AH,cH,AW,cW,SC,SP,SD,H,rfl,HMD,HBE⟩
 case rest =>
  obtain⟨Z,AE,cE,AH,cH,AW,cW,SC,SP,SD,H,rfl,HMD,HBE⟩:=hcut;clear HB3 HX2 KCOPY KNEW HMK HMB HH HW HAH HAW;have z0:=blk_cell HMD.out.z 0;have z1:=blk_cell HMD.out.z 1;have z2:=blk_cell HMD.out.z 2;have zf:=blk_free HMD.out.z 2;simp only[zzG,zzH,zzI] at z0 z1 z2;have zp:=lt_of_block HMD.out.z;have kou:=KOUTS.out wc AE cE HMD.out.net.sl.2;have KOU:=hid kou;clear kou KOUTS
  go_wp2_with fail
  refine KOU.out.mono ?_;rintro e w3 ⟨TO,FO,rfl,htab,hb3⟩;obtain⟨F,rfl,rfl,rfl,rfl,rfl,am3,hSC,hSP⟩:=HMD.out.search HHL.out hb3 htab;have hz3:=blk_below HMD.out.z hb3 zp;have y2:=blk_cell hz3 2;have yf:=blk_free hz3 2;have yp:=lt_of_block hz3;simp only[zzG,zzH,zzI] at y2;have hbb:=(HBE.out.trans (hb3.mono HBE.out.size)).setCell (p:=⟨Z,2,none⟩) HMD.out.zl (.slice (some ⟨TO,0,none⟩) F.n F.n);obtain⟨hO,hP⟩:=HFACTS.out F rfl rfl rfl rfl rfl;have HOO:=hid hO;have HPP:=hid hP;have AM3:=hid am3;have HB4:=hid hbb;have hzl:=HMD.out.zl;clear hO hP am3 hbb hz3 hb3 htab HMD HBE KOU HFACTS z0 z1 z2 zf zp;go_upto_region 9 with fail;generalize w3.setCell ⟨Z,2,none⟩ (.slice (some ⟨TO,0,none⟩) F.n F.n)=w4 at AM3 HB4 ⊢;clear y2 yf yp;obtain⟨_,⟨z6,_,_,_,_,_,_⟩,zp⟩:=AM3.out.zs;go_wp2
  go_loopw [61] (fun i wr=>∃k:Nat,i= .int .i64 k/\k<=F.n/\Hid (AM w.heap.size wr Z F Y0 (sFill F.n k))/\Hid (Below w.heap.size w wr)) (fun i _=>F.n - (intOf i).toNat)
  case atStart=>exact⟨0,rfl,Nat.zero_le _,AM3,HB4⟩
  case round =>
   obtain⟨k,rfl,hk,HM,HB⟩:=hrel;clear AM3 HB4 z6 zp
   by_cases hlt:k<F.n
   ·obtain⟨_,⟨z6,z7,_,_,_,_,_⟩,zp⟩:=HM.out.zs
    obtain⟨c0,c1⟩:=HM.out.cellC hlt;obtain⟨p0,p1⟩:=HM.out.cellP hlt;have hcp:=HM.out.neCP;have hpc:F.SP≠F.SC:=fun e=>hcp e.symm;have zk:(k:Int)<(F.n:Int):=by omega
    have zk64:k<64:=by have:=HN64.out;omega
    have A1:=hid (am_fill hlt (((HM.out.setC k far).setP k (-1)).keep (below_drewN (Below.refl _ _) 1)));have A2:=hid (am_fill hlt (((HM.out.setP k (-1)).setC k far).keep (below_drewN (Below.refl _ _) 1)));have B1:=hid (((HB.out.setCell (p:=⟨F.SC,k,none⟩) hSC (.int .i64 far)).setCell (p:=⟨F.SP,k,none⟩) hSP (.int .i64 (-1))).drew);have B2:=hid (((HB.out.setCell (p:=⟨F.SP,k,none⟩) hSP (.int .i64 (-1))).setCell (p:=⟨F.SC,k,none⟩) hSC (.int .i64 far)).drew);generalize dg (sFill F.n k).C k=cc at c0;generalize dg (sFill F.n k).P k=pp at p0
    go_wp2_with fail
    go_region
    all_goals
     go_wp2
     go_roundw
     case' rel=>first|exact⟨k+1,by go_num,hlt,A1,B1⟩|exact⟨k+1,by go_num,hlt,A2,B2⟩
     case' measure=>simp[intOf];omega
   ·obtain rfl:k=F.n:=by omega
    have sm:=am_full HM.out;have kre:=reach_any HOO.out sm (show (s0A F.n).rds.length<F.ws.length from HW1.out) (by omega) HFN.out (c:=0) (u:= -1) (Int.le_refl _) (by decide);have KRE:=hid kre;have SM0:=hid sm;have zk:¬((F.n:Int)<(F.n:Int)):=by omega
    clear kre sm
    go_wp2_with fail
    refine KRE.out.mono ?_;rintro e w5 ⟨⟨r5,rfl⟩,Y5,sm5,fr5⟩;have kse:=settle_any HOO.out HPP.out sm5 (si_init HPP.out.cons HPP.out.fr) (by omega);have HB5:=hid (HB.out.trans (SM0.out.am.lo fr5));have SM5:=hid sm5;have KSE:=hid kse;clear kse sm5 fr5 KRE
    go_wp2_with fail
    refine KSE.out.mono ?_;rintro e w6 ⟨⟨r6,rfl⟩,s6,Y6,K6,hst6,sm6,fr6,hK6,htop6⟩;have hsr:SR w.heap.size w6 Z F Y6 f 0 s6:=⟨Rn.start hst6,sm6.more (by omega),htop6⟩;have hfin:NewYes F.n f F.tt F.l F.h F.ws w (.returned (.tuple #[.pointer (some ⟨Z,0,none⟩),.int .i64 0])) w6:=⟨Z,F,Y6,s6,rfl,rfl,rfl,rfl,rfl,rfl,HOO.out,HPP.out,hsr,HB5.out.trans (SM5.out.am.lo fr6)⟩;have HFIN:=hid hfin;clear hsr hfin hst6 sm6 fr6 htop6 KSE;go_wp2;go_ret2;exact HFIN.out
end Ara
namespace Ara
open Go.RowKit NetLaw BellLaw StarLaw AraLaw Net Go.Proofs.YtjebckehmmbkbaaGreat.Std Flow
open HeapP (HeapAt d0 ltP ltP_ord)
structure RC (w:World) (b:Nat) (A:Option Addr) (k c:Nat) (R:List RE) (rs:List Rnd):Prop where
 own:Own w b 51 5 Ara.cr (.slice A k c) R
 ways:∀x∈R,Own w b 3 1 ci (.slice x.A x.k x.c) x.path
 rnd:R.map RE.rnd=rs
theorem RC.len {w:World} {b:Nat} {A:Option Addr} {k c:Nat} {R:List RE} {rs:List Rnd} (h:RC w b A k c R rs):R.length=k/\rs.length=k:=by
 have h1:=h.own.sl.1;exact⟨h1.symm,by rw[<-h.rnd,List.length_map];exact h1.symm⟩
section
variable {b:Nat} {w w':World} {P:Nat} {F:Fix} {Y:Var} {s:AS}
end
end Ara
namespace Ara
open Go.RowKit NetLaw BellLaw StarLaw AraLaw Net Go.Proofs.YtjebckehmmbkbaaGreat.Std Flow
open StarF (slook slook_any slook_zero)
def spn (w:World) (P:Nat):Nat:=match w.cell? ⟨P,11,none⟩ with|some (.int _ z)=>z.toNat|_=>0
theorem spn_eq {b:Nat} {w:World} {P:Nat} {F:Fix} {Y:Var} {s:AS} {fr k:Nat} (h:SR b w P F Y fr k s):spn w P=k:=by
 unfold spn;rw[h.sm.am.zs.2.1.2.2.2.2.2.1,h.run.sp];exact Int.toNat_natCast k
def RunYes (n f t:Nat) (l:List E) (hs:List Int) (ws:List (Int × Int)) (w:World) (e:Ending) (w':World):Prop :=
 ∃A k c R s kk,e= .returned (.tuple #[.slice A k c,.int .i64 0])/\RC w' w.heap.size A k c R s.rds/\Rn n t l hs ws f kk s/\s.rds.length=ws.length/\Below w.heap.size w w'
theorem AM.rc {b:Nat} {w:World} {P:Nat} {F:Fix} {Y:Var} {s:AS} (h:AM b w P F Y s):RC w b Y.AR Y.kr Y.cr Y.RS s.rds:=⟨h.rows,h.ways,h.rds⟩
theorem run_yes (n f t:Nat) (A:Option Addr) (c:Nat) (l:List E) (Ah:Option Addr) (ch:Nat) (hs:List Int) (Aw:Option Addr) (cw:Nat) (ws:List (Int × Int)) (w:World) (hl:Sl w w.heap.size 3 ce A l) (hA:A=none->l.length=0/\c=0) (hh:Sl w w.heap.size 1 ci Ah hs) (hAh:Ah=none->hs.length=0/\ch=0) (hw:Sl w w.heap.size 2 cp Aw ws) (hAw:Aw=none->ws.length=0/\cw=0) (hx:slook n f t l hs=0) (hy:wcode ws=0) :
 Calls Tryz.prog 15 #[.agg #[.int .i64 n,.slice A l.length c],.int .i64 f,.int .i64 t,.slice Ah hs.length ch,.slice Aw ws.length cw] w fun e w'=>RunYes n f t l hs ws w e w':=by
 have hw0:Below w.heap.size w (w.alloc (.cells #[.int .i64 n,.slice A l.length c] 24)):=(Below.refl _ _).alloc zzL _;have hbox:=heap_alloc_new w (.cells #[.int .i64 n,.slice A l.length c] 24);have knew:=fun W (hb:Below w.heap.size w W)=>new_yes n f t A c l Ah ch hs Aw cw ws W ((hl.keep hb zzL).more hb.size) hA ((hh.keep hb zzL).more hb.size) hAh ((hw.keep hb zzL).more hb.size) hAw hx hy;have hq:=blk_cell hbox 0;have hq1:=blk_cell hbox 1;have zx:=lt_of_block hbox;simp only[zzG,zzH,zzI] at hq hq1;have KNEW:=hid knew;have HW0:=hid hw0;clear knew hl hA hh hAh hw hAw hx hy hbox hw0;obtain⟨mh,hmh⟩:∃mh,hs.length=mh:=⟨_,rfl⟩;rw[hmh] at KNEW ⊢;clear hmh;go_enter Tryz.func15,Tryz.ntmps15
 go_wp2_with fail
 refine(KNEW.out _ HW0.out).mono ?_;rintro e w1 ⟨Z,F,Y,s,rfl,rfl,rfl,rfl,rfl,rfl,hO,hP,sr,hb1⟩;have HB1:=hid (HW0.out.trans (hb1.mono HW0.out.size));have SR1:=hid sr;have HOO:=hid hO;have HPP:=hid hP;have hsz1:=HW0.out.size;have HSZ:=hid hsz1;clear hb1 sr hO hP KNEW HW0 hq hq1 zx hsz1;go_wp2
 go_loopw [27] (fun _ wr=>∃(b k:Nat) (Y1:Var) (s1:AS),w.heap.size<=b/\Hid (SR b wr Z F Y1 f k s1)/\Hid (Below w.heap.size w wr)) (fun _ wr=>2000 - spn wr Z)
 case atStart=>exact⟨_,0,Y,s,HSZ.out,SR1,HB1⟩
 case round =>
  obtain⟨b,k,Y1,s1,hbb,HM,HB⟩:=hrel;clear SR1 HB1;have kov:=isover_any HM.out.sm.am;have KOV:=hid kov;have HSPN:=hid (spn_eq HM.out);clear kov
  go_wp2_with fail
  refine KOV.out.mono ?_;rintro e w2 ⟨rfl,kk,rfl⟩;have HM2:=hid (HM.out.keep (below_drewN (Below.refl _ _) kk));have HB2:=hid (below_drewN HB.out kk);clear HM HB KOV;generalize wr.drewN kk=w2 at HM2 HB2 ⊢
  by_cases hov:s1.rds.length=F.ws.length
  ·have hd:decide (s1.rds.length=F.ws.length)=true:=decide_eq_true hov
   obtain⟨_,⟨_,_,_,_,_,_,z12⟩,zp⟩:=HM2.out.sm.am.zs;have hrc:=HM2.out.sm.am.rc;have hfin:RunYes F.n f F.tt F.l F.h F.ws w (.returned (.tuple #[.slice Y1.AR Y1.kr Y1.cr,.int .i64 0])) w2:=⟨Y1.AR,Y1.kr,Y1.cr,Y1.RS,s1,k,rfl,⟨hrc.own.mono hbb,fun x hx=>(hrc.ways x hx).mono hbb,hrc.rnd⟩,HM2.out.run,hov,HB2.out⟩;have HFIN:=hid hfin;rw[hd];clear hfin hov hd hrc;go_wp2;go_ret2;exact HFIN.out
  ·have hd:decide (s1.rds.length=F.ws.length)=false:=decide_eq_false hov
   have hl:s1.rds.length<F.ws.length:=by have:=(SI.paths (HM2.out.si HOO.out HPP.out)).2;omega
   have hk:=HM2.out.short HOO.out HPP.out hl;have kst:=step_any HOO.out HPP.out HM2.out 64 (by decide);have KST:=hid kst;have HL:=hid hl;rw[hd];clear hov hd hl kst
   go_wp2_with fail
   refine KST.out.mono ?_;rintro e w3 ⟨j,s3,Y3,rfl,sr3,fr3,hj,hjo⟩
   have hj1:1<=j:=by
    rcases Nat.eq_zero_or_pos j with h0|h0
    ·subst h0
     have h1:=hjo (by decide);have h2:=sr3.run.det HM2.out.run;rw[h2] at h1;have:=HL.out;omega
    ·exact h0
   have hsp:=spn_eq sr3;have HSP:=hid hsp;have SR3:=hid sr3;have HB3:=hid (HB2.out.trans ((HM2.out.sm.am.lo fr3).mono hbb));clear sr3 fr3 hjo hsp KST hj;go_wp2
   go_roundw
   case rel=>exact⟨b,k+j,Y3,s3,hbb,SR3,HB3⟩
   case measure=>rw[HSP.out,HSPN.out];omega
end Ara
end Go.Proofs.YtjebckehmmbkbaaGreat
