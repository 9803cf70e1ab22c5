/- The walks of (*focal.search).least, better and pick. The memory of focal.Run: who lies where, and what each write leaves as it was. -/
import Derived.Test.YtjebckehmmbkbaaGreatVTopYen
set_option linter.unusedSimpArgs false
set_option linter.unusedVariables false
set_option maxRecDepth 100000
set_option maxHeartbeats 24000000
namespace Go.Proofs.YtjebckehmmbkbaaGreat
namespace Focal
open Go.RowKit NetLaw BellLaw DijkLaw HeurLaw StarLaw FocalLaw Net Go.Proofs.YtjebckehmmbkbaaGreat.Std Heur
structure Rf (W:World) (n Z SC SP SB:Nat) (Ah:Option Addr) (ch:Nat) (At:Option Addr) (ct:Nat) (hs ta C:List Int) (B:List Bool) (p q:Int):Prop where
 b0:W.cell? ⟨Z,0,none⟩=some (.slice Ah n ch)
 b1:W.cell? ⟨Z,1,none⟩=some (.slice At n ct)
 b2:W.cell? ⟨Z,2,none⟩=some (.slice (some ⟨SC,0,none⟩) n n)
 b3:W.cell? ⟨Z,3,none⟩=some (.slice (some ⟨SP,0,none⟩) n n)
 b4:W.cell? ⟨Z,4,none⟩=some (.slice (some ⟨SB,0,none⟩) n n)
 b5:W.cell? ⟨Z,5,none⟩=some (.int .i64 p)
 b6:W.cell? ⟨Z,6,none⟩=some (.int .i64 q)
 cc:∀v:Nat,v<n->W.cell? ⟨SC,v,none⟩=some (.int .i64 (dg C v))
 cb:∀v:Nat,v<n->W.cell? ⟨SB,v,none⟩=some (.bool (B.getD v false))
 hh:∀v:Nat,v<n->∃b o,Ah=some ⟨b,o,none⟩/\W.cell? ⟨b,o+v,none⟩=some (.int .i64 (dg hs v))
 tt:∀v:Nat,v<n->∃b o,At=some ⟨b,o,none⟩/\W.cell? ⟨b,o+v,none⟩=some (.int .i64 (dg ta v))
 rng:∀v:Nat,v<n->(0<=dg C v/\dg C v<=far)/\0<=dg hs v/\dg hs v<=far
 n64:n<=64
theorem drew2 (W:World) (a b:Nat):∃k,(W.drewN a).drewN b=W.drewN k:=⟨a+b,by simp[World.drewN_drewN]⟩
section
variable {W:World} {n Z SC SP SB ch ct:Nat} {Ah At:Option Addr} {hs ta C:List Int} {B:List Bool} {p q:Int}
theorem Rf.drewN (h:Rf W n Z SC SP SB Ah ch At ct hs ta C B p q) (k:Nat):Rf (W.drewN k) n Z SC SP SB Ah ch At ct hs ta C B p q:=⟨h.b0,h.b1,h.b2,h.b3,h.b4,h.b5,h.b6,h.cc,h.cb,h.hh,h.tt,h.rng,h.n64⟩
theorem least_any (h:Rf W n Z SC SP SB Ah ch At ct hs ta C B p q) :
 Calls Tryz.prog 74 #[.pointer (some ⟨Z,0,none⟩)] W fun e w'=>e= .returned (.tuple #[.int .i64 (lst hs C B n).1,.bool (lst hs C B n).2])/\∃k,w'=W.drewN k:=by
 have b2:=h.b2;have b0:=h.b0;have b4:=h.b4;have hn:=h.n64;have HR:=hid h;clear h;go_enter Tryz.func74,Tryz.ntmps74;go_wp2
 go_loopw [4,5,14] (fun s4 s5 i wr=>∃(k d:Nat),k<=n/\i= .int .i64 k/\s4= .int .i64 (lst hs C B k).1/\s5= .bool (lst hs C B k).2/\Hid (wr=W.drewN d)) (fun _ _ i _=>n - (intOf i).toNat)
 case atStart=>exact⟨0,0,Nat.zero_le _,rfl,rfl,rfl,hid rfl⟩
 case round =>
  obtain⟨k,d,hk,rfl,rfl,rfl,HW⟩:=hrel;have hr:=HR.out.drewN d;rw[<-HW.out] at hr;have c0:=hr.b0;have c2:=hr.b2;have c4:=hr.b4;clear b0 b2 b4
  by_cases hlt:k<n
  ·have e1:=hr.cb k hlt
   have e2:=hr.cc k hlt;obtain⟨bh,oh,rfl,e3⟩:=hr.hh k hlt;obtain⟨⟨r1,r2⟩,r3,r4⟩:=hr.rng k hlt;have hkn:(k:Int)<(n:Int):=by omega
   unfold far at r2 r4;have hL:lst hs C B (k+1)=if B.getD k false=true/\((lst hs C B k).2=false\/sm hs C k<(lst hs C B k).1) then (sm hs C k,true) else lst hs C B k:=rfl
   unfold sm at hL;have HL:=hid hL;clear hL hr;obtain⟨bk,hbk⟩:∃bk,B.getD k false=bk:=⟨_,rfl⟩;obtain⟨x,hx⟩:∃x,dg C (k:Int)=x:=⟨_,rfl⟩;obtain⟨y,hy⟩:∃y,dg hs (k:Int)=y:=⟨_,rfl⟩;obtain⟨f,hf⟩:∃f,(lst hs C B k).1=f:=⟨_,rfl⟩;obtain⟨o,ho⟩:∃o,(lst hs C B k).2=o:=⟨_,rfl⟩;rw[hbk] at e1;rw[hx] at e2 r1 r2;rw[hy] at e3 r3 r4;rw[hf,ho];have HX:=hid (show lst hs C B (k+1)=if bk=true/\(o=false\/x+y<f) then (x+y,true) else lst hs C B k by rw[HL.out,hbk,ho,hf,hx,hy]);have HF:=hid hf;have HO:=hid ho;clear hbk hx hy hf ho HL;have hwr:IntKind.i64.wrap (x+y)=x+y:=IntWalk.i64_in _ (by omega);cases bk with
   |false =>
    have hnx:lst hs C B (k+1)=lst hs C B k:=by rw[HX.out];simp
    have HN:=hid hnx;clear hnx;go_wp2;go_quiet (fail);go_wp2
    go_roundw
    case rel=>exact⟨k+1,d+nq,by omega,by go_num,by rw[HN.out,HF.out],by rw[HN.out,HO.out],hid (by rw[HW.out];simp[World.drewN_drewN])⟩
    case measure=>simp[intOf];omega
   |true =>
    cases o with
    |false =>
     have hnx:lst hs C B (k+1)=(x+y,true):=by rw[HX.out];simp
     have HN:=hid hnx;clear hnx;go_wp2;go_quiet (fail);go_wp2
     go_roundw
     case rel=>exact⟨k+1,d+nq,by omega,by go_num,by rw[HN.out],by rw[HN.out],hid (by rw[HW.out];simp[World.drewN_drewN])⟩
     case measure=>simp[intOf];omega
    |true =>
     by_cases hlt2:x+y<f
     ·have hnx:lst hs C B (k+1)=(x+y,true):=by rw[HX.out];simp[hlt2]
      have HN:=hid hnx;have hd:decide (x+y<f)=true:=decide_eq_true hlt2;clear hnx;go_wp2;go_quiet (fail);go_wp2
      go_roundw
      case rel=>exact⟨k+1,d+nq,by omega,by go_num,by rw[HN.out],by rw[HN.out],hid (by rw[HW.out];simp[World.drewN_drewN])⟩
      case measure=>simp[intOf];omega
     ·have hnx:lst hs C B (k+1)=lst hs C B k:=by rw[HX.out];simp[hlt2]
      have HN:=hid hnx;have hd:decide (x+y<f)=false:=decide_eq_false hlt2;clear hnx;go_wp2;go_quiet (fail);go_wp2
      go_roundw
      case rel=>exact⟨k+1,d+nq,by omega,by go_num,by rw[HN.out,HF.out],by rw[HN.out,HO.out],hid (by rw[HW.out];simp[World.drewN_drewN])⟩
      case measure=>simp[intOf];omega
  ·obtain rfl:k=n:=by omega
   clear hr;go_wp2;go_ret2;exact⟨rfl,d,HW.out⟩
theorem better_any (h:Rf W n Z SC SP SB Ah ch At ct hs ta C B p q) {a b:Nat} (ha:a<n) (hb:b<n) :
 Calls Tryz.prog 75 #[.pointer (some ⟨Z,0,none⟩),.int .i64 a,.int .i64 b] W fun e w'=>e= .returned (.bool (btr hs ta C a b))/\∃k,w'=W.drewN k:=by
 have b1:=h.b1;have b2:=h.b2;have b0:=h.b0;have hn:=h.n64;have a1:=h.cc a ha;have a2:=h.cc b hb;obtain⟨bh,oh,rfl,a3⟩:=h.hh a ha;obtain⟨bh',oh',e1,a4⟩:=h.hh b hb;injection e1 with e1;injection e1 with e1 e2;subst e1 e2;obtain⟨bt,ot,rfl,a5⟩:=h.tt a ha;obtain⟨bt',ot',e1,a6⟩:=h.tt b hb;injection e1 with e1;injection e1 with e1 e2;subst e1 e2;obtain⟨⟨r1,r2⟩,r3,r4⟩:=h.rng a ha;obtain⟨⟨r5,r6⟩,r7,r8⟩:=h.rng b hb;have hB:btr hs ta C a b=if dg ta a≠dg ta b then decide (dg ta a<dg ta b) else decide (dg C a+dg hs a<dg C b+dg hs b\/dg C a+dg hs a=dg C b+dg hs b/\(a:Int)<b):=rfl
 clear h;obtain⟨r,hr⟩:∃r,btr hs ta C a b=r:=⟨_,rfl⟩;obtain⟨x,hx⟩:∃x,dg C (a:Int)=x:=⟨_,rfl⟩;obtain⟨y,hy⟩:∃y,dg C (b:Int)=y:=⟨_,rfl⟩;obtain⟨x',hx'⟩:∃x,dg hs (a:Int)=x:=⟨_,rfl⟩;obtain⟨y',hy'⟩:∃y,dg hs (b:Int)=y:=⟨_,rfl⟩;obtain⟨u,hu⟩:∃u,dg ta (a:Int)=u:=⟨_,rfl⟩;obtain⟨v,hv⟩:∃v,dg ta (b:Int)=v:=⟨_,rfl⟩;rw[hx] at a1 r1 r2;rw[hy] at a2 r5 r6;rw[hx'] at a3 r3 r4;rw[hy'] at a4 r7 r8;rw[hu] at a5;rw[hv] at a6;rw[hr,hx,hy,hx',hy',hu,hv] at hB;rw[hr];clear hr hx hy hx' hy' hu hv;unfold far at r2 r4 r6 r8;have z1:(a:Int)<(n:Int):=by omega
 have z2:(b:Int)<(n:Int):=by omega
 have w1:IntKind.i64.wrap (x+x')=x+x':=IntWalk.i64_in _ (by omega);have w2:IntKind.i64.wrap (y+y')=y+y':=IntWalk.i64_in _ (by omega)
 by_cases huv:u=v
 ·subst huv
  rw[if_neg (by simp)] at hB;obtain⟨xx,hxx⟩:∃xx,x+x'=xx:=⟨_,rfl⟩;obtain⟨yy,hyy⟩:∃yy,y+y'=yy:=⟨_,rfl⟩;rw[hxx,hyy] at hB;have hne:(u != u)=false:=by simp
  rcases Int.lt_trichotomy xx yy with hlt|heq|hgt
  ·rw[decide_eq_true (.inl hlt)] at hB
   have d1:decide (xx<yy)=true:=decide_eq_true hlt;have HB:=hid hB;clear hB;rw[<-hxx, <-hyy] at d1;clear hxx hyy hlt;go_enter Tryz.func75,Tryz.ntmps75;go_wp2;go_quiet (fail);go_wp2;go_quiet (fail);go_wp2;go_ret;exact⟨by first|(rw[HB.out];rfl)|(rw[HB.out,d3];rfl)|(rw[HB.out];simp at d3;simp[d3])|(rw[HB.out];simp[Act.tmps];omega),by first|exact⟨_,rfl⟩|exact drew2 _ _ _⟩
  ·by_cases hab:a<b
   ·rw[decide_eq_true (.inr ⟨heq,by omega⟩)] at hB
    have d1:decide (xx<yy)=false:=decide_eq_false (by omega);have d2:(xx == yy)=true:=by simp[heq]
    have d3:decide ((a:Int)<(b:Int))=true:=decide_eq_true (by omega);have HB:=hid hB;clear hB;rw[<-hxx, <-hyy] at d1 d2;clear hxx hyy heq hab;go_enter Tryz.func75,Tryz.ntmps75;go_wp2;go_quiet (fail);go_wp2;go_quiet (fail);go_wp2;go_ret;exact⟨by first|(rw[HB.out];rfl)|(rw[HB.out,d3];rfl)|(rw[HB.out];simp at d3;simp[d3])|(rw[HB.out];simp[Act.tmps];omega),by first|exact⟨_,rfl⟩|exact drew2 _ _ _⟩
   ·rw[decide_eq_false (by omega)] at hB
    have d1:decide (xx<yy)=false:=decide_eq_false (by omega);have d2:(xx == yy)=true:=by simp[heq]
    have d3:decide ((a:Int)<(b:Int))=false:=decide_eq_false (by omega);have HB:=hid hB;clear hB;rw[<-hxx, <-hyy] at d1 d2;clear hxx hyy heq hab;go_enter Tryz.func75,Tryz.ntmps75;go_wp2;go_quiet (fail);go_wp2;go_quiet (fail);go_wp2;go_ret;exact⟨by first|(rw[HB.out];rfl)|(rw[HB.out,d3];rfl)|(rw[HB.out];simp at d3;simp[d3])|(rw[HB.out];simp[Act.tmps];omega),by first|exact⟨_,rfl⟩|exact drew2 _ _ _⟩
  ·rw[decide_eq_false (by omega)] at hB
   have d1:decide (xx<yy)=false:=decide_eq_false (by omega);have d2:(xx == yy)=false:=by simp;omega
   have HB:=hid hB;clear hB;rw[<-hxx, <-hyy] at d1 d2;clear hxx hyy hgt;go_enter Tryz.func75,Tryz.ntmps75;go_wp2;go_quiet (fail);go_wp2;go_quiet (fail);go_wp2;go_ret;exact⟨by first|(rw[HB.out];rfl)|(rw[HB.out,d3];rfl)|(rw[HB.out];simp at d3;simp[d3])|(rw[HB.out];simp[Act.tmps];omega),by first|exact⟨_,rfl⟩|exact drew2 _ _ _⟩
 ·rw[if_pos huv] at hB
  have hne:(u != v)=true:=by simp[huv]
  have HB:=hid hB;clear hB huv;go_enter Tryz.func75,Tryz.ntmps75;go_wp2;go_quiet (fail);go_wp2;go_quiet (fail);go_wp2;go_ret;exact⟨by first|(rw[HB.out];rfl)|(rw[HB.out,d3];rfl)|(rw[HB.out];simp at d3;simp[d3])|(rw[HB.out];simp[Act.tmps];omega),by first|exact⟨_,rfl⟩|exact drew2 _ _ _⟩
theorem pick_any (h:Rf W n Z SC SP SB Ah ch At ct hs ta C B p q) (hp:1<=p/\p<=1000000) (hq:1<=q/\q<=1000000) :
 Calls Tryz.prog 38 #[.pointer (some ⟨Z,0,none⟩)] W fun e w'=>e= .returned (.int .i64 (pick n hs ta C B p q))/\∃k,w'=W.drewN k:=by
 have hn:=h.n64;have HR:=hid h;have hls:=(lst_spec (h:=hs) (C:=C) (B:=B) n).2
 have hl0:(lst hs C B n).2=true->0<=(lst hs C B n).1/\(lst hs C B n).1<=2199023255552:=fun e=>by
  obtain⟨⟨v,hv,_,he⟩,_⟩:=hls e;have:=h.rng v hv;unfold far at this;rw[<-he];unfold sm;omega
 have KL:=hid (least_any h);clear h hls;obtain⟨L,hL⟩:∃L,lst hs C B n=L:=⟨_,rfl⟩;rw[hL] at KL hl0;have HPK:=hid (show pick n hs ta C B p q=pk hs ta C B p q L n by rw[<-hL];rfl);clear hL;obtain⟨le,ok⟩:=L;simp only at hl0;go_enter Tryz.func38,Tryz.ntmps38
 go_wp2_with fail
 refine KL.out.mono ?_;rintro e w1 ⟨rfl,d1,hw1⟩;have hr1:=HR.out.drewN d1;rw[<-hw1] at hr1;have c4:=hr1.b4;have HW1:=hid hw1;have HR1:=hid hr1;clear hw1 hr1 KL HR;go_wp2
 go_loopw [5,18] (fun s5 i wr=>∃(k d:Nat),k<=n/\i= .int .i64 k/\s5= .int .i64 (pk hs ta C B p q (le,ok) k)/\Hid (wr=w1.drewN d)) (fun _ i _=>n - (intOf i).toNat)
 case atStart=>exact⟨0,0,Nat.zero_le _,rfl,rfl,hid rfl⟩
 case round =>
  obtain⟨k,d,hk,rfl,rfl,HW⟩:=hrel;have hr:=HR1.out.drewN d;rw[<-HW.out] at hr;have e0:=hr.b0;have e2:=hr.b2;have e4:=hr.b4;have e5:=hr.b5;have e6:=hr.b6;clear c4
  by_cases hlt:k<n
  ·have f1:=hr.cb k hlt
   have f2:=hr.cc k hlt;obtain⟨bh,oh,rfl,f3⟩:=hr.hh k hlt;obtain⟨⟨r1,r2⟩,r3,r4⟩:=hr.rng k hlt;have hkn:(k:Int)<(n:Int):=by omega
   unfold far at r2 r4;have hX:pk hs ta C B p q (le,ok) (k+1)=if ok=true/\B.getD k false=true/\(dg C k+dg hs k)*q<=p*le/\(pk hs ta C B p q (le,ok) k<0\/btr hs ta C k (pk hs ta C B p q (le,ok) k)=true) then (k:Int) else pk hs ta C B p q (le,ok) k:=rfl
   have hrg:=pk_rng (h:=hs) (ta:=ta) (C:=C) (B:=B) (p:=p) (q:=q) (le,ok) k;obtain⟨bk,hbk⟩:∃bk,B.getD k false=bk:=⟨_,rfl⟩;obtain⟨x,hx⟩:∃x,dg C (k:Int)=x:=⟨_,rfl⟩;obtain⟨y,hy⟩:∃y,dg hs (k:Int)=y:=⟨_,rfl⟩;obtain⟨b,hb⟩:∃b,pk hs ta C B p q (le,ok) k=b:=⟨_,rfl⟩;rw[hbk] at f1;rw[hx] at f2 r1 r2;rw[hy] at f3 r3 r4;rw[hb] at hrg ⊢;rw[hbk,hx,hy,hb] at hX;have HX:=hid hX;have HBE:=hid hb;have HBK:=hid hbk;clear hX hbk hx hy hb;have hwr:IntKind.i64.wrap (x+y)=x+y:=IntWalk.i64_in _ (by omega);obtain⟨s,hs'⟩:∃s,x+y=s:=⟨_,rfl⟩;have hs0:0<=s/\s<=2199023255552:=by omega
   rw[hs'] at HX;have nx:∀b',pk hs ta C B p q (le,ok) (k+1)=b'->Hid (pk hs ta C B p q (le,ok) (k+1)=b'):=fun _ h=>hid h;have hsq1:=Int.mul_le_mul hs0.2 hq.2 (show 0<=q by omega) (by decide);have hsq0:=Int.mul_nonneg hs0.1 (show 0<=q by omega);have HS:=hid hs';cases ok with
   |false =>
    have HN:=nx b (by rw[HX.out];simp);clear nx hrg hl0 hsq1 hsq0 hr hs';go_wp2;go_quiet (fail);go_wp2
    go_roundw
    case rel=>exact⟨k+1,d+nq,by omega,by go_num,by rw[HN.out],hid (by rw[HW.out];simp[World.drewN_drewN])⟩
    case measure=>simp[intOf];omega
   |true =>
    have hl1:=hl0 rfl;have hpl1:=Int.mul_le_mul hp.2 hl1.2 hl1.1 (by decide);have hpl0:=Int.mul_nonneg (show 0<=p by omega) hl1.1;cases bk with
    |false =>
     have HN:=nx b (by rw[HX.out];simp);clear nx hrg hl0 hsq1 hsq0 hpl1 hpl0 hr hs' hl1;go_wp2;go_quiet (fail);go_wp2
     go_roundw
     case rel=>exact⟨k+1,d+nq,by omega,by go_num,by rw[HN.out],hid (by rw[HW.out];simp[World.drewN_drewN])⟩
     case measure=>simp[intOf];omega
    |true =>
     obtain⟨u,hu⟩:∃u,(x+y)*q=u:=⟨_,rfl⟩;obtain⟨v,hv⟩:∃v,p*le=v:=⟨_,rfl⟩;have hu':s*q=u:=by rw[<-hs'];exact hu
     rw[hu',hv] at HX;rw[hu'] at hsq1 hsq0;rw[hv] at hpl1 hpl0;have hwu:IntKind.i64.wrap ((x+y)*q)=u:=by rw[hu];exact IntWalk.i64_in _ (by omega)
     have hwv:IntKind.i64.wrap (p*le)=v:=by rw[hv];exact IntWalk.i64_in _ (by omega)
     by_cases huv:u<=v
     ·have d0:decide (u<=v)=true:=decide_eq_true huv
      rcases hrg with hb1|⟨vb,hvb,hb1,_,hbb,_⟩
      ·have HN:=nx k (by rw[HX.out,if_pos ⟨rfl,rfl,huv,.inl (by omega)⟩])
       subst hb1;clear nx hl0 hsq1 hsq0 hpl1 hpl0 hr hs' hl1 hu hv hu' huv;go_wp2;go_quiet (fail);go_wp2
       go_roundw
       case rel=>exact⟨k+1,d+nq,by omega,by go_num,by rw[HN.out],hid (by rw[HW.out];simp[World.drewN_drewN])⟩
       case measure=>simp[intOf];omega
      ·subst hb1
       have kb:=fun dd=>better_any (hr.drewN dd) (a:=k) (b:=vb) hlt (by omega);have n1:¬((vb:Int)<0):=by omega
       have n2:decide ((vb:Int)<0)=false:=decide_eq_false n1;obtain⟨bt,hbt⟩:∃bt,btr hs ta C k vb=bt:=⟨_,rfl⟩;rw[hbt] at kb;rw[hbt] at HX;have KB:=hid kb;have HHR:=hid hr;cases bt with
       |true =>
        have HN:=nx k (by rw[HX.out,if_pos ⟨rfl,rfl,huv,.inr rfl⟩]);clear nx hl0 hsq1 hsq0 hpl1 hpl0 hr hs' hl1 hu hv hu' huv kb hbt hbb;go_wp2;go_quiet ((go_at_call 75;first|(with_reducible exact Calls.quiet_of (KB.out _))|(exact Calls.quiet_of (KB.out _))));go_wp2
        go_roundw
        case rel=>exact⟨k+1,d+nq,by omega,by go_num,by rw[HN.out],hid (by rw[HW.out];simp[World.drewN_drewN])⟩
        case measure=>simp[intOf];omega
       |false =>
        have HN:=nx vb (by rw[HX.out,if_neg (by rintro⟨_,_,_,h1|h1⟩;omega;cases h1)]);clear nx hl0 hsq1 hsq0 hpl1 hpl0 hr hs' hl1 hu hv hu' huv kb hbt hbb;go_wp2;go_quiet ((go_at_call 75;first|(with_reducible exact Calls.quiet_of (KB.out _))|(exact Calls.quiet_of (KB.out _))));go_wp2
        go_roundw
        case rel=>exact⟨k+1,d+nq,by omega,by go_num,by rw[HN.out],hid (by rw[HW.out];simp[World.drewN_drewN])⟩
        case measure=>simp[intOf];omega
     ·have d0:decide (u<=v)=false:=decide_eq_false huv
      have HN:=nx b (by rw[HX.out,if_neg (by rintro⟨_,_,h1,_⟩;exact huv h1)]);clear nx hrg hl0 hsq1 hsq0 hpl1 hpl0 hr hs' hl1 hu hv hu' huv;go_wp2;go_quiet (fail);go_wp2
      go_roundw
      case rel=>exact⟨k+1,d+nq,by omega,by go_num,by rw[HN.out],hid (by rw[HW.out];simp[World.drewN_drewN])⟩
      case measure=>simp[intOf];omega
  ·obtain rfl:k=n:=by omega
   clear hr;go_wp2;go_ret;exact⟨by rw[HPK.out];rfl,d1+d,by rw[HW.out,HW1.out];simp[World.drewN_drewN]⟩
end
end Focal
namespace Focal
open Go.RowKit NetLaw BellLaw DijkLaw HeurLaw StarLaw FocalLaw Net Go.Proofs.YtjebckehmmbkbaaGreat.Std Heur Flow
open Star (own_blk blk_ne tab_far)
structure FM (w0 w:World) (n:Nat) (A:Option Addr) (m c:Nat) (l:List E) (Ah:Option Addr) (ch:Nat) (At:Option Addr) (ct Z SC SP SB T:Nat) (F:Nat->Option Addr × Nat) (on:Prop) (p q:Int) (C P:List Int) (B:List Bool) (top:Nat):Prop where
 box:w.heap[w0.heap.size]?=some (.cells #[.int .i64 n,.slice A m c] 24 (0,0))
 res:w.heap[w0.heap.size+1+1]?=some (.cells #[.slice none 0 0,.int .i64 0,.slice none 0 0] 38 (0,0))
 z:w.heap[Z]?=some (.cells #[.slice Ah n ch,.slice At n ct,.slice (some ⟨SC,0,none⟩) n n,.slice (some ⟨SP,0,none⟩) n n,.slice (some ⟨SB,0,none⟩) n n,.int .i64 p,.int .i64 q] 88 (0,0))
 cost:Own w w0.heap.size 3 1 ci (.slice (some ⟨SC,0,none⟩) n n) C
 pred:Own w w0.heap.size 3 1 ci (.slice (some ⟨SP,0,none⟩) n n) P
 wait:Own w w0.heap.size 4 1 cb (.slice (some ⟨SB,0,none⟩) n n) B
 tab:on->Tab w w0.heap.size T n F (ol l l.length)
 ne:SC≠SP
 sep:on->∀v,v<n->(Value.slice (F v).1 0 0).ownBlock≠some SC/\(Value.slice (F v).1 0 0).ownBlock≠some SP
 lo:Below w0.heap.size w0 w
 cl:C.length=n
 pl:P.length=n
 bl:B.length=n
 tops:SC<top/\SP<top/\(on->∀v,v<n->∀g,(Value.slice (F v).1 0 0).ownBlock=some g->g<top)
 tw:top<=w.heap.size
 zt:w0.heap.size+3<=top
section
variable {w0 w w':World} {n m c ch ct Z SC SP SB T top:Nat} {A Ah At:Option Addr} {l:List E} {F:Nat->Option Addr × Nat} {on:Prop} {p q:Int} {C P hs ta:List Int} {B:List Bool}
theorem FM.keep (h:FM w0 w n A m c l Ah ch At ct Z SC SP SB T F on p q C P B top) (hb:Below w.heap.size w w'):FM w0 w' n A m c l Ah ch At ct Z SC SP SB T F on p q C P B top :=
 ⟨blk_below h.box hb (lt_of_block h.box),blk_below h.res hb (lt_of_block h.res),blk_below h.z hb (lt_of_block h.z),h.cost.keep hb,h.pred.keep hb,h.wait.keep hb,fun o=>(h.tab o).keep hb,h.ne,h.sep,h.lo.trans (hb.mono h.lo.size),h.cl,h.pl,h.bl,h.tops,Nat.le_trans h.tw hb.size,h.zt⟩
theorem FM.alloc (h:FM w0 w n A m c l Ah ch At ct Z SC SP SB T F on p q C P B top) (o:Obj):FM w0 (w.alloc o) n A m c l Ah ch At ct Z SC SP SB T F on p q C P B top:=h.keep ((Below.refl _ _).alloc zzL _)
theorem FM.drewN (h:FM w0 w n A m c l Ah ch At ct Z SC SP SB T F on p q C P B top) (k:Nat):FM w0 (w.drewN k) n A m c l Ah ch At ct Z SC SP SB T F on p q C P B top:=h.keep (below_drewN (Below.refl _ _) k)
theorem FM.setC (h:FM w0 w n A m c l Ah ch At ct Z SC SP SB T F on p q C P B top) (k:Nat) (x:Int):FM w0 (w.setCell ⟨SC,k,none⟩ (.int .i64 x)) n A m c l Ah ch At ct Z SC SP SB T F on p q (C.set k x) P B top:=by
 obtain⟨cur,hb⟩:=own_blk h.cost;have hlo:=(h.cost.base_ SC rfl).1;have hne:=h.ne;refine⟨blk_far h.box (blk_ne h.box hb (by decide)) _,blk_far h.res (blk_ne h.res hb (by decide)) _,blk_far h.z (blk_ne h.z hb (by decide)) _,own_set1 h.cl h.cost k x,h.pred.setCell (fun e=>hne (by injection e with e;exact e.symm)) _,h.wait.setCell (h.wait.ne_ hb (by decide)) _,fun o=> ?_,h.ne,h.sep,h.lo.setCell hlo _,by rw[List.length_set];exact h.cl,h.pl,h.bl,h.tops,by simpa [World.setCell] using h.tw,h.zt⟩;obtain⟨cs,htb,_⟩:=(h.tab o).blk;exact tab_far (h.tab o) (blk_ne hb htb (by decide)) (fun v hv=>(h.sep o v hv).1) _
theorem FM.setP (h:FM w0 w n A m c l Ah ch At ct Z SC SP SB T F on p q C P B top) (k:Nat) (x:Int):FM w0 (w.setCell ⟨SP,k,none⟩ (.int .i64 x)) n A m c l Ah ch At ct Z SC SP SB T F on p q C (P.set k x) B top:=by
 obtain⟨cur,hb⟩:=own_blk h.pred;have hlo:=(h.pred.base_ SP rfl).1;have hne:=h.ne;refine⟨blk_far h.box (blk_ne h.box hb (by decide)) _,blk_far h.res (blk_ne h.res hb (by decide)) _,blk_far h.z (blk_ne h.z hb (by decide)) _,h.cost.setCell (fun e=>hne (by injection e with e)) _,own_set1 h.pl h.pred k x,h.wait.setCell (h.wait.ne_ hb (by decide)) _,fun o=> ?_,h.ne,h.sep,h.lo.setCell hlo _,h.cl,by rw[List.length_set];exact h.pl,h.bl,h.tops,by simpa [World.setCell] using h.tw,h.zt⟩;obtain⟨cs,htb,_⟩:=(h.tab o).blk;exact tab_far (h.tab o) (blk_ne hb htb (by decide)) (fun v hv=>(h.sep o v hv).2) _
theorem FM.setB (h:FM w0 w n A m c l Ah ch At ct Z SC SP SB T F on p q C P B top) (k:Nat) (hk:k<n) (x:Bool):FM w0 (w.setCell ⟨SB,k,none⟩ (.bool x)) n A m c l Ah ch At ct Z SC SP SB T F on p q C P (B.set k x) top:=by
 obtain⟨cur,hb⟩:=own_blk h.wait;have hlo:=(h.wait.base_ SB rfl).1;refine⟨blk_far h.box (blk_ne h.box hb (by decide)) _,blk_far h.res (blk_ne h.res hb (by decide)) _,blk_far h.z (blk_ne h.z hb (by decide)) _,h.cost.setCell (h.cost.ne_ hb (by decide)) _,h.pred.setCell (h.pred.ne_ hb (by decide)) _,own_setG (cell:=cb) h.bl h.wait k hk x,fun o=> ?_,h.ne,h.sep,h.lo.setCell hlo _,h.cl,h.pl,by rw[List.length_set];exact h.bl,h.tops,by simpa [World.setCell] using h.tw,h.zt⟩;obtain⟨cs,htb,_⟩:=(h.tab o).blk;exact tab_far (h.tab o) (blk_ne hb htb (by decide)) (fun v hv e=>((h.tab o).own v hv).ne_ hb (by decide) ((obs ..).trans e)) _
theorem FM.rf (h:FM w0 w n A m c l Ah ch At ct Z SC SP SB T F on p q C P B top) (hh:Sl w0 w0.heap.size 1 ci Ah hs) (ht:Sl w0 w0.heap.size 1 ci At ta) (hl:hs.length=n) (tl:ta.length=n) (hr:∀v:Nat,v<n->(0<=dg C v/\dg C v<=far)/\0<=dg hs v/\dg hs v<=far) (hn:n<=64):Rf w n Z SC SP SB Ah ch At ct hs ta C B p q:=by
 have z0:=blk_cell h.z 0;have z1:=blk_cell h.z 1;have z2:=blk_cell h.z 2;have z3:=blk_cell h.z 3;have z4:=blk_cell h.z 4;have z5:=blk_cell h.z 5;have z6:=blk_cell h.z 6;simp only[zzG,zzH,zzI] at z0 z1 z2 z3 z4 z5 z6;refine⟨z0,z1,z2,z3,z4,z5,z6,fun v hv=> ?_,fun v hv=>(own_atG false h.bl h.wait hv).1,fun v hv=> ?_,fun v hv=> ?_,hr,hn⟩
 ·rw[<-getD_dg];exact(own_at1 h.cl h.cost hv).1
 ·obtain⟨b,o,e,_,hc⟩:=atD (hh.keep h.lo zzL) (show v<hs.length by omega)
  exact⟨b,o,e,hc⟩
 ·obtain⟨b,o,e,_,hc⟩:=atD (ht.keep h.lo zzL) (show v<ta.length by omega)
  exact⟨b,o,e,hc⟩
theorem FM.grown {row:Option Nat} {bo:Nat} {v:Value} {O:List Int} (h:FM w0 w n A m c l Ah ch At ct Z SC SP SB T F on p q C P B top) (ho:Own w bo 3 1 ci v O) (hbo:top<=bo) (hg:w.grownBy w' v.ownBlock):FM w0 w' n A m c l Ah ch At ct Z SC SP SB T F on p q C P B top:=by
 have hfar:∀(v1:Value) (g1:Nat),v1.ownBlock=some g1->g1<top->v1.ownBlock=none\/v1.ownBlock≠v.ownBlock:=fun v1 g1 h1 h2=> .inr (fun e=>by
  have:=(ho.base_ g1 (e.symm.trans h1)).1;omega)
 obtain⟨t1,t2,t3⟩:=h.tops;have hty:∀{g:Nat} {cs:Array Value} {t:TypeId},w.heap[g]?=some (.cells cs t (0,0))->3≠t->w'.heap[g]?=some (.cells cs t (0,0)):=fun hg1 ht=>blk_grown hg1 hg (ho.ne_ hg1 ht);refine⟨hty h.box (by decide),hty h.res (by decide),hty h.z (by decide),h.cost.kept hg (hfar _ SC rfl t1),h.pred.kept hg (hfar _ SP rfl t2),h.wait.kept hg (.inr fun e=> ?_),fun o=> ?_,h.ne,h.sep,h.lo.grown hg h.lo.size (fun g hg1=>by have:=(ho.base_ g hg1).1;have:=h.zt;omega),h.cl,h.pl,h.bl,h.tops,Nat.le_trans h.tw hg.size,h.zt⟩
 ·obtain⟨cur,hb⟩:=own_blk h.wait
  exact ho.ne_ hb (by decide) e.symm
 ·obtain⟨cs,htb,hs,hc⟩:=(h.tab o).blk
  refine⟨(h.tab o).lo,⟨cs,hty htb (by decide),hs,hc⟩,fun u hu=> ?_,(h.tab o).sep⟩;refine((h.tab o).own u hu).kept hg ?_;cases hx:(Value.slice (F u).1 (ol l l.length u).length (F u).2).ownBlock with
  |none=>exact .inl rfl
  |some g=>rw[<-hx];exact hfar _ g hx (t3 o u hu g ((obs ..).trans hx))
theorem FM.turn {T0:Nat} {F0:Nat->Option Addr × Nat} (h:FM w0 w n A m c l Ah ch At ct Z SC SP SB T0 F0 False p q C P B top) (hb:Below w.heap.size w w') (ht:Tab w' w.heap.size T n F (ol l l.length)):FM w0 w' n A m c l Ah ch At ct Z SC SP SB T F True p q C P B w'.heap.size:=by
 have hk:=h.keep hb;obtain⟨t1,t2,_⟩:=h.tops;have htw:=h.tw;have hrow:∀v,v<n->∀g,(Value.slice (F v).1 0 0).ownBlock=some g->w.heap.size<=g/\g<w'.heap.size:=fun v hv g hg=>(ht.own v hv).base_ g ((obs ..).trans hg);have hbs:=hb.size;have hzt:=h.zt;exact⟨hk.box,hk.res,hk.z,hk.cost,hk.pred,hk.wait,fun _=>Dijk.Tab_mono ht h.lo.size,h.ne,fun _ v hv=>⟨fun e=>by have:=hrow v hv SC e;omega,fun e=>by have:=hrow v hv SP e;omega⟩,hk.lo,h.cl,h.pl,h.bl,⟨by omega,by omega,fun _ v hv g hg=>(hrow v hv g hg).2⟩,Nat.le_refl _,by omega⟩
theorem FM.drew1 (h:FM w0 w n A m c l Ah ch At ct Z SC SP SB T F on p q C P B top):FM w0 w.drew n A m c l Ah ch At ct Z SC SP SB T F on p q C P B top:=h.drewN 1
theorem own_drew {w:World} {b:Nat} {e:TypeId} {v:Value} {r:List Int} (h:Own w b e 1 ci v r):Own w.drew b e 1 ci v r:=h.drewN 1
end
end Focal
end Go.Proofs.YtjebckehmmbkbaaGreat
