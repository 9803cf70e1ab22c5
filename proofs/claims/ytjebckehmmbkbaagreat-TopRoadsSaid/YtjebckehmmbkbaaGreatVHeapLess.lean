/- The walks of bell.Relax and bell.Dist. The walk of net.Outs. Plain facts on Dijkstra's running: no Go in sight. Go's own slices package at []int: what Equal and Clone answer. heap.Less, heap.New, Heap.Len at api.Pop. -/
import Derived.Lib.SliceRun
import Derived.Test.YtjebckehmmbkbaaGreatVGridOver
set_option linter.unusedSimpArgs false
set_option linter.unusedVariables false
set_option maxRecDepth 100000
set_option maxHeartbeats 24000000
namespace Go.Proofs.YtjebckehmmbkbaaGreat
namespace Bell
open Go.RowKit NetLaw BellLaw Net Go.Proofs.YtjebckehmmbkbaaGreat.Std
structure Rel (w:World) (S n cd:Nat) (A:Option Addr) (c:Nat) (m:Nat) (wr:World) (D P:List Int):Prop where
 d:Own wr S 3 1 ci (.slice (some ⟨S,0,none⟩) n cd) D
 p:Own wr (w.heap.size+1) 3 1 ci (.slice (some ⟨w.heap.size+1,0,none⟩) n n) P
 dl:D.length=n
 pl:P.length=n
 b:wr.heap[w.heap.size]?=some (.cells #[.int .i64 n,.slice A m c] 24 (0,0))
 lo:Below S w wr
 sz:w.heap.size+2<=wr.heap.size
section
variable {w wr:World} {S n cd c m:Nat} {A:Option Addr} {D P:List Int}
theorem Rel.alloc (h:Rel w S n cd A c m wr D P) (hS:S<w.heap.size) (o:Obj):Rel w S n cd A c m (wr.alloc o) D P :=
 ⟨h.d.alloc o,h.p.alloc o,h.dl,h.pl,blk_alloc h.b o,h.lo.alloc (by have:=h.sz;omega) o,by have:=h.sz;simp;omega⟩
theorem Rel.drewN (h:Rel w S n cd A c m wr D P) (k:Nat):Rel w S n cd A c m (wr.drewN k) D P :=
 ⟨h.d.drewN k,h.p.drewN k,h.dl,h.pl,h.b,below_drewN h.lo k,h.sz⟩
theorem Rel.setD (h:Rel w S n cd A c m wr D P) (hS:S<w.heap.size) (t:Nat) (x:Int):Rel w S n cd A c m (wr.setCell ⟨S,t,none⟩ (.int .i64 x)) (D.set t x) P :=
 ⟨own_set1 h.dl h.d t x,h.p.setCell (by simp[Value.ownBlock];omega) _,by simp[h.dl],h.pl,blk_far h.b (by dsimp only;omega) _,h.lo.setCell zzL _,by have:=h.sz;simpa [World.setCell] using this⟩
theorem Rel.setP (h:Rel w S n cd A c m wr D P) (hS:S<w.heap.size) (t:Nat) (x:Int):Rel w S n cd A c m (wr.setCell ⟨w.heap.size+1,t,none⟩ (.int .i64 x)) D (P.set t x) :=
 ⟨h.d.setCell (by simp[Value.ownBlock];omega) _,own_set1 h.pl h.p t x,h.dl,by simp[h.pl],blk_far h.b (by dsimp only;omega) _,h.lo.setCell (by dsimp only;omega) _,by have:=h.sz;simpa [World.setCell] using this⟩
end
theorem fill_step (n k:Nat) (x z:Int) (h:k<n):(List.replicate k x++List.replicate (n - k) z).set k x=List.replicate (k+1) x++List.replicate (n - (k+1)) z:=by
 obtain⟨m,rfl⟩:∃m,n=k+1+m:=⟨n - (k+1),by omega⟩;rw[show k+1+m - k=m+1 by omega,show k+1+m - (k+1)=m by omega,List.replicate_succ,List.set_append_right _ _ (by simp)];simp[List.replicate_succ',List.append_assoc]
def Lb (n:Nat) (D:List Int) (C:Int):Prop:=∀v,v<n-> -C<=D.getD v 0
theorem Lb.more {n:Nat} {D:List Int} {C C':Int} (h:Lb n D C) (hC:C<=C'):Lb n D C':=fun v hv=>by have:=h v hv;omega
theorem Lb.set {n:Nat} {D:List Int} {C:Int} (h:Lb n D C) (hl:D.length=n) {t:Nat} (ht:t<n) {x:Int} (hx: -C<=x):Lb n (D.set t x) C:=fun v hv=>by
 rw[List.getD_eq_getElem?_getD]
 by_cases e:t=v
 ·subst e;rw[List.getElem?_set_self (by omega)];exact hx
 ·rw[List.getElem?_set_ne e];have:=h v hv;rwa [List.getD_eq_getElem?_getD] at this
theorem take_foldl {l:List E} {k:Nat} (h:k<l.length) (s:St):(l.take (k+1)).foldl rx s=rx ((l.take k).foldl rx s) l[k]:=by
 rw[List.take_succ_eq_append_getElem h,List.foldl_append];rfl
theorem relax_any (n:Nat) (A:Option Addr) (c:Nat) (l:List E) (S cd:Nat) (D0:List Int) (w:World) (hS:S<w.heap.size) (hl:Sl w S 3 ce A l) (hD:Own w S 3 1 ci (.slice (some ⟨S,0,none⟩) n cd) D0) (hDn:D0.length=n)
 (h1:1<=n) (h64:n<=64) (h600:l.length<=600) (hends:∀e∈l,0<=e.1/\e.1<n/\0<=e.2.1/\e.2.1<n) (hcost:∀e∈l,-10000<=e.2.2/\e.2.2<=10000) (hlb:Lb n D0 1000000000000) :
 Calls Tryz.prog 25 #[.agg #[.int .i64 n,.slice A l.length c],.slice (some ⟨S,0,none⟩) n cd] w fun e w'=>∃D P last,relax l n (D0,List.replicate n (-1),-1)=(D,P,last) /\
  e= .returned (.tuple #[.slice (some ⟨w.heap.size+1,0,none⟩) n n,.int .i64 last])/\Rel w S n cd A c l.length w' D P:=by
 have hmk:∀w,(Instr.makeSlice 25 (.int .i64 (n:Int)) (.int .i64 (n:Int))).run Tryz.prog w= .ok (.slice (some ⟨w.heap.size,0,none⟩) n n) (w.alloc (.cells (madeCells #[.int .i64 0] n) 3)) :=
  run_make_row' (P:=Tryz.prog) 25 3 (.int .i64 0) 8 Tryz.underlying25 (by kernel_rfl) rfl .i64 .i64 n (by omega) (by omega)
 have rel0:Rel w S n cd A c l.length ((w.alloc (.cells #[.int .i64 n,.slice A l.length c] 24)).alloc (.cells (madeCells #[.int .i64 0] n) 3)) D0 (List.replicate n 0) :=
  ⟨(hD.alloc _).alloc _,Grid.own_made n _ _ (by simp) h64 (by simp),hDn,by simp,blk_alloc (heap_alloc_new _ _) _,((Below.refl _ _).alloc (by omega) _).alloc (by simp;omega) _,by simp⟩
 have REL0:=hid rel0;have HDN:=hid hDn;clear rel0 hDn hD;go_enter Tryz.func25,Tryz.ntmps25;go_wp2
 go_loopw [16] (fun i wr=>∃k:Nat,k<=n/\i= .int .i64 k/\Rel w S n cd A c l.length wr D0 (List.replicate k (-1)++List.replicate (n - k) 0)) (fun i _=>n - (intOf i).toNat)
 case atStart=>exact⟨0,Nat.zero_le _,rfl,by simpa using REL0.out⟩
 case round =>
  obtain⟨k,hk,rfl,hrl⟩:=hrel
  by_cases hlt:k<n
  ·obtain⟨pc,pf⟩:=own_at1 (by have:=hrl.pl;exact this) hrl.p hlt
   have HR:=hid hrl;clear hrl;go_wp2
   go_roundw
   case rel=>exact⟨k+1,by omega,by go_num,by rw[<-fill_step n k (-1) 0 hlt];exact HR.out.setP hS k _⟩
   case measure=>simp[intOf];omega
  ·obtain rfl:n=k:=by omega
   rw[Nat.sub_self,List.replicate_zero,List.append_nil] at hrl;have b0:=blk_cell hrl.b 0;simp only[zzG,zzH,zzI] at b0;have HR:=hid hrl;clear hlt REL0 hrl HDN;go_wp2
   go_loopw [8,25] (fun s8 i wr=>∃(r:Nat) (D P:List Int) (last:Int),r<=n/\i= .int .i64 r/\s8= .int .i64 last/\Rel w S n cd A c l.length wr D P/\relax l n (D0,List.replicate n (-1),-1)=relax l (n - r) (D,P,last)/\Lb n D (1000000000000+r*6000000)) (fun _ i _=>n - (intOf i).toNat)
   case atStart=>exact⟨0,D0,_,-1,Nat.zero_le _,rfl,rfl,HR.out,rfl,hlb.more (by omega)⟩
   case round =>
    obtain⟨r,D,P,last,hr,rfl,rfl,hrl,hre,hlbr⟩:=hrel;have b0:=blk_cell hrl.b 0;have b1:=blk_cell hrl.b 1;simp only[zzG,zzH,zzI] at b0 b1;have HRE:=hid hre;have HRL:=hid hrl;have HLB:=hid hlbr;clear hre hrl hlbr HR hlb
    by_cases hlt:r<n
    ·go_wp2
     go_loopw [8,30] (fun s8 i wr=>∃(k:Nat) (D1 P1:List Int) (last1:Int),k<=l.length/\i= .int .i64 k/\s8= .int .i64 last1/\Rel w S n cd A c l.length wr D1 P1/\(l.take k).foldl rx (D,P,-1)=(D1,P1,last1)/\Lb n D1 (1000000000000+r*6000000+k*10000)) (fun _ i _=>l.length - (intOf i).toNat)
     case atStart=>exact⟨0,D,P,-1,Nat.zero_le _,rfl,rfl,HRL.out,rfl,HLB.out.more (by omega)⟩
     case round =>
      obtain⟨k,D1,P1,last1,hk,rfl,rfl,hrl,hfo,hlbr⟩:=hrel
      by_cases hltk:k<l.length
      ·obtain⟨b,off,f,t,cc,rfl,hbB,he,hcf,hct,hcc⟩:=(hl.keep hrl.lo zzL).atE hltk
       have hst:=take_foldl hltk (D,P,-1);rw[hfo,he] at hst;have hen:=hends _ (List.getElem_mem hltk);have hco:=hcost _ (List.getElem_mem hltk);rw[he] at hen hco;obtain⟨f0,f1,t0,t1⟩:=hen;obtain⟨c0,c1⟩:=hco;simp only at f0 f1 t0 t1 c0 c1;obtain⟨f,rfl⟩:=Int.eq_ofNat_of_zero_le f0;obtain⟨t,rfl⟩:=Int.eq_ofNat_of_zero_le t0;have f2:f<n:=by omega
       have t2:t<n:=by omega
       have hbw:b<w.heap.size:=by omega
       have hsz:=hrl.sz;have hSr:S<wr.heap.size:=by omega
       have hPr:w.heap.size+1<wr.heap.size:=by omega
       have hBr:b<wr.heap.size:=by omega
       have hSP:¬w.heap.size+1=S:=by omega
       have hSP2:¬S=w.heap.size+1:=by omega
       obtain⟨xc,xf⟩:=own_at1 hrl.dl hrl.d f2;obtain⟨yc,yf⟩:=own_at1 hrl.dl hrl.d t2;obtain⟨pc,pf⟩:=own_at1 hrl.pl hrl.p t2;have hlx:=hlbr f f2;have HRL1:=hid hrl;have HLB1:=hid hlbr;obtain⟨x,hx⟩:∃x,D1.getD f 0=x:=⟨_,rfl⟩;obtain⟨y,hy⟩:∃y,D1.getD t 0=y:=⟨_,rfl⟩;rw[hx] at xc hlx;rw[hy] at yc;have hst2:(l.take (k+1)).foldl rx (D,P,-1)=if x<far/\x+cc<y then (D1.set t (x+cc),P1.set t f,(t:Int)) else (D1,P1,last1):=by rw[hst,rx];simp only[dg,Int.toNat_natCast,hx,hy]
       have HST:=hid hst2;clear hst hst2 hx hy he hrl hlbr hl hfo f0 t0 f1 t1 hcost hends HRE b0 b1;have hr64:r<=64:=by omega
       by_cases hxf:x<1099511627776
       ·have hbd: -2000000000000<=x:=by omega
        by_cases hxy:x+cc<y
        ·have hfin:=HST.out
         rw[if_pos ⟨hxf,hxy⟩] at hfin;have HFIN:=hid hfin;clear HST hfin;go_wp2;go_quiet (fail);go_wp2
         go_region
         go_wp2
         go_roundw
         case rel=>exact⟨k+1,D1.set t (x+cc),P1.set t f,t,by omega,by go_num,rfl,((((HRL1.out.alloc hS _).drewN _).drewN 1).setD hS t (x+cc)).setP hS t f,HFIN.out,(HLB1.out.more (by omega)).set HRL1.out.dl t2 (by omega)⟩
         case measure=>simp[intOf];omega
        ·have hfin:=HST.out
         rw[if_neg (fun h=>hxy h.2)] at hfin;have HFIN:=hid hfin;clear HST hfin;go_wp2;go_quiet (fail);go_wp2
         go_roundw
         case rel=>exact⟨k+1,D1,P1,last1,by omega,by go_num,rfl,(HRL1.out.alloc hS _).drewN _,HFIN.out,HLB1.out.more (by omega)⟩
         case measure=>simp[intOf];omega
       ·have hfin:=HST.out
        rw[if_neg (fun h=>hxf h.1)] at hfin;have HFIN:=hid hfin;have hd:decide (x<1099511627776)=false:=by simp;omega
        clear HST hfin hxf;go_wp2;go_quiet (fail);go_wp2
        go_roundw
        case rel=>exact⟨k+1,D1,P1,last1,by omega,by go_num,rfl,(HRL1.out.alloc hS _).drewN _,HFIN.out,HLB1.out.more (by omega)⟩
        case measure=>simp[intOf];omega
      ·obtain rfl:k=l.length:=by omega
       rw[List.take_length] at hfo;have HFO:=hid (show pass l (D,P,last)=(D1,P1,last1) from hfo);have HRL1:=hid hrl;have HLB1:=hid hlbr;clear hrl hfo hlbr hl;have hm1:n - r=n - (r+1)+1:=by omega
       have HM1:=hid hm1;clear hm1
       by_cases hneg:last1<0
       ·go_wp2
        go_ret2;refine⟨D1,P1,last1,?_,rfl,HRL1.out⟩;rw[HRE.out,HM1.out,relax,HFO.out,if_pos hneg]
       ·go_wp2
        go_roundw
        case rel =>
         refine⟨r+1,D1,P1,last1,by omega,by go_num,rfl,HRL1.out,?_,HLB1.out.more (by omega)⟩;rw[HRE.out,HM1.out,relax,HFO.out,if_neg hneg]
        case measure=>simp[intOf];omega
    ·obtain rfl:r=n:=by omega
     go_wp2;go_ret2;refine⟨D,P,last,?_,rfl,HRL.out⟩;rw[HRE.out,Nat.sub_self,relax]
def start (n fr:Nat):List Int:=(List.replicate n far).set fr 0
theorem start_len (n fr:Nat):(start n fr).length=n:=by simp[start]
theorem start_lb (n fr:Nat) (h:fr<n):Lb n (start n fr) 1000000000000:=by
 refine Lb.set (fun v hv=> ?_) (by simp) h (by decide);rw[List.getD_eq_getElem?_getD,List.getElem?_replicate,if_pos hv];simp[far]
def rl (n:Nat) (l:List E) (fr:Nat):St:=relax l n (start n fr,List.replicate n (-1),-1)
def derr (N:Int) (l:List E) (fr:Int):Int:=if chk N l≠0 then chk N l else if fr<0\/N<=fr then 1 else if 0<=(rl N.toNat l fr.toNat).2.2 then 6 else 0
def DistSays (N:Int) (l:List E) (fr:Int) (w:World) (e:Ending) (w':World):Prop :=
 (derr N l fr≠0->e= .returned (.tuple #[.slice none 0 0,.int .i64 (derr N l fr)])) /\
 (derr N l fr=0->∃S,w.heap.size<=S/\e= .returned (.tuple #[.slice (some ⟨S,0,none⟩) N.toNat N.toNat,.int .i64 0])/\Own w' w.heap.size 3 1 ci (.slice (some ⟨S,0,none⟩) N.toNat N.toNat) (rl N.toNat l fr.toNat).1/\(rl N.toNat l fr.toNat).1.length=N.toNat)/\Below w.heap.size w w'
theorem dist_any (N:Int) (A:Option Addr) (c:Nat) (l:List E) (fr:Int) (w:World) (hl:Sl w w.heap.size 3 ce A l) (hlen:l.length<=9223372036854775807) :
 Calls Tryz.prog 7 #[.agg #[.int .i64 N,.slice A l.length c],.int .i64 fr] w fun e w'=>DistSays N l fr w e w':=by
 have key:=fun W hs=>check_any N A c l W hs hlen;have hw0:Below w.heap.size w (w.alloc (.cells #[.int .i64 N,.slice A l.length c] 24)):=(Below.refl _ _).alloc zzL _;have hl0:=(hl.keep hw0 zzL).more (show w.heap.size<=(w.alloc (.cells #[.int .i64 N,.slice A l.length c] 24)).heap.size by simp)
 by_cases hg:chk N l=0
 ·rw[hg] at key
  have KEY:=hid key;clear key
  by_cases hf:fr<0\/N<=fr
  ·have he:derr N l fr=1:=by rw[derr,if_neg (by simpa using hg),if_pos hf]
   simp only[DistSays,he];clear hg he;go_enter Tryz.func7,Tryz.ntmps7
   go_wp2_with fail
   refine(KEY.out _ hl0).mono ?_;rintro e w1 ⟨rfl,hb1⟩;have B1:Below (w.heap.size+1) _ w1:=hb1.mono (by simp);have H1:=hw0.trans (B1.mono (Nat.le_succ _));obtain⟨cc,_⟩:=keepAt B1 (Nat.lt_succ_self _);have q0:=cc 0;have q1:=cc 1;simp at q0 q1;clear cc hb1 hl hl0
   by_cases hneg:fr<0
   ·go_wp2
    go_ret2;exact⟨fun _=>rfl,fun h=>absurd h (by decide),H1⟩
   ·have hge:N<=fr:=by omega
    have hd:decide (fr<0)=false:=by simp;omega
    go_wp2;go_ret2;exact⟨fun _=>rfl,fun h=>absurd h (by decide),H1⟩
  ·have hgood:=chk_zero.1 hg
   have hN1:=hgood.lo;have hN2:=hgood.hi;have f0:0<=fr:=by omega
   obtain⟨n,rfl⟩:=Int.eq_ofNat_of_zero_le (show 0<=N by omega);obtain⟨f,rfl⟩:=Int.eq_ofNat_of_zero_le f0;have hfn:f<n:=by omega
   have he:derr n l f=if 0<=(rl n l f).2.2 then 6 else 0:=by rw[derr,if_neg (by simpa using hg),if_neg hf];rfl
   have hmk:∀w,(Instr.makeSlice 25 (.int .i64 (n:Int)) (.int .i64 (n:Int))).run Tryz.prog w= .ok (.slice (some ⟨w.heap.size,0,none⟩) n n) (w.alloc (.cells (madeCells #[.int .i64 0] n) 3)) :=
    run_make_row' (P:=Tryz.prog) 25 3 (.int .i64 0) 8 Tryz.underlying25 (by kernel_rfl) rfl .i64 .i64 n (by omega) (by omega)
   have HE:=hid he;have HG:=hid hgood;clear he hg hgood;go_enter Tryz.func7,Tryz.ntmps7
   go_wp2_with fail
   refine(KEY.out _ hl0).mono ?_;rintro e w1 ⟨rfl,hb1⟩;have B1:Below (w.heap.size+1) _ w1:=hb1.mono (by simp);have H1:=hw0.trans (B1.mono (Nat.le_succ _));have Z1:w.heap.size+1<=w1.heap.size:=by have:=hb1.size;simp at this;omega
   obtain⟨cc,_⟩:=keepAt B1 (Nat.lt_succ_self _);have q0:=cc 0;have q1:=cc 1;simp at q0 q1;clear cc hb1 hl0;have own0:=Grid.own_made n w1.heap.size w1 zzL (by omega) rfl;have OWN0:=hid own0;clear own0;go_wp2
   go_loopw [29] (fun i wr=>∃k:Nat,k<=n/\i= .int .i64 k/\Own wr w1.heap.size 3 1 ci (.slice (some ⟨w1.heap.size,0,none⟩) n n) (List.replicate k far++List.replicate (n - k) 0)/\Below w1.heap.size w1 wr) (fun i _=>n - (intOf i).toNat)
   case atStart=>exact⟨0,Nat.zero_le _,rfl,by simpa using OWN0.out,(Below.refl _ _).alloc zzL _⟩
   case round =>
    obtain⟨k,hk,rfl,own,hB⟩:=hrel;have hlen1:(List.replicate k far++List.replicate (n - k) (0:Int)).length=n:=by simp;omega
    by_cases hlt:k<n
    ·obtain⟨pc,pf⟩:=own_at1 hlen1 own hlt
     have HL1:=hid hlen1;clear hlen1;go_wp2
     go_roundw
     case rel=>exact⟨k+1,by omega,by go_num,by rw[<-fill_step n k far 0 hlt];exact own_set1 HL1.out own k _,hB.setCell (by dsimp only;omega) _⟩
     case measure=>simp[intOf];omega
    ·obtain rfl:n=k:=by omega
     rw[Nat.sub_self,List.replicate_zero,List.append_nil] at own hlen1;have HL1:=hid hlen1;obtain⟨pc,pf⟩:=own_at1 hlen1 own hfn;have own2:=own_set1 hlen1 own f 0;have B2:=B1.trans (hB.mono Z1);obtain⟨cc,_⟩:=keepAt B2 (Nat.lt_succ_self _);have q0':=cc 0;have q1':=cc 1;simp at q0' q1';have hwr:w.heap.size<wr.heap.size:=by have:=own.base_ w1.heap.size rfl;omega
     have hne:¬w1.heap.size=w.heap.size:=by omega
     have hne2:¬w.heap.size=w1.heap.size:=by omega
     have H2:Below w.heap.size w (wr.setCell ⟨w1.heap.size,f,none⟩ (.int .i64 0)):=(hw0.trans (B2.mono (Nat.le_succ _))).setCell (by dsimp only;omega) _;have hs2:=(hl.keep H2 zzL).more (show w.heap.size<=w1.heap.size by omega);have hS2:w1.heap.size<(wr.setCell ⟨w1.heap.size,f,none⟩ (.int .i64 0)).heap.size:=(own2.base_ _ rfl).2;have hgood:=HG.out;have kr:=relax_any n A c l w1.heap.size n (start n f) _ hS2 hs2 own2 (start_len n f) (by omega) (by omega) hgood.len hgood.ends hgood.cost (start_lb n f hfn);have KR:=hid kr;clear hlen1 cc q0 q1 OWN0 hlt kr hs2 own2 hgood HL1 hl B1 H1 own
     go_wp2_with fail
     refine KR.out.mono ?_;rintro e w3 ⟨D,P,last,hre,rfl,hrl⟩;have hfin:=HE.out;have hre2:rl n l f=(D,P,last):=hre;rw[hre2] at hfin;have H3:Below w.heap.size w w3:=H2.trans (hrl.lo.mono (by omega));have HRL:=hid hrl;have HRE:=hid hre2;clear hre hre2 hrl HE pc pf q0' q1' B2 H2 hS2
     by_cases hneg:0<=last
     ·rw[if_pos hneg] at hfin
      have HF:=hid hfin;clear hfin;go_wp2;go_ret2;rw[DistSays,HF.out];exact⟨fun _=>rfl,fun h=>absurd h (by decide),H3⟩
     ·rw[if_neg hneg] at hfin
      have HF:=hid hfin;clear hfin;go_wp2;go_ret2;simp only[DistSays,HF.out,Int.toNat_natCast,HRE.out];exact⟨fun h=>absurd rfl h,fun _=>⟨w1.heap.size,by omega,rfl,HRL.out.d.mono (by omega),HRL.out.dl⟩,H3⟩
 ·have he:derr N l fr=chk N l:=by rw[derr,if_pos hg]
  simp only[DistSays,he];have KEY:=hid key;clear key he;have hne:(chk N l != 0)=true:=by rw[bne_iff_ne];exact hg
  generalize chk N l=x at *;go_enter Tryz.func7,Tryz.ntmps7
  go_wp2_with fail
  refine(KEY.out _ hl0).mono ?_;rintro e w1 ⟨rfl,hb1⟩;have H1:=hw0.trans (hb1.mono (by simp));clear hl hl0 hb1;go_wp2;go_ret2;exact⟨fun _=>rfl,fun h=>absurd h hg,H1⟩
end Bell
namespace Net
open Go.RowKit NetLaw
theorem infoIntO:(Tryz.prog.info? 3).map (fun i=>(i.zero,i.size,i.bytes))=some (some (.int .i64 0),1,8):=by kernel_rfl
def upd {β:Type} (F:Nat->β) (f:Nat) (y:β):Nat->β:=fun v=>if v=f then y else F v
theorem upd_eq {β:Type} (F:Nat->β) (f:Nat) (y:β):upd F f y f=y:=by simp[upd]
theorem upd_ne {β:Type} (F:Nat->β) {f v:Nat} (y:β) (h:v≠f):upd F f y v=F v:=by simp[upd,h]
structure Tab (w:World) (base S n:Nat) (F:Nat->Option Addr × Nat) (Ls:Nat->List Int):Prop where
 lo:base<=S
 blk:∃cs:Array Value,w.heap[S]?=some (.cells cs 25 (0,0))/\cs.size=n/\∀v,v<n->cs[v]?=some (.slice (F v).1 (Ls v).length (F v).2)
 own:∀v,v<n->Own w base 3 1 ci (.slice (F v).1 (Ls v).length (F v).2) (Ls v)
 sep:∀u v,u<n->v<n->u≠v->∀g,(Value.slice (F u).1 0 0).ownBlock=some g->(Value.slice (F v).1 0 0).ownBlock≠some g
theorem obs (A:Option Addr) (n m c d:Nat):(Value.slice A n c).ownBlock=(Value.slice A m d).ownBlock:=by cases A <;> rfl
section
variable {w w4:World} {base S n:Nat} {F:Nat->Option Addr × Nat} {Ls:Nat->List Int}
theorem Tab.lt (h:Tab w base S n F Ls):S<w.heap.size:=by obtain⟨cs,hb,_⟩:=h.blk;exact lt_of_block hb
theorem Tab.cell (h:Tab w base S n F Ls) {v:Nat} (hv:v<n):w.cell? ⟨S,v,none⟩=some (.slice (F v).1 (Ls v).length (F v).2)/\w.frozen? ⟨S,v,none⟩=false:=by
 obtain⟨cs,hb,_,hc⟩:=h.blk;exact⟨(blk_cell hb v).trans (hc v hv),blk_free hb v⟩
theorem Tab.ne (h:Tab w base S n F Ls) {v:Nat} (hv:v<n) (x c:Nat):(Value.slice (F v).1 x c).ownBlock≠some S:=by
 obtain⟨cs,hb,_⟩:=h.blk;rw[obs _ x (Ls v).length c (F v).2];exact(h.own v hv).ne_ hb (by decide)
theorem Tab.alloc (h:Tab w base S n F Ls) (o:Obj):Tab (w.alloc o) base S n F Ls:=by
 obtain⟨cs,hb,hs,hc⟩:=h.blk;exact⟨h.lo,⟨cs,blk_alloc hb o,hs,hc⟩,fun v hv=>(h.own v hv).alloc o,h.sep⟩
theorem Tab.drew (h:Tab w base S n F Ls):Tab w.drew base S n F Ls:=⟨h.lo,h.blk,h.own,h.sep⟩
theorem Tab.keep (h:Tab w base S n F Ls) (hb:Below w.heap.size w w4):Tab w4 base S n F Ls:=by
 obtain⟨cs,hk,hs,hc⟩:=h.blk;exact⟨h.lo,⟨cs,blk_below hk hb (lt_of_block hk),hs,hc⟩,fun v hv=>(h.own v hv).keep hb,h.sep⟩
theorem Tab.step (h:Tab w base S n F Ls) {f m c':Nat} {A':Option Addr} {z:Int} (hf:f<n) (hm:(Ls f).length=m) (hg:w.grownBy w4 (Value.slice (F f).1 0 0).ownBlock) (ho:Own w4 base 3 1 ci (.slice A' (m+1) c') (Ls f++[z]))
 (hat:(Value.slice A' 0 0).ownBlock=(Value.slice (F f).1 0 0).ownBlock\/∃g,(Value.slice A' 0 0).ownBlock=some g/\w.heap.size<=g) :
 Tab (w4.setCell ⟨S,f,none⟩ (.slice A' (m+1) c')) base S n (upd F f (A',c')) (upd Ls f (Ls f++[z])):=by
 obtain⟨cs,hb,hs,hc⟩:=h.blk;have hb4:=blk_grown hb hg (h.ne hf 0 0);have hl:(upd Ls f (Ls f++[z]) f).length=m+1:=by rw[upd_eq];simp[hm]
 refine⟨h.lo,⟨cs.setIfInBounds f (.slice A' (m+1) c'),blk_set hb4 f _,by simpa using hs,fun v hv=> ?_⟩,fun v hv=> ?_,fun u v hu hv huv g hgu=> ?_⟩
 ·by_cases e:v=f
  ·subst e
   rw[upd_eq,upd_eq,Array.getElem?_setIfInBounds_self_of_lt (by omega)];simp[hm]
  ·rw[upd_ne _ _ e,upd_ne _ _ e,Array.getElem?_setIfInBounds_ne (fun x=>e x.symm)]
   exact hc v hv
 ·by_cases e:v=f
  ·subst e
   rw[upd_eq,upd_eq];have:(Ls v++[z]).length=m+1:=by simp[hm]
   rw[this];exact ho.setCell (ho.ne_ hb4 (by decide)) _
  ·rw[upd_ne _ _ e,upd_ne _ _ e]
   have hk:=(h.own v hv).kept hg (by
    cases hx:(Value.slice (F v).1 (Ls v).length (F v).2).ownBlock with
    |none=>exact .inl rfl
    |some g=>exact .inr (fun e2=>h.sep v f hv hf e g ((obs ..).trans hx) e2.symm))
   exact hk.setCell (hk.ne_ hb4 (by decide)) _
 ·have key:∀v,v<n->v≠f->∀g,(Value.slice A' 0 0).ownBlock=some g->(Value.slice (F v).1 0 0).ownBlock≠some g:=fun v hv hvf g hg1 hg2=>by
   rcases hat with h1|⟨g',h1,h2⟩
   ·exact h.sep f v hf hv (fun e=>hvf e.symm) g (h1.symm.trans hg1) hg2
   ·rw[h1] at hg1
    injection hg1 with hg1;have:=((h.own v hv).base_ g ((obs ..).trans hg2)).2;omega
  by_cases e1:u=f
  ·subst e1
   have e2:v≠u:=fun e=>huv e.symm;rw[upd_eq] at hgu;rw[upd_ne _ _ e2];exact key v hv e2 g hgu
  ·rw[upd_ne _ _ e1] at hgu
   by_cases e2:v=f
   ·subst e2
    rw[upd_eq];exact fun hx=>key u hu e1 g hx hgu
   ·rw[upd_ne _ _ e2]
    exact h.sep u v hu hv huv g hgu
end
theorem news1' {w:World} {e:TypeId} {x:Int} {g:Nat} (hg:w.heap.size=g):∀j,j<1->(w.alloc (.cells #[.int .i64 x] e)).cell? ⟨g,j,none⟩=some (ci x j):=by
 subst hg;exact news1
def ol (l:List E) (k v:Nat):List Int:=((List.range k).filter fun i=>(l.getD i (0,0,0)).1 == (v:Int)).map fun i=>((i:Nat):Int)
theorem ol_succ (l:List E) (k v:Nat):ol l (k+1) v=if (l.getD k (0,0,0)).1=(v:Int) then ol l k v++[(k:Int)] else ol l k v:=by
 unfold ol;rw[List.range_succ,List.filter_append,List.map_append]
 by_cases h:(l.getD k (0,0,0)).1=(v:Int)
 ·have hp:((l.getD k (0,0,0)).1 == (v:Int))=true:=by rw[beq_iff_eq];exact h
  rw[if_pos h,List.filter_cons,List.filter_nil,if_pos hp]
  rfl
 ·have hp:¬((l.getD k (0,0,0)).1 == (v:Int))=true:=by rw[beq_iff_eq];exact h
  rw[if_neg h,List.filter_cons,List.filter_nil,if_neg hp];simp
theorem ol_len (l:List E) (k v:Nat):(ol l k v).length<=k:=by
 unfold ol;rw[List.length_map];exact Nat.le_trans (List.length_filter_le ..) (by simp)
structure Wide (N:Int) (l:List E):Prop where
 hi:N<=64
 len:l.length<=6000
 ends:∀e∈l,0<=e.1/\e.1<N/\0<=e.2.1/\e.2.1<N
 cost:∀e∈l,-1000000000<=e.2.2/\e.2.2<=1000000000
theorem Wide.of {N:Int} {l:List E} (h:NetLaw.Good N l):Wide N l:=⟨h.hi,by have:=h.len;omega,h.ends,fun e he=>by have:=h.cost e he;omega⟩
theorem outs_wide (n:Nat) (A:Option Addr) (c:Nat) (l:List E) (w:World) (hl:Sl w w.heap.size 3 ce A l) (hg:Wide n l) :
 Calls Tryz.prog 37 #[.agg #[.int .i64 n,.slice A l.length c]] w fun e w'=>∃S F,e= .returned (.slice (some ⟨S,0,none⟩) n n)/\Tab w' w.heap.size S n F (ol l l.length)/\Below w.heap.size w w':=by
 obtain⟨i0,hi,hz0,hz1,hz2⟩:=info_parts infoIntO;have hN:=hg.hi;have hlen:=hg.len;have hends:=hg.ends
 have hmk:∀w,(Instr.makeSlice 31 (.int .i64 (n:Int)) (.int .i64 (n:Int))).run Tryz.prog w= .ok (.slice (some ⟨w.heap.size,0,none⟩) n n) (w.alloc (.cells (madeCells #[.slice none 0 0] n) 25)) :=
  run_make_row' (P:=Tryz.prog) 31 25 (.slice none 0 0) 24 Tryz.underlying31 (by kernel_rfl) rfl .i64 .i64 n (by omega) (by omega)
 have tab0:Tab ((w.alloc (.cells #[.int .i64 n,.slice A l.length c] 24)).alloc (.cells (madeCells #[.slice none 0 0] n) 25)) w.heap.size (w.heap.size+1) n (fun _=>(none,0)) (ol l 0):=by
  refine⟨by omega,⟨madeCells #[.slice none 0 0] n,?_,by simp[madeCells],fun v hv=> ?_⟩,fun v hv=> ?_,fun u v hu hv huv g hgu=>by cases hgu⟩
  ·have h:=heap_alloc_new (w.alloc (.cells #[.int .i64 n,.slice A l.length c] 24)) (.cells (madeCells #[.slice none 0 0] n) 25)
   simp at h ⊢;exact h
  ·simp[madeCells,ol,hv,Nat.mod_one]
  ·exact Own.nil_
 have TAB0:=hid tab0;have HE:=hid hends;clear tab0 hends hg;go_enter Tryz.func37,Tryz.ntmps37;go_wp2
 go_loopw [12] (fun i wr=>∃(k:Nat) (F:Nat->Option Addr × Nat),k<=l.length/\i= .int .i64 k/\Tab wr w.heap.size (w.heap.size+1) n F (ol l k)/\Below w.heap.size w wr) (fun i _=>l.length - (intOf i).toNat)
 case atStart=>exact⟨0,_,Nat.zero_le _,rfl,TAB0.out,((Below.refl _ _).alloc zzL _).alloc (by simp) _⟩
 case round =>
  obtain⟨k,F,hk,rfl,ht,hB⟩:=hrel;clear TAB0
  by_cases hlt:k<l.length
  ·obtain⟨b,off,f,t,co,rfl,hbB,he,hcf,hct,hcc⟩:=(hl.keep hB zzL).atE hlt
   have hen:=HE.out _ (List.getElem_mem hlt);rw[he] at hen;obtain⟨f0,f1,_,_⟩:=hen;simp only at f0 f1;obtain⟨f,rfl⟩:=Int.eq_ofNat_of_zero_le f0;have hfn:f<n:=by omega
   obtain⟨sc,sf⟩:=ht.cell hfn;have hSl:=ht.lt;have hSl2:w.heap.size<wr.heap.size:=by omega
   have hSl3:w.heap.size+1<wr.heap.size+1:=by omega
   have hown:=ht.own f hfn;have hne:=ht.ne hfn (ol l k f).length (F f).2;have hz:=hB.size;obtain⟨cs,hbk,hcs,hcv⟩:=ht.blk;have hcv':=hcv f hfn;have hb0:=blk_alloc (blk_alloc hbk (.cells #[.int .i64 f,.int .i64 t,.int .i64 co] 70)) (.cells #[.int .i64 k] 3)
   have hst:∀v,ol l (k+1) v=upd (ol l k) f (ol l k f++[(k:Int)]) v:=fun v=>by
    rw[ol_succ,List.getD_eq_getElem?_getD,List.getElem?_eq_getElem hlt,Option.getD_some,he]
    by_cases e:v=f
    ·subst e;rw[upd_eq,if_pos rfl]
    ·rw[upd_ne _ _ e,if_neg (by simp only;omega)]
   obtain⟨m,hm⟩:∃m,(ol l k f).length=m:=⟨_,rfl⟩;have hm6:m<=6000:=by have:=ol_len l k f;omega
   rw[hm] at sc hown hne hcv';clear hcv hbk;have HT:=hid ht;have HST:=hid hst;have HM:=hid hm;generalize hA1:(F f).1=A1 at *;generalize hC1:(F f).2=C1 at *;have HA1:=hid hA1;have hneE:(Value.slice A1 m C1).ownBlock≠some wr.heap.size:=fun e=>Nat.lt_irrefl _ (hown.base_ _ e).2;have hbE:=blk_alloc (heap_alloc_new wr (.cells #[.int .i64 f,.int .i64 t,.int .i64 co] 70)) (.cells #[.int .i64 k] 3);clear ht hst hm he hA1 hC1 f0 f1 hl;go_wp2
   go_region_law (refine step_push _ rfl (.tmp 24) (.tmp 26) _ rfl w.heap.size 3 i0 _ 1 8 ci Tryz.underlying25 hi hz0 hz1 hz2 rfl (by decide) _ (ol l k f) m HM.out rfl ((hown.alloc _).alloc _) (wr.heap.size+1) 1 (k:Int) rfl (news1' (by simp)) (fun _ _=>one_ci _ _) (by omega) (by omega) (by simp <;> omega) ?_;intro A3 c3 w4 hown3 hgrow3 hat3;have hH4:w4.heap[w.heap.size+1]?=some (.cells cs 25 (0,0)):=(hgrow3.block _ (by simp;omega) (fun e=>hne e.symm)).trans hb0;have s4:w4.cell? ⟨w.heap.size+1,f,none⟩=some (.slice A1 m C1):=(blk_cell hH4 f).trans hcv';have s5:w4.frozen? ⟨w.heap.size+1,f,none⟩=false:=blk_free hH4 f;have hE4:w4.heap[wr.heap.size]?=some (.cells #[.int .i64 f,.int .i64 t,.int .i64 co] 70 (0,0)):=(hgrow3.block _ (by simp;omega) (fun e=>hneE e.symm)).trans hbE;have s6:w4.cell? ⟨wr.heap.size,0,none⟩=some (.int .i64 f):=blk_cell hE4 0)
   all_goals
    have hg3:=hgrow3
    change World.grownBy _ _ (Value.slice A1 m C1).ownBlock at hg3
    rw[obs A1 m 0 C1 0, <-HA1.out] at hg3
    have hat4:(Value.slice A3 0 0).ownBlock=(Value.slice (F f).1 0 0).ownBlock\/∃g,(Value.slice A3 0 0).ownBlock=some g/\wr.heap.size+1+1<=g:=by
     rcases hat3 with h1|h1
     ·left
      change (Value.slice A3 (m+1) c3).ownBlock=(Value.slice A1 m C1).ownBlock at h1
      rw[HA1.out,obs A3 0 (m+1) 0 c3,obs A1 0 m 0 C1];exact h1
     ·right
      exact⟨_,(obs A3 0 (m+1) 0 c3).trans h1,by simp⟩
    have htab:=Tab.step (w4:=w4) (by first|exact(((HT.out.alloc _).alloc _).drew)|exact((HT.out.alloc _).alloc _)) hfn HM.out hg3 hown3 (by simpa using hat4);rw[<-(funext HST.out:ol l (k+1)=_)] at htab;have hB4:Below w.heap.size w w4:=by first|exact(((hB.alloc hz _).alloc (by simp;omega) _).drew).grown hgrow3 (by simp;omega) hown.lo|exact((hB.alloc hz _).alloc (by simp;omega) _).grown hgrow3 (by simp;omega) hown.lo
    have HTAB:=hid htab;clear hgrow3 hat3 hg3 hat4 htab hb0 hcv' hH4 s4 s5 s6 hE4 hown hown3;go_wp2
    go_roundw
    case' rel=>exact⟨k+1,_,by omega,by go_num,HTAB.out,hB4.setCell (by dsimp only;omega) _⟩
    case' measure=>simp[intOf];omega
  ·obtain rfl:k=l.length:=by omega
   have HT:=hid ht;clear ht hl;go_wp2;go_ret;exact⟨w.heap.size+1,F,rfl,HT.out,hB⟩
theorem outs_any (n:Nat) (A:Option Addr) (c:Nat) (l:List E) (w:World) (hl:Sl w w.heap.size 3 ce A l) (hg:NetLaw.Good n l) :
 Calls Tryz.prog 37 #[.agg #[.int .i64 n,.slice A l.length c]] w fun e w'=>∃S F,e= .returned (.slice (some ⟨S,0,none⟩) n n)/\Tab w' w.heap.size S n F (ol l l.length)/\Below w.heap.size w w':=outs_wide n A c l w hl (Wide.of hg)
end Net
namespace DijkLaw
open NetLaw BellLaw
structure Inv (N fr:Int) (l:List E) (D:List Int) (L:List (Int × Int)) (dn:List Int) (cur:Int) (todo:List E) (b:Nat):Prop where
 len:(D.length:Int)=N
 lo:∀v,0<=v->v<N->0<=dg D v/\dg D v<=far
 st:dg D fr=0
 wk:∀v,0<=v->v<N->dg D v<far->Wk l fr v (dg D v)
 ent:∀p∈L,0<=p.2/\p.2<N/\dg D p.2<=p.1/\cur<=p.1/\(p.2∈dn->dg D p.2<p.1)
 nd:L.Nodup
 pend:∀v,0<=v->v<N->dg D v<far->v ∉ dn->(dg D v,v)∈L
 dnle:∀v∈dn,0<=v/\v<N/\dg D v<=cur
 dnnd:dn.Nodup
 rel:∀e∈l,e.1∈dn->e∈todo\/dg D e.2.1<=dg D e.1+e.2.2
 cnt:L.length<=b
section
variable {N fr:Int} {l:List E} {D:List Int} {L L':List (Int × Int)} {dn:List Int} {cur k v:Int} {todo:List E} {b:Nat}
theorem Inv.skip (h:Inv N fr l D L dn cur [] b) (hp:((k,v)::L').Perm L) (hmin:∀q∈L,k<=q.1) (hk:dg D v<k):Inv N fr l D L' dn k [] b:=by
 have hck:cur<=k:=(h.ent (k,v) (hp.mem_iff.1 (List.mem_cons_self ..))).2.2.2.1;refine⟨h.len,h.lo,h.st,h.wk,fun q hq=> ?_,(List.nodup_cons.1 (hp.nodup_iff.2 h.nd)).2,fun u u0 u1 hu hd=> ?_,fun u hu=> ?_,h.dnnd,h.rel,?_⟩
 ·have hq':=hp.mem_iff.1 (List.mem_cons_of_mem _ hq)
  obtain⟨a,b,c,_,e⟩:=h.ent q hq';exact⟨a,b,c,hmin q hq',e⟩
 ·rcases List.mem_cons.1 (hp.mem_iff.2 (h.pend u u0 u1 hu hd)) with e|e
  ·injection e with e1 e2
   subst e2;omega
  ·exact e
 ·obtain⟨a,b,c⟩:=h.dnle u hu
  exact⟨a,b,by omega⟩
 ·have:=hp.length_eq
  have:=h.cnt;simp at *;omega
theorem Inv.take (h:Inv N fr l D L dn cur [] b) (hp:((k,v)::L').Perm L) (hmin:∀q∈L,k<=q.1) (hk:¬dg D v<k):dg D v=k/\0<=v/\v<N/\v ∉ dn/\(∀todo:List E,(∀e∈l,e.1=v->e∈todo)->Inv N fr l D L' (v::dn) k todo b):=by
 obtain⟨v0,v1,h2,hck,h4⟩:=h.ent (k,v) (hp.mem_iff.1 (List.mem_cons_self ..));simp only at v0 v1 h2 hck h4;have hdv:dg D v=k:=by omega
 have hnd:v ∉ dn:=fun hv=>by have:=h4 hv;omega
 have hnd2:=List.nodup_cons.1 (hp.nodup_iff.2 h.nd);refine⟨hdv,v0,v1,hnd,fun todo ht=>⟨h.len,h.lo,h.st,h.wk,fun q hq=> ?_,hnd2.2,fun u u0 u1 hu hd=> ?_,fun u hu=> ?_,List.nodup_cons.2 ⟨hnd,h.dnnd⟩,fun e he hd=> ?_,?_⟩⟩
 ·have hq':=hp.mem_iff.1 (List.mem_cons_of_mem _ hq)
  obtain⟨a,b,c,_,e⟩:=h.ent q hq';refine⟨a,b,c,hmin q hq',fun hm=> ?_⟩;rcases List.mem_cons.1 hm with e1|e1
  ·have hne:q.1≠k:=fun e2=>hnd2.1 (by
    have:q=(k,v):=Prod.ext e2 e1;rw[<-this];exact hq)
   rw[e1] at c ⊢;omega
  ·exact e e1
 ·have hd':u ∉ dn:=fun x=>hd (List.mem_cons_of_mem _ x)
  rcases List.mem_cons.1 (hp.mem_iff.2 (h.pend u u0 u1 hu hd')) with e|e
  ·injection e with e1 e2
   exact absurd (by rw[e2];exact List.mem_cons_self ..) hd
  ·exact e
 ·rcases List.mem_cons.1 hu with e|e
  ·subst e;exact⟨v0,v1,by omega⟩
  ·obtain⟨a,b,c⟩:=h.dnle u e
   exact⟨a,b,by omega⟩
 ·rcases List.mem_cons.1 hd with e1|e1
  ·exact .inl (ht e he e1)
  ·rcases h.rel e he e1 with e2|e2
   ·cases e2
   ·exact .inr e2
 ·have:=hp.length_eq
  have:=h.cnt;simp at *;omega
theorem Inv.give {e:E} {u:Int} (h:Inv N fr l D L dn cur (e::todo) b) (hu:e.1=u) (hud:u∈dn) (hdu:dg D u=cur) (he:e∈l) (hc:0<=e.2.2) (ht:0<=e.2.1/\e.2.1<N) (hfr:0<=fr) (hlt:cur+e.2.2<dg D e.2.1) (hp:L'.Perm ((cur+e.2.2,e.2.1)::L)) :
 Inv N fr l (D.set e.2.1.toNat (cur+e.2.2)) L' dn cur todo (b+1):=by
 have hl:=h.len;have hs:=fun v hv=>dg_set (D:=D) (t:=e.2.1) (v:=v) (x:=cur+e.2.2) ht.1 (by omega) hv;obtain⟨u0,u1,_⟩:=h.dnle u hud;have hcur:0<=cur:=by have:=(h.lo u u0 u1).1;omega
 have hfar:=(h.lo e.2.1 ht.1 ht.2).2;have htd:e.2.1 ∉ dn:=fun hd=>by have:=(h.dnle _ hd).2.2;omega
 have hsame:∀v,v∈dn->dg (D.set e.2.1.toNat (cur+e.2.2)) v=dg D v:=fun v hv=>by
  have hne:¬v=e.2.1:=fun x=>htd (by rw[<-x];exact hv);rw[hs v (h.dnle v hv).1,if_neg hne]
 have hle:∀v,0<=v->dg (D.set e.2.1.toNat (cur+e.2.2)) v<=dg D v:=fun v hv=>by
  rw[hs v hv];split
  ·rename_i x;subst x;omega
  ·exact Int.le_refl _
 refine⟨by rw[List.length_set];exact hl,fun v v0 v1=> ?_,?_,fun v v0 v1 hv=> ?_,fun q hq=> ?_,?_,fun v v0 v1 hv hd=> ?_,fun v hv=> ?_,h.dnnd,fun x hx hd=> ?_,?_⟩
 ·rw[hs v v0];split
  ·omega
  ·exact h.lo v v0 v1
 ·rw[hs fr hfr,if_neg (fun x=>by have:=h.st;rw[x] at this;omega)]
  exact h.st
 ·rw[hs v v0] at hv ⊢
  split
  ·rename_i x
   subst x;have hw:=h.wk u u0 u1 (by omega);rw[hdu] at hw;exact Wk.step hw he hu
  ·rename_i x
   rw[if_neg x] at hv;exact h.wk v v0 v1 hv
 ·rcases List.mem_cons.1 (hp.mem_iff.1 hq) with x|x
  ·subst x
   refine⟨ht.1,ht.2,?_,by simp only;omega,fun hd=>absurd hd htd⟩;simp only;rw[hs _ ht.1,if_pos rfl];exact Int.le_refl _
  ·obtain⟨a,b,c,d,f⟩:=h.ent q x
   refine⟨a,b,Int.le_trans (hle _ a) c,d,fun hd=> ?_⟩;rw[hsame _ hd];exact f hd
 ·rw[hp.nodup_iff,List.nodup_cons]
  refine⟨fun hm=> ?_,h.nd⟩;have:=(h.ent _ hm).2.2.1;simp only at this;omega
 ·rw[hs v v0] at hv ⊢
  rw[hp.mem_iff];split
  ·rename_i x
   subst x;exact List.mem_cons_self ..
  ·rename_i x
   rw[if_neg x] at hv;exact List.mem_cons_of_mem _ (h.pend v v0 v1 hv hd)
 ·rw[hsame v hv]
  exact h.dnle v hv
 ·have hx2:=hsame _ hd
  by_cases hxt:x.2.1=e.2.1
  ·rcases h.rel x hx hd with y|y
   ·rcases List.mem_cons.1 y with z|z
    ·subst z
     right
     rw[hx2,hs _ ht.1,if_pos rfl,hu,hdu];exact Int.le_refl _
    ·exact .inl z
   ·right
    rw[hx2];have:=hle x.2.1 (by rw[hxt];exact ht.1);omega
  ·rcases h.rel x hx hd with y|y
   ·rcases List.mem_cons.1 y with z|z
    ·subst z;exact absurd rfl hxt
    ·exact .inl z
   ·right
    rw[hx2]
    by_cases x0:0<=x.2.1
    ·have:=hle x.2.1 x0;omega
    ·have e1:dg (D.set e.2.1.toNat (cur+e.2.2)) x.2.1<=dg D x.2.1:=by
      unfold dg;have e2:x.2.1.toNat=(0:Int).toNat:=by omega
      rw[e2];exact hle 0 (Int.le_refl _)
     omega
 ·have:=hp.length_eq
  have:=h.cnt;simp at *;omega
theorem Inv.stay {e:E} {u:Int} (h:Inv N fr l D L dn cur (e::todo) b) (hu:e.1=u) (hdu:dg D u=cur) (hge:¬cur+e.2.2<dg D e.2.1):Inv N fr l D L dn cur todo (b+1) :=
 ⟨h.len,h.lo,h.st,h.wk,h.ent,h.nd,h.pend,h.dnle,h.dnnd,fun x hx hd=>by
   rcases h.rel x hx hd with y|y
   ·rcases List.mem_cons.1 y with z|z
    ·subst z
     right
     rw[hu,hdu];omega
    ·exact .inl z
   ·exact .inr y,Nat.le_succ_of_le h.cnt⟩
structure Sh (N fr:Int) (l:List E) (D:List Int):Prop where
 len:(D.length:Int)=N
 lo:∀v,0<=v->v<N->0<=dg D v/\dg D v<=far
 st:dg D fr=0
 wk:∀v,0<=v->v<N->dg D v<far->Wk l fr v (dg D v)
 still:∀e∈l,dg D e.1<far->dg D e.2.1<=dg D e.1+e.2.2
theorem Inv.fin (h:Inv N fr l D [] dn cur [] b) (hends:∀e∈l,0<=e.1/\e.1<N/\0<=e.2.1/\e.2.1<N):Sh N fr l D:=by
 refine⟨h.len,h.lo,h.st,h.wk,fun e he hf=> ?_⟩;obtain⟨a,b,_,_⟩:=hends e he
 by_cases hd:e.1∈dn
 ·rcases h.rel e he hd with x|x
  ·cases x
  ·exact x
 ·have:=h.pend e.1 a b hf hd
  cases this
theorem Sh.walk_le (h:Sh N fr l D) (hends:∀e∈l,0<=e.1/\e.1<N/\0<=e.2.1/\e.2.1<N) {v d:Int} (hw:Wk l fr v d) (hd:d<far) (hc:∀e∈l,0<=e.2.2):dg D v<=d:=by
 induction hw with
 |here=>rw[h.st];exact Int.le_refl _
 |step hu he hf ih =>
  have c:=hc _ he;have h1:=ih (by omega);subst hf;have:=h.still _ he (by omega);omega
theorem Sh.unique {D':List Int} (h:Sh N fr l D) (h':Sh N fr l D') (hends:∀e∈l,0<=e.1/\e.1<N/\0<=e.2.1/\e.2.1<N) (hc:∀e∈l,0<=e.2.2):D=D':=by
 have key:∀D D',Sh N fr l D->Sh N fr l D'->∀v,0<=v->v<N->dg D v<=dg D' v:=fun D D' h h' v v0 v1=>by
  by_cases hv:dg D' v<far
  ·exact h.walk_le hends (h'.wk v v0 v1 hv) hv hc
  ·have:=(h.lo v v0 v1).2;omega
 have h1:=h.len;have h2:=h'.len;refine List.ext_getElem (by omega) fun i a b=> ?_;have e1:=key D D' h h' i (by omega) (by omega);have e2:=key D' D h' h i (by omega) (by omega);unfold dg at e1 e2;simp only[Int.toNat_natCast,List.getD_eq_getElem?_getD,List.getElem?_eq_getElem a,List.getElem?_eq_getElem b,Option.getD_some] at e1 e2;omega
end
def outs (l:List E) (dn:List Int):Nat:=l.countP fun e=>decide (e.1∈dn)
theorem outs_le (l:List E) (dn:List Int):outs l dn<=l.length:=List.countP_le_length
theorem outs_nil (l:List E):outs l []=0:=by
 unfold outs;rw[List.countP_eq_zero];intro e _;simp
theorem outs_cons (l:List E) (dn:List Int) (v:Int) (h:v ∉ dn):outs l (v::dn)=outs l dn+l.countP fun e=>decide (e.1=v):=by
 unfold outs
 induction l with
 |nil=>rfl
 |cons e r ih =>
  rw[List.countP_cons,List.countP_cons,List.countP_cons,ih]
  by_cases h1:e.1=v
  ·have h2:e.1 ∉ dn:=by rw[h1];exact h
   simp[h1,h];omega
  ·simp[h1]
   omega
theorem start_inv {N fr:Int} {l:List E} {D:List Int} (hl:(D.length:Int)=N) (h0:dg D fr=0) (hf:∀v,0<=v->v<N->v≠fr->dg D v=far) (hfr:0<=fr/\fr<N):Inv N fr l D [(0,fr)] [] 0 [] 1:=by
 refine⟨hl,fun v v0 v1=> ?_,h0,fun v v0 v1 hv=> ?_,fun p hp=> ?_,by simp,fun v v0 v1 hv _=> ?_,(fun v hv=>by cases hv),List.nodup_nil,(fun e _ hd=>by cases hd),by simp⟩
 ·by_cases e:v=fr
  ·rw[e,h0];unfold far;omega
  ·rw[hf v v0 v1 e];unfold far;omega
 ·by_cases e:v=fr
  ·rw[e,h0];exact Wk.here
  ·rw[hf v v0 v1 e] at hv;exact absurd hv (Int.lt_irrefl _)
 ·rw[List.mem_singleton] at hp
  subst hp;exact⟨hfr.1,hfr.2,by simp only;omega,Int.le_refl _,fun h=>by cases h⟩
 ·by_cases e:v=fr
  ·subst e;rw[h0];simp
  ·rw[hf v v0 v1 e] at hv;exact absurd hv (Int.lt_irrefl _)
end DijkLaw
namespace Std
open Go.RowKit
theorem take_eq {α:Type} {l m:List α} {k:Nat} (h:l.take k=m.take k) (hl:k<l.length) (hm:k<m.length) (he:l[k]=m[k]):l.take (k+1)=m.take (k+1):=by
 rw[List.take_succ_eq_append_getElem hl,List.take_succ_eq_append_getElem hm,h,he]
theorem getElem_of_take {α:Type} {l m:List α} (h:l=m) {k:Nat} (hl:k<l.length) (hm:k<m.length):l[k]=m[k]:=by subst h;rfl
theorem equal_int (A A':Option Addr) (c c':Nat) (l m:List Int) (B B':Nat) (w:World) (hl:Sl w B 1 ci A l) (hm:Sl w B' 1 ci A' m) (hlen:l.length<=9223372036854775807) :
 Calls Tryz.prog 57 #[.slice A l.length c,.slice A' m.length c'] w fun e w'=>e= .returned (.bool (decide (l=m)))/\∃n,w'=w.drewN n:=by
 by_cases he:l.length=m.length
 ·have hm':(l.length:Int)=m.length:=by omega
  have h0:((l.length:Int) != (m.length:Int))=false:=by rw[bne_eq_false_iff_eq];exact hm'
  have HE:=hid he;clear he hm';go_enter Tryz.func57,Tryz.ntmps57;go_wp2
  go_loopw [13] (fun i wr=>∃k:Nat,k<=l.length/\i= .int .i64 k/\l.take k=m.take k/\∃n,wr=w.drewN n) (fun i _=>l.length - (intOf i).toNat)
  case atStart=>exact⟨0,Nat.zero_le _,rfl,by simp,0,rfl⟩
  case round =>
   obtain⟨k,hk,rfl,htk,n,rfl⟩:=hrel;have HT:=hid htk;clear htk
   by_cases hlt:k<l.length
   ·have hlt':k<m.length:=by have:=HE.out;omega
    obtain⟨b,off,rfl,hbB,hc1⟩:=hl.atI hlt;obtain⟨b',off',rfl,hbB',hc2⟩:=hm.atI hlt';obtain⟨x,hx⟩:∃x,x=l[k]:=⟨_,rfl⟩;obtain⟨y,hy⟩:∃y,y=m[k]:=⟨_,rfl⟩;rw[<-hx] at hc1;rw[<-hy] at hc2;have HX:=hid hx;have HY:=hid hy;clear hx hy hl hm
    by_cases hxy:x=y
    ·subst hxy
     go_wp2;go_quiet (fail);go_wp2
     go_roundw
     case rel=>exact⟨k+1,by omega,by go_num,take_eq HT.out hlt hlt' (HX.out.symm.trans HY.out),n+nq,by first|rfl|exact World.drewN_drewN _ _ _⟩
     case measure=>simp[intOf];omega
    ·have hne:(x != y)=true:=by rw[bne_iff_ne];exact hxy
     go_wp2;go_quiet (fail);go_wp2;go_ret;exact⟨ret_bool (by symm;rw[decide_eq_false_iff_not];exact fun e=>hxy (HX.out.trans ((getElem_of_take e hlt hlt').trans HY.out.symm))),n+nq,by first|rfl|exact World.drewN_drewN _ _ _⟩
   ·obtain rfl:k=l.length:=by omega
    go_wp2;go_ret;refine⟨ret_bool ?_,n,rfl⟩;have h1:=HT.out;rw[List.take_length,List.take_of_length_le (by have:=HE.out;omega)] at h1
    symm
    rw[decide_eq_true_eq];exact h1
 ·have hne:((l.length:Int) != (m.length:Int))=true:=by rw[bne_iff_ne];omega
  have HE:=hid he;clear he hl hm;go_enter Tryz.func57,Tryz.ntmps57;go_wp2;go_ret;exact⟨ret_bool (by symm;rw[decide_eq_false_iff_not];exact fun e=>HE.out (by rw[e])),0,rfl⟩
theorem sl_new' {α:Type} {sz:Nat} (hsz:0<sz) {cell:α->Nat->Value} (w:World) (cs:Array Value) (e:TypeId) (l:List α) {g:Nat} (hg:w.heap.size=g) (h:cs.toList=fl sz cell l):Sl (w.alloc (.cells cs e)) (w.alloc (.cells cs e)).heap.size sz cell (some ⟨g,0,none⟩) l:=by
 subst hg;exact sl_new hsz w cs e l h
theorem infoInt:(Tryz.prog.info? 3).map (fun i=>(i.zero,i.size,i.bytes))=some (some (.int .i64 0),1,8):=by kernel_rfl
def SomeClone {α:Type} (e:TypeId) (sz:Nat) (cell:α->Nat->Value) (l:List α) (w:World) (en:Ending) (w':World):Prop :=
 ∃A c,en= .returned (.slice A l.length c)/\Own w' w.heap.size e sz cell (.slice A l.length c) l/\Below w.heap.size w w'
theorem clone_int (A:Option Addr) (c:Nat) (l:List Int) (B:Nat) (w:World) (hl:Sl w B 1 ci A l) (hB:B<=w.heap.size) (hA:A=none->l.length=0/\c=0) (hlen:l.length*8<=140737488355328) :
 Calls Tryz.prog 88 #[.slice A l.length c] w fun e w'=>SomeClone 3 1 ci l w e w':=by
 have qT:∀(w:World) (a:Option Addr) (n c n' c':Nat),(binOp .eql 25 (.slice a n c) (.slice none n' c')).run Tryz.prog w= .ok (.bool a.isNone) w:=fun w a n c n' c'=>Lib.run_eql_slice_nil w 25 3 a n c n' c' Tryz.underlying25
 match A,hA with
 |none,hA =>
  obtain⟨h0,rfl⟩:=hA rfl;have hl0:l=[]:=List.eq_nil_of_length_eq_zero h0;subst hl0;go_enter Tryz.func88,Tryz.ntmps88;go_wp2;go_ret;exact⟨none,0,rfl,Own.nil_,Below.refl _ _⟩
 |some ad,hA =>
  obtain⟨i0,hi,hz0,hz1,hz2⟩:=info_parts infoInt;have hmade:Own (w.alloc (.cells #[] 3)) w.heap.size 3 1 ci (.slice (some ⟨w.heap.size,0,none⟩) 0 0) []:=World.ownsRow_made w #[] 0 zzL (Nat.zero_le _) rfl;go_enter Tryz.func88,Tryz.ntmps88
  go_wp2_with (at_builtin;refine wpList_pushAll _ rfl (.tmp 5) (.tmp 6) _ rfl w.heap.size 3 i0 (.int .i64 0) 1 8 ci Tryz.underlying25 hi hz0 hz1 hz2 rfl (by decide) _ [] 0 rfl rfl hmade w.heap.size (some ad) _ _ l rfl rfl hA ((hl.more hB).keep ((Below.refl _ _).alloc zzL _) zzL) one_ci (by omega) (by omega) (by simp) ?_;intro A1 c1 w1 hown1 hgrow1 hat1)
  simp only[Nat.zero_add,List.nil_append] at hown1;go_ret;exact⟨A1,c1,by simp,hown1,((Below.refl _ _).alloc zzL _).grown hgrow1 (by simp) (hmade.lo)⟩
theorem equal_int' (A A':Option Addr) (n m c c':Nat) (l r:List Int) (B B':Nat) (w:World) (hl:Sl w B 1 ci A l) (hm:Sl w B' 1 ci A' r) (hn:l.length=n) (hm':r.length=m) (hlen:n<=9223372036854775807) (b:Bool) (hb:decide (l=r)=b) :
 Calls Tryz.prog 57 #[.slice A n c,.slice A' m c'] w fun e w'=>e= .returned (.bool b)/\∃k,w'=w.drewN k:=by
 subst hn hm' hb;exact equal_int A A' c c' l r B B' w hl hm hlen
end Std
namespace Heap
open Go.RowKit HeapLaw Net
def ltP (a b:Pop):Bool:=decide (a.1<b.1\/a.1=b.1/\a.2<b.2)
theorem ltP_ord:HeapLaw.Ord ltP:=⟨fun {a b} h=>by simp only[ltP,decide_eq_true_eq,decide_eq_false_iff_not] at h ⊢;omega,fun {a b c} h1 h2=>by simp only[ltP,decide_eq_false_iff_not] at h1 h2 ⊢;omega⟩
theorem less_any:LessOk 60 ltP:=by
 intro W a b x y;have hB:Below W.heap.size W ((W.alloc (.cells #[.int .i64 a,.int .i64 b] 121)).alloc (.cells #[.int .i64 x,.int .i64 y] 121)):=((Below.refl _ _).alloc zzL _).alloc (by simp) _
 by_cases h1:a<x
 ·have hf:ltP (a,b) (x,y)=true:=by simp only[ltP,decide_eq_true_eq];omega
  rw[hf];go_enter Tryz.func60,Tryz.ntmps60;go_wp2;go_ret;exact⟨by first|trivial|rfl,hB⟩
 ·have hd:decide (a<x)=false:=by simp;omega
  by_cases h2:a=x
  ·subst h2
   have hf:ltP (a,b) (a,y)=decide (b<y):=by simp[ltP]
   rw[hf];clear h1;go_enter Tryz.func60,Tryz.ntmps60;go_wp2;go_ret;exact⟨by first|trivial|simp,hB⟩
  ·have hd2:(a == x)=false:=by rw[beq_eq_false_iff_ne];exact h2
   have hf:ltP (a,b) (x,y)=false:=by simp only[ltP,decide_eq_false_iff_not];omega
   rw[hf];clear h1 h2;go_enter Tryz.func60,Tryz.ntmps60;go_wp2;go_ret;exact⟨by first|trivial|rfl,hB⟩
theorem new_any (k:FuncId) (w:World):Calls Tryz.prog 59 #[fnOf k] w fun e w'=>∃H,e= .returned (.pointer (some ⟨H,0,none⟩))/\HeapAt w' w.heap.size H (fnOf k) none 0 0 []/\Below w.heap.size w w':=by
 unfold fnOf;go_enter Tryz.func59,Tryz.ntmps59;go_wp2;refine bodyPost_ret (v:= .pointer (some ⟨w.heap.size,0,none⟩)) (by simp[results,Tryz.results59,go_sem]) rfl ?_;exact⟨w.heap.size,rfl,⟨Nat.le_refl _,heap_alloc_new _ _,Own.nil_,rfl⟩,(Below.refl _ _).alloc zzL _⟩
theorem len_any {base H:Nat} {fn:Value} {A:Option Addr} {n c:Nat} {L:List Pop} (w:World) (h:HeapAt w base H fn A n c L):Calls Tryz.prog 62 #[.pointer (some ⟨H,0,none⟩)] w fun e w'=>e= .returned (.int .i64 n)/\w'=w:=by
 have c1:=blk_cell h.blk 1;simp only[zzG,zzH,zzI] at c1;clear h;go_enter Tryz.func62,Tryz.ntmps62;go_wp2;exact bodyPost_ret (v:= .int .i64 n) (by simp[results,Tryz.results62,go_sem]) rfl ⟨rfl,rfl⟩
end Heap
end Go.Proofs.YtjebckehmmbkbaaGreat
