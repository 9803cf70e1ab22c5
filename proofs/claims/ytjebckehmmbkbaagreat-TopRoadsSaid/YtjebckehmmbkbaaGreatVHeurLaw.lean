/- The walk of Heap[star.Place].Pop. A drawn region in which several operations that make memory may come up in any order: each shown once, by what its result is good for. Plain facts on guesses that agree: no Go in sight. -/
import Derived.Below
import Derived.Test.YtjebckehmmbkbaaGreatVHeapPlace
set_option linter.unusedSimpArgs false
set_option linter.unusedVariables false
set_option maxRecDepth 100000
set_option maxHeartbeats 24000000
namespace Go.Proofs.YtjebckehmmbkbaaGreat
namespace HeapP
open Go.RowKit HeapLaw Net
open Heap (Kp Kp.refl Kp.below Kp.alloc Kp.drew Kp.setCell Kp.grown Kp.to fnOf own_short)
theorem HeapAt.cut {w:World} {base H:Nat} {fn:Value} {S m c:Nat} {L:List Pop} (h:HeapAt w base H fn (some ⟨S,0,none⟩) (m+1) c L) {a am b:Int} (hx:L.getD m d0=(a,am,b)) (hS:S≠H) :
 HeapAt ((((w.setCell ⟨S,0,none⟩ (.int .i64 a)).setCell ⟨S,1,none⟩ (.int .i64 am)).setCell ⟨S,2,none⟩ (.int .i64 b)).setCell ⟨H,1,none⟩ (.slice (some ⟨S,0,none⟩) m c)) base H fn (some ⟨S,0,none⟩) m c (cutTop d0 L):=by
 have hS':H≠S:=fun e=>hS e.symm;have h1:=own_set3 h.len h.own 0 (by omega) a am b;rw[Nat.zero_mul,Nat.zero_add,Nat.zero_add] at h1;have h2:=own_short (m:=m) (by rw[List.length_set];exact h.len) h1 (by omega);have hb:=blk_far (blk_far (blk_far h.blk hS' (.int .i64 a) (p:=⟨S,0,none⟩)) hS' (.int .i64 am) (p:=⟨S,1,none⟩)) hS' (.int .i64 b) (p:=⟨S,2,none⟩);have e:cutTop d0 L=(L.set 0 (a,am,b)).take m:=by unfold cutTop;rw[h.len,Nat.add_sub_cancel,hx]
 refine⟨h.hb,?_,?_,?_⟩
 ·exact blk_set hb 1 _
 ·rw[e];exact h2.setCell (h2.ne_ hb (by decide)) _
 ·rw[cutTop_len,h.len];omega
structure Pick (lt:Pop->Pop->Bool) (L:List Pop) (i:Nat) (bb:Bool):Prop where
 l:bb=false->Least d0 lt L i (2*i+1)
 r:bb=true->Least d0 lt L i (2*i+1+1)
def PopSays (lt:Pop->Pop->Bool) (base H:Nat) (fn:Value) (A:Option Addr) (m c:Nat) (L:List Pop) (w:World) (e:Ending) (w':World):Prop :=
 ∃p pm q L',e= .returned (.agg #[.int .i64 p,.int .i64 pm,.int .i64 q])/\L.getD 0 d0=(p,pm,q)/\HeapAt w' base H fn A m c L'/\((p,pm,q)::L').Perm L/\Hp d0 lt L'/\Kp w w' H (Value.slice A (m+1) c).ownBlock
theorem HeapAt.drew1 {w:World} {base H:Nat} {fn:Value} {A:Option Addr} {n c:Nat} {L:List Pop} (h:HeapAt w base H fn A n c L):HeapAt w.drew base H fn A n c L:=h.drewN 1
theorem heap_drew {w:World} {R:Nat} {v:Obj} (h:w.heap[R]?=some v):w.drew.heap[R]?=some v:=h
theorem turned {w0 w:World} {base H R0 R1:Nat} {fn:Value} {S n c:Nat} {L:List Pop} {v0 v1:Obj} (h:HeapAt w base H fn (some ⟨S,0,none⟩) n c L) {i k:Nat} (hi:i<n) (hk:k<n) {a am b x xm y:Int} (hxi:L.getD i d0=(x,xm,y)) (hxk:L.getD k d0=(a,am,b)) (hS:S≠H) (h0:w.heap[R0]?=some v0) (h1:w.heap[R1]?=some v1) (n0:R0≠S) (n1:R1≠S) (hB:Kp w0 w H (some S)) :
 let W:=((((((w.setCell ⟨S,i*3,none⟩ (.int .i64 a)).setCell ⟨S,i*3+1,none⟩ (.int .i64 am)).setCell ⟨S,i*3+2,none⟩ (.int .i64 b)).setCell ⟨S,k*3,none⟩ (.int .i64 x)).setCell ⟨S,k*3+1,none⟩ (.int .i64 xm)).setCell ⟨S,k*3+2,none⟩ (.int .i64 y)).drew
 HeapAt W base H fn (some ⟨S,0,none⟩) n c (swp d0 L i k)/\W.heap[R0]?=some v0/\W.heap[R1]?=some v1/\Kp w0 W H (some S) :=
 ⟨(h.swap hi hk hxi hxk hS).drew1,heap_drew (blk_far (blk_far (blk_far (blk_far (blk_far (blk_far h0 n0 _) n0 _) n0 _) n0 _) n0 _) n0 _),heap_drew (blk_far (blk_far (blk_far (blk_far (blk_far (blk_far h1 n1 _) n1 _) n1 _) n1 _) n1 _) n1 _),((((((hB.setCell (by exact .inr (.inl rfl)) _).setCell (by exact .inr (.inl rfl)) _).setCell (by exact .inr (.inl rfl)) _).setCell (by exact .inr (.inl rfl)) _).setCell (by exact .inr (.inl rfl)) _).setCell (by exact .inr (.inl rfl)) _).drew⟩
theorem pop_any (lt:Pop->Pop->Bool) (o:Ord lt) (hless:LessOk 67 lt) (base H:Nat) (A:Option Addr) (m c:Nat) (L:List Pop) (w:World) (h:HeapAt w base H (fnOf 67) A (m+1) c L) (hp:Hp d0 lt L) (hn:(m+1)*24<=140737488355328) (hb:base<=w.heap.size) :
 Calls Tryz.prog 70 #[.pointer (some ⟨H,0,none⟩)] w fun e w'=>PopSays lt base H (fnOf 67) A m c L w e w':=by
 obtain⟨S,p,pm,q,rfl,hS0,hS1,hSH,hg0,c00,c01,c02,f00,f01,f02⟩:=h.at_ (show 0<m+1 by omega);obtain⟨S',a,am,b,hSe,_,_,_,hgm,cm0,cm1,cm2,_,_,_⟩:=h.at_ (show m<m+1 by omega);injection hSe with hSe;injection hSe with hSe _ _;subst hSe;have hc0:=blk_cell h.blk 0;have hc1:=blk_cell h.blk 1;have hf1:=blk_free h.blk 1;have hlt:=h.lt;have hne:=h.ne;obtain⟨_,hcap⟩:True/\m+1<=c:=⟨trivial,by obtain⟨A',c',hv,hc,_⟩:=h.own.form;injection hv with _ _ hv;have:=h.len;omega⟩;simp only[zzG,zzH,zzI] at hc0 hc1;rw[Nat.zero_mul] at c00 c01 c02 f00 f01 f02;rw[Nat.zero_add] at c01 c02 f01 f02;unfold fnOf at hc0;have b1:(0:Int)<(m:Int)+1:=by omega
 have b2:(m:Int)<(m:Int)+1:=by omega
 have b3:(m:Int)<=(c:Int):=by omega
 have b4:m<=c:=by omega
 have b5:(0:Int)<=(m:Int):=by omega
 have HH:=hid h;have HP:=hid hp;have HG0:=hid hg0;have HGM:=hid hgm;have hSw:=hS1;clear h hp hg0 hgm hne;go_enter Tryz.func70,Tryz.ntmps70;go_wp2
 go_region
 all_goals
  go_wp2;have hcut:=(HH.out.cut HGM.out hSH);have hWs:((((w.setCell ⟨S,0,none⟩ (.int .i64 a)).setCell ⟨S,1,none⟩ (.int .i64 am)).setCell ⟨S,2,none⟩ (.int .i64 b)).setCell ⟨H,1,none⟩ (.slice (some ⟨S,0,none⟩) m c)).heap.size=w.heap.size:=by simp[World.setCell]
  have hBs:Kp w ((((w.setCell ⟨S,0,none⟩ (.int .i64 a)).setCell ⟨S,1,none⟩ (.int .i64 am)).setCell ⟨S,2,none⟩ (.int .i64 b)).setCell ⟨H,1,none⟩ (.slice (some ⟨S,0,none⟩) m c)) H (some S):=((((Kp.refl _ _ _).setCell (by exact .inr (.inl rfl)) _).setCell (by exact .inr (.inl rfl)) _).setCell (by exact .inr (.inl rfl)) _).setCell (by exact .inl rfl) _;have hdn:=cutTop_dn HP.out;have hpc:=cutTop_perm (d:=d0) (L:=L) (fun e=>by have:=HH.out.len;rw[e] at this;simp at this);rw[HG0.out] at hpc;have HCUT:=hid hcut;have HDN0:=hid hdn;have HPC:=hid hpc;have HO:=hid o;have HL:=hid hless;generalize ((((w.setCell ⟨S,0,none⟩ (.int .i64 a)).setCell ⟨S,1,none⟩ (.int .i64 am)).setCell ⟨S,2,none⟩ (.int .i64 b)).setCell ⟨H,1,none⟩ (.slice (some ⟨S,0,none⟩) m c))=W0 at *;have hR0:=blk_alloc (heap_alloc_new W0 (.cells #[.int .i64 0,.int .i64 0,.int .i64 0] 129)) (.cells #[.int .i64 p,.int .i64 pm,.int .i64 q] 129);have hR1:=heap_alloc_new (W0.alloc (.cells #[.int .i64 0,.int .i64 0,.int .i64 0] 129)) (.cells #[.int .i64 p,.int .i64 pm,.int .i64 q] 129);have hz1:(W0.alloc (.cells #[.int .i64 0,.int .i64 0,.int .i64 0] 129)).heap.size=w.heap.size+1:=by simp[hWs]
  rw[hWs] at hR0;rw[hz1] at hR1;have hBx:Kp w ((W0.alloc (.cells #[.int .i64 0,.int .i64 0,.int .i64 0] 129)).alloc (.cells #[.int .i64 p,.int .i64 pm,.int .i64 q] 129)) H (some S):=(hBs.alloc _).alloc _;have HR0:=hid hR0;have HR1:=hid hR1;clear hcut hdn hpc o hless hR0 hR1 hz1 hBs c00 c01 c02 f00 f01 f02 cm0 cm1 cm2 hc0 hc1 hf1 hWs
  go_loopw [5] (fun s5 wr=>∃(i:Nat) (L':List Pop),i<=m/\s5= .int .i64 i/\HeapAt wr base H (fnOf 67) (some ⟨S,0,none⟩) m c L'/\L'.Perm (cutTop d0 L)/\Dn d0 lt L' i/\wr.heap[w.heap.size]?=some (.cells #[.int .i64 0,.int .i64 0,.int .i64 0] 129 (0,0))/\wr.heap[w.heap.size+1]?=some (.cells #[.int .i64 p,.int .i64 pm,.int .i64 q] 129 (0,0))/\Kp w wr H (some S)) (fun s5 _=>m - (intOf s5).toNat)
  case atStart=>exact⟨0,cutTop d0 L,Nat.zero_le _,rfl,((HCUT.out.alloc _).alloc _).drewN 1,List.Perm.refl _,HDN0.out,HR0.out,HR1.out,hBx.drew⟩
  case round =>
   obtain⟨i,L2,him0,rfl,hh,hpm,hdn,hR2,hR3,hB⟩:=hrel;have HPM:=hid hpm;have HDN:=hid hdn;clear HCUT HDN0 HR0 HR1 hBx hpm hdn
   by_cases hk:2*i+1<m
   ·have HR2:=hid hR2
    have HR3:=hid hR3;have HHr:=hid hh;have c0:=blk_cell hh.blk 0;have c1:=blk_cell hh.blk 1;simp only[zzG,zzH,zzI] at c0 c1;unfold fnOf at c0;have hHs:=hh.lt;have hSs:S<wr.heap.size:=by have:=lt_of_block hR2;omega
    have hi2:2*(i:Int)+1<m:=by omega
    clear hR2 hR3;go_upto_region 8 with fail;obtain⟨k1,hk1⟩:∃k1:Nat,k1=2*i+1:=⟨_,rfl⟩;have hk1e:2*(i:Int)+1=(k1:Int):=by omega
    rw[hk1e] at *;have HK1:=hid hk1;have hk1m:k1<m:=by omega
    clear hk hk1 hk1e
    go_cut [73] from 48 to 73 (fun s73 wx=>∃bb,s73= .bool bb/\Pick lt L2 i bb/\HeapAt wx base H (fnOf 67) (some ⟨S,0,none⟩) m c L2/\wx.heap[w.heap.size]?=some (.cells #[.int .i64 0,.int .i64 0,.int .i64 0] 129 (0,0))/\wx.heap[w.heap.size+1]?=some (.cells #[.int .i64 p,.int .i64 pm,.int .i64 q] 129 (0,0))/\Kp w wx H (some S))
    case first =>
     by_cases hg:k1+1<m
     ·have hk2m:(k1:Int)+1<m:=by omega
      have hwr:IntKind.i64.wrap ((k1:Int)+1)=(k1:Int)+1:=IntWalk.i64_in _ (by omega);obtain⟨T,a1,m1,e1,hTe,_,_,_,hg1,c10,c11,c12,_,_,_⟩:=hh.at_ hg;injection hTe with hTe;injection hTe with hTe _ _;subst hTe;obtain⟨T,a0,m0,e0,hTe,_,_,_,hg0',c00,c01,c02,_,_,_⟩:=hh.at_ hk1m;injection hTe with hTe;injection hTe with hTe _ _;subst hTe;have y1:(k1:Int)<m:=by omega
      have y2:¬((k1:Int)<0):=by omega
      have y3:¬((k1:Int)+1<0):=by omega
      have y4:(0:Int)<=(k1:Int)+1:=by omega
      have hl:=fun W=>HL.out W a1 m1 e1 a0 m0 e0;have hlen:=hh.len;have HG1:=hid hg1;have HGZ:=hid hg0';have HLEN:=hid hlen;generalize hbb:lt (a1,m1,e1) (a0,m0,e0)=bb at hl;have KL:=hid hl;have HBB:=hid hbb;clear hg1 hg0' hl hbb hh hlen
      go_region_held3 (fun w'=>w'.cell? ⟨H,0,none⟩=some (.func (.func 67) #[] #[])/\w'.cell? ⟨H,1,none⟩=some (.slice (some ⟨S,0,none⟩) m c)/\w'.cell? ⟨S,(k1+1)*3,none⟩=some (.int .i64 a1)/\w'.cell? ⟨S,(k1+1)*3+1,none⟩=some (.int .i64 m1)/\w'.cell? ⟨S,(k1+1)*3+2,none⟩=some (.int .i64 e1)/\w'.cell? ⟨S,k1*3,none⟩=some (.int .i64 a0)/\w'.cell? ⟨S,k1*3+1,none⟩=some (.int .i64 m0)/\w'.cell? ⟨S,k1*3+2,none⟩=some (.int .i64 e0))
       (first
         |go_keep
         |(go_split_ands
           refine⟨?_,?_,?_,?_,?_,?_,?_,?_⟩
           ·(rw[cH];assumption)
           ·(rw[cH];assumption)
           ·(rw[cS];assumption)
           ·(rw[cS];assumption)
           ·(rw[cS];assumption)
           ·(rw[cS];assumption)
           ·(rw[cS];assumption)
           ·(rw[cS];assumption)))
       (first
         |(go_at_call 67;refine(KL.out _).mono ?_;rintro e w5 ⟨rfl,hb5⟩;have cH:=(keepAt hb5 (b:=H) hHs).1;have cS:=(keepAt hb5 (b:=S) hSs).1))
      all_goals
       clear cH cS;have hb6:Below wr.heap.size wr w5:=by first|exact hb5|exact(Below.refl _ _).drew.trans hb5
       have hl0:bb=false->Least d0 lt L2 i (2*i+1):=fun hf=>by
        refine least_left HO.out (by have:=HLEN.out;have:=HK1.out;omega) (fun _=> ?_);have q1:=HG1.out;have q0:=HGZ.out;rw[HK1.out] at q1 q0;rw[show 2*i+2=2*i+1+1 from rfl,q1,q0,HBB.out];exact hf
       have hl1:bb=true->Least d0 lt L2 i (2*i+1+1):=fun ht=>by
        refine least_right HO.out (by have:=HLEN.out;have:=HK1.out;omega) ?_;have q1:=HG1.out;have q0:=HGZ.out;rw[HK1.out] at q1 q0;rw[show 2*i+2=2*i+1+1 from rfl,q1,q0,HBB.out];exact ht
       have hh5:=HHr.out.keep hb6;have hB5:=hB.below hb6;have hR5:=blk_below HR2.out hb6 (lt_of_block HR2.out);have hR6:=blk_below HR3.out hb6 (lt_of_block HR3.out);have HL0:=hid hl0;have HL1:=hid hl1;clear hb5 hb6 hl0 hl1
       go_wp2_with fail
       go_meet
       first|exact⟨bb,rfl,⟨HL0.out,HL1.out⟩,hh5,hR5,hR6,hB5⟩|exact⟨⟨HL0.out,HL1.out⟩,hh5,hR5,hR6,hB5⟩|exact⟨bb,by simp,⟨HL0.out,HL1.out⟩,hh5,hR5,hR6,hB5⟩
     ·have hd:decide ((k1:Int)+1<m)=false:=by simp;omega
      have hwr:IntKind.i64.wrap ((k1:Int)+1)=(k1:Int)+1:=IntWalk.i64_in _ (by omega);have hlen:=hh.len;have hl0:Least d0 lt L2 i (2*i+1):=least_left HO.out (by have:=HK1.out;omega) (fun h=>absurd h (by have:=HK1.out;omega));have HL0:=hid hl0;clear hl0 hlen hh;go_quiet (fail)
      go_wp2_with fail
      go_meet
      first|exact⟨false,rfl,⟨fun _=>HL0.out,fun h=>by cases h⟩,HHr.out.drewN _,HR2.out,HR3.out,⟨hB.os,hB.tape,hB.output,hB.size,hB.block⟩⟩|exact⟨⟨fun _=>HL0.out,fun h=>by cases h⟩,HHr.out.drewN _,HR2.out,HR3.out,⟨hB.os,hB.tape,hB.output,hB.size,hB.block⟩⟩
    case rest =>
     obtain⟨bb,rfl,⟨hl0,hl1⟩,hh2,hR2,hR3,hB2⟩:=hcut;clear c0 c1 hHs hSs hB hh HHr HR2 HR3;have HL0:=hid hl0;have HL1:=hid hl1;have hwr:IntKind.i64.wrap ((k1:Int)+1)=(k1:Int)+1:=IntWalk.i64_in _ (by omega);clear hl0 hl1
     go_upto_if 73 with fail
     go_cut [6] from 74 to 75 (fun s6 wx=>∃kk:Nat,s6= .int .i64 kk/\Hid (Least d0 lt L2 i kk)/\wx=wc)
     case first =>
      cases bb with
      |false =>
       go_wp2_with fail
       go_meet
       exact⟨k1,rfl,hid (by rw[HK1.out];exact HL0.out (by trivial)),rfl⟩
      |true =>
       go_wp2_with fail
       go_meet
       exact⟨k1+1,rfl,hid (by rw[HK1.out];exact HL1.out (by trivial)),rfl⟩
     case rest =>
     obtain⟨kk,rfl,hL',rfl⟩:=hcut;have hL:=hL'.out;clear HL0 HL1 hwr hL';go_upto_region 10 with fail;have hkm:kk<m:=by have:=hL.kl;rw[hh2.len] at this;exact this
     have him:i<m:=by omega
     have hik:i<kk:=by have h0:=hL.k0;have h1:=par_lt h0;have h2:=hL.kp;omega
     obtain⟨bb,hbb⟩:∃bb,bb=lt (L2.getD kk d0) (L2.getD i d0):=⟨_,rfl⟩;have HBB:=hid hbb;have HL':=hid hL;clear hL
     go_cut [95] from 76 to 95 (fun s95 wx=>∃sb,s95= .bool sb/\Hid (sb= !bb)/\HeapAt wx base H (fnOf 67) (some ⟨S,0,none⟩) m c L2/\wx.heap[w.heap.size]?=some (.cells #[.int .i64 0,.int .i64 0,.int .i64 0] 129 (0,0))/\wx.heap[w.heap.size+1]?=some (.cells #[.int .i64 p,.int .i64 pm,.int .i64 q] 129 (0,0))/\Kp w wx H (some S))
     case first =>
      obtain⟨T,a2,m2,e2,hTe,_,_,_,hg2,c20,c21,c22,f20,f21,f22⟩:=hh2.at_ hkm;injection hTe with hTe;injection hTe with hTe _ _;subst hTe;obtain⟨T,a3,m3,e3,hTe,_,_,_,hg3,c30,c31,c32,f30,f31,f32⟩:=hh2.at_ him;injection hTe with hTe;injection hTe with hTe _ _;subst hTe;have d0':=blk_cell hh2.blk 0;have d1':=blk_cell hh2.blk 1;simp only[zzG,zzH,zzI] at d0' d1';unfold fnOf at d0';have hHs:=hh2.lt;have hSs:S<wc.heap.size:=by have:=hR2;have:=lt_of_block this;omega
      have y1:(kk:Int)<m:=by omega
      have y2:(i:Int)<m:=by omega
      have y3:¬((kk:Int)<0):=by omega
      have y4:¬((i:Int)<0):=by omega
      rw[hg2,hg3] at hbb;have hl:=fun W=>HL.out W a2 m2 e2 a3 m3 e3;rw[<-hbb] at hl;have KL:=hid hl;have HH2:=hid hh2;have HR2:=hid hR2;have HR3:=hid hR3;clear hg2 hg3 hh2 hR2 hR3 hl hbb f20 f21 f22 f30 f31 f32
      go_region_held3 (fun w'=>w'.cell? ⟨H,0,none⟩=some (.func (.func 67) #[] #[])/\w'.cell? ⟨H,1,none⟩=some (.slice (some ⟨S,0,none⟩) m c)/\w'.cell? ⟨S,kk*3,none⟩=some (.int .i64 a2)/\w'.cell? ⟨S,kk*3+1,none⟩=some (.int .i64 m2)/\w'.cell? ⟨S,kk*3+2,none⟩=some (.int .i64 e2)/\w'.cell? ⟨S,i*3,none⟩=some (.int .i64 a3)/\w'.cell? ⟨S,i*3+1,none⟩=some (.int .i64 m3)/\w'.cell? ⟨S,i*3+2,none⟩=some (.int .i64 e3))
       (first
         |go_keep
         |(go_split_ands
           refine⟨?_,?_,?_,?_,?_,?_,?_,?_⟩
           ·(rw[cH];assumption)
           ·(rw[cH];assumption)
           ·(rw[cS];assumption)
           ·(rw[cS];assumption)
           ·(rw[cS];assumption)
           ·(rw[cS];assumption)
           ·(rw[cS];assumption)
           ·(rw[cS];assumption)))
       (first
         |(go_at_call 67;refine(KL.out _).mono ?_;rintro e w5 ⟨rfl,hb5⟩;have cH:=(keepAt hb5 (b:=H) hHs).1;have cS:=(keepAt hb5 (b:=S) hSs).1))
      all_goals
       clear cH cS;have hb6:Below wc.heap.size wc w5:=by first|exact hb5|exact(Below.refl _ _).drew.trans hb5
       have hh5:=HH2.out.keep hb6;have hB5:=hB2.below hb6;have hR5:=blk_below HR2.out hb6 (lt_of_block HR2.out);have hR6:=blk_below HR3.out hb6 (lt_of_block HR3.out);clear hb5 hb6
       go_wp2_with fail
       go_meet
       first|exact⟨!bb,rfl,hid rfl,hh5,hR5,hR6,hB5⟩|exact⟨_,rfl,hid rfl,hh5,hR5,hR6,hB5⟩|exact⟨hid rfl,hh5,hR5,hR6,hB5⟩|exact⟨!bb,by simp,hid rfl,hh5,hR5,hR6,hB5⟩
     case rest =>
      obtain⟨sb,rfl,hsb,hh5,hR5,hR6,hB5⟩:=hcut;have hHw:=hh5.lt;have hwl:=lt_of_block hR5;clear hh2 hR2 hR3 hB2 hbb;cases sb with
      |true =>
       have hlt2:lt (L2.getD kk d0) (L2.getD i d0)=false:=by have h1:=hsb.out;rw[HBB.out] at h1;cases h2:lt (L2.getD kk d0) (L2.getD i d0) with|false=>rfl|true=>rw[h2] at h1;cases h1
       have hfin:=HDN.out.done HO.out HL'.out hlt2;have r0:=blk_cell hR5 0;have r1:=blk_cell hR5 1;have r1':=blk_cell hR5 2;have r2:=blk_cell hR6 0;have r3:=blk_cell hR6 1;have r3':=blk_cell hR6 2;have g0:=blk_free hR5 0;have g1:=blk_free hR5 1;have g1':=blk_free hR5 2;simp only[zzG,zzH,zzI] at r0 r1 r1' r2 r3 r3';clear hsb hlt2 hik him hkm;go_wp2;refine bodyPost_ret (v:= .agg #[.int .i64 p,.int .i64 pm,.int .i64 q]) (by simp[results,Tryz.results70,go_sem,r0,r1,r1',r2,r3,r3',g0,g1,g1']) rfl ?_;exact⟨p,pm,q,L2,rfl,HG0.out,⟨hh5.hb,blk_far (blk_far (blk_far hh5.blk (by dsimp only;omega) _) (by dsimp only;omega) _) (by dsimp only;omega) _,((hh5.own.setCell (by simp[Value.ownBlock];omega) _).setCell (by simp[Value.ownBlock];omega) _).setCell (by simp[Value.ownBlock];omega) _,hh5.len⟩,(List.Perm.cons _ HPM.out).trans HPC.out,hfin,((hB5.setCell (by exact .inr (.inr zzL)) _).setCell (by exact .inr (.inr zzL)) _).setCell (by exact .inr (.inr zzL)) _⟩
      |false =>
       have hlt2:lt (L2.getD kk d0) (L2.getD i d0)=true:=by have h1:=hsb.out;rw[HBB.out] at h1;cases h2:lt (L2.getD kk d0) (L2.getD i d0) with|true=>rfl|false=>rw[h2] at h1;cases h1
       obtain⟨T,a2,m2,e2,hTe,_,_,_,hg2,c20,c21,c22,f20,f21,f22⟩:=hh5.at_ hkm;injection hTe with hTe;injection hTe with hTe _ _;subst hTe;obtain⟨T,a3,m3,e3,hTe,_,_,_,hg3,c30,c31,c32,f30,f31,f32⟩:=hh5.at_ him;injection hTe with hTe;injection hTe with hTe _ _;subst hTe;have d0':=blk_cell hh5.blk 0;have d1':=blk_cell hh5.blk 1;simp only[zzG,zzH,zzI] at d0' d1';unfold fnOf at d0';have y1:(kk:Int)<m:=by omega
       have y2:(i:Int)<m:=by omega
       have y3:¬((kk:Int)<0):=by omega
       have y4:¬((i:Int)<0):=by omega
       have hne0:i≠kk:=by omega
       have hne1:¬i*3=kk*3:=by omega
       have hne2:¬i*3=kk*3+1:=by omega
       have hne3:¬i*3=kk*3+2:=by omega
       have hne4:¬i*3+1=kk*3:=by omega
       have hne5:¬i*3+1=kk*3+1:=by omega
       have hne6:¬i*3+1=kk*3+2:=by omega
       have hne7:¬i*3+2=kk*3:=by omega
       have hne8:¬i*3+2=kk*3+1:=by omega
       have hne9:¬i*3+2=kk*3+2:=by omega
       have HLT:=hid hlt2;have HG2:=hid hg2;have HG3:=hid hg3;have HH5:=hid hh5;have HR5:=hid hR5;have HR6:=hid hR6;clear hsb hlt2 hg2 hg3 hh5 hR5 hR6;go_wp2;have HX:=hid (turned (R0:=w.heap.size) (R1:=w.heap.size+1) HH5.out him hkm HG3.out HG2.out hSH HR5.out HR6.out (by omega) (by omega) hB5)
       go_big_region
       all_goals
        clear hne0 hne1 hne2 hne3 hne4 hne5 hne6 hne7 hne8 hne9;go_wp2
        go_roundw
        case' rel =>
         have hln:L2.length=m:=HH5.out.len;have hst:=HDN.out.step HO.out HL'.out HLT.out;obtain⟨t1,t2,t3,t4⟩:=HX.out;have t5:=(swp_perm (d:=d0) (L:=L2) (i:=i) (k:=kk) (by omega) (by omega) (by omega)).trans HPM.out;exact⟨kk,swp d0 L2 i kk,Nat.le_of_lt hkm,rfl,t1,t5,hst,t2,t3,t4⟩
        case' measure=>simp[intOf];omega
   ·have hln:=hh.len
    have hfin:=HDN.out.leaf (by omega);have r0:=blk_cell hR2 0;have r1:=blk_cell hR2 1;have r1':=blk_cell hR2 2;have r2:=blk_cell hR3 0;have r3:=blk_cell hR3 1;have r3':=blk_cell hR3 2;have g0:=blk_free hR2 0;have g1:=blk_free hR2 1;have g1':=blk_free hR2 2;simp only[zzG,zzH,zzI] at r0 r1 r1' r2 r3 r3';have hd:¬(2*(i:Int)+1<m):=by omega
    have HHr:=hid hh;have hHl:=hh.lt;have hwl:=lt_of_block hR2;clear hh hln hR2 hR3;go_wp2;refine bodyPost_ret (v:= .agg #[.int .i64 p,.int .i64 pm,.int .i64 q]) (by simp[results,Tryz.results70,go_sem,r0,r1,r1',r2,r3,r3',g0,g1,g1']) rfl ?_;exact⟨p,pm,q,L2,rfl,HG0.out,⟨HHr.out.hb,blk_far (blk_far (blk_far HHr.out.blk (by dsimp only;omega) _) (by dsimp only;omega) _) (by dsimp only;omega) _,((HHr.out.own.setCell (by simp[Value.ownBlock];omega) _).setCell (by simp[Value.ownBlock];omega) _).setCell (by simp[Value.ownBlock];omega) _,HHr.out.len⟩,(List.Perm.cons _ HPM.out).trans HPC.out,hfin,((hB.setCell (by exact .inr (.inr zzL)) _).setCell (by exact .inr (.inr zzL)) _).setCell (by exact .inr (.inr zzL)) _⟩
end HeapP
namespace Makers
open Go Go.RowKit
def putsF (a:Act) (D:List Tmp) (f:Tmp->Value):Act:=D.foldl (fun x d=>x.put (some d) (f d)) a
theorem putsF_size (D:List Tmp) (f:Tmp->Value):∀a:Act,(putsF a D f).tmps.size=a.tmps.size/\(putsF a D f).defers=a.defers:=by
 induction D with
 |nil=>intro a;exact⟨rfl,rfl⟩
 |cons d D ih =>
  intro a;have h:=ih (a.put (some d) (f d));refine⟨h.1.trans ?_,h.2⟩;simp[Act.put]
theorem putsF_get (D:List Tmp) (f:Tmp->Value) (t:Nat):∀a:Act,(putsF a D f).tmps[t]?=if t∈D/\t<a.tmps.size then some (f t) else a.tmps[t]?:=by
 induction D with
 |nil=>intro a;simp[putsF]
 |cons d D ih =>
  intro a;have h:=ih (a.put (some d) (f d));have e:putsF a (d::D) f=putsF (a.put (some d) (f d)) D f:=rfl;have hs:(a.put (some d) (f d)).tmps.size=a.tmps.size:=by simp[Act.put]
  rw[e,h,hs]
  have hg:(a.put (some d) (f d)).tmps[t]?=if t=d/\t<a.tmps.size then some (f d) else a.tmps[t]?:=by
   simp only[Act.put,Array.getElem?_setIfInBounds]
   by_cases h1:d=t
   ·subst h1
    by_cases h2:d<a.tmps.size
    ·simp[h2]
    ·simp[h2,Array.getElem?_eq_none (Nat.le_of_not_lt h2)]
   ·rw[if_neg h1,if_neg (fun h=>h1 h.1.symm)]
  rw[hg]
  by_cases h2:t<a.tmps.size
  ·by_cases h1:t∈D
   ·simp[h1,h2]
   ·by_cases h3:t=d
    ·subst h3;simp[h1,h2]
    ·simp[h1,h2,h3]
  ·simp[h2]
theorem act_ext {a b:Act} (h1:∀t:Nat,a.tmps[t]?=b.tmps[t]?) (h2:a.defers=b.defers):a=b:=by
 cases a;cases b;simp only[Act.mk.injEq] at *;exact⟨Array.ext_getElem? h1,h2⟩
theorem putsF_put {a:Act} {D:List Tmp} {f:Tmp->Value} {d:Tmp} (hd:d∈D) (v:Value):(putsF a D f).put (some d) v=putsF a D (fun x=>if x=d then v else f x):=by
 refine act_ext (fun t=> ?_) ?_
 ·rw[putsF_get]
  simp only[Act.put,Array.getElem?_setIfInBounds,(putsF_size D f a).1,putsF_get]
  by_cases h1:d=t
  ·subst h1
   by_cases h2:d<a.tmps.size
   ·simp[h2,hd]
   ·simp[h2,Array.getElem?_eq_none (Nat.le_of_not_lt h2)]
  ·rw[if_neg h1,show (if t=d then v else f t)=f t from if_neg (fun h=>h1 h.symm)]
 ·exact(putsF_size D f a).2.trans (putsF_size D _ a).2.symm
theorem putsF_self (a:Act) (D:List Tmp):putsF a D (fun d=>a.tmps.getD d undef)=a:=by
 refine act_ext (fun t=> ?_) (putsF_size D _ a).2;rw[putsF_get];split
 ·rename_i h
  rw[Array.getElem?_eq_getElem h.2,Array.getD_eq_getD_getElem?,Array.getElem?_eq_getElem h.2]
  rfl
 ·rfl
def mnum (ms:List (Nat × Tmp)):List Nat:=ms.map (·.1)
def mdst (ms:List (Nat × Tmp)):List Tmp:=ms.map (·.2)
def topo (md:Region.Mode) (ops:Array Oper) (listed:Array Bool):List Nat->List (Nat × Tmp)->Bool
 |_,[]=>true
 |dn,p::r=>(match ops[p.1]? with
    |none=>false
    |some o=>o.guard.isNone && (o.dst == some p.2) && (listed.getD p.1 true == false) && o.after.all (fun e=> !Region.binds md e || listed.getD e.on false || dn.contains e.on)) && topo md ops listed (p.1::dn) r
def rest (md:Region.Mode) (ops:Array Oper) (listed:Array Bool) (ms:List (Nat × Tmp)):Bool :=
 (List.range ops.size).all fun j=>listed.getD j true || (mnum ms).contains j || (match ops[j]? with
   |none=>true
   |some o=>((mnum ms).all fun i=>o.after.any fun e=>Region.binds md e && e.on == i) || o.after.any fun e=>Region.binds md e && (listed.getD e.on true == false) && !(mnum ms).contains e.on)
def lists (listed:Array Bool) (ms:List (Nat × Tmp)):Array Bool:=ms.foldl (fun L p=>L.setIfInBounds p.1 true) listed
theorem lists_get (ms:List (Nat × Tmp)) (j:Nat):∀L:Array Bool,(lists L ms)[j]?=if j∈mnum ms/\j<L.size then some true else L[j]?:=by
 induction ms with
 |nil=>intro L;simp[lists,mnum]
 |cons p ms ih =>
  intro L;have e:lists L (p::ms)=lists (L.setIfInBounds p.1 true) ms:=rfl;rw[e,ih];have hs:(L.setIfInBounds p.1 true).size=L.size:=by simp
  rw[hs,Array.getElem?_setIfInBounds];have hm:mnum (p::ms)=p.1::mnum ms:=rfl;rw[hm]
  by_cases h2:j<L.size
  ·by_cases h1:j∈mnum ms
   ·simp[h1,h2]
   ·by_cases h3:p.1=j
    ·subst h3;simp[h1,h2]
    ·have h4:¬j=p.1:=fun h=>h3 h.symm
     simp[h1,h2,h3,h4]
  ·by_cases h3:p.1=j
   ·subst h3;simp[h2]
   ·simp[h2,h3]
theorem topo_mem {md:Region.Mode} {ops:Array Oper} {listed:Array Bool}:∀(ms:List (Nat × Tmp)) (dn:List Nat),topo md ops listed dn ms=true->∀p∈ms,∃o,ops[p.1]?=some o/\o.guard=none/\o.dst=some p.2/\listed[p.1]?=some false
 | [],_,_,p,hp=>by cases hp
 |q::r,dn,h,p,hp=>by
  unfold topo at h;rw[Bool.and_eq_true] at h;rcases List.mem_cons.1 hp with rfl|hp
  ·cases ho:ops[p.1]? with
   |none=>rw[ho] at h;exact absurd h.1 (by simp)
   |some o =>
    rw[ho] at h;simp only[Bool.and_eq_true,Option.isNone_iff_eq_none,beq_iff_eq] at h;refine⟨o,rfl,h.1.1.1.1,h.1.1.1.2,?_⟩;have h3:=h.1.1.2;rw[Array.getD_eq_getD_getElem?] at h3;cases hl:listed[p.1]? with
    |none=>rw[hl] at h3;cases h3
    |some b=>rw[hl] at h3;simp at h3;rw[h3]
  ·exact topo_mem r _ h.2 p hp
theorem topo_ready {md:Region.Mode} {ops:Array Oper} {listed L:Array Bool}:∀(ms:List (Nat × Tmp)) (dn:List Nat) (r:List (Nat × Tmp)),topo md ops listed dn ms=true->r≠[]->(∀p∈r,p∈ms) ->
 (∀j,listed.getD j false=true->L.getD j false=true)->(∀j∈dn,L.getD j false=true)->(∀p∈ms,p ∉ r->L.getD p.1 false=true)->(∀p∈r,L.getD p.1 true=false)->∃p∈r,p.1∈Region.ready md ops L
 | [],_,r,_,hr,hs,_,_,_,_=>by
   obtain⟨p,hp⟩:=List.exists_mem_of_ne_nil r hr;cases hs p hp
 |q::ms,dn,r,h,hr,hs,hl,hd,hm,hn=>by
  unfold topo at h;rw[Bool.and_eq_true] at h
  by_cases hq:q∈r
  ·refine⟨q,hq,mem_ready.2 ⟨hn q hq,?_⟩⟩
   cases ho:ops[q.1]? with
   |none=>rw[ho] at h;exact absurd h.1 (by simp)
   |some o =>
    rw[ho] at h;simp only[Bool.and_eq_true] at h;refine⟨o,rfl,fun e he hb=> ?_⟩;have h4:=(Array.all_eq_true_iff_forall_mem.1 h.1.2) e he;simp only[hb,Bool.not_true,Bool.false_or,Bool.or_eq_true,List.contains_iff_mem] at h4;rcases h4 with h4|h4
    ·exact hl _ h4
    ·exact hd _ h4
  ·refine topo_ready ms (q.1::dn) r h.2 hr (fun p hp=> ?_) hl (fun j hj=> ?_) (fun p hp hn'=>hm p (List.mem_cons_of_mem _ hp) hn') hn
   ·rcases List.mem_cons.1 (hs p hp) with e|e
    ·rw[e] at hp;exact absurd hp hq
    ·exact e
   ·rcases List.mem_cons.1 hj with e|e
    ·rw[e];exact hm q (List.mem_cons_self ..) hq
    ·exact hd j e
section
variable {P:Program} {ops:Array Oper} {Q:Exit->Act->World->Prop} {md:Region.Mode} {S:World->Prop} {ms:List (Nat × Tmp)} {listed:Array Bool} {a:Act} {w:World} {φ:Nat->Value->Nat->Nat->World->Prop} {fuel:Nat}
theorem wpAnyH_makers (h1:topo md ops listed [] ms=true) (h2:rest md ops listed ms=true) (hn1:(mnum ms).Nodup) (hn2:(mdst ms).Nodup) (hS:S w)
 (hst:∀p∈ms,∀v a b w1 w2,φ p.1 v a b w1->Below w1.heap.size w1 w2->φ p.1 v a b w2)
 (hstep:∀p∈ms,∀o,ops[p.1]?=some o->∀f w1,S w1->Below w.heap.size w w1->∀K:Act->World->Prop,(∀v w2,φ p.1 v w1.heap.size w2.heap.size w2->S w2->Below w1.heap.size w1 w2->K ((putsF a (mdst ms) f).put (some p.2) v) w2)->o.wp P (putsF a (mdst ms) f) w1 K Q)
 (hfin:∀(f:Tmp->Value) (lo hi:Nat->Nat) (w1:World),S w1->Below w.heap.size w w1->(∀p∈ms,φ p.1 (f p.2) (lo p.1) (hi p.1) w1/\w.heap.size<=lo p.1/\hi p.1<=w1.heap.size)->(∀p∈ms,∀q∈ms,p.1≠q.1->hi p.1<=lo q.1\/hi q.1<=lo p.1)->wpAnyH P md ops Q S fuel (lists listed ms) (putsF a (mdst ms) f) w1) :
 wpAnyH P md ops Q S (fuel+ms.length) listed a w:=by
 have hmem:=topo_mem ms [] h1
 have key:∀(k:Nat) (r:List (Nat × Tmp)),r.length=k->r.Nodup->(∀p∈r,p∈ms)->∀(f:Tmp->Value) (lo hi:Nat->Nat) (w1:World) (L:Array Bool),S w1->Below w.heap.size w w1->(∀p∈ms,p ∉ r->φ p.1 (f p.2) (lo p.1) (hi p.1) w1/\w.heap.size<=lo p.1/\hi p.1<=w1.heap.size)->(∀p∈ms,∀q∈ms,p ∉ r->q ∉ r->p.1≠q.1->hi p.1<=lo q.1\/hi q.1<=lo p.1) ->
  L.size=listed.size->(∀j,L[j]?=if j∈mnum ms/\j ∉ mnum r then some true else listed[j]?)->wpAnyH P md ops Q S (fuel+k) L (putsF a (mdst ms) f) w1:=by
  intro k
  induction k with
  |zero =>
   intro r hr _ _ f lo hi w1 L hS1 hb hph hdj hsz hL;obtain rfl:=List.eq_nil_of_length_eq_zero hr
   have e:L=lists listed ms:=by
    refine Array.ext_getElem? fun j=> ?_;rw[hL,lists_get]
    by_cases hj:j∈mnum ms
    ·obtain⟨p,hp,rfl⟩:=List.mem_map.1 hj
     obtain⟨_,_,_,_,hlp⟩:=hmem p hp;have hlt:p.1<listed.size:=(Array.getElem?_eq_some_iff.1 hlp).1;rw[if_pos ⟨hj,by simp[mnum]⟩,if_pos ⟨hj,hlt⟩]
    ·simp[hj]
   rw[e];exact hfin f lo hi w1 hS1 hb (fun p hp=>hph p hp (by simp)) (fun p hp q hq=>hdj p hp q hq (by simp) (by simp))
  |succ k ih =>
   intro r hr hrn hrm f lo hi w1 L hS1 hb hph hdj hsz hL;have hne:r≠[]:=fun e=>by rw[e] at hr;cases hr
   have hidx:∀p∈ms,∀q∈ms,p.1=q.1->p=q:=fun p hp q hq e=>by
    have:=List.pairwise_map.1 hn1;obtain⟨i,hi,rfl⟩:=List.getElem_of_mem hp;obtain⟨j,hj,rfl⟩:=List.getElem_of_mem hq;rcases Nat.lt_trichotomy i j with h|h|h
    ·exact absurd e (List.pairwise_iff_getElem.1 this i j hi hj h)
    ·subst h;rfl
    ·exact absurd e.symm (List.pairwise_iff_getElem.1 this j i hj hi h)
   have hrnum:∀p∈ms,p.1∈mnum r->p∈r:=fun p hp h=>by
    obtain⟨q,hq,e⟩:=List.mem_map.1 h
    rwa [hidx p hp q (hrm q hq) e.symm]
   have hLr:∀p∈r,L[p.1]?=some false:=fun p hp=>by
    obtain⟨_,_,_,_,hlp⟩:=hmem p (hrm p hp);rw[hL,if_neg (fun h=>h.2 (List.mem_map.2 ⟨p,hp,rfl⟩)),hlp]
   have hLd:∀p∈ms,p ∉ r->L.getD p.1 false=true:=fun p hp hnr=>by
    rw[Array.getD_eq_getD_getElem?,hL,if_pos ⟨List.mem_map.2 ⟨p,hp,rfl⟩,fun h=>hnr (hrnum p hp h)⟩]
    rfl
   have hrd:∀i∈Region.ready md ops L,∃p∈r,p.1=i:=fun i hi=>by
    obtain⟨h0,o,ho,hall⟩:=mem_ready.1 hi
    by_cases him:i∈mnum ms
    ·obtain⟨p,hp,rfl⟩:=List.mem_map.1 him
     by_cases hpr:p∈r
     ·exact⟨p,hpr,rfl⟩
     ·have:=hLd p hp hpr
      rw[Array.getD_eq_getD_getElem?] at h0 this;cases hx:L[p.1]? with
      |none=>rw[hx] at h0;cases h0
      |some b=>rw[hx] at h0 this;simp at h0 this;rw[h0] at this;cases this
    ·exfalso
     have hlt:i<ops.size:=(Array.getElem?_eq_some_iff.1 ho).1;have h5:=List.all_eq_true.1 h2 i (List.mem_range.2 hlt);have hLi:L[i]?=listed[i]?:=by rw[hL,if_neg (fun h=>him h.1)]
     have hli:listed.getD i true=false:=by
      rw[Array.getD_eq_getD_getElem?, <-hLi, <-Array.getD_eq_getD_getElem?];exact h0
     rw[hli,ho] at h5;simp only[Bool.false_or,Bool.or_eq_true,List.contains_iff_mem,him,false_or] at h5;rcases h5 with h5|h5
     ·obtain⟨p,hp⟩:=List.exists_mem_of_ne_nil r hne
      have h6:=List.all_eq_true.1 h5 p.1 (List.mem_map.2 ⟨p,hrm p hp,rfl⟩);rw[Array.any_eq_true] at h6;obtain⟨x,hx,h6⟩:=h6;simp only[Bool.and_eq_true,beq_iff_eq] at h6;have h7:=hall _ (Array.getElem_mem hx) h6.1;rw[h6.2,Array.getD_eq_getD_getElem?,hLr p hp] at h7;cases h7
     ·rw[Array.any_eq_true] at h5
      obtain⟨x,hx,h6⟩:=h5;simp only[Bool.and_eq_true,beq_iff_eq,Bool.not_eq_true',Bool.eq_false_iff,ne_eq,List.contains_iff_mem] at h6;have h7:=hall _ (Array.getElem_mem hx) h6.1.1;rw[Array.getD_eq_getD_getElem?,hL,if_neg (fun h=>h6.2 h.1), <-Array.getD_eq_getD_getElem?] at h7;have h8:=h6.1.2;rw[Array.getD_eq_getD_getElem?] at h7 h8;cases hy:listed[o.after[x].on]? with
      |none=>rw[hy] at h7;cases h7
      |some b=>rw[hy] at h7 h8;simp at h7 h8;rw[h7] at h8;cases h8
   obtain⟨p0,hp0,hr0⟩:=topo_ready (L:=L) ms [] r h1 hne hrm (fun j hj=>by
    rw[Array.getD_eq_getD_getElem?,hL];split
    ·rfl
    ·rw[<-Array.getD_eq_getD_getElem?];exact hj) (fun j hj=>by cases hj) hLd (fun p hp=>by rw[Array.getD_eq_getD_getElem?,hLr p hp];rfl)
   refine⟨fun h=> ?_,fun i hir=> ?_⟩
   ·rw[h] at hr0;cases hr0
   ·obtain⟨p,hp,rfl⟩:=hrd i hir
    obtain⟨o,ho,hg,hdst,_⟩:=hmem p (hrm p hp);unfold wpOp;simp only[ho];have hw:Region.wanted o (yielded ops (putsF a (mdst ms) f).tmps)=true:=by simp[Region.wanted,hg]
    simp only[hw,if_true];refine .inl (hstep p (hrm p hp) o ho f w1 hS1 hb _ fun v w2 hv hS2 hb2=>⟨hS2,?_⟩);have hpd:p.2∈mdst ms:=List.mem_map.2 ⟨p,hrm p hp,rfl⟩;rw[putsF_put hpd];have hrl:(r.erase p).length=k:=by rw[List.length_erase_of_mem hp,hr];rfl
    have hpl:p.1<L.size:=(Array.getElem?_eq_some_iff.1 (hLr p hp)).1;refine ih (r.erase p) hrl (hrn.erase p) (fun q hq=>hrm q (List.mem_of_mem_erase hq)) _ (fun x=>if x=p.1 then w1.heap.size else lo x) (fun x=>if x=p.1 then w2.heap.size else hi x) w2 (L.setIfInBounds p.1 true) hS2 (hb.trans (hb2.mono hb.size)) (fun q hq hqr=> ?_) (fun q hq q' hq' hqr hqr' hne=> ?_) (by simpa using hsz) (fun j=> ?_)
    ·by_cases e:q=p
     ·subst e
      simp only[if_pos];exact⟨hv,hb.size,Nat.le_refl _⟩
     ·have hqr':q ∉ r:=fun h=>hqr ((hrn.mem_erase_iff).2 ⟨e,h⟩)
      have hne2:¬q.2=p.2:=fun h=>e (by
       have:=List.pairwise_map.1 hn2;obtain⟨x,hx,hqx⟩:=List.getElem_of_mem hq;obtain⟨y,hy,hpy⟩:=List.getElem_of_mem (hrm p hp);rcases Nat.lt_trichotomy x y with h'|h'|h'
       ·exact absurd h (by rw[<-hqx, <-hpy];exact List.pairwise_iff_getElem.1 this x y hx hy h')
       ·subst h';exact hqx.symm.trans hpy
       ·exact absurd h.symm (by rw[<-hqx, <-hpy];exact List.pairwise_iff_getElem.1 this y x hy hx h'))
      have hne1:¬q.1=p.1:=fun h=>e (hidx q hq p (hrm p hp) h);simp only[if_neg hne2,if_neg hne1];obtain⟨a1,a2,a3⟩:=hph q hq hqr';exact⟨hst q hq _ _ _ _ _ a1 hb2,a2,Nat.le_trans a3 hb2.size⟩
    ·have hold:∀x∈ms,x ∉ r.erase p->x.1≠p.1->x ∉ r:=fun x hx hxr hxp h=>hxr ((hrn.mem_erase_iff).2 ⟨fun h2=>hxp (by rw[h2]),h⟩)
     by_cases e1:q.1=p.1
     ·have e2:¬q'.1=p.1:=fun h=>hne (e1.trans h.symm)
      simp only[if_pos e1,if_neg e2];exact .inr (hph q' hq' (hold q' hq' hqr' e2)).2.2
     ·by_cases e2:q'.1=p.1
      ·simp only[if_neg e1,if_pos e2]
       exact .inl (hph q hq (hold q hq hqr e1)).2.2
      ·simp only[if_neg e1,if_neg e2]
       exact hdj q hq q' hq' (hold q hq hqr e1) (hold q' hq' hqr' e2) hne
    ·rw[Array.getElem?_setIfInBounds]
     by_cases e:p.1=j
     ·subst e
      rw[if_pos rfl,if_pos hpl,if_pos ⟨List.mem_map.2 ⟨p,hrm p hp,rfl⟩,fun h=>by
       obtain⟨q,hq,e⟩:=List.mem_map.1 h;have hq':=hidx q (hrm q (List.mem_of_mem_erase hq)) p (hrm p hp) e;subst hq';exact((hrn.mem_erase_iff).1 hq).1 rfl⟩]
     ·rw[if_neg e,hL]
      have hiff:(j ∉ mnum r) ↔ (j ∉ mnum (r.erase p)):=by
       refine not_congr ⟨fun h=> ?_,fun h=> ?_⟩
       ·obtain⟨q,hq,e2⟩:=List.mem_map.1 h
        exact List.mem_map.2 ⟨q,(hrn.mem_erase_iff).2 ⟨fun h=>e (by rw[<-h];exact e2),hq⟩,e2⟩
       ·obtain⟨q,hq,e2⟩:=List.mem_map.1 h
        exact List.mem_map.2 ⟨q,List.mem_of_mem_erase hq,e2⟩
      by_cases hj:j∈mnum ms
      ·by_cases hj2:j∈mnum r
       ·rw[if_neg (fun h=>h.2 hj2),if_neg (fun h=>(hiff.2 h.2) hj2)]
       ·rw[if_pos ⟨hj,hj2⟩,if_pos ⟨hj,hiff.1 hj2⟩]
      ·rw[if_neg (fun h=>hj h.1),if_neg (fun h=>hj h.1)]
 have hself:=putsF_self a (mdst ms);have hms:ms.Nodup:=(List.pairwise_map.1 hn1).imp (fun h e=>h (by rw[e]));have:=key ms.length ms rfl hms (fun p hp=>hp) (fun d=>a.tmps.getD d undef) (fun _=>0) (fun _=>0) w listed hS (Below.refl _ _) (fun p hp hn=>absurd hp hn) (fun p hp _ _ hn=>absurd hp hn) rfl (fun j=>by rw[if_neg (fun h=>h.2 h.1)])
 rwa [hself] at this
end
end Makers
namespace HeurLaw
open NetLaw BellLaw DijkLaw
def hrE:List Int->Int
 | []=>0
 |x::r=>if x<0\/far<x then 1 else hrE r
def heE (h:List Int):List E->Int
 | []=>0
 |e::r=>if e.2.2+dg h e.2.1<dg h e.1 then 7 else heE h r
def hck (lk N t9:Int) (l:List E) (h:List Int):Int :=
 if lk≠0 then lk else if (h.length:Int)≠N then 1 else if hrE h≠0 then hrE h else if dg h t9≠0 then 7 else heE h l
structure Cons (N t9:Int) (l:List E) (h:List Int):Prop where
 len:(h.length:Int)=N
 lo:∀x∈h,0<=x/\x<=far
 zero:dg h t9=0
 edge:∀e∈l,dg h e.1<=e.2.2+dg h e.2.1
theorem hrE_drop (l:List Int) (k:Nat) (h:k<l.length):hrE (l.drop k)=if l[k]<0\/far<l[k] then 1 else hrE (l.drop (k+1)):=by rw[List.drop_eq_getElem_cons h];rfl
theorem heE_drop (a:List Int) (l:List E) (k:Nat) (h:k<l.length):heE a (l.drop k)=if l[k].2.2+dg a l[k].2.1<dg a l[k].1 then 7 else heE a (l.drop (k+1)):=by rw[List.drop_eq_getElem_cons h];rfl
theorem hrE_zero {l:List Int}:hrE l=0 ↔ ∀x∈l,0<=x/\x<=far:=by
 induction l with
 |nil=>simp[hrE]
 |cons x r ih =>
  unfold hrE
  by_cases h:x<0\/far<x
  ·rw[if_pos h]
   constructor
   ·intro h1;omega
   ·intro h1;have:=h1 x (List.mem_cons_self ..);omega
  ·rw[if_neg h,ih]
   constructor
   ·intro h1 y hy
    rcases List.mem_cons.1 hy with rfl|hy
    ·omega
    ·exact h1 y hy
   ·intro h1 y hy;exact h1 y (List.mem_cons_of_mem _ hy)
theorem heE_zero {a:List Int} {l:List E}:heE a l=0 ↔ ∀e∈l,dg a e.1<=e.2.2+dg a e.2.1:=by
 induction l with
 |nil=>simp[heE]
 |cons e r ih =>
  unfold heE
  by_cases h:e.2.2+dg a e.2.1<dg a e.1
  ·rw[if_pos h]
   constructor
   ·intro h1;omega
   ·intro h1;have:=h1 e (List.mem_cons_self ..);omega
  ·rw[if_neg h,ih]
   constructor
   ·intro h1 y hy
    rcases List.mem_cons.1 hy with rfl|hy
    ·omega
    ·exact h1 y hy
   ·intro h1 y hy;exact h1 y (List.mem_cons_of_mem _ hy)
section
variable {lk N t9:Int} {l:List E} {a b:List Int}
theorem hck_zero:hck lk N t9 l a=0 ↔ lk=0/\Cons N t9 l a:=by
 unfold hck
 constructor
 ·intro h
  split at h
  ·omega
  ·split at h
   ·omega
   ·split at h
    ·omega
    ·split at h
     ·omega
     ·exact⟨by omega,by omega,hrE_zero.1 (by omega),by omega,heE_zero.1 h⟩
 ·rintro⟨h1,h2⟩
  rw[if_neg (by omega),if_neg (by have:=h2.len;omega),if_neg (by have:=hrE_zero.2 h2.lo;omega),if_neg (by have:=h2.zero;omega)];exact heE_zero.2 h2.edge
theorem dg_mem {a:List Int} {v:Int} (h0:0<=v) (h1:v<a.length):dg a v∈a:=by
 unfold dg;rw[List.getD_eq_getElem?_getD,List.getElem?_eq_getElem (by omega),Option.getD_some];exact List.getElem_mem _
theorem Cons.bd (h:Cons N t9 l a) {v:Int} (h0:0<=v) (h1:v<N):0<=dg a v/\dg a v<=far:=h.lo _ (dg_mem h0 (by have:=h.len;omega))
end
end HeurLaw
end Go.Proofs.YtjebckehmmbkbaaGreat
