/- The walks of package heap at api.Way. The walk of Heap[api.Way].Pop. Go's cmp.Compare at int and slices.Compare at []int; yen.less. The closure of fellwalker/yen.K$1, and ContainsFunc with it. -/
import Derived.Test.YtjebckehmmbkbaaGreatVStdCI
set_option linter.unusedSimpArgs false
set_option linter.unusedVariables false
set_option maxRecDepth 100000
set_option maxHeartbeats 24000000
namespace Go.Proofs.YtjebckehmmbkbaaGreat
namespace HeapW
open Go.RowKit HeapLaw Net
open Heap (Kp Kp.refl Kp.below Kp.alloc Kp.drew Kp.setCell Kp.grown Kp.to fnOf)
abbrev SV:=Option Addr × Nat × Nat
abbrev Pop:=SV × Int × List Int
abbrev d0:Pop:=((none,0,0),0,[])
def cw (x:Pop) (j:Nat):Value:=match j with|0=> .slice x.1.1 x.1.2.1 x.1.2.2|_=> .int .i64 x.2.1
theorem one_cw (x:Pop) (j:Nat):(cw x j).oneCell'=true:=by unfold cw;split <;> rfl
theorem newsW {w:World} {e:TypeId} {x:SV} {y:Int} {p:List Int} {g:Nat} (hg:w.heap.size=g):∀j,j<2->(w.alloc (.cells #[.slice x.1 x.2.1 x.2.2,.int .i64 y] e)).cell? ⟨g,j,none⟩=some (cw (x,y,p) j):=by
 subst hg;intro j hj
 match j,hj with
 |0,_=>rw[cell_new];rfl
 |1,_=>rw[cell_new];rfl
def Rd (w:World) (base:Nat) (x:Pop):Prop:=Own w base 3 1 ci (.slice x.1.1 x.1.2.1 x.1.2.2) x.2.2
theorem Rd.drew {w:World} {base:Nat} {x:Pop} (h:Rd w base x):Rd w.drew base x:=Own.drewN h 1
theorem Rd.keep {w w':World} {base:Nat} {x:Pop} (h:Rd w base x) (hb:Below w.heap.size w w'):Rd w' base x:=Own.keep h hb
theorem infoPop:(Tryz.prog.info? 36).map (fun i=>(i.zero,i.size,i.bytes))=some (some (.agg #[.slice none 0 0,.int .i64 0]),2,32):=by kernel_rfl
structure HeapAt (w:World) (base H:Nat) (fn:Value) (A:Option Addr) (n c:Nat) (L:List Pop):Prop where
 hb:base<=H
 blk:w.heap[H]?=some (.cells #[fn,.slice A n c] 149 (0,0))
 own:Own w base 36 2 cw (.slice A n c) L
 len:L.length=n
section
variable {w w':World} {base H:Nat} {fn:Value} {A:Option Addr} {n c:Nat} {L:List Pop}
theorem HeapAt.lt (h:HeapAt w base H fn A n c L):H<w.heap.size:=lt_of_block h.blk
theorem HeapAt.ne (h:HeapAt w base H fn A n c L):(Value.slice A n c).ownBlock≠some H:=h.own.ne_ h.blk (by decide)
theorem HeapAt.alloc (h:HeapAt w base H fn A n c L) (o:Obj):HeapAt (w.alloc o) base H fn A n c L:=⟨h.hb,blk_alloc h.blk o,h.own.alloc o,h.len⟩
theorem HeapAt.drewN (h:HeapAt w base H fn A n c L) (k:Nat):HeapAt (w.drewN k) base H fn A n c L:=⟨h.hb,h.blk,h.own.drewN k,h.len⟩
theorem HeapAt.keep (h:HeapAt w base H fn A n c L) (hb:Below w.heap.size w w'):HeapAt w' base H fn A n c L:=⟨h.hb,blk_below h.blk hb h.lt,h.own.keep hb,h.len⟩
theorem HeapAt.at_ (h:HeapAt w base H fn A n c L) {i:Nat} (hi:i<n):∃S a am b,A=some ⟨S,0,none⟩/\base<=S/\S<w.heap.size/\S≠H/\L.getD i d0=(a,am,b) /\
 w.cell? ⟨S,i*2,none⟩=some (.slice a.1 a.2.1 a.2.2)/\w.cell? ⟨S,i*2+1,none⟩=some (.int .i64 am)/\w.frozen? ⟨S,i*2,none⟩=false/\w.frozen? ⟨S,i*2+1,none⟩=false:=by
 have hl:=h.len;have hne:=h.ne;have hown:=h.own;obtain⟨S,c',hv,hb,hS,_,hc⟩:=hown.some_ (by omega);injection hv with hv _ _;subst hv;have e:L.getD i d0=L[i]'(by omega):=by rw[List.getD_eq_getElem?_getD,List.getElem?_eq_getElem (by omega)];rfl
 exact⟨S,_,_,_,rfl,hb,hS,fun e=>hne (by rw[e];rfl),e,(hc i (by omega) 0 (by omega)).1,(hc i (by omega) 1 (by omega)).1,(hc i (by omega) 0 (by omega)).2,(hc i (by omega) 1 (by omega)).2⟩
end
theorem own_set2 {w:World} {base:Nat} {e:TypeId} {S c n:Nat} {l:List Pop} (hn:l.length=n) (h:Own w base e 2 cw (.slice (some ⟨S,0,none⟩) n c) l) (k:Nat) (hk:k<n) (a:SV) (am:Int) (b:List Int) :
 Own ((w.setCell ⟨S,k*2,none⟩ (.slice a.1 a.2.1 a.2.2)).setCell ⟨S,k*2+1,none⟩ (.int .i64 am)) base e 2 cw (.slice (some ⟨S,0,none⟩) n c) (l.set k (a,am,b)):=by
 have h1:=own_setj hn h k 0 (a,(l[k]'(by omega)).2.1,b) (by omega) (by decide) (fun j hj hne=>by
  match j,hj,hne with
  |0,_,hne=>exact absurd rfl hne
  |1,_,_=>rfl)
 have h2:=own_setj (by simpa using hn) h1 k 1 (a,am,b) (by simpa using (show k<l.length by omega)) (by decide) (fun j hj hne=>by
  rw[List.getElem_set_self]
  match j,hj,hne with
  |0,_,_=>rfl
  |1,_,hne=>exact absurd rfl hne)
 rw[List.set_set] at h2;exact h2
theorem HeapAt.swap {w:World} {base H:Nat} {fn:Value} {S n c:Nat} {L:List Pop} (h:HeapAt w base H fn (some ⟨S,0,none⟩) n c L) {i k:Nat} (hi:i<n) (hk:k<n) {a x:SV} {am xm:Int} {b y:List Int} (hxi:L.getD i d0=(x,xm,y)) (hxk:L.getD k d0=(a,am,b)) (hS:S≠H) :
 HeapAt ((((w.setCell ⟨S,i*2,none⟩ (.slice a.1 a.2.1 a.2.2)).setCell ⟨S,i*2+1,none⟩ (.int .i64 am)).setCell ⟨S,k*2,none⟩ (.slice x.1 x.2.1 x.2.2)).setCell ⟨S,k*2+1,none⟩ (.int .i64 xm)) base H fn (some ⟨S,0,none⟩) n c (swp d0 L i k):=by
 have hS':H≠S:=fun e=>hS e.symm;refine⟨h.hb,blk_far (blk_far (blk_far (blk_far h.blk hS' _) hS' _) hS' _) hS' _,?_,by rw[swp_len];exact h.len⟩;have h1:=own_set2 h.len h.own i hi a am b;have h2:=own_set2 (by simpa using h.len) h1 k hk x xm y;unfold swp;rw[hxi,hxk];exact h2
def LessOk (k:FuncId) (lt:Pop->Pop->Bool):Prop:=∀(W:World) (base:Nat) (a:SV) (am:Int) (b:List Int) (x:SV) (xm:Int) (y:List Int),Rd W base (a,am,b)->Rd W base (x,xm,y)->Calls Tryz.prog k #[.agg #[.slice a.1 a.2.1 a.2.2,.int .i64 am],.agg #[.slice x.1 x.2.1 x.2.2,.int .i64 xm]] W fun e w'=>e= .returned (.bool (lt (a,am,b) (x,xm,y)))/\Below W.heap.size W w'
theorem rd_kp {w w':World} {base H:Nat} {fn:Value} {A:Option Addr} {n c:Nat} {L:List Pop} (h:HeapAt w base H fn A n c L) (hk:Kp w w' H (Value.slice A n c).ownBlock) {x:Pop} {base':Nat} (ho:Rd w base' x):Rd w' base' x:=by
 refine⟨ho.1,?_⟩;rcases ho.2 with h3|⟨g,cap,cur,e1,hg,hh,rest⟩
 ·exact .inl h3
 ·refine .inr ⟨g,cap,cur,e1,hg,?_,rest⟩
  refine(hk.block g (lt_of_block hh) (fun e=> ?_) (fun e=>h.own.ne_ hh (by decide) e.symm)).trans hh;subst e;have:=h.blk;rw[hh] at this;injection this with this;injection this with _ ht _;exact absurd ht (by decide)
theorem push_any (lt:Pop->Pop->Bool) (o:Ord lt) (hless:LessOk 50 lt) (base H:Nat) (A:Option Addr) (n c:Nat) (L:List Pop) (x:SV) (xm:Int) (y:List Int) (w:World) (h:HeapAt w base H (fnOf 50) A n c L) (hp:Hp d0 lt L) (hn:(n+1)*32<=140737488355328) (hb:base<=w.heap.size) (hrd:∀z∈(x,xm,y)::L,Rd w base z) :
 Calls Tryz.prog 52 #[.pointer (some ⟨H,0,none⟩),.agg #[.slice x.1 x.2.1 x.2.2,.int .i64 xm]] w fun e w'=>(∃v,e= .returned v)/\∃A' c' L',HeapAt w' base H (fnOf 50) A' (n+1) c' L'/\L'.Perm ((x,xm,y)::L)/\Hp d0 lt L'/\Kp w w' H (Value.slice A n c).ownBlock/\∀S,(Value.slice A' (n+1) c').ownBlock=some S->(Value.slice A n c).ownBlock=some S\/w.heap.size<=S:=by
 obtain⟨i0,hi,hz0,hz1,hz2⟩:=info_parts infoPop;have hc0:=blk_cell h.blk 0;have hc1:=blk_cell h.blk 1;have hlt:=h.lt;have hne:=h.ne;simp only[zzG,zzH,zzI] at hc0 hc1;unfold fnOf at hc0;have hb0:=blk_alloc (blk_alloc h.blk (.cells #[.slice x.1 x.2.1 x.2.2,.int .i64 xm] 36)) (.cells #[.slice x.1 x.2.1 x.2.2,.int .i64 xm] 36);go_enter Tryz.func52,Tryz.ntmps52;go_upto_region 1 with fail
 go_cut [13] from 6 to 15 (fun s13 wx=>∃A3 c3,HeapAt wx base H (fnOf 50) A3 (n+1) c3 (L++[(x,xm,y)])/\Kp w wx H (Value.slice A n c).ownBlock/\∀S,(Value.slice A3 (n+1) c3).ownBlock=some S->(Value.slice A n c).ownBlock=some S\/w.heap.size<=S)
 case first =>
  go_region_law (refine step_push _ rfl (.tmp 10) (.tmp 12) _ rfl base 36 i0 _ 2 32 cw Tryz.underlying57 hi hz0 hz1 hz2 rfl (by decide) _ L n h.len rfl ((h.own.alloc _).alloc _) (w.heap.size+1) 1 (x,xm,y) rfl (newsW (by simp)) (fun _ _=>one_cw _ _) (by omega) (by omega) (by simp;omega) ?_;intro A3 c3 w4 hown3 hgrow3 hat3;have hH4:w4.heap[H]?=some (.cells #[fnOf 50,.slice A n c] 149 (0,0)):=(hgrow3.block H (by simp;omega) (fun e=>hne e.symm)).trans hb0;have c41:w4.cell? ⟨H,1,none⟩=some (.slice A n c):=blk_cell hH4 1;have f41:w4.frozen? ⟨H,1,none⟩=false:=blk_free hH4 1)
  all_goals
   have hB4:Kp w w4 H (Value.slice A n c).ownBlock:=by first|exact(((Kp.refl _ _ _).alloc _).alloc _).drew.grown hgrow3|exact(((Kp.refl _ _ _).alloc _).alloc _).grown hgrow3
   have hat4:∀S,(Value.slice A3 (n+1) c3).ownBlock=some S->(Value.slice A n c).ownBlock=some S\/w.heap.size<=S:=fun S hS=>by
    rcases hat3 with h1|h1
    ·exact .inl (h1.symm.trans hS)
    ·rw[h1] at hS
     injection hS with hS;simp at hS;exact .inr (by omega)
   go_wp2_with fail
   go_meet
   exact⟨A3,c3,⟨h.hb,blk_set hH4 1 _,hown3.setCell (hown3.ne_ hH4 (by decide)) _,by simp[h.len]⟩,hB4.setCell (.inl rfl) _,hat4⟩
 case rest =>
  obtain⟨A3,c3,h3,hB3,hat4⟩:=hcut;have HAT:=hid hat4;clear hat4;have e0:=blk_cell h3.blk 1;simp only[zzG,zzH,zzI] at e0;have hup:=Hp.snoc hp (x,xm,y);rw[h.len] at hup;have HUP:=hid hup;have H3:=hid h3;have HO:=hid o;have HL:=hid hless;have hrk:=fun (W:World) (hk:Kp w W H (Value.slice A n c).ownBlock) (z:Pop) (hz:z∈(x,xm,y)::L)=>rd_kp h hk (hrd z hz);have HRD:=hid hrk;clear h hp hup h3 hc0 hc1 hne hb0 o hless hrk hrd;have hn1:(n:Int)+1 - 1=n:=by omega
  go_wp2
  go_loopw [4] (fun s4 wr=>∃(i:Nat) (L':List Pop),i<n+1/\s4= .int .i64 i/\HeapAt wr base H (fnOf 50) A3 (n+1) c3 L'/\L'.Perm ((x,xm,y)::L)/\Up d0 lt L' i/\Kp w wr H (Value.slice A n c).ownBlock) (fun s4 _=>(intOf s4).toNat)
  case atStart=>exact⟨n,L++[(x,xm,y)],by omega,rfl,H3.out,List.perm_append_comm,HUP.out,hB3⟩
  case round =>
   obtain⟨i,L',hi1,rfl,hh,hpm,hu,hB⟩:=hrel;have HPM:=hid hpm;have HU:=hid hu;have c0:=blk_cell hh.blk 0;have c1:=blk_cell hh.blk 1;simp only[zzG,zzH,zzI] at c0 c1;unfold fnOf at c0;clear hpm hu e0 H3 HUP
   by_cases hi0:0<i
   ·obtain⟨j,rfl⟩:∃j,i=j+1:=⟨i - 1,by omega⟩
    have hq:(j:Int).tdiv 2=((j / 2:Nat):Int):=by rw[Int.ofNat_tdiv];rfl
    have hj2:j / 2<j+1:=by omega
    obtain⟨S,a,am,b,rfl,hS0,hS1,hSH,hgi,ci0,ci1,fi0,fi1⟩:=hh.at_ hi1;obtain⟨S',a',am',b',hSe,_,_,_,hgk,ck0,ck1,fk0,fk1⟩:=hh.at_ (show j / 2<n+1 by omega);have r1:=HRD.out _ hB _ ((HPM.out.mem_iff (a:=(a,am,b))).1 (by rw[<-hgi,List.getD_eq_getElem?_getD,List.getElem?_eq_getElem (by rw[hh.len];exact hi1)];exact List.getElem_mem _));have r2:=HRD.out _ hB _ ((HPM.out.mem_iff (a:=(a',am',b'))).1 (by rw[<-hgk,List.getD_eq_getElem?_getD,List.getElem?_eq_getElem (by rw[hh.len];omega)];exact List.getElem_mem _));injection hSe with hSe;injection hSe with hSe _ _;subst hSe;have hj0:(0:Int)<=((j / 2:Nat):Int):=by omega
    generalize hk2:j / 2=m at *;have HK2:=hid hk2;have HGI:=hid hgi;have HGK:=hid hgk;have HH:=hid hh;have hl:=fun (W:World) (hW:W=wr\/W=wr.drew)=>HL.out W base a am b a' am' b' (by rcases hW with rfl|rfl;exact r1;exact r1.drew) (by rcases hW with rfl|rfl;exact r2;exact r2.drew);have hHs:=hh.lt;have b1:(j:Int)+1<(n:Int)+1:=by omega
    have b2:(0:Int)<=(j:Int)+1:=by omega
    have b3:(m:Int)<(n:Int)+1:=by omega
    have b4:(j:Int)<n:=by omega
    have b5:j<n:=by omega
    have b6:m<n+1:=by omega
    have b7:(m:Int)<=n:=by omega
    have b8:¬((m:Int)<0):=by omega
    have b9:¬((j:Int)+1<0):=by omega
    clear hk2 hgi hgk r1 r2;cases hlt2:lt (a,am,b) (a',am',b') with
    |false =>
     simp only[hlt2] at hl;have KL:=hid hl;have HLT:=hid hlt2;clear hl hlt2;go_wp2
     go_region_held3 (fun w'=>w'.cell? ⟨H,0,none⟩=some (.func (.func 50) #[] #[])/\w'.cell? ⟨H,1,none⟩=some (.slice (some ⟨S,0,none⟩) (n+1) c3)/\w'.cell? ⟨S,(j+1)*2,none⟩=some (.slice a.1 a.2.1 a.2.2)/\w'.cell? ⟨S,(j+1)*2+1,none⟩=some (.int .i64 am)/\w'.cell? ⟨S,m*2,none⟩=some (.slice a'.1 a'.2.1 a'.2.2)/\w'.cell? ⟨S,m*2+1,none⟩=some (.int .i64 am'))
      (first
        |go_keep
        |(go_split_ands
          refine⟨?_,?_,?_,?_,?_,?_⟩
          ·(rw[cH];assumption)
          ·(rw[cH];assumption)
          ·(rw[cS];assumption)
          ·(rw[cS];assumption)
          ·(rw[cS];assumption)
          ·(rw[cS];assumption)))
      (first
        |(go_at_call 50;refine(KL.out _ (by first|exact .inl rfl|exact .inr rfl)).mono ?_;rintro e w5 ⟨rfl,hb5⟩;have cH:=(keepAt hb5 (b:=H) hHs).1;have cS:=(keepAt hb5 (b:=S) hS1).1))
     all_goals
      clear cH cS;have hb6:Below wr.heap.size wr w5:=by first|exact hb5|exact(Below.refl _ _).drew.trans hb5
      have hfin:=HU.out.done (fun _=>by
       have e1:par (j+1)=m:=by have:=HK2.out;unfold par;omega
       rw[e1,HGI.out,HGK.out];exact HLT.out)
      have hh5:=HH.out.keep hb6;have hB5:=hB.below hb6;clear hb5 hb6;go_wp2;refine bodyPost_end (v:= .tuple #[]) (by simp[results,Tryz.results52,go_sem]) rfl ?_;exact⟨⟨_,rfl⟩,_,c3,L',hh5,HPM.out,hfin,hB5,HAT.out⟩
    |true =>
     simp only[hlt2] at hl;have KL:=hid hl;have HLT:=hid hlt2;clear hl hlt2;go_wp2
     go_region_held3 (fun w'=>w'.cell? ⟨H,0,none⟩=some (.func (.func 50) #[] #[])/\w'.cell? ⟨H,1,none⟩=some (.slice (some ⟨S,0,none⟩) (n+1) c3)/\w'.cell? ⟨S,(j+1)*2,none⟩=some (.slice a.1 a.2.1 a.2.2)/\w'.cell? ⟨S,(j+1)*2+1,none⟩=some (.int .i64 am)/\w'.cell? ⟨S,m*2,none⟩=some (.slice a'.1 a'.2.1 a'.2.2)/\w'.cell? ⟨S,m*2+1,none⟩=some (.int .i64 am'))
      (first
        |go_keep
        |(go_split_ands
          refine⟨?_,?_,?_,?_,?_,?_⟩
          ·(rw[cH];assumption)
          ·(rw[cH];assumption)
          ·(rw[cS];assumption)
          ·(rw[cS];assumption)
          ·(rw[cS];assumption)
          ·(rw[cS];assumption)))
      (first
        |(go_at_call 50;refine(KL.out _ (by first|exact .inl rfl|exact .inr rfl)).mono ?_;rintro e w5 ⟨rfl,hb5⟩;have cH:=(keepAt hb5 (b:=H) hHs).1;have cS:=(keepAt hb5 (b:=S) hS1).1))
     all_goals
      clear cH cS;have hb6:Below wr.heap.size wr w5:=by first|exact hb5|exact(Below.refl _ _).drew.trans hb5
      have hh5:=HH.out.keep hb6;have hB5:=hB.below hb6;obtain⟨cH,fH⟩:=keepAt hb6 (b:=H) hHs;obtain⟨cS,fS⟩:=keepAt hb6 (b:=S) hS1;have u0:=(cH 1).trans c1;have u1:=(cS _).trans ci0;have u2:=(cS _).trans ci1;have u3:=(cS _).trans ck0;have u4:=(cS _).trans ck1;have u5:=(fS _).trans fi0;have u6':=(fS _).trans fi1;have u7':=(fS _).trans fk0;have u8':=(fS _).trans fk1;have HH5:=hid hh5;have hm2:¬(j+1)*2=m*2:=by omega
      have hm3:¬(j+1)*2=m*2+1:=by omega
      have hm5:¬(j+1)*2+1=m*2:=by omega
      have hm6:¬(j+1)*2+1=m*2+1:=by omega
      clear hb5 hb6 cH fH cS fS c0 c1 ci0 ci1 ck0 ck1 fi0 fi1 fk0 fk1 hh5 hh;go_wp2
      go_region
      all_goals
       go_wp2
       go_roundw
       case' rel =>
        have e1:par (j+1)=m:=by have:=HK2.out;unfold par;omega
        have hln:L'.length=n+1:=HH5.out.len;have hSr:=HAT.out S rfl;have hst:=HU.out.step HO.out (Nat.succ_pos j) (by omega) (by rw[e1,HGI.out,HGK.out];exact HLT.out);rw[e1] at hst;exact⟨m,swp d0 L' (j+1) m,by omega,rfl,(HH5.out.swap hi1 b6 HGI.out HGK.out hSH).drewN 1,(swp_perm (by omega) (by omega) (by omega)).trans HPM.out,hst,((((hB5.setCell (.inr hSr) _).setCell (.inr hSr) _).setCell (.inr hSr) _).setCell (.inr hSr) _).drew⟩
       case' measure=>simp[intOf];omega
   ·obtain rfl:i=0:=by omega
    have hfin:=HU.out.done (fun h=>absurd h (Nat.lt_irrefl 0));have HH:=hid hh;have HFIN:=hid hfin;clear hh hfin;go_wp2;refine bodyPost_end (v:= .tuple #[]) (by simp[results,Tryz.results52,go_sem]) rfl ?_;exact⟨⟨_,rfl⟩,A3,c3,L',HH.out,HPM.out,HFIN.out,hB,HAT.out⟩
theorem new_any (k:FuncId) (w:World):Calls Tryz.prog 49 #[fnOf k] w fun e w'=>∃H,e= .returned (.pointer (some ⟨H,0,none⟩))/\HeapAt w' w.heap.size H (fnOf k) none 0 0 []/\Below w.heap.size w w':=by
 unfold fnOf;go_enter Tryz.func49,Tryz.ntmps49;go_wp2;refine bodyPost_ret (v:= .pointer (some ⟨w.heap.size,0,none⟩)) (by simp[results,Tryz.results49,go_sem]) rfl ?_;exact⟨w.heap.size,rfl,⟨Nat.le_refl _,heap_alloc_new _ _,Own.nil_,rfl⟩,(Below.refl _ _).alloc zzL _⟩
theorem len_any {base H:Nat} {fn:Value} {A:Option Addr} {n c:Nat} {L:List Pop} (w:World) (h:HeapAt w base H fn A n c L):Calls Tryz.prog 53 #[.pointer (some ⟨H,0,none⟩)] w fun e w'=>e= .returned (.int .i64 n)/\w'=w:=by
 have c1:=blk_cell h.blk 1;simp only[zzG,zzH,zzI] at c1;clear h;go_enter Tryz.func53,Tryz.ntmps53;go_wp2;exact bodyPost_ret (v:= .int .i64 n) (by simp[results,Tryz.results53,go_sem]) rfl ⟨rfl,rfl⟩
def ltP (a b:Pop):Bool:=YenLaw.ltY (a.2.1,a.2.2) (b.2.1,b.2.2)
theorem ltP_ord:HeapLaw.Ord ltP:=⟨fun h=>YenLaw.ltY_asy h,fun h h'=>YenLaw.ltY_neg h' h⟩
end HeapW
namespace HeapW
open Go.RowKit HeapLaw Net
open Heap (Kp Kp.refl Kp.below Kp.alloc Kp.drew Kp.setCell Kp.grown Kp.to fnOf own_short)
theorem HeapAt.cut {w:World} {base H:Nat} {fn:Value} {S m c:Nat} {L:List Pop} (h:HeapAt w base H fn (some ⟨S,0,none⟩) (m+1) c L) {a:SV} {am:Int} {b:List Int} (hx:L.getD m d0=(a,am,b)) (hS:S≠H) :
 HeapAt (((w.setCell ⟨S,0,none⟩ (.slice a.1 a.2.1 a.2.2)).setCell ⟨S,1,none⟩ (.int .i64 am)).setCell ⟨H,1,none⟩ (.slice (some ⟨S,0,none⟩) m c)) base H fn (some ⟨S,0,none⟩) m c (cutTop d0 L):=by
 have hS':H≠S:=fun e=>hS e.symm;have h1:=own_set2 h.len h.own 0 (by omega) a am b;rw[Nat.zero_mul,Nat.zero_add] at h1;have h2:=own_short (m:=m) (by rw[List.length_set];exact h.len) h1 (by omega);have hb:=blk_far (blk_far h.blk hS' (.slice a.1 a.2.1 a.2.2) (p:=⟨S,0,none⟩)) hS' (.int .i64 am) (p:=⟨S,1,none⟩);have e:cutTop d0 L=(L.set 0 (a,am,b)).take m:=by unfold cutTop;rw[h.len,Nat.add_sub_cancel,hx]
 refine⟨h.hb,?_,?_,?_⟩
 ·exact blk_set hb 1 _
 ·rw[e];exact h2.setCell (h2.ne_ hb (by decide)) _
 ·rw[cutTop_len,h.len];omega
structure Pick (lt:Pop->Pop->Bool) (L:List Pop) (i:Nat) (bb:Bool):Prop where
 l:bb=false->Least d0 lt L i (2*i+1)
 r:bb=true->Least d0 lt L i (2*i+1+1)
def PopSays (lt:Pop->Pop->Bool) (base H:Nat) (fn:Value) (A:Option Addr) (m c:Nat) (L:List Pop) (w:World) (e:Ending) (w':World):Prop :=
 ∃p pm q L',e= .returned (.agg #[.slice p.1 p.2.1 p.2.2,.int .i64 pm])/\L.getD 0 d0=(p,pm,q)/\HeapAt w' base H fn A m c L'/\((p,pm,q)::L').Perm L/\Hp d0 lt L'/\Kp w w' H (Value.slice A (m+1) c).ownBlock
theorem HeapAt.drew1 {w:World} {base H:Nat} {fn:Value} {A:Option Addr} {n c:Nat} {L:List Pop} (h:HeapAt w base H fn A n c L):HeapAt w.drew base H fn A n c L:=h.drewN 1
theorem heap_drew {w:World} {R:Nat} {v:Obj} (h:w.heap[R]?=some v):w.drew.heap[R]?=some v:=h
theorem turned {w0 w:World} {base H R0 R1:Nat} {fn:Value} {S n c:Nat} {L:List Pop} {v0 v1:Obj} (h:HeapAt w base H fn (some ⟨S,0,none⟩) n c L) {i k:Nat} (hi:i<n) (hk:k<n) {a x:SV} {am xm:Int} {b y:List Int} (hxi:L.getD i d0=(x,xm,y)) (hxk:L.getD k d0=(a,am,b)) (hS:S≠H) (h0:w.heap[R0]?=some v0) (h1:w.heap[R1]?=some v1) (n0:R0≠S) (n1:R1≠S) (hB:Kp w0 w H (some S)) :
 let W:=((((w.setCell ⟨S,i*2,none⟩ (.slice a.1 a.2.1 a.2.2)).setCell ⟨S,i*2+1,none⟩ (.int .i64 am)).setCell ⟨S,k*2,none⟩ (.slice x.1 x.2.1 x.2.2)).setCell ⟨S,k*2+1,none⟩ (.int .i64 xm)).drew
 HeapAt W base H fn (some ⟨S,0,none⟩) n c (swp d0 L i k)/\W.heap[R0]?=some v0/\W.heap[R1]?=some v1/\Kp w0 W H (some S) :=
 ⟨(h.swap hi hk hxi hxk hS).drew1,heap_drew (blk_far (blk_far (blk_far (blk_far h0 n0 _) n0 _) n0 _) n0 _),heap_drew (blk_far (blk_far (blk_far (blk_far h1 n1 _) n1 _) n1 _) n1 _),((((hB.setCell (by exact .inr (.inl rfl)) _).setCell (by exact .inr (.inl rfl)) _).setCell (by exact .inr (.inl rfl)) _).setCell (by exact .inr (.inl rfl)) _).drew⟩
theorem pop_any (lt:Pop->Pop->Bool) (o:Ord lt) (hless:LessOk 50 lt) (base H:Nat) (A:Option Addr) (m c:Nat) (L:List Pop) (w:World) (h:HeapAt w base H (fnOf 50) A (m+1) c L) (hp:Hp d0 lt L) (hn:(m+1)*32<=140737488355328) (hb:base<=w.heap.size) (hrd:∀z∈L,Rd w base z) :
 Calls Tryz.prog 54 #[.pointer (some ⟨H,0,none⟩)] w fun e w'=>PopSays lt base H (fnOf 50) A m c L w e w':=by
 obtain⟨S,p,pm,q,rfl,hS0,hS1,hSH,hg0,c00,c01,f00,f01⟩:=h.at_ (show 0<m+1 by omega);obtain⟨S',a,am,b,hSe,_,_,_,hgm,cm0,cm1,_,_⟩:=h.at_ (show m<m+1 by omega);injection hSe with hSe;injection hSe with hSe _ _;subst hSe;have hc0:=blk_cell h.blk 0;have hc1:=blk_cell h.blk 1;have hf1:=blk_free h.blk 1;have hlt:=h.lt;have hne:=h.ne;obtain⟨_,hcap⟩:True/\m+1<=c:=⟨trivial,by obtain⟨A',c',hv,hc,_⟩:=h.own.form;injection hv with _ _ hv;have:=h.len;omega⟩;simp only[zzG,zzH,zzI] at hc0 hc1;rw[Nat.zero_mul] at c00 c01 f00 f01;rw[Nat.zero_add] at c01 f01;have hrk:=fun (W:World) (hk:Kp w W H (some S)) (z:Pop) (hz:z∈L)=>rd_kp h hk (hrd z hz);have HRD:=hid hrk;have hL0:L≠[]:=fun e=>by have:=h.len;rw[e] at this;simp at this
 have hct:=fun (z:Pop) (hz:z∈cutTop d0 L)=>(cutTop_perm (d:=d0) hL0).mem_iff.1 (List.mem_cons_of_mem _ hz);have HCT:=hid hct;unfold fnOf at hc0;have b1:(0:Int)<(m:Int)+1:=by omega
 have b2:(m:Int)<(m:Int)+1:=by omega
 have b3:(m:Int)<=(c:Int):=by omega
 have b4:m<=c:=by omega
 have b5:(0:Int)<=(m:Int):=by omega
 have HH:=hid h;have HP:=hid hp;have HG0:=hid hg0;have HGM:=hid hgm;have hSw:=hS1;clear h hp hg0 hgm hne hrk hrd hct hL0;go_enter Tryz.func54,Tryz.ntmps54;go_wp2
 go_region
 all_goals
  go_wp2;have hcut:=(HH.out.cut HGM.out hSH);have hWs:(((w.setCell ⟨S,0,none⟩ (.slice a.1 a.2.1 a.2.2)).setCell ⟨S,1,none⟩ (.int .i64 am)).setCell ⟨H,1,none⟩ (.slice (some ⟨S,0,none⟩) m c)).heap.size=w.heap.size:=by simp[World.setCell]
  have hBs:Kp w (((w.setCell ⟨S,0,none⟩ (.slice a.1 a.2.1 a.2.2)).setCell ⟨S,1,none⟩ (.int .i64 am)).setCell ⟨H,1,none⟩ (.slice (some ⟨S,0,none⟩) m c)) H (some S):=(((Kp.refl _ _ _).setCell (by exact .inr (.inl rfl)) _).setCell (by exact .inr (.inl rfl)) _).setCell (by exact .inl rfl) _;have hdn:=cutTop_dn HP.out;have hpc:=cutTop_perm (d:=d0) (L:=L) (fun e=>by have:=HH.out.len;rw[e] at this;simp at this);rw[HG0.out] at hpc;have HCUT:=hid hcut;have HDN0:=hid hdn;have HPC:=hid hpc;have HO:=hid o;have HL:=hid hless;generalize (((w.setCell ⟨S,0,none⟩ (.slice a.1 a.2.1 a.2.2)).setCell ⟨S,1,none⟩ (.int .i64 am)).setCell ⟨H,1,none⟩ (.slice (some ⟨S,0,none⟩) m c))=W0 at *;have hR0:=blk_alloc (heap_alloc_new W0 (.cells #[.slice none 0 0,.int .i64 0] 36)) (.cells #[.slice p.1 p.2.1 p.2.2,.int .i64 pm] 36);have hR1:=heap_alloc_new (W0.alloc (.cells #[.slice none 0 0,.int .i64 0] 36)) (.cells #[.slice p.1 p.2.1 p.2.2,.int .i64 pm] 36);have hz1:(W0.alloc (.cells #[.slice none 0 0,.int .i64 0] 36)).heap.size=w.heap.size+1:=by simp[hWs]
  rw[hWs] at hR0;rw[hz1] at hR1;have hBx:Kp w ((W0.alloc (.cells #[.slice none 0 0,.int .i64 0] 36)).alloc (.cells #[.slice p.1 p.2.1 p.2.2,.int .i64 pm] 36)) H (some S):=(hBs.alloc _).alloc _;have HR0:=hid hR0;have HR1:=hid hR1;clear hcut hdn hpc o hless hR0 hR1 hz1 hBs c00 c01 f00 f01 cm0 cm1 hc0 hc1 hf1 hWs
  go_loopw [5] (fun s5 wr=>∃(i:Nat) (L':List Pop),i<=m/\s5= .int .i64 i/\HeapAt wr base H (fnOf 50) (some ⟨S,0,none⟩) m c L'/\L'.Perm (cutTop d0 L)/\Dn d0 lt L' i/\wr.heap[w.heap.size]?=some (.cells #[.slice none 0 0,.int .i64 0] 36 (0,0))/\wr.heap[w.heap.size+1]?=some (.cells #[.slice p.1 p.2.1 p.2.2,.int .i64 pm] 36 (0,0))/\Kp w wr H (some S)) (fun s5 _=>m - (intOf s5).toNat)
  case atStart=>exact⟨0,cutTop d0 L,Nat.zero_le _,rfl,((HCUT.out.alloc _).alloc _).drewN 1,List.Perm.refl _,HDN0.out,HR0.out,HR1.out,hBx.drew⟩
  case round =>
   obtain⟨i,L2,him0,rfl,hh,hpm,hdn,hR2,hR3,hB⟩:=hrel;have HPM:=hid hpm;have HDN:=hid hdn;clear HCUT HDN0 HR0 HR1 hBx hpm hdn
   by_cases hk:2*i+1<m
   ·have HR2:=hid hR2
    have HR3:=hid hR3;have HHr:=hid hh;have c0:=blk_cell hh.blk 0;have c1:=blk_cell hh.blk 1;simp only[zzG,zzH,zzI] at c0 c1;unfold fnOf at c0;have hHs:=hh.lt;have hSs:S<wr.heap.size:=by have:=lt_of_block hR2;omega
    have hi2:2*(i:Int)+1<m:=by omega
    clear hR2 hR3;go_upto_region 8 with fail;obtain⟨k1,hk1⟩:∃k1:Nat,k1=2*i+1:=⟨_,rfl⟩;have hk1e:2*(i:Int)+1=(k1:Int):=by omega
    rw[hk1e] at *;have HK1:=hid hk1;have hk1m:k1<m:=by omega
    clear hk hk1 hk1e
    go_cut [73] from 48 to 73 (fun s73 wx=>∃bb,s73= .bool bb/\Pick lt L2 i bb/\HeapAt wx base H (fnOf 50) (some ⟨S,0,none⟩) m c L2/\wx.heap[w.heap.size]?=some (.cells #[.slice none 0 0,.int .i64 0] 36 (0,0))/\wx.heap[w.heap.size+1]?=some (.cells #[.slice p.1 p.2.1 p.2.2,.int .i64 pm] 36 (0,0))/\Kp w wx H (some S))
    case first =>
     by_cases hg:k1+1<m
     ·have hk2m:(k1:Int)+1<m:=by omega
      have hwr:IntKind.i64.wrap ((k1:Int)+1)=(k1:Int)+1:=IntWalk.i64_in _ (by omega);obtain⟨T,a1,m1,e1,hTe,_,_,_,hg1,c10,c11,_,_⟩:=hh.at_ hg;injection hTe with hTe;injection hTe with hTe _ _;subst hTe;obtain⟨T,a0,m0,e0,hTe,_,_,_,hg0',c00,c01,_,_⟩:=hh.at_ hk1m;injection hTe with hTe;injection hTe with hTe _ _;subst hTe;have y1:(k1:Int)<m:=by omega
      have y2:¬((k1:Int)<0):=by omega
      have y3:¬((k1:Int)+1<0):=by omega
      have y4:(0:Int)<=(k1:Int)+1:=by omega
      have r1:=HRD.out _ hB _ (HCT.out _ ((HPM.out.mem_iff (a:=(a1,m1,e1))).1 (by rw[<-hg1,List.getD_eq_getElem?_getD,List.getElem?_eq_getElem (by rw[hh.len];omega)];exact List.getElem_mem _)));have r2:=HRD.out _ hB _ (HCT.out _ ((HPM.out.mem_iff (a:=(a0,m0,e0))).1 (by rw[<-hg0',List.getD_eq_getElem?_getD,List.getElem?_eq_getElem (by rw[hh.len];omega)];exact List.getElem_mem _)));have hl:=fun (W:World) (hW:W=wr\/W=wr.drew)=>HL.out W base a1 m1 e1 a0 m0 e0 (by rcases hW with rfl|rfl;exact r1;exact r1.drew) (by rcases hW with rfl|rfl;exact r2;exact r2.drew);clear r1 r2;have hlen:=hh.len;have HG1:=hid hg1;have HGZ:=hid hg0';have HLEN:=hid hlen;generalize hbb:lt (a1,m1,e1) (a0,m0,e0)=bb at hl;have KL:=hid hl;have HBB:=hid hbb;clear hg1 hg0' hl hbb hh hlen
      go_region_held3 (fun w'=>w'.cell? ⟨H,0,none⟩=some (.func (.func 50) #[] #[])/\w'.cell? ⟨H,1,none⟩=some (.slice (some ⟨S,0,none⟩) m c)/\w'.cell? ⟨S,(k1+1)*2,none⟩=some (.slice a1.1 a1.2.1 a1.2.2)/\w'.cell? ⟨S,(k1+1)*2+1,none⟩=some (.int .i64 m1)/\w'.cell? ⟨S,k1*2,none⟩=some (.slice a0.1 a0.2.1 a0.2.2)/\w'.cell? ⟨S,k1*2+1,none⟩=some (.int .i64 m0))
       (first
         |go_keep
         |(go_split_ands
           refine⟨?_,?_,?_,?_,?_,?_⟩
           ·(rw[cH];assumption)
           ·(rw[cH];assumption)
           ·(rw[cS];assumption)
           ·(rw[cS];assumption)
           ·(rw[cS];assumption)
           ·(rw[cS];assumption)))
       (first
         |(go_at_call 50;refine(KL.out _ (by first|exact .inl rfl|exact .inr rfl)).mono ?_;rintro e w5 ⟨rfl,hb5⟩;have cH:=(keepAt hb5 (b:=H) hHs).1;have cS:=(keepAt hb5 (b:=S) hSs).1))
      all_goals
       clear cH cS;have hb6:Below wr.heap.size wr w5:=by first|exact hb5|exact(Below.refl _ _).drew.trans hb5
       have hl0:bb=false->Least d0 lt L2 i (2*i+1):=fun hf=>by
        refine least_left HO.out (by have:=HLEN.out;have:=HK1.out;omega) (fun _=> ?_);have q1:=HG1.out;have q0:=HGZ.out;rw[HK1.out] at q1 q0;rw[show 2*i+2=2*i+1+1 from rfl,q1,q0,HBB.out];exact hf
       have hl1:bb=true->Least d0 lt L2 i (2*i+1+1):=fun ht=>by
        refine least_right HO.out (by have:=HLEN.out;have:=HK1.out;omega) ?_;have q1:=HG1.out;have q0:=HGZ.out;rw[HK1.out] at q1 q0;rw[show 2*i+2=2*i+1+1 from rfl,q1,q0,HBB.out];exact ht
       have hh5:=HHr.out.keep hb6;have hB5:=hB.below hb6;have hR5:=blk_below HR2.out hb6 (lt_of_block HR2.out);have hR6:=blk_below HR3.out hb6 (lt_of_block HR3.out);have HL0:=hid hl0;have HL1:=hid hl1;clear hb5 hb6 hl0 hl1
       go_wp2_with fail
       go_meet
       first|exact⟨bb,rfl,⟨HL0.out,HL1.out⟩,hh5,hR5,hR6,hB5⟩|exact⟨⟨HL0.out,HL1.out⟩,hh5,hR5,hR6,hB5⟩|exact⟨bb,by simp,⟨HL0.out,HL1.out⟩,hh5,hR5,hR6,hB5⟩
     ·have hd:decide ((k1:Int)+1<m)=false:=by simp;omega
      have hwr:IntKind.i64.wrap ((k1:Int)+1)=(k1:Int)+1:=IntWalk.i64_in _ (by omega);have hlen:=hh.len;have hl0:Least d0 lt L2 i (2*i+1):=least_left HO.out (by have:=HK1.out;omega) (fun h=>absurd h (by have:=HK1.out;omega));have HL0:=hid hl0;clear hl0 hlen hh;go_quiet (fail)
      go_wp2_with fail
      go_meet
      first|exact⟨false,rfl,⟨fun _=>HL0.out,fun h=>by cases h⟩,HHr.out.drewN _,HR2.out,HR3.out,⟨hB.os,hB.tape,hB.output,hB.size,hB.block⟩⟩|exact⟨⟨fun _=>HL0.out,fun h=>by cases h⟩,HHr.out.drewN _,HR2.out,HR3.out,⟨hB.os,hB.tape,hB.output,hB.size,hB.block⟩⟩
    case rest =>
     obtain⟨bb,rfl,⟨hl0,hl1⟩,hh2,hR2,hR3,hB2⟩:=hcut;clear c0 c1 hHs hSs hB hh HHr HR2 HR3;have HL0:=hid hl0;have HL1:=hid hl1;have hwr:IntKind.i64.wrap ((k1:Int)+1)=(k1:Int)+1:=IntWalk.i64_in _ (by omega);clear hl0 hl1
     go_upto_if 73 with fail
     go_cut [6] from 74 to 75 (fun s6 wx=>∃kk:Nat,s6= .int .i64 kk/\Hid (Least d0 lt L2 i kk)/\wx=wc)
     case first =>
      cases bb with
      |false =>
       go_wp2_with fail
       go_meet
       exact⟨k1,rfl,hid (by rw[HK1.out];exact HL0.out (by trivial)),rfl⟩
      |true =>
       go_wp2_with fail
       go_meet
       exact⟨k1+1,rfl,hid (by rw[HK1.out];exact HL1.out (by trivial)),rfl⟩
     case rest =>
     obtain⟨kk,rfl,hL',rfl⟩:=hcut;have hL:=hL'.out;clear HL0 HL1 hwr hL';go_upto_region 10 with fail;have hkm:kk<m:=by have:=hL.kl;rw[hh2.len] at this;exact this
     have him:i<m:=by omega
     have hik:i<kk:=by have h0:=hL.k0;have h1:=par_lt h0;have h2:=hL.kp;omega
     obtain⟨bb,hbb⟩:∃bb,bb=lt (L2.getD kk d0) (L2.getD i d0):=⟨_,rfl⟩;have HBB:=hid hbb;have HL':=hid hL;clear hL
     go_cut [95] from 76 to 95 (fun s95 wx=>∃sb,s95= .bool sb/\Hid (sb= !bb)/\HeapAt wx base H (fnOf 50) (some ⟨S,0,none⟩) m c L2/\wx.heap[w.heap.size]?=some (.cells #[.slice none 0 0,.int .i64 0] 36 (0,0))/\wx.heap[w.heap.size+1]?=some (.cells #[.slice p.1 p.2.1 p.2.2,.int .i64 pm] 36 (0,0))/\Kp w wx H (some S))
     case first =>
      obtain⟨T,a2,m2,e2,hTe,_,_,_,hg2,c20,c21,f20,f21⟩:=hh2.at_ hkm;injection hTe with hTe;injection hTe with hTe _ _;subst hTe;obtain⟨T,a3,m3,e3,hTe,_,_,_,hg3,c30,c31,f30,f31⟩:=hh2.at_ him;injection hTe with hTe;injection hTe with hTe _ _;subst hTe;have d0':=blk_cell hh2.blk 0;have d1':=blk_cell hh2.blk 1;simp only[zzG,zzH,zzI] at d0' d1';unfold fnOf at d0';have hHs:=hh2.lt;have hSs:S<wc.heap.size:=by have:=hR2;have:=lt_of_block this;omega
      have y1:(kk:Int)<m:=by omega
      have y2:(i:Int)<m:=by omega
      have y3:¬((kk:Int)<0):=by omega
      have y4:¬((i:Int)<0):=by omega
      rw[hg2,hg3] at hbb;have r1:=HRD.out _ hB2 _ (HCT.out _ ((HPM.out.mem_iff (a:=(a2,m2,e2))).1 (by rw[<-hg2,List.getD_eq_getElem?_getD,List.getElem?_eq_getElem (by rw[hh2.len];omega)];exact List.getElem_mem _)));have r2:=HRD.out _ hB2 _ (HCT.out _ ((HPM.out.mem_iff (a:=(a3,m3,e3))).1 (by rw[<-hg3,List.getD_eq_getElem?_getD,List.getElem?_eq_getElem (by rw[hh2.len];omega)];exact List.getElem_mem _)));have hl:=fun (W:World) (hW:W=wc\/W=wc.drew)=>HL.out W base a2 m2 e2 a3 m3 e3 (by rcases hW with rfl|rfl;exact r1;exact r1.drew) (by rcases hW with rfl|rfl;exact r2;exact r2.drew);clear r1 r2;rw[<-hbb] at hl;have KL:=hid hl;have HH2:=hid hh2;have HR2:=hid hR2;have HR3:=hid hR3;clear hg2 hg3 hh2 hR2 hR3 hl hbb f20 f21 f30 f31
      go_region_held3 (fun w'=>w'.cell? ⟨H,0,none⟩=some (.func (.func 50) #[] #[])/\w'.cell? ⟨H,1,none⟩=some (.slice (some ⟨S,0,none⟩) m c)/\w'.cell? ⟨S,kk*2,none⟩=some (.slice a2.1 a2.2.1 a2.2.2)/\w'.cell? ⟨S,kk*2+1,none⟩=some (.int .i64 m2)/\w'.cell? ⟨S,i*2,none⟩=some (.slice a3.1 a3.2.1 a3.2.2)/\w'.cell? ⟨S,i*2+1,none⟩=some (.int .i64 m3))
       (first
         |go_keep
         |(go_split_ands
           refine⟨?_,?_,?_,?_,?_,?_⟩
           ·(rw[cH];assumption)
           ·(rw[cH];assumption)
           ·(rw[cS];assumption)
           ·(rw[cS];assumption)
           ·(rw[cS];assumption)
           ·(rw[cS];assumption)))
       (first
         |(go_at_call 50;refine(KL.out _ (by first|exact .inl rfl|exact .inr rfl)).mono ?_;rintro e w5 ⟨rfl,hb5⟩;have cH:=(keepAt hb5 (b:=H) hHs).1;have cS:=(keepAt hb5 (b:=S) hSs).1))
      all_goals
       clear cH cS;have hb6:Below wc.heap.size wc w5:=by first|exact hb5|exact(Below.refl _ _).drew.trans hb5
       have hh5:=HH2.out.keep hb6;have hB5:=hB2.below hb6;have hR5:=blk_below HR2.out hb6 (lt_of_block HR2.out);have hR6:=blk_below HR3.out hb6 (lt_of_block HR3.out);clear hb5 hb6
       go_wp2_with fail
       go_meet
       first|exact⟨!bb,rfl,hid rfl,hh5,hR5,hR6,hB5⟩|exact⟨_,rfl,hid rfl,hh5,hR5,hR6,hB5⟩|exact⟨hid rfl,hh5,hR5,hR6,hB5⟩|exact⟨!bb,by simp,hid rfl,hh5,hR5,hR6,hB5⟩
     case rest =>
      obtain⟨sb,rfl,hsb,hh5,hR5,hR6,hB5⟩:=hcut;have hHw:=hh5.lt;have hwl:=lt_of_block hR5;clear hh2 hR2 hR3 hB2 hbb;cases sb with
      |true =>
       have hlt2:lt (L2.getD kk d0) (L2.getD i d0)=false:=by have h1:=hsb.out;rw[HBB.out] at h1;cases h2:lt (L2.getD kk d0) (L2.getD i d0) with|false=>rfl|true=>rw[h2] at h1;cases h1
       have hfin:=HDN.out.done HO.out HL'.out hlt2;have r0:=blk_cell hR5 0;have r1:=blk_cell hR5 1;have r2:=blk_cell hR6 0;have r3:=blk_cell hR6 1;have g0:=blk_free hR5 0;have g1:=blk_free hR5 1;simp only[zzG,zzH,zzI] at r0 r1 r2 r3;clear hsb hlt2 hik him hkm;go_wp2;refine bodyPost_ret (v:= .agg #[.slice p.1 p.2.1 p.2.2,.int .i64 pm]) (by simp[results,Tryz.results54,go_sem,r0,r1,r2,r3,g0,g1]) rfl ?_;exact⟨p,pm,q,L2,rfl,HG0.out,⟨hh5.hb,blk_far (blk_far hh5.blk (by dsimp only;omega) _) (by dsimp only;omega) _,(hh5.own.setCell (by simp[Value.ownBlock];omega) _).setCell (by simp[Value.ownBlock];omega) _,hh5.len⟩,(List.Perm.cons _ HPM.out).trans HPC.out,hfin,(hB5.setCell (by exact .inr (.inr zzL)) _).setCell (by exact .inr (.inr zzL)) _⟩
      |false =>
       have hlt2:lt (L2.getD kk d0) (L2.getD i d0)=true:=by have h1:=hsb.out;rw[HBB.out] at h1;cases h2:lt (L2.getD kk d0) (L2.getD i d0) with|true=>rfl|false=>rw[h2] at h1;cases h1
       obtain⟨T,a2,m2,e2,hTe,_,_,_,hg2,c20,c21,f20,f21⟩:=hh5.at_ hkm;injection hTe with hTe;injection hTe with hTe _ _;subst hTe;obtain⟨T,a3,m3,e3,hTe,_,_,_,hg3,c30,c31,f30,f31⟩:=hh5.at_ him;injection hTe with hTe;injection hTe with hTe _ _;subst hTe;have d0':=blk_cell hh5.blk 0;have d1':=blk_cell hh5.blk 1;simp only[zzG,zzH,zzI] at d0' d1';unfold fnOf at d0';have y1:(kk:Int)<m:=by omega
       have y2:(i:Int)<m:=by omega
       have y3:¬((kk:Int)<0):=by omega
       have y4:¬((i:Int)<0):=by omega
       have hne0:i≠kk:=by omega
       have hne1:¬i*2=kk*2:=by omega
       have hne2:¬i*2=kk*2+1:=by omega
       have hne4:¬i*2+1=kk*2:=by omega
       have hne5:¬i*2+1=kk*2+1:=by omega
       have HLT:=hid hlt2;have HG2:=hid hg2;have HG3:=hid hg3;have HH5:=hid hh5;have HR5:=hid hR5;have HR6:=hid hR6;clear hsb hlt2 hg2 hg3 hh5 hR5 hR6;go_wp2;have HX:=hid (turned (R0:=w.heap.size) (R1:=w.heap.size+1) HH5.out him hkm HG3.out HG2.out hSH HR5.out HR6.out (by omega) (by omega) hB5)
       go_big_region
       all_goals
        clear hne0 hne1 hne2 hne4 hne5;go_wp2
        go_roundw
        case' rel =>
         have hln:L2.length=m:=HH5.out.len;have hst:=HDN.out.step HO.out HL'.out HLT.out;obtain⟨t1,t2,t3,t4⟩:=HX.out;have t5:=(swp_perm (d:=d0) (L:=L2) (i:=i) (k:=kk) (by omega) (by omega) (by omega)).trans HPM.out;exact⟨kk,swp d0 L2 i kk,Nat.le_of_lt hkm,rfl,t1,t5,hst,t2,t3,t4⟩
        case' measure=>simp[intOf];omega
   ·have hln:=hh.len
    have hfin:=HDN.out.leaf (by omega);have r0:=blk_cell hR2 0;have r1:=blk_cell hR2 1;have r2:=blk_cell hR3 0;have r3:=blk_cell hR3 1;have g0:=blk_free hR2 0;have g1:=blk_free hR2 1;simp only[zzG,zzH,zzI] at r0 r1 r2 r3;have hd:¬(2*(i:Int)+1<m):=by omega
    have HHr:=hid hh;have hHl:=hh.lt;have hwl:=lt_of_block hR2;clear hh hln hR2 hR3;go_wp2;refine bodyPost_ret (v:= .agg #[.slice p.1 p.2.1 p.2.2,.int .i64 pm]) (by simp[results,Tryz.results54,go_sem,r0,r1,r2,r3,g0,g1]) rfl ?_;exact⟨p,pm,q,L2,rfl,HG0.out,⟨HHr.out.hb,blk_far (blk_far HHr.out.blk (by dsimp only;omega) _) (by dsimp only;omega) _,(HHr.out.own.setCell (by simp[Value.ownBlock];omega) _).setCell (by simp[Value.ownBlock];omega) _,HHr.out.len⟩,(List.Perm.cons _ HPM.out).trans HPC.out,hfin,(hB.setCell (by exact .inr (.inr zzL)) _).setCell (by exact .inr (.inr zzL)) _⟩
end HeapW
namespace Std
open Go.RowKit YenLaw
def cmpL:List Int->List Int->Int
 | [],[]=>0
 | [],_::_=> -1
 |_::_,[]=>1
 |x::a,y::b=>if x<y then -1 else if y<x then 1 else cmpL a b
theorem cmpL_lt (a b:List Int):cmpL a b<0 ↔ lexlt a b=true:=by
 induction a generalizing b with
 |nil=>cases b with
  |nil=>simp[cmpL,lexlt]
  |cons y b=>simp[cmpL,lexlt]
 |cons x a ih=>cases b with
  |nil=>simp[cmpL,lexlt]
  |cons y b =>
   rw[lexlt_cons,cmpL];split
   ·simp;omega
   ·split
    ·simp;omega
    ·rw[ih]
     have:x=y:=by omega
     simp[this]
theorem nan_int (x:Int) (w:World):Calls Tryz.prog 104 #[.int .i64 x] w fun e w'=>e= .returned (.bool false)/\w'=w:=by
 go_enter Tryz.func104,Tryz.ntmps104;go_wp2;go_ret;exact⟨by simp,rfl⟩
theorem cmp_int (x y:Int) (w:World) (r:Int) (hr:(if x<y then -1 else if y<x then 1 else 0)=r):Calls Tryz.prog 100 #[.int .i64 x,.int .i64 y] w fun e w'=>e= .returned (.int .i64 r)/\w'=w:=by
 have K1:=hid (nan_int x w);have K2:=hid (nan_int y w);go_enter Tryz.func100,Tryz.ntmps100
 go_wp2_with fail
 refine K1.out.mono ?_;rintro e w1 ⟨rfl,hw1⟩;subst hw1
 go_wp2_with fail
 refine K2.out.mono ?_;rintro e w2 ⟨rfl,hw2⟩;subst hw2;clear K1 K2
 by_cases h1:x<y
 ·rw[if_pos h1] at hr
  subst hr;go_wp2;go_ret;exact⟨rfl,rfl⟩
 ·rw[if_neg h1] at hr
  by_cases h2:y<x
  ·rw[if_pos h2] at hr
   subst hr;go_wp2;go_ret;exact⟨rfl,rfl⟩
  ·rw[if_neg h2] at hr
   subst hr;go_wp2;go_ret;exact⟨rfl,rfl⟩
theorem compare_int (A A':Option Addr) (n m c c':Nat) (l r:List Int) (B:Nat) (w:World) (hl:Sl w B 1 ci A l) (hm:Sl w B 1 ci A' r) (hn:l.length=n) (hm':r.length=m) (hlen:n<=9223372036854775807) (hlen':m<=9223372036854775807) :
 Calls Tryz.prog 86 #[.slice A n c,.slice A' m c'] w fun e w'=>e= .returned (.int .i64 (cmpL l r))/\w'=w:=by
 subst hn hm';go_enter Tryz.func86,Tryz.ntmps86;go_wp2
 go_loopw [11] (fun i wr=>∃k:Nat,k<=l.length/\k<=r.length/\i= .int .i64 k/\Hid (cmpL (l.drop k) (r.drop k)=cmpL l r)/\wr=w) (fun i _=>l.length - (intOf i).toNat)
 case atStart=>exact⟨0,Nat.zero_le _,Nat.zero_le _,rfl,hid (by simp),rfl⟩
 case round =>
  obtain⟨k,hk,hkr,rfl,HC,hw⟩:=hrel;subst hw
  by_cases hlt:k<l.length
  ·obtain⟨bb,off,hA,hbb,hx⟩:=hl.atI hlt
   have hd1:l.drop k=l[k]::l.drop (k+1):=List.drop_eq_getElem_cons hlt
   by_cases hlr:k<r.length
   ·obtain⟨bb',off',hA',hbb',hy⟩:=hm.atI hlr
    have hd2:r.drop k=r[k]::r.drop (k+1):=List.drop_eq_getElem_cons hlr;have hc:=HC.out;rw[hd1,hd2,cmpL] at hc;generalize l[k]=x at hc hx hd1;generalize r[k]=y at hc hy hd2;subst hA hA';have hg:¬((k:Int) ≥ (r.length:Int)):=by omega
    by_cases h1:x<y
    ·rw[if_pos h1] at hc
     have HC1:=hid hc;have kc:=cmp_int x y wr (-1) (by rw[if_pos h1]);have KC:=hid kc;clear hc kc HC hd1 hd2 h1
     go_wp2_with fail
     refine KC.out.mono ?_;rintro e w2 ⟨rfl,hw2⟩;subst hw2;go_wp2;go_ret;exact⟨by rw[<-HC1.out];rfl,by trivial⟩
    ·rw[if_neg h1] at hc
     by_cases h2:y<x
     ·rw[if_pos h2] at hc
      have HC1:=hid hc;have kc:=cmp_int x y wr 1 (by rw[if_neg h1,if_pos h2]);have KC:=hid kc;clear hc kc HC hd1 hd2 h1 h2
      go_wp2_with fail
      refine KC.out.mono ?_;rintro e w2 ⟨rfl,hw2⟩;subst hw2;go_wp2;go_ret;exact⟨by rw[<-HC1.out];rfl,by trivial⟩
     ·rw[if_neg h2] at hc
      have HC1:=hid hc;have kc:=cmp_int x y wr 0 (by rw[if_neg h1,if_neg h2]);have KC:=hid kc;clear hc kc HC hd1 hd2 h1 h2
      go_wp2_with fail
      refine KC.out.mono ?_;rintro e w2 ⟨rfl,hw2⟩;subst hw2;go_wp2
      go_roundw
      case rel=>exact⟨k+1,by omega,by omega,by go_num,HC1,by trivial⟩
      case measure=>simp[intOf];omega
   ·have hk2:k=r.length:=by omega
    have hc:=HC.out;have hd2:r.drop k=[]:=List.drop_eq_nil_of_le (by omega);rw[hd1,hd2,cmpL] at hc;have HC1:=hid hc;have hg:((k:Int) ≥ (r.length:Int)):=by omega
    generalize l[k]=x at hx hd1;subst hA;clear hc hd1 hd2 HC hk2 hlr;go_wp2;go_ret;exact⟨by rw[<-HC1.out];rfl,by trivial⟩
  ·obtain rfl:k=l.length:=by omega
   have hc:=HC.out;rw[List.drop_length] at hc
   by_cases hlr:l.length<r.length
   ·have hd2:r.drop l.length=r[l.length]::r.drop (l.length+1):=List.drop_eq_getElem_cons hlr
    rw[hd2,cmpL] at hc;have HC1:=hid hc;have hz:(l.length:Int)<(r.length:Int):=by omega
    clear hc hd2 HC;go_wp2;go_ret;exact⟨by rw[<-HC1.out];rfl,by trivial⟩
   ·have hd2:r.drop l.length=[]:=List.drop_eq_nil_of_le (by omega)
    rw[hd2,cmpL] at hc;have HC1:=hid hc;have hz:¬(l.length:Int)<(r.length:Int):=by omega
    clear hc hd2 HC;go_wp2;go_ret;exact⟨by rw[<-HC1.out];rfl,by trivial⟩
theorem own_capsC {α:Type} {w:World} {b:Nat} {e:TypeId} {sz:Nat} {cell:α->Nat->Value} {A:Option Addr} {n c:Nat} {l:List α} (h:Own w b e sz cell (.slice A n c) l):n<=9223372036854775807:=by
 rcases h.2 with ⟨h1,h2⟩|⟨g,cap,cur,hv,h3,h4,h5,h6,h7,h8⟩
 ·injection h1 with _ a b
  omega
 ·injection hv with _ a b
  have:maxLen=9223372036854775807:=rfl;omega
theorem less_any:HeapW.LessOk 50 HeapW.ltP:=by
 intro W base a am b x xm y ha hx;obtain⟨A1,n1,c1⟩:=a;obtain⟨A2,n2,c2⟩:=x;have e1:Own W base 3 1 ci (.slice A1 n1 c1) b:=ha;have e2:Own W base 3 1 ci (.slice A2 n2 c2) y:=hx;have hn1:=own_capsC e1;have hn2:=own_capsC e2;obtain⟨l1,s1⟩:=e1.sl;obtain⟨l2,s2⟩:=e2.sl;have hB:Below W.heap.size W ((W.alloc (.cells #[.slice A1 n1 c1,.int .i64 am] 36)).alloc (.cells #[.slice A2 n2 c2,.int .i64 xm] 36)):=((Below.refl _ _).alloc zzL _).alloc (by simp) _;have kc:=compare_int A1 A2 n1 n2 c1 c2 b y _ _ ((s1.keep hB zzL).more hB.size) ((s2.keep hB zzL).more hB.size) l1.symm l2.symm hn1 hn2
 have hr:HeapW.ltP ((A1,n1,c1),am,b) ((A2,n2,c2),xm,y)=(decide (am<xm) || (decide (am=xm) && decide (cmpL b y<0))):=by
  unfold HeapW.ltP YenLaw.ltY
  congr 2
  rw[Bool.eq_iff_iff,decide_eq_true_eq];exact(cmpL_lt b y).symm
 rw[hr];obtain⟨cv,hcv⟩:∃cv,cmpL b y=cv:=⟨_,rfl⟩;rw[hcv] at kc ⊢;have KC:=hid kc;clear kc hr ha hx e1 e2 l1 l2 s1 s2 hn1 hn2 hcv
 by_cases h1:am<xm
 ·rw[decide_eq_true h1]
  clear KC;go_enter Tryz.func50,Tryz.ntmps50;go_wp2;go_ret;exact⟨rfl,hB⟩
 ·by_cases h2:am=xm
  ·subst h2
   have hd:(decide (am<am) || (decide (am=am) && decide (cv<0)))=decide (cv<0):=by simp
   rw[hd];clear hd h1;go_enter Tryz.func50,Tryz.ntmps50
   go_wp2_with fail
   refine KC.out.mono ?_;rintro e w2 ⟨rfl,hw2⟩;subst hw2;go_wp2;go_ret;exact⟨by simp,hB⟩
  ·have hd:(decide (am<xm) || (decide (am=xm) && decide (cv<0)))=false:=by simp[h1,h2]
   have he:(am == xm)=false:=beq_eq_false_iff_ne.2 h2;rw[hd];clear hd KC h2;go_enter Tryz.func50,Tryz.ntmps50;go_wp2;go_ret;exact⟨by simp,hB⟩
end Std
namespace YenF
open Go.RowKit Net Go.Proofs.YtjebckehmmbkbaaGreat.Std HeapW
def WRow (w:World) (Ao:Option Addr) (O:List Pop):Prop:=Sl w w.heap.size 2 cw Ao O/\∀x∈O,∃B,Rd w B x
theorem WRow.keep {w w':World} {Ao:Option Addr} {O:List Pop} (h:WRow w Ao O) (hb:Below w.heap.size w w'):WRow w' Ao O :=
 ⟨(h.1.keep hb zzL).more hb.size,fun x hx=>by obtain⟨B,hB⟩:=h.2 x hx;exact⟨B,hB.keep hb⟩⟩
theorem WRow.at_ {w:World} {Ao:Option Addr} {O:List Pop} (h:WRow w Ao O) {k:Nat} (hk:k<O.length):∃b off x xm p,Ao=some ⟨b,off,none⟩/\b<w.heap.size/\O[k]=(x,xm,p)/\w.cell? ⟨b,off+k*2,none⟩=some (.slice x.1 x.2.1 x.2.2)/\w.cell? ⟨b,off+k*2+1,none⟩=some (.int .i64 xm)/\Sl w w.heap.size 1 ci x.1 p/\p.length=x.2.1/\x.2.1<=9223372036854775807:=by
 obtain⟨b,off,hA,hB,hc⟩:=h.1 (by omega);obtain⟨B,hr⟩:=h.2 _ (List.getElem_mem hk);have hs:=Own.sl hr;exact⟨b,off,(O[k]).1,(O[k]).2.1,(O[k]).2.2,hA,hB,rfl,hc k hk 0 (by omega),hc k hk 1 (by omega),hs.2,hs.1.symm,Std.own_capsC hr⟩
theorem same_fn (BW kq cq:Nat) (Aq:Option Addr) (q:List Int) (co:Int) (x:SV) (xm:Int) (p:List Int) (w:World) (hbox:w.heap[BW]?=some (.cells #[.slice Aq kq cq,.int .i64 co] 36 (0,0))) (hq:Sl w w.heap.size 1 ci Aq q) (hkq:q.length=kq) (hp:Sl w w.heap.size 1 ci x.1 p) (hxp:p.length=x.2.1) (hlen:x.2.1<=9223372036854775807) :
 Calls Tryz.prog 56 #[.agg #[.slice x.1 x.2.1 x.2.2,.int .i64 xm],.pointer (some ⟨BW,0,none⟩)] w fun e w'=>e= .returned (.bool (decide (p=q)))/\Below w.heap.size w w':=by
 have hB:Below w.heap.size w (w.alloc (.cells #[.slice x.1 x.2.1 x.2.2,.int .i64 xm] 36)):=(Below.refl _ _).alloc zzL _;have key:=equal_int' x.1 Aq x.2.1 kq x.2.2 cq p q _ _ _ ((hp.keep hB zzL).more hB.size) ((hq.keep hB zzL).more hB.size) hxp hkq hlen _ rfl;have hbz:=lt_of_block hbox;have c0:=blk_cell (blk_alloc hbox (.cells #[.slice x.1 x.2.1 x.2.2,.int .i64 xm] 36)) 0;simp only[zzG,zzH,zzI] at c0;obtain⟨b,hb⟩:∃b,decide (p=q)=b:=⟨_,rfl⟩;rw[hb] at key ⊢;have KEY:=hid key;obtain⟨A1,n1,c1⟩:=x;simp only at KEY hB c0 ⊢;clear key hb hq hp hxp hkq hbox hlen;go_enter Tryz.func56,Tryz.ntmps56
 go_wp2_with fail
 refine KEY.out.mono ?_;rintro e w2 ⟨rfl,k,hk⟩;subst hk;have hB2:=below_drewN hB k;have HB:=hid hB2;clear hB hB2 KEY;go_wp2;go_ret;exact⟨rfl,HB.out⟩
def fnS (BW:Nat):Value:= .func (.func 56) #[] #[.pointer (some ⟨BW,0,none⟩)]
theorem index_same (BW kq cq:Nat) (Aq:Option Addr) (q:List Int) (co:Int) (Ao:Option Addr) (mo cO:Nat) (O:List Pop) (w:World) (h:WRow w Ao O) (hmo:O.length=mo) (hbox:w.heap[BW]?=some (.cells #[.slice Aq kq cq,.int .i64 co] 36 (0,0))) (hq:Sl w w.heap.size 1 ci Aq q) (hkq:q.length=kq) (hlen:mo<=1000000) :
 Calls Tryz.prog 89 #[.slice Ao mo cO,fnS BW] w fun e w'=>∃r:Int,e= .returned (.int .i64 r)/\(0<=r ↔ q∈O.map (·.2.2))/\Below w.heap.size w w':=by
 subst hmo;unfold fnS;have HW:=hid h;have HBX:=hid hbox;have HQ:=hid hq;clear h hbox hq;go_enter Tryz.func89,Tryz.ntmps89;go_wp2
 go_loopw [8] (fun i wr=>∃k:Nat,k<=O.length/\i= .int .i64 k/\Hid (q ∉ (O.take k).map (·.2.2))/\Hid (Below w.heap.size w wr)) (fun i _=>O.length - (intOf i).toNat)
 case atStart=>exact⟨0,Nat.zero_le _,rfl,hid (by simp),hid (Below.refl _ _)⟩
 case round =>
  obtain⟨k,hk,rfl,HN,HB⟩:=hrel
  by_cases hlt:k<O.length
  ·obtain⟨b,off,x,xm,p,rfl,hb,he,cx,cm,hp,hpl,hpc⟩:=(HW.out.keep HB.out).at_ hlt
   have kc:=same_fn BW kq cq Aq q co x xm p wr (blk_below HBX.out HB.out (lt_of_block HBX.out)) ((HQ.out.keep HB.out zzL).more HB.out.size) hkq hp hpl hpc
   have hsn:(O.take (k+1)).map (·.2.2)=(O.take k).map (·.2.2)++[p]:=by
    rw[List.take_succ_eq_append_getElem hlt,List.map_append,he]
    rfl
   obtain⟨bo,hbo⟩:∃bo,decide (p=q)=bo:=⟨_,rfl⟩;rw[hbo] at kc;have hin:p∈O.map (·.2.2):=List.mem_map.2 ⟨O[k],List.getElem_mem hlt,by rw[he]⟩;have KC:=hid kc;have HBO:=hid hbo;have HIN:=hid hin;have HSN:=hid hsn;obtain⟨A1,n1,c1⟩:=x;simp only at KC cx hpl hpc;clear kc hbo hin hsn he hp hpl
   go_wp2_with fail
   refine KC.out.mono ?_;rintro e w2 ⟨rfl,hB2⟩;have B2:=HB.out.trans (hB2.mono HB.out.size);have HB2:=hid B2;clear hB2 B2 KC;cases bo with
   |true =>
    go_wp2;go_ret;exact⟨k,rfl,⟨fun _=>by rw[<-of_decide_eq_true HBO.out];exact HIN.out,fun _=>by omega⟩,HB2.out⟩
   |false =>
    go_wp2
    go_roundw
    case rel=>exact⟨k+1,by omega,by go_num,hid (by rw[HSN.out,List.mem_append,List.mem_singleton];rintro (h|h);exact HN.out h;exact of_decide_eq_false HBO.out h.symm),HB2⟩
    case measure=>simp[intOf];omega
  ·obtain rfl:k=O.length:=by omega
   have hno:q ∉ O.map (·.2.2):=by have:=HN.out;rwa [List.take_length] at this
   have HNO:=hid hno;clear hno;go_wp2;go_ret;exact⟨-1,rfl,⟨fun h=>absurd h (by omega),fun h=>absurd h HNO.out⟩,HB.out⟩
theorem contains_same (BW kq cq:Nat) (Aq:Option Addr) (q:List Int) (co:Int) (Ao:Option Addr) (mo cO:Nat) (O:List Pop) (w:World) (h:WRow w Ao O) (hmo:O.length=mo) (hbox:w.heap[BW]?=some (.cells #[.slice Aq kq cq,.int .i64 co] 36 (0,0))) (hq:Sl w w.heap.size 1 ci Aq q) (hkq:q.length=kq) (hlen:mo<=1000000) (b:Bool) (hb:decide (q∈O.map (·.2.2))=b) :
 Calls Tryz.prog 55 #[.slice Ao mo cO,fnS BW] w fun e w'=>e= .returned (.bool b)/\Below w.heap.size w w':=by
 have key:=index_same BW kq cq Aq q co Ao mo cO O w h hmo hbox hq hkq hlen;unfold fnS at key ⊢;have KEY:=hid key;have HB:=hid hb;clear key h hbox hq hb;go_enter Tryz.func55,Tryz.ntmps55
 go_wp2_with fail
 refine KEY.out.mono ?_;rintro e w1 ⟨r,rfl,hr,hB⟩;have HR:=hid hr;clear hr KEY;go_wp2;go_ret;exact⟨ret_bool (by rw[<-HB.out,Bool.eq_iff_iff,decide_eq_true_eq];exact HR.out.trans decide_eq_true_iff.symm),hB⟩
end YenF
end Go.Proofs.YtjebckehmmbkbaaGreat
