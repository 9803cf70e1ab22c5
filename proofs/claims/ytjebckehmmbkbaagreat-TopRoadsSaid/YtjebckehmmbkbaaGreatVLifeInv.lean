/- The walks of package heap at life.spot. The walk of Heap[life.spot].Pop. Plain facts on a plan that is mended: what waits, and what is still to be mended. No Go in sight. -/
import Derived.Test.YtjebckehmmbkbaaGreatVTopYen
set_option linter.unusedSimpArgs false
set_option linter.unusedVariables false
set_option maxRecDepth 100000
set_option maxHeartbeats 24000000
namespace Go.Proofs.YtjebckehmmbkbaaGreat
namespace HeapS
open Go.RowKit HeapLaw Net
open Heap (Kp Kp.refl Kp.below Kp.alloc Kp.drew Kp.setCell Kp.grown Kp.to fnOf)
abbrev Pop:=Int × Int × Int
abbrev d0:Pop:=(0,0,0)
theorem infoPop:(Tryz.prog.info? 103).map (fun i=>(i.zero,i.size,i.bytes))=some (some (.agg #[.int .i64 0,.int .i64 0,.int .i64 0]),3,24):=by kernel_rfl
structure HeapAt (w:World) (base H:Nat) (fn:Value) (A:Option Addr) (n c:Nat) (L:List Pop):Prop where
 hb:base<=H
 blk:w.heap[H]?=some (.cells #[fn,.slice A n c] 144 (0,0))
 own:Own w base 103 3 ce (.slice A n c) L
 len:L.length=n
section
variable {w w':World} {base H:Nat} {fn:Value} {A:Option Addr} {n c:Nat} {L:List Pop}
theorem HeapAt.lt (h:HeapAt w base H fn A n c L):H<w.heap.size:=lt_of_block h.blk
theorem HeapAt.ne (h:HeapAt w base H fn A n c L):(Value.slice A n c).ownBlock≠some H:=h.own.ne_ h.blk (by decide)
theorem HeapAt.alloc (h:HeapAt w base H fn A n c L) (o:Obj):HeapAt (w.alloc o) base H fn A n c L:=⟨h.hb,blk_alloc h.blk o,h.own.alloc o,h.len⟩
theorem HeapAt.drewN (h:HeapAt w base H fn A n c L) (k:Nat):HeapAt (w.drewN k) base H fn A n c L:=⟨h.hb,h.blk,h.own.drewN k,h.len⟩
theorem HeapAt.keep (h:HeapAt w base H fn A n c L) (hb:Below w.heap.size w w'):HeapAt w' base H fn A n c L:=⟨h.hb,blk_below h.blk hb h.lt,h.own.keep hb,h.len⟩
theorem HeapAt.at_ (h:HeapAt w base H fn A n c L) {i:Nat} (hi:i<n):∃S a am b,A=some ⟨S,0,none⟩/\base<=S/\S<w.heap.size/\S≠H/\L.getD i d0=(a,am,b) /\
 w.cell? ⟨S,i*3,none⟩=some (.int .i64 a)/\w.cell? ⟨S,i*3+1,none⟩=some (.int .i64 am)/\w.cell? ⟨S,i*3+2,none⟩=some (.int .i64 b)/\w.frozen? ⟨S,i*3,none⟩=false/\w.frozen? ⟨S,i*3+1,none⟩=false/\w.frozen? ⟨S,i*3+2,none⟩=false:=by
 have hl:=h.len;have hne:=h.ne;have hown:=h.own;obtain⟨S,c',hv,hb,hS,_,hc⟩:=hown.some_ (by omega);injection hv with hv _ _;subst hv;have e:L.getD i d0=L[i]'(by omega):=by rw[List.getD_eq_getElem?_getD,List.getElem?_eq_getElem (by omega)];rfl
 exact⟨S,_,_,_,rfl,hb,hS,fun e=>hne (by rw[e];rfl),e,(hc i (by omega) 0 (by omega)).1,(hc i (by omega) 1 (by omega)).1,(hc i (by omega) 2 (by omega)).1,(hc i (by omega) 0 (by omega)).2,(hc i (by omega) 1 (by omega)).2,(hc i (by omega) 2 (by omega)).2⟩
end
theorem own_set3 {w:World} {base:Nat} {e:TypeId} {S c n:Nat} {l:List Pop} (hn:l.length=n) (h:Own w base e 3 ce (.slice (some ⟨S,0,none⟩) n c) l) (k:Nat) (hk:k<n) (a am b:Int) :
 Own (((w.setCell ⟨S,k*3,none⟩ (.int .i64 a)).setCell ⟨S,k*3+1,none⟩ (.int .i64 am)).setCell ⟨S,k*3+2,none⟩ (.int .i64 b)) base e 3 ce (.slice (some ⟨S,0,none⟩) n c) (l.set k (a,am,b)):=by
 have h1:=own_setj hn h k 0 (a,(l[k]'(by omega)).2) (by omega) (by decide) (fun j hj hne=>by
  match j,hj,hne with
  |0,_,hne=>exact absurd rfl hne
  |1,_,_=>rfl
  |2,_,_=>rfl)
 have h2:=own_setj (by simpa using hn) h1 k 1 (a,am,(l[k]'(by omega)).2.2) (by simpa using (show k<l.length by omega)) (by decide) (fun j hj hne=>by
  rw[List.getElem_set_self]
  match j,hj,hne with
  |0,_,_=>rfl
  |1,_,hne=>exact absurd rfl hne
  |2,_,_=>rfl)
 rw[List.set_set] at h2
 have h3:=own_setj (by simpa using hn) h2 k 2 (a,am,b) (by simpa using (show k<l.length by omega)) (by decide) (fun j hj hne=>by
  rw[List.getElem_set_self]
  match j,hj,hne with
  |0,_,_=>rfl
  |1,_,_=>rfl
  |2,_,hne=>exact absurd rfl hne)
 rw[List.set_set] at h3;exact h3
theorem HeapAt.swap {w:World} {base H:Nat} {fn:Value} {S n c:Nat} {L:List Pop} (h:HeapAt w base H fn (some ⟨S,0,none⟩) n c L) {i k:Nat} (hi:i<n) (hk:k<n) {a am b x xm y:Int} (hxi:L.getD i d0=(x,xm,y)) (hxk:L.getD k d0=(a,am,b)) (hS:S≠H) :
 HeapAt ((((((w.setCell ⟨S,i*3,none⟩ (.int .i64 a)).setCell ⟨S,i*3+1,none⟩ (.int .i64 am)).setCell ⟨S,i*3+2,none⟩ (.int .i64 b)).setCell ⟨S,k*3,none⟩ (.int .i64 x)).setCell ⟨S,k*3+1,none⟩ (.int .i64 xm)).setCell ⟨S,k*3+2,none⟩ (.int .i64 y)) base H fn (some ⟨S,0,none⟩) n c (swp d0 L i k):=by
 have hS':H≠S:=fun e=>hS e.symm;refine⟨h.hb,blk_far (blk_far (blk_far (blk_far (blk_far (blk_far h.blk hS' _) hS' _) hS' _) hS' _) hS' _) hS' _,?_,by rw[swp_len];exact h.len⟩;have h1:=own_set3 h.len h.own i hi a am b;have h2:=own_set3 (by simpa using h.len) h1 k hk x xm y;unfold swp;rw[hxi,hxk];exact h2
def LessOk (k:FuncId) (lt:Pop->Pop->Bool):Prop:=∀(W:World) (a am b x xm y:Int),Calls Tryz.prog k #[.agg #[.int .i64 a,.int .i64 am,.int .i64 b],.agg #[.int .i64 x,.int .i64 xm,.int .i64 y]] W fun e w'=>e= .returned (.bool (lt (a,am,b) (x,xm,y)))/\Below W.heap.size W w'
theorem push_any (lt:Pop->Pop->Bool) (o:Ord lt) (hless:LessOk 45 lt) (base H:Nat) (A:Option Addr) (n c:Nat) (L:List Pop) (x xm y:Int) (w:World) (h:HeapAt w base H (fnOf 45) A n c L) (hp:Hp d0 lt L) (hn:(n+1)*24<=140737488355328) (hb:base<=w.heap.size) :
 Calls Tryz.prog 80 #[.pointer (some ⟨H,0,none⟩),.agg #[.int .i64 x,.int .i64 xm,.int .i64 y]] w fun e w'=>(∃v,e= .returned v)/\∃A' c' L',HeapAt w' base H (fnOf 45) A' (n+1) c' L'/\L'.Perm ((x,xm,y)::L)/\Hp d0 lt L'/\Kp w w' H (Value.slice A n c).ownBlock/\∀S,(Value.slice A' (n+1) c').ownBlock=some S->(Value.slice A n c).ownBlock=some S\/w.heap.size<=S:=by
 obtain⟨i0,hi,hz0,hz1,hz2⟩:=info_parts infoPop;have hc0:=blk_cell h.blk 0;have hc1:=blk_cell h.blk 1;have hlt:=h.lt;have hne:=h.ne;simp only[zzG,zzH,zzI] at hc0 hc1;unfold fnOf at hc0;have hb0:=blk_alloc (blk_alloc h.blk (.cells #[.int .i64 x,.int .i64 xm,.int .i64 y] 103)) (.cells #[.int .i64 x,.int .i64 xm,.int .i64 y] 103);go_enter Tryz.func80,Tryz.ntmps80;go_upto_region 1 with fail
 go_cut [13] from 6 to 15 (fun s13 wx=>∃A3 c3,HeapAt wx base H (fnOf 45) A3 (n+1) c3 (L++[(x,xm,y)])/\Kp w wx H (Value.slice A n c).ownBlock/\∀S,(Value.slice A3 (n+1) c3).ownBlock=some S->(Value.slice A n c).ownBlock=some S\/w.heap.size<=S)
 case first =>
  go_region_law (refine step_push _ rfl (.tmp 10) (.tmp 12) _ rfl base 103 i0 _ 3 24 ce Tryz.underlying142 hi hz0 hz1 hz2 rfl (by decide) _ L n h.len rfl ((h.own.alloc _).alloc _) (w.heap.size+1) 1 (x,xm,y) rfl (news3' (by simp)) (fun _ _=>one_ce _ _) (by omega) (by omega) (by simp;omega) ?_;intro A3 c3 w4 hown3 hgrow3 hat3;have hH4:w4.heap[H]?=some (.cells #[fnOf 45,.slice A n c] 144 (0,0)):=(hgrow3.block H (by simp;omega) (fun e=>hne e.symm)).trans hb0;have c41:w4.cell? ⟨H,1,none⟩=some (.slice A n c):=blk_cell hH4 1;have f41:w4.frozen? ⟨H,1,none⟩=false:=blk_free hH4 1)
  all_goals
   have hB4:Kp w w4 H (Value.slice A n c).ownBlock:=by first|exact(((Kp.refl _ _ _).alloc _).alloc _).drew.grown hgrow3|exact(((Kp.refl _ _ _).alloc _).alloc _).grown hgrow3
   have hat4:∀S,(Value.slice A3 (n+1) c3).ownBlock=some S->(Value.slice A n c).ownBlock=some S\/w.heap.size<=S:=fun S hS=>by
    rcases hat3 with h1|h1
    ·exact .inl (h1.symm.trans hS)
    ·rw[h1] at hS
     injection hS with hS;simp at hS;exact .inr (by omega)
   go_wp2_with fail
   go_meet
   exact⟨A3,c3,⟨h.hb,blk_set hH4 1 _,hown3.setCell (hown3.ne_ hH4 (by decide)) _,by simp[h.len]⟩,hB4.setCell (.inl rfl) _,hat4⟩
 case rest =>
  obtain⟨A3,c3,h3,hB3,hat4⟩:=hcut;have HAT:=hid hat4;clear hat4;have e0:=blk_cell h3.blk 1;simp only[zzG,zzH,zzI] at e0;have hup:=Hp.snoc hp (x,xm,y);rw[h.len] at hup;have HUP:=hid hup;have H3:=hid h3;have HO:=hid o;have HL:=hid hless;clear h hp hup h3 hc0 hc1 hne hb0 o hless;have hn1:(n:Int)+1 - 1=n:=by omega
  go_wp2
  go_loopw [4] (fun s4 wr=>∃(i:Nat) (L':List Pop),i<n+1/\s4= .int .i64 i/\HeapAt wr base H (fnOf 45) A3 (n+1) c3 L'/\L'.Perm ((x,xm,y)::L)/\Up d0 lt L' i/\Kp w wr H (Value.slice A n c).ownBlock) (fun s4 _=>(intOf s4).toNat)
  case atStart=>exact⟨n,L++[(x,xm,y)],by omega,rfl,H3.out,List.perm_append_comm,HUP.out,hB3⟩
  case round =>
   obtain⟨i,L',hi1,rfl,hh,hpm,hu,hB⟩:=hrel;have HPM:=hid hpm;have HU:=hid hu;have c0:=blk_cell hh.blk 0;have c1:=blk_cell hh.blk 1;simp only[zzG,zzH,zzI] at c0 c1;unfold fnOf at c0;clear hpm hu e0 H3 HUP
   by_cases hi0:0<i
   ·obtain⟨j,rfl⟩:∃j,i=j+1:=⟨i - 1,by omega⟩
    have hq:(j:Int).tdiv 2=((j / 2:Nat):Int):=by rw[Int.ofNat_tdiv];rfl
    have hj2:j / 2<j+1:=by omega
    obtain⟨S,a,am,b,rfl,hS0,hS1,hSH,hgi,ci0,ci1,ci2,fi0,fi1,fi2⟩:=hh.at_ hi1;obtain⟨S',a',am',b',hSe,_,_,_,hgk,ck0,ck1,ck2,fk0,fk1,fk2⟩:=hh.at_ (show j / 2<n+1 by omega);injection hSe with hSe;injection hSe with hSe _ _;subst hSe;have hj0:(0:Int)<=((j / 2:Nat):Int):=by omega
    generalize hk2:j / 2=m at *;have HK2:=hid hk2;have HGI:=hid hgi;have HGK:=hid hgk;have HH:=hid hh;have hl:=fun W=>HL.out W a am b a' am' b';have hHs:=hh.lt;have b1:(j:Int)+1<(n:Int)+1:=by omega
    have b2:(0:Int)<=(j:Int)+1:=by omega
    have b3:(m:Int)<(n:Int)+1:=by omega
    have b4:(j:Int)<n:=by omega
    have b5:j<n:=by omega
    have b6:m<n+1:=by omega
    have b7:(m:Int)<=n:=by omega
    have b8:¬((m:Int)<0):=by omega
    have b9:¬((j:Int)+1<0):=by omega
    clear hk2 hgi hgk;cases hlt2:lt (a,am,b) (a',am',b') with
    |false =>
     simp only[hlt2] at hl;have KL:=hid hl;have HLT:=hid hlt2;clear hl hlt2;go_wp2
     go_region_held3 (fun w'=>w'.cell? ⟨H,0,none⟩=some (.func (.func 45) #[] #[])/\w'.cell? ⟨H,1,none⟩=some (.slice (some ⟨S,0,none⟩) (n+1) c3)/\w'.cell? ⟨S,(j+1)*3,none⟩=some (.int .i64 a)/\w'.cell? ⟨S,(j+1)*3+1,none⟩=some (.int .i64 am)/\w'.cell? ⟨S,(j+1)*3+2,none⟩=some (.int .i64 b)/\w'.cell? ⟨S,m*3,none⟩=some (.int .i64 a')/\w'.cell? ⟨S,m*3+1,none⟩=some (.int .i64 am')/\w'.cell? ⟨S,m*3+2,none⟩=some (.int .i64 b'))
      (first
        |go_keep
        |(go_split_ands
          refine⟨?_,?_,?_,?_,?_,?_,?_,?_⟩
          ·(rw[cH];assumption)
          ·(rw[cH];assumption)
          ·(rw[cS];assumption)
          ·(rw[cS];assumption)
          ·(rw[cS];assumption)
          ·(rw[cS];assumption)
          ·(rw[cS];assumption)
          ·(rw[cS];assumption)))
      (first
        |(go_at_call 45;refine(KL.out _).mono ?_;rintro e w5 ⟨rfl,hb5⟩;have cH:=(keepAt hb5 (b:=H) hHs).1;have cS:=(keepAt hb5 (b:=S) hS1).1))
     all_goals
      clear cH cS;have hb6:Below wr.heap.size wr w5:=by first|exact hb5|exact(Below.refl _ _).drew.trans hb5
      have hfin:=HU.out.done (fun _=>by
       have e1:par (j+1)=m:=by have:=HK2.out;unfold par;omega
       rw[e1,HGI.out,HGK.out];exact HLT.out)
      have hh5:=HH.out.keep hb6;have hB5:=hB.below hb6;clear hb5 hb6;go_wp2;refine bodyPost_end (v:= .tuple #[]) (by simp[results,Tryz.results80,go_sem]) rfl ?_;exact⟨⟨_,rfl⟩,_,c3,L',hh5,HPM.out,hfin,hB5,HAT.out⟩
    |true =>
     simp only[hlt2] at hl;have KL:=hid hl;have HLT:=hid hlt2;clear hl hlt2;go_wp2
     go_region_held3 (fun w'=>w'.cell? ⟨H,0,none⟩=some (.func (.func 45) #[] #[])/\w'.cell? ⟨H,1,none⟩=some (.slice (some ⟨S,0,none⟩) (n+1) c3)/\w'.cell? ⟨S,(j+1)*3,none⟩=some (.int .i64 a)/\w'.cell? ⟨S,(j+1)*3+1,none⟩=some (.int .i64 am)/\w'.cell? ⟨S,(j+1)*3+2,none⟩=some (.int .i64 b)/\w'.cell? ⟨S,m*3,none⟩=some (.int .i64 a')/\w'.cell? ⟨S,m*3+1,none⟩=some (.int .i64 am')/\w'.cell? ⟨S,m*3+2,none⟩=some (.int .i64 b'))
      (first
        |go_keep
        |(go_split_ands
          refine⟨?_,?_,?_,?_,?_,?_,?_,?_⟩
          ·(rw[cH];assumption)
          ·(rw[cH];assumption)
          ·(rw[cS];assumption)
          ·(rw[cS];assumption)
          ·(rw[cS];assumption)
          ·(rw[cS];assumption)
          ·(rw[cS];assumption)
          ·(rw[cS];assumption)))
      (first
        |(go_at_call 45;refine(KL.out _).mono ?_;rintro e w5 ⟨rfl,hb5⟩;have cH:=(keepAt hb5 (b:=H) hHs).1;have cS:=(keepAt hb5 (b:=S) hS1).1))
     all_goals
      clear cH cS;have hb6:Below wr.heap.size wr w5:=by first|exact hb5|exact(Below.refl _ _).drew.trans hb5
      have hh5:=HH.out.keep hb6;have hB5:=hB.below hb6;obtain⟨cH,fH⟩:=keepAt hb6 (b:=H) hHs;obtain⟨cS,fS⟩:=keepAt hb6 (b:=S) hS1;have u0:=(cH 1).trans c1;have u1:=(cS _).trans ci0;have u2:=(cS _).trans ci1;have u3:=(cS _).trans ck0;have u4:=(cS _).trans ck1;have v1:=(cS _).trans ci2;have v2:=(cS _).trans ck2;have v3:=(fS _).trans fi2;have v4:=(fS _).trans fk2;have u5:=(fS _).trans fi0;have u6':=(fS _).trans fi1;have u7':=(fS _).trans fk0;have u8':=(fS _).trans fk1;have HH5:=hid hh5;have hm2:¬(j+1)*3=m*3:=by omega
      have hm3:¬(j+1)*3=m*3+1:=by omega
      have hm4:¬(j+1)*3=m*3+2:=by omega
      have hm5:¬(j+1)*3+1=m*3:=by omega
      have hm6:¬(j+1)*3+1=m*3+1:=by omega
      have hm7:¬(j+1)*3+1=m*3+2:=by omega
      have hm8:¬(j+1)*3+2=m*3:=by omega
      have hm9:¬(j+1)*3+2=m*3+1:=by omega
      have hm10:¬(j+1)*3+2=m*3+2:=by omega
      clear hb5 hb6 cH fH cS fS c0 c1 ci0 ci1 ci2 ck0 ck1 ck2 fi0 fi1 fi2 fk0 fk1 fk2 hh5 hh;go_wp2
      go_region
      all_goals
       go_wp2
       go_roundw
       case' rel =>
        have e1:par (j+1)=m:=by have:=HK2.out;unfold par;omega
        have hln:L'.length=n+1:=HH5.out.len;have hSr:=HAT.out S rfl;have hst:=HU.out.step HO.out (Nat.succ_pos j) (by omega) (by rw[e1,HGI.out,HGK.out];exact HLT.out);rw[e1] at hst;exact⟨m,swp d0 L' (j+1) m,by omega,rfl,(HH5.out.swap hi1 b6 HGI.out HGK.out hSH).drewN 1,(swp_perm (by omega) (by omega) (by omega)).trans HPM.out,hst,((((((hB5.setCell (.inr hSr) _).setCell (.inr hSr) _).setCell (.inr hSr) _).setCell (.inr hSr) _).setCell (.inr hSr) _).setCell (.inr hSr) _).drew⟩
       case' measure=>simp[intOf];omega
   ·obtain rfl:i=0:=by omega
    have hfin:=HU.out.done (fun h=>absurd h (Nat.lt_irrefl 0));have HH:=hid hh;have HFIN:=hid hfin;clear hh hfin;go_wp2;refine bodyPost_end (v:= .tuple #[]) (by simp[results,Tryz.results80,go_sem]) rfl ?_;exact⟨⟨_,rfl⟩,A3,c3,L',HH.out,HPM.out,HFIN.out,hB,HAT.out⟩
theorem new_any (k:FuncId) (w:World):Calls Tryz.prog 44 #[fnOf k] w fun e w'=>∃H,e= .returned (.pointer (some ⟨H,0,none⟩))/\HeapAt w' w.heap.size H (fnOf k) none 0 0 []/\Below w.heap.size w w':=by
 unfold fnOf;go_enter Tryz.func44,Tryz.ntmps44;go_wp2;refine bodyPost_ret (v:= .pointer (some ⟨w.heap.size,0,none⟩)) (by simp[results,Tryz.results44,go_sem]) rfl ?_;exact⟨w.heap.size,rfl,⟨Nat.le_refl _,heap_alloc_new _ _,Own.nil_,rfl⟩,(Below.refl _ _).alloc zzL _⟩
theorem len_any {base H:Nat} {fn:Value} {A:Option Addr} {n c:Nat} {L:List Pop} (w:World) (h:HeapAt w base H fn A n c L):Calls Tryz.prog 99 #[.pointer (some ⟨H,0,none⟩)] w fun e w'=>e= .returned (.int .i64 n)/\w'=w:=by
 have c1:=blk_cell h.blk 1;simp only[zzG,zzH,zzI] at c1;clear h;go_enter Tryz.func99,Tryz.ntmps99;go_wp2;exact bodyPost_ret (v:= .int .i64 n) (by simp[results,Tryz.results99,go_sem]) rfl ⟨rfl,rfl⟩
def ltP (a b:Pop):Bool:=decide (a.1<b.1\/a.1=b.1/\(a.2.1<b.2.1\/a.2.1=b.2.1/\a.2.2<b.2.2))
theorem ltP_ord:HeapLaw.Ord ltP:=⟨fun {a b} h=>by simp only[ltP,decide_eq_true_eq,decide_eq_false_iff_not] at h ⊢;omega,fun {a b c} h1 h2=>by simp only[ltP,decide_eq_false_iff_not] at h1 h2 ⊢;omega⟩
theorem less_any:LessOk 45 ltP:=by
 intro W a am b x xm y;have hB:Below W.heap.size W ((W.alloc (.cells #[.int .i64 a,.int .i64 am,.int .i64 b] 103)).alloc (.cells #[.int .i64 x,.int .i64 xm,.int .i64 y] 103)):=((Below.refl _ _).alloc zzL _).alloc (by simp) _
 by_cases h1:a=x
 ·subst h1
  by_cases h2:am<xm
  ·have hf:ltP (a,am,b) (a,xm,y)=true:=by simp only[ltP,decide_eq_true_eq];exact .inr ⟨trivial,.inl h2⟩
   rw[hf];go_enter Tryz.func45,Tryz.ntmps45;go_wp2;go_ret;exact⟨by first|trivial|rfl,hB⟩
  ·have hd:decide (am<xm)=false:=by simp;omega
   by_cases h3:am=xm
   ·subst h3
    have hf:ltP (a,am,b) (a,am,y)=decide (b<y):=by simp[ltP]
    rw[hf];clear h2;go_enter Tryz.func45,Tryz.ntmps45;go_wp2;go_ret;exact⟨by first|trivial|simp,hB⟩
   ·have hd2:(am == xm)=false:=by rw[beq_eq_false_iff_ne];exact h3
    have hf:ltP (a,am,b) (a,xm,y)=false:=by simp only[ltP,decide_eq_false_iff_not];omega
    rw[hf];clear h2 h3;go_enter Tryz.func45,Tryz.ntmps45;go_wp2;go_ret;exact⟨by first|trivial|rfl,hB⟩
 ·have hd:(a != x)=true:=by rw[bne_iff_ne];exact h1
  have hf:ltP (a,am,b) (x,xm,y)=decide (a<x):=by
   rw[Bool.eq_iff_iff];simp only[ltP,decide_eq_true_eq];omega
  rw[hf];clear h1;go_enter Tryz.func45,Tryz.ntmps45;go_wp2;go_ret;exact⟨by first|trivial|simp,hB⟩
end HeapS
namespace HeapS
open Go.RowKit HeapLaw Net
open Heap (Kp Kp.refl Kp.below Kp.alloc Kp.drew Kp.setCell Kp.grown Kp.to fnOf own_short)
theorem HeapAt.cut {w:World} {base H:Nat} {fn:Value} {S m c:Nat} {L:List Pop} (h:HeapAt w base H fn (some ⟨S,0,none⟩) (m+1) c L) {a am b:Int} (hx:L.getD m d0=(a,am,b)) (hS:S≠H) :
 HeapAt ((((w.setCell ⟨S,0,none⟩ (.int .i64 a)).setCell ⟨S,1,none⟩ (.int .i64 am)).setCell ⟨S,2,none⟩ (.int .i64 b)).setCell ⟨H,1,none⟩ (.slice (some ⟨S,0,none⟩) m c)) base H fn (some ⟨S,0,none⟩) m c (cutTop d0 L):=by
 have hS':H≠S:=fun e=>hS e.symm;have h1:=own_set3 h.len h.own 0 (by omega) a am b;rw[Nat.zero_mul,Nat.zero_add,Nat.zero_add] at h1;have h2:=own_short (m:=m) (by rw[List.length_set];exact h.len) h1 (by omega);have hb:=blk_far (blk_far (blk_far h.blk hS' (.int .i64 a) (p:=⟨S,0,none⟩)) hS' (.int .i64 am) (p:=⟨S,1,none⟩)) hS' (.int .i64 b) (p:=⟨S,2,none⟩);have e:cutTop d0 L=(L.set 0 (a,am,b)).take m:=by unfold cutTop;rw[h.len,Nat.add_sub_cancel,hx]
 refine⟨h.hb,?_,?_,?_⟩
 ·exact blk_set hb 1 _
 ·rw[e];exact h2.setCell (h2.ne_ hb (by decide)) _
 ·rw[cutTop_len,h.len];omega
structure Pick (lt:Pop->Pop->Bool) (L:List Pop) (i:Nat) (bb:Bool):Prop where
 l:bb=false->Least d0 lt L i (2*i+1)
 r:bb=true->Least d0 lt L i (2*i+1+1)
def PopSays (lt:Pop->Pop->Bool) (base H:Nat) (fn:Value) (A:Option Addr) (m c:Nat) (L:List Pop) (w:World) (e:Ending) (w':World):Prop :=
 ∃p pm q L',e= .returned (.agg #[.int .i64 p,.int .i64 pm,.int .i64 q])/\L.getD 0 d0=(p,pm,q)/\HeapAt w' base H fn A m c L'/\((p,pm,q)::L').Perm L/\Hp d0 lt L'/\Kp w w' H (Value.slice A (m+1) c).ownBlock
theorem HeapAt.drew1 {w:World} {base H:Nat} {fn:Value} {A:Option Addr} {n c:Nat} {L:List Pop} (h:HeapAt w base H fn A n c L):HeapAt w.drew base H fn A n c L:=h.drewN 1
theorem heap_drew {w:World} {R:Nat} {v:Obj} (h:w.heap[R]?=some v):w.drew.heap[R]?=some v:=h
theorem turned {w0 w:World} {base H R0 R1:Nat} {fn:Value} {S n c:Nat} {L:List Pop} {v0 v1:Obj} (h:HeapAt w base H fn (some ⟨S,0,none⟩) n c L) {i k:Nat} (hi:i<n) (hk:k<n) {a am b x xm y:Int} (hxi:L.getD i d0=(x,xm,y)) (hxk:L.getD k d0=(a,am,b)) (hS:S≠H) (h0:w.heap[R0]?=some v0) (h1:w.heap[R1]?=some v1) (n0:R0≠S) (n1:R1≠S) (hB:Kp w0 w H (some S)) :
 let W:=((((((w.setCell ⟨S,i*3,none⟩ (.int .i64 a)).setCell ⟨S,i*3+1,none⟩ (.int .i64 am)).setCell ⟨S,i*3+2,none⟩ (.int .i64 b)).setCell ⟨S,k*3,none⟩ (.int .i64 x)).setCell ⟨S,k*3+1,none⟩ (.int .i64 xm)).setCell ⟨S,k*3+2,none⟩ (.int .i64 y)).drew
 HeapAt W base H fn (some ⟨S,0,none⟩) n c (swp d0 L i k)/\W.heap[R0]?=some v0/\W.heap[R1]?=some v1/\Kp w0 W H (some S) :=
 ⟨(h.swap hi hk hxi hxk hS).drew1,heap_drew (blk_far (blk_far (blk_far (blk_far (blk_far (blk_far h0 n0 _) n0 _) n0 _) n0 _) n0 _) n0 _),heap_drew (blk_far (blk_far (blk_far (blk_far (blk_far (blk_far h1 n1 _) n1 _) n1 _) n1 _) n1 _) n1 _),((((((hB.setCell (by exact .inr (.inl rfl)) _).setCell (by exact .inr (.inl rfl)) _).setCell (by exact .inr (.inl rfl)) _).setCell (by exact .inr (.inl rfl)) _).setCell (by exact .inr (.inl rfl)) _).setCell (by exact .inr (.inl rfl)) _).drew⟩
theorem pop_any (lt:Pop->Pop->Bool) (o:Ord lt) (hless:LessOk 45 lt) (base H:Nat) (A:Option Addr) (m c:Nat) (L:List Pop) (w:World) (h:HeapAt w base H (fnOf 45) A (m+1) c L) (hp:Hp d0 lt L) (hn:(m+1)*24<=140737488355328) (hb:base<=w.heap.size) :
 Calls Tryz.prog 84 #[.pointer (some ⟨H,0,none⟩)] w fun e w'=>PopSays lt base H (fnOf 45) A m c L w e w':=by
 obtain⟨S,p,pm,q,rfl,hS0,hS1,hSH,hg0,c00,c01,c02,f00,f01,f02⟩:=h.at_ (show 0<m+1 by omega);obtain⟨S',a,am,b,hSe,_,_,_,hgm,cm0,cm1,cm2,_,_,_⟩:=h.at_ (show m<m+1 by omega);injection hSe with hSe;injection hSe with hSe _ _;subst hSe;have hc0:=blk_cell h.blk 0;have hc1:=blk_cell h.blk 1;have hf1:=blk_free h.blk 1;have hlt:=h.lt;have hne:=h.ne;obtain⟨_,hcap⟩:True/\m+1<=c:=⟨trivial,by obtain⟨A',c',hv,hc,_⟩:=h.own.form;injection hv with _ _ hv;have:=h.len;omega⟩;simp only[zzG,zzH,zzI] at hc0 hc1;rw[Nat.zero_mul] at c00 c01 c02 f00 f01 f02;rw[Nat.zero_add] at c01 c02 f01 f02;unfold fnOf at hc0;have b1:(0:Int)<(m:Int)+1:=by omega
 have b2:(m:Int)<(m:Int)+1:=by omega
 have b3:(m:Int)<=(c:Int):=by omega
 have b4:m<=c:=by omega
 have b5:(0:Int)<=(m:Int):=by omega
 have HH:=hid h;have HP:=hid hp;have HG0:=hid hg0;have HGM:=hid hgm;have hSw:=hS1;clear h hp hg0 hgm hne;go_enter Tryz.func84,Tryz.ntmps84;go_wp2
 go_region
 all_goals
  go_wp2;have hcut:=(HH.out.cut HGM.out hSH);have hWs:((((w.setCell ⟨S,0,none⟩ (.int .i64 a)).setCell ⟨S,1,none⟩ (.int .i64 am)).setCell ⟨S,2,none⟩ (.int .i64 b)).setCell ⟨H,1,none⟩ (.slice (some ⟨S,0,none⟩) m c)).heap.size=w.heap.size:=by simp[World.setCell]
  have hBs:Kp w ((((w.setCell ⟨S,0,none⟩ (.int .i64 a)).setCell ⟨S,1,none⟩ (.int .i64 am)).setCell ⟨S,2,none⟩ (.int .i64 b)).setCell ⟨H,1,none⟩ (.slice (some ⟨S,0,none⟩) m c)) H (some S):=((((Kp.refl _ _ _).setCell (by exact .inr (.inl rfl)) _).setCell (by exact .inr (.inl rfl)) _).setCell (by exact .inr (.inl rfl)) _).setCell (by exact .inl rfl) _;have hdn:=cutTop_dn HP.out;have hpc:=cutTop_perm (d:=d0) (L:=L) (fun e=>by have:=HH.out.len;rw[e] at this;simp at this);rw[HG0.out] at hpc;have HCUT:=hid hcut;have HDN0:=hid hdn;have HPC:=hid hpc;have HO:=hid o;have HL:=hid hless;generalize ((((w.setCell ⟨S,0,none⟩ (.int .i64 a)).setCell ⟨S,1,none⟩ (.int .i64 am)).setCell ⟨S,2,none⟩ (.int .i64 b)).setCell ⟨H,1,none⟩ (.slice (some ⟨S,0,none⟩) m c))=W0 at *;have hR0:=blk_alloc (heap_alloc_new W0 (.cells #[.int .i64 0,.int .i64 0,.int .i64 0] 103)) (.cells #[.int .i64 p,.int .i64 pm,.int .i64 q] 103);have hR1:=heap_alloc_new (W0.alloc (.cells #[.int .i64 0,.int .i64 0,.int .i64 0] 103)) (.cells #[.int .i64 p,.int .i64 pm,.int .i64 q] 103);have hz1:(W0.alloc (.cells #[.int .i64 0,.int .i64 0,.int .i64 0] 103)).heap.size=w.heap.size+1:=by simp[hWs]
  rw[hWs] at hR0;rw[hz1] at hR1;have hBx:Kp w ((W0.alloc (.cells #[.int .i64 0,.int .i64 0,.int .i64 0] 103)).alloc (.cells #[.int .i64 p,.int .i64 pm,.int .i64 q] 103)) H (some S):=(hBs.alloc _).alloc _;have HR0:=hid hR0;have HR1:=hid hR1;clear hcut hdn hpc o hless hR0 hR1 hz1 hBs c00 c01 c02 f00 f01 f02 cm0 cm1 cm2 hc0 hc1 hf1 hWs
  go_loopw [5] (fun s5 wr=>∃(i:Nat) (L':List Pop),i<=m/\s5= .int .i64 i/\HeapAt wr base H (fnOf 45) (some ⟨S,0,none⟩) m c L'/\L'.Perm (cutTop d0 L)/\Dn d0 lt L' i/\wr.heap[w.heap.size]?=some (.cells #[.int .i64 0,.int .i64 0,.int .i64 0] 103 (0,0))/\wr.heap[w.heap.size+1]?=some (.cells #[.int .i64 p,.int .i64 pm,.int .i64 q] 103 (0,0))/\Kp w wr H (some S)) (fun s5 _=>m - (intOf s5).toNat)
  case atStart=>exact⟨0,cutTop d0 L,Nat.zero_le _,rfl,((HCUT.out.alloc _).alloc _).drewN 1,List.Perm.refl _,HDN0.out,HR0.out,HR1.out,hBx.drew⟩
  case round =>
   obtain⟨i,L2,him0,rfl,hh,hpm,hdn,hR2,hR3,hB⟩:=hrel;have HPM:=hid hpm;have HDN:=hid hdn;clear HCUT HDN0 HR0 HR1 hBx hpm hdn
   by_cases hk:2*i+1<m
   ·have HR2:=hid hR2
    have HR3:=hid hR3;have HHr:=hid hh;have c0:=blk_cell hh.blk 0;have c1:=blk_cell hh.blk 1;simp only[zzG,zzH,zzI] at c0 c1;unfold fnOf at c0;have hHs:=hh.lt;have hSs:S<wr.heap.size:=by have:=lt_of_block hR2;omega
    have hi2:2*(i:Int)+1<m:=by omega
    clear hR2 hR3;go_upto_region 8 with fail;obtain⟨k1,hk1⟩:∃k1:Nat,k1=2*i+1:=⟨_,rfl⟩;have hk1e:2*(i:Int)+1=(k1:Int):=by omega
    rw[hk1e] at *;have HK1:=hid hk1;have hk1m:k1<m:=by omega
    clear hk hk1 hk1e
    go_cut [73] from 48 to 73 (fun s73 wx=>∃bb,s73= .bool bb/\Pick lt L2 i bb/\HeapAt wx base H (fnOf 45) (some ⟨S,0,none⟩) m c L2/\wx.heap[w.heap.size]?=some (.cells #[.int .i64 0,.int .i64 0,.int .i64 0] 103 (0,0))/\wx.heap[w.heap.size+1]?=some (.cells #[.int .i64 p,.int .i64 pm,.int .i64 q] 103 (0,0))/\Kp w wx H (some S))
    case first =>
     by_cases hg:k1+1<m
     ·have hk2m:(k1:Int)+1<m:=by omega
      have hwr:IntKind.i64.wrap ((k1:Int)+1)=(k1:Int)+1:=IntWalk.i64_in _ (by omega);obtain⟨T,a1,m1,e1,hTe,_,_,_,hg1,c10,c11,c12,_,_,_⟩:=hh.at_ hg;injection hTe with hTe;injection hTe with hTe _ _;subst hTe;obtain⟨T,a0,m0,e0,hTe,_,_,_,hg0',c00,c01,c02,_,_,_⟩:=hh.at_ hk1m;injection hTe with hTe;injection hTe with hTe _ _;subst hTe;have y1:(k1:Int)<m:=by omega
      have y2:¬((k1:Int)<0):=by omega
      have y3:¬((k1:Int)+1<0):=by omega
      have y4:(0:Int)<=(k1:Int)+1:=by omega
      have hl:=fun W=>HL.out W a1 m1 e1 a0 m0 e0;have hlen:=hh.len;have HG1:=hid hg1;have HGZ:=hid hg0';have HLEN:=hid hlen;generalize hbb:lt (a1,m1,e1) (a0,m0,e0)=bb at hl;have KL:=hid hl;have HBB:=hid hbb;clear hg1 hg0' hl hbb hh hlen
      go_region_held3 (fun w'=>w'.cell? ⟨H,0,none⟩=some (.func (.func 45) #[] #[])/\w'.cell? ⟨H,1,none⟩=some (.slice (some ⟨S,0,none⟩) m c)/\w'.cell? ⟨S,(k1+1)*3,none⟩=some (.int .i64 a1)/\w'.cell? ⟨S,(k1+1)*3+1,none⟩=some (.int .i64 m1)/\w'.cell? ⟨S,(k1+1)*3+2,none⟩=some (.int .i64 e1)/\w'.cell? ⟨S,k1*3,none⟩=some (.int .i64 a0)/\w'.cell? ⟨S,k1*3+1,none⟩=some (.int .i64 m0)/\w'.cell? ⟨S,k1*3+2,none⟩=some (.int .i64 e0))
       (first
         |go_keep
         |(go_split_ands
           refine⟨?_,?_,?_,?_,?_,?_,?_,?_⟩
           ·(rw[cH];assumption)
           ·(rw[cH];assumption)
           ·(rw[cS];assumption)
           ·(rw[cS];assumption)
           ·(rw[cS];assumption)
           ·(rw[cS];assumption)
           ·(rw[cS];assumption)
           ·(rw[cS];assumption)))
       (first
         |(go_at_call 45;refine(KL.out _).mono ?_;rintro e w5 ⟨rfl,hb5⟩;have cH:=(keepAt hb5 (b:=H) hHs).1;have cS:=(keepAt hb5 (b:=S) hSs).1))
      all_goals
       clear cH cS;have hb6:Below wr.heap.size wr w5:=by first|exact hb5|exact(Below.refl _ _).drew.trans hb5
       have hl0:bb=false->Least d0 lt L2 i (2*i+1):=fun hf=>by
        refine least_left HO.out (by have:=HLEN.out;have:=HK1.out;omega) (fun _=> ?_);have q1:=HG1.out;have q0:=HGZ.out;rw[HK1.out] at q1 q0;rw[show 2*i+2=2*i+1+1 from rfl,q1,q0,HBB.out];exact hf
       have hl1:bb=true->Least d0 lt L2 i (2*i+1+1):=fun ht=>by
        refine least_right HO.out (by have:=HLEN.out;have:=HK1.out;omega) ?_;have q1:=HG1.out;have q0:=HGZ.out;rw[HK1.out] at q1 q0;rw[show 2*i+2=2*i+1+1 from rfl,q1,q0,HBB.out];exact ht
       have hh5:=HHr.out.keep hb6;have hB5:=hB.below hb6;have hR5:=blk_below HR2.out hb6 (lt_of_block HR2.out);have hR6:=blk_below HR3.out hb6 (lt_of_block HR3.out);have HL0:=hid hl0;have HL1:=hid hl1;clear hb5 hb6 hl0 hl1
       go_wp2_with fail
       go_meet
       first|exact⟨bb,rfl,⟨HL0.out,HL1.out⟩,hh5,hR5,hR6,hB5⟩|exact⟨⟨HL0.out,HL1.out⟩,hh5,hR5,hR6,hB5⟩|exact⟨bb,by simp,⟨HL0.out,HL1.out⟩,hh5,hR5,hR6,hB5⟩
     ·have hd:decide ((k1:Int)+1<m)=false:=by simp;omega
      have hwr:IntKind.i64.wrap ((k1:Int)+1)=(k1:Int)+1:=IntWalk.i64_in _ (by omega);have hlen:=hh.len;have hl0:Least d0 lt L2 i (2*i+1):=least_left HO.out (by have:=HK1.out;omega) (fun h=>absurd h (by have:=HK1.out;omega));have HL0:=hid hl0;clear hl0 hlen hh;go_quiet (fail)
      go_wp2_with fail
      go_meet
      first|exact⟨false,rfl,⟨fun _=>HL0.out,fun h=>by cases h⟩,HHr.out.drewN _,HR2.out,HR3.out,⟨hB.os,hB.tape,hB.output,hB.size,hB.block⟩⟩|exact⟨⟨fun _=>HL0.out,fun h=>by cases h⟩,HHr.out.drewN _,HR2.out,HR3.out,⟨hB.os,hB.tape,hB.output,hB.size,hB.block⟩⟩
    case rest =>
     obtain⟨bb,rfl,⟨hl0,hl1⟩,hh2,hR2,hR3,hB2⟩:=hcut;clear c0 c1 hHs hSs hB hh HHr HR2 HR3;have HL0:=hid hl0;have HL1:=hid hl1;have hwr:IntKind.i64.wrap ((k1:Int)+1)=(k1:Int)+1:=IntWalk.i64_in _ (by omega);clear hl0 hl1
     go_upto_if 73 with fail
     go_cut [6] from 74 to 75 (fun s6 wx=>∃kk:Nat,s6= .int .i64 kk/\Hid (Least d0 lt L2 i kk)/\wx=wc)
     case first =>
      cases bb with
      |false =>
       go_wp2_with fail
       go_meet
       exact⟨k1,rfl,hid (by rw[HK1.out];exact HL0.out (by trivial)),rfl⟩
      |true =>
       go_wp2_with fail
       go_meet
       exact⟨k1+1,rfl,hid (by rw[HK1.out];exact HL1.out (by trivial)),rfl⟩
     case rest =>
     obtain⟨kk,rfl,hL',rfl⟩:=hcut;have hL:=hL'.out;clear HL0 HL1 hwr hL';go_upto_region 10 with fail;have hkm:kk<m:=by have:=hL.kl;rw[hh2.len] at this;exact this
     have him:i<m:=by omega
     have hik:i<kk:=by have h0:=hL.k0;have h1:=par_lt h0;have h2:=hL.kp;omega
     obtain⟨bb,hbb⟩:∃bb,bb=lt (L2.getD kk d0) (L2.getD i d0):=⟨_,rfl⟩;have HBB:=hid hbb;have HL':=hid hL;clear hL
     go_cut [95] from 76 to 95 (fun s95 wx=>∃sb,s95= .bool sb/\Hid (sb= !bb)/\HeapAt wx base H (fnOf 45) (some ⟨S,0,none⟩) m c L2/\wx.heap[w.heap.size]?=some (.cells #[.int .i64 0,.int .i64 0,.int .i64 0] 103 (0,0))/\wx.heap[w.heap.size+1]?=some (.cells #[.int .i64 p,.int .i64 pm,.int .i64 q] 103 (0,0))/\Kp w wx H (some S))
     case first =>
      obtain⟨T,a2,m2,e2,hTe,_,_,_,hg2,c20,c21,c22,f20,f21,f22⟩:=hh2.at_ hkm;injection hTe with hTe;injection hTe with hTe _ _;subst hTe;obtain⟨T,a3,m3,e3,hTe,_,_,_,hg3,c30,c31,c32,f30,f31,f32⟩:=hh2.at_ him;injection hTe with hTe;injection hTe with hTe _ _;subst hTe;have d0':=blk_cell hh2.blk 0;have d1':=blk_cell hh2.blk 1;simp only[zzG,zzH,zzI] at d0' d1';unfold fnOf at d0';have hHs:=hh2.lt;have hSs:S<wc.heap.size:=by have:=hR2;have:=lt_of_block this;omega
      have y1:(kk:Int)<m:=by omega
      have y2:(i:Int)<m:=by omega
      have y3:¬((kk:Int)<0):=by omega
      have y4:¬((i:Int)<0):=by omega
      rw[hg2,hg3] at hbb;have hl:=fun W=>HL.out W a2 m2 e2 a3 m3 e3;rw[<-hbb] at hl;have KL:=hid hl;have HH2:=hid hh2;have HR2:=hid hR2;have HR3:=hid hR3;clear hg2 hg3 hh2 hR2 hR3 hl hbb f20 f21 f22 f30 f31 f32
      go_region_held3 (fun w'=>w'.cell? ⟨H,0,none⟩=some (.func (.func 45) #[] #[])/\w'.cell? ⟨H,1,none⟩=some (.slice (some ⟨S,0,none⟩) m c)/\w'.cell? ⟨S,kk*3,none⟩=some (.int .i64 a2)/\w'.cell? ⟨S,kk*3+1,none⟩=some (.int .i64 m2)/\w'.cell? ⟨S,kk*3+2,none⟩=some (.int .i64 e2)/\w'.cell? ⟨S,i*3,none⟩=some (.int .i64 a3)/\w'.cell? ⟨S,i*3+1,none⟩=some (.int .i64 m3)/\w'.cell? ⟨S,i*3+2,none⟩=some (.int .i64 e3))
       (first
         |go_keep
         |(go_split_ands
           refine⟨?_,?_,?_,?_,?_,?_,?_,?_⟩
           ·(rw[cH];assumption)
           ·(rw[cH];assumption)
           ·(rw[cS];assumption)
           ·(rw[cS];assumption)
           ·(rw[cS];assumption)
           ·(rw[cS];assumption)
           ·(rw[cS];assumption)
           ·(rw[cS];assumption)))
       (first
         |(go_at_call 45;refine(KL.out _).mono ?_;rintro e w5 ⟨rfl,hb5⟩;have cH:=(keepAt hb5 (b:=H) hHs).1;have cS:=(keepAt hb5 (b:=S) hSs).1))
      all_goals
       clear cH cS;have hb6:Below wc.heap.size wc w5:=by first|exact hb5|exact(Below.refl _ _).drew.trans hb5
       have hh5:=HH2.out.keep hb6;have hB5:=hB2.below hb6;have hR5:=blk_below HR2.out hb6 (lt_of_block HR2.out);have hR6:=blk_below HR3.out hb6 (lt_of_block HR3.out);clear hb5 hb6
       go_wp2_with fail
       go_meet
       first|exact⟨!bb,rfl,hid rfl,hh5,hR5,hR6,hB5⟩|exact⟨_,rfl,hid rfl,hh5,hR5,hR6,hB5⟩|exact⟨hid rfl,hh5,hR5,hR6,hB5⟩|exact⟨!bb,by simp,hid rfl,hh5,hR5,hR6,hB5⟩
     case rest =>
      obtain⟨sb,rfl,hsb,hh5,hR5,hR6,hB5⟩:=hcut;have hHw:=hh5.lt;have hwl:=lt_of_block hR5;clear hh2 hR2 hR3 hB2 hbb;cases sb with
      |true =>
       have hlt2:lt (L2.getD kk d0) (L2.getD i d0)=false:=by have h1:=hsb.out;rw[HBB.out] at h1;cases h2:lt (L2.getD kk d0) (L2.getD i d0) with|false=>rfl|true=>rw[h2] at h1;cases h1
       have hfin:=HDN.out.done HO.out HL'.out hlt2;have r0:=blk_cell hR5 0;have r1:=blk_cell hR5 1;have r1':=blk_cell hR5 2;have r2:=blk_cell hR6 0;have r3:=blk_cell hR6 1;have r3':=blk_cell hR6 2;have g0:=blk_free hR5 0;have g1:=blk_free hR5 1;have g1':=blk_free hR5 2;simp only[zzG,zzH,zzI] at r0 r1 r1' r2 r3 r3';clear hsb hlt2 hik him hkm;go_wp2;refine bodyPost_ret (v:= .agg #[.int .i64 p,.int .i64 pm,.int .i64 q]) (by simp[results,Tryz.results84,go_sem,r0,r1,r1',r2,r3,r3',g0,g1,g1']) rfl ?_;exact⟨p,pm,q,L2,rfl,HG0.out,⟨hh5.hb,blk_far (blk_far (blk_far hh5.blk (by dsimp only;omega) _) (by dsimp only;omega) _) (by dsimp only;omega) _,((hh5.own.setCell (by simp[Value.ownBlock];omega) _).setCell (by simp[Value.ownBlock];omega) _).setCell (by simp[Value.ownBlock];omega) _,hh5.len⟩,(List.Perm.cons _ HPM.out).trans HPC.out,hfin,((hB5.setCell (by exact .inr (.inr zzL)) _).setCell (by exact .inr (.inr zzL)) _).setCell (by exact .inr (.inr zzL)) _⟩
      |false =>
       have hlt2:lt (L2.getD kk d0) (L2.getD i d0)=true:=by have h1:=hsb.out;rw[HBB.out] at h1;cases h2:lt (L2.getD kk d0) (L2.getD i d0) with|true=>rfl|false=>rw[h2] at h1;cases h1
       obtain⟨T,a2,m2,e2,hTe,_,_,_,hg2,c20,c21,c22,f20,f21,f22⟩:=hh5.at_ hkm;injection hTe with hTe;injection hTe with hTe _ _;subst hTe;obtain⟨T,a3,m3,e3,hTe,_,_,_,hg3,c30,c31,c32,f30,f31,f32⟩:=hh5.at_ him;injection hTe with hTe;injection hTe with hTe _ _;subst hTe;have d0':=blk_cell hh5.blk 0;have d1':=blk_cell hh5.blk 1;simp only[zzG,zzH,zzI] at d0' d1';unfold fnOf at d0';have y1:(kk:Int)<m:=by omega
       have y2:(i:Int)<m:=by omega
       have y3:¬((kk:Int)<0):=by omega
       have y4:¬((i:Int)<0):=by omega
       have hne0:i≠kk:=by omega
       have hne1:¬i*3=kk*3:=by omega
       have hne2:¬i*3=kk*3+1:=by omega
       have hne3:¬i*3=kk*3+2:=by omega
       have hne4:¬i*3+1=kk*3:=by omega
       have hne5:¬i*3+1=kk*3+1:=by omega
       have hne6:¬i*3+1=kk*3+2:=by omega
       have hne7:¬i*3+2=kk*3:=by omega
       have hne8:¬i*3+2=kk*3+1:=by omega
       have hne9:¬i*3+2=kk*3+2:=by omega
       have HLT:=hid hlt2;have HG2:=hid hg2;have HG3:=hid hg3;have HH5:=hid hh5;have HR5:=hid hR5;have HR6:=hid hR6;clear hsb hlt2 hg2 hg3 hh5 hR5 hR6;go_wp2;have HX:=hid (turned (R0:=w.heap.size) (R1:=w.heap.size+1) HH5.out him hkm HG3.out HG2.out hSH HR5.out HR6.out (by omega) (by omega) hB5)
       go_big_region
       all_goals
        clear hne0 hne1 hne2 hne3 hne4 hne5 hne6 hne7 hne8 hne9;go_wp2
        go_roundw
        case' rel =>
         have hln:L2.length=m:=HH5.out.len;have hst:=HDN.out.step HO.out HL'.out HLT.out;obtain⟨t1,t2,t3,t4⟩:=HX.out;have t5:=(swp_perm (d:=d0) (L:=L2) (i:=i) (k:=kk) (by omega) (by omega) (by omega)).trans HPM.out;exact⟨kk,swp d0 L2 i kk,Nat.le_of_lt hkm,rfl,t1,t5,hst,t2,t3,t4⟩
        case' measure=>simp[intOf];omega
   ·have hln:=hh.len
    have hfin:=HDN.out.leaf (by omega);have r0:=blk_cell hR2 0;have r1:=blk_cell hR2 1;have r1':=blk_cell hR2 2;have r2:=blk_cell hR3 0;have r3:=blk_cell hR3 1;have r3':=blk_cell hR3 2;have g0:=blk_free hR2 0;have g1:=blk_free hR2 1;have g1':=blk_free hR2 2;simp only[zzG,zzH,zzI] at r0 r1 r1' r2 r3 r3';have hd:¬(2*(i:Int)+1<m):=by omega
    have HHr:=hid hh;have hHl:=hh.lt;have hwl:=lt_of_block hR2;clear hh hln hR2 hR3;go_wp2;refine bodyPost_ret (v:= .agg #[.int .i64 p,.int .i64 pm,.int .i64 q]) (by simp[results,Tryz.results84,go_sem,r0,r1,r1',r2,r3,r3',g0,g1,g1']) rfl ?_;exact⟨p,pm,q,L2,rfl,HG0.out,⟨HHr.out.hb,blk_far (blk_far (blk_far HHr.out.blk (by dsimp only;omega) _) (by dsimp only;omega) _) (by dsimp only;omega) _,((HHr.out.own.setCell (by simp[Value.ownBlock];omega) _).setCell (by simp[Value.ownBlock];omega) _).setCell (by simp[Value.ownBlock];omega) _,HHr.out.len⟩,(List.Perm.cons _ HPM.out).trans HPC.out,hfin,((hB.setCell (by exact .inr (.inr zzL)) _).setCell (by exact .inr (.inr zzL)) _).setCell (by exact .inr (.inr zzL)) _⟩
end HeapS
namespace LifeLaw
open NetLaw BellLaw FlowLaw
open Net (tl ol)
abbrev Sp:=Int × Int × Int
def ky (D R:List Int) (v:Int):Sp:=(min (dg D v) (dg R v),min (dg D v) (dg R v),v)
def ltS (a b:Sp):Bool:=decide (a.1<b.1\/a.1=b.1/\(a.2.1<b.2.1\/a.2.1=b.2.1/\a.2.2<b.2.2))
structure PI (n:Nat) (l:List E) (s:Int) (D R:List Int) (L:List Sp) (pend:Int->Prop):Prop where
 ok:∀v:Int,0<=v->v<n->(v=s\/¬pend v)->dg R v=lkv l s D v/\(dg D v≠dg R v->ky D R v∈L)
 ids:∀x∈L,0<=x.2.2/\x.2.2<n
 rl:R.length=n
section
variable {n:Nat} {l:List E} {s v:Int} {D D' R R':List Int} {L L':List Sp} {pend pend':Int->Prop}
theorem PI.mono (h:PI n l s D R L pend) (hp:∀u:Int,0<=u->u<n->pend u->pend' u):PI n l s D R L pend' :=
 ⟨fun v v0 v1 hv=>h.ok v v0 v1 (hv.imp id fun hn hc=>hn (hp v v0 v1 hc)),h.ids,h.rl⟩
theorem PI.mend_s (h:PI n l s D R L pend) (hp:∀u:Int,pend u->u=s\/pend' u):PI n l s D R L pend' :=
 ⟨fun v v0 v1 hv=>h.ok v v0 v1 (by
   rcases hv with e|e
   ·exact .inl e
   ·by_cases hs:v=s
    ·exact .inl hs
    ·exact .inr fun hc=>(hp v hc).elim hs e),h.ids,h.rl⟩
theorem PI.mend (h:PI n l s D R L pend) (v0:0<=v) (v1:v<n) (hvs:v≠s) (hL:∀x∈L,x∈L') (hi:∀x∈L',0<=x.2.2/\x.2.2<n) (hk:dg D v≠best l D (ins l v)->ky D (R.set v.toNat (best l D (ins l v))) v∈L') (hp:∀u:Int,pend u->u=v\/pend' u) :
 PI n l s D (R.set v.toNat (best l D (ins l v))) L' pend':=by
 have hd:∀u:Int,0<=u->dg (R.set v.toNat (best l D (ins l v))) u=if u=v then best l D (ins l v) else dg R u:=fun u u0=>dg_set v0 (by rw[h.rl];exact v1) u0
 refine⟨fun u u0 u1 hu=> ?_,hi,by rw[List.length_set];exact h.rl⟩
 by_cases huv:u=v
 ·subst huv
  refine⟨by rw[hd u u0,if_pos rfl,lkv,if_neg hvs],fun hne=> ?_⟩;rw[hd u u0,if_pos rfl] at hne;exact hk hne
 ·have:=h.ok u u0 u1 (by
   rcases hu with e|e
   ·exact .inl e
   ·exact .inr fun hc=>(hp u hc).elim huv e)
  have ek:ky D (R.set v.toNat (best l D (ins l v))) u=ky D R u:=by unfold ky;rw[hd u u0,if_neg huv]
  rw[ek,hd u u0,if_neg huv];exact⟨this.1,fun hne=>hL _ (this.2 hne)⟩
def frsh (D R:List Int) (x:Sp):Prop:=dg D x.2.2≠dg R x.2.2/\x=ky D R x.2.2
theorem PI.thin (h:PI n l s D R L pend) (hs:∀x∈L',x∈L) (hk:∀x∈L,frsh D R x->x∈L'):PI n l s D R L' pend :=
 ⟨fun v v0 v1 hv=>⟨(h.ok v v0 v1 hv).1,fun hne=>hk _ ((h.ok v v0 v1 hv).2 hne) ⟨hne,rfl⟩⟩,fun x hx=>h.ids x (hs x hx),h.rl⟩
theorem PI.look (h:PI n l s D R L fun _=>False) (v0:0<=v) (v1:v<n):dg R v=lkv l s D v:=(h.ok v v0 v1 (.inr fun h=>h)).1
theorem PI.min_ (h:PI n l s D R L fun _=>False) {x:Sp} (hx:frsh D R x) (hm:∀y∈L,ltS y x=false):∀u:Int,0<=u->u<n->dg D u≠lkv l s D u->min (dg D x.2.2) (dg R x.2.2)<=dg D u/\min (dg D x.2.2) (dg R x.2.2)<=lkv l s D u:=fun u u0 u1 hu=>by
 have h1:=h.look u0 u1;have h2:=hm _ ((h.ok u u0 u1 (.inr fun h=>h)).2 (by rw[h1];exact hu));have hx2:=hx.2
 have e1:x.1=min (dg D x.2.2) (dg R x.2.2):=by
  have:=congrArg Prod.fst hx2;exact this
 unfold ltS ky at h2;simp only[decide_eq_false_iff_not,not_or] at h2;rw[h1] at h2;omega
theorem lkv_still (hg:Gd n l s) {w:Int} (hne:∀u:Int,0<=u->u<n->u≠w->dg D' u=dg D u) {u:Int} (u0:0<=u) (hno:∀i,i<l.length->en l i=u->fr l i≠w):lkv l s D' u=lkv l s D u:=by
 by_cases hs:u=s
 ·subst hs;rw[lkv_s,lkv_s]
 ·have key:∀D D':List Int,(∀u:Int,0<=u->u<n->u≠w->dg D' u=dg D u)->lkv l s D' u<=lkv l s D u:=fun D D' hne=>by
   rcases lkv_at (l:=l) (D:=D) u0 hs with h|⟨i,hi,he,h⟩
   ·rw[h];exact lkv_far ..
   ·have a:=lkv_le (D:=D') hi u0 hs he
    have b:=(hg.ends i hi).1;rw[hne _ b.1 b.2 (hno i hi he)] at a;omega
  have a:=key D D' hne;have b:=key D' D fun u u0 u1 h=>(hne u u0 u1 h).symm;omega
theorem PI.pop (h:PI n l s D R L fun _=>False) (hg:Gd n l s) (hr:Rg n D) {x:Sp} (v0:0<=x.2.2) (v1:x.2.2<n) (hL:∀y∈L,y=x\/y∈L') (hs:∀y∈L',y∈L) {c:Int} (hp:∀i,i<l.length->fr l i=x.2.2->pend (en l i)) (hc:(x.2.2=s\/¬pend x.2.2)->c=dg R x.2.2) :
 PI n l s (D.set x.2.2.toNat c) R L' pend:=by
 have hd:∀u:Int,0<=u->dg (D.set x.2.2.toNat c) u=if u=x.2.2 then c else dg D u:=fun u u0=>dg_set v0 (by rw[hr.len];exact v1) u0
 refine⟨fun u u0 u1 hu=> ?_,fun y hy=>h.ids y (hs y hy),h.rl⟩;have h1:=h.ok u u0 u1 (.inr fun h=>h)
 have hlk:lkv l s (D.set x.2.2.toNat c) u=lkv l s D u:=by
  by_cases hus:u=s
  ·subst hus;rw[lkv_s,lkv_s]
  ·have hnp:¬pend u:=hu.resolve_left hus
   exact lkv_still hg (w:=x.2.2) (fun z z0 _ hz=>by rw[hd z z0,if_neg hz]) u0 fun i hi he hf=>hnp (by rw[<-he];exact hp i hi hf)
 refine⟨by rw[hlk];exact h1.1,fun hne=> ?_⟩
 by_cases huv:u=x.2.2
 ·have:=hc (by rw[<-huv];exact hu)
  rw[huv,hd _ v0,if_pos rfl] at hne;exact absurd this hne
 ·have ek:ky (D.set x.2.2.toNat c) R u=ky D R u:=by unfold ky;rw[hd u u0,if_neg huv]
  rw[hd u u0,if_neg huv] at hne;rw[ek];rcases hL _ (h1.2 hne) with e|e
  ·exact absurd (by rw[<-e];rfl) huv
  ·exact e
theorem tl_fr (l:List E) (i:Nat):fr (tl l) i=en l i:=by
 by_cases hi:i<l.length
 ·exact(tl_ed l i hi).1
 ·unfold fr en ed
  rw[List.getD_eq_getElem?_getD,List.getD_eq_getElem?_getD,List.getElem?_eq_none (by simpa [tl] using hi),List.getElem?_eq_none (by simpa using hi)]
  rfl
theorem rep_dg {x:Int} {v:Int} (v0:0<=v) (v1:v<n):dg (List.replicate n x) v=x:=by
 unfold dg;rw[List.getD_eq_getElem?_getD,List.getElem?_replicate,if_pos (by omega)]
 rfl
theorem Rg.rep (n:Nat):Rg n (List.replicate n far):=⟨by simp,fun v v0 v1=>by rw[rep_dg v0 v1];exact⟨by decide,Int.le_refl _⟩⟩
theorem PI.start (hg:Gd n l s) (hL:(0,0,s)∈L) (hi:∀x∈L,0<=x.2.2/\x.2.2<n):PI n l s (List.replicate n far) ((List.replicate n far).set s.toNat 0) L fun _=>False:=by
 have hd:∀u:Int,0<=u->dg ((List.replicate n far).set s.toNat 0) u=if u=s then 0 else dg (List.replicate n far) u:=fun u u0=>dg_set hg.s0 (by have:=hg.s1;simpa using this) u0
 refine⟨fun u u0 u1 _=> ?_,hi,by simp⟩
 by_cases hus:u=s
 ·subst hus
  refine⟨by rw[hd u u0,if_pos rfl,lkv_s],fun _=> ?_⟩
  have:ky (List.replicate n far) ((List.replicate n far).set u.toNat 0) u=(0,0,u):=by
   unfold ky;rw[hd u u0,if_pos rfl,rep_dg u0 u1]
   rfl
  rw[this];exact hL
 ·rw[hd u u0,if_neg hus,rep_dg u0 u1]
  refine⟨?_,fun h=>absurd rfl h⟩;rcases lkv_at (l:=l) (D:=List.replicate n far) u0 hus with h|⟨i,hi,he,h⟩
  ·exact h.symm
  ·have b:=(hg.ends i hi).1
   have c:=hg.cost i hi;rw[rep_dg b.1 b.2] at h;have:=lkv_far l s (List.replicate n far) u;omega
theorem PI.done {t:Int} (h:PI n l s D R L fun _=>False) (t0:0<=t) (t1:t<n) (hc:dg D t=dg R t) (hm:∀u:Int,0<=u->u<n->dg D u≠lkv l s D u->dg D t<=dg D u/\dg D t<=lkv l s D u):Fx n l s t D:=⟨by rw[hc];exact h.look t0 t1,hm⟩
theorem PI.none {t:Int} (h:PI n l s D R [] fun _=>False) (t0:0<=t) (t1:t<n):Fx n l s t D:=by
 have key:∀u:Int,0<=u->u<n->dg D u=lkv l s D u:=fun u u0 u1=>Classical.byContradiction fun hc=>by
  have h1:=h.ok u u0 u1 (.inr fun h=>h);have:=h1.2 (by rw[h1.1];exact hc);simp at this
 exact⟨key t t0 t1,fun u u0 u1 hc=>absurd (key u u0 u1) hc⟩
end
section
open WalkLaw WayLaw
variable {n:Nat} {l:List E} {s t:Int} {D:List Int}
theorem eg_own {u v:Int} (hst:∀e∈l,e.1=u->e.2.1=v->dg D v<=dg D u+e.2.2) (h:Lk l D u v):eg l u v=(dg D v - dg D u,true):=by
 obtain⟨e,he,h1,h2,h3⟩:=h;obtain⟨_,a,b⟩:=eg_fold u v l (0,false);obtain⟨a1,a2⟩:=a e he h1 h2;unfold eg;rcases b with b|⟨x,hx,x1,x2,x3⟩
 ·rw[b] at a1;cases a1
 ·rw[x3] at a2 ⊢
  have:=hst x hx x1 x2;simp only at a2;have:x.2.2=dg D v - dg D u:=by omega
  rw[this]
theorem own_links (p:List Int) (x y:Int) (hx:p.head?=some x) (hy:p.getLast?=some y) (hl:∀q∈prs p,Lk l D q.1 q.2/\∀e∈l,e.1=q.1->e.2.1=q.2->dg D q.2<=dg D q.1+e.2.2) :
 okP l (prs p)=true/\sumP l (prs p)=dg D y - dg D x:=by
 induction p generalizing x with
 |nil=>simp at hx
 |cons a r ih =>
  simp at hx;subst hx;cases r with
  |nil =>
   simp at hy;subst hy;simp[prs,okP,sumP]
  |cons b r =>
   have hlk:=hl (a,b) (by rw[prs_cons];simp);have he:=eg_own hlk.2 hlk.1;obtain⟨i1,i2⟩:=ih b rfl (by simpa using hy) (fun q hq=>hl q (by rw[prs_cons];simp[hq]));rw[prs_cons];have s1:okP l ((a,b)::prs (b::r))=((eg l a b).2 && okP l (prs (b::r))):=by simp[okP]
   have s2:sumP l ((a,b)::prs (b::r))=(eg l a b).1+sumP l (prs (b::r)):=by simp[sumP]
   rw[s1,s2,he,i1,i2];exact⟨rfl,by simp only;omega⟩
theorem own_cost (hg:NetLaw.Good n l) (p:List Int) (x y:Int) (hx:p.head?=some x) (hy:p.getLast?=some y) (hn:p.length<=100) (hr:∀z∈p,0<=z/\z<n) (hl:∀q∈prs p,Lk l D q.1 q.2/\∀e∈l,e.1=q.1->e.2.1=q.2->dg D q.2<=dg D q.1+e.2.2):cost n l p=(dg D y - dg D x,0):=by
 obtain⟨h1,h2⟩:=own_links p x y hx hy hl
 have h3:p.any (outB n)=false:=by
  rw[List.any_eq_false];intro z hz;have:=hr z hz;simp[outB];omega
 have h4:p.length≠0:=fun h=>by rw[List.eq_nil_of_length_eq_zero h] at hx;simp at hx
 unfold cost;rw[if_neg (by simpa using chk_zero.2 hg),if_neg h4,if_neg (by omega),h3,if_neg (by decide),h1,if_pos rfl,h2]
structure Bw (n:Nat) (l:List E) (s t:Int) (D:List Int) (v:Int) (b:List Int):Prop where
 bk:Bk n l D t v b
 ok:dg D v=lkv l s D v/\dg D v<=dg D t/\0<=v/\v<n
 least:∀q∈prs b,∀e∈l,e.1=q.2->e.2.1=q.1->dg D q.1<=dg D q.2+e.2.2
theorem Bw.one (h:Fx n l s t D) (t0:0<=t) (t1:t<n) (hf:dg D t<far):Bw n l s t D t [t] :=
 ⟨Bk.one ⟨t0,t1⟩ hf,⟨h.at_,Int.le_refl _,t0,t1⟩,fun q hq=>by simp[prs] at hq⟩
theorem Bw.add {v:Int} {b:List Int} (h:Bw n l s t D v b) (hx:Fx n l s t D) (hg:Gd n l s) (hr:Rg n D) (hf:dg D t<far) (hvs:v≠s) {i:Nat} (hi:i<l.length) (hv:en l i=v) (he:dg D (fr l i)+cpt l i=dg D v):Bw n l s t D (fr l i) (b++[fr l i])/\dg D (fr l i)<dg D v:=by
 obtain⟨o1,o2,o3,o4⟩:=h.ok;obtain⟨p1,p2⟩:=hx.prev hg hr o2 hi he;have b1:=(hg.ends i hi).1;refine⟨⟨h.bk.add ⟨ed l i,ed_mem hi,rfl,hv,he⟩ b1 p1 (by omega),⟨p2,by omega,b1.1,b1.2⟩,fun q hq e hel e1 e2=> ?_⟩,p1⟩;rw[prs_snoc h.bk.last] at hq;rcases List.mem_append.1 hq with hq|hq
 ·exact h.least q hq e hel e1 e2
 ·simp at hq
  subst hq;simp only at e1 e2 ⊢;obtain⟨k,hk,rfl⟩:=List.mem_iff_getElem.1 hel;rw[<-ed_at hk] at e1 e2 ⊢;have:=lkv_le (D:=D) hk o3 hvs (show en l k=v from e2);have e3:(ed l k).2.2=cpt l k:=rfl;have e4:fr l k=fr l i:=e1;rw[e3];rw[e4] at this;omega
theorem Bw.next {v:Int} {b:List Int} (h:Bw n l s t D v b) (hx:Fx n l s t D) (hg:Gd n l s) (hr:Rg n D) (hf:dg D t<far) (hvs:v≠s):∃i,i<l.length/\en l i=v/\dg D (fr l i)<far/\dg D (fr l i)+cpt l i=dg D v:=by
 obtain⟨o1,o2,o3,o4⟩:=h.ok;obtain⟨i,hi,he,e⟩:=hx.back hg hr o3 o4 hvs (by omega) o2 o1;have:=(hx.prev hg hr o2 hi e).1;exact⟨i,hi,he,by omega,e⟩
theorem Bw.done {b:List Int} (h:Bw n l s t D s b) (hG:NetLaw.Good n l) (n64:n<=64):cost n l b.reverse=(dg D t,0)/\b.reverse.head?=some s/\b.reverse.getLast?=some t/\b.length<=n/\1<=b.length:=by
 have hw:=h.bk.way;have hlen:=h.bk.len;have hs:dg D s=0:=by rw[h.ok.1,lkv_s]
 have:=own_cost (D:=D) hG b.reverse s t hw.head hw.last (by rw[List.length_reverse];omega) (fun z hz=>⟨(hw.rng z hz).1,(hw.rng z hz).2.1⟩) (fun q hq=>⟨hw.link q hq,by
  rw[prs_rev,List.mem_map] at hq;obtain⟨q',hq',rfl⟩:=hq;exact h.least q' (List.mem_reverse.1 hq')⟩)
 rw[hs,Int.sub_zero] at this;exact⟨this,hw.head,hw.last,hlen⟩
end
end LifeLaw
end Go.Proofs.YtjebckehmmbkbaaGreat
