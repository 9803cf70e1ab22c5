/- The walk of (*life.Plan).Way. A life.Plan as the laws call it. life's way: the cost, or that there is no way. -/
import Derived.Test.YtjebckehmmbkbaaGreatVLifeNew
set_option linter.unusedSimpArgs false
set_option linter.unusedVariables false
set_option maxRecDepth 100000
set_option maxHeartbeats 24000000
namespace Go.Proofs.YtjebckehmmbkbaaGreat
namespace Life
open Go.RowKit NetLaw BellLaw FlowLaw LifeLaw Net Go.Proofs.YtjebckehmmbkbaaGreat.Std Flow
open Heap (Kp Kp.refl Kp.below Kp.alloc Kp.drew Kp.setCell Kp.grown Kp.to fnOf)
open HeapS (HeapAt d0 ltP ltP_ord)
def WaySays (w0:World) (n s t P M:Nat) (AE:Option Addr) (cE TI TO:Nat) (FI FO:Nat->Option Addr × Nat) (SC cC SL cL H:Nat) (l:List E) (D R:List Int) (Aw:Option Addr) (mw cw:Nat) (L:List Sp) (wk:Int) (w1:World) (e:Ending) (w':World):Prop :=
 ∃D' R' Aw' mw' cw' L' wk',Hid (LM w0 w' n s t P M AE cE TI TO FI FO SC cC SL cL H l D' R' Aw' mw' cw' L' wk')/\Hid (Rg n D')/\Hid (PI n l s D' R' L' (fun _=>False))/\(0<=wk'/\wk'<=2*(n:Int))/\mw'<=mw+80000/\KW w1 w'/\w1.heap.size<=w'.heap.size/\∃d,Hid (Bst l s t d) /\
  ((d=far/\e= .returned (.tuple #[.agg #[.slice none 0 0,.int .i64 0],.int .i64 5])) \/
   (d<far/\∃A c p,e= .returned (.tuple #[.agg #[.slice A p.length c,.int .i64 d],.int .i64 0])/\Hid (Own w' w1.heap.size 3 1 ci (.slice A p.length c) p)/\Hid (WalkLaw.cost n l p=(d,0)/\p.head?=some (s:Int)/\p.getLast?=some (t:Int)/\p.length<=64)))
structure Rl (wS wr:World) (n s t:Nat) (l:List E) (D:List Int) (A':Option Addr) (c':Nat) (b:List Int) (v:Int):Prop where
 own:Own wr wS.heap.size 3 1 ci (.slice A' b.length c') b
 lo:Below wS.heap.size wS wr
 bk:Bw n l s t D v b
theorem Rl.keep {wS wr wx:World} {n s t:Nat} {l:List E} {D:List Int} {A':Option Addr} {c':Nat} {b:List Int} {v:Int} (h:Rl wS wr n s t l D A' c' b v) (hb:Below wr.heap.size wr wx):Rl wS wx n s t l D A' c' b v :=
 ⟨h.own.keep hb,h.lo.trans (hb.mono h.lo.size),h.bk⟩
structure R3 (wS wx:World) (X:Nat) (dt:Int) (A':Option Addr) (c':Nat) (b:List Int) (A3:Option Addr) (c3 k:Nat):Prop where
 back:Own wx wS.heap.size 3 1 ci (.slice A' b.length c') b
 path:Own wx wS.heap.size 3 1 ci (.slice A3 k c3) (b.reverse.take k)
 sep:∀x y x' y',(Value.slice A' x y).ownBlock≠(Value.slice A3 x' y').ownBlock
 box:wx.heap[X]?=some (.cells #[.slice A3 k c3,.int .i64 dt] 36 (0,0))
 lo:Below wS.heap.size wS wx
 hX:wS.heap.size<=X
section
variable {w0 w w':World} {n s t P M cE TI TO SC cC SL cL H mw cw:Nat} {AE Aw:Option Addr} {FI FO:Nat->Option Addr × Nat} {l:List E} {D R:List Int} {L:List Sp} {wk:Int}
theorem LM.far (h:LM w0 w n s t P M AE cE TI TO FI FO SC cC SL cL H l D R Aw mw cw L wk) {p:Addr} {cs:Array Value} (hp:w.heap[p.block]?=some (.cells cs 36 (0,0))) (hlo:w0.heap.size<=p.block) (u:Value):LM w0 (w.setCell p u) n s t P M AE cE TI TO FI FO SC cC SL cL H l D R Aw mw cw L wk:=by
 obtain⟨cur,hb⟩:=own_blk h.cost;obtain⟨cur2,hb2⟩:=own_blk h.look;obtain⟨cs1,hti,_⟩:=h.tabI.blk;obtain⟨cs2,hto,_⟩:=h.tabO.blk;have hrow:∀{F:Nat->Option Addr × Nat} {S:Nat} {Ls:Nat->List Int},Tab w w0.heap.size S n F Ls->∀v,v<n->(Value.slice (F v).1 0 0).ownBlock≠some p.block:=fun ht v hv e=>(ht.own v hv).ne_ hp (by decide) ((obs ..).trans e);exact⟨blk_far h.z (blk_ne h.z hp (by decide)) _,h.zl,h.net.setCell (h.net.ne_ hp (by decide)) _,h.cost.setCell (h.cost.ne_ hp (by decide)) _,h.look.setCell (h.look.ne_ hp (by decide)) _,tab_far h.tabI (blk_ne hp hti (by decide)) (hrow h.tabI) _,tab_far h.tabO (blk_ne hp hto (by decide)) (hrow h.tabO) _,heap_far h.heap hp (by decide) (by decide) _,h.hp,h.ne,h.sepI,h.sepO,h.lo.setCell hlo _,h.ll,h.dl,h.rl⟩
theorem infoIntL:(Tryz.prog.info? 3).map (fun i=>(i.zero,i.size,i.bytes))=some (some (.int .i64 0),1,8):=by kernel_rfl
theorem way_any (h:LM w0 w n s t P M AE cE TI TO FI FO SC cC SL cL H l D R Aw mw cw L wk) (hg:Gd n l s) (hr:Rg n D) (hp:PI n l s D R L (fun _=>False)) (ht:t<n) (hG:NetLaw.Good n l) (hmw:mw<=3000000000000) :
 Calls Tryz.prog 17 #[.pointer (some ⟨P,0,none⟩)] w fun e w'=>WaySays w0 n s t P M AE cE TI TO FI FO SC cC SL cL H l D R Aw mw cw L wk w e w':=by
 have n64:=hg.n64;obtain⟨i0,hi,hz0i,hz1i,hz2i⟩:=info_parts infoIntL;have hres:=heap_alloc_new w (.cells #[.slice none 0 0,.int .i64 0] 36);have hkw0:KW w (w.alloc (.cells #[.slice none 0 0,.int .i64 0] 36)):=KW.below ((Below.refl _ _).alloc zzL _);have hzw:=h.lo.size;have kst:=settle_any (h.alloc (.cells #[.slice none 0 0,.int .i64 0] 36)) hg hr hp ht hmw;have KST:=hid kst;have HG:=hid hg;have HGG:=hid hG;have HRES:=hid hres;have HK0:=hid hkw0;clear h hg hr hp hG hres hkw0 kst;go_enter Tryz.func17,Tryz.ntmps17
 go_wp2_with fail
 refine KST.out.mono ?_;rintro e wS ⟨⟨r9,rfl⟩,D,R,Aw,m1,c1,L,wk,HM1,HR1,HP1,HF1,hwk,hm1,hk1,hz1⟩;have hres1:=hk1 _ _ _ HRES.out;have hkw1:KW w wS:=HK0.out.trans hk1;have hzr:w.heap.size<wS.heap.size:=lt_of_block hres1;clear hk1 hz1 KST HRES HK0;obtain⟨dt,hdt⟩:∃dt,dg D (t:Int)=dt:=⟨_,rfl⟩;have hbst:=HF1.out.bst HG.out HR1.out (by omega) (by omega);rw[hdt] at hbst;obtain⟨_,_,_,_,_,z5,z6,_,_,_,_,zp⟩:=HM1.out.zs;obtain⟨cD,_,_,_,zc,_⟩:=HM1.out.cells ht;rw[hdt] at cD;have HBST:=hid hbst;have HDT:=hid hdt;have zt:(t:Int)<(n:Int):=by omega
 have hbd:=hbst.hi;clear hbst hdt
 by_cases hfar:dt=far
 ·have hf2:=hfar
  unfold far at hf2;subst hf2;have hge:decide ((1099511627776:Int) ≥ 1099511627776)=true:=by decide
  have HFAR:=hid hfar;clear hfar hbd;go_upto_region 2 with fail;go_quiet (fail);have hb2:Below wS.heap.size wS (wS.drewN nq):=below_drewN (Below.refl _ _) nq;have hm2:=HM1.out.keep hb2;have hres2:=blk_below hres1 hb2 hzr;have hkw2:=hkw1.trans (KW.below hb2);have hzr2:w.heap.size<(wS.drewN nq).heap.size:=by simpa using hzr
  clear hres1 hkw1 hzr hb2 z5 z6 cD zc zp HM1;generalize wS.drewN nq=w2 at hm2 hres2 hkw2 hzr2 ⊢;have r0:=blk_cell hres2 0;have r1:=blk_cell hres2 1;have rf0:=blk_free hres2 0;have rf1:=blk_free hres2 1;simp only[zzG,zzH,zzI] at r0 r1;have hs1:=blk_set hres2 0 (.slice none 0 0);have hm3:=(hm2.far (p:=⟨w.heap.size,0,none⟩) hres2 (by exact hzw) (.slice none 0 0)).far (p:=⟨w.heap.size,1,none⟩) hs1 (by exact hzw) (.int .i64 0);have hkw3:KW w ((w2.setCell ⟨w.heap.size,0,none⟩ (.slice none 0 0)).setCell ⟨w.heap.size,1,none⟩ (.int .i64 0)):=fun g cs fr hgk=>blk_far (blk_far (hkw2 g cs fr hgk) (by have:=lt_of_block hgk;dsimp only;omega) _) (by have:=lt_of_block hgk;dsimp only;omega) _;have HM3:=hid hm3;have HK3:=hid hkw3;clear hm2 hm3 hkw2 hkw3 hres2 hs1;go_wp2;refine bodyPost_ret (v:= .tuple #[.agg #[.slice none 0 0,.int .i64 0],.int .i64 5]) (by simp[results,Tryz.results17,go_sem,hzr2,r0,r1,rf0,rf1]) rfl ?_;exact⟨D,R,Aw,m1,c1,L,wk,HM3,HR1,HP1,hwk,hm1,HK3.out,by simp[World.setCell];omega,_,HBST,.inl ⟨HFAR.out,rfl⟩⟩
 ·have hlt:dt<far:=by omega
  have hge:decide (dt ≥ 1099511627776)=false:=decide_eq_false (by unfold far at hlt;omega);have HLT:=hid hlt;clear hfar hlt hbd;go_upto_region 2 with fail;go_quiet (fail);have hb2:Below wS.heap.size wS (wS.drewN nq):=below_drewN (Below.refl _ _) nq;have hm2:=HM1.out.keep hb2;have hres2:=blk_below hres1 hb2 hzr;have hkw2:=hkw1.trans (KW.below hb2);have hzr2:w.heap.size<(wS.drewN nq).heap.size:=by simpa using hzr
  clear hres1 hkw1 hzr hb2 z5 z6 cD zc zp HM1;generalize wS.drewN nq=w2 at hm2 hres2 hkw2 hzr2 ⊢;obtain⟨_,_,_,_,_,z5,_,_,_,_,_,zp⟩:=hm2.zs;have bk0:Own (w2.alloc (.cells #[.int .i64 t] 3)) w2.heap.size 3 1 ci (.slice (some ⟨w2.heap.size,0,none⟩) 1 1) [(t:Int)]:=own_new' w2 _ _ rfl rfl (by omega) (by decide) rfl
  have rl0:Rl w2 (w2.alloc (.cells #[.int .i64 t] 3)) n s t l D (some ⟨w2.heap.size,0,none⟩) 1 [(t:Int)] t :=
   ⟨bk0,(Below.refl _ _).alloc zzL _,Bw.one HF1.out (by omega) (by omega) (by rw[HDT.out];exact HLT.out)⟩
  have RL0:=hid rl0;have HM2:=hid hm2;have HS2:=hid hres2;have HK2:=hid hkw2;clear bk0 rl0 hm2 hres2 hkw2;go_wp2;clear z5 zp
  go_loopw [4,5] (fun s4 s5 wx=>∃(A':Option Addr) (c':Nat) (b:List Int) (v:Int),s4= .slice A' b.length c'/\s5= .int .i64 v/\Rl w2 wx n s t l D A' c' b v) (fun _ s5 _=>(dg D (intOf s5)).toNat)
  case atStart=>exact⟨_,_,[(t:Int)],t,rfl,rfl,RL0.out⟩
  case round =>
   clear RL0;obtain⟨A',c',b,v,rfl,rfl,hr⟩:=hrel;obtain⟨_,_,z2,_,z4,z5,z6,_,_,_,_,zp⟩:=(HM2.out.keep hr.lo).zs;obtain⟨ov,ole,v0,v1⟩:=hr.bk.ok
   by_cases hvf:v=s
   ·subst hvf
    have hd1:((s:Int) != (s:Int))=false:=by simp
    obtain⟨dc,_,_,_,zc,_⟩:=(HM2.out.keep hr.lo).cells ht;rw[HDT.out] at dc;have hbl:=hr.bk.bk.len;have hlen0:(0:Int)<=(b.length:Int) - 1:=by omega
    have HR:=hid hr;clear hr v0 v1 ov ole
    have r30:R3 w2 ((wr.alloc (.cells #[.slice none 0 0,.int .i64 dt] 36)).drew) wr.heap.size dt A' c' b none 0 0 :=
     ⟨(HR.out.own.alloc _).drewN 1,Own.nil_,fun x y x' y' e=>by
       obtain⟨S1,c1,e1,_⟩:=HR.out.own.some_ hbl.2;have e2:(Value.slice A' x y).ownBlock=(Value.slice A' b.length c').ownBlock:=obs ..;rw[e2,e1] at e;simp[Value.ownBlock] at e,HeapS.heap_drew (heap_alloc_new _ _),(HR.out.lo.alloc HR.out.lo.size _).drew,HR.out.lo.size⟩
    have hway:=HR.out.bk.done HGG.out n64;rw[HDT.out] at hway;have R30:=hid r30;have HWAY:=hid hway;clear r30 hway;go_upto_region 17 with fail
    go_region
    clear HR z2 z4 z5 z6 zp dc zc;have hbl1:=hbl.1;generalize (wr.alloc (.cells #[.slice none 0 0,.int .i64 dt] 36)).drew=w3 at R30 ⊢;generalize hX:wr.heap.size=X at *;have HX2:=hid hX;clear hX;go_wp2
    go_loopw [11] (fun s11 wx=>∃(k:Nat) (A3:Option Addr) (c3:Nat),k<=b.length/\s11= .int .i64 ((b.length:Int) - 1 - k)/\R3 w2 wx X dt A' c' b A3 c3 k) (fun s11 _=>(intOf s11+1).toNat)
    case atStart=>exact⟨0,none,0,Nat.zero_le _,by simp,R30.out⟩
    case round =>
     clear R30;obtain⟨k,A3,c3,hk,rfl,hr⟩:=hrel;have x0:=blk_cell hr.box 0;have x1:=blk_cell hr.box 1;have xf0:=blk_free hr.box 0;simp only[zzG,zzH,zzI] at x0 x1;have hzX:=lt_of_block hr.box;have hXr:=hr.hX
     by_cases hlt:k<b.length
     ·obtain⟨m,hm⟩:∃m:Nat,b.length - 1 - k=m:=⟨_,rfl⟩
      have hmi:(b.length:Int) - 1 - k=(m:Int):=by omega
      have hmb:m<b.length:=by omega
      obtain⟨sb,so,rfl,hsb,hbc⟩:=hr.back.sl.2.atI hmb;have hnx:=DijkWay.rev_take hlt;have hbx:b[b.length - 1 - k]'(by omega)=b[m]:=by congr 1
      rw[hbx] at hnx;obtain⟨x,hxb⟩:∃x,x=b[m]:=⟨_,rfl⟩;rw[<-hxb] at hnx hbc;have HXB:=hid hxb;clear hxb;have hln:(b.reverse.take k).length=k:=by rw[List.length_take,List.length_reverse];omega
      have hown:=hr.path;have hrz:=hr.lo.size;have HR:=hid hr;have HNX:=hid hnx;have HLN:=hid hln;have HMI:=hid hmi;rw[hmi];clear hnx hln hr hbx hm hmi;go_wp2;refine Sink.wp_region_sink 6 9 (fun w'=>w'.cell? ⟨X,0,none⟩=some (.slice A3 k c3)/\w'.cell? ⟨sb,so+m,none⟩=some (.int .i64 x)) (by kernel_rfl) (by kernel_rfl) ?_ (fun hHeld=> ?_)
      ·go_keep
      simp only[List.take_succ_cons,List.take_zero,List.drop_succ_cons,List.drop_zero]
      repeat
       (refine Sink.Head.cons ?_ (by rfl) (fun w' hSw=> ?_) ?_
        rotate_left
        ·((try dsimp only at hSw);go_split_ands;go_simp;try with_reducible rfl)
        simp only[Act.put,zzD,zzE,zzF])
      refine Sink.Head.nil ?_;refine Sink.Tail.cons (fun K hK=> ?_);go_simp;refine hK.out _ _ (by go_keep) (fun hH2=> ?_);clear hK K hHeld;refine Sink.Tail.cons (fun K hK=> ?_);refine step_push _ rfl (.tmp 118) (.tmp 123) _ rfl w2.heap.size 3 i0 _ 1 8 ci Tryz.underlying25 hi hz0i hz1i hz2i rfl (by decide) _ (b.reverse.take k) k HLN.out rfl (hown.alloc _) wr.heap.size 1 x rfl (news1' (by simp)) (fun _ _=>one_ci _ _) (by omega) (by omega) (by simp;omega) ?_;intro A4 c4 w4 hown4 hgrow4 hat4;have hg4:World.grownBy (wr.alloc (.cells #[.int .i64 x] 3)).drew w4 (Value.slice A3 k c3).ownBlock:=hgrow4;have ha4:(Value.slice A4 (k+1) c4).ownBlock=(Value.slice A3 k c3).ownBlock\/(Value.slice A4 (k+1) c4).ownBlock=some (wr.alloc (.cells #[.int .i64 x] 3)).drew.heap.size:=hat4;have hX0:(wr.alloc (.cells #[.int .i64 x] 3)).drew.heap[X]?=some (.cells #[.slice A3 k c3,.int .i64 dt] 36 (0,0)):=blk_alloc HR.out.box _;have hb0:Own (wr.alloc (.cells #[.int .i64 x] 3)).drew w2.heap.size 3 1 ci (.slice (some ⟨sb,so,none⟩) b.length c') b:=HR.out.back.alloc _;have hl0:Below w2.heap.size w2 (wr.alloc (.cells #[.int .i64 x] 3)).drew:=(HR.out.lo.alloc hrz _).drew;have hsz0:(wr.alloc (.cells #[.int .i64 x] 3)).drew.heap.size=wr.heap.size+1:=by show (wr.alloc (.cells #[.int .i64 x] 3)).heap.size=_;simp
      have hX4:=blk_grown hX0 hg4 (hown.ne_ HR.out.box (by decide));have hb4:=hb0.kept hg4 (.inr (HR.out.sep _ _ _ _));obtain⟨sb2,so2,es2,_,hc2⟩:=hb4.sl.2.atI hmb;cases es2;rw[<-HXB.out] at hc2;have y0:=blk_cell hX4 0;have yf0:=blk_free hX4 0;simp only[zzG,zzH,zzI] at y0;have hlo4:Below w2.heap.size w2 w4:=hl0.grown hg4 (by omega) hown.lo
      have hsep4:∀x y x' y',(Value.slice (some ⟨sb,so,none⟩) x y).ownBlock≠(Value.slice A4 x' y').ownBlock:=fun a1 a2 a3 a4 e=>by
       have e4:(Value.slice A4 a3 a4).ownBlock=(Value.slice A4 (k+1) c4).ownBlock:=obs ..;rcases ha4 with h|h
       ·rw[e4,h] at e
        exact HR.out.sep _ _ _ _ e
       ·rw[e4,h,hsz0] at e
        simp[Value.ownBlock] at e;omega
      refine hK.out _ _ ⟨y0,hc2⟩ (fun hH3=> ?_);clear hK K hH2;refine Sink.Tail.cons (fun K hK=> ?_);go_simp;refine hK.out _ _ hH3 (fun hH4=> ?_);clear hK K hH3;refine Sink.Tail.one ?_;have HN4:=hid hown4;have HB4:=hid hb4;have HX4:=hid hX4;have HS4:=hid hsep4;have HL4:=hid hlo4;clear hown4 hb4 hX4 hsep4 hlo4 hgrow4 hat4 hown hH4 hc2 hg4 ha4 hX0 hb0 hl0 hsz0;go_wp2;refine NoPanic.normal ?_;go_wp2
      go_roundw
      case rel =>
       refine⟨k+1,A4,c4,by omega,by have:=HMI.out;congr 1;omega,?_⟩;refine⟨HB4.out.setCell (HB4.out.ne_ HX4.out (by decide)) _,?_,HS4.out,blk_set HX4.out 0 _,HL4.out.setCell (by dsimp only;omega) _,hXr⟩;rw[HNX.out];exact HN4.out.setCell (HN4.out.ne_ HX4.out (by decide)) _
      case measure =>
       have:=HMI.out;simp[intOf] <;> omega
     ·obtain rfl:k=b.length:=by omega
      have hm1':(b.length:Int) - 1 - (b.length:Int)= -1:=by omega
      rw[hm1'];have hresr:=blk_below HS2.out hr.lo hzr2;have r0:=blk_cell hresr 0;have r1:=blk_cell hresr 1;have rf0:=blk_free hresr 0;have rf1:=blk_free hresr 1;simp only[zzG,zzH,zzI] at r0 r1;have hzR:=lt_of_block hresr;have hs1:=blk_set hresr 0 (.slice A3 b.length c3);have hmf:=((HM2.out.keep hr.lo).far (p:=⟨w.heap.size,0,none⟩) hresr (by exact hzw) (.slice A3 b.length c3)).far (p:=⟨w.heap.size,1,none⟩) hs1 (by exact hzw) (.int .i64 dt);have hkf:KW w ((wr.setCell ⟨w.heap.size,0,none⟩ (.slice A3 b.length c3)).setCell ⟨w.heap.size,1,none⟩ (.int .i64 dt)):=fun g cs fr hgk=>blk_far (blk_far (KW.below hr.lo g cs fr (HK2.out g cs fr hgk)) (by have:=lt_of_block hgk;dsimp only;omega) _) (by have:=lt_of_block hgk;dsimp only;omega) _;have hne:=hr.path.ne_ hresr (by decide)
      have hpf:Own ((wr.setCell ⟨w.heap.size,0,none⟩ (.slice A3 b.length c3)).setCell ⟨w.heap.size,1,none⟩ (.int .i64 dt)) w.heap.size 3 1 ci (.slice A3 b.reverse.length c3) b.reverse:=by
       have hp:=hr.path;rw[List.take_of_length_le (by simp)] at hp;rw[List.length_reverse];exact((hp.setCell hne _).setCell hne _).mono (by omega)
      have HMF:=hid hmf;have HKF:=hid hkf;have HPF:=hid hpf;clear hm1' hr hne hresr hs1 hmf hkf hpf;go_wp2;refine bodyPost_ret (v:= .tuple #[.agg #[.slice A3 b.length c3,.int .i64 dt],.int .i64 0]) (by simp[results,Tryz.results17,go_sem,hzR,r0,r1,rf0,rf1]) rfl ?_;have hl9:=HWAY.out;exact⟨D,R,Aw,m1,c1,L,wk,HMF,HR1,HP1,hwk,hm1,HKF.out,by simp[World.setCell];omega,dt,HBST,.inr ⟨HLT.out,A3,c3,b.reverse,by rw[List.length_reverse],HPF,hid ⟨hl9.1,hl9.2.1,hl9.2.2.1,by rw[List.length_reverse];omega⟩⟩⟩
   ·have hne:(v != (s:Int))=true:=by rw[bne_iff_ne];exact hvf
    obtain⟨v,rfl⟩:=Int.eq_ofNat_of_zero_le v0;have hvn:v<n:=by omega
    have zv:(v:Int)<(n:Int):=by omega
    have hnx:=hr.bk.next HF1.out HG.out HR1.out (by rw[HDT.out];exact HLT.out) hvf;have hstep:=fun (i:Nat) (hi:i<l.length) (he:en l i=(v:Int)) (hd:dg D (fr l i)+cpt l i=dg D (v:Int))=>hr.bk.add HF1.out HG.out HR1.out (by rw[HDT.out];exact HLT.out) hvf hi he hd;obtain⟨tc,_⟩:=(HM2.out.keep hr.lo).tabI.cell hvn;have htl:=(HM2.out.keep hr.lo).tabI.lt;have hids:=row_ids HG.out HM2.out (v:=v);have hall:∀i,i<l.length->en l i=(v:Int)->(i:Int)∈ol (tl l) M v:=fun i hi hf=>(ol_mem _ _ _ _).2 ⟨i,by rw[<-HM2.out.ll];exact hi,rfl,by rw[tl_fr];exact hf⟩;have hjl:(ol (tl l) M v).length<=600:=Nat.le_trans (ol_len _ _ _) (by rw[<-HM2.out.ll];exact HG.out.len);have hj:=fun (W:World) (hb:Below w2.heap.size w2 W)=>(HM2.out.keep hb).tabI.own v hvn;generalize ol (tl l) M v=js at tc hids hall hjl hj;obtain⟨Ai,ca,hF⟩:∃Ai ca,FI v=(Ai,ca):=⟨_,_,rfl⟩;simp only[hF] at tc hj;have HJ:=hid hj;have HI:=hid hids;have HALL:=hid hall;have HNX:=hid hnx;have HST:=hid hstep;have HR:=hid hr;clear hj hids hall hnx hstep hr hF ov v0 v1 hvf;go_wp2
    go_loopw [6,49] (fun s6 s49 wx=>∃k:Nat,k<=js.length/\s49= .int .i64 k/\s6= .int .i64 (-1)/\Hid (∀j∈js.take k,¬(dg D (fr l j.toNat)<far/\dg D (fr l j.toNat)+cpt l j.toNat=dg D (v:Int)))/\Rl w2 wx n s t l D A' c' b v) (fun _ s49 _=>js.length - (intOf s49).toNat)
    case atStart=>exact⟨0,Nat.zero_le _,rfl,rfl,hid (fun j hj=>by simp at hj),HR.out⟩
    case round =>
     clear HR z2 z4 z5 z6 zp tc htl;obtain⟨k,hk,rfl,rfl,HNO,hr⟩:=hrel;obtain⟨_,z1,_,_,_,_,z6,_,_,_,_,zp⟩:=(HM2.out.keep hr.lo).zs
     by_cases hlt:k<js.length
     ·have hjs:=HI.out _ (List.getElem_mem hlt)
      obtain⟨bb,off,rfl,hbb,hx⟩:=(HJ.out _ hr.lo).sl.2.atI hlt;have htk:js.take (k+1)=js.take k++[js[k]]:=List.take_succ_eq_append_getElem hlt;generalize js[k]=jk at hjs hx htk;obtain⟨i,hi,rfl,hei⟩:=hjs;obtain⟨S,f,t',co,rfl,hS0,hS1,he,hcf,hct,hcc,g0,g1,g2⟩:=own_atE HM2.out.ll (HM2.out.keep hr.lo).net (show i<l.length by rw[HM2.out.ll];exact hi);have hil:i<l.length:=by rw[HM2.out.ll];exact hi
      have he2:ed l i=(f,t',co):=by rw[ed_at hil];exact he
      have e1:fr l i=f:=by unfold fr;rw[he2]
      have e3:cpt l i=co:=by unfold cpt;rw[he2]
      have hends:=(HG.out.ends i hil).1;have hco:=HG.out.cost i hil;have hst:=HST.out i hil hei;rw[e1] at hends;rw[e3] at hco;rw[e1,e3] at hst;obtain⟨f,rfl⟩:=Int.eq_ofNat_of_zero_le hends.1;have hfn:f<n:=by omega
      have zf:(f:Int)<(n:Int):=by omega
      obtain⟨c1f,_,_,_,zc,_⟩:=(HM2.out.keep hr.lo).cells hfn;obtain⟨c1v,_,_,_,_,_⟩:=(HM2.out.keep hr.lo).cells hvn;have hrg:=HR1.out.rg (f:Int) (by omega) zf
      have hno:¬(dg D (f:Int)<far/\dg D (f:Int)+co=dg D (v:Int))->∀j∈js.take (k+1),¬(dg D (fr l j.toNat)<far/\dg D (fr l j.toNat)+cpt l j.toNat=dg D (v:Int)):=fun hn j hj=>by
       rw[htk] at hj;rcases List.mem_append.1 hj with hj|hj
       ·exact HNO.out j hj
       ·simp at hj
        subst hj;rw[Int.toNat_natCast,e1,e3];exact hn
      have HNOX:=hid hno;have HSTX:=hid hst;clear hno hst htk;generalize hx1:dg D (f:Int)=x at *;generalize hy1:dg D (v:Int)=y at *;have hE:=hr.keep ((Below.refl _ _).alloc zzL (.cells #[.int .i64 f,.int .i64 t',.int .i64 co] 70));have HE:=hid hE;have HX1:=hid hx1;have HY1:=hid hy1;have zi:(i:Int)<(M:Int):=by omega
      have hff:far=1099511627776:=rfl;rw[hff] at hrg HNOX;obtain⟨x0,x1⟩:=hrg;obtain⟨co0,co1⟩:=hco;have ww:IntKind.i64.wrap (x+co)=x+co:=by simp[IntKind.wrap,IntKind.bits,IntKind.signed];omega
      obtain⟨q,hq⟩:∃q,x+co=q:=⟨_,rfl⟩;have ww':IntKind.i64.wrap (x+co)=q:=by rw[ww];exact hq
      rw[hq] at HNOX HSTX;clear hE hr he he2 e1 e3 hends hei hil hi hff hx1 hy1 ww hq
      by_cases h1:x<1099511627776
      ·have hd1:decide (x<1099511627776)=true:=decide_eq_true h1
       by_cases h2:q=y
       ·have hd2:(q == y)=true:=by rw[beq_iff_eq];exact h2
        obtain⟨hbk,hdec⟩:=HSTX.out h2;have HBK:=hid hbk;have HDEC:=hid hdec;clear h1 h2 hbk hdec;go_upto_region 12 with fail;go_quiet (fail);have hE2:=HE.out.keep (below_drewN (Below.refl _ _) nq);have hbx:=blk_below (heap_alloc_new wr (.cells #[.int .i64 f,.int .i64 t',.int .i64 co] 70)) (below_drewN (Below.refl (wr.heap.size+1) _) nq) (Nat.lt_succ_self _);clear HE z1 z6 zp hx hcf hct hcc c1f c1v zc;generalize (wr.alloc (.cells #[.int .i64 f,.int .i64 t',.int .i64 co] 70)).drewN nq=w5 at hE2 hbx ⊢;have xb0:=blk_cell hbx 0;simp only[zzG,zzH,zzI] at xb0;have zxb:=lt_of_block hbx;clear hbx;have hown:=hE2.own;have hbl:=hE2.bk.bk.len;have hrz:=hE2.lo.size;have HE5:=hid hE2;clear hE2
        go_wp2_with (at_builtin;refine wpList_push _ rfl (.tmp 94) (.tmp 96) _ rfl w2.heap.size 3 i0 _ 1 8 ci Tryz.underlying25 hi hz0i hz1i hz2i rfl (by decide) _ b b.length rfl rfl (hown.alloc _) w5.heap.size 1 (f:Int) rfl news1 (fun _ _=>one_ci _ _) (by omega) (by omega) (by simp;omega) ?_;intro A3 c3 w3 hown3 hgrow3 hat3)
        have r3:Rl w2 w3 n s t l D A3 c3 (b++[(f:Int)]) f:=⟨by rw[List.length_append];exact hown3,(HE5.out.lo.alloc hrz _).grown hgrow3 (by simp;omega) hown.lo,HBK.out⟩;have R3:=hid r3;clear r3 hgrow3 hat3 hown3 hown
        go_roundw
        case rel=>exact⟨A3,c3,b++[(f:Int)],f,by simp,rfl,R3.out⟩
        case measure =>
         have h3:=HDEC.out;have h4:=HX1.out;have h5:=HY1.out;simp only[intOf];rw[h4,h5];omega
       ·have hd2:(q == y)=false:=by rw[beq_eq_false_iff_ne];exact h2
        have HNN:=hid (HNOX.out (fun h=>h2 h.2));clear h1 h2;go_upto_region 12 with fail;go_quiet (fail);have HE2:=hid (HE.out.keep (below_drewN (Below.refl _ _) nq));go_wp2
        go_roundw
        case rel=>exact⟨k+1,by omega,by go_num,rfl,HNN,HE2.out⟩
        case measure=>simp[intOf];omega
      ·have hd1:decide (x<1099511627776)=false:=decide_eq_false h1
       have HNN:=hid (HNOX.out (fun h=>h1 h.1));clear h1;go_upto_region 12 with fail;go_quiet (fail);have HE2:=hid (HE.out.keep (below_drewN (Below.refl _ _) nq));go_wp2
       go_roundw
       case rel=>exact⟨k+1,by omega,by go_num,rfl,HNN,HE2.out⟩
       case measure=>simp[intOf];omega
     ·obtain rfl:k=js.length:=by omega
      obtain⟨i,hi,he,hf,hd⟩:=HNX.out;exact absurd (show dg D (fr l (i:Int).toNat)<far/\dg D (fr l (i:Int).toNat)+cpt l (i:Int).toNat=dg D (v:Int) from ⟨hf,hd⟩) (HNO.out (i:Int) (by rw[List.take_length];exact HALL.out i hi he))
end
end Life
namespace Life
open Go.RowKit NetLaw BellLaw FlowLaw LifeLaw Net Go.Proofs.YtjebckehmmbkbaaGreat.Std Flow
open Heap (Kp Kp.refl Kp.below Kp.alloc Kp.drew Kp.setCell Kp.grown Kp.to fnOf)
open HeapS (HeapAt d0 ltP ltP_ord)
def Pln (w0 w:World) (n s t P:Nat) (l:List E) (m:Nat) (wk:Int):Prop :=
 ∃AE cE TI TO FI FO SC cC SL cL H D R Aw mw cw L,LM w0 w n s t P l.length AE cE TI TO FI FO SC cC SL cL H l D R Aw mw cw L wk/\Rg n D/\PI n l s D R L (fun _=>False)/\Gd n l s/\t<n/\mw<=m
section
variable {w0 w w':World} {n s t P m:Nat} {l:List E} {wk:Int}
theorem Pln.lo (h:Pln w0 w n s t P l m wk):Below w0.heap.size w0 w:=by
 obtain⟨AE,cE,TI,TO,FI,FO,SC,cC,SL,cL,H,D,R,Aw,mw,cw,L,h1,h2⟩:=h;exact h1.lo
theorem Gd.good {n:Nat} {l:List E} {s:Nat} (h:Gd n l s):NetLaw.Good n l/\∀e∈l,1<=e.2.2:=by
 have hm:∀e∈l,∃i,i<l.length/\e=ed l i:=fun e he=>by
  obtain⟨i,hi,rfl⟩:=List.mem_iff_getElem.1 he;exact⟨i,hi,(ed_at hi).symm⟩
 refine⟨⟨by have:=h.s1;omega,by have:=h.n64;omega,h.len,fun e he=> ?_,fun e he=> ?_⟩,fun e he=> ?_⟩
 ·obtain⟨i,hi,rfl⟩:=hm e he
  have:=h.ends i hi;exact⟨this.1.1,this.1.2,this.2.1,this.2.2⟩
 ·obtain⟨i,hi,rfl⟩:=hm e he
  have:=h.cost i hi;unfold cpt at this;omega
 ·obtain⟨i,hi,rfl⟩:=hm e he
  exact(h.cost i hi).1
theorem new_pln (n s t:Nat) (A:Option Addr) (c:Nat) (l:List E) (w:World) (hl:Sl w w.heap.size 3 ce A l) (hnil:A=none->l.length=0/\c=0) (hx:Dijk.look n l [(s:Int),(t:Int)]=0) :
 Calls Tryz.prog 16 #[.agg #[.int .i64 n,.slice A l.length c],.int .i64 s,.int .i64 t] w fun e w'=>∃P,e= .returned (.tuple #[.pointer (some ⟨P,0,none⟩),.int .i64 0])/\Hid (Pln w w' n s t P l 1 0):=by
 refine(new_yes n s t A c l w hl hnil hx).mono ?_;rintro e w' ⟨P,AE,cE,TI,TO,FI,FO,SC,cC,SL,cL,H,R,Aw,mw,cw,L,rfl,h1,h2,h3⟩;obtain⟨hg,hc,⟨s0,s1⟩,t0,t1⟩:=DijkWay.looks_zero hx
 exact⟨P,rfl,hid ⟨AE,cE,TI,TO,FI,FO,SC,cC,SL,cL,H,_,R,Aw,mw,cw,L,h1.out,Rg.rep n,h2.out,⟨fun i hi=>by
  have:=hg.ends _ (ed_mem hi);exact⟨⟨this.1,this.2.1⟩,this.2.2.1,this.2.2.2⟩,fun i hi=>⟨hc _ (ed_mem hi),(hg.cost _ (ed_mem hi)).2⟩,s0,s1,hg.len,by have:=hg.hi;omega⟩,by omega,h3⟩⟩
def WF (n s t:Nat) (l:List E) (A:Option Addr) (k c:Nat) (co er:Int) (w w':World):Prop :=
 ∃d,Bst l s t d/\((d=far/\A=none/\k=0/\c=0/\co=0/\er=5)\/(d<far/\co=d/\er=0/\∃p,p.length=k/\Own w' w.heap.size 3 1 ci (.slice A k c) p/\WalkLaw.cost n l p=(d,0)/\p.head?=some (s:Int)/\p.getLast?=some (t:Int)/\p.length<=64))
theorem way_pln (h:Pln w0 w n s t P l m wk) (hm:m<=3000000000000) :
 Calls Tryz.prog 17 #[.pointer (some ⟨P,0,none⟩)] w fun e w'=>∃A k c co er wk',e= .returned (.tuple #[.agg #[.slice A k c,.int .i64 co],.int .i64 er])/\Hid (Pln w0 w' n s t P l (m+80000) wk')/\Hid (0<=wk'/\wk'<=2*(n:Int))/\Hid (KW w w')/\w.heap.size<=w'.heap.size/\Hid (WF n s t l A k c co er w w'):=by
 obtain⟨AE,cE,TI,TO,FI,FO,SC,cC,SL,cL,H,D,R,Aw,mw,cw,L,h1,h2,h3,h4,h5,h6⟩:=h;refine(way_any h1 h4 h2 h3 h5 (Gd.good h4).1 (by omega)).mono ?_;rintro e w' ⟨D',R',Aw',mw',cw',L',wk',k1,k2,k3,k4,k5,k6,k7,d,k8,k9⟩;have hp:Pln w0 w' n s t P l (m+80000) wk':=⟨AE,cE,TI,TO,FI,FO,SC,cC,SL,cL,H,D',R',Aw',mw',cw',L',k1.out,k2.out,k3.out,h4,h5,by omega⟩;rcases k9 with ⟨e1,he⟩|⟨e1,A,c,p,he,e2,e3⟩
 ·exact⟨none,0,0,0,5,wk',he,hid hp,hid k4,hid k6,k7,hid ⟨d,k8.out,.inl ⟨e1,rfl,rfl,rfl,rfl,rfl⟩⟩⟩
 ·exact⟨A,p.length,c,d,0,wk',he,hid hp,hid k4,hid k6,k7,hid ⟨d,k8.out,.inr ⟨e1,rfl,rfl,p,rfl,e2.out,e3.out⟩⟩⟩
end
end Life
namespace TopC
open Go.RowKit NetLaw BellLaw DijkLaw LifeLaw Net Go.Proofs.YtjebckehmmbkbaaGreat.Std
theorem wf_c {n s t:Nat} {l:List E} {M:List Int} {A:Option Addr} {k c:Nat} {co er:Int} {w w':World} (hM:Sh n s l M) (hg:NetLaw.Good n l) (hc:∀e∈l,1<=e.2.2) (ht:t<n) (h:Life.WF n s t l A k c co er w w'):Cs (dg M t) er co:=by
 obtain⟨d,hb,h⟩:=h;have hd:=TopP.bst_sh hM hg hc ht hb;rcases h with ⟨h1,_,_,_,h2,h3⟩|⟨h1,h2,h3,_⟩
 ·exact .inr ⟨h3,h2,by omega⟩
 ·exact .inl ⟨h3,by omega,by omega⟩
end TopC
end Go.Proofs.YtjebckehmmbkbaaGreat
