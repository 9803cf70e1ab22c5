/- The walk of (*life.Plan).settle. -/
import Derived.Test.YtjebckehmmbkbaaGreatVLifeMend
set_option linter.unusedSimpArgs false
set_option linter.unusedVariables false
set_option maxRecDepth 100000
set_option maxHeartbeats 24000000
namespace Go.Proofs.YtjebckehmmbkbaaGreat
namespace Life
open Go.RowKit NetLaw BellLaw FlowLaw LifeLaw Net Go.Proofs.YtjebckehmmbkbaaGreat.Std Flow
open Heap (Kp Kp.refl Kp.below Kp.alloc Kp.drew Kp.setCell Kp.grown Kp.to fnOf)
open HeapS (HeapAt d0 ltP ltP_ord)
def wkc (w:World) (P:Nat):Nat:=match w.cell? ⟨P,9,none⟩ with|some (.int _ z)=>z.toNat|_=>0
section
variable {w0 w w':World} {n s t P M cE TI TO SC cC SL cL H mw cw:Nat} {AE Aw:Option Addr} {FI FO:Nat->Option Addr × Nat} {l:List E} {D R:List Int} {L:List Sp} {wk:Int}
theorem wkc_eq {k:Nat} (h:LM w0 w n s t P M AE cE TI TO FI FO SC cC SL cL H l D R Aw mw cw L k):wkc w P=k:=by
 unfold wkc;rw[h.zs.2.2.2.2.2.2.2.2.2.1];exact Int.toNat_natCast k
theorem LM.six (h:LM w0 w n s t P M AE cE TI TO FI FO SC cC SL cL H l D R Aw mw cw L wk) {dt rt:Int} (ht:t<n) (hd:dg D t=dt) (hr:dg R t=rt):w.cell? ⟨P,5,none⟩=some (.int .i64 t)/\w.cell? ⟨P,6,none⟩=some (.slice (some ⟨SC,0,none⟩) n cC)/\w.cell? ⟨P,7,none⟩=some (.slice (some ⟨SL,0,none⟩) n cL)/\w.cell? ⟨P,8,none⟩=some (.pointer (some ⟨H,0,none⟩))/\w.cell? ⟨SC,t,none⟩=some (.int .i64 dt)/\w.cell? ⟨SL,t,none⟩=some (.int .i64 rt):=by
 obtain⟨_,_,_,_,_,z5,z6,z7,z8,_,_,_⟩:=h.zs;obtain⟨c1,c2,_,_,_,_⟩:=h.cells ht;rw[hd] at c1;rw[hr] at c2;exact⟨z5,z6,z7,z8,c1,c2⟩
theorem stop_fx {L':List Sp} (hp:PI n l s D R L fun _=>False) (ht:Thin D R L L') (hh:HeapLaw.Hp d0 ltP L') {x:Sp} (hx:x∈L') (hg:L'.getD 0 d0=x) (hf:frsh D R x) (t1:t<n) (hlt:ltP x (ky D R t)=false) (he:dg D t=dg R t):Fx n l s t D:=by
 have hp':=hp.thin ht.sub ht.kept;have hmin:=hp'.min_ hf (fun y hy=>by rw[ltS_ltP, <-hg];exact hh.top_mem ltP_ord y hy);have hx2:=congrArg Prod.fst hf.2;have hx3:x.1=min (dg D x.2.2) (dg R x.2.2):=hx2
 have hle:dg D t<=min (dg D x.2.2) (dg R x.2.2):=by
  unfold ltP ky at hlt;simp only[decide_eq_false_iff_not,not_or] at hlt;rw[<-hx3];omega
 exact hp'.done (by omega) (by omega) he fun u u0 u1 hu=>by
  have:=hmin u u0 u1 hu;omega
theorem top_some {L':List Sp} (ht:Thin D R L L') {b:Bool} (hb:(b=true->0<mw/\frsh D R (L'.getD 0 d0))/\(b=false->L'=[])) (hF:∃x∈L,frsh D R x):b=true:=by
 cases b with
 |true=>rfl
 |false =>
  obtain⟨x,hx,hf⟩:=hF;have:=ht.kept x hx hf;rw[hb.2 rfl] at this;simp at this
theorem top_in {L':List Sp} (hl:L'.length=mw) (h0:0<mw):L'.getD 0 d0∈L':=by
 rw[List.getD_eq_getElem?_getD,List.getElem?_eq_getElem (by omega)];exact List.getElem_mem _
theorem top_none {L':List Sp} (ht:Thin D R L L') (hl:L'.length=mw) {b:Bool} (hb:(b=true->0<mw/\frsh D R (L'.getD 0 d0))/\(b=false->L'=[])) (hF:¬ ∃x∈L,frsh D R x):b=false:=by
 cases b with
 |false=>rfl
 |true =>
  obtain⟨h0,hf⟩:=hb.1 rfl;exact absurd ⟨_,ht.sub _ (top_in hl h0),hf⟩ hF
theorem top_lt {L':List Sp} (ht:Thin D R L L') (hh:HeapLaw.Hp d0 ltP L') {y k:Sp} (hg:L'.getD 0 d0=y) (hK:∃x∈L,frsh D R x/\ltP x k=true):ltP y k=true:=by
 obtain⟨x,hx,hf,hk⟩:=hK;have h1:=hh.top_mem ltP_ord x (ht.kept x hx hf);rw[hg] at h1;unfold ltP at *;simp only[decide_eq_true_eq,decide_eq_false_iff_not] at *;omega
theorem top_ge {L':List Sp} (ht:Thin D R L L') (hl:L'.length=mw) (h0:0<mw/\frsh D R (L'.getD 0 d0)) {y k:Sp} (hg:L'.getD 0 d0=y) (hK:¬ ∃x∈L,frsh D R x/\ltP x k=true):ltP y k=false:=by
 cases hb:ltP y k with
 |false=>rfl
 |true=>exact absurd ⟨_,ht.sub _ (top_in hl h0.1),h0.2,by rw[hg];exact hb⟩ hK
def SettleSays (w0:World) (n s t P M:Nat) (AE:Option Addr) (cE TI TO:Nat) (FI FO:Nat->Option Addr × Nat) (SC cC SL cL H:Nat) (l:List E) (D R:List Int) (Aw:Option Addr) (mw cw:Nat) (L:List Sp) (wk:Int) (w1:World) (e:Ending) (w':World):Prop :=
 (∃r,e= .returned r)/\∃D' R' Aw' mw' cw' L' wk',Hid (LM w0 w' n s t P M AE cE TI TO FI FO SC cC SL cL H l D' R' Aw' mw' cw' L' wk')/\Hid (Rg n D')/\Hid (PI n l s D' R' L' (fun _=>False))/\Hid (Fx n l s t D')/\(0<=wk'/\wk'<=2*(n:Int))/\mw'<=mw+80000/\KW w1 w'/\w1.heap.size<=w'.heap.size
theorem settle_any (h:LM w0 w n s t P M AE cE TI TO FI FO SC cC SL cL H l D R Aw mw cw L wk) (hg:Gd n l s) (hr:Rg n D) (hp:PI n l s D R L (fun _=>False)) (ht:t<n) (hmw:mw<=3000000000000) :
 Calls Tryz.prog 48 #[.pointer (some ⟨P,0,none⟩)] w fun e w'=>SettleSays w0 n s t P M AE cE TI TO FI FO SC cC SL cL H l D R Aw mw cw L wk w e w':=by
 have n64:=hg.n64;obtain⟨_,_,_,_,_,_,_,_,_,z9,z9f,zp⟩:=h.zs;have hm0:=h.setW 0;have hkw0:=h.kw_setW (.int .i64 0);have hri:=RI.start hg hr;have HM0:=hid hm0;have HK0:=hid hkw0;have HR0:=hid hr;have HP0:=hid hp;have HI0:=hid hri;have HG:=hid hg;clear h hm0 hkw0 hr hp hri hg;go_enter Tryz.func48,Tryz.ntmps48;go_wp2
 go_loopw [2] (fun _ wr=>∃D R A m c L K O U,∃wn:Nat,Hid (LM w0 wr n s t P M AE cE TI TO FI FO SC cC SL cL H l D R A m c L wn)/\Hid (Rg n D)/\Hid (PI n l s D R L (fun _=>False))/\Hid (RI n l s D K O U)/\Hid (wn=O.length+U.length)/\m<=mw+601*wn/\Hid (KW w wr)/\w.heap.size<=wr.heap.size) (fun _ wr=>2*n - wkc wr P)
 case atStart=>exact⟨D,R,Aw,mw,cw,L,0,[],[],0,HM0,HR0,HP0,HI0,hid rfl,by omega,HK0,by simp[World.setCell]⟩
 case round =>
  clear z9 z9f zp HM0 HK0 HR0 HP0 HI0;obtain⟨D,R,A,m,c,L,K,O,U,wn,HM,HR,HP,HRI,HWN,hm,HKW,hz⟩:=hrel;have hwk:=HRI.out.work;have hwn2:wn<=2*n:=by rw[HWN.out];exact hwk
  clear hwk;obtain⟨dt,hdt⟩:∃dt,dg D (t:Int)=dt:=⟨_,rfl⟩;obtain⟨rt,hrt⟩:∃rt,dg R (t:Int)=rt:=⟨_,rfl⟩;obtain⟨q,hq⟩:∃q,min dt rt=q:=⟨_,rfl⟩;have kfr:=fresh_any HM.out.drew HP.out.ids (by omega);have kky:=fun (W:World) (A':Option Addr) (m' c':Nat) (L':List Sp) (h:LM w0 W n s t P M AE cE TI TO FI FO SC cC SL cL H l D R A' m' c' L' wn)=>key_any h ht;rw[hdt,hrt,hq] at kky;have hsix:=fun (W:World) (A':Option Addr) (m' c':Nat) (L':List Sp) (h:LM w0 W n s t P M AE cE TI TO FI FO SC cC SL cL H l D R A' m' c' L' wn)=>h.six ht hdt hrt;have hstop:=fun (L':List Sp) (x:Sp) (h1:Thin D R L L') (h2:HeapLaw.Hp d0 ltP L') (h3:x∈L') (h4:L'.getD 0 d0=x) (h5:frsh D R x) (h6:ltP x (q,q,(t:Int))=false) (h7:dt=rt)=>stop_fx HP.out h1 h2 h3 h4 h5 ht (by unfold ky;rw[hdt,hrt,hq];exact h6) (by rw[hdt,hrt];exact h7);have KFR:=hid kfr;have KKY:=hid kky;have HSIX:=hid hsix;have HSTOP:=hid hstop;clear kfr kky hsix hstop hdt hrt hq;have s0:=HSIX.out _ _ _ _ _ HM.out.drew;have hmx:=HM.out.zs;obtain⟨_,_,_,_,_,z5,z6,z7,z8,_,_,zp⟩:=hmx;go_upto_region 1 with fail
  go_cut [46] from 8 to 45 (fun s46 wx=>∃bb A' m' c' L',s46= .bool bb/\Hid (LM w0 wx n s t P M AE cE TI TO FI FO SC cC SL cL H l D R A' m' c' L' wn)/\m'<=m/\Hid (KW wr wx)/\wr.heap.size<=wx.heap.size/\Hid (Thin D R L L')/\Hid ((bb=true->0<m'/\frsh D R (L'.getD 0 d0))/\(bb=false->Fx n l s t D)))
  case first =>
   by_cases hF:∃x∈L,frsh D R x
   ·have HF:=hid hF
    clear hF
    by_cases hK:∃x∈L,frsh D R x/\ltP x (q,q,(t:Int))=true
    ·have HK:=hid hK
     clear hK;refine Go.wp_region_held_drew (S:=(fun w'=>w'.cell? ⟨P,5,none⟩=some (.int .i64 t)/\w'.cell? ⟨P,6,none⟩=some (.slice (some ⟨SC,0,none⟩) n cC)/\w'.cell? ⟨P,7,none⟩=some (.slice (some ⟨SL,0,none⟩) n cL)/\w'.cell? ⟨P,8,none⟩=some (.pointer (some ⟨H,0,none⟩))/\w'.cell? ⟨SC,t,none⟩=some (.int .i64 dt)/\w'.cell? ⟨SL,t,none⟩=some (.int .i64 rt))) (by kernel_rfl) s0 (fun hHeld=> ?_);refine zzT 38 0 ?_ rfl (by kernel_rfl) (fun _ _ _ h=>h) (.inl ⟨by rfl,?_⟩) ‹_› ?_;rotate_left;(intro w hSw;(try dsimp only at hSw);go_simp;try with_reducible rfl);try simp only[Act.put,zzA,zzB,zzC,zzD,zzE,zzF];refine Go.wpAnyH_ready (fuel:=37) (rs:=[1]) (by kernel_rfl) (by simp) ?_;refine Go.AllReadyH.cons (o:=_) rfl (fun K hK=> ?_) Go.AllReadyH.nil;have HKX:=hid hK;clear hK;go_simp;go_at_call 82;refine KFR.out.mono ?_;rintro e wf ⟨b,Af,mf,cf,Lf,rfl,HMf,hmf,hkf,hzf,HTf,HBf⟩;have s1:=HSIX.out _ _ _ _ _ HMf.out;obtain rfl:=top_some HTf.out HBf.out HF.out;refine HKX.out.out _ _ s1 (fun hHeld=> ?_);clear HKX
     try simp only[Act.put,zzA,zzB,zzC,zzD,zzE,zzF]
     refine zzT 36 2 ?_ rfl (by kernel_rfl) (fun _ _ _ h=>h) (.inl ⟨by rfl,?_⟩) ‹_› ?_;rotate_left;(intro w hSw;(try dsimp only at hSw);go_simp;try with_reducible rfl);try simp only[Act.put,zzA,zzB,zzC,zzD,zzE,zzF];refine zzT 35 3 ?_ rfl (by kernel_rfl) (fun _ _ _ h=>h) (.inl ⟨by rfl,?_⟩) ‹_› ?_;rotate_left;(intro w hSw;(try dsimp only at hSw);go_simp;try with_reducible rfl);try simp only[Act.put,zzA,zzB,zzC,zzD,zzE,zzF];refine zzT 34 4 ?_ rfl (by kernel_rfl) (fun _ _ _ h=>h) (.inl ⟨by rfl,?_⟩) ‹_› ?_;rotate_left;(intro w hSw;(try dsimp only at hSw);go_simp;try with_reducible rfl);try simp only[Act.put,zzA,zzB,zzC,zzD,zzE,zzF];refine zzT 33 5 ?_ rfl (by kernel_rfl) (fun _ _ _ h=>h) (.inl ⟨by rfl,?_⟩) ‹_› ?_;rotate_left;(intro w hSw;(try dsimp only at hSw);go_simp;try with_reducible rfl);try simp only[Act.put,zzA,zzB,zzC,zzD,zzE,zzF];refine zzT 32 6 ?_ rfl (by kernel_rfl) (fun _ _ _ h=>h) (.inl ⟨by rfl,?_⟩) ‹_› ?_;rotate_left;(intro w hSw;(try dsimp only at hSw);go_simp;try with_reducible rfl);try simp only[Act.put,zzA,zzB,zzC,zzD,zzE,zzF];refine zzT 31 8 ?_ rfl (by kernel_rfl) (fun _ _ _ h=>h) (.inl ⟨by rfl,?_⟩) ‹_› ?_;rotate_left;(intro w hSw;(try dsimp only at hSw);go_simp;try with_reducible rfl);try simp only[Act.put,zzA,zzB,zzC,zzD,zzE,zzF];refine zzT 30 9 ?_ rfl (by kernel_rfl) (fun _ _ _ h=>h) (.inl ⟨by rfl,?_⟩) ‹_› ?_;rotate_left;(intro w hSw;(try dsimp only at hSw);go_simp;try with_reducible rfl);try simp only[Act.put,zzA,zzB,zzC,zzD,zzE,zzF];refine zzT 29 10 ?_ rfl (by kernel_rfl) (fun _ _ _ h=>h) (.inl ⟨by rfl,?_⟩) ‹_› ?_;rotate_left;(intro w hSw;(try dsimp only at hSw);go_simp;try with_reducible rfl);try simp only[Act.put,zzA,zzB,zzC,zzD,zzE,zzF];refine zzT 28 11 ?_ rfl (by kernel_rfl) (fun _ _ _ h=>h) (.inl ⟨by rfl,?_⟩) ‹_› ?_;rotate_left;(intro w hSw;(try dsimp only at hSw);go_simp;try with_reducible rfl);try simp only[Act.put,zzA,zzB,zzC,zzD,zzE,zzF];refine zzT 27 12 ?_ rfl (by kernel_rfl) (fun _ _ _ h=>h) (.inl ⟨by rfl,?_⟩) ‹_› ?_;rotate_left;(intro w hSw;(try dsimp only at hSw);go_simp;try with_reducible rfl);try simp only[Act.put,zzA,zzB,zzC,zzD,zzE,zzF];refine Go.wpAnyH_ready (fuel:=26) (rs:=[7]) (by kernel_rfl) (by simp) ?_;refine Go.AllReadyH.cons (o:=_) rfl (fun K hK=> ?_) Go.AllReadyH.nil;have HKX:=hid hK;clear hK;go_simp;go_at_call 83;refine(top_any HMf.out.heap (HBf.out.1 (by simp)).1).mono ?_;rintro e wg ⟨a,b,x,hg0,rfl,hbg⟩;have HMg:=hid (HMf.out.keep hbg);have s2:=HSIX.out _ _ _ _ _ HMg.out;refine HKX.out.out _ _ s2 (fun hHeld=> ?_);clear HKX
     try simp only[Act.put,zzA,zzB,zzC,zzD,zzE,zzF]
     refine Go.wpAnyH_ready (fuel:=25) (rs:=[13]) (by kernel_rfl) (by simp) ?_;refine Go.AllReadyH.cons (o:=_) rfl (fun K hK=> ?_) Go.AllReadyH.nil;have HKX:=hid hK;clear hK;go_simp;go_at_call 81;refine(KKY.out _ _ _ _ _ HMg.out).mono ?_;rintro e wh ⟨rfl,hbh⟩;have HMh:=hid (HMg.out.keep hbh);have s3:=HSIX.out _ _ _ _ _ HMh.out;refine HKX.out.out _ _ s3 (fun hHeld=> ?_);clear HKX
     try simp only[Act.put,zzA,zzB,zzC,zzD,zzE,zzF]
     refine Go.wpAnyH_ready (fuel:=24) (rs:=[14]) (by kernel_rfl) (by simp) ?_;refine Go.AllReadyH.cons (o:=_) rfl (fun K hK=> ?_) Go.AllReadyH.nil;have HKX:=hid hK;clear hK;go_simp;go_at_call 45;have kl:=HeapS.less_any wh a b x q q t;rw[(top_lt HTf.out HMf.out.hp hg0 HK.out:ltP (a,b,x) (q,q,(t:Int))=true)] at kl;refine kl.mono ?_;rintro e wi ⟨rfl,hbi⟩;have HMi:=hid (HMh.out.keep hbi);have s4:=HSIX.out _ _ _ _ _ HMi.out;refine HKX.out.out _ _ s4 (fun hHeld=> ?_);clear HKX
     try simp only[Act.put,zzA,zzB,zzC,zzD,zzE,zzF]
     refine zzT 23 15 ?_ rfl (by kernel_rfl) (fun _ _ _ h=>h) (.inl ⟨by rfl,?_⟩) ‹_› ?_;rotate_left;(intro w hSw;(try dsimp only at hSw);go_simp;try with_reducible rfl);try simp only[Act.put,zzA,zzB,zzC,zzD,zzE,zzF];refine zzT 22 16 undef rfl (by kernel_rfl) (fun _ _ _ h=>h) (.inr ⟨by rfl,rfl⟩) ‹_› ?_
     try simp only[Act.put,zzA,zzB,zzC,zzD,zzE,zzF]
     refine zzT 21 17 undef rfl (by kernel_rfl) (fun _ _ _ h=>h) (.inr ⟨by rfl,rfl⟩) ‹_› ?_
     try simp only[Act.put,zzA,zzB,zzC,zzD,zzE,zzF]
     refine zzT 20 18 undef rfl (by kernel_rfl) (fun _ _ _ h=>h) (.inr ⟨by rfl,rfl⟩) ‹_› ?_
     try simp only[Act.put,zzA,zzB,zzC,zzD,zzE,zzF]
     refine zzT 19 19 undef rfl (by kernel_rfl) (fun _ _ _ h=>h) (.inr ⟨by rfl,rfl⟩) ‹_› ?_
     try simp only[Act.put,zzA,zzB,zzC,zzD,zzE,zzF]
     refine zzT 18 20 undef rfl (by kernel_rfl) (fun _ _ _ h=>h) (.inr ⟨by rfl,rfl⟩) ‹_› ?_
     try simp only[Act.put,zzA,zzB,zzC,zzD,zzE,zzF]
     refine zzT 17 21 undef rfl (by kernel_rfl) (fun _ _ _ h=>h) (.inr ⟨by rfl,rfl⟩) ‹_› ?_
     try simp only[Act.put,zzA,zzB,zzC,zzD,zzE,zzF]
     refine zzT 16 22 undef rfl (by kernel_rfl) (fun _ _ _ h=>h) (.inr ⟨by rfl,rfl⟩) ‹_› ?_
     try simp only[Act.put,zzA,zzB,zzC,zzD,zzE,zzF]
     refine zzT 15 23 undef rfl (by kernel_rfl) (fun _ _ _ h=>h) (.inr ⟨by rfl,rfl⟩) ‹_› ?_
     try simp only[Act.put,zzA,zzB,zzC,zzD,zzE,zzF]
     refine zzT 14 24 undef rfl (by kernel_rfl) (fun _ _ _ h=>h) (.inr ⟨by rfl,rfl⟩) ‹_› ?_
     try simp only[Act.put,zzA,zzB,zzC,zzD,zzE,zzF]
     refine zzT 13 25 undef rfl (by kernel_rfl) (fun _ _ _ h=>h) (.inr ⟨by rfl,rfl⟩) ‹_› ?_
     try simp only[Act.put,zzA,zzB,zzC,zzD,zzE,zzF]
     refine zzT 12 26 undef rfl (by kernel_rfl) (fun _ _ _ h=>h) (.inr ⟨by rfl,rfl⟩) ‹_› ?_
     try simp only[Act.put,zzA,zzB,zzC,zzD,zzE,zzF]
     refine zzT 11 27 undef rfl (by kernel_rfl) (fun _ _ _ h=>h) (.inr ⟨by rfl,rfl⟩) ‹_› ?_
     try simp only[Act.put,zzA,zzB,zzC,zzD,zzE,zzF]
     refine zzT 10 28 undef rfl (by kernel_rfl) (fun _ _ _ h=>h) (.inr ⟨by rfl,rfl⟩) ‹_› ?_
     try simp only[Act.put,zzA,zzB,zzC,zzD,zzE,zzF]
     refine zzT 9 29 undef rfl (by kernel_rfl) (fun _ _ _ h=>h) (.inr ⟨by rfl,rfl⟩) ‹_› ?_
     try simp only[Act.put,zzA,zzB,zzC,zzD,zzE,zzF]
     refine zzT 8 30 undef rfl (by kernel_rfl) (fun _ _ _ h=>h) (.inr ⟨by rfl,rfl⟩) ‹_› ?_
     try simp only[Act.put,zzA,zzB,zzC,zzD,zzE,zzF]
     refine zzT 7 31 undef rfl (by kernel_rfl) (fun _ _ _ h=>h) (.inr ⟨by rfl,rfl⟩) ‹_› ?_
     try simp only[Act.put,zzA,zzB,zzC,zzD,zzE,zzF]
     refine zzT 6 32 undef rfl (by kernel_rfl) (fun _ _ _ h=>h) (.inr ⟨by rfl,rfl⟩) ‹_› ?_
     try simp only[Act.put,zzA,zzB,zzC,zzD,zzE,zzF]
     refine zzT 5 33 undef rfl (by kernel_rfl) (fun _ _ _ h=>h) (.inr ⟨by rfl,rfl⟩) ‹_› ?_
     try simp only[Act.put,zzA,zzB,zzC,zzD,zzE,zzF]
     refine zzT 4 34 undef rfl (by kernel_rfl) (fun _ _ _ h=>h) (.inr ⟨by rfl,rfl⟩) ‹_› ?_
     try simp only[Act.put,zzA,zzB,zzC,zzD,zzE,zzF]
     refine zzT 3 35 undef rfl (by kernel_rfl) (fun _ _ _ h=>h) (.inr ⟨by rfl,rfl⟩) ‹_› ?_
     try simp only[Act.put,zzA,zzB,zzC,zzD,zzE,zzF]
     refine zzT 2 36 undef rfl (by kernel_rfl) (fun _ _ _ h=>h) (.inr ⟨by rfl,rfl⟩) ‹_› ?_
     try simp only[Act.put,zzA,zzB,zzC,zzD,zzE,zzF]
     refine zzT 1 37 ?_ rfl (by kernel_rfl) (fun _ _ _ h=>h) (.inl ⟨by rfl,?_⟩) ‹_› ?_;rotate_left;(intro w hSw;(try dsimp only at hSw);go_simp;try with_reducible rfl);try simp only[Act.put,zzA,zzB,zzC,zzD,zzE,zzF];refine zzT 0 38 ?_ rfl (by kernel_rfl) (fun _ _ _ h=>h) (.inl ⟨by rfl,?_⟩) ‹_› ?_;rotate_left;(intro w hSw;(try dsimp only at hSw);go_simp;try with_reducible rfl);try simp only[Act.put,zzA,zzB,zzC,zzD,zzE,zzF];refine Go.wpAnyH_done (by kernel_rfl) ?_ _;have hbw:=hbg.trans ((hbh.mono hbg.size).trans (hbi.mono (Nat.le_trans hbg.size hbh.size)));have hkw:=hkf.trans (KW.below hbw);have hzw:=Nat.le_trans hzf hbw.size;go_wp2
     go_meet
     exact⟨true,Af,mf,cf,Lf,rfl,HMi,hmf,hid hkw,hzw,HTf,hid ⟨fun _=>HBf.out.1 (by simp),fun h=>(nomatch h)⟩⟩
    ·have HK:=hid hK
     clear hK;refine Go.wp_region_held_drew (S:=(fun w'=>w'.cell? ⟨P,5,none⟩=some (.int .i64 t)/\w'.cell? ⟨P,6,none⟩=some (.slice (some ⟨SC,0,none⟩) n cC)/\w'.cell? ⟨P,7,none⟩=some (.slice (some ⟨SL,0,none⟩) n cL)/\w'.cell? ⟨P,8,none⟩=some (.pointer (some ⟨H,0,none⟩))/\w'.cell? ⟨SC,t,none⟩=some (.int .i64 dt)/\w'.cell? ⟨SL,t,none⟩=some (.int .i64 rt))) (by kernel_rfl) s0 (fun hHeld=> ?_);refine zzT 38 0 ?_ rfl (by kernel_rfl) (fun _ _ _ h=>h) (.inl ⟨by rfl,?_⟩) ‹_› ?_;rotate_left;(intro w hSw;(try dsimp only at hSw);go_simp;try with_reducible rfl);try simp only[Act.put,zzA,zzB,zzC,zzD,zzE,zzF];refine Go.wpAnyH_ready (fuel:=37) (rs:=[1]) (by kernel_rfl) (by simp) ?_;refine Go.AllReadyH.cons (o:=_) rfl (fun K hK=> ?_) Go.AllReadyH.nil;have HKX:=hid hK;clear hK;go_simp;go_at_call 82;refine KFR.out.mono ?_;rintro e wf ⟨b,Af,mf,cf,Lf,rfl,HMf,hmf,hkf,hzf,HTf,HBf⟩;have s1:=HSIX.out _ _ _ _ _ HMf.out;obtain rfl:=top_some HTf.out HBf.out HF.out;refine HKX.out.out _ _ s1 (fun hHeld=> ?_);clear HKX
     try simp only[Act.put,zzA,zzB,zzC,zzD,zzE,zzF]
     refine zzT 36 2 ?_ rfl (by kernel_rfl) (fun _ _ _ h=>h) (.inl ⟨by rfl,?_⟩) ‹_› ?_;rotate_left;(intro w hSw;(try dsimp only at hSw);go_simp;try with_reducible rfl);try simp only[Act.put,zzA,zzB,zzC,zzD,zzE,zzF];refine zzT 35 3 ?_ rfl (by kernel_rfl) (fun _ _ _ h=>h) (.inl ⟨by rfl,?_⟩) ‹_› ?_;rotate_left;(intro w hSw;(try dsimp only at hSw);go_simp;try with_reducible rfl);try simp only[Act.put,zzA,zzB,zzC,zzD,zzE,zzF];refine zzT 34 4 ?_ rfl (by kernel_rfl) (fun _ _ _ h=>h) (.inl ⟨by rfl,?_⟩) ‹_› ?_;rotate_left;(intro w hSw;(try dsimp only at hSw);go_simp;try with_reducible rfl);try simp only[Act.put,zzA,zzB,zzC,zzD,zzE,zzF];refine zzT 33 5 ?_ rfl (by kernel_rfl) (fun _ _ _ h=>h) (.inl ⟨by rfl,?_⟩) ‹_› ?_;rotate_left;(intro w hSw;(try dsimp only at hSw);go_simp;try with_reducible rfl);try simp only[Act.put,zzA,zzB,zzC,zzD,zzE,zzF];refine zzT 32 6 ?_ rfl (by kernel_rfl) (fun _ _ _ h=>h) (.inl ⟨by rfl,?_⟩) ‹_› ?_;rotate_left;(intro w hSw;(try dsimp only at hSw);go_simp;try with_reducible rfl);try simp only[Act.put,zzA,zzB,zzC,zzD,zzE,zzF];refine zzT 31 8 ?_ rfl (by kernel_rfl) (fun _ _ _ h=>h) (.inl ⟨by rfl,?_⟩) ‹_› ?_;rotate_left;(intro w hSw;(try dsimp only at hSw);go_simp;try with_reducible rfl);try simp only[Act.put,zzA,zzB,zzC,zzD,zzE,zzF];refine zzT 30 9 ?_ rfl (by kernel_rfl) (fun _ _ _ h=>h) (.inl ⟨by rfl,?_⟩) ‹_› ?_;rotate_left;(intro w hSw;(try dsimp only at hSw);go_simp;try with_reducible rfl);try simp only[Act.put,zzA,zzB,zzC,zzD,zzE,zzF];refine zzT 29 10 ?_ rfl (by kernel_rfl) (fun _ _ _ h=>h) (.inl ⟨by rfl,?_⟩) ‹_› ?_;rotate_left;(intro w hSw;(try dsimp only at hSw);go_simp;try with_reducible rfl);try simp only[Act.put,zzA,zzB,zzC,zzD,zzE,zzF];refine zzT 28 11 ?_ rfl (by kernel_rfl) (fun _ _ _ h=>h) (.inl ⟨by rfl,?_⟩) ‹_› ?_;rotate_left;(intro w hSw;(try dsimp only at hSw);go_simp;try with_reducible rfl);try simp only[Act.put,zzA,zzB,zzC,zzD,zzE,zzF];refine zzT 27 12 ?_ rfl (by kernel_rfl) (fun _ _ _ h=>h) (.inl ⟨by rfl,?_⟩) ‹_› ?_;rotate_left;(intro w hSw;(try dsimp only at hSw);go_simp;try with_reducible rfl);try simp only[Act.put,zzA,zzB,zzC,zzD,zzE,zzF];refine Go.wpAnyH_ready (fuel:=26) (rs:=[7]) (by kernel_rfl) (by simp) ?_;refine Go.AllReadyH.cons (o:=_) rfl (fun K hK=> ?_) Go.AllReadyH.nil;have HKX:=hid hK;clear hK;go_simp;go_at_call 83;refine(top_any HMf.out.heap (HBf.out.1 (by simp)).1).mono ?_;rintro e wg ⟨a,b,x,hg0,rfl,hbg⟩;have HMg:=hid (HMf.out.keep hbg);have s2:=HSIX.out _ _ _ _ _ HMg.out;refine HKX.out.out _ _ s2 (fun hHeld=> ?_);clear HKX
     try simp only[Act.put,zzA,zzB,zzC,zzD,zzE,zzF]
     refine Go.wpAnyH_ready (fuel:=25) (rs:=[13]) (by kernel_rfl) (by simp) ?_;refine Go.AllReadyH.cons (o:=_) rfl (fun K hK=> ?_) Go.AllReadyH.nil;have HKX:=hid hK;clear hK;go_simp;go_at_call 81;refine(KKY.out _ _ _ _ _ HMg.out).mono ?_;rintro e wh ⟨rfl,hbh⟩;have HMh:=hid (HMg.out.keep hbh);have s3:=HSIX.out _ _ _ _ _ HMh.out;refine HKX.out.out _ _ s3 (fun hHeld=> ?_);clear HKX
     try simp only[Act.put,zzA,zzB,zzC,zzD,zzE,zzF]
     refine Go.wpAnyH_ready (fuel:=24) (rs:=[14]) (by kernel_rfl) (by simp) ?_;refine Go.AllReadyH.cons (o:=_) rfl (fun K hK=> ?_) Go.AllReadyH.nil;have HKX:=hid hK;clear hK;go_simp;go_at_call 45;have kl:=HeapS.less_any wh a b x q q t;rw[(top_ge HTf.out HMf.out.heap.len (HBf.out.1 (by simp)) hg0 HK.out:ltP (a,b,x) (q,q,(t:Int))=false)] at kl;refine kl.mono ?_;rintro e wi ⟨rfl,hbi⟩;have HMi:=hid (HMh.out.keep hbi);have s4:=HSIX.out _ _ _ _ _ HMi.out;refine HKX.out.out _ _ s4 (fun hHeld=> ?_);clear HKX
     try simp only[Act.put,zzA,zzB,zzC,zzD,zzE,zzF]
     refine zzT 23 15 ?_ rfl (by kernel_rfl) (fun _ _ _ h=>h) (.inl ⟨by rfl,?_⟩) ‹_› ?_;rotate_left;(intro w hSw;(try dsimp only at hSw);go_simp;try with_reducible rfl);try simp only[Act.put,zzA,zzB,zzC,zzD,zzE,zzF];refine zzT 22 16 ?_ rfl (by kernel_rfl) (fun _ _ _ h=>h) (.inl ⟨by rfl,?_⟩) ‹_› ?_;rotate_left;(intro w hSw;(try dsimp only at hSw);go_simp;try with_reducible rfl);try simp only[Act.put,zzA,zzB,zzC,zzD,zzE,zzF];refine zzT 21 17 ?_ rfl (by kernel_rfl) (fun _ _ _ h=>h) (.inl ⟨by rfl,?_⟩) ‹_› ?_;rotate_left;(intro w hSw;(try dsimp only at hSw);go_simp;try with_reducible rfl);try simp only[Act.put,zzA,zzB,zzC,zzD,zzE,zzF];refine zzT 20 18 ?_ rfl (by kernel_rfl) (fun _ _ _ h=>h) (.inl ⟨by rfl,?_⟩) ‹_› ?_;rotate_left;(intro w hSw;(try dsimp only at hSw);go_simp;try with_reducible rfl);try simp only[Act.put,zzA,zzB,zzC,zzD,zzE,zzF];refine zzT 19 19 ?_ rfl (by kernel_rfl) (fun _ _ _ h=>h) (.inl ⟨by rfl,?_⟩) ‹_› ?_;rotate_left;(intro w hSw;(try dsimp only at hSw);go_simp;try with_reducible rfl);try simp only[Act.put,zzA,zzB,zzC,zzD,zzE,zzF];refine zzT 18 20 ?_ rfl (by kernel_rfl) (fun _ _ _ h=>h) (.inl ⟨by rfl,?_⟩) ‹_› ?_;rotate_left;(intro w hSw;(try dsimp only at hSw);go_simp;try with_reducible rfl);try simp only[Act.put,zzA,zzB,zzC,zzD,zzE,zzF];refine zzT 17 21 ?_ rfl (by kernel_rfl) (fun _ _ _ h=>h) (.inl ⟨by rfl,?_⟩) ‹_› ?_;rotate_left;(intro w hSw;(try dsimp only at hSw);go_simp;try with_reducible rfl);try simp only[Act.put,zzA,zzB,zzC,zzD,zzE,zzF];refine zzT 16 22 ?_ rfl (by kernel_rfl) (fun _ _ _ h=>h) (.inl ⟨by rfl,?_⟩) ‹_› ?_;rotate_left;(intro w hSw;(try dsimp only at hSw);go_simp;try with_reducible rfl);try simp only[Act.put,zzA,zzB,zzC,zzD,zzE,zzF];refine zzT 15 23 ?_ rfl (by kernel_rfl) (fun _ _ _ h=>h) (.inl ⟨by rfl,?_⟩) ‹_› ?_;rotate_left;(intro w hSw;(try dsimp only at hSw);go_simp;try with_reducible rfl);try simp only[Act.put,zzA,zzB,zzC,zzD,zzE,zzF];refine zzT 14 24 ?_ rfl (by kernel_rfl) (fun _ _ _ h=>h) (.inl ⟨by rfl,?_⟩) ‹_› ?_;rotate_left;(intro w hSw;(try dsimp only at hSw);go_simp;try with_reducible rfl);try simp only[Act.put,zzA,zzB,zzC,zzD,zzE,zzF];refine zzT 13 25 ?_ rfl (by kernel_rfl) (fun _ _ _ h=>h) (.inl ⟨by rfl,?_⟩) ‹_› ?_;rotate_left;(intro w hSw;(try dsimp only at hSw);go_simp;try with_reducible rfl);try simp only[Act.put,zzA,zzB,zzC,zzD,zzE,zzF];refine zzT 12 26 ?_ rfl (by kernel_rfl) (fun _ _ _ h=>h) (.inl ⟨by rfl,?_⟩) ‹_› ?_;rotate_left;(intro w hSw;(try dsimp only at hSw);go_simp;try with_reducible rfl);try simp only[Act.put,zzA,zzB,zzC,zzD,zzE,zzF];refine zzT 11 27 ?_ rfl (by kernel_rfl) (fun _ _ _ h=>h) (.inl ⟨by rfl,?_⟩) ‹_› ?_;rotate_left;(intro w hSw;(try dsimp only at hSw);go_simp;try with_reducible rfl);try simp only[Act.put,zzA,zzB,zzC,zzD,zzE,zzF];refine zzT 10 28 ?_ rfl (by kernel_rfl) (fun _ _ _ h=>h) (.inl ⟨by rfl,?_⟩) ‹_› ?_;rotate_left;(intro w hSw;(try dsimp only at hSw);go_simp;try with_reducible rfl);try simp only[Act.put,zzA,zzB,zzC,zzD,zzE,zzF];refine zzT 9 29 ?_ rfl (by kernel_rfl) (fun _ _ _ h=>h) (.inl ⟨by rfl,?_⟩) ‹_› ?_;rotate_left;(intro w hSw;(try dsimp only at hSw);go_simp;try with_reducible rfl);try simp only[Act.put,zzA,zzB,zzC,zzD,zzE,zzF];refine zzT 8 30 ?_ rfl (by kernel_rfl) (fun _ _ _ h=>h) (.inl ⟨by rfl,?_⟩) ‹_› ?_;rotate_left;(intro w hSw;(try dsimp only at hSw);go_simp;try with_reducible rfl);try simp only[Act.put,zzA,zzB,zzC,zzD,zzE,zzF];refine zzT 7 31 ?_ rfl (by kernel_rfl) (fun _ _ _ h=>h) (.inl ⟨by rfl,?_⟩) ‹_› ?_;rotate_left;(intro w hSw;(try dsimp only at hSw);go_simp;try with_reducible rfl);try simp only[Act.put,zzA,zzB,zzC,zzD,zzE,zzF];refine zzT 6 32 ?_ rfl (by kernel_rfl) (fun _ _ _ h=>h) (.inl ⟨by rfl,?_⟩) ‹_› ?_;rotate_left;(intro w hSw;(try dsimp only at hSw);go_simp;try with_reducible rfl);try simp only[Act.put,zzA,zzB,zzC,zzD,zzE,zzF];refine zzT 5 33 ?_ rfl (by kernel_rfl) (fun _ _ _ h=>h) (.inl ⟨by rfl,?_⟩) ‹_› ?_;rotate_left;(intro w hSw;(try dsimp only at hSw);go_simp;try with_reducible rfl);try simp only[Act.put,zzA,zzB,zzC,zzD,zzE,zzF];refine zzT 4 34 ?_ rfl (by kernel_rfl) (fun _ _ _ h=>h) (.inl ⟨by rfl,?_⟩) ‹_› ?_;rotate_left;(intro w hSw;(try dsimp only at hSw);go_simp;try with_reducible rfl);try simp only[Act.put,zzA,zzB,zzC,zzD,zzE,zzF];refine zzT 3 35 ?_ rfl (by kernel_rfl) (fun _ _ _ h=>h) (.inl ⟨by rfl,?_⟩) ‹_› ?_;rotate_left;(intro w hSw;(try dsimp only at hSw);go_simp;try with_reducible rfl);try simp only[Act.put,zzA,zzB,zzC,zzD,zzE,zzF];refine zzT 2 36 ?_ rfl (by kernel_rfl) (fun _ _ _ h=>h) (.inl ⟨by rfl,?_⟩) ‹_› ?_;rotate_left;(intro w hSw;(try dsimp only at hSw);go_simp;try with_reducible rfl);try simp only[Act.put,zzA,zzB,zzC,zzD,zzE,zzF];refine zzT 1 37 ?_ rfl (by kernel_rfl) (fun _ _ _ h=>h) (.inl ⟨by rfl,?_⟩) ‹_› ?_;rotate_left;(intro w hSw;(try dsimp only at hSw);go_simp;try with_reducible rfl);try simp only[Act.put,zzA,zzB,zzC,zzD,zzE,zzF];refine zzT 0 38 ?_ rfl (by kernel_rfl) (fun _ _ _ h=>h) (.inl ⟨by rfl,?_⟩) ‹_› ?_;rotate_left;(intro w hSw;(try dsimp only at hSw);go_simp;try with_reducible rfl);try simp only[Act.put,zzA,zzB,zzC,zzD,zzE,zzF];refine Go.wpAnyH_done (by kernel_rfl) ?_ _;have hbw:=hbg.trans ((hbh.mono hbg.size).trans (hbi.mono (Nat.le_trans hbg.size hbh.size)));have hkw:=hkf.trans (KW.below hbw);have hzw:=Nat.le_trans hzf hbw.size;go_wp2
     go_meet
     refine⟨(dt != rt),Af,mf,cf,Lf,rfl,HMi,hmf,hid hkw,hzw,HTf,hid ⟨fun _=>HBf.out.1 (by simp),fun h=> ?_⟩⟩;have hxm:=top_in HMf.out.heap.len (HBf.out.1 (by simp)).1;rw[hg0] at hxm;have hfx:=(HBf.out.1 (by simp)).2;rw[hg0] at hfx;exact HSTOP.out Lf (a,b,x) HTf.out HMf.out.hp hxm hg0 hfx (top_ge HTf.out HMf.out.heap.len (HBf.out.1 (by simp)) hg0 HK.out) (by simpa using h)
   ·have HF:=hid hF
    have hnil:∀(L':List Sp),Thin D R L L'->L'=[]->Fx n l s t D:=fun L' h1 h2=>by
     have hp':=HP.out.thin h1.sub h1.kept;rw[h2] at hp';exact hp'.none (by omega) (by omega)
    have HNIL:=hid hnil;clear hF hnil;refine Go.wp_region_held_drew (S:=(fun w'=>w'.cell? ⟨P,5,none⟩=some (.int .i64 t)/\w'.cell? ⟨P,6,none⟩=some (.slice (some ⟨SC,0,none⟩) n cC)/\w'.cell? ⟨P,7,none⟩=some (.slice (some ⟨SL,0,none⟩) n cL)/\w'.cell? ⟨P,8,none⟩=some (.pointer (some ⟨H,0,none⟩))/\w'.cell? ⟨SC,t,none⟩=some (.int .i64 dt)/\w'.cell? ⟨SL,t,none⟩=some (.int .i64 rt))) (by kernel_rfl) s0 (fun hHeld=> ?_);refine zzT 38 0 ?_ rfl (by kernel_rfl) (fun _ _ _ h=>h) (.inl ⟨by rfl,?_⟩) ‹_› ?_;rotate_left;(intro w hSw;(try dsimp only at hSw);go_simp;try with_reducible rfl);try simp only[Act.put,zzA,zzB,zzC,zzD,zzE,zzF];refine Go.wpAnyH_ready (fuel:=37) (rs:=[1]) (by kernel_rfl) (by simp) ?_;refine Go.AllReadyH.cons (o:=_) rfl (fun K hK=> ?_) Go.AllReadyH.nil;have HKX:=hid hK;clear hK;go_simp;go_at_call 82;refine KFR.out.mono ?_;rintro e wf ⟨b,Af,mf,cf,Lf,rfl,HMf,hmf,hkf,hzf,HTf,HBf⟩;have s1:=HSIX.out _ _ _ _ _ HMf.out;obtain rfl:=top_none HTf.out HMf.out.heap.len HBf.out HF.out;refine HKX.out.out _ _ s1 (fun hHeld=> ?_);clear HKX
    try simp only[Act.put,zzA,zzB,zzC,zzD,zzE,zzF]
    refine zzT 36 2 ?_ rfl (by kernel_rfl) (fun _ _ _ h=>h) (.inl ⟨by rfl,?_⟩) ‹_› ?_;rotate_left;(intro w hSw;(try dsimp only at hSw);go_simp;try with_reducible rfl);try simp only[Act.put,zzA,zzB,zzC,zzD,zzE,zzF];refine zzT 35 3 undef rfl (by kernel_rfl) (fun _ _ _ h=>h) (.inr ⟨by rfl,rfl⟩) ‹_› ?_
    try simp only[Act.put,zzA,zzB,zzC,zzD,zzE,zzF]
    refine zzT 34 4 undef rfl (by kernel_rfl) (fun _ _ _ h=>h) (.inr ⟨by rfl,rfl⟩) ‹_› ?_
    try simp only[Act.put,zzA,zzB,zzC,zzD,zzE,zzF]
    refine zzT 33 5 undef rfl (by kernel_rfl) (fun _ _ _ h=>h) (.inr ⟨by rfl,rfl⟩) ‹_› ?_
    try simp only[Act.put,zzA,zzB,zzC,zzD,zzE,zzF]
    refine zzT 32 6 undef rfl (by kernel_rfl) (fun _ _ _ h=>h) (.inr ⟨by rfl,rfl⟩) ‹_› ?_
    try simp only[Act.put,zzA,zzB,zzC,zzD,zzE,zzF]
    refine zzT 31 7 undef rfl (by kernel_rfl) (fun _ _ _ h=>h) (.inr ⟨by rfl,rfl⟩) ‹_› ?_
    try simp only[Act.put,zzA,zzB,zzC,zzD,zzE,zzF]
    refine zzT 30 8 undef rfl (by kernel_rfl) (fun _ _ _ h=>h) (.inr ⟨by rfl,rfl⟩) ‹_› ?_
    try simp only[Act.put,zzA,zzB,zzC,zzD,zzE,zzF]
    refine zzT 29 9 undef rfl (by kernel_rfl) (fun _ _ _ h=>h) (.inr ⟨by rfl,rfl⟩) ‹_› ?_
    try simp only[Act.put,zzA,zzB,zzC,zzD,zzE,zzF]
    refine zzT 28 10 undef rfl (by kernel_rfl) (fun _ _ _ h=>h) (.inr ⟨by rfl,rfl⟩) ‹_› ?_
    try simp only[Act.put,zzA,zzB,zzC,zzD,zzE,zzF]
    refine zzT 27 11 undef rfl (by kernel_rfl) (fun _ _ _ h=>h) (.inr ⟨by rfl,rfl⟩) ‹_› ?_
    try simp only[Act.put,zzA,zzB,zzC,zzD,zzE,zzF]
    refine zzT 26 12 undef rfl (by kernel_rfl) (fun _ _ _ h=>h) (.inr ⟨by rfl,rfl⟩) ‹_› ?_
    try simp only[Act.put,zzA,zzB,zzC,zzD,zzE,zzF]
    refine zzT 25 13 undef rfl (by kernel_rfl) (fun _ _ _ h=>h) (.inr ⟨by rfl,rfl⟩) ‹_› ?_
    try simp only[Act.put,zzA,zzB,zzC,zzD,zzE,zzF]
    refine zzT 24 14 undef rfl (by kernel_rfl) (fun _ _ _ h=>h) (.inr ⟨by rfl,rfl⟩) ‹_› ?_
    try simp only[Act.put,zzA,zzB,zzC,zzD,zzE,zzF]
    refine zzT 23 15 undef rfl (by kernel_rfl) (fun _ _ _ h=>h) (.inr ⟨by rfl,rfl⟩) ‹_› ?_
    try simp only[Act.put,zzA,zzB,zzC,zzD,zzE,zzF]
    refine zzT 22 16 undef rfl (by kernel_rfl) (fun _ _ _ h=>h) (.inr ⟨by rfl,rfl⟩) ‹_› ?_
    try simp only[Act.put,zzA,zzB,zzC,zzD,zzE,zzF]
    refine zzT 21 17 undef rfl (by kernel_rfl) (fun _ _ _ h=>h) (.inr ⟨by rfl,rfl⟩) ‹_› ?_
    try simp only[Act.put,zzA,zzB,zzC,zzD,zzE,zzF]
    refine zzT 20 18 undef rfl (by kernel_rfl) (fun _ _ _ h=>h) (.inr ⟨by rfl,rfl⟩) ‹_› ?_
    try simp only[Act.put,zzA,zzB,zzC,zzD,zzE,zzF]
    refine zzT 19 19 undef rfl (by kernel_rfl) (fun _ _ _ h=>h) (.inr ⟨by rfl,rfl⟩) ‹_› ?_
    try simp only[Act.put,zzA,zzB,zzC,zzD,zzE,zzF]
    refine zzT 18 20 undef rfl (by kernel_rfl) (fun _ _ _ h=>h) (.inr ⟨by rfl,rfl⟩) ‹_› ?_
    try simp only[Act.put,zzA,zzB,zzC,zzD,zzE,zzF]
    refine zzT 17 21 undef rfl (by kernel_rfl) (fun _ _ _ h=>h) (.inr ⟨by rfl,rfl⟩) ‹_› ?_
    try simp only[Act.put,zzA,zzB,zzC,zzD,zzE,zzF]
    refine zzT 16 22 undef rfl (by kernel_rfl) (fun _ _ _ h=>h) (.inr ⟨by rfl,rfl⟩) ‹_› ?_
    try simp only[Act.put,zzA,zzB,zzC,zzD,zzE,zzF]
    refine zzT 15 23 undef rfl (by kernel_rfl) (fun _ _ _ h=>h) (.inr ⟨by rfl,rfl⟩) ‹_› ?_
    try simp only[Act.put,zzA,zzB,zzC,zzD,zzE,zzF]
    refine zzT 14 24 undef rfl (by kernel_rfl) (fun _ _ _ h=>h) (.inr ⟨by rfl,rfl⟩) ‹_› ?_
    try simp only[Act.put,zzA,zzB,zzC,zzD,zzE,zzF]
    refine zzT 13 25 undef rfl (by kernel_rfl) (fun _ _ _ h=>h) (.inr ⟨by rfl,rfl⟩) ‹_› ?_
    try simp only[Act.put,zzA,zzB,zzC,zzD,zzE,zzF]
    refine zzT 12 26 undef rfl (by kernel_rfl) (fun _ _ _ h=>h) (.inr ⟨by rfl,rfl⟩) ‹_› ?_
    try simp only[Act.put,zzA,zzB,zzC,zzD,zzE,zzF]
    refine zzT 11 27 undef rfl (by kernel_rfl) (fun _ _ _ h=>h) (.inr ⟨by rfl,rfl⟩) ‹_› ?_
    try simp only[Act.put,zzA,zzB,zzC,zzD,zzE,zzF]
    refine zzT 10 28 undef rfl (by kernel_rfl) (fun _ _ _ h=>h) (.inr ⟨by rfl,rfl⟩) ‹_› ?_
    try simp only[Act.put,zzA,zzB,zzC,zzD,zzE,zzF]
    refine zzT 9 29 undef rfl (by kernel_rfl) (fun _ _ _ h=>h) (.inr ⟨by rfl,rfl⟩) ‹_› ?_
    try simp only[Act.put,zzA,zzB,zzC,zzD,zzE,zzF]
    refine zzT 8 30 undef rfl (by kernel_rfl) (fun _ _ _ h=>h) (.inr ⟨by rfl,rfl⟩) ‹_› ?_
    try simp only[Act.put,zzA,zzB,zzC,zzD,zzE,zzF]
    refine zzT 7 31 undef rfl (by kernel_rfl) (fun _ _ _ h=>h) (.inr ⟨by rfl,rfl⟩) ‹_› ?_
    try simp only[Act.put,zzA,zzB,zzC,zzD,zzE,zzF]
    refine zzT 6 32 undef rfl (by kernel_rfl) (fun _ _ _ h=>h) (.inr ⟨by rfl,rfl⟩) ‹_› ?_
    try simp only[Act.put,zzA,zzB,zzC,zzD,zzE,zzF]
    refine zzT 5 33 undef rfl (by kernel_rfl) (fun _ _ _ h=>h) (.inr ⟨by rfl,rfl⟩) ‹_› ?_
    try simp only[Act.put,zzA,zzB,zzC,zzD,zzE,zzF]
    refine zzT 4 34 undef rfl (by kernel_rfl) (fun _ _ _ h=>h) (.inr ⟨by rfl,rfl⟩) ‹_› ?_
    try simp only[Act.put,zzA,zzB,zzC,zzD,zzE,zzF]
    refine zzT 3 35 undef rfl (by kernel_rfl) (fun _ _ _ h=>h) (.inr ⟨by rfl,rfl⟩) ‹_› ?_
    try simp only[Act.put,zzA,zzB,zzC,zzD,zzE,zzF]
    refine zzT 2 36 undef rfl (by kernel_rfl) (fun _ _ _ h=>h) (.inr ⟨by rfl,rfl⟩) ‹_› ?_
    try simp only[Act.put,zzA,zzB,zzC,zzD,zzE,zzF]
    refine zzT 1 37 undef rfl (by kernel_rfl) (fun _ _ _ h=>h) (.inr ⟨by rfl,rfl⟩) ‹_› ?_
    try simp only[Act.put,zzA,zzB,zzC,zzD,zzE,zzF]
    refine zzT 0 38 ?_ rfl (by kernel_rfl) (fun _ _ _ h=>h) (.inl ⟨by rfl,?_⟩) ‹_› ?_;rotate_left;(intro w hSw;(try dsimp only at hSw);go_simp;try with_reducible rfl);try simp only[Act.put,zzA,zzB,zzC,zzD,zzE,zzF];refine Go.wpAnyH_done (by kernel_rfl) ?_ _;go_wp2
    go_meet
    exact⟨false,Af,mf,cf,Lf,rfl,HMf,hmf,hid hkf,hzf,HTf,hid ⟨fun h=>(nomatch h),fun _=>HNIL.out _ HTf.out (HBf.out.2 (by simp))⟩⟩
  case rest =>
   obtain⟨bb,A1,m1,c1,L1,rfl,HM1,hm1,HK1,hz1,HT1,HB1⟩:=hcut;have hp1:=HP.out.thin HT1.out.sub HT1.out.kept;have HP1:=hid hp1;have hwkc:=wkc_eq HM.out;have HWK:=hid hwkc;clear hp1 hwkc KFR KKY HSIX HSTOP s0 z5 z6 z7 z8 zp;cases bb with
   |false =>
    have hfx:=HB1.out.2 (by simp);have hpost:SettleSays w0 n s t P M AE cE TI TO FI FO SC cC SL cL H l D R Aw mw cw L wk w (.returned (.tuple #[])) wc:=⟨⟨_,rfl⟩,D,R,A1,m1,c1,L1,wn,HM1,HR,HP1,hid hfx,⟨by omega,by omega⟩,by omega,HKW.out.trans HK1.out,Nat.le_trans hz hz1⟩;have HPOST:=hid hpost;clear hfx hpost;go_wp2;exact bodyPost_end (v:= .tuple #[]) (by simp[results,Tryz.results48,go_sem]) rfl HPOST.out
   |true =>
    obtain⟨k1,rfl⟩:∃k,m1=k+1:=⟨m1 - 1,by have:=(HB1.out.1 (by simp)).1;omega⟩;obtain⟨_,_,_,_,_,_,_,_,z8,_,_,zp⟩:=HM1.out.zs;have kpop:=HeapS.pop_any ltP ltP_ord HeapS.less_any w0.heap.size H A1 k1 c1 L1 wc HM1.out.heap HM1.out.hp (by omega) HM1.out.lo.size;have KPOP:=hid kpop;clear kpop
    go_wp2_with fail
    refine KPOP.out.mono ?_;rintro e w2 ⟨p,pm,pq,L2,rfl,hg2,hh2,hpm2,hhp2,hkp2⟩;have hfr:=(HB1.out.1 (by simp)).2;have hxm:=top_in HM1.out.heap.len (Nat.succ_pos k1);have hmin:=fun (y:Sp) (hy:y∈L1)=>HM1.out.hp.top_mem ltP_ord y hy;rw[hg2] at hfr hxm hmin;obtain⟨v0,v1⟩:=HP1.out.ids _ hxm;simp only at v0 v1;obtain⟨v,rfl⟩:=Int.eq_ofNat_of_zero_le v0;have hvn:v<n:=by omega
    have hne:dg D (v:Int)≠dg R (v:Int):=hfr.1;have hlk:=HP1.out.look (v:=(v:Int)) v0 v1;have hmn:=HP1.out.min_ hfr (fun y hy=>by rw[ltS_ltP];exact hmin y hy);simp only at hmn;have hL:∀y∈L1,y=(p,pm,(v:Int))\/y∈L2:=fun y hy=>List.mem_cons.1 (hpm2.symm.subset hy);have hs2:∀y∈L2,y∈L1:=fun y hy=>hpm2.subset (List.mem_cons_of_mem _ hy);obtain⟨w5n,hw5⟩:∃w5n,w5n=wn+1:=⟨_,rfl⟩;have hm2:=(HM1.out.kp hkp2 hh2 hhp2);have hkw2:=HK1.out.trans (KW.kp HM1.out.heap hkp2);have hz2:=Nat.le_trans hz1 hkp2.size;have hcast:((w5n:Nat):Int)=(wn:Int)+1:=by omega
    have hm3:LM w0 (w2.setCell ⟨P,9,none⟩ (.int .i64 ((wn:Int)+1))) n s t P M AE cE TI TO FI FO SC cC SL cL H l D R A1 k1 c1 L2 (((w5n:Nat):Int)):=by rw[hcast];exact hm2.setW ((wn:Int)+1)
    have hkw3:=hkw2.trans (hm2.kw_setW (.int .i64 ((wn:Int)+1)));obtain⟨_,_,_,_,_,_,z6,z7,_,z9,z9f,zp2⟩:=hm2.zs;obtain⟨c1v,c2v,f1v,_,zc,zl⟩:=hm2.cells hvn;have ww:IntKind.i64.wrap ((wn:Int)+1)=(wn:Int)+1:=IntWalk.i64_in _ (by omega);have zv:(v:Int)<(n:Int):=by omega
    have hfd:∀w:World,(Instr.field 103 (.agg #[.int .i64 p,.int .i64 pm,.int .i64 (v:Int)]) 2).run Tryz.prog w= .ok (.int .i64 (v:Int)) w:=fun _=>by kernel_rfl
    have n1:=blk_ne hm2.z (own_blk hm2.cost).choose_spec (by decide);have n2:=blk_ne hm2.z (own_blk hm2.look).choose_spec (by decide);have HM3:=hid hm3;have HK3:=hid hkw3;have HW5:=hid hw5;have hrv:=HR.out.rg (v:Int) v0 v1;have hrr:0<=dg R (v:Int)/\dg R (v:Int)<=far:=by rw[hlk];exact⟨lkv_lo HG.out HR.out v0,lkv_far ..⟩
    have hzs:w2.heap.size=(w2.setCell ⟨P,9,none⟩ (.int .i64 ((wn:Int)+1))).heap.size:=by simp[World.setCell]
    clear hm2 hkw2 hm3 hkw3 hcast hw5 hh2 hpm2 hhp2 hkp2 hg2 hxm hmin KPOP z8 zp hfr
    by_cases hgt:dg R (v:Int)<dg D (v:Int)
    ·obtain⟨D',hD'⟩:∃D',D'=D.set v (dg R (v:Int)):=⟨_,rfl⟩
     have emin:min (dg D (v:Int)) (dg R (v:Int))=dg R (v:Int):=by omega
     rw[emin] at hmn;have hri5:=HRI.out.over HG.out HR.out v0 v1 hlk.symm hgt hmn;clear emin;have hr5:=HR.out.set v0 v1 hrr;have hp5:=HP1.out.pop (x:=(p,pm,(v:Int))) (pend:=fun u=>∃i,i<l.length/\fr l i=(v:Int)/\en l i=u) HG.out HR.out v0 v1 hL hs2 (c:=dg R (v:Int)) (fun i hi hf=>⟨i,hi,hf,rfl⟩) (fun _=>rfl);simp only[Int.toNat_natCast] at hri5 hr5 hp5;have hwn':w5n=((v:Int)::O).length+U.length:=by have:=HWN.out;have:=HW5.out;rw[List.length_cons];omega
     rw[<-hD'] at hri5 hr5 hp5;have hwn5:=hid hwn';have HRI5:=hid hri5;have HR5:=hid hr5;have HP5:=hid hp5;have hgd:dg D (v:Int) > dg R (v:Int):=hgt;clear hri5 hr5 hp5 hwn' hmn hlk hne hgt hL hs2 hrv hrr;obtain⟨dv,hdv⟩:∃dv,dg D (v:Int)=dv:=⟨_,rfl⟩;obtain⟨rv,hrv2⟩:∃rv,dg R (v:Int)=rv:=⟨_,rfl⟩;rw[hdv] at c1v hgd;rw[hrv2] at c2v hgd HRI5 hD';have HD5:=hid hD';clear hD';obtain⟨K',hK'⟩:∃K',K'=rv:=⟨_,rfl⟩;rw[<-hK'] at HRI5;obtain⟨O',hO'⟩:∃O',O'=(v:Int)::O:=⟨_,rfl⟩;rw[<-hO'] at HRI5 hwn5;obtain⟨U',hU'⟩:∃U',U'=U:=⟨_,rfl⟩;rw[<-hU'] at HRI5 hwn5;clear hK' hO' hU';go_upto_region 4 with fail;go_quiet (fail);have hb4:Below (w2.setCell ⟨P,9,none⟩ (.int .i64 ((wn:Int)+1))).heap.size (w2.setCell ⟨P,9,none⟩ (.int .i64 ((wn:Int)+1))) ((w2.setCell ⟨P,9,none⟩ (.int .i64 ((wn:Int)+1))).drewN nq):=below_drewN (Below.refl _ _) nq;have hm4:=HM3.out.keep hb4;have hkw4:=HK3.out.trans (KW.below hb4);have hz4:wr.heap.size<=((w2.setCell ⟨P,9,none⟩ (.int .i64 ((wn:Int)+1))).drewN nq).heap.size:=by rw[<-hzs] at hb4;have:=hb4.size;omega
     clear hb4 z6 z7 z9 z9f zp2 c1v c2v f1v zc zl n1 n2 HM3 HK3 hzs;generalize (w2.setCell ⟨P,9,none⟩ (.int .i64 ((wn:Int)+1))).drewN nq=w4 at hm4 hkw4 hz4 ⊢;obtain⟨_,_,_,_,_,_,z6,z7,_,_,_,zp⟩:=hm4.zs;obtain⟨c1v,c2v,f1v,_,zc,zl⟩:=hm4.cells hvn;rw[hdv] at c1v;rw[hrv2] at c2v;have hm5:=hm4.drew.setC v rv;have hm5b:=(hm4.setC v rv).drew;rw[<-HD5.out] at hm5 hm5b;have hkw5:=(hkw4.trans (KW.below (Below.refl w4.heap.size w4).drew)).trans (hm4.drew.kw_setC v (.int .i64 rv));have HM5a:=hid hm5;have HM5b:=hid hm5b;have HK5a:=hid hkw5;clear hm4 hm5 hm5b hkw4 hkw5 hdv hrv2;go_upto_region 5 with fail
     go_region
     have hkw5:KW wr ((w4.setCell ⟨SC,v,none⟩ (.int .i64 rv)).drew):=HK5a.out;have hz5:wr.heap.size<=((w4.setCell ⟨SC,v,none⟩ (.int .i64 rv)).drew).heap.size:=by simpa [World.setCell] using hz4
     have hm5:=HM5b.out;clear HM5a HM5b HK5a z6 z7 zp c1v c2v f1v zc zl hz4;generalize (w4.setCell ⟨SC,v,none⟩ (.int .i64 rv)).drew=w5 at hm5 hkw5 hz5 ⊢;have HM5:=hid hm5;have HK5:=hid hkw5;clear hm5 hkw5;have hm5w:=HM5.out.zs;obtain⟨_,y1,_,y3,_,_,_,_,_,_,_,yp⟩:=HM5.out.zs;obtain⟨tc,_⟩:=HM5.out.tabO.cell hvn;have htl:=HM5.out.tabO.lt;have hown:=HM5.out.tabO.own v hvn;have hjl:(ol l M v).length<=600:=Nat.le_trans (ol_len _ _ _) (by rw[<-HM5.out.ll];exact HG.out.len);have hids:∀j∈ol l M v,∃i,i<M/\j=(i:Int)/\fr l i=v:=fun j hj=>(ol_mem _ _ _ _).1 hj;have hall:∀i,i<l.length->fr l i=v->(i:Int)∈ol l M v:=fun i hi hf=>(ol_mem _ _ _ _).2 ⟨i,by rw[<-HM5.out.ll];exact hi,rfl,hf⟩;have hpi5:PI n l s D' R L2 (fun u=>∃j∈(ol l M v).drop 0,en l j.toNat=u):=HP5.out.mono fun u _ _ ⟨i,hi,hf,he⟩=>⟨(i:Int),hall i hi hf,by rw[Int.toNat_natCast];exact he⟩;have hj:=fun (W:World) (R':List Int) (A':Option Addr) (m' c':Nat) (L':List Sp) (h:LM w0 W n s t P M AE cE TI TO FI FO SC cC SL cL H l D' R' A' m' c' L' w5n)=>h.tabO.own v hvn;generalize ol l M v=js at tc hown hjl hids hpi5 hj;obtain⟨Ao,co,hFo⟩:∃Ao co,FO v=(Ao,co):=⟨_,_,rfl⟩;simp only[hFo] at tc hown hj;have HJ:=hid hj;clear hj;have HO:=hid hown;have HI:=hid hids;have HP0:=hid hpi5;clear hown hids hpi5 hall hFo hm5w;go_wp2
     go_loopw [105] (fun i wq=>∃k:Nat,k<=js.length/\i= .int .i64 k/\∃R6 A6 m6 c6 L6,Hid (LM w0 wq n s t P M AE cE TI TO FI FO SC cC SL cL H l D' R6 A6 m6 c6 L6 w5n)/\m6<=k1+k/\Hid (PI n l s D' R6 L6 (fun u=>∃j∈js.drop k,en l j.toNat=u))/\Hid (KW wr wq)/\w5.heap.size<=wq.heap.size/\Hid (Own wq w0.heap.size 3 1 ci (.slice Ao js.length co) js)) (fun i _=>js.length - (intOf i).toNat)
     case atStart=>exact⟨0,Nat.zero_le _,rfl,R,A1,k1,c1,L2,HM5,Nat.le_refl _,HP0,HK5,Nat.le_refl _,HO⟩
     case round =>
      obtain⟨k,hk,rfl,R6,A6,m6,c6,L6,HM6,hm6,HP6,HK6,hz6,HO6⟩:=hrel;clear y1 y3 yp tc htl HO HP0;obtain⟨_,y1,_,_,_,_,_,_,_,_,_,yp⟩:=HM6.out.zs
      by_cases hlt:k<js.length
      ·have hjs:=HI.out _ (List.getElem_mem hlt)
       obtain⟨bb,off,rfl,hbb,hx⟩:=HO6.out.sl.2.atI hlt;have hdr:js.drop k=js[k]::js.drop (k+1):=List.drop_eq_getElem_cons hlt;generalize js[k]=jk at hjs hx hdr;obtain⟨i,hi,rfl,hfi⟩:=hjs;have hil:i<l.length:=by rw[HM6.out.ll];exact hi
       obtain⟨S,f,t',cc,rfl,hS0,hS1,he,hcf,hct,hcc,g0,g1,g2⟩:=own_atE HM6.out.ll HM6.out.net hil;have he2:ed l i=(f,t',cc):=by rw[ed_at hil];exact he
       have e1:en l i=t':=by unfold en;rw[he2]
       have hends:=(HG.out.ends i hil).2;rw[e1] at hends;obtain⟨u,rfl⟩:=Int.eq_ofNat_of_zero_le hends.1;have hun:u<n:=by omega
       have kmd:=mend_any HM6.out HG.out HR5.out hun (by omega)
       have hpst:∀R' L',(∀pend pend':Int->Prop,PI n l s D' R6 L6 pend->(∀z:Int,pend z->z=(u:Int)\/pend' z)->PI n l s D' R' L' pend')->PI n l s D' R' L' (fun z=>∃j∈js.drop (k+1),en l j.toNat=z):=fun R' L' hst=>hst _ _ HP6.out fun z hz=>by
        obtain⟨j,hj,hej⟩:=hz;rw[hdr] at hj;rcases List.mem_cons.1 hj with rfl|hj
        ·rw[Int.toNat_natCast,e1] at hej;exact .inl hej.symm
        ·exact .inr ⟨j,hj,hej⟩
       have KMD:=hid kmd;have HPST:=hid hpst;have zi:(i:Int)<(M:Int):=by omega
       clear hdr kmd hpst hends he he2 e1 hfi hil hi
       go_wp2_with fail
       refine KMD.out.mono ?_;rintro e w8 ⟨⟨r8,rfl⟩,R7,A7,m7,c7,L7,HM7,hm7,hk7,hz7,HS7⟩;have hpi7:=HPST.out _ _ HS7.out;have hkk:=HK6.out.trans hk7;have hown7:=HM7.out.tabO.own v hvn;have HP7:=hid hpi7;have HK7:=hid hkk;have hz8:w5.heap.size<=w8.heap.size:=Nat.le_trans hz6 hz7;have ho7:=HJ.out _ _ _ _ _ _ HM7.out;have HO7:=hid ho7;clear hpi7 hkk hown7 hk7 hz7 ho7;go_wp2
       go_roundw
       case rel=>exact⟨k+1,by omega,by go_num,R7,A7,m7,c7,L7,HM7,by omega,HP7,HK7,hz8,HO7⟩
       case measure=>simp[intOf];omega
      ·obtain rfl:k=js.length:=by omega
       have hpf:PI n l s D' R6 L6 (fun _=>False):=HP6.out.mono fun u _ _ ⟨j,hj,_⟩=>by simp at hj
       have HPF:=hid hpf;clear hpf
       have hmea:(2*n - w5n<2*n - wn/\m6<=mw+601*w5n/\w.heap.size<=wr.heap.size):=by
        have hw5:=HW5.out;have hwk5:=HRI5.out.work;have hwn6:=hwn5.out;exact⟨by omega,by omega,by omega⟩
       have HMEA:=hid hmea;clear hmea;go_wp2
       go_roundw
       case rel=>exact⟨D',R6,A6,m6,c6,L6,K',O',U',w5n,HM6,HR5,HPF,HRI5,hwn5,HMEA.out.2.1,hid (HKW.out.trans HK6.out),HMEA.out.2.2⟩
       case measure =>
        rw[wkc_eq HM6.out,HWK.out];exact HMEA.out.1
    ·have hlt:dg D (v:Int)<dg R (v:Int):=by omega
     have hvs:(v:Int)≠(s:Int):=fun e=>by
      rw[hlk,e,lkv_s, <-e] at hlt;omega
     obtain⟨D',hD'⟩:∃D',D'=D.set v far:=⟨_,rfl⟩;have emin:min (dg D (v:Int)) (dg R (v:Int))=dg D (v:Int):=by omega
     rw[emin] at hmn;have hri5:=HRI.out.under HG.out HR.out v0 v1 rfl (by rw[<-hlk];exact hlt) hmn;clear emin;have hr5:=HR.out.set v0 v1 (x:=far) ⟨by decide,Int.le_refl _⟩;have hp5:=HP1.out.pop (x:=(p,pm,(v:Int))) (pend:=fun u=>u=(v:Int)\/∃i,i<l.length/\fr l i=(v:Int)/\en l i=u) HG.out HR.out v0 v1 hL hs2 (c:=far) (fun i hi hf=> .inr ⟨i,hi,hf,rfl⟩) (fun h=>h.elim (fun e=>absurd e hvs) (fun h=>absurd (.inl rfl) h));simp only[Int.toNat_natCast] at hri5 hr5 hp5;have hwn':w5n=O.length+((v:Int)::U).length:=by have:=HWN.out;have:=HW5.out;rw[List.length_cons];omega
     rw[<-hD'] at hri5 hr5 hp5;have hwn5:=hid hwn';have HRI5:=hid hri5;have HR5:=hid hr5;have HPP:=hid hp5;have hgd:¬dg D (v:Int) > dg R (v:Int):=by omega
     clear hri5 hr5 hp5 hwn' hmn hlk hne hgt hL hs2 hrv hrr hlt hvs;obtain⟨dv,hdv⟩:∃dv,dg D (v:Int)=dv:=⟨_,rfl⟩;obtain⟨rv,hrv2⟩:∃rv,dg R (v:Int)=rv:=⟨_,rfl⟩;rw[hdv] at c1v hgd HRI5;rw[hrv2] at c2v hgd;have HD5:=hid hD';clear hD';obtain⟨K',hK'⟩:∃K',K'=dv:=⟨_,rfl⟩;rw[<-hK'] at HRI5;obtain⟨O',hO'⟩:∃O',O'=O:=⟨_,rfl⟩;rw[<-hO'] at HRI5 hwn5;obtain⟨U',hU'⟩:∃U',U'=(v:Int)::U:=⟨_,rfl⟩;rw[<-hU'] at HRI5 hwn5;clear hK' hO' hU';go_upto_region 4 with fail;go_quiet (fail);have hb4:Below (w2.setCell ⟨P,9,none⟩ (.int .i64 ((wn:Int)+1))).heap.size (w2.setCell ⟨P,9,none⟩ (.int .i64 ((wn:Int)+1))) ((w2.setCell ⟨P,9,none⟩ (.int .i64 ((wn:Int)+1))).drewN nq):=below_drewN (Below.refl _ _) nq;have hm4:=HM3.out.keep hb4;have hkw4:=HK3.out.trans (KW.below hb4);have hz4:wr.heap.size<=((w2.setCell ⟨P,9,none⟩ (.int .i64 ((wn:Int)+1))).drewN nq).heap.size:=by rw[<-hzs] at hb4;have:=hb4.size;omega
     clear hb4 z6 z7 z9 z9f zp2 c1v c2v f1v zc zl n1 n2 HM3 HK3 hzs;generalize (w2.setCell ⟨P,9,none⟩ (.int .i64 ((wn:Int)+1))).drewN nq=w4 at hm4 hkw4 hz4 ⊢;obtain⟨_,_,_,_,_,_,z6,z7,_,_,_,zp⟩:=hm4.zs;obtain⟨c1v,c2v,f1v,_,zc,zl⟩:=hm4.cells hvn;rw[hdv] at c1v;rw[hrv2] at c2v;have hm4':=hm4.setC v far;rw[<-HD5.out] at hm4';have hkw4':=hkw4.trans (hm4.kw_setC v (.int .i64 far));have hz4':wr.heap.size<=(w4.setCell ⟨SC,v,none⟩ (.int .i64 far)).heap.size:=by simpa [World.setCell] using hz4
     have kmd:=mend_any hm4' HG.out HR5.out hvn (by omega);have hfarv:far=1099511627776:=rfl;rw[hfarv] at kmd hkw4' hz4';have KMD:=hid kmd;have HK4:=hid hkw4';clear hm4 hm4' hkw4 hkw4' kmd hfarv hdv hrv2 hz4
     go_wp2_with fail
     refine KMD.out.mono ?_;rintro e w5 ⟨⟨r5,rfl⟩,R5,A5,m5,c5,L5,HM5,hm5,hk5,hzz5,HS5⟩;have hp6:=HS5.out _ (fun u=>∃i,i<l.length/\fr l i=(v:Int)/\en l i=u) HPP.out (fun u hu=>hu);have hkw5:=HK4.out.trans hk5;have hz5:wr.heap.size<=w5.heap.size:=Nat.le_trans hz4' hzz5;have HP5:=hid hp6;have HK5:=hid hkw5;clear hp6 hkw5 hk5 hzz5 hz4' KMD HK4 z6 z7 zp c1v c2v f1v zc zl HS5;have hm5w:=HM5.out.zs;obtain⟨_,y1,_,y3,_,_,_,_,_,_,_,yp⟩:=HM5.out.zs;obtain⟨tc,_⟩:=HM5.out.tabO.cell hvn;have htl:=HM5.out.tabO.lt;have hown:=HM5.out.tabO.own v hvn;have hjl:(ol l M v).length<=600:=Nat.le_trans (ol_len _ _ _) (by rw[<-HM5.out.ll];exact HG.out.len);have hids:∀j∈ol l M v,∃i,i<M/\j=(i:Int)/\fr l i=v:=fun j hj=>(ol_mem _ _ _ _).1 hj;have hall:∀i,i<l.length->fr l i=v->(i:Int)∈ol l M v:=fun i hi hf=>(ol_mem _ _ _ _).2 ⟨i,by rw[<-HM5.out.ll];exact hi,rfl,hf⟩;have hpi5:PI n l s D' R5 L5 (fun u=>∃j∈(ol l M v).drop 0,en l j.toNat=u):=HP5.out.mono fun u _ _ ⟨i,hi,hf,he⟩=>⟨(i:Int),hall i hi hf,by rw[Int.toNat_natCast];exact he⟩;have hj:=fun (W:World) (R':List Int) (A':Option Addr) (m' c':Nat) (L':List Sp) (h:LM w0 W n s t P M AE cE TI TO FI FO SC cC SL cL H l D' R' A' m' c' L' w5n)=>h.tabO.own v hvn;generalize ol l M v=js at tc hown hjl hids hpi5 hj;obtain⟨Ao,co,hFo⟩:∃Ao co,FO v=(Ao,co):=⟨_,_,rfl⟩;simp only[hFo] at tc hown hj;have HJ:=hid hj;clear hj;have HO:=hid hown;have HI:=hid hids;have HP0:=hid hpi5;clear hown hids hpi5 hall hFo hm5w;go_wp2
     go_loopw [105] (fun i wq=>∃k:Nat,k<=js.length/\i= .int .i64 k/\∃R6 A6 m6 c6 L6,Hid (LM w0 wq n s t P M AE cE TI TO FI FO SC cC SL cL H l D' R6 A6 m6 c6 L6 w5n)/\m6<=m5+k/\Hid (PI n l s D' R6 L6 (fun u=>∃j∈js.drop k,en l j.toNat=u))/\Hid (KW wr wq)/\w5.heap.size<=wq.heap.size/\Hid (Own wq w0.heap.size 3 1 ci (.slice Ao js.length co) js)) (fun i _=>js.length - (intOf i).toNat)
     case atStart=>exact⟨0,Nat.zero_le _,rfl,R5,A5,m5,c5,L5,HM5,Nat.le_refl _,HP0,HK5,Nat.le_refl _,HO⟩
     case round =>
      obtain⟨k,hk,rfl,R6,A6,m6,c6,L6,HM6,hm6,HP6,HK6,hz6,HO6⟩:=hrel;clear y1 y3 yp tc htl HO HP0;obtain⟨_,y1,_,_,_,_,_,_,_,_,_,yp⟩:=HM6.out.zs
      by_cases hlt:k<js.length
      ·have hjs:=HI.out _ (List.getElem_mem hlt)
       obtain⟨bb,off,rfl,hbb,hx⟩:=HO6.out.sl.2.atI hlt;have hdr:js.drop k=js[k]::js.drop (k+1):=List.drop_eq_getElem_cons hlt;generalize js[k]=jk at hjs hx hdr;obtain⟨i,hi,rfl,hfi⟩:=hjs;have hil:i<l.length:=by rw[HM6.out.ll];exact hi
       obtain⟨S,f,t',cc,rfl,hS0,hS1,he,hcf,hct,hcc,g0,g1,g2⟩:=own_atE HM6.out.ll HM6.out.net hil;have he2:ed l i=(f,t',cc):=by rw[ed_at hil];exact he
       have e1:en l i=t':=by unfold en;rw[he2]
       have hends:=(HG.out.ends i hil).2;rw[e1] at hends;obtain⟨u,rfl⟩:=Int.eq_ofNat_of_zero_le hends.1;have hun:u<n:=by omega
       have kmd:=mend_any HM6.out HG.out HR5.out hun (by omega)
       have hpst:∀R' L',(∀pend pend':Int->Prop,PI n l s D' R6 L6 pend->(∀z:Int,pend z->z=(u:Int)\/pend' z)->PI n l s D' R' L' pend')->PI n l s D' R' L' (fun z=>∃j∈js.drop (k+1),en l j.toNat=z):=fun R' L' hst=>hst _ _ HP6.out fun z hz=>by
        obtain⟨j,hj,hej⟩:=hz;rw[hdr] at hj;rcases List.mem_cons.1 hj with rfl|hj
        ·rw[Int.toNat_natCast,e1] at hej;exact .inl hej.symm
        ·exact .inr ⟨j,hj,hej⟩
       have KMD:=hid kmd;have HPST:=hid hpst;have zi:(i:Int)<(M:Int):=by omega
       clear hdr kmd hpst hends he he2 e1 hfi hil hi
       go_wp2_with fail
       refine KMD.out.mono ?_;rintro e w8 ⟨⟨r8,rfl⟩,R7,A7,m7,c7,L7,HM7,hm7,hk7,hz7,HS7⟩;have hpi7:=HPST.out _ _ HS7.out;have hkk:=HK6.out.trans hk7;have hown7:=HM7.out.tabO.own v hvn;have HP7:=hid hpi7;have HK7:=hid hkk;have hz8:w5.heap.size<=w8.heap.size:=Nat.le_trans hz6 hz7;have ho7:=HJ.out _ _ _ _ _ _ HM7.out;have HO7:=hid ho7;clear hpi7 hkk hown7 hk7 hz7 ho7;go_wp2
       go_roundw
       case rel=>exact⟨k+1,by omega,by go_num,R7,A7,m7,c7,L7,HM7,by omega,HP7,HK7,hz8,HO7⟩
       case measure=>simp[intOf];omega
      ·obtain rfl:k=js.length:=by omega
       have hpf:PI n l s D' R6 L6 (fun _=>False):=HP6.out.mono fun u _ _ ⟨j,hj,_⟩=>by simp at hj
       have HPF:=hid hpf;clear hpf
       have hmea:(2*n - w5n<2*n - wn/\m6<=mw+601*w5n/\w.heap.size<=wr.heap.size):=by
        have hw5:=HW5.out;have hwk5:=HRI5.out.work;have hwn6:=hwn5.out;exact⟨by omega,by omega,by omega⟩
       have HMEA:=hid hmea;clear hmea;go_wp2
       go_roundw
       case rel=>exact⟨D',R6,A6,m6,c6,L6,K',O',U',w5n,HM6,HR5,HPF,HRI5,hwn5,HMEA.out.2.1,hid (HKW.out.trans HK6.out),HMEA.out.2.2⟩
       case measure =>
        rw[wkc_eq HM6.out,HWK.out];exact HMEA.out.1
end
end Life
end Go.Proofs.YtjebckehmmbkbaaGreat
