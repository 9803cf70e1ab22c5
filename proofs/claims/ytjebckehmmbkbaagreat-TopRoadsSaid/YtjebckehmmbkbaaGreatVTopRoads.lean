/- For every net, two places and marks: TopRoads answers true (by whatever road, from one place to another it costs the same: place by place, edge by edge, by heights, by what lies between, with guesses, by taste, by rounds, mended, and as the first of the best), and the arguments read as before. No condition. -/
import Derived.Test.YtjebckehmmbkbaaGreatRows
import Derived.Test.YtjebckehmmbkbaaGreatVTopFocal
import Derived.Test.YtjebckehmmbkbaaGreatVTopLife
set_option linter.unusedSimpArgs false
set_option linter.unusedVariables false
set_option maxRecDepth 100000
set_option maxHeartbeats 24000000
namespace Go.Proofs.YtjebckehmmbkbaaGreat
namespace TopRoadsLaw
open Go.ChangeShapes Go.WideShapes Go.ChangeAt Go.RowKit NetLaw BellLaw DijkLaw HeurLaw StarLaw Net Dijk DijkTwo Go.Proofs.YtjebckehmmbkbaaGreat.Std Heur StarF TopU
open TopC (Cs FC KC)
theorem walk (w:World) (N:Int) (A:Option Addr) (c:Nat) (l:List E) (hA:Arg w 3 ce A c l) (f:Int) (hf: -9223372036854775808<=f/\f<=9223372036854775807) (t:Int) (ht: -9223372036854775808<=t/\t<=9223372036854775807) (Am:Option Addr) (cm:Nat) (ms:List Int) (hAm:Arg w 1 ci Am cm ms) :
 Calls Tryz.prog 3 #[.agg #[.int .i64 N,.slice A l.length c],.int .i64 f,.int .i64 t,.slice Am ms.length cm] w fun e w'=>e= .returned (.bool true)/\Below w.heap.size w w':=by
 have hs:=hA.sl;have hnil:=hA.nil;have hll:l.length<=9223372036854775807:=Nat.le_trans hA.cap hA.max;have hw0:Below w.heap.size w (w.alloc (.cells #[.int .i64 N,.slice A l.length c] 24)):=(Below.refl _ _).alloc zzL _;have HB0:=hid (Below.refl (w.heap.size+1) (w.alloc (.cells #[.int .i64 N,.slice A l.length c] 24)));have hsm:=hAm.sl;have kof:=fun W h h'=>of_any N A c l Am cm ms ms.length rfl t W h h' hll (Nat.le_trans hAm.cap hAm.max);obtain⟨mk,hmk0⟩:∃mk,ms.length=mk:=⟨_,rfl⟩;rw[hmk0] at kof ⊢;clear hmk0;have KOF:=hid kof;have KDT:=hid (fun W h=>dist_t N A c l f hll W h);have KBEG:=hid (fun W'=>TopLaw.begun_any W')
 have HK:Hid (∀W,Below (w.heap.size+1) (w.alloc (.cells #[.int .i64 N,.slice A l.length c] 24)) W->W.cell? ⟨w.heap.size,0,none⟩=some (.int .i64 N)/\W.cell? ⟨w.heap.size,1,none⟩=some (.slice A l.length c)/\w.heap.size+1<=W.heap.size/\Sl W W.heap.size 3 ce A l/\Sl W W.heap.size 1 ci Am ms/\Below w.heap.size w W):=hid (fun W hW=>by
  obtain⟨cc,_⟩:=keepAt hW (Nat.lt_succ_self _);have q0:=cc 0;have q1:=cc 1;simp at q0 q1;have H:=hw0.trans (hW.mono (Nat.le_succ _));have hz:=hW.size;simp at hz;exact⟨q0,q1,hz,(hs.keep H zzL).more H.size,(hsm.keep H zzL).more H.size,H⟩)
 clear kof hf ht hA hAm hsm
 by_cases hd:Dijk.look N l [f]=0
 ·by_cases ho:OkM N l ms/\0<=t/\t<N
  ·obtain⟨n,f,t,rfl,rfl,rfl,hfn,htn,hg,hc,hlk,hof⟩:=of_good hd ho
   have hN2:=hg.hi;have hn64:n<=64:=by omega
   have kd:=fun W h=>dist_yes n A c l f hll hd W h;simp only[Int.toNat_natCast] at kd;have kb:=fun M (hM:Sh n f l M) W h=>bell_t n f t A c l hg hc hfn htn hll hM W h;have kj:=fun M (hM:Sh n f l M) W h=>john_t n f t A c l hnil hg hc hfn htn hll hM W h;have kf:=fun M (hM:Sh n f l M) W h=>floyd_t n f t A c l hg hc hfn htn hll hM W h;have ks:=fun M (hM:Sh n f l M) Ah ch hs (hx:slook n f t l hs=0) (hh:hs.length=n) W h h'=>TopC.star_c n f t A c l Ah ch hs W h h' hll (by omega) hx hM;have kw:=fun M (hM:Sh n f l M) Ah ch hs (hx:slook n f t l hs=0) (hh:hs.length=n) W h h'=>TopC.weigh_c n f t A c l Ah ch hs W h h' hll (by omega) hx hM;have kfo:=fun M (hM:Sh n f l M) Ah ch hs (hx:slook n f t l hs=0) (hh:hs.length=n) (hb:∀v:Nat,v<n->dg M v<far->dg hs v<far->dg M v+dg hs v<far) At W h h' h2=>TopC.focal_c n f t A c l Ah ch hs At n (List.replicate n 0) W h h' h2 hx (by simp) hM hb;have ka:=fun M (hM:Sh n f l M) Ah ch hs (hx:slook n f t l hs=0) (hh:hs.length=n) (hn2:Ah=none->hs.length=0/\ch=0) S W h h' h2=>TopA.ara_c n f t A c l Ah ch hs S W h hnil h' hn2 h2 hx hM;have kl:=fun W h=>Life.new_pln n f t A c l W h hnil hlk;have ky:=fun M (hM:Sh n f l M) W h=>TopC.yen_c n f t A c l W h hll hlk hM;have kwf:=fun M (hM:Sh n f l M) A' k c' co er w1 w2 (h:Life.WF n f t l A' k c' co er w1 w2)=>TopC.wf_c hM hg hc htn h;have hmd:=fun (W:World) (g:Nat) (h2:W.heap.size=g)=>(Grid.own_made n W.heap.size W zzL hn64 h2).sl.2
   have hmk:∀w,(Instr.makeSlice 25 (.int .i64 (n:Int)) (.int .i64 (n:Int))).run Tryz.prog w= .ok (.slice (some ⟨w.heap.size,0,none⟩) n n) (w.alloc (.cells (madeCells #[.int .i64 0] n) 3)) :=
    run_make_row' (P:=Tryz.prog) 25 3 (.int .i64 0) 8 Tryz.underlying25 (by kernel_rfl) rfl .i64 .i64 n (by omega) (by omega)
   have TB0:=hid (fun w3 Ah hs cc W (h3:Below (w.heap.size+1) (w.alloc (.cells #[.int .i64 n,.slice A l.length c] 24)) w3) hh hW=>tbox (w3:=w3) (N:=n) (A:=A) (Ah:=Ah) (c:=c) (l:=l) (hs:=hs) (cc:=cc) (W:=W) (by assumption) h3 hh hW);have KD:=hid kd;have KB0:=hid kb;have KJ0:=hid kj;have KF0:=hid kf;have KS0:=hid ks;have KW0:=hid kw;have KFO0:=hid kfo;have KA0:=hid ka;have KL:=hid kl;have KY0:=hid ky;have KWF0:=hid kwf;have HMD:=hid hmd;have HMK:=hid hmk;have HOF:=hid hof;have KONE:=hid (fun W=>one_t W);clear kd kb kj kf ks kw kfo ka kl ky kwf hmd hmk hof hd ho hg hc hlk KDT hs hnil hw0;go_enter Tryz.func3,Tryz.ntmps3;obtain⟨q0,q1,Z0,sg,_,_⟩:=HK.out _ HB0.out
   go_wp2_with fail
   refine(KD.out _ sg).mono ?_;rintro e w1 ⟨S1,M,rfl,own1,hb1,hsh⟩;have B1:=HB0.out.trans (hb1.mono (by simp));clear q0 q1 sg Z0 hb1;obtain⟨q0,q1,Z1,sg,sm,_⟩:=HK.out _ B1
   go_wp2_with fail
   refine(KOF.out _ sg sm).mono ?_;rintro e w2 ⟨Ah,m,ch,er,hv,rfl,own2,hb2,F2⟩;obtain⟨rfl,rfl,hsx,hvl,hsm⟩:=HOF.out _ _ _ F2.out;have B2:=B1.trans (hb2.mono Z1);have own12:=own1.keep hb2
   have hvn:Ah=none->hv.length=0/\ch=0:=fun e=>by
    obtain⟨A',c',h1,_,h3⟩:=own2.form;injection h1 with h1 _ h2;subst h1 h2;exact h3 e
   obtain⟨cc,hcc⟩:∃cc,dg M (t:Int)=cc:=⟨_,rfl⟩;have kb:=KB0.out M hsh.out;have kj:=KJ0.out M hsh.out;have kf:=KF0.out M hsh.out;have ks:=KS0.out M hsh.out Ah ch hv hsx hvl;have kw:=KW0.out M hsh.out Ah ch hv hsx hvl;have kfo:=KFO0.out M hsh.out Ah ch hv hsx hvl (hsm M hsh.out);have ka:=KA0.out M hsh.out Ah ch hv hsx hvl hvn;have ky:=KY0.out M hsh.out;have kwf:=KWF0.out M hsh.out;rw[hcc] at kb kj kf ks kw kfo ka ky kwf;rw[hvl] at ks kw ka;have hMl:M.length=n:=by have:=hsh.out.len;omega
   clear q0 q1 sg sm Z1 hb2 own1 B1;obtain⟨q0,q1,Z2,_,_,_⟩:=HK.out _ B2
   go_wp2_with fail
   refine(KBEG.out _).mono ?_;rintro e w3 ⟨rfl,hb3⟩;have B3:=B2.trans (hb3.mono Z2);have own13:=own12.keep hb3;have own23:=own2.keep hb3;obtain⟨dc,_⟩:=own_at1 hMl own13 htn;rw[getD_dg,hcc] at dc;have hS1:=(own13.base_ S1 rfl).2;have tb:=fun W hW=>TB0.out w3 Ah hv cc W B3 own23.sl.2 hW;have TB:=hid tb;have KB:=hid kb;have KJ:=hid kj;have KF:=hid kf;have KS:=hid ks;have KW:=hid kw;have KFO:=hid kfo;have KA:=hid ka;have KY:=hid ky;have KWF:=hid kwf;have BC0:=hid (Below.refl (w3.heap.size+1) (w3.alloc (.cells #[.int .i64 cc] 3)));have htl:(t:Int)<(n:Int):=by omega
   have hz30:w.heap.size+1<=w3.heap.size:=by have:=B3.size;simpa using this
   have hfl:(f:Int)<(n:Int):=by omega
   clear kb kj kf ks kw kfo ka ky kwf tb own12 own2 own13 own23 hb3 B2 B3 hsh hcc hsx hvl hsm hvn F2 hMl KD KOF KB0 KJ0 KF0 KS0 KW0 KFO0 KA0 KY0 KWF0 TB0 HOF HB0 q0 q1 Z2 HK;go_upto_region 6 with fail;obtain⟨q0,q1,qc,Z5,sg,_,_⟩:=TB.out _ BC0.out
   go_wp2_with fail
   refine(KB.out _ sg).mono ?_;rintro e w6 ⟨S6,rfl,hS6,c6,hb6⟩;have C6:=BC0.out.trans (hb6.mono (by simp));clear q0 q1 qc Z5 sg hb6 dc hS1;obtain⟨q0,q1,qc,Z6,sg,_,_⟩:=TB.out _ C6
   go_wp2_with fail
   refine(KJ.out _ sg).mono ?_;rintro e w7 ⟨A7,k7,rfl,r7,hb7⟩;have C7:=C6.trans (hb7.mono Z6);have c7:=((keepAt hb7 hS6).1 t).trans c6;have hS7:S6<w7.heap.size:=Nat.lt_of_lt_of_le hS6 hb7.size;have R7:=hid r7;clear q0 q1 qc Z6 sg hb7 c6 hS6 C6 r7;obtain⟨q0,q1,qc,Z7,sg,_,_⟩:=TB.out _ C7
   go_wp2_with fail
   refine(KF.out _ sg).mono ?_;rintro e w8 ⟨A8,k8,rfl,r8,hb8⟩;have C8:=C7.trans (hb8.mono Z7);have c8:=((keepAt hb8 hS7).1 t).trans c7;have hS8:S6<w8.heap.size:=Nat.lt_of_lt_of_le hS7 hb8.size;obtain⟨b7,o7,p7,x7,v7,rfl,y7,z7,g7,j7⟩:=R7.out.keep hb8;obtain⟨b8,o8,p8,x8,v8,rfl,y8,z8,g8,j8⟩:=r8;clear q0 q1 qc Z7 sg hb8 c7 hS7 C7 R7;obtain⟨q0,q1,qc,Z8,sg,_,_⟩:=TB.out _ C8;have zc8:w3.heap.size<w8.heap.size:=by omega
   clear Z8 sg;go_upto_region 9 with fail;go_quiet (fail);have C9:=below_drewN C8 nq;generalize w8.drewN nq=w9 at C9 ⊢;clear q0 q1 qc c8 hS8 y7 z7 g7 j7 y8 z8 g8 j8 zc8 C8;obtain⟨q0,q1,qc,Z9,sg,sh,_⟩:=TB.out _ C9
   go_wp2_with fail
   refine(KS.out _ sg sh).mono ?_;rintro e w10 ⟨A1,m1,k1,co1,A2,m2,k2,e1,rfl,hcs1,hb10⟩;have C10:=C9.trans (hb10.mono Z9);have Z10:=(TB.out _ C10).2.2.2.1;have C11:=C10.alloc Z10 (.cells #[.slice A1 m1 k1,.int .i64 co1,.slice A2 m2 k2] 38);have F20:=hid (fend_new (w:=w10) (Below.refl _ _) hcs1 (.slice A1 m1 k1) (.slice A2 m2 k2));clear q0 q1 qc Z9 sg sh hcs1 hb10 C9 C10 Z10;go_upto_region 13 with fail;obtain⟨R20,hR20⟩:∃R20,R20=w10.heap.size:=⟨_,rfl⟩;rw[<-hR20] at F20 ⊢;clear hR20;generalize w10.alloc (.cells #[.slice A1 m1 k1,.int .i64 co1,.slice A2 m2 k2] 38)=w11 at F20 C11 ⊢;obtain⟨q0,q1,_,hzw11,sg,sh,_⟩:=TB.out _ C11;have KWG:=hid (fun W (h:Below w11.heap.size w11 W)=>KW.out W ((sg.keep h zzL).more h.size) ((sh.keep h zzL).more h.size));clear sg sh;have BP0:Hid (Below w11.heap.size w11 w11.drew):=hid (Below.refl w11.heap.size w11).drew;have BP1:Hid (Below w11.heap.size w11 (w11.alloc (.cells #[.slice none 0 0,.int .i64 0,.slice none 0 0] 38)).drew):=hid ((Below.refl w11.heap.size w11).alloc (by simp) (.cells #[.slice none 0 0,.int .i64 0,.slice none 0 0] 38)).drew
   have rg1:(w11.alloc (.cells #[.slice none 0 0,.int .i64 0,.slice none 0 0] 38)).heap[w11.heap.size]?=some (.cells #[.slice none 0 0,.int .i64 0,.slice none 0 0] 38 (0,0)):=by
    have h:=heap_alloc_new w11 (.cells #[.slice none 0 0,.int .i64 0,.slice none 0 0] 38)
    simpa using h
   have rf1:(w11.alloc (.cells #[.slice none 0 0,.int .i64 0,.slice none 0 0] 38)).drew.heap[w11.heap.size]?=some (.cells #[.slice none 0 0,.int .i64 0,.slice none 0 0] 38 (0,0)):=rg1;have RF1:=hid rf1;clear rf1 rg1;go_upto_region 13 with fail
   go_cut [16,21] from 120 to 128 (fun sE sF wx=>∃(R:Nat) (xe co:Int),sE= .int .i64 xe/\sF= .pointer (some ⟨R,0,none⟩)/\Hid (FE w11 wx R cc xe co))
   case first =>
    go_region_held3 (fun w'=>w'.cell? ⟨w.heap.size,0,none⟩=some (.int .i64 n)/\w'.cell? ⟨w.heap.size,1,none⟩=some (.slice A l.length c))
     (first
       |go_keep
       |(go_split_ands
         exact⟨x0,x1⟩)
       |(go_split_ands
         exact⟨far3 x0 (by omega) _ _ _,far3 x1 (by omega) _ _ _⟩))
     (first
       |(go_at_call 13;refine(KONE.out _).mono ?_;rintro e wo ⟨rfl,hbo⟩;have BO:Below w11.heap.size w11 wo:=(by with_reducible exact BP0.out.trans (hbo.mono BP0.out.size));go_must (obtain⟨x0,x1,_⟩:=TB.out _ (C11.trans (BO.mono hzw11));have zo:=BO.size;have tg_:=True.intro))
       |(go_at_call 13;refine(KONE.out _).mono ?_;rintro e wo ⟨rfl,hbo⟩;have BO:Below w11.heap.size w11 wo:=(by with_reducible exact BP1.out.trans (hbo.mono BP1.out.size));go_must (have hro:=blk_below RF1.out hbo (lt_of_block RF1.out);obtain⟨x0,x1,_⟩:=TB.out _ (C11.trans (BO.mono hzw11));have zo:=BO.size;have tg_F:=True.intro))
       |(go_at_call 12;have _tt:=tg_;have BQ:Below w11.heap.size w11 wo:=BO;refine(KWG.out _ (by with_reducible exact BQ)).mono ?_;go_must (rintro e w6 ⟨A1,ma,c1,co,A2,k2,c2,xe,rfl,hcs,hb6⟩;have BW:=BQ.trans (hb6.mono BQ.size);have HCS:=hid hcs;have hz6:=hb6.size;obtain⟨x0,x1,_⟩:=TB.out _ (C11.trans (BW.mono hzw11))))
       |(go_at_call 12;have _tt:=tg_;have BQ:Below w11.heap.size w11 (wo.alloc (.cells #[.slice none 0 0,.int .i64 0,.slice none 0 0] 38)):=(BO.alloc (by exact BO.size) (.cells #[.slice none 0 0,.int .i64 0,.slice none 0 0] 38));refine(KWG.out _ (by with_reducible exact BQ)).mono ?_;go_must (rintro e w6 ⟨A1,ma,c1,co,A2,k2,c2,xe,rfl,hcs,hb6⟩;have BW:=BQ.trans (hb6.mono BQ.size);have HCS:=hid hcs;have hrq:(wo.alloc (.cells #[.slice none 0 0,.int .i64 0,.slice none 0 0] 38)).heap[wo.heap.size]?=some (.cells #[.slice none 0 0,.int .i64 0,.slice none 0 0] 38 (0,0)):=(by have h:=(heap_alloc_new wo (.cells #[.slice none 0 0,.int .i64 0,.slice none 0 0] 38));first|with_reducible exact h|simpa using h|simp);have hr6:=blk_below hrq hb6 (lt_of_block hrq);obtain⟨d0,d1,d2,e0,e1,e2⟩:=StarF.fnd_cells hr6;have hR6:=lt_of_block hr6;obtain⟨x0,x1,_⟩:=TB.out _ (C11.trans (BW.mono hzw11))))
       |(go_at_call 12;have _tt:=tg_F;have BQ:Below w11.heap.size w11 wo:=BO;refine(KWG.out _ (by with_reducible exact BQ)).mono ?_;go_must (rintro e w6 ⟨A1,ma,c1,co,A2,k2,c2,xe,rfl,hcs,hb6⟩;have BW:=BQ.trans (hb6.mono BQ.size);have HCS:=hid hcs;have hr6:=blk_below hro hb6 (lt_of_block hro);obtain⟨d0,d1,d2,e0,e1,e2⟩:=StarF.fnd_cells hr6;have hR6:=lt_of_block hr6;obtain⟨x0,x1,_⟩:=TB.out _ (C11.trans (BW.mono hzw11)))))
    all_goals
     try simp only[Act.put,zzA,zzB,zzC,zzD,zzE,zzF]
     go_wp2_with fail
     go_meet
     first
      |exact⟨_,xe,co,rfl,rfl,hid (fend_new BW HCS.out _ _)⟩
      |exact⟨_,xe,co,rfl,rfl,hid (fend_set hr6 (by first|exact Nat.le_refl _|omega) BW HCS.out _ _)⟩
   case rest =>
   obtain⟨R21,e2,co2,rfl,rfl,F21⟩:=hcut;clear BP0 BP1 RF1;have D13:=F21.out.2.2.2;have C13:=C11.trans (D13.mono hzw11);have F20b:=hid (F20.out.at_ D13);have HC1:=hid F20.out.2.2.1;clear q0 q1 hzw11 KWG C11 F20;rename World=>w13;obtain⟨q0,q1,_,hzw13,sg,sh,_⟩:=TB.out _ C13;have hmk:=HMK.out;have KFG:=hid (fun W g (h:Below w13.heap.size w13 W) h2=>KFO.out (some ⟨g,0,none⟩) W ((sg.keep h zzL).more h.size) ((sh.keep h zzL).more h.size) h2);clear sg sh D13;have BP0:Hid (Below w13.heap.size w13 w13.drew):=hid (Below.refl w13.heap.size w13).drew;have BP1:Hid (Below w13.heap.size w13 (w13.alloc (.cells #[.slice none 0 0,.int .i64 0,.slice none 0 0] 38)).drew):=hid ((Below.refl w13.heap.size w13).alloc (by simp) (.cells #[.slice none 0 0,.int .i64 0,.slice none 0 0] 38)).drew
   have rg1:(w13.alloc (.cells #[.slice none 0 0,.int .i64 0,.slice none 0 0] 38)).heap[w13.heap.size]?=some (.cells #[.slice none 0 0,.int .i64 0,.slice none 0 0] 38 (0,0)):=by
    have h:=heap_alloc_new w13 (.cells #[.slice none 0 0,.int .i64 0,.slice none 0 0] 38)
    simpa using h
   have rf1:(w13.alloc (.cells #[.slice none 0 0,.int .i64 0,.slice none 0 0] 38)).drew.heap[w13.heap.size]?=some (.cells #[.slice none 0 0,.int .i64 0,.slice none 0 0] 38 (0,0)):=rg1;have RF1:=hid rf1;clear rf1 rg1;have BP2:Hid (Below w13.heap.size w13 (w13.alloc (.cells (madeCells #[.int .i64 0] n) 3)).drew):=hid ((Below.refl w13.heap.size w13).alloc (by simp) (.cells (madeCells #[.int .i64 0] n) 3)).drew
   have sm2:Sl (w13.alloc (.cells (madeCells #[.int .i64 0] n) 3)).drew (w13.alloc (.cells (madeCells #[.int .i64 0] n) 3)).drew.heap.size 1 ci (some ⟨w13.heap.size,0,none⟩) (List.replicate n 0):=by
    have h:=HMD.out w13 (w13.heap.size) (by simp);exact h.keep (Below.refl _ _).drew zzL
   have SM2:=hid sm2;clear sm2;have BP3:Hid (Below w13.heap.size w13 ((w13.alloc (.cells #[.slice none 0 0,.int .i64 0,.slice none 0 0] 38)).alloc (.cells (madeCells #[.int .i64 0] n) 3)).drew):=hid (((Below.refl w13.heap.size w13).alloc (by simp) (.cells #[.slice none 0 0,.int .i64 0,.slice none 0 0] 38)).alloc (by simp) (.cells (madeCells #[.int .i64 0] n) 3)).drew
   have rg3:((w13.alloc (.cells #[.slice none 0 0,.int .i64 0,.slice none 0 0] 38)).alloc (.cells (madeCells #[.int .i64 0] n) 3)).heap[w13.heap.size]?=some (.cells #[.slice none 0 0,.int .i64 0,.slice none 0 0] 38 (0,0)):=by
    have h:=blk_alloc (heap_alloc_new w13 (.cells #[.slice none 0 0,.int .i64 0,.slice none 0 0] 38)) (.cells (madeCells #[.int .i64 0] n) 3)
    simpa using h
   have rf3:((w13.alloc (.cells #[.slice none 0 0,.int .i64 0,.slice none 0 0] 38)).alloc (.cells (madeCells #[.int .i64 0] n) 3)).drew.heap[w13.heap.size]?=some (.cells #[.slice none 0 0,.int .i64 0,.slice none 0 0] 38 (0,0)):=rg3;have RF3:=hid rf3;clear rf3 rg3
   have sm3:Sl ((w13.alloc (.cells #[.slice none 0 0,.int .i64 0,.slice none 0 0] 38)).alloc (.cells (madeCells #[.int .i64 0] n) 3)).drew ((w13.alloc (.cells #[.slice none 0 0,.int .i64 0,.slice none 0 0] 38)).alloc (.cells (madeCells #[.int .i64 0] n) 3)).drew.heap.size 1 ci (some ⟨w13.heap.size+1,0,none⟩) (List.replicate n 0):=by
    have h:=HMD.out (w13.alloc (.cells #[.slice none 0 0,.int .i64 0,.slice none 0 0] 38)) (w13.heap.size+1) (by simp);exact h.keep (Below.refl _ _).drew zzL
   have SM3:=hid sm3;clear sm3;have BP4:Hid (Below w13.heap.size w13 ((w13.alloc (.cells (madeCells #[.int .i64 0] n) 3)).alloc (.cells #[.slice none 0 0,.int .i64 0,.slice none 0 0] 38)).drew):=hid (((Below.refl w13.heap.size w13).alloc (by simp) (.cells (madeCells #[.int .i64 0] n) 3)).alloc (by simp) (.cells #[.slice none 0 0,.int .i64 0,.slice none 0 0] 38)).drew
   have rg4:((w13.alloc (.cells (madeCells #[.int .i64 0] n) 3)).alloc (.cells #[.slice none 0 0,.int .i64 0,.slice none 0 0] 38)).heap[w13.heap.size+1]?=some (.cells #[.slice none 0 0,.int .i64 0,.slice none 0 0] 38 (0,0)):=by
    have h:=heap_alloc_new (w13.alloc (.cells (madeCells #[.int .i64 0] n) 3)) (.cells #[.slice none 0 0,.int .i64 0,.slice none 0 0] 38)
    simpa using h
   have rf4:((w13.alloc (.cells (madeCells #[.int .i64 0] n) 3)).alloc (.cells #[.slice none 0 0,.int .i64 0,.slice none 0 0] 38)).drew.heap[w13.heap.size+1]?=some (.cells #[.slice none 0 0,.int .i64 0,.slice none 0 0] 38 (0,0)):=rg4;have RF4:=hid rf4;clear rf4 rg4
   have sm4:Sl ((w13.alloc (.cells (madeCells #[.int .i64 0] n) 3)).alloc (.cells #[.slice none 0 0,.int .i64 0,.slice none 0 0] 38)).drew ((w13.alloc (.cells (madeCells #[.int .i64 0] n) 3)).alloc (.cells #[.slice none 0 0,.int .i64 0,.slice none 0 0] 38)).drew.heap.size 1 ci (some ⟨w13.heap.size,0,none⟩) (List.replicate n 0):=by
    have h:=HMD.out w13 (w13.heap.size) (by simp);have h2:=(Below.refl (w13.alloc (.cells (madeCells #[.int .i64 0] n) 3)).heap.size (w13.alloc (.cells (madeCells #[.int .i64 0] n) 3))).alloc zzL (.cells #[.slice none 0 0,.int .i64 0,.slice none 0 0] 38);exact((h.keep h2 zzL).more h2.size).keep (Below.refl _ _).drew zzL
   have SM4:=hid sm4;clear sm4;go_upto_region 14 with fail
   go_cut [18,22] from 129 to 140 (fun sE sF wx=>∃(R:Nat) (xe co:Int),sE= .int .i64 xe/\sF= .pointer (some ⟨R,0,none⟩)/\Hid (FE w13 wx R cc xe co))
   case first =>
    go_region_held3 (fun w'=>w'.cell? ⟨w.heap.size,0,none⟩=some (.int .i64 n)/\w'.cell? ⟨w.heap.size,1,none⟩=some (.slice A l.length c))
     (first
       |go_keep
       |(go_split_ands
         exact⟨x0,x1⟩)
       |(go_split_ands
         exact⟨far3 x0 (by omega) _ _ _,far3 x1 (by omega) _ _ _⟩))
     (first
       |(go_at_call 13;refine(KONE.out _).mono ?_;rintro e wo ⟨rfl,hbo⟩;have BO:Below w13.heap.size w13 wo:=(by with_reducible exact BP0.out.trans (hbo.mono BP0.out.size));go_must (obtain⟨x0,x1,_⟩:=TB.out _ (C13.trans (BO.mono hzw13));have zo:=BO.size;have tg_:=True.intro))
       |(go_at_call 13;refine(KONE.out _).mono ?_;rintro e wo ⟨rfl,hbo⟩;have BO:Below w13.heap.size w13 wo:=(by with_reducible exact BP1.out.trans (hbo.mono BP1.out.size));go_must (have hro:=blk_below RF1.out hbo (lt_of_block RF1.out);obtain⟨x0,x1,_⟩:=TB.out _ (C13.trans (BO.mono hzw13));have zo:=BO.size;have tg_F:=True.intro))
       |(go_at_call 13;refine(KONE.out _).mono ?_;rintro e wo ⟨rfl,hbo⟩;have BO:Below w13.heap.size w13 wo:=(by with_reducible exact BP2.out.trans (hbo.mono BP2.out.size));go_must (have smo:=(SM2.out.keep hbo zzL).more hbo.size;obtain⟨x0,x1,_⟩:=TB.out _ (C13.trans (BO.mono hzw13));have zo:=BO.size;have tg_M:=True.intro))
       |(go_at_call 13;refine(KONE.out _).mono ?_;rintro e wo ⟨rfl,hbo⟩;have BO:Below w13.heap.size w13 wo:=(by with_reducible exact BP3.out.trans (hbo.mono BP3.out.size));go_must (have hro:=blk_below RF3.out hbo (lt_of_block RF3.out);have smo:=(SM3.out.keep hbo zzL).more hbo.size;obtain⟨x0,x1,_⟩:=TB.out _ (C13.trans (BO.mono hzw13));have zo:=BO.size;have tg_FM:=True.intro))
       |(go_at_call 13;refine(KONE.out _).mono ?_;rintro e wo ⟨rfl,hbo⟩;have BO:Below w13.heap.size w13 wo:=(by with_reducible exact BP4.out.trans (hbo.mono BP4.out.size));go_must (have hro:=blk_below RF4.out hbo (lt_of_block RF4.out);have smo:=(SM4.out.keep hbo zzL).more hbo.size;obtain⟨x0,x1,_⟩:=TB.out _ (C13.trans (BO.mono hzw13));have zo:=BO.size;have tg_MF:=True.intro))
       |(go_at_call 14;have _tt:=tg_;have BQ:Below w13.heap.size w13 (wo.alloc (.cells (madeCells #[.int .i64 0] n) 3)):=(BO.alloc (by exact BO.size) (.cells (madeCells #[.int .i64 0] n) 3));have smq:=HMD.out wo (wo.heap.size) (by simp);refine(KFG.out _ _ (by with_reducible exact BQ) (by with_reducible exact smq)).mono ?_;go_must (rintro e w6 ⟨A1,ma,c1,co,A2,k2,c2,xe,rfl,hcs,hb6⟩;have BW:=BQ.trans (hb6.mono BQ.size);have HCS:=hid hcs;have hz6:=hb6.size;obtain⟨x0,x1,_⟩:=TB.out _ (C13.trans (BW.mono hzw13))))
       |(go_at_call 14;have _tt:=tg_;have BQ:Below w13.heap.size w13 ((wo.alloc (.cells (madeCells #[.int .i64 0] n) 3)).alloc (.cells #[.slice none 0 0,.int .i64 0,.slice none 0 0] 38)):=((BO.alloc (by exact BO.size) (.cells (madeCells #[.int .i64 0] n) 3)).alloc (by have:=BO.size;simp;omega) (.cells #[.slice none 0 0,.int .i64 0,.slice none 0 0] 38));have smq:=HMD.out wo (wo.heap.size) (by simp);have h2q:=(Below.refl (wo.alloc (.cells (madeCells #[.int .i64 0] n) 3)).heap.size (wo.alloc (.cells (madeCells #[.int .i64 0] n) 3))).alloc zzL (.cells #[.slice none 0 0,.int .i64 0,.slice none 0 0] 38);have smq:=(smq.keep h2q zzL).more h2q.size;refine(KFG.out _ _ (by with_reducible exact BQ) (by with_reducible exact smq)).mono ?_;go_must (rintro e w6 ⟨A1,ma,c1,co,A2,k2,c2,xe,rfl,hcs,hb6⟩;have BW:=BQ.trans (hb6.mono BQ.size);have HCS:=hid hcs;have hrq:((wo.alloc (.cells (madeCells #[.int .i64 0] n) 3)).alloc (.cells #[.slice none 0 0,.int .i64 0,.slice none 0 0] 38)).heap[wo.heap.size+1]?=some (.cells #[.slice none 0 0,.int .i64 0,.slice none 0 0] 38 (0,0)):=(by have h:=(heap_alloc_new (wo.alloc (.cells (madeCells #[.int .i64 0] n) 3)) (.cells #[.slice none 0 0,.int .i64 0,.slice none 0 0] 38));first|with_reducible exact h|simpa using h|simp);have hr6:=blk_below hrq hb6 (lt_of_block hrq);obtain⟨d0,d1,d2,e0,e1,e2⟩:=StarF.fnd_cells hr6;have hR6:=lt_of_block hr6;obtain⟨x0,x1,_⟩:=TB.out _ (C13.trans (BW.mono hzw13))))
       |(go_at_call 14;have _tt:=tg_;have BQ:Below w13.heap.size w13 ((wo.alloc (.cells #[.slice none 0 0,.int .i64 0,.slice none 0 0] 38)).alloc (.cells (madeCells #[.int .i64 0] n) 3)):=((BO.alloc (by exact BO.size) (.cells #[.slice none 0 0,.int .i64 0,.slice none 0 0] 38)).alloc (by have:=BO.size;simp;omega) (.cells (madeCells #[.int .i64 0] n) 3));have smq:=HMD.out (wo.alloc (.cells #[.slice none 0 0,.int .i64 0,.slice none 0 0] 38)) (wo.heap.size+1) (by simp);refine(KFG.out _ _ (by with_reducible exact BQ) (by with_reducible exact smq)).mono ?_;go_must (rintro e w6 ⟨A1,ma,c1,co,A2,k2,c2,xe,rfl,hcs,hb6⟩;have BW:=BQ.trans (hb6.mono BQ.size);have HCS:=hid hcs;have hrq:((wo.alloc (.cells #[.slice none 0 0,.int .i64 0,.slice none 0 0] 38)).alloc (.cells (madeCells #[.int .i64 0] n) 3)).heap[wo.heap.size]?=some (.cells #[.slice none 0 0,.int .i64 0,.slice none 0 0] 38 (0,0)):=(by have h:=(blk_alloc (heap_alloc_new wo (.cells #[.slice none 0 0,.int .i64 0,.slice none 0 0] 38)) (.cells (madeCells #[.int .i64 0] n) 3));first|with_reducible exact h|simpa using h|simp);have hr6:=blk_below hrq hb6 (lt_of_block hrq);obtain⟨d0,d1,d2,e0,e1,e2⟩:=StarF.fnd_cells hr6;have hR6:=lt_of_block hr6;obtain⟨x0,x1,_⟩:=TB.out _ (C13.trans (BW.mono hzw13))))
       |(go_at_call 14;have _tt:=tg_F;have BQ:Below w13.heap.size w13 (wo.alloc (.cells (madeCells #[.int .i64 0] n) 3)):=(BO.alloc (by exact BO.size) (.cells (madeCells #[.int .i64 0] n) 3));have smq:=HMD.out wo (wo.heap.size) (by simp);refine(KFG.out _ _ (by with_reducible exact BQ) (by with_reducible exact smq)).mono ?_;go_must (rintro e w6 ⟨A1,ma,c1,co,A2,k2,c2,xe,rfl,hcs,hb6⟩;have BW:=BQ.trans (hb6.mono BQ.size);have HCS:=hid hcs;have hr6:=blk_below (blk_alloc hro (.cells (madeCells #[.int .i64 0] n) 3)) hb6 (lt_of_block (blk_alloc hro (.cells (madeCells #[.int .i64 0] n) 3)));obtain⟨d0,d1,d2,e0,e1,e2⟩:=StarF.fnd_cells hr6;have hR6:=lt_of_block hr6;obtain⟨x0,x1,_⟩:=TB.out _ (C13.trans (BW.mono hzw13))))
       |(go_at_call 14;have _tt:=tg_M;have BQ:Below w13.heap.size w13 wo:=BO;have smq:=smo;refine(KFG.out _ _ (by with_reducible exact BQ) (by with_reducible exact smq)).mono ?_;go_must (rintro e w6 ⟨A1,ma,c1,co,A2,k2,c2,xe,rfl,hcs,hb6⟩;have BW:=BQ.trans (hb6.mono BQ.size);have HCS:=hid hcs;have hz6:=hb6.size;obtain⟨x0,x1,_⟩:=TB.out _ (C13.trans (BW.mono hzw13))))
       |(go_at_call 14;have _tt:=tg_M;have BQ:Below w13.heap.size w13 (wo.alloc (.cells #[.slice none 0 0,.int .i64 0,.slice none 0 0] 38)):=(BO.alloc (by exact BO.size) (.cells #[.slice none 0 0,.int .i64 0,.slice none 0 0] 38));have h2q:=(Below.refl wo.heap.size wo).alloc zzL (.cells #[.slice none 0 0,.int .i64 0,.slice none 0 0] 38);have smq:=(smo.keep h2q zzL).more h2q.size;refine(KFG.out _ _ (by with_reducible exact BQ) (by with_reducible exact smq)).mono ?_;go_must (rintro e w6 ⟨A1,ma,c1,co,A2,k2,c2,xe,rfl,hcs,hb6⟩;have BW:=BQ.trans (hb6.mono BQ.size);have HCS:=hid hcs;have hrq:(wo.alloc (.cells #[.slice none 0 0,.int .i64 0,.slice none 0 0] 38)).heap[wo.heap.size]?=some (.cells #[.slice none 0 0,.int .i64 0,.slice none 0 0] 38 (0,0)):=(by have h:=(heap_alloc_new wo (.cells #[.slice none 0 0,.int .i64 0,.slice none 0 0] 38));first|with_reducible exact h|simpa using h|simp);have hr6:=blk_below hrq hb6 (lt_of_block hrq);obtain⟨d0,d1,d2,e0,e1,e2⟩:=StarF.fnd_cells hr6;have hR6:=lt_of_block hr6;obtain⟨x0,x1,_⟩:=TB.out _ (C13.trans (BW.mono hzw13))))
       |(go_at_call 14;have _tt:=tg_FM;have BQ:Below w13.heap.size w13 wo:=BO;have smq:=smo;refine(KFG.out _ _ (by with_reducible exact BQ) (by with_reducible exact smq)).mono ?_;go_must (rintro e w6 ⟨A1,ma,c1,co,A2,k2,c2,xe,rfl,hcs,hb6⟩;have BW:=BQ.trans (hb6.mono BQ.size);have HCS:=hid hcs;have hr6:=blk_below hro hb6 (lt_of_block hro);obtain⟨d0,d1,d2,e0,e1,e2⟩:=StarF.fnd_cells hr6;have hR6:=lt_of_block hr6;obtain⟨x0,x1,_⟩:=TB.out _ (C13.trans (BW.mono hzw13))))
       |(go_at_call 14;have _tt:=tg_MF;have BQ:Below w13.heap.size w13 wo:=BO;have smq:=smo;refine(KFG.out _ _ (by with_reducible exact BQ) (by with_reducible exact smq)).mono ?_;go_must (rintro e w6 ⟨A1,ma,c1,co,A2,k2,c2,xe,rfl,hcs,hb6⟩;have BW:=BQ.trans (hb6.mono BQ.size);have HCS:=hid hcs;have hr6:=blk_below hro hb6 (lt_of_block hro);obtain⟨d0,d1,d2,e0,e1,e2⟩:=StarF.fnd_cells hr6;have hR6:=lt_of_block hr6;obtain⟨x0,x1,_⟩:=TB.out _ (C13.trans (BW.mono hzw13)))))
    all_goals
     try simp only[Act.put,zzA,zzB,zzC,zzD,zzE,zzF]
     go_wp2_with fail
     go_meet
     first
      |exact⟨_,xe,co,rfl,rfl,hid (fend_new BW HCS.out _ _)⟩
      |exact⟨_,xe,co,rfl,rfl,hid (fend_set hr6 (by first|exact Nat.le_refl _|omega) BW HCS.out _ _)⟩
   case rest =>
   obtain⟨R22,e3,co3,rfl,rfl,F22⟩:=hcut;clear BP0 BP1 RF1 BP2 SM2 BP3 RF3 SM3 BP4 RF4 SM4;have D15:=F22.out.2.2.2;have C15:=C13.trans (D15.mono hzw13);clear q0 q1 hzw13 KFG hmk;rename World=>w15;have g20:=((keepAt D15 F20b.out.2).1 1).trans F20b.out.1;have z20:=Nat.lt_of_lt_of_le F20b.out.2 D15.size;obtain⟨g21,z21⟩:=F21.out.at_ D15;have g22:=F22.out.1;have z22:=F22.out.2.1;have HC2:=hid F21.out.2.2.1;have HC3:=hid F22.out.2.2.1;clear F20b F21 F22 D15 C13;obtain⟨q0,q1,qc,hzw15,sg,sh,_⟩:=TB.out _ C15;have hbc:w3.heap.size<w15.heap.size:=by omega
   have KSM:=hid (fun xe co (h:Cs cc xe co)=>same_t w3.heap.size cc xe co w15 qc hbc h)
   go_wp2_with fail
   refine(KSM.out _ _ HC1.out).mono ?_;rintro e wx ⟨rfl,rfl⟩
   go_wp2_with fail
   refine(KSM.out _ _ HC2.out).mono ?_;rintro e wx ⟨rfl,rfl⟩
   go_wp2_with fail
   refine(KSM.out _ _ HC3.out).mono ?_;rintro e wx ⟨rfl,rfl⟩;clear g20 g21 g22 z20 z21 z22 qc hbc KSM HC1 HC2 HC3;have KAG:=hid (fun S W (h:Below w15.heap.size w15 W) h2=>KA.out S W ((sg.keep h zzL).more h.size) ((sh.keep h zzL).more h.size) h2);have BD:=hid (Below.refl w15.heap.size w15).drew;clear sg sh;go_upto_region 17 with fail
   go_cut [23,10] from 166 to 176 (fun s23 s10 wx=>∃(R cR:Nat),s23= .slice (some ⟨R,0,none⟩) 2 cR/\s10= .int .i64 0/\Hid (AE w15 wx R cc))
   case first =>
    go_region_held3 (fun w'=>w'.cell? ⟨w.heap.size,0,none⟩=some (.int .i64 n)/\w'.cell? ⟨w.heap.size,1,none⟩=some (.slice A l.length c))
     (first
       |go_keep
       |(go_split_ands
         exact⟨x0,x1⟩))
     (first
       |(go_at_call 13;refine(KONE.out _).mono ?_;rintro e wo ⟨rfl,hbo⟩;have BO:Below w15.heap.size w15 wo:=(by with_reducible exact BD.out.trans (hbo.mono BD.out.size));go_must (obtain⟨x0,x1,_⟩:=TB.out _ (C15.trans (BO.mono hzw15));have zo:=BO.size))
       |(go_at_call 15;have BQ:=BO.alloc BO.size (.cells #[.int .i64 5,.int .i64 2,.int .i64 1,.int .i64 1] 43);have sw:=sl_new' (sz:=2) (cell:=cp) (by decide) wo #[.int .i64 5,.int .i64 2,.int .i64 1,.int .i64 1] 43 [(5,2),(1,1)] rfl rfl;refine(KAG.out _ _ (by with_reducible exact BQ) (by with_reducible exact sw)).mono ?_;go_must (rintro e w6 ⟨R,cR,rfl,hR,hx,hb6⟩;have BW:=BQ.trans (hb6.mono BQ.size);have HX:=hid ((show AE w15 w6 R cc from ⟨by obtain⟨x,_,_,_,g3,_⟩:=hx;exact g3,hR,BW⟩));obtain⟨x0,x1,_⟩:=TB.out _ (C15.trans (BW.mono hzw15)))))
    all_goals
     go_wp2_with fail
     go_meet
     exact⟨R,cR,rfl,rfl,HX⟩
   case rest =>
   obtain⟨R23,c23,rfl,rfl,HA⟩:=hcut;rename World=>w18;have g8:=HA.out.1;have z8:=HA.out.2.1;have C18:=C15.trans (HA.out.2.2.mono hzw15);clear q0 q1 hzw15 KAG BD HA C15;obtain⟨q0,q1,qc,Z18,_,_,_⟩:=TB.out _ C18;have hbc:w3.heap.size<w18.heap.size:=by omega
   clear Z18;go_upto_region 18 with fail;go_quiet (fail);have C19:=below_drewN C18 nq;generalize w18.drewN nq=w19 at C19 ⊢;clear q0 q1 qc hbc g8 z8 C18;obtain⟨q0,q1,_,Z19,sg,_,_⟩:=TB.out _ C19
   go_wp2_with fail
   refine(KL.out _ sg).mono ?_;rintro e w20 ⟨P,rfl,hpl⟩;clear q0 q1 sg
   go_wp2_with fail
   refine(Life.way_pln hpl.out (by decide)).mono ?_;rintro e w21 ⟨A5,k5,c5,co5,e5,wk5,rfl,hpl2,_,_,hz21,hwf⟩;have C21:=C19.trans (hpl2.out.lo.mono Z19);have Z21:=(TB.out _ C21).2.2.2.1;have HC5:=hid (KWF.out _ _ _ _ _ _ _ hwf.out);have C22:=C21.alloc Z21 (.cells #[.slice A5 k5 c5,.int .i64 co5] 36);have hx5:=heap_alloc_new w21 (.cells #[.slice A5 k5 c5,.int .i64 co5] 36);have HX5:=hid hx5;clear hpl hpl2 hz21 hwf C19 Z19 C21 Z21 hx5;go_upto_region 24 with fail;obtain⟨R25,hR25⟩:∃R25,R25=w21.heap.size:=⟨_,rfl⟩;rw[<-hR25] at HX5 ⊢;clear hR25;generalize w21.alloc (.cells #[.slice A5 k5 c5,.int .i64 co5] 36)=w22 at HX5 C22 ⊢;obtain⟨q0,q1,_,Z22,sg,_,_⟩:=TB.out _ C22
   go_wp2_with fail
   refine(KY.out _ sg).mono ?_;rintro e w23 hk;rcases hk with ⟨A6,m6,c6,rfl,hfar,hb23⟩|⟨S6,c6,x6,rfl,hlt,hS,g0,g1,hb23⟩
   ·have C23:=C22.trans (hb23.mono Z22)
    have hx5:=blk_below HX5.out hb23 (lt_of_block HX5.out);have h0:=blk_cell hx5 0;have h1:=blk_cell hx5 1;simp only[zzG,zzH,zzI] at h0 h1;have z5:=lt_of_block hx5;clear q0 q1 Z22 sg hx5 HX5 hb23;obtain⟨_,_,qc,Z23,_,_,H23⟩:=TB.out _ C23;have hbc:w3.heap.size<w23.heap.size:=by omega
    have KSM:=hid (same_t w3.heap.size cc e5 co5 w23 qc hbc HC5.out);unfold far at hfar;clear Z23
    go_wp2_with fail
    refine KSM.out.mono ?_;rintro e wx ⟨rfl,rfl⟩;rw[hfar] at qc;clear h0 h1 z5 KSM;go_wp2;go_quiet (fail);go_wp2;go_ret;exact⟨rfl,below_drewN H23 _⟩
   ·have C23:=C22.trans (hb23.mono Z22)
    have hx5:=blk_below HX5.out hb23 (lt_of_block HX5.out);have h0:=blk_cell hx5 0;have h1:=blk_cell hx5 1;simp only[zzG,zzH,zzI] at h0 h1;have z5:=lt_of_block hx5;clear q0 q1 Z22 sg hx5 HX5 hb23;obtain⟨_,_,qc,Z23,_,_,H23⟩:=TB.out _ C23;have hbc:w3.heap.size<w23.heap.size:=by omega
    have KSM:=hid (same_t w3.heap.size cc e5 co5 w23 qc hbc HC5.out);clear Z23
    go_wp2_with fail
    refine KSM.out.mono ?_;rintro e wx ⟨rfl,rfl⟩;clear h0 h1 z5 KSM;go_wp2;go_quiet (fail);go_wp2;go_ret;exact⟨rfl,below_drewN H23 _⟩
  ·have kdt:=KDT.out
   simp only[hd] at kdt;have KD:=hid kdt;have HNO:=hid ho;clear kdt KDT ho hd hs hnil hw0;go_enter Tryz.func3,Tryz.ntmps3;obtain⟨q0,q1,Z0,sg,_,_⟩:=HK.out _ HB0.out
   go_wp2_with fail
   refine(KD.out _ sg).mono ?_;rintro e w1 ⟨A1,m1,c1,rfl,hb1⟩;have B1:=HB0.out.trans (hb1.mono (by simp));clear q0 q1 sg Z0 hb1;obtain⟨q0,q1,Z1,sg,sm,_⟩:=HK.out _ B1
   go_wp2_with fail
   refine(KOF.out _ sg sm).mono ?_;rintro e w2 ⟨Ah,m,ch,er,hv,rfl,own2,hb2,F2⟩
   have hne:(er != 0)=true:=by
    rw[bne_iff_ne];rcases F2.out with ⟨h,_⟩|⟨_,h,_⟩
    ·exact h
    ·exact absurd h HNO.out
   have B2:=B1.trans (hb2.mono Z1);have Z2:=(HK.out _ B2).2.2.1;clear q0 q1 sg sm Z1 hb2 B1 own2 F2
   go_wp2_with fail
   refine(KBEG.out _).mono ?_;rintro e w3 ⟨rfl,hb3⟩;have B3:=B2.trans (hb3.mono Z2);have Z3:=(HK.out _ B3).2.2.1;clear hb3 B2 Z2
   go_wp2_with fail
   refine(KBEG.out _).mono ?_;rintro e w4 ⟨rfl,hb4⟩;have H4:=(HK.out _ (B3.trans (hb4.mono Z3))).2.2.2.2.2;clear hb4 B3 Z3;go_wp2;go_ret;exact⟨rfl,H4⟩
 ·have hne:(Dijk.look N l [f] != 0)=true:=by rw[bne_iff_ne];exact hd
  generalize Dijk.look N l [f]=de at hne KDT;clear hd hs hnil hw0;go_enter Tryz.func3,Tryz.ntmps3;obtain⟨q0,q1,Z0,sg,_,_⟩:=HK.out _ HB0.out
  go_wp2_with fail
  refine(KDT.out _ sg).mono ?_;rintro e w1 ⟨A1,m1,c1,rfl,hb1⟩;have B1:=HB0.out.trans (hb1.mono (by simp));clear q0 q1 sg Z0 hb1;obtain⟨q0,q1,Z1,sg,sm,_⟩:=HK.out _ B1
  go_wp2_with fail
  refine(KOF.out _ sg sm).mono ?_;rintro e w2 ⟨Ah,m,ch,er,hv,rfl,own2,hb2,F2⟩;have B2:=B1.trans (hb2.mono Z1);have Z2:=(HK.out _ B2).2.2.1;clear q0 q1 sg sm Z1 hb2 B1 own2 F2
  go_wp2_with fail
  refine(KBEG.out _).mono ?_;rintro e w3 ⟨rfl,hb3⟩;have B3:=B2.trans (hb3.mono Z2);have Z3:=(HK.out _ B3).2.2.1;clear hb3 B2 Z2
  go_wp2_with fail
  refine(KBEG.out _).mono ?_;rintro e w4 ⟨rfl,hb4⟩;have H4:=(HK.out _ (B3.trans (hb4.mono Z3))).2.2.2.2.2;clear hb4 B3 Z3;go_wp2;go_ret;exact⟨rfl,H4⟩
theorem own:ownKnob Tryz.prog.godebug=none:=by kernel_rfl
theorem laidOut:laidOutB Tryz.prog=true:=by kernel_rfl
theorem lifted (os:Os) (started:os.Started) (H:Type) (enc:TypeId × Value->H) :
 ReturnsInHanded {} Tryz.checked os 3 .any (Rows.topRoadsSpec.pre6 enc Tryz.prog Tryz.f3 Rows.topRoadsRow.domain false) (Rows.topRoadsSpec.post enc Tryz.prog Tryz.f3 false true false false):=by
 refine returnsInHanded_of_change (C:=Tryz.checked) own started (by kernel_rfl) Tryz.func3
  (ChangeSpec.witness6 (enc:=enc) (C:=Tryz.checked) false ⟨#[],#[.agg #[.int .i64 0,.slice none 0 0],.int .i64 0,.int .i64 0,.slice none 0 0],[]⟩ 8 (by kernel_rfl) (by kernel_rfl) (by kernel_rfl) (by kernel_rfl)) ?_
 intro W base args ds gs before hval0 hW hcnd _;have hval:∀(j:Nat) t v,Tryz.f3.params[j]?=some t->args[j]?=some v->Value.okWide Tryz.prog W .any base t v:=hval0;have hW':=hW;obtain⟨p,q,hA0,hV,rfl,hfz,hnd⟩:=hW;have hA:DataW.TrodAll enc Tryz.prog W 0 (fun _=>true) true Tryz.f3.params.toList args.toList ds p:=hA0;rw[Tryz.params3] at hA hval;obtain⟨v0,vs0,d0,ds0,p0,q0,hargs,rfl,rfl,h0,r0⟩:=trodAll_cons hA;obtain⟨v1,vs1,d1,ds1,p1,q1,rfl,rfl,rfl,h1,r1⟩:=trodAll_cons r0;obtain⟨v2,vs2,d2,ds2,p2,q2,rfl,rfl,rfl,h2,r2⟩:=trodAll_cons r1;obtain⟨v3,vs3,d3,ds3,p3,q3,rfl,rfl,rfl,h3,r3⟩:=trodAll_cons r2;obtain⟨rfl,rfl,rfl⟩:=trodAll_nil r3;obtain rfl:args=#[v0,v1,v2,v3]:=by cases args;simp_all
 obtain⟨rfl,rfl⟩:=trodVars_none hV;obtain⟨N0,A0,c0,l0,dd0,rfl,hN0,hG0,hb0,rfl,hd0⟩:=open_net Tryz.underlying24 (by kernel_rfl) (by kernel_rfl) Tryz.underlying3 Tryz.underlying22 Tryz.underlying70 (by kernel_rfl) (by kernel_rfl) Tryz.underlying3 Tryz.underlying3 Tryz.underlying3 (hval 0 24 v0 rfl rfl) h0;obtain⟨a1,rfl,rfl,rfl,wa1⟩:=open_int Tryz.underlying3 (hval 1 3 v1 rfl rfl) h1;obtain⟨a2,rfl,rfl,rfl,wa2⟩:=open_int Tryz.underlying3 (hval 2 3 v2 rfl rfl) h2;obtain⟨A3,c3,l3,rfl,hG3,hd3,hb3⟩:=open_sl1 Tryz.underlying25 Tryz.underlying3 (by kernel_rfl) (hval 3 25 v3 rfl rfl) h3;refine(walk W N0 A0 c0 l0 hG0 a1 (wf_bd wa1) a2 (wf_bd wa2) A3 c3 l3 hG3).mono fun e W' ⟨he,hB⟩=> ?_;subst he;exact⟨_,rfl,post_of_law laidOut rfl Tryz.underlying4 rfl (by intro t ht;rw[Tryz.params3] at ht;simp at ht;rcases ht with rfl|rfl|rfl|rfl <;> exact⟨by kernel_rfl,of_decide_eq_true (by kernel_rfl)⟩) hW' rfl hB⟩
theorem holds:Rows.TopRoadsSaid :=
 OpenClaim.holds_of_wide 3 Tryz.f3 rfl rfl rfl rfl rfl rfl rfl ⟨rfl,rfl,rfl,rfl,rfl⟩ rfl rfl rfl rfl rfl (by kernel_rfl) Tryz.func3 (by kernel_rfl)
  (of_decide_eq_true (by kernel_rfl)) (by unfold Func.isWrapper;first|(rw[if_pos (by decide +kernel)];kernel_rfl)|(rw[if_neg (by decide +kernel)];exact⟨rfl,rfl⟩))
  (fun os started H enc _=>lifted os started H enc)
end TopRoadsLaw
end Go.Proofs.YtjebckehmmbkbaaGreat
