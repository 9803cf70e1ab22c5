/- The walk of heur.Marks. Plain facts on guesses by landmarks: no Go in sight. The walks of heur.least, heur.bound and heur.Of. heur.Marks and heur.Of where the arguments are not right. heur.Of of any net, marks and place, in one contract; and what one mark more does. Plain: a guess by landmarks is small, or the place leads nowhere; so costs and guesses together are. No Go in sight. -/
import Derived.Test.YtjebckehmmbkbaaGreatVHeurMem
set_option linter.unusedSimpArgs false
set_option linter.unusedVariables false
set_option maxRecDepth 100000
set_option maxHeartbeats 24000000
namespace Go.Proofs.YtjebckehmmbkbaaGreat
namespace Heur
open Go.RowKit NetLaw BellLaw DijkLaw HeurLaw Net Dijk Go.Proofs.YtjebckehmmbkbaaGreat.Std
theorem newsr {n S:Nat} {w:World} {e:TypeId} {g:Nat} (hg:w.heap.size=g):∀j,j<1->(w.alloc (.cells #[.slice (some ⟨S,0,none⟩) n n] e)).cell? ⟨g,j,none⟩=some (cr n S j):=by
 subst hg;intro j hj;obtain rfl:j=0:=by omega
 rw[cell_new];rfl
theorem pos_good {N:Int} {l:List E} (hg:NetLaw.Good N l) (hc:∀e∈l,1<=e.2.2):Dijk.pos N l=0:=by
 have h0:Dijk.posE l=0:=by
  clear hg
  induction l with
  |nil=>rfl
  |cons e r ih =>
   have:=hc e (by simp);rw[Dijk.posE,if_neg (by omega)];exact ih fun x hx=>hc x (by simp[hx])
 rw[Dijk.pos,if_neg (by simpa using chk_zero.2 hg)];exact h0
theorem lookE_zero {N:Int} {ps:List Int}:Dijk.lookE N ps=0 ↔ ∀v∈ps,0<=v/\v<N:=by
 induction ps with
 |nil=>simp[Dijk.lookE]
 |cons x r ih =>
  unfold Dijk.lookE
  by_cases h:x<0\/N<=x
  ·rw[if_pos h]
   constructor
   ·intro h1;omega
   ·intro h1;have:=h1 x (List.mem_cons_self ..);omega
  ·rw[if_neg h,ih]
   constructor
   ·intro h1 y hy
    rcases List.mem_cons.1 hy with rfl|hy
    ·omega
    ·exact h1 y hy
   ·intro h1 y hy;exact h1 y (List.mem_cons_of_mem _ hy)
theorem look_good {N:Int} {l:List E} {ps:List Int} (hg:NetLaw.Good N l) (hc:∀e∈l,1<=e.2.2) (hp:∀v∈ps,0<=v/\v<N):Dijk.look N l ps=0:=by
 have h1:=pos_good hg hc;rw[Dijk.look,if_neg (by simpa using h1)];exact lookE_zero.2 hp
theorem good_tl {N:Int} {l:List E} (h:NetLaw.Good N l):NetLaw.Good N (tl l):=by
 refine⟨h.lo,h.hi,by rw[tl_len];exact h.len,fun e he=> ?_,fun e he=> ?_⟩
 ·unfold tl at he;rw[List.mem_map] at he;obtain⟨x,hx,rfl⟩:=he
  have:=h.ends x hx;exact⟨this.2.2.1,this.2.2.2,this.1,this.2.1⟩
 ·unfold tl at he;rw[List.mem_map] at he;obtain⟨x,hx,rfl⟩:=he
  exact h.cost x hx
def MarksSays (n:Nat) (l:List E) (ms:List Int) (w:World) (e:Ending) (w':World):Prop :=
 ∃A1 c1 R1 D1 A2 c2 R2 D2,e= .returned (.tuple #[.agg #[.slice A1 ms.length c1,.slice A2 ms.length c2],.int .i64 0])/\Tb w' w.heap.size n A1 ms.length c1 R1 D1/\Tb w' w.heap.size n A2 ms.length c2 R2 D2 /\
  (∀i (h:i<ms.length),Sh n ms[i] l (D1.getD i [])/\Sh n ms[i] (tl l) (D2.getD i []))/\Below w.heap.size w w'
theorem marks_yes (n:Nat) (A:Option Addr) (c:Nat) (l:List E) (Am:Option Addr) (cm:Nat) (ms:List Int) (w:World) (hl:Sl w w.heap.size 3 ce A l) (hm:Sl w w.heap.size 1 ci Am ms) (hg:NetLaw.Good n l) (hc:∀e∈l,1<=e.2.2) (h4:ms.length<=4) (hr:∀v∈ms,0<=v/\v<n) :
 Calls Tryz.prog 21 #[.agg #[.int .i64 n,.slice A l.length c],.slice Am ms.length cm] w fun e w'=>MarksSays n l ms w e w':=by
 obtain⟨r0,hri,hrz0,hrz1,hrz2⟩:=info_parts infoRow;have hN:=hg.hi;have hlen:=hg.len;have hw0:Below w.heap.size w ((w.alloc (.cells #[.int .i64 n,.slice A l.length c] 24)).alloc (.cells #[.slice none 0 0,.slice none 0 0] 64)):=((Below.refl _ _).alloc zzL _).alloc (by simp) _;have hz0:w.heap.size<=((w.alloc (.cells #[.int .i64 n,.slice A l.length c] 24)).alloc (.cells #[.slice none 0 0,.slice none 0 0] 64)).heap.size:=by simp;omega
 have box0:=blk_alloc (heap_alloc_new w (.cells #[.int .i64 n,.slice A l.length c] 24)) (.cells #[.slice none 0 0,.slice none 0 0] 64);have res0:=heap_alloc_new (w.alloc (.cells #[.int .i64 n,.slice A l.length c] 24)) (.cells #[.slice none 0 0,.slice none 0 0] 64);have hzz:(w.alloc (.cells #[.int .i64 n,.slice A l.length c] 24)).heap.size=w.heap.size+1:=by simp
 rw[hzz] at res0;have kp:=fun W h=>Dijk.pos_any n A c l W h (by omega);rw[pos_good hg hc] at kp;have kl:=fun W h h'=>Dijk.look_any n A c l Am cm ms.length ms W h h' rfl (by omega) (by omega);rw[look_good hg hc hr] at kl;have kt:=fun W h=>turned_any n A c l W h (by omega);have krun:=fun (m:Nat) (hmn:m<n) W h=>run_any n m A c l W h hg hmn (fun e he=>by have:=hc e he;omega)
 have krun2:=fun (m:Nat) (hmn:m<n) (Ab:Option Addr) (cb:Nat) W (h:Sl W W.heap.size 3 ce Ab (tl l))=>run_any n m Ab cb (tl l) W h (good_tl hg) hmn (fun e he=>by
  unfold tl at he;rw[List.mem_map] at he;obtain⟨x,hx,rfl⟩:=he;have:=hc x hx;simp only;omega)
 rw[tl_len] at krun2;have KP:=hid kp;have KL:=hid kl;have KT:=hid kt;have KRUN:=hid krun;have KRUN2:=hid krun2;have BOX0:=hid box0;have RES0:=hid res0;have HR:=hid hr;have HSL0:=hid hl;have HSM0:=hid hm;clear kp kl kt krun krun2 box0 res0 hr hg hc hl hm hzz;go_enter Tryz.func21,Tryz.ntmps21
 go_wp2_with fail
 refine(KP.out _ ((HSL0.out.keep hw0 zzL).more hz0)).mono ?_;rintro e w1 ⟨rfl,hb1⟩;have H1:=hw0.trans (hb1.mono hz0);have hbox1:=blk_below BOX0.out hb1 (by simp;omega);have hres1:=blk_below RES0.out hb1 (by simp);have q0:=blk_cell hbox1 0;have q1:=blk_cell hbox1 1;simp only[zzG,zzH,zzI] at q0 q1;have BOX1:=hid hbox1;have RES1:=hid hres1;have d4:decide ((ms.length:Int) > 4)=false:=by simp;omega
 clear hbox1 hres1 hb1 BOX0 RES0 KP
 go_wp2_with fail
 refine(KL.out _ ((HSL0.out.keep H1 zzL).more H1.size) ((HSM0.out.keep H1 zzL).more H1.size)).mono ?_;rintro e w2 ⟨rfl,hb2⟩;have H2:=H1.trans (hb2.mono H1.size);have hbox2:=blk_below BOX1.out hb2 (lt_of_block BOX1.out);have hres2:=blk_below RES1.out hb2 (lt_of_block RES1.out);have p0:=blk_cell hbox2 0;have p1:=blk_cell hbox2 1;simp only[zzG,zzH,zzI] at p0 p1;have BOX2:=hid hbox2;have RES2:=hid hres2;clear hbox2 hres2 hb2 BOX1 RES1 KL q0 q1 d4
 go_wp2_with fail
 refine(KT.out _ ((HSL0.out.keep H2 zzL).more H2.size)).mono ?_;rintro e w3 ⟨Ab,cb,rfl,ownb,hb3⟩;rw[tl_len] at ownb ⊢;have H3:=H2.trans (hb3.mono H2.size);have hbox3:=blk_below BOX2.out hb3 (lt_of_block BOX2.out);have hres3:=blk_below RES2.out hb3 (lt_of_block RES2.out);have hr3:=lt_of_block hres3;have bk3:=blk_alloc (heap_alloc_new w3 (.cells #[.int .i64 n,.slice Ab l.length cb] 24)) (.cells #[.slice none 0 0,.slice none 0 0] 64);have tb3:=heap_alloc_new (w3.alloc (.cells #[.int .i64 n,.slice Ab l.length cb] 24)) (.cells #[.slice none 0 0,.slice none 0 0] 64);have hzz:(w3.alloc (.cells #[.int .i64 n,.slice Ab l.length cb] 24)).heap.size=w3.heap.size+1:=by simp
 rw[hzz] at tb3
 have mk3:Mk w ((w3.alloc (.cells #[.int .i64 n,.slice Ab l.length cb] 24)).alloc (.cells #[.slice none 0 0,.slice none 0 0] 64)) n A c l w3.heap.size (w3.heap.size+1) Ab cb none 0 0 [] [] none 0 0 [] [] :=
  ⟨blk_alloc (blk_alloc hbox3 _) _,blk_alloc (blk_alloc hres3 _) _,bk3,((ownb.mono H2.size).alloc _).alloc _,tb3,Tb.nil _ _ _,Tb.nil _ _ _,(fun g h=>by cases h),by omega,(H3.alloc H3.size _).alloc (by simp;have:=H3.size;omega) _⟩
 have MK3:=hid mk3;clear mk3 bk3 tb3 hzz hbox3 hres3 ownb hb3 BOX2 RES2 KT p0 p1;go_wp2;generalize ((w3.alloc (.cells #[.int .i64 n,.slice Ab l.length cb] 24)).alloc (.cells #[.slice none 0 0,.slice none 0 0] 64))=w5 at *;obtain⟨X,hX⟩:∃X,X=w3.heap.size:=⟨_,rfl⟩;obtain⟨T,hT⟩:∃T,T=w3.heap.size+1:=⟨_,rfl⟩;rw[<-hT, <-hX] at MK3;rw[<-hT, <-hX];clear hT hX
 go_loopw [33] (fun s wr=>∃(k:Nat) (A1:Option Addr) (c1:Nat) (R1:List Nat) (D1:List (List Int)) (A2:Option Addr) (c2:Nat) (R2:List Nat) (D2:List (List Int)),k<=ms.length/\s= .int .i64 k/\Mk w wr n A c l X T Ab cb A1 k c1 R1 D1 A2 k c2 R2 D2/\Hid (∀i (h:i<ms.length),i<k->Sh n ms[i] l (D1.getD i [])/\Sh n ms[i] (tl l) (D2.getD i []))) (fun s _=>ms.length - (intOf s).toNat)
 case atStart=>exact⟨0,none,0,[],[],none,0,[],[],Nat.zero_le _,rfl,MK3.out,hid fun i _ h=>absurd h (Nat.not_lt_zero _)⟩
 case round =>
  clear MK3;obtain⟨k,A1,c1,R1,D1,A2,c2,R2,D2,hk,rfl,hmk,hsh0⟩:=hrel
  by_cases hlt:k<ms.length
  ·obtain⟨bm,om,rfl,hbm,hcm⟩:=(HSM0.out.keep hmk.lo zzL).atI hlt
   obtain⟨m0,m1⟩:=HR.out _ (List.getElem_mem hlt);obtain⟨m,hmm⟩:=Int.eq_ofNat_of_zero_le m0;have hmn:m<n:=by omega
   rw[hmm] at hcm;have HMM:=hid hmm;have kr:=KRUN.out m hmn;have kr2:=KRUN2.out m hmn Ab cb;have KR:=hid kr;have KR2:=hid kr2;have b0:=blk_cell hmk.box 0;have b1:=blk_cell hmk.box 1;have t0:=blk_cell hmk.tbl 0;have t1:=blk_cell hmk.tbl 1;simp only[zzG,zzH,zzI] at b0 b1 t0 t1;have hSLN:=((HSL0.out.keep hmk.lo zzL).more hmk.lo.size).keep (Below.refl _ _).drew zzL;have SLN:=hid hSLN;have MK0:=hid hmk;clear hmm kr kr2 m0 m1 hSLN hmk;go_wp2;refine Sink.wp_region_sink 4 8 (fun w'=>w'.cell? ⟨T,0,none⟩=some (.slice A1 k c1)/\w'.cell? ⟨w.heap.size,0,none⟩=some (.int .i64 n)/\w'.cell? ⟨w.heap.size,1,none⟩=some (.slice A l.length c)) (by kernel_rfl) (by kernel_rfl) ?_ (fun hHeld=> ?_)
   ·go_keep
   simp only[List.take_succ_cons,List.take_zero,List.drop_succ_cons,List.drop_zero]
   repeat
    (refine Sink.Head.cons ?_ (by rfl) (fun w' hSw=> ?_) ?_
     rotate_left
     ·((try dsimp only at hSw);go_split_ands;go_simp;try with_reducible rfl)
     simp only[Act.put,zzD,zzE,zzF])
   refine Sink.Head.nil ?_;refine Sink.Tail.cons (fun K hK=> ?_);go_simp;go_at_call 20;refine(KR.out _ SLN.out).mono ?_;rintro e wd ⟨S,D,rfl,ownD,hsh,hbd⟩;have hbd0:Below wr.heap.size wr wd:=((Below.refl _ _).drew).trans hbd;have mkd:=MK0.out.keep hbd0;have x0:=blk_cell mkd.tbl 0;have x1:=blk_cell mkd.box 0;have x2:=blk_cell mkd.box 1;simp only[zzG,zzH,zzI] at x0 x1 x2;have OWND:=hid (ownD.mono (show w.heap.size<=_ from MK0.out.lo.size));have HSH:=hid hsh;have MKD:=hid mkd;have hzd:=mkd.lo.size;clear ownD hsh hbd hbd0 mkd;refine hK.out _ _ ⟨x0,x1,x2⟩ (fun hH2=> ?_);clear hK K hHeld;refine Sink.Tail.cons (fun K hK=> ?_);go_simp;refine hK.out _ _ (by go_keep) (fun hH3=> ?_);clear hK K hH2;refine Sink.Tail.cons (fun K hK=> ?_);refine step_push _ rfl (.tmp 38) (.tmp 42) _ rfl w.heap.size 25 r0 _ 1 24 (cr n) Tryz.underlying31 hri hrz0 hrz1 hrz2 rfl (by decide) _ R1 k MKD.out.t1.len rfl (MKD.out.t1.own.alloc _) wd.heap.size 1 S rfl (newsr (by rfl)) (fun _ _=>one_cr _ _ _) (by omega) (by omega) (by simp;omega) ?_;intro A4 c4 w4 hown4 hgrow4 hat4;obtain⟨ht4,mk4⟩:=(MKD.out.keep (by exact(Below.refl _ _).alloc zzL _)).first hgrow4 hown4 (OWND.out.alloc _) (by have:=HSH.out.len;omega) (by rcases hat4 with h1|h1;exact .inl ((ob_eq A4 (k+1) c4).symm.trans (h1.trans (ob_eq A1 k c1)));exact .inr ⟨_,(ob_eq ..).symm.trans h1,by simp⟩);have y0:=blk_cell ht4 0;have yf:=blk_free ht4 0;have hbb4:=blk_grown (blk_alloc MKD.out.box _) hgrow4 (MKD.out.t1.own.ne_ MKD.out.box (by decide));have y1:=blk_cell hbb4 0;have y2:=blk_cell hbb4 1;simp only[zzG,zzH,zzI] at y0 y1 y2;have MK4:=hid mk4;refine hK.out _ _ ⟨y0,y1,y2⟩ (fun hH4=> ?_);clear hK K hH3;refine Sink.Tail.cons (fun K hK=> ?_);go_simp;refine hK.out _ _ hH4 (fun hH5=> ?_);clear hK K hH4;refine Sink.Tail.one ?_;clear hown4 hgrow4 hat4 ht4 mk4 hbb4 hH5;go_wp2;refine NoPanic.normal ?_;generalize (w4.setCell ⟨T,0,none⟩ (.slice A4 (k+1) c4))=w6 at MK4 ⊢;have mk6:=MK4.out;have b0':=blk_cell mk6.bk 0;have b1':=blk_cell mk6.bk 1;have t0':=blk_cell mk6.tbl 0;have t1':=blk_cell mk6.tbl 1;simp only[zzG,zzH,zzI] at b0' b1' t0' t1';have hSLN:=mk6.back.sl.2.keep (Below.refl _ _).drew zzL;have SLN2:=hid hSLN;clear mk6 hSLN b0 b1 t0 t1 x0 x1 x2 y0 y1 y2 yf hzd;go_wp2;refine Sink.wp_region_sink 4 8 (fun w'=>w'.cell? ⟨T,1,none⟩=some (.slice A2 k c2)/\w'.cell? ⟨X,0,none⟩=some (.int .i64 n)/\w'.cell? ⟨X,1,none⟩=some (.slice Ab l.length cb)) (by kernel_rfl) (by kernel_rfl) ?_ (fun hHeld=> ?_)
   ·go_keep
   simp only[List.take_succ_cons,List.take_zero,List.drop_succ_cons,List.drop_zero]
   repeat
    (refine Sink.Head.cons ?_ (by rfl) (fun w' hSw=> ?_) ?_
     rotate_left
     ·((try dsimp only at hSw);go_split_ands;go_simp;try with_reducible rfl)
     simp only[Act.put,zzD,zzE,zzF])
   refine Sink.Head.nil ?_;refine Sink.Tail.cons (fun K hK=> ?_);go_simp;go_at_call 20;refine(KR2.out _ SLN2.out).mono ?_;rintro e wd8 ⟨S8,D8,rfl,ownD,hsh,hbd⟩;have hbd0:Below w6.heap.size w6 wd8:=((Below.refl _ _).drew).trans hbd;have mkd8:=MK4.out.keep hbd0;have x0:=blk_cell mkd8.tbl 1;have x1:=blk_cell mkd8.bk 0;have x2:=blk_cell mkd8.bk 1;simp only[zzG,zzH,zzI] at x0 x1 x2;have OWND8:=hid (ownD.mono (show w.heap.size<=_ from MK4.out.lo.size));have HSH8:=hid hsh;have MKD8:=hid mkd8;have hzd8:=mkd8.lo.size;clear ownD hsh hbd hbd0 mkd8;refine hK.out _ _ ⟨x0,x1,x2⟩ (fun hH2=> ?_);clear hK K hHeld;refine Sink.Tail.cons (fun K hK=> ?_);go_simp;refine hK.out _ _ (by go_keep) (fun hH3=> ?_);clear hK K hH2;refine Sink.Tail.cons (fun K hK=> ?_);refine step_push _ rfl (.tmp 46) (.tmp 50) _ rfl w.heap.size 25 r0 _ 1 24 (cr n) Tryz.underlying31 hri hrz0 hrz1 hrz2 rfl (by decide) _ R2 k MKD8.out.t2.len rfl (MKD8.out.t2.own.alloc _) wd8.heap.size 1 S8 rfl (newsr (by rfl)) (fun _ _=>one_cr _ _ _) (by omega) (by omega) (by simp;omega) ?_;intro A8 c8 w8 hown8 hgrow8 hat8;obtain⟨ht8,mk8⟩:=(MKD8.out.keep (by exact(Below.refl _ _).alloc zzL _)).second hgrow8 hown8 (OWND8.out.alloc _) (by have:=HSH8.out.len;omega) (by rcases hat8 with h1|h1;exact .inl ((ob_eq A8 (k+1) c8).symm.trans (h1.trans (ob_eq A2 k c2)));exact .inr ⟨_,(ob_eq ..).symm.trans h1,by simp⟩);have y0:=blk_cell ht8 1;have yf:=blk_free ht8 1;have hbb8:=blk_grown (blk_alloc MKD8.out.bk _) hgrow8 (MKD8.out.t2.own.ne_ MKD8.out.bk (by decide));have y1:=blk_cell hbb8 0;have y2:=blk_cell hbb8 1;simp only[zzG,zzH,zzI] at y0 y1 y2;have MK8:=hid mk8;refine hK.out _ _ ⟨y0,y1,y2⟩ (fun hH4=> ?_);clear hK K hH3;refine Sink.Tail.cons (fun K hK=> ?_);go_simp;refine hK.out _ _ hH4 (fun hH5=> ?_);clear hK K hH4;refine Sink.Tail.one ?_;clear hown8 hgrow8 hat8 ht8 mk8 hbb8 hH5;go_wp2;refine NoPanic.normal ?_;generalize (w8.setCell ⟨T,1,none⟩ (.slice A8 (k+1) c8))=w9 at MK8 ⊢;clear b0' b1' t0' t1' x0 x1 x2 y0 y1 y2 yf hzd8;go_wp2
   go_roundw
   case rel =>
    refine⟨k+1,A4,c4,_,_,A8,c8,_,_,by omega,by go_num,MK8.out,hid fun i h hi=> ?_⟩;have e1:=MK0.out.t1.dlen;have e2:=MK0.out.t2.dlen
    by_cases e:i<k
    ·rw[List.getD_eq_getElem?_getD,List.getElem?_append_left (by omega), <-List.getD_eq_getElem?_getD,List.getD_eq_getElem?_getD (l:=D2++_),List.getElem?_append_left (by omega), <-List.getD_eq_getElem?_getD]
     exact hsh0.out i h e
    ·obtain rfl:i=k:=by omega
     rw[List.getD_eq_getElem?_getD,List.getElem?_append_right (by omega),List.getD_eq_getElem?_getD (l:=D2++_),List.getElem?_append_right (by omega),e1,e2,Nat.sub_self,HMM.out];exact⟨HSH.out,HSH8.out⟩
   case measure=>simp[intOf];omega
  ·obtain rfl:k=ms.length:=by omega
   have t0:=blk_cell hmk.tbl 0;have t1:=blk_cell hmk.tbl 1;have s0:=blk_cell hmk.res 0;have s1:=blk_cell hmk.res 1;have f0:=blk_free hmk.res 0;have f1:=blk_free hmk.res 1;simp only[zzG,zzH,zzI] at t0 t1 s0 s1;have hB:=hmk.lo;have k1:=hmk.t1.setCell (p:=⟨w.heap.size+1,0,none⟩) hmk.res (by decide) (by decide) (.slice A1 ms.length c1);have k2:=hmk.t2.setCell (p:=⟨w.heap.size+1,0,none⟩) hmk.res (by decide) (by decide) (.slice A1 ms.length c1);have hres2:=blk_set hmk.res 0 (.slice A1 ms.length c1);have k3:=k1.setCell (p:=⟨w.heap.size+1,1,none⟩) hres2 (by decide) (by decide) (.slice A2 ms.length c2);have k4:=k2.setCell (p:=⟨w.heap.size+1,1,none⟩) hres2 (by decide) (by decide) (.slice A2 ms.length c2);have K3:=hid k3;have K4:=hid k4;have hzr:=lt_of_block hmk.res;clear k1 k2 k3 k4 hres2 hmk;go_wp2;refine bodyPost_ret (v:= .tuple #[.agg #[.slice A1 ms.length c1,.slice A2 ms.length c2],.int .i64 0]) (by simp[results,Tryz.results21,go_sem,f0,f1,s0,s1]) rfl ?_;exact⟨A1,c1,R1,D1,A2,c2,R2,D2,rfl,K3.out,K4.out,fun i h=>hsh0.out i h h,(hB.setCell (by dsimp only;omega) _).setCell (by dsimp only;omega) _⟩
end Heur
namespace HeurLaw
open NetLaw BellLaw DijkLaw
theorem sh_bd {n fr:Nat} {l:List E} {Z:List Int} (hZ:Sh n fr l Z) (hg:NetLaw.Good n l) (hc:∀e∈l,1<=e.2.2) {v:Int} (hv:0<=v/\v<n) (hf:dg Z v<far):dg Z v<=640000:=by
 have key:∀k:Nat,∀v:Int,0<=v/\v<n->dg Z v<far->BellSh.rank n Z v<=k->dg Z v<=10000*(k:Int):=by
  intro k
  induction k with
  |zero =>
   intro v hv hf hr
   by_cases e:v=fr
   ·rw[e,hZ.st];simp
   ·obtain⟨x,hx,h1,h2,h3⟩:=BellSh.pred hZ hg.ends hc hv hf e
    have:=BellSh.rank_lt (n:=n) ⟨(hg.ends x hx).1,(hg.ends x hx).2.1⟩ h3;omega
  |succ k ih =>
   intro v hv hf hr
   by_cases e:v=fr
   ·rw[e,hZ.st];omega
   ·obtain⟨x,hx,h1,h2,h3⟩:=BellSh.pred hZ hg.ends hc hv hf e
    have h4:=BellSh.rank_lt (n:=n) ⟨(hg.ends x hx).1,(hg.ends x hx).2.1⟩ h3;have h5:=ih x.1 ⟨(hg.ends x hx).1,(hg.ends x hx).2.1⟩ (by omega) (by omega);have:=(hg.cost x hx).2;omega
 have h1:=BellSh.rank_le (Z:=Z) hv;have h2:=key 63 v hv hf (by have:=hg.hi;omega);omega
def lst (a b:Int):Int:=if a=far then 0 else if b=far then far else max 0 (b - a)
theorem lst_bd {a b:Int} (ha:0<=a) (hb:0<=b/\b<=far):0<=lst a b/\lst a b<=far:=by
 unfold lst far at *;split
 ·omega
 ·split <;> omega
theorem lst_self (a:Int):lst a a=0:=by unfold lst;split <;> omega
section
variable {n m:Nat} {l:List E} {D:List Int} {t:Int}
theorem lst_from (h:Sh n m l D) (hg:NetLaw.Good n l) (hc:∀e∈l,1<=e.2.2) (ht:0<=t/\t<n) {e:E} (he:e∈l):lst (dg D e.1) (dg D t)<=e.2.2+lst (dg D e.2.1) (dg D t):=by
 obtain⟨a0,a1,b0,b1⟩:=hg.ends e he;have h1:=h.lo e.1 a0 a1;have h2:=h.lo e.2.1 b0 b1;have h3:=h.lo t ht.1 ht.2;have h4:=hc e he;have h7:=(hg.cost e he).2;have h5:=h.still e he;have h6:dg D e.1<far->dg D e.1<=640000:=fun hf=>sh_bd h hg hc ⟨a0,a1⟩ hf;unfold lst;generalize dg D e.1=a at *;generalize dg D e.2.1=b at *;generalize dg D t=z at *;unfold far at *;split
 ·split
  ·omega
  ·split <;> omega
 ·have h8:=h5 (by omega)
  have h9:=h6 (by omega);split
  ·rw[if_neg (by omega)]
   omega
  ·rw[if_neg (by omega)]
   omega
theorem good_turned {N:Int} (h:NetLaw.Good N l):NetLaw.Good N (DijkTurnsPlain.turned l):=by
 refine⟨h.lo,h.hi,by unfold DijkTurnsPlain.turned;rw[List.length_map];exact h.len,fun e he=> ?_,fun e he=> ?_⟩
 ·unfold DijkTurnsPlain.turned at he;rw[List.mem_map] at he;obtain⟨x,hx,rfl⟩:=he
  have:=h.ends x hx;exact⟨this.2.2.1,this.2.2.2,this.1,this.2.1⟩
 ·unfold DijkTurnsPlain.turned at he;rw[List.mem_map] at he;obtain⟨x,hx,rfl⟩:=he
  exact h.cost x hx
theorem cost_turned (hc:∀e∈l,1<=e.2.2):∀e∈DijkTurnsPlain.turned l,1<=e.2.2:=fun e he=>by
 unfold DijkTurnsPlain.turned at he;rw[List.mem_map] at he;obtain⟨x,hx,rfl⟩:=he;exact hc x hx
theorem lst_to (h:Sh n m (DijkTurnsPlain.turned l) D) (hg:NetLaw.Good n l) (hc:∀e∈l,1<=e.2.2) (ht:0<=t/\t<n) {e:E} (he:e∈l):lst (dg D t) (dg D e.1)<=e.2.2+lst (dg D t) (dg D e.2.1):=by
 obtain⟨a0,a1,b0,b1⟩:=hg.ends e he;have h1:=h.lo e.1 a0 a1;have h2:=h.lo e.2.1 b0 b1;have h3:=h.lo t ht.1 ht.2;have h4:=hc e he;have h7:=(hg.cost e he).2;have hm:((e.2.1,e.1,e.2.2):E)∈DijkTurnsPlain.turned l:=by unfold DijkTurnsPlain.turned;rw[List.mem_map];exact⟨e,he,rfl⟩
 have h5:=h.still _ hm;have h6:dg D e.2.1<far->dg D e.2.1<=640000:=fun hf=>sh_bd h (good_turned hg) (cost_turned hc) ⟨b0,b1⟩ hf;simp only at h5;unfold lst;generalize dg D e.1=a at *;generalize dg D e.2.1=b at *;generalize dg D t=z at *;unfold far at *;split
 ·omega
 ·by_cases hb:b=1099511627776
  ·rw[if_pos hb]
   split <;> omega
  ·have h8:=h5 (by omega)
   have h9:=h6 (by omega);rw[if_neg hb,if_neg (by omega)];omega
def bdl (D1 D2:List (List Int)) (v t:Int):Nat->Int
 |0=>0
 |k+1=>max (max (bdl D1 D2 v t k) (lst (dg (D1.getD k []) v) (dg (D1.getD k []) t))) (lst (dg (D2.getD k []) t) (dg (D2.getD k []) v))
def Lm (n:Nat) (l:List E) (ms:List Int) (D1 D2:List (List Int)):Prop:=∀i (h:i<ms.length),Sh n ms[i] l (D1.getD i [])/\Sh n ms[i] (DijkTurnsPlain.turned l) (D2.getD i [])
def bls (n:Nat) (D1 D2:List (List Int)) (t:Int) (k:Nat):Nat->List Int:=fun m=>(List.range m).map fun (v:Nat)=>bdl D1 D2 v t k
theorem bls_len (D1 D2:List (List Int)) (t:Int) (k m:Nat):(bls n D1 D2 t k m).length=m:=by simp[bls]
theorem bls_snoc (D1 D2:List (List Int)) (t:Int) (k m:Nat):bls n D1 D2 t k (m+1)=bls n D1 D2 t k m++[bdl D1 D2 m t k]:=by simp[bls,List.range_succ]
theorem dg_bls {D1 D2:List (List Int)} {k:Nat} {v:Int} (v0:0<=v) (v1:v<m):dg (bls n D1 D2 t k m) v=bdl D1 D2 v t k:=by
 obtain⟨v,rfl⟩:=Int.eq_ofNat_of_zero_le v0
 conv=>lhs;unfold dg
 rw[Int.toNat_natCast,List.getD_eq_getElem?_getD,List.getElem?_eq_getElem (by rw[bls_len];omega),Option.getD_some];simp[bls]
variable {ms:List Int} {D1 D2:List (List Int)}
theorem bdl_bd (hL:Lm n l ms D1 D2) (ht:0<=t/\t<n) {v:Int} (hv:0<=v/\v<n):∀k,k<=ms.length->0<=bdl D1 D2 v t k/\bdl D1 D2 v t k<=far:=by
 intro k
 induction k with
 |zero=>intro _;unfold bdl far;omega
 |succ k ih =>
  intro hk;have h:=ih (by omega);obtain⟨s1,s2⟩:=hL k (by omega);have b1:=lst_bd (s1.lo v hv.1 hv.2).1 (s1.lo t ht.1 ht.2);have b2:=lst_bd (s2.lo t ht.1 ht.2).1 (s2.lo v hv.1 hv.2);unfold bdl;omega
theorem ms_nat (hL:Lm n l ms D1 D2) (hr:∀v∈ms,0<=v/\v<n) {k:Nat} (hk:k<ms.length):∃m:Nat,Sh n m l (D1.getD k [])/\Sh n m (DijkTurnsPlain.turned l) (D2.getD k []):=by
 obtain⟨a,b⟩:=hr _ (List.getElem_mem hk);obtain⟨m,hm⟩:=Int.eq_ofNat_of_zero_le a;have:=hL k hk;rw[hm] at this;exact⟨m,this⟩
theorem bdl_edge (hL:Lm n l ms D1 D2) (hr:∀v∈ms,0<=v/\v<n) (hg:NetLaw.Good n l) (hc:∀e∈l,1<=e.2.2) (ht:0<=t/\t<n) {e:E} (he:e∈l):∀k,k<=ms.length->bdl D1 D2 e.1 t k<=e.2.2+bdl D1 D2 e.2.1 t k:=by
 intro k
 induction k with
 |zero=>intro _;unfold bdl;have:=hc e he;omega
 |succ k ih =>
  intro hk;have h:=ih (by omega);obtain⟨m,s1,s2⟩:=ms_nat hL hr (show k<ms.length by omega);have b1:=lst_from s1 hg hc ht he;have b2:=lst_to s2 hg hc ht he;unfold bdl;omega
theorem bdl_self (D1 D2:List (List Int)) (t:Int):∀k,bdl D1 D2 t t k=0:=by
 intro k
 induction k with
 |zero=>rfl
 |succ k ih=>unfold bdl;rw[ih,lst_self,lst_self];rfl
theorem bls_cons (hL:Lm n l ms D1 D2) (hr:∀v∈ms,0<=v/\v<n) (hg:NetLaw.Good n l) (hc:∀e∈l,1<=e.2.2) (ht:0<=t/\t<n):Cons n t l (bls n D1 D2 t ms.length n):=by
 refine⟨by rw[bls_len],fun x hx=> ?_,?_,fun e he=> ?_⟩
 ·unfold bls at hx
  rw[List.mem_map] at hx;obtain⟨v,hv,rfl⟩:=hx;rw[List.mem_range] at hv;exact bdl_bd hL ht ⟨by omega,by omega⟩ _ zzL
 ·rw[dg_bls ht.1 ht.2,bdl_self]
 ·obtain⟨a0,a1,b0,b1⟩:=hg.ends e he
  rw[dg_bls a0 a1,dg_bls b0 b1];exact bdl_edge hL hr hg hc ht he _ zzL
end
end HeurLaw
namespace Heur
open Go.RowKit NetLaw BellLaw DijkLaw HeurLaw Net Dijk Go.Proofs.YtjebckehmmbkbaaGreat.Std
theorem least_any (a b:Int) (w:World) (ha:0<=a/\a<=1099511627776) (hb:0<=b/\b<=1099511627776):Calls Tryz.prog 64 #[.int .i64 a,.int .i64 b] w fun e w'=>e= .returned (.int .i64 (lst a b))/\w'=w:=by
 obtain⟨a0,a1⟩:=ha;obtain⟨b0,b1⟩:=hb
 by_cases h1:a=1099511627776
 ·have hl:lst a b=0:=by unfold lst far;rw[if_pos h1]
  rw[hl];have hd:(a == 1099511627776)=true:=by rw[beq_iff_eq];exact h1
  clear hl h1;go_enter Tryz.func64,Tryz.ntmps64;go_wp2;go_ret;exact⟨rfl,rfl⟩
 ·have hd:(a == 1099511627776)=false:=by rw[beq_eq_false_iff_ne];exact h1
  by_cases h2:b=1099511627776
  ·have hl:lst a b=1099511627776:=by unfold lst far;rw[if_neg h1,if_pos h2]
   rw[hl];have hd2:(b == 1099511627776)=true:=by rw[beq_iff_eq];exact h2
   clear hl h1 h2;go_enter Tryz.func64,Tryz.ntmps64;go_wp2;go_ret;exact⟨rfl,rfl⟩
  ·have hd2:(b == 1099511627776)=false:=by rw[beq_eq_false_iff_ne];exact h2
   have hl:lst a b=max 0 (b - a):=by unfold lst far;rw[if_neg h1,if_neg h2]
   rw[hl];clear hl h1 h2
   by_cases h3:a<b
   ·have hm:max 0 (b - a)=b - a:=by omega
    rw[hm];clear hm;go_enter Tryz.func64,Tryz.ntmps64;go_wp2;go_ret;exact⟨rfl,rfl⟩
   ·have hm:max 0 (b - a)=0:=by omega
    rw[hm];clear hm;go_enter Tryz.func64,Tryz.ntmps64;go_wp2;go_ret;exact⟨rfl,rfl⟩
theorem bound_any (n:Nat) (base:Nat) (A1 A2:Option Addr) (m c1 c2:Nat) (R1 R2:List Nat) (D1 D2:List (List Int)) (v t:Nat) (w:World) (h1:Tb w base n A1 m c1 R1 D1) (h2:Tb w base n A2 m c2 R2 D2) (hm:m<=4) (hv:v<n) (ht:t<n) (hn:n<=64)
 (hb:∀i,i<m->∀u:Nat,u<n->(0<=dg (D1.getD i []) u/\dg (D1.getD i []) u<=1099511627776)/\0<=dg (D2.getD i []) u/\dg (D2.getD i []) u<=1099511627776) :
 Calls Tryz.prog 22 #[.agg #[.slice A1 m c1,.slice A2 m c2],.int .i64 v,.int .i64 t] w fun e w'=>e= .returned (.int .i64 (bdl D1 D2 v t m))/\Below w.heap.size w w':=by
 have hw0:Below w.heap.size w (w.alloc (.cells #[.slice A1 m c1,.slice A2 m c2] 64)):=(Below.refl _ _).alloc zzL _;have k1:=h1.keep hw0;have k2:=h2.keep hw0;have hbx:=heap_alloc_new w (.cells #[.slice A1 m c1,.slice A2 m c2] 64);have K1:=hid k1;have K2:=hid k2;have HBX:=hid hbx;have HB:=hid hb;clear k1 k2 hbx hb h1 h2;go_enter Tryz.func22,Tryz.ntmps22;go_wp2
 go_loopw [7,12] (fun s7 s wr=>∃k:Nat,k<=m/\s= .int .i64 k/\s7= .int .i64 (bdl D1 D2 v t k)/\∃q,wr=(w.alloc (.cells #[.slice A1 m c1,.slice A2 m c2] 64)).drewN q) (fun _ s _=>m - (intOf s).toNat)
 case atStart=>exact⟨0,Nat.zero_le _,rfl,rfl,0,rfl⟩
 case round =>
  obtain⟨k,hk,rfl,rfl,q,rfl⟩:=hrel;have hbw:Below w.heap.size w ((w.alloc (.cells #[.slice A1 m c1,.slice A2 m c2] 64)).drewN q):=below_drewN hw0 q;have hb0:Below (w.alloc (.cells #[.slice A1 m c1,.slice A2 m c2] 64)).heap.size (w.alloc (.cells #[.slice A1 m c1,.slice A2 m c2] 64)) ((w.alloc (.cells #[.slice A1 m c1,.slice A2 m c2] 64)).drewN q):=below_drewN (Below.refl _ _) q;have kk1:=K1.out.keep hb0;have kk2:=K2.out.keep hb0;have hbk:=blk_below HBX.out hb0 (by simp);generalize hW:((w.alloc (.cells #[.slice A1 m c1,.slice A2 m c2] 64)).drewN q)=W at *;have b0:=blk_cell hbk 0;have b1:=blk_cell hbk 1;simp only[zzG,zzH,zzI] at b0 b1;have HW:=hid hW;clear hb0 hbk hW
  by_cases hlt:k<m
  ·obtain⟨g1,S1,rfl,hg1,hS1,e1,r1⟩:=kk1.at_ hlt hv
   obtain⟨g2,S2,rfl,hg2,hS2,e2,r2⟩:=kk2.at_ hlt hv;have x1:=r1 v hv;have x2:=r1 t ht;have x3:=r2 v hv;have x4:=r2 t ht;obtain⟨y1,y3⟩:=HB.out k hlt v hv;obtain⟨y2,y4⟩:=HB.out k hlt t ht;have hst:bdl D1 D2 v t (k+1)=max (max (bdl D1 D2 v t k) (lst (dg (D1.getD k []) v) (dg (D1.getD k []) t))) (lst (dg (D2.getD k []) t) (dg (D2.getD k []) v)):=rfl;have l1:=fun W=>least_any (dg (D1.getD k []) v) (dg (D1.getD k []) t) W y1 y2;have l2:=fun W=>least_any (dg (D2.getD k []) t) (dg (D2.getD k []) v) W y4 y3;have L1:=hid l1;have L2:=hid l2;have HST:=hid hst;generalize lst (dg (D1.getD k []) v) (dg (D1.getD k []) t)=z1 at *;generalize lst (dg (D2.getD k []) t) (dg (D2.getD k []) v)=z2 at *;generalize bdl D1 D2 v t k=z0 at *;generalize dg (D1.getD k []) v=u1 at *;generalize dg (D1.getD k []) t=u2 at *;generalize dg (D2.getD k []) v=u3 at *;generalize dg (D2.getD k []) t=u4 at *;have hz:(k:Int)<(m:Int):=by omega
   have hz2:(v:Int)<(n:Int):=by omega
   have hz3:(t:Int)<(n:Int):=by omega
   clear kk1 kk2 r1 r2 hst l1 l2 y1 y2 y3 y4;go_wp2;go_quiet ((go_at_call 64;first|(with_reducible exact Calls.quiet_of_same (L1.out _))|(with_reducible exact Calls.quiet_of_same (L2.out _))));go_wp2
   have hmx:(if (if z0<z1 then z1 else z0)<z2 then z2 else if z0<z1 then z1 else z0)=max (max z0 z1) z2:=by
    split <;> split <;> omega
   have HMX:=hid hmx;clear hmx
   go_roundw
   case rel=>exact⟨k+1,by omega,by go_num,by rw[HST.out,HMX.out],q+nq,by rw[<-HW.out];first|rfl|exact World.drewN_drewN _ _ _⟩
   case measure=>simp[intOf];omega
  ·obtain rfl:k=m:=by omega
   clear kk1 kk2;go_wp2;go_ret;exact⟨rfl,hbw⟩
def OfSays (n:Nat) (l:List E) (ms:List Int) (t:Nat) (w:World) (e:Ending) (w':World):Prop :=
 ∃A' c' D1 D2,e= .returned (.tuple #[.slice A' n c',.int .i64 0])/\Own w' w.heap.size 3 1 ci (.slice A' n c') (bls n D1 D2 t ms.length n)/\HeurLaw.Lm n l ms D1 D2/\Below w.heap.size w w'
theorem infoIO:(Tryz.prog.info? 3).map (fun i=>(i.zero,i.size,i.bytes))=some (some (.int .i64 0),1,8):=by kernel_rfl
theorem of_yes (n:Nat) (A:Option Addr) (c:Nat) (l:List E) (Am:Option Addr) (cm:Nat) (ms:List Int) (t:Nat) (w:World) (hl:Sl w w.heap.size 3 ce A l) (hm:Sl w w.heap.size 1 ci Am ms) (hg:NetLaw.Good n l) (hc:∀e∈l,1<=e.2.2) (h4:ms.length<=4) (hr:∀v∈ms,0<=v/\v<n) (ht:t<n) :
 Calls Tryz.prog 5 #[.agg #[.int .i64 n,.slice A l.length c],.slice Am ms.length cm,.int .i64 t] w fun e w'=>OfSays n l ms t w e w':=by
 obtain⟨i0,hi,hz0,hz1,hz2⟩:=info_parts infoIO;have hN:=hg.hi;have hlen:=hg.len;have hw0:Below w.heap.size w (w.alloc (.cells #[.int .i64 n,.slice A l.length c] 24)):=(Below.refl _ _).alloc zzL _;have hz0':w.heap.size<=(w.alloc (.cells #[.int .i64 n,.slice A l.length c] 24)).heap.size:=by simp
 have box0:=heap_alloc_new w (.cells #[.int .i64 n,.slice A l.length c] 24);have km:=fun W h h'=>marks_yes n A c l Am cm ms W h h' hg hc h4 hr;have kl:=fun W A' h h'=>Dijk.look_any n A c l A' 1 1 [(t:Int)] W h h' rfl (by omega) (by decide);rw[look_good hg hc (ps:=[(t:Int)]) (by intro v hv;simp at hv;omega)] at kl;have KM:=hid km;have KL:=hid kl;have BOX0:=hid box0;have HSL0:=hid hl;have HSM0:=hid hm;clear km kl box0 hl hm hg hc hr;go_enter Tryz.func5,Tryz.ntmps5
 go_wp2_with fail
 refine(KM.out _ ((HSL0.out.keep hw0 zzL).more hz0') ((HSM0.out.keep hw0 zzL).more hz0')).mono ?_;rintro e w1 ⟨A1,c1,R1,D1,A2,c2,R2,D2,rfl,T1,T2,hsh,hb1⟩;obtain⟨m,hmm⟩:∃m,ms.length=m:=⟨_,rfl⟩;have HMM:=hid hmm;have H1:=hw0.trans (hb1.mono hz0');have hbox1:=blk_below BOX0.out hb1 (by simp);have hLm:HeurLaw.Lm n l ms D1 D2:=hsh;rw[hmm] at T1 T2 h4 ⊢;have hX:Below w1.heap.size w1 (w1.alloc (.cells #[.slice A1 m c1,.slice A2 m c2] 64)):=(Below.refl _ _).alloc zzL _;have tbx:=heap_alloc_new w1 (.cells #[.slice A1 m c1,.slice A2 m c2] 64);have H2:=H1.trans (hX.mono H1.size);have hsl2:=((HSL0.out.keep H2 zzL).more H2.size);have hY:Below (w1.alloc (.cells #[.slice A1 m c1,.slice A2 m c2] 64)).heap.size (w1.alloc (.cells #[.slice A1 m c1,.slice A2 m c2] 64)) ((w1.alloc (.cells #[.slice A1 m c1,.slice A2 m c2] 64)).alloc (.cells #[.int .i64 t] 3)):=(Below.refl _ _).alloc zzL _;have hZ:=hX.trans (hY.mono hX.size);have q0:=blk_cell hbox1 0;have q1:=blk_cell hbox1 1;simp only[zzG,zzH,zzI] at q0 q1;have hzw:=lt_of_block hbox1;have kk:=KL.out ((w1.alloc (.cells #[.slice A1 m c1,.slice A2 m c2] 64)).alloc (.cells #[.int .i64 t] 3)) (some ⟨w1.heap.size+1,0,none⟩) ((hsl2.keep hY zzL).more hY.size) (sl_new' (by decide) (w1.alloc (.cells #[.slice A1 m c1,.slice A2 m c2] 64)) #[.int .i64 t] 3 [(t:Int)] (by simp) rfl);have KK:=hid kk;have T1h:=hid ((T1.mono hz0').keep hZ);have T2h:=hid ((T2.mono hz0').keep hZ);have TBX:=hid (blk_alloc tbx (.cells #[.int .i64 t] 3));have BOX1:=hid (blk_below hbox1 hZ hzw);have H3:=H1.trans (hZ.mono H1.size);have HLM:=hid hLm;clear kk T1 T2 hsh hb1 hbox1 hLm hX tbx H2 hsl2 hY hmm KM KL BOX0 hZ H1
 go_wp2_with fail
 refine KK.out.mono ?_;generalize ((w1.alloc (.cells #[.slice A1 m c1,.slice A2 m c2] 64)).alloc (.cells #[.int .i64 t] 3))=w3 at *;rintro e w4 ⟨rfl,hb4⟩;have H4:=H3.trans (hb4.mono H3.size);have T14:=hid (T1h.out.keep hb4);have T24:=hid (T2h.out.keep hb4);have tb4:=blk_below TBX.out hb4 (lt_of_block TBX.out);have bx4:=blk_below BOX1.out hb4 (lt_of_block BOX1.out);have p0:=blk_cell bx4 0;simp only[zzG,zzH,zzI] at p0;have TB4:=hid tb4;have hzT:w1.heap.size<w4.heap.size:=lt_of_block tb4;clear hb4 tb4 bx4 T1h T2h TBX BOX1 H3 q0 q1 KK;go_wp2
 go_loopw [11,31] (fun s11 s wr=>∃(k:Nat) (A':Option Addr) (c':Nat),k<=n/\s= .int .i64 k/\s11= .slice A' k c'/\Own wr w4.heap.size 3 1 ci (.slice A' k c') (bls n D1 D2 t m k)/\Below w4.heap.size w4 wr) (fun _ s _=>n - (intOf s).toNat)
 case atStart=>exact⟨0,none,0,Nat.zero_le _,rfl,rfl,Own.nil_,Below.refl _ _⟩
 case round =>
  clear p0;obtain⟨k,A',c',hk,rfl,rfl,own,hB⟩:=hrel
  by_cases hlt:k<n
  ·have t1:=T14.out.keep hB
   have t2:=T24.out.keep hB;have htb:=blk_below TB4.out hB hzT;have b0:=blk_cell htb 0;have b1:=blk_cell htb 1;simp only[zzG,zzH,zzI] at b0 b1
   have hbd:∀i,i<m->∀u:Nat,u<n->(0<=dg (D1.getD i []) u/\dg (D1.getD i []) u<=1099511627776)/\0<=dg (D2.getD i []) u/\dg (D2.getD i []) u<=1099511627776:=fun i hi u hu=>by
    obtain⟨s1,s2⟩:=HLM.out i (by rw[HMM.out];exact hi);exact⟨s1.lo u (by omega) (by omega),s2.lo u (by omega) (by omega)⟩
   have kb:=bound_any n _ A1 A2 m c1 c2 R1 R2 D1 D2 k t wr t1 t2 h4 hlt ht (by omega) hbd;have hst:=bls_snoc (n:=n) (t:=(t:Int)) D1 D2 m k;have hpl:=bls_len (n:=n) (t:=(t:Int)) D1 D2 m k;have hdb:=bdl_bd (v:=(k:Int)) HLM.out ⟨by omega,(by omega:(t:Int)<n)⟩ ⟨by omega,by omega⟩ m (by rw[HMM.out];exact Nat.le_refl _);generalize bdl D1 D2 (k:Int) (t:Int) m=z at *;have KB:=hid kb;have HST:=hid hst;have HPL:=hid hpl;have HO:=hid own;clear kb hst hpl t1 t2 htb hbd own hdb
   go_wp2_with fail
   refine KB.out.mono ?_;rintro e w6 ⟨rfl,hb6⟩;have hB6:=hB.trans (hb6.mono hB.size);have own6:=(HO.out.keep hb6).alloc (.cells #[.int .i64 z] 3);have hz6:=hB6.size;have HLO:=hid own6.lo;clear hb6 b0 b1
   go_wp2_with (at_builtin;refine wpList_push _ rfl (.tmp 34) (.tmp 39) _ rfl w4.heap.size 3 i0 (.int .i64 0) 1 8 ci Tryz.underlying25 hi hz0 hz1 hz2 rfl (by decide) _ (bls n D1 D2 t m k) k HPL.out rfl own6 w6.heap.size 1 z rfl news1 (fun _ _=>one_ci _ _) (by omega) (by omega) (by simp;omega) ?_;intro A3 c3 w8 hown3 hgrow3 hat3;rw[<-HST.out] at hown3;have hB3:=(hB6.alloc hz6 (.cells #[.int .i64 z] 3)).grown hgrow3 (by simp;omega) HLO.out;have HOWN3:=hid hown3;clear hgrow3 hat3 hown3)
   go_roundw
   case rel=>exact⟨k+1,A3,c3,by omega,by go_num,rfl,HOWN3.out,hB3⟩
   case measure=>simp[intOf];omega
  ·obtain rfl:k=n:=by omega
   have HO:=hid (own.mono H4.size);have H5:=H4.trans (hB.mono H4.size);clear own;go_wp2;go_ret2;refine⟨A',c',D1,D2,rfl,?_,HLM.out,H5⟩;rw[HMM.out];exact HO.out
end Heur
namespace Heur
open Go.RowKit NetLaw BellLaw DijkLaw HeurLaw Net Dijk Go.Proofs.YtjebckehmmbkbaaGreat.Std
def OkM (N:Int) (l:List E) (ms:List Int):Prop:=Dijk.pos N l=0/\ms.length<=4/\Dijk.lookE N ms=0
theorem okM_iff {N:Int} {l:List E} {ms:List Int}:OkM N l ms ↔ (NetLaw.Good N l/\∀e∈l,1<=e.2.2)/\ms.length<=4/\∀v∈ms,0<=v/\v<N:=by
 unfold OkM;rw[lookE_zero]
 constructor
 ·rintro⟨a,b⟩;exact⟨Dijk.pos_zero a,b⟩
 ·rintro⟨⟨a,b⟩,c⟩;exact⟨pos_good a b,c⟩
def NoTab (w:World) (e:Ending) (w':World):Prop:=∃x:Int,x≠0/\e= .returned (.tuple #[.agg #[.slice none 0 0,.slice none 0 0],.int .i64 x])/\Below w.heap.size w w'
theorem marks_no (N:Int) (A:Option Addr) (c:Nat) (l:List E) (Am:Option Addr) (cm:Nat) (ms:List Int) (w:World) (hl:Sl w w.heap.size 3 ce A l) (hm:Sl w w.heap.size 1 ci Am ms) (hlen:l.length<=9223372036854775807) (hlm:ms.length<=9223372036854775807) (hno:¬OkM N l ms) :
 Calls Tryz.prog 21 #[.agg #[.int .i64 N,.slice A l.length c],.slice Am ms.length cm] w fun e w'=>NoTab w e w':=by
 have hw0:Below w.heap.size w ((w.alloc (.cells #[.int .i64 N,.slice A l.length c] 24)).alloc (.cells #[.slice none 0 0,.slice none 0 0] 64)):=((Below.refl _ _).alloc zzL _).alloc (by simp) _;have hz0:w.heap.size<=((w.alloc (.cells #[.int .i64 N,.slice A l.length c] 24)).alloc (.cells #[.slice none 0 0,.slice none 0 0] 64)).heap.size:=by simp;omega
 have box0:=blk_alloc (heap_alloc_new w (.cells #[.int .i64 N,.slice A l.length c] 24)) (.cells #[.slice none 0 0,.slice none 0 0] 64);have res0:=heap_alloc_new (w.alloc (.cells #[.int .i64 N,.slice A l.length c] 24)) (.cells #[.slice none 0 0,.slice none 0 0] 64);have hzz:(w.alloc (.cells #[.int .i64 N,.slice A l.length c] 24)).heap.size=w.heap.size+1:=by simp
 rw[hzz] at res0;have kp:=fun W h=>Dijk.pos_any N A c l W h hlen;have BOX0:=hid box0;have RES0:=hid res0;have HSL0:=hid hl;have HSM0:=hid hm;have HNO:=hid hno;clear box0 res0 hl hm hzz hno
 by_cases hp:Dijk.pos N l=0
 ·have hlk:Dijk.look N l ms=Dijk.lookE N ms:=by unfold Dijk.look;rw[if_neg (by simpa using hp)]
  have kl:=fun W h h'=>Dijk.look_any N A c l Am cm ms.length ms W h h' rfl hlen hlm;rw[hlk] at kl;rw[hp] at kp;have KP:=hid kp;have KL:=hid kl;have HP:=hid hp;clear kp kl hlk hp;go_enter Tryz.func21,Tryz.ntmps21
  go_wp2_with fail
  refine(KP.out _ ((HSL0.out.keep hw0 zzL).more hz0)).mono ?_;rintro e w1 ⟨rfl,hb1⟩;have H1:=hw0.trans (hb1.mono hz0);have hbox1:=blk_below BOX0.out hb1 (by simp;omega);have hres1:=blk_below RES0.out hb1 (by simp);have q0:=blk_cell hbox1 0;have q1:=blk_cell hbox1 1;have s0:=blk_cell hres1 0;have s1:=blk_cell hres1 1;have f0:=blk_free hres1 0;have f1:=blk_free hres1 1;simp only[zzG,zzH,zzI] at q0 q1 s0 s1;have RES1:=hid hres1;have hzr:=lt_of_block hres1;clear hbox1 hres1 hb1 BOX0 RES0 KP
  by_cases h4:4<ms.length
  ·have d4:decide ((ms.length:Int) > 4)=true:=by simp;omega
   have d5:(4:Int)<ms.length:=by omega
   go_wp2;refine bodyPost_ret (v:= .tuple #[.agg #[.slice none 0 0,.slice none 0 0],.int .i64 2]) (by simp[results,Tryz.results21,go_sem,f0,f1,s0,s1]) rfl ?_;exact⟨2,by decide,rfl,(H1.setCell (by dsimp only;omega) _).setCell (by dsimp only;omega) _⟩
  ·have d4:decide ((ms.length:Int) > 4)=false:=by simp;omega
   have hx:Dijk.lookE N ms≠0:=fun h=>HNO.out ⟨HP.out,by omega,h⟩;have kl:=KL.out w1 ((HSL0.out.keep H1 zzL).more H1.size) ((HSM0.out.keep H1 zzL).more H1.size);have hne:(Dijk.lookE N ms != 0)=true:=by rw[bne_iff_ne];exact hx
   generalize Dijk.lookE N ms=er at *;have KK:=hid kl;clear kl s0 s1 f0 f1
   go_wp2_with fail
   refine KK.out.mono ?_;rintro e w2 ⟨rfl,hb2⟩;have H2:=H1.trans (hb2.mono H1.size);have hres2:=blk_below RES1.out hb2 (lt_of_block RES1.out);have s0:=blk_cell hres2 0;have s1:=blk_cell hres2 1;have f0:=blk_free hres2 0;have f1:=blk_free hres2 1;simp only[zzG,zzH,zzI] at s0 s1;have hzr2:=lt_of_block hres2;clear hb2 hres2 q0 q1;go_wp2;refine bodyPost_ret (v:= .tuple #[.agg #[.slice none 0 0,.slice none 0 0],.int .i64 er]) (by simp[results,Tryz.results21,go_sem,f0,f1,s0,s1]) rfl ?_;exact⟨er,hx,rfl,(H2.setCell (by dsimp only;omega) _).setCell (by dsimp only;omega) _⟩
 ·have hne:(Dijk.pos N l != 0)=true:=by rw[bne_iff_ne];exact hp
  generalize Dijk.pos N l=er at *;have KP:=hid kp;clear kp;go_enter Tryz.func21,Tryz.ntmps21
  go_wp2_with fail
  refine(KP.out _ ((HSL0.out.keep hw0 zzL).more hz0)).mono ?_;rintro e w1 ⟨rfl,hb1⟩;have H1:=hw0.trans (hb1.mono hz0);have hres1:=blk_below RES0.out hb1 (by simp);have s0:=blk_cell hres1 0;have s1:=blk_cell hres1 1;have f0:=blk_free hres1 0;have f1:=blk_free hres1 1;simp only[zzG,zzH,zzI] at s0 s1;have hzr:=lt_of_block hres1;clear hres1 hb1 BOX0 RES0 KP;go_wp2;refine bodyPost_ret (v:= .tuple #[.agg #[.slice none 0 0,.slice none 0 0],.int .i64 er]) (by simp[results,Tryz.results21,go_sem,f0,f1,s0,s1]) rfl ?_;exact⟨er,hp,rfl,(H1.setCell (by dsimp only;omega) _).setCell (by dsimp only;omega) _⟩
def NoOf (w:World) (e:Ending) (w':World):Prop:=∃x:Int,x≠0/\e= .returned (.tuple #[.slice none 0 0,.int .i64 x])/\Below w.heap.size w w'
theorem of_no (N:Int) (A:Option Addr) (c:Nat) (l:List E) (Am:Option Addr) (cm:Nat) (ms:List Int) (t:Int) (w:World) (hl:Sl w w.heap.size 3 ce A l) (hm:Sl w w.heap.size 1 ci Am ms) (hlen:l.length<=9223372036854775807) (hlm:ms.length<=9223372036854775807) (hno:¬(OkM N l ms/\0<=t/\t<N)) :
 Calls Tryz.prog 5 #[.agg #[.int .i64 N,.slice A l.length c],.slice Am ms.length cm,.int .i64 t] w fun e w'=>NoOf w e w':=by
 have hw0:Below w.heap.size w (w.alloc (.cells #[.int .i64 N,.slice A l.length c] 24)):=(Below.refl _ _).alloc zzL _;have hz0':w.heap.size<=(w.alloc (.cells #[.int .i64 N,.slice A l.length c] 24)).heap.size:=by simp
 have box0:=heap_alloc_new w (.cells #[.int .i64 N,.slice A l.length c] 24);have BOX0:=hid box0;have HSL0:=hid hl;have HSM0:=hid hm;clear box0 hl hm
 by_cases hok:OkM N l ms
 ·obtain⟨⟨hg,hc⟩,h4,hr⟩:=okM_iff.1 hok
  have hN:=hg.lo;obtain⟨n,rfl⟩:=Int.eq_ofNat_of_zero_le (show 0<=N by omega);have km:=fun W h h'=>marks_yes n A c l Am cm ms W h h' hg hc h4 hr;have kl:=fun W A' h h'=>Dijk.look_any n A c l A' 1 1 [t] W h h' rfl hlen (by decide)
  have hlk:Dijk.look n l [t]≠0:=fun h=>by
   obtain⟨_,_,a,b⟩:=Dijk.look_zero h;exact hno ⟨hok,a,b⟩
  have hne:(Dijk.look n l [t] != 0)=true:=by rw[bne_iff_ne];exact hlk
  generalize Dijk.look n l [t]=er at *;have KM:=hid km;have KL:=hid kl;have hER:=hlk;clear km kl hg hc hr hno hok hlk;go_enter Tryz.func5,Tryz.ntmps5
  go_wp2_with fail
  refine(KM.out _ ((HSL0.out.keep hw0 zzL).more hz0') ((HSM0.out.keep hw0 zzL).more hz0')).mono ?_;rintro e w1 ⟨A1,c1,R1,D1,A2,c2,R2,D2,rfl,T1,T2,hsh,hb1⟩;have H1:=hw0.trans (hb1.mono hz0');have hbox1:=blk_below BOX0.out hb1 (by simp);have q0:=blk_cell hbox1 0;have q1:=blk_cell hbox1 1;simp only[zzG,zzH,zzI] at q0 q1;have hzw:=lt_of_block hbox1;have hZ:Below w1.heap.size w1 ((w1.alloc (.cells #[.slice A1 ms.length c1,.slice A2 ms.length c2] 64)).alloc (.cells #[.int .i64 t] 3)):=((Below.refl _ _).alloc zzL _).alloc (by simp) _;have H3:=H1.trans (hZ.mono H1.size);have kk:=KL.out ((w1.alloc (.cells #[.slice A1 ms.length c1,.slice A2 ms.length c2] 64)).alloc (.cells #[.int .i64 t] 3)) (some ⟨w1.heap.size+1,0,none⟩) ((HSL0.out.keep H3 zzL).more H3.size) (sl_new' (by decide) (w1.alloc (.cells #[.slice A1 ms.length c1,.slice A2 ms.length c2] 64)) #[.int .i64 t] 3 [t] (by simp) rfl);have KK:=hid kk;clear T1 T2 hsh hb1 hbox1 kk KM KL BOX0 hZ
  go_wp2_with fail
  refine KK.out.mono ?_;rintro e w4 ⟨rfl,hb4⟩;have H4:=H3.trans (hb4.mono H3.size);clear hb4 q0 q1;go_wp2;go_ret2;exact⟨er,hER,rfl,H4⟩
 ·have km:=fun W h h'=>marks_no N A c l Am cm ms W h h' hlen hlm hok
  have KM:=hid km;clear km hok hno;go_enter Tryz.func5,Tryz.ntmps5
  go_wp2_with fail
  refine(KM.out _ ((HSL0.out.keep hw0 zzL).more hz0') ((HSM0.out.keep hw0 zzL).more hz0')).mono ?_;rintro e w1 ⟨x,hx,rfl,hb1⟩;have H1:=hw0.trans (hb1.mono hz0');have hne:(x != 0)=true:=by rw[bne_iff_ne];exact hx
  clear hb1 KM BOX0;go_wp2;go_ret2;exact⟨x,hx,rfl,H1.alloc H1.size _⟩
end Heur
namespace Heur
open Go.RowKit NetLaw BellLaw DijkLaw HeurLaw Net Dijk Go.Proofs.YtjebckehmmbkbaaGreat.Std
def OfFact (N:Int) (l:List E) (ms:List Int) (t:Int) (m:Nat) (er:Int) (out:List Int):Prop :=
 (er≠0/\m=0/\¬(OkM N l ms/\0<=t/\t<N))\/(er=0/\(OkM N l ms/\0<=t/\t<N)/\(m:Int)=N/\∃D1 D2,Lm m l ms D1 D2/\out=bls m D1 D2 t ms.length m)
def OfAny (N:Int) (l:List E) (ms:List Int) (t:Int) (w:World) (e:Ending) (w':World):Prop :=
 ∃A' m' c' er out,e= .returned (.tuple #[.slice A' m' c',.int .i64 er])/\Own w' w.heap.size 3 1 ci (.slice A' m' c') out/\Below w.heap.size w w'/\Hid (OfFact N l ms t m' er out)
theorem of_any (N:Int) (A:Option Addr) (c:Nat) (l:List E) (Am:Option Addr) (cm:Nat) (ms:List Int) (k:Nat) (hk:ms.length=k) (t:Int) (w:World) (hl:Sl w w.heap.size 3 ce A l) (hm:Sl w w.heap.size 1 ci Am ms) (hlen:l.length<=9223372036854775807) (hlm:k<=9223372036854775807) :
 Calls Tryz.prog 5 #[.agg #[.int .i64 N,.slice A l.length c],.slice Am k cm,.int .i64 t] w fun e w'=>OfAny N l ms t w e w':=by
 subst hk
 by_cases hok:OkM N l ms/\0<=t/\t<N
 ·obtain⟨hm',f0,f1⟩:=hok
  obtain⟨⟨hg,hc⟩,h4,hr⟩:=okM_iff.1 hm';have hN:=hg.lo;obtain⟨n,rfl⟩:=Int.eq_ofNat_of_zero_le (show 0<=N by omega);obtain⟨t,rfl⟩:=Int.eq_ofNat_of_zero_le f0;refine(of_yes n A c l Am cm ms t w hl hm hg hc h4 hr (by omega)).mono ?_;rintro e w' ⟨A',c',D1,D2,h1,h2,h3,h5⟩;exact⟨A',n,c',0,_,h1,h2,h5,hid (.inr ⟨rfl,⟨hm',f0,f1⟩,rfl,D1,D2,h3,rfl⟩)⟩
 ·refine(of_no N A c l Am cm ms t w hl hm hlen hlm hok).mono ?_
  rintro e w' ⟨x,h1,h2,h3⟩;exact⟨none,0,0,x,[],h2,Own.nil_,h3,hid (.inl ⟨h1,rfl,hok⟩)⟩
end Heur
namespace HeurLaw
open NetLaw BellLaw DijkLaw
theorem lst_small {a b:Int} (ha:0<=a) (hb:b<far->b<=640000) (hb0:b<=far) (hf:lst a b<far):lst a b<=640000:=by
 unfold lst at *;split
 ·decide
 ·rename_i h1
  rw[if_neg h1] at hf;split
  ·rename_i h2
   rw[if_pos h2] at hf;omega
  ·rename_i h2
   have:=hb (by omega);omega
section
variable {n:Nat} {l:List E} {ms:List Int} {D1 D2:List (List Int)} {t:Int}
theorem bdl_small (hL:Lm n l ms D1 D2) (hr:∀v∈ms,0<=v/\v<n) (hg:NetLaw.Good n l) (hc:∀e∈l,1<=e.2.2) (ht:0<=t/\t<n) {v:Int} (hv:0<=v/\v<n):∀k,k<=ms.length->bdl D1 D2 v t k<far->bdl D1 D2 v t k<=640000:=by
 intro k
 induction k with
 |zero=>intro _ _;unfold bdl;decide
 |succ k ih =>
  intro hk hf;unfold bdl at hf ⊢;obtain⟨m,s1,s2⟩:=ms_nat hL hr (show k<ms.length by omega);have h1:=ih (by omega) (by omega);have h2:=lst_small (s1.lo v hv.1 hv.2).1 (fun h=>sh_bd s1 hg hc ht h) (s1.lo t ht.1 ht.2).2 (by omega);have h3:=lst_small (s2.lo t ht.1 ht.2).1 (fun h=>sh_bd s2 (good_turned hg) (cost_turned hc) hv h) (s2.lo v hv.1 hv.2).2 (by omega);omega
theorem bls_small (hL:Lm n l ms D1 D2) (hr:∀v∈ms,0<=v/\v<n) (hg:NetLaw.Good n l) (hc:∀e∈l,1<=e.2.2) (ht:0<=t/\t<n) {fr:Nat} {M:List Int} (hM:Sh n fr l M):∀v:Nat,v<n->dg M v<far->dg (bls n D1 D2 t ms.length n) v<far->dg M v+dg (bls n D1 D2 t ms.length n) v<far:=by
 intro v hv h1 h2;rw[dg_bls (by omega) (by omega)] at h2 ⊢;have h3:=sh_bd hM hg hc (v:=v) ⟨by omega,by omega⟩ h1;have h4:=bdl_small hL hr hg hc ht (v:=v) ⟨by omega,by omega⟩ ms.length zzL h2;unfold far;omega
end
end HeurLaw
end Go.Proofs.YtjebckehmmbkbaaGreat
