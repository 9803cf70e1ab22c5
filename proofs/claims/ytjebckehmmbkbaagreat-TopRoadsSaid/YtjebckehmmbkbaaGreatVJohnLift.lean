/- The walk of floyd.closed with the closures of floyd.All. Tables of rows that read as lists of lists; the walks of SameRows at int. What floyd.All answers. Plain: by heights, place by place, or by what lies between, it costs the same. No Go in sight. The walk of john.Lift. -/
import Derived.Outline
import Derived.Laws.EntriesVeiled
import Derived.Test.YtjebckehmmbkbaaGreatVMat
set_option linter.unusedSimpArgs false
set_option linter.unusedVariables false
set_option maxRecDepth 100000
set_option maxHeartbeats 24000000
namespace Go.Proofs.YtjebckehmmbkbaaGreat
namespace FloydAll
open Go.RowKit NetLaw BellLaw FloydLaw Net Mat
def q (z:Int):Value:=(.int .i64 z)
theorem or_any (a b:Int) (w:World):Calls Tryz.prog 28 #[.int .i64 a,.int .i64 b] w fun e w'=>e= .returned (.int .i64 (min a b))/\w'=w:=by
 go_enter Tryz.func28,Tryz.ntmps28;go_wp2
 all_goals
  go_ret;exact⟨ret_int (by omega),rfl⟩
theorem then_any (a b:Int) (w:World) (ha: -far<=a/\a<=far) (hb: -far<=b/\b<=far):Calls Tryz.prog 29 #[.int .i64 a,.int .i64 b] w fun e w'=>e= .returned (.int .i64 (th a b))/\w'=w:=by
 unfold far at ha hb;obtain⟨a0,a1⟩:=ha;obtain⟨b0,b1⟩:=hb
 by_cases h1:a=1099511627776
 ·have hf:th a b=1099511627776:=by unfold th far;rw[if_pos (.inl h1)]
  have hd:(a == 1099511627776)=true:=by simp;exact h1
  have HF:=hid hf;have H1:=hid h1;clear hf h1;go_enter Tryz.func29,Tryz.ntmps29;go_wp2;go_ret;exact⟨ret_int HF.out.symm,rfl⟩
 ·have hd:(a == 1099511627776)=false:=by simp;exact h1
  by_cases h2:b=1099511627776
  ·have hf:th a b=1099511627776:=by unfold th far;rw[if_pos (.inr h2)]
   have hd2:(b == 1099511627776)=true:=by simp;exact h2
   have HF:=hid hf;have H2:=hid h2;clear hf h2;go_enter Tryz.func29,Tryz.ntmps29;go_wp2;go_ret;exact⟨ret_int HF.out.symm,rfl⟩
  ·have hf:th a b=max (-1099511627776) (a+b):=by unfold th far;rw[if_neg (by omega)]
   have hd2:(b == 1099511627776)=false:=by simp;exact h2
   have HF:=hid hf;clear hf;go_enter Tryz.func29,Tryz.ntmps29;go_wp2
   all_goals
    go_ret;exact⟨ret_int (by have:=HF.out;omega),rfl⟩
theorem edge_any (f t c:Int) (w:World):Calls Tryz.prog 31 #[.agg #[.int .i64 f,.int .i64 t,.int .i64 c]] w fun e w'=>e= .returned (.int .i64 c)/\Below w.heap.size w w':=by
 go_enter Tryz.func31,Tryz.ntmps31;go_wp2;go_ret;exact⟨rfl,(Below.refl _ _).alloc zzL _⟩
structure FlSt (w wr:World) (n:Nat) (A:Option Addr) (c:Nat) (l:List E) (m:Nat) (F:Nat->Nat) (M:Mx Int):Prop where
 mt:Mt wr 25 3 q w.heap.size (w.heap.size+1+1) n m F M
 net:wr.heap[w.heap.size]?=some (.cells #[.int .i64 n,.slice A l.length c] 24 (0,0))
 ring:wr.heap[w.heap.size+1]?=some (.cells #[.int .i64 1099511627776,.int .i64 0,.func (.func 29) #[] #[],.func (.func 28) #[] #[]] 78 (0,0))
 lo:Below w.heap.size w wr
section
variable {w wr wx:World} {n:Nat} {A:Option Addr} {c:Nat} {l:List E} {m:Nat} {F:Nat->Nat} {M M':Mx Int}
theorem FlSt.congr (h:FlSt w wr n A c l m F M) (he:∀v j,v<m->j<n->M v j=M' v j):FlSt w wr n A c l m F M':=⟨h.mt.congr he,h.net,h.ring,h.lo⟩
theorem FlSt.far (h:FlSt w wr n A c l m F M) {v:Nat} (hv:v<m):F v≠w.heap.size/\F v≠w.heap.size+1:=by
 obtain⟨_,cs,hb,_⟩:=h.mt.row v hv
 constructor
 ·intro e
  rw[e,h.net] at hb;injection hb with hb;injection hb with _ ht;exact absurd ht (by decide)
 ·intro e
  rw[e,h.ring] at hb;injection hb with hb;injection hb with _ ht;exact absurd ht (by decide)
theorem FlSt.set (h:FlSt w wr n A c l m F M) {v j:Nat} (hv:v<m) (hj:j<n) (x:Int):FlSt w (wr.setCell ⟨F v,j,none⟩ (q x)) n A c l m F (set2 M v j x) :=
 ⟨h.mt.set hv hj x,blk_far h.net (by exact fun e=>(h.far hv).1 e.symm) _,blk_far h.ring (by exact fun e=>(h.far hv).2 e.symm) _,h.lo.setCell (by exact(h.mt.row v hv).1) _⟩
theorem FlSt.keep (h:FlSt w wr n A c l m F M) (hb:Below wr.heap.size wr wx):FlSt w wx n A c l m F M :=
 ⟨h.mt.keep hb,blk_below h.net hb (lt_of_block h.net),blk_below h.ring hb (lt_of_block h.ring),h.lo.trans (hb.mono h.lo.size)⟩
theorem FlSt.drew (h:FlSt w wr n A c l m F M):FlSt w wr.drew n A c l m F M:=⟨h.mt.drew,h.net,h.ring,h.lo.drew⟩
theorem FlSt.add (h:FlSt w wr n A c l m F M) (hm:m<n):FlSt w ((wr.setCell ⟨w.heap.size+1+1,m,none⟩ (.slice (some ⟨wr.heap.size,0,none⟩) n n)).alloc (.cells (madeCells #[.int .i64 0] n) 3)) n A c l (m+1) (fun v=>if v=m then wr.heap.size else F v) (fun a b=>if a=m then 0 else M a b) :=
 ⟨h.mt.add hm h.lo.size 0 _ (made_size _ _) (fun j hj=>made_get _ _ _ hj) rfl,blk_alloc (blk_far h.net (by dsimp only;omega) _) _,blk_alloc (blk_far h.ring (by dsimp only;omega) _) _,(h.lo.setCell (by dsimp only;omega) _).alloc (by simp[World.setCell];exact h.lo.size) _⟩
end
theorem eds_take {l:List E} {k:Nat} (h:k<l.length) (M:Mx Int):eds min cst (l.take (k+1)) M=ed1 min cst (eds min cst (l.take k) M) l[k]:=by
 rw[List.take_succ_eq_append_getElem h];unfold eds;rw[List.foldl_append]
 rfl
theorem rng_all {n:Nat} {l:List E} (hg:NetLaw.Good n l) (k i j:Nat):Rng (inn min th k i (mid min th n k (out min th n (eds min cst l (ini far 0)) k) i) j) :=
 inn_ind min th (n:=n) (P:=Rng) (fun _ _ _ h=>stp_rng h) (mid_ind min th (P:=Rng) (fun _ _ _ h=>stp_rng h) (out_rng (start_rng hg)) i) j
theorem closed_any (n:Nat) (A:Option Addr) (c:Nat) (l:List E) (w:World) (hl:Sl w w.heap.size 3 ce A l) (hg:NetLaw.Good n l) :
 Calls Tryz.prog 30 #[.agg #[.int .i64 n,.slice A l.length c],.agg #[.int .i64 1099511627776,.int .i64 0,.func (.func 29) #[] #[],.func (.func 28) #[] #[]],.func (.func 31) #[] #[]] w fun e w'=>∃S F,e= .returned (.slice (some ⟨S,0,none⟩) n n)/\Mt w' 25 3 q w.heap.size S n n F (clo min th far 0 cst n l)/\Below w.heap.size w w':=by
 have hN:=hg.hi;have hlen:=hg.len
 have hmk:∀w,(Instr.makeSlice 31 (.int .i64 (n:Int)) (.int .i64 (n:Int))).run Tryz.prog w= .ok (.slice (some ⟨w.heap.size,0,none⟩) n n) (w.alloc (.cells (madeCells #[.slice none 0 0] n) 25)) :=
  run_make_row' (P:=Tryz.prog) 31 25 (.slice none 0 0) 24 Tryz.underlying31 (by kernel_rfl) rfl .i64 .i64 n (by omega) (by omega)
 have hmk2:∀w,(Instr.makeSlice 25 (.int .i64 (n:Int)) (.int .i64 (n:Int))).run Tryz.prog w= .ok (.slice (some ⟨w.heap.size,0,none⟩) n n) (w.alloc (.cells (madeCells #[.int .i64 0] n) 3)) :=
  run_make_row' (P:=Tryz.prog) 25 3 (.int .i64 0) 8 Tryz.underlying25 (by kernel_rfl) rfl .i64 .i64 n (by omega) (by omega)
 have st0:FlSt w (((w.alloc (.cells #[.int .i64 n,.slice A l.length c] 24)).alloc (.cells #[.int .i64 1099511627776,.int .i64 0,.func (.func 29) #[] #[],.func (.func 28) #[] #[]] 78)).alloc (.cells (madeCells #[.slice none 0 0] n) 25)) n A c l 0 (fun _=>0) (ini far 0) :=
  ⟨Mt.start _ 25 3 q w.heap.size n _ (made_size _ _) (fun v hv=>⟨_,made_get _ _ _ hv⟩) (by decide) _ _ (by simp) (by omega),blk_alloc (blk_alloc (heap_alloc_new w _) _) _,by have h:=blk_alloc (heap_alloc_new (w.alloc (.cells #[.int .i64 n,.slice A l.length c] 24)) (.cells #[.int .i64 1099511627776,.int .i64 0,.func (.func 29) #[] #[],.func (.func 28) #[] #[]] 78)) (.cells (madeCells #[.slice none 0 0] n) 25);simp at h ⊢;exact h,
   (((Below.refl _ _).alloc zzL _).alloc (by simp) _).alloc (by simp;omega) _⟩
 have ST0:=hid st0;have HG:=hid hg;clear st0 hg;go_enter Tryz.func30,Tryz.ntmps30;go_wp2
 go_loopw [20] (fun i wr=>∃(k:Nat) (F:Nat->Nat),k<=n/\i= .int .i64 k/\FlSt w wr n A c l k F (ini far 0)) (fun i _=>n - (intOf i).toNat)
 case atStart=>exact⟨0,_,Nat.zero_le _,rfl,ST0.out⟩
 case round =>
  clear ST0;obtain⟨k,F,hk,rfl,hst⟩:=hrel;have n0:=blk_cell hst.net 0;have n1:=blk_cell hst.net 1;have r0:=blk_cell hst.ring 0;have r1:=blk_cell hst.ring 1;simp only[zzG,zzH,zzI] at n0 n1 r0 r1;have hzS:=hst.mt.lt;have hz0:w.heap.size<wr.heap.size:=by omega
  have hz1:w.heap.size+1<wr.heap.size:=by omega
  by_cases hlt:k<n
  ·obtain⟨⟨u0,hu⟩,hf⟩:=hst.mt.there hlt
   have hadd:=hst.add hlt;have HADD:=hid hadd;have HST:=hid hst;clear hadd hst;have hsz:(wr.setCell ⟨w.heap.size+1+1,k,none⟩ (.slice (some ⟨wr.heap.size,0,none⟩) n n)).heap.size=wr.heap.size:=by simp[World.setCell]
   have HSZ:=hid hsz;clear hsz;obtain⟨F',hF'⟩:∃F':Nat->Nat,F'=fun v=>if v=k then wr.heap.size else F v:=⟨_,rfl⟩
   rw[<-hF'] at HADD;have HF':=hid hF';clear hF';go_wp2
   go_loopw [34] (fun j wx=>∃b:Nat,b<=n/\j= .int .i64 b/\FlSt w wx n A c l (k+1) F' (fun x y=>if x=k then (if y<b then far else 0) else (ini far 0) x y)) (fun j _=>n - (intOf j).toNat)
   case atStart=>exact⟨0,Nat.zero_le _,rfl,HADD.out.congr (fun v j hv hj=>by simp)⟩
   case round =>
    obtain⟨b,hb,rfl,hst⟩:=hrel;clear n0 n1 r0 r1 hz0 hz1 hu hf hzS HADD HST;have n0:=blk_cell hst.net 0;have n1:=blk_cell hst.net 1;have r0:=blk_cell hst.ring 0;have r1:=blk_cell hst.ring 1;have r2:=blk_cell hst.ring 2;have r3:=blk_cell hst.ring 3;simp only[zzG,zzH,zzI] at n0 n1 r0 r1 r2 r3;have hzS:=hst.mt.lt;have hz0:w.heap.size<wr.heap.size:=by omega
    have hz1:w.heap.size+1<wr.heap.size:=by omega
    have hh:=hst.mt.head (v:=k) (by omega)
    by_cases hltb:b<n
    ·obtain⟨cc,cf⟩:=hst.mt.cell (v:=k) (j:=b) (by omega) hltb
     have hset:=((hst.set (v:=k) (j:=b) (by omega) hltb far).drew).congr (M':=fun x y=>if x=k then (if y<b+1 then far else 0) else (ini far 0) x y) (fun v j hv hj=>by
      unfold set2
      by_cases e1:v=k
      ·subst e1
       by_cases e2:j=b
       ·subst e2;simp
       ·simp only[e2,and_false,if_false,if_true]
        by_cases e3:j<b
        ·rw[if_pos e3,if_pos (by omega)]
        ·rw[if_neg e3,if_neg (by omega)]
      ·simp only[e1,false_and,if_false])
     have HSET:=hid hset;generalize (if k=k then (if b<b then far else 0) else (ini far 0) k b)=old at cc;clear hset hst;unfold q at cc HSET;go_wp2
     go_still_tail 8,(by kernel_rfl)
     change wpList _ _ _ _ _ wr.drew
     go_wp2
     go_roundw
     case rel=>exact⟨b+1,by omega,by go_num,HSET.out⟩
     case measure=>simp[intOf];omega
    ·obtain rfl:b=n:=by omega
     obtain⟨cc,cf⟩:=hst.mt.cell (v:=k) (j:=k) (by omega) hlt;have hset:=((hst.set (v:=k) (j:=k) (by omega) hlt 0).drew).congr (M':=(ini far 0)) (fun v j hv hj=>fill_row _ _ _ _ _ _ _ hj);have HSET:=hid hset;generalize (if k=k then (if k<b then far else 0) else (ini far 0) k k)=old at cc;clear hset hst;unfold q at cc HSET;go_wp2
     go_still_tail 8,(by kernel_rfl)
     change wpList _ _ _ _ _ wr.drew
     go_wp2
     go_roundw
     case rel=>exact⟨k+1,F',by omega,by go_num,HSET.out⟩
     case measure=>simp[intOf];omega
  ·obtain rfl:k=n:=by omega
   have hst':FlSt w wr k A c l k F (eds min cst (l.take 0) (ini far 0)):=hst;have HST:=hid hst';clear hst hst';go_wp2
   go_loopw [58] (fun i wx=>∃e:Nat,e<=l.length/\i= .int .i64 e/\FlSt w wx k A c l k F (eds min cst (l.take e) (ini far 0))) (fun i _=>l.length - (intOf i).toNat)
   case atStart=>exact⟨0,Nat.zero_le _,rfl,HST.out⟩
   case round =>
    obtain⟨x,hx,rfl,hst⟩:=hrel;clear n0 n1 r0 r1 hz0 hz1 hzS HST;have n0:=blk_cell hst.net 0;have n1:=blk_cell hst.net 1;have r0:=blk_cell hst.ring 0;have r1:=blk_cell hst.ring 1;have r2:=blk_cell hst.ring 2;have r3:=blk_cell hst.ring 3;simp only[zzG,zzH,zzI] at n0 n1 r0 r1 r2 r3;have hzS:=hst.mt.lt;have hz0:w.heap.size<wr.heap.size:=by omega
    have hz1:w.heap.size+1<wr.heap.size:=by omega
    by_cases hltx:x<l.length
    ·obtain⟨b,off,f,t,co,rfl,hbB,he,hcf,hct,hcc⟩:=(hl.keep hst.lo zzL).atE hltx
     have hbw:b<wr.heap.size:=by omega
     have hen:=HG.out.ends _ (List.getElem_mem hltx);rw[he] at hen;obtain⟨f0,f1,t0,t1⟩:=hen;simp only at f0 f1 t0 t1;obtain⟨f,rfl⟩:=Int.eq_ofNat_of_zero_le f0;obtain⟨t,rfl⟩:=Int.eq_ofNat_of_zero_le t0;have hfk:f<k:=by omega
     have htk:t<k:=by omega
     have hh:=hst.mt.head (v:=f) hfk;obtain⟨cc,cf⟩:=hst.mt.cell (v:=f) (j:=t) hfk htk;have hrl:=hst.mt.rlt (v:=f) hfk;have hrS:=hst.mt.apart (v:=f) hfk;have hrN:=(hst.far (v:=f) hfk).1;have hrR:=(hst.far (v:=f) hfk).2;have hnext:=eds_take (M:=(ini far 0)) hltx;rw[he] at hnext;unfold ed1 at hnext;simp only[Int.toNat_natCast] at hnext;have HST:=hid hst;have HNX:=hid hnext;obtain⟨old,hold⟩:∃old,old=eds min cst (l.take x) (ini far 0) f t:=⟨_,rfl⟩;rw[<-hold] at cc;have HOLD:=hid hold;unfold q at cc;clear hst hnext he hold f0 t0;go_wp2;go_upto_region 16 with fail;refine Sink.wp_region_sink 20 23 (fun w'=>w'.cell? ⟨w.heap.size+1+1,f,none⟩=some (.slice (some ⟨F f,0,none⟩) k k)/\w'.cell? ⟨wr.heap.size,0,none⟩=some (.int .i64 f)/\w'.cell? ⟨wr.heap.size,1,none⟩=some (.int .i64 t)/\w'.cell? ⟨wr.heap.size,2,none⟩=some (.int .i64 co)/\w'.cell? ⟨w.heap.size+1,3,none⟩=some (.func (.func 28) #[] #[])/\w'.cell? ⟨F f,t,none⟩=some (.int .i64 old)) (by kernel_rfl) (by kernel_rfl) ?_ (fun hHeld=> ?_)
     ·go_keep
     simp only[List.take_succ_cons,List.take_zero,List.drop_succ_cons,List.drop_zero]
     repeat
      (refine Sink.Head.cons ?_ (by rfl) (fun w' hSw=> ?_) ?_
       rotate_left
       ·((try dsimp only at hSw);go_split_ands;go_simp;try with_reducible rfl)
       simp only[Act.put,zzD,zzE,zzF])
     refine Sink.Head.nil ?_;refine Sink.Tail.cons (fun K hK=> ?_);go_simp;go_at_call 31;refine(edge_any _ _ _ _).mono ?_;rintro e wc ⟨rfl,hbc⟩
     go_wp2_with fail
     have HB:Below wr.heap.size wr wc:=(((Below.refl _ _).alloc zzL _).drew).trans (hbc.mono (by simp));have kp:∀b o u,b<wr.heap.size+1->_=some u->wc.cell? ⟨b,o,none⟩=some u:=fun b o u hb hu=>((keepAt (hbc.mono (show wr.heap.size+1<=_ by simp)) hb).1 o).trans hu;have kf:wc.frozen? ⟨F f,t,none⟩=false:=((keepAt HB hrl).2 t).trans cf;obtain⟨s1,s2,s3,s4,s5,s6⟩:=hHeld;refine hK.out _ _ ⟨kp _ _ _ (by omega) s1,kp _ _ _ (by omega) s2,kp _ _ _ (by omega) s3,kp _ _ _ (by omega) s4,kp _ _ _ (by omega) s5,kp _ _ _ (by omega) s6⟩ (fun hH2=> ?_);clear hK K kp s1 s2 s3 s4 s5 s6;refine Sink.Tail.cons (fun K hK=> ?_);go_simp;go_at_call 28;refine(or_any _ _ _).mono ?_;rintro e wd ⟨rfl,rfl⟩
     go_wp2_with fail
     refine hK.out _ _ hH2 (fun hH3=> ?_);clear hK K hH2;refine Sink.Tail.cons (fun K hK=> ?_);go_simp;refine hK.out _ _ hH3 (fun hH4=> ?_);clear hK K hH3;obtain⟨s1,s2,s3,s4,s5,s6⟩:=hH4;refine Sink.Tail.one ?_;have HBH:=hid HB;clear HB hbc;go_wp2;refine NoPanic.normal ?_;go_wp2
     go_roundw
     case rel =>
      refine⟨x+1,by omega,by go_num,?_⟩;rw[HNX.out];have hs2:=(HST.out.keep HBH.out).set hfk htk (min old co);rw[HOLD.out] at hs2 ⊢;exact hs2
     case measure=>simp[intOf];omega
    ·obtain rfl:x=l.length:=by omega
     rw[List.take_length] at hst;have hst':FlSt w wr k A c l k F (out min th k (eds min cst l (ini far 0)) 0):=hst;have HST:=hid hst';clear hst hst' hl;go_wp2
     go_loopw [88] (fun i wx=>∃e:Nat,e<=k/\i= .int .i64 e/\FlSt w wx k A c l k F (out min th k (eds min cst l (ini far 0)) e)) (fun i _=>k - (intOf i).toNat)
     case atStart=>exact⟨0,Nat.zero_le _,rfl,HST.out⟩
     case round =>
      obtain⟨x,hx,rfl,hst⟩:=hrel;clear n0 n1 r0 r1 r2 r3 hz0 hz1 hzS HST
      by_cases hltx:x<k
      ·have hst2:FlSt w wr k A c l k F (mid min th k x (out min th k (eds min cst l (ini far 0)) x) 0):=hst
       have HST:=hid hst2;clear hst hst2;go_wp2
       go_loopw [93] (fun i wx=>∃e:Nat,e<=k/\i= .int .i64 e/\FlSt w wx k A c l k F (mid min th k x (out min th k (eds min cst l (ini far 0)) x) e)) (fun i _=>k - (intOf i).toNat)
       case atStart=>exact⟨0,Nat.zero_le _,rfl,HST.out⟩
       case round =>
        obtain⟨i,hi,rfl,hst⟩:=hrel;clear HST
        by_cases hlti:i<k
        ·have hst2:FlSt w wr k A c l k F (inn min th x i (mid min th k x (out min th k (eds min cst l (ini far 0)) x) i) 0):=hst
         have HST:=hid hst2;clear hst hst2;go_wp2
         go_loopw [98] (fun j wx=>∃e:Nat,e<=k/\j= .int .i64 e/\FlSt w wx k A c l k F (inn min th x i (mid min th k x (out min th k (eds min cst l (ini far 0)) x) i) e)) (fun j _=>k - (intOf j).toNat)
         case atStart=>exact⟨0,Nat.zero_le _,rfl,HST.out⟩
         case round =>
          obtain⟨j,hj,rfl,hst⟩:=hrel;clear HST
          by_cases hltj:j<k
          ·have hrg:=rng_all HG.out x i j
           obtain⟨C,hC⟩:∃C,C=(inn min th x i (mid min th k x (out min th k (eds min cst l (ini far 0)) x) i) j):=⟨_,rfl⟩;have hnext:(inn min th x i (mid min th k x (out min th k (eds min cst l (ini far 0)) x) i) (j+1))=set2 C i j (min (C i j) (th (C i x) (C x j))):=by rw[hC];rfl
           rw[<-hC] at hst;rw[<-hC] at hrg;clear hC;have n0:=blk_cell hst.net 0;have n1:=blk_cell hst.net 1;have r0:=blk_cell hst.ring 0;have r1:=blk_cell hst.ring 1;have r2:=blk_cell hst.ring 2;have r3:=blk_cell hst.ring 3;simp only[zzG,zzH,zzI] at n0 n1 r0 r1 r2 r3;have hzS:=hst.mt.lt;have hz0:w.heap.size<wr.heap.size:=by omega
           have hz1:w.heap.size+1<wr.heap.size:=by omega
           have g1:=hst.mt.head (v:=i) hlti;have g2:=hst.mt.head (v:=x) hltx;obtain⟨c1,f1⟩:=hst.mt.cell (v:=i) (j:=j) hlti hltj;obtain⟨c2,_⟩:=hst.mt.cell (v:=i) (j:=x) hlti hltx;obtain⟨c3,_⟩:=hst.mt.cell (v:=x) (j:=j) hltx hltj;have hset:=(hst.set (v:=i) (j:=j) hlti hltj (min (C i j) (th (C i x) (C x j)))).drew;have HSET:=hid hset;have HNX:=hid hnext;have RK:=hid hrg;clear hrg;unfold q at c1 c2 c3 HSET;clear hset hnext hst;go_wp2;refine wp_region_still_tail 33 (by kernel_rfl) (by kernel_rfl) ?_;simp only[List.take_succ_cons,List.take_zero,List.drop_succ_cons,List.drop_zero]
           repeat still_step
           still_call (then_any _ _ _ (RK.out i x) (RK.out x j))
           repeat still_step
           still_call (or_any _ _ _)
           repeat still_step
           refine wpStill_nil ?_
           change wpList _ _ _ _ _ wr.drew
           go_wp2
           go_roundw
           case rel=>exact⟨j+1,by omega,by go_num,by rw[HNX.out];exact HSET.out⟩
           case measure=>simp[intOf];omega
          ·obtain rfl:j=k:=by omega
           have hst2:FlSt w wr j A c l j F (mid min th j x (out min th j (eds min cst l (ini far 0)) x) (i+1)):=hst;have HST:=hid hst2;clear hst hst2;go_wp2
           go_roundw
           case rel=>exact⟨i+1,by omega,by go_num,HST.out⟩
           case measure=>simp[intOf];omega
        ·obtain rfl:i=k:=by omega
         have hst2:FlSt w wr i A c l i F (out min th i (eds min cst l (ini far 0)) (x+1)):=hst;have HST:=hid hst2;clear hst hst2;go_wp2
         go_roundw
         case rel=>exact⟨x+1,by omega,by go_num,HST.out⟩
         case measure=>simp[intOf];omega
      ·obtain rfl:x=k:=by omega
       have HST:=hid hst;clear hst;go_wp2;go_ret;exact⟨w.heap.size+1+1,F,rfl,HST.out.mt,HST.out.lo⟩
end FloydAll
namespace RowsInt
open Go.RowKit FloydLaw Go.Proofs.YtjebckehmmbkbaaGreat.Std Mat
def Sr (w:World) (B:Nat) (A:Option Addr) (L:List (List Int)):Prop :=
 0<L.length->∃b off,A=some ⟨b,off,none⟩/\b<B/\∀(i:Nat) (h:i<L.length),∃A' c',w.cell? ⟨b,off+i,none⟩=some (.slice A' L[i].length c')/\Sl w B 1 ci A' L[i]
def rows (n:Nat) (M:Mx Int):List (List Int):=(List.range n).map fun v=>(List.range n).map (M v)
theorem rows_len (n:Nat) (M:Mx Int):(rows n M).length=n:=by simp[rows]
theorem rows_get (n:Nat) (M:Mx Int) {v:Nat} (h:v<(rows n M).length):(rows n M)[v]=(List.range n).map (M v):=by simp[rows]
theorem sr_mt {w:World} {base S n:Nat} {F:Nat->Nat} {M:Mx Int} {q:Int->Value} (hq:∀x,q x=ci x 0) (h:Mt w 25 3 q base S n n F M):Sr w w.heap.size (some ⟨S,0,none⟩) (rows n M):=fun _=>by
 refine⟨S,0,rfl,h.lt,fun i hi=> ?_⟩;have hin:i<n:=by rwa [rows_len] at hi
 rw[rows_get];refine⟨some ⟨F i,0,none⟩,n,by rw[Nat.zero_add,h.head hin];simp,fun hl=>⟨F i,0,rfl,h.rlt hin,fun j hj j0 hj0=> ?_⟩⟩;obtain rfl:j0=0:=by omega
 have hjn:j<n:=by simpa using hj
 rw[Nat.zero_add,Nat.mul_one,Nat.add_zero,(h.cell hin hjn).1,hq];simp
end RowsInt
namespace FloydAll
open Go.RowKit NetLaw BellLaw FloydLaw Net Go.Proofs.YtjebckehmmbkbaaGreat.Std Mat RowsInt
def neg (n:Nat) (M:Mx Int):Bool:=(List.range n).any fun i=>decide (M i i<0)
theorem neg_false {n:Nat} {M:Mx Int} (h:neg n M=false) (i:Nat) (hi:i<n):0<=M i i:=by
 rw[neg,List.any_eq_false] at h;have:=h i (List.mem_range.2 hi);simp at this;omega
theorem neg_true {n:Nat} {M:Mx Int} {i:Nat} (hi:i<n) (h:M i i<0):neg n M=true:=by
 rw[neg,List.any_eq_true];exact⟨i,List.mem_range.2 hi,by simpa using h⟩
def aerr (N:Int) (l:List E):Int:=if chk N l≠0 then chk N l else if neg N.toNat (all N.toNat l)=true then 6 else 0
def Says (N:Int) (l:List E) (w:World) (e:Ending) (w':World):Prop :=
 (aerr N l≠0->e= .returned (.tuple #[.slice none 0 0,.int .i64 (aerr N l)])) /\
 (aerr N l=0->∃S F,e= .returned (.tuple #[.slice (some ⟨S,0,none⟩) N.toNat N.toNat,.int .i64 0])/\Mt w' 25 3 q w.heap.size S N.toNat N.toNat F (all N.toNat l))/\Below w.heap.size w w'
theorem All_any (N:Int) (A:Option Addr) (c:Nat) (l:List E) (w:World) (hl:Sl w w.heap.size 3 ce A l) (hlen:l.length<=9223372036854775807) :
 Calls Tryz.prog 9 #[.agg #[.int .i64 N,.slice A l.length c]] w fun e w'=>Says N l w e w':=by
 have hw0:Below w.heap.size w (w.alloc (.cells #[.int .i64 N,.slice A l.length c] 24)):=(Below.refl _ _).alloc zzL _;have key:=check_any N A c l _ ((hl.keep hw0 zzL).more (show w.heap.size<=(w.alloc (.cells #[.int .i64 N,.slice A l.length c] 24)).heap.size by simp)) hlen
 by_cases hg:chk N l=0
 ·have hgood:=chk_zero.1 hg
  have hN1:=hgood.lo;have hN2:=hgood.hi;obtain⟨n,rfl⟩:=Int.eq_ofNat_of_zero_le (show 0<=N by omega);have kc:=fun W h=>closed_any n A c l W h hgood;rw[hg] at key;have KEY:=hid key;have KC:=hid kc;have HG:=hid hg;clear key kc hg hgood hlen;go_enter Tryz.func9,Tryz.ntmps9
  go_wp2_with fail
  refine KEY.out.mono ?_;rintro e w1 ⟨rfl,hb1⟩;have B1:Below (w.heap.size+1) _ w1:=hb1.mono (by simp);have H1:=hw0.trans (B1.mono (Nat.le_succ _));have Z1:w.heap.size+1<=w1.heap.size:=by have:=hb1.size;simp at this;omega
  have z1:w.heap.size<w1.heap.size:=by omega
  obtain⟨cc,_⟩:=keepAt B1 (Nat.lt_succ_self _);have q0:=cc 0;have q1:=cc 1;simp at q0 q1;clear cc hb1 B1
  go_wp2_with fail
  refine(KC.out _ ((hl.keep H1 zzL).keep ((Below.refl _ _).alloc H1.size _) zzL |>.more (by simp;omega))).mono ?_;rintro e w2 ⟨S,F,rfl,hmt,hb2⟩;have H2:=(H1.alloc H1.size _).trans (hb2.mono (by simp;omega));have hmt2:=hmt.base_ (show w.heap.size<=_ by simp;omega);have HMT:=hid hmt2;clear hmt hmt2 hb2 q0 q1 hl;go_wp2
  go_loop [19] (fun i=>∃k:Nat,k<=n/\i= .int .i64 k/\Hid (∀j,j<k->0<=all n l j j)) (fun i=>n - (intOf i).toNat)
  case atStart=>exact⟨0,Nat.zero_le _,rfl,hid (fun j hj=>by omega)⟩
  case round =>
   obtain⟨k,hk,rfl,hall⟩:=hrel
   by_cases hlt:k<n
   ·have g1:=HMT.out.head (v:=k) hlt
    obtain⟨c1,_⟩:=HMT.out.cell (v:=k) (j:=k) hlt hlt;have hkk:neg n (all n l)=false->0<=all n l k k:=fun h=>neg_false h k hlt;have hkt:all n l k k<0->neg n (all n l)=true:=fun h=>neg_true hlt h;have HT:=hid hkt
    have hst:0<=all n l k k->Hid (∀j,j<k+1->0<=all n l j j):=fun h=>hid (fun j hj=>by
     by_cases e:j=k
     ·rw[e];exact h
     ·exact hall.out j (by omega))
    have HST:=hid hst
    change w2.cell? ⟨F k,k,none⟩=some (.int .i64 (all n l k k)) at c1
    generalize all n l k k=x at *;clear hkk hkt hst
    by_cases hx:x<0
    ·have hneg:=HT.out hx
     have herr:aerr n l=6:=by rw[aerr,if_neg (by simpa using HG.out),Int.toNat_natCast,if_pos hneg]
     have HE:=hid herr;clear hneg herr;go_wp2;go_ret2;unfold Says;rw[HE.out];exact⟨fun _=>rfl,fun h=>absurd h (by decide),H2⟩
    ·have h3:=HST.out (by omega)
     go_wp2
     go_round
     case rel=>exact⟨k+1,by omega,by go_num,h3⟩
     case measure=>simp[intOf];omega
   ·obtain rfl:k=n:=by omega
    have hneg:neg k (all k l)=false:=by
     rw[neg,List.any_eq_false];intro i hi;have:=hall.out i (List.mem_range.1 hi);simp;omega
    have herr:aerr k l=0:=by rw[aerr,if_neg (by simpa using HG.out),Int.toNat_natCast,if_neg (by rw[hneg];decide)]
    have HE:=hid herr;clear hneg herr hall;go_wp2;go_ret2;exact⟨fun h=>absurd HE.out h,fun _=>⟨S,F,by simp,by rw[Int.toNat_natCast];exact HMT.out⟩,H2⟩
 ·have hne:(chk N l != 0)=true:=by rw[bne_iff_ne];exact hg
  have herr:aerr N l=chk N l:=by rw[aerr,if_pos hg]
  unfold Says;rw[herr];clear herr;generalize chk N l=x at *;have KEY:=hid key;clear key hl;go_enter Tryz.func9,Tryz.ntmps9
  go_wp2_with fail
  refine KEY.out.mono ?_;rintro e w1 ⟨rfl,hb1⟩;have H1:=hw0.trans (hb1.mono (by simp));clear hb1;go_wp2;go_ret2;exact⟨fun _=>rfl,fun h=>absurd h hg,H1⟩
theorem yes_of (N:Int) (A:Option Addr) (c:Nat) (l:List E) (hll:l.length<=9223372036854775807) (hk:aerr N l=0) (W:World) (h:Sl W W.heap.size 3 ce A l) :
 Calls Tryz.prog 9 #[.agg #[.int .i64 N,.slice A l.length c]] W fun e w'=>∃S F,e= .returned (.tuple #[.slice (some ⟨S,0,none⟩) N.toNat N.toNat,.int .i64 0])/\Mt w' 25 3 q W.heap.size S N.toNat N.toNat F (all N.toNat l)/\Below W.heap.size W w':=by
 refine(All_any N A c l W h hll).mono ?_;rintro e w' ⟨_,k2,k3⟩;obtain⟨S,F,k4,k5⟩:=k2 hk;exact⟨S,F,k4,k5,k3⟩
end FloydAll
namespace JohnPlain
open NetLaw BellLaw DijkLaw FloydLaw JohnLaw BellSh BellCyc Bell
section
variable {n:Nat} {l:List E}
theorem Fl.walk_le {M:Mx Int} (h:Fl n l M) (hg:NetLaw.Good n l) {i v d:Int} (i0:0<=i/\i<n) (hw:Wk l i v d):(0<=v/\v<n)/\M i.toNat v.toNat<far/\M i.toNat v.toNat<=d:=by
 induction hw with
 |here =>
  refine⟨i0,?_,?_⟩
  ·rw[h.self _ (by omega)];decide
  ·rw[h.self _ (by omega)];exact Int.le_refl _
 |step hu he hf ih =>
  subst hf;obtain⟨⟨u0,u1⟩,u2,u3⟩:=ih;obtain⟨_,_,x0,x1⟩:=hg.ends _ he;have hc:=hg.cost _ he;have hm:=h.edge _ he;have hs:=h.small _ _ (by omega) (by omega) u2;have hmf:M (_:Nat) (_:Nat)<far:=Int.lt_of_le_of_lt hm (by unfold far;omega);have ht:=h.tri i.toNat _ _ (by omega) (by omega) (by omega) u2 hmf;exact⟨⟨x0,x1⟩,by unfold far;omega,by omega⟩
def hs (n:Nat) (l:List E):St:=relax l n (List.replicate n 0,List.replicate n (-1),-1)
def jerr (N:Int) (l:List E):Int:=if chk N l≠0 then chk N l else if 0<=(hs N.toNat l).2.2 then 6 else 0
def Nhi (n:Nat) (D:List Int):Prop:=D.length=n/\∀v,0<=v->v<(n:Int)->dg D v<=0
theorem nhi_fold (hends:∀e∈l,0<=e.1/\e.1<n/\0<=e.2.1/\e.2.1<n) (r:List E) (hr:∀e∈r,e∈l) (s:St) (h:Nhi n s.1):Nhi n (r.foldl rx s).1:=by
 induction r generalizing s with
 |nil=>exact h
 |cons e r ih =>
  rw[List.foldl_cons];refine ih (fun x hx=>hr x (by simp[hx])) _ ?_;unfold rx;split
  ·rename_i hc
   obtain⟨u0,u1,x0,x1⟩:=hends e (hr e (by simp));refine⟨by rw[List.length_set];exact h.1,fun v v0 v1=> ?_⟩;dsimp only;rw[dg_set x0 (by rw[h.1];exact x1) v0];have a:=h.2 _ x0 x1;have b:=h.2 v v0 v1;split <;> omega
  ·exact h
theorem nhi_relax (hends:∀e∈l,0<=e.1/\e.1<n/\0<=e.2.1/\e.2.1<n) (k:Nat) (s:St) (h:Nhi n s.1):Nhi n (relax l k s).1:=by
 induction k generalizing s with
 |zero=>exact h
 |succ k ih =>
  have h1:=nhi_fold hends l (fun _ h=>h) (s.1,s.2.1,-1) h;rw[relax];split
  ·exact h1
  ·exact ih _ h1
structure Ht (n:Nat) (l:List E) (h:List Int):Prop where
 len:h.length=n
 bd:∀v,0<=v->v<(n:Int)-> -384000000<=ht h v/\ht h v<=0
 ok:∀e∈l,ht h e.2.1<=ht h e.1+e.2.2
theorem hs_nhi (hg:NetLaw.Good n l):Nhi n (hs n l).1:=nhi_relax hg.ends n _ ⟨by simp,fun v v0 v1=>by
 show (List.replicate n (0:Int)).getD v.toNat 0<=0
 rw[List.getD_eq_getElem?_getD,List.getElem?_replicate];split <;> simp⟩
theorem hs_bd (hg:NetLaw.Good n l) (v:Int) (v0:0<=v) (v1:v<n): -384000000<=ht (hs n l).1 v/\ht (hs n l).1 v<=0:=by
 have hz:Bd n (List.replicate n (0:Int)) 0:=fun v v0 v1 _=>by
  have:dg (List.replicate n (0:Int)) v=0:=by
   rw[dg,List.getD_eq_getElem?_getD,List.getElem?_replicate];split <;> simp
  omega
 have hb:Bd n (hs n l).1 384000000:=by
  refine(bd_relax hg.ends hg.cost n 0 (List.replicate n 0,List.replicate n (-1),-1) hz (by simp)).more ?_;have h1:=hg.len;have h2:=hg.hi;have h3:(n:Int)*(l.length*10000)<=64*(600*10000):=Int.mul_le_mul (by omega) (by omega) (by omega) (by omega);omega
 have h1:dg (hs n l).1 v<=0:=(hs_nhi hg).2 v v0 v1;exact⟨(hb v v0 v1 (by unfold far;omega)).1,h1⟩
theorem hs_ht (hg:NetLaw.Good n l) (h:(hs n l).2.2<0):Ht n l (hs n l).1:=by
 have h1:=hg.lo;refine⟨(hs_nhi hg).1,hs_bd hg,fun e he=> ?_⟩;have hst:=relax_still (l:=l) (fun e he=>(hg.ends e he).2.2.1) n (by omega) _ h e he;obtain⟨u0,u1,x0,x1⟩:=hg.ends e he;have:=(hs_bd hg e.1 u0 u1).2;have e1:dg (relax l n (List.replicate n 0,List.replicate n (-1),-1)).1 e.1=ht (hs n l).1 e.1:=rfl;have e2:dg (relax l n (List.replicate n 0,List.replicate n (-1),-1)).1 e.2.1=ht (hs n l).1 e.2.1:=rfl;rw[e1,e2] at hst;have hf:(0:Int)<far:=by decide
 omega
theorem hs_no (hg:NetLaw.Good n l) (h:0<=(hs n l).2.2) {M:Mx Int} (hM:Fl n l M):False:=by
 have h1:=hg.lo;obtain⟨_,m,hc⟩:=cyc_at (show 1<=n by omega) hg.ends (List.replicate n 0) (-1) (by simp) h;have hr:=hc.rng 0;have hwk:=hc.wk;have hng:=hc.neg;have e0:∀(P:List Int) (c:Int),it P 0 c=c:=fun _ _=>rfl;rw[e0] at hr;clear hc;generalize it _ n _=c at *;have h2:=(Fl.walk_le hM hg hr hwk).2.2;rw[hM.self _ (by omega)] at h2;omega
theorem rl_no (hg:NetLaw.Good n l) {fr:Nat} (h:0<=(rl n l fr).2.2) {M:Mx Int} (hM:Fl n l M):False:=by
 have h1:=hg.lo;obtain⟨_,m,hc⟩:=cyc_at (show 1<=n by omega) hg.ends (Bell.start n fr) (-1) (start_len _ _) h;have hr:=hc.rng 0;have hwk:=hc.wk;have hng:=hc.neg;have e0:∀(P:List Int) (c:Int),it P 0 c=c:=fun _ _=>rfl;rw[e0] at hr;clear hc;generalize it _ n _=c at *;have h2:=(Fl.walk_le hM hg hr hwk).2.2;rw[hM.self _ (by omega)] at h2;omega
theorem all_ge (hg:NetLaw.Good n l) {h:List Int} (hh:Ht n l h) (i j:Nat) (hi:i<n) (hj:j<n):ht h j - ht h i<=all n l i j:=by
 have hf:far=1099511627776:=rfl
 have hstep:∀k,k<n->∀M:Mx Int,(∀i j,i<n->j<n->ht h j - ht h i<=M i j)->∀i' j',i'<n->j'<n->(∀a b,a<n->b<n->ht h b - ht h a<=stp min th k i' M j' a b):=by
  intro k hk M hM i' j' hi' hj' a b ha hb;unfold stp set2;split
  ·rename_i e
   obtain⟨rfl,rfl⟩:=e;have h1:=hM a b ha hb;have h2:=hM a k ha hk;have h3:=hM k b hk hb;have h4:=hh.bd b (by omega) (by omega);have h5:=hh.bd a (by omega) (by omega)
   have h6:ht h b - ht h a<=th (M a k) (M k b):=by
    unfold th;split <;> omega
   omega
  ·exact hM a b ha hb
 have hinn:∀k,k<n->∀M:Mx Int,(∀i j,i<n->j<n->ht h j - ht h i<=M i j)->∀i',i'<n->∀j',j'<=n->(∀a b,a<n->b<n->ht h b - ht h a<=inn min th k i' M j' a b):=by
  intro k hk M hM i' hi' j'
  induction j' with
  |zero=>intro _;exact hM
  |succ j' ih=>intro hj;exact hstep k hk _ (ih (by omega)) i' j' hi' (by omega)
 have hmid:∀k,k<n->∀M:Mx Int,(∀i j,i<n->j<n->ht h j - ht h i<=M i j)->∀i',i'<=n->(∀a b,a<n->b<n->ht h b - ht h a<=mid min th n k M i' a b):=by
  intro k hk M hM i'
  induction i' with
  |zero=>intro _;exact hM
  |succ i' ih=>intro hi;exact hinn k hk _ (ih (by omega)) i' (by omega) n zzL
 have hout:∀M:Mx Int,(∀i j,i<n->j<n->ht h j - ht h i<=M i j)->∀k,k<=n->(∀a b,a<n->b<n->ht h b - ht h a<=out min th n M k a b):=by
  intro M hM k
  induction k with
  |zero=>intro _;exact hM
  |succ k ih=>intro hk;exact hmid k (by omega) _ (ih (by omega)) n zzL
 have heds:∀r:List E,(∀e∈r,e∈l)->∀M:Mx Int,(∀i j,i<n->j<n->ht h j - ht h i<=M i j)->(∀i j,i<n->j<n->ht h j - ht h i<=eds min cst r M i j):=by
  intro r
  induction r with
  |nil=>intro _ M hM;exact hM
  |cons e r ih =>
   intro hr M hM;refine ih (fun x hx=>hr x (by simp[hx])) _ fun a b ha hb=> ?_;unfold ed1 set2;split
   ·rename_i e'
    have h1:=hM a b ha hb;have h2:=hh.ok e (hr e (by simp));obtain⟨u0,u1,x0,x1⟩:=hg.ends e (hr e (by simp));obtain⟨rfl,rfl⟩:=e';have e1:((e.1.toNat:Nat):Int)=e.1:=by omega
    have e2:((e.2.1.toNat:Nat):Int)=e.2.1:=by omega
    rw[e1,e2] at h1 ⊢;have:cst e=e.2.2:=rfl;omega
   ·exact hM a b ha hb
 refine hout _ (heds l (fun _ h=>h) _ fun a b ha hb=> ?_) n zzL i j hi hj;have h4:=hh.bd b (by omega) (by omega);have h5:=hh.bd a (by omega) (by omega);unfold ini;split
 ·rename_i e;subst e;omega
 ·omega
theorem jerr_aerr (N:Int):jerr N l=FloydAll.aerr N l:=by
 unfold jerr FloydAll.aerr
 by_cases hc:chk N l=0
 ·have hg:=chk_zero.1 hc
  obtain⟨n,rfl⟩:=Int.eq_ofNat_of_zero_le (show 0<=N by have:=hg.lo;omega);have hcn:¬chk (n:Int) l≠0:=fun h=>h hc;rw[if_neg hcn,if_neg hcn];simp only[Int.toNat_natCast]
  by_cases hl:0<=(hs n l).2.2
  ·rw[if_pos hl]
   by_cases hneg:FloydAll.neg n (all n l)=true
   ·rw[if_pos hneg]
   ·exact(hs_no hg hl (all_ok hg (FloydAll.neg_false (Bool.eq_false_iff.2 hneg)))).elim
  ·rw[if_neg hl]
   by_cases hneg:FloydAll.neg n (all n l)=true
   rotate_left
   ·rw[if_neg hneg]
   ·unfold FloydAll.neg at hneg
    rw[List.any_eq_true] at hneg;obtain⟨i,hi,hd⟩:=hneg;rw[List.mem_range] at hi;rw[decide_eq_true_eq] at hd;have:=all_ge hg (hs_ht hg (by omega)) i i hi hi;omega
 ·rw[if_pos (show chk N l≠0 from hc),if_pos (show chk N l≠0 from hc)]
theorem wk_flt {h:List Int} {fr v d:Int} (hw:Wk l fr v d):Wk (flt h l) fr v (d+ht h fr - ht h v):=by
 induction hw with
 |here=>have e:(0:Int)+ht h fr - ht h fr=0:=by omega
        rw[e];exact Wk.here
 | @step u d e hu he hf ih =>
   have h1:=Wk.step (e:=flc h e) ih (List.mem_map_of_mem he) hf;have e1:(flc h e).2.1=e.2.1:=rfl
   have e2:d+ht h fr - ht h u+(flc h e).2.2=d+e.2.2+ht h fr - ht h e.2.1:=by
    subst hf
    show d+ht h fr - ht h e.1+(e.2.2+ht h e.1 - ht h e.2.1)=_
    omega
   rw[e1,e2] at h1;exact h1
theorem flt_wk {h:List Int} {fr v d:Int} (hw:Wk (flt h l) fr v d):Wk l fr v (d+ht h v - ht h fr):=by
 induction hw with
 |here=>have e:(0:Int)+ht h fr - ht h fr=0:=by omega
        rw[e];exact Wk.here
 | @step u d e hu he hf ih =>
   unfold flt at he;rw[List.mem_map] at he;obtain⟨x,hx,rfl⟩:=he;have h1:=Wk.step ih hx hf
   have e2:d+ht h u - ht h fr+x.2.2=d+(flc h x).2.2+ht h (flc h x).2.1 - ht h fr:=by
    subst hf
    show d+ht h x.1 - ht h fr+x.2.2=d+(x.2.2+ht h x.1 - ht h x.2.1)+ht h x.2.1 - ht h fr
    omega
   rw[e2] at h1;exact h1
def jr (h:List Int) (u:Nat) (D:List Int):List Int:=(List.range D.length).map fun v=>if D.getD v 0<far then D.getD v 0+(ht h v - ht h u) else D.getD v 0
theorem flt_nn {h:List Int} (hh:Ht n l h):∀e∈flt h l,0<=e.2.2:=fun e he=>by
 unfold flt at he;rw[List.mem_map] at he;obtain⟨x,hx,rfl⟩:=he;have:=hh.ok x hx
 show 0<=x.2.2+ht h x.1 - ht h x.2.1
 omega
theorem flt_bd (hg:NetLaw.Good n l) {h:List Int} (hh:Ht n l h):∀e∈flt h l,(0<=e.1/\e.1<n/\0<=e.2.1/\e.2.1<n)/\ -1000000000<=e.2.2/\e.2.2<=1000000000:=fun e he=>by
 unfold flt at he;rw[List.mem_map] at he;obtain⟨x,hx,rfl⟩:=he;obtain⟨u0,u1,x0,x1⟩:=hg.ends x hx;have a:=hh.bd _ u0 u1;have b:=hh.bd _ x0 x1;have c:=hg.cost x hx;refine⟨⟨u0,u1,x0,x1⟩,?_⟩
 show -1000000000<=x.2.2+ht h x.1 - ht h x.2.1/\x.2.2+ht h x.1 - ht h x.2.1<=1000000000
 omega
theorem jr_all (hg:NetLaw.Good n l) {h:List Int} (hh:Ht n l h) {M:Mx Int} (hM:Fl n l M) {u:Nat} (hu:u<n) {D:List Int} (hD:Sh n u (flt h l) D):jr h u D=(List.range n).map (M u):=by
 have hl:D.length=n:=by have:=hD.len;omega
 have hf:far=1099511627776:=rfl;unfold jr;rw[hl];refine List.map_congr_left fun v hv=> ?_;rw[List.mem_range] at hv;have hdg:dg D (v:Int)=D.getD v 0:=by rw[dg,Int.toNat_natCast]
 rw[<-hdg];have hends:∀e∈flt h l,0<=e.1/\e.1<n/\0<=e.2.1/\e.2.1<n:=fun e he=>(flt_bd hg hh e he).1;have hlo:=hD.lo v (by omega) (by omega);have hMh:=hM.hi u v;have bu:=hh.bd u (by omega) (by omega);have bv:=hh.bd v (by omega) (by omega)
 have h1:M u v<far->dg D v<=M u v+ht h u - ht h v:=fun hm=>by
  have a:=hM.small u v hu hv hm;exact hD.walk_le hends (wk_flt (hM.wk u v hu hv hm)) (by omega) (flt_nn hh)
 have h2:dg D v<far->M u v<far/\M u v<=dg D v+ht h v - ht h u:=fun hd=>by
  have a:=Fl.walk_le hM hg (i:=(u:Int)) (by omega) (flt_wk (hD.wk v (by omega) (by omega) hd));simp only[Int.toNat_natCast] at a;exact a.2
 by_cases hd:dg D v<far
 ·rw[if_pos hd]
  obtain⟨a,b⟩:=h2 hd;have:=h1 a;omega
 ·rw[if_neg hd]
  have:¬M u v<far:=fun hm=>by
   have a:=h1 hm;have b:=hM.small u v hu hv hm;omega
  omega
theorem bell_all (hg:NetLaw.Good n l) {M:Mx Int} (hM:Fl n l M) {u:Nat} (hu:u<n):(rl n l u).2.2<0/\(rl n l u).1=(List.range n).map (M u):=by
 have hlast:(rl n l u).2.2<0:=by
  rcases Int.lt_or_le (rl n l u).2.2 0 with h|h
  ·exact h
  ·exact(rl_no hg h hM).elim
 refine⟨hlast,?_⟩;have hf:far=1099511627776:=rfl;have hj:J n l u (rl n l u).1:=J.relax_ hg.ends (by omega) n _ (j_start hu l);have ht:=dist_law hg hu hlast
 have hb:Bd n (rl n l u).1 384000000:=by
  refine(bd_relax hg.ends hg.cost n 0 (Bell.start n u,List.replicate n (-1),-1) (bd_start hu) (by simp[start_len])).more ?_;have h1:=hg.len;have h2:=hg.hi;have h3:(n:Int)*(l.length*10000)<=64*(600*10000):=Int.mul_le_mul (by omega) (by omega) (by omega) (by omega);omega
 have h0:dg (rl n l u).1 u=0:=by rw[dg,Int.toNat_natCast];exact ht.start
 refine List.ext_getElem (by rw[ht.len];simp) fun v hv hv2=> ?_;rw[List.length_map,List.length_range] at hv2;rw[List.getElem_map,List.getElem_range];have hdg:dg (rl n l u).1 (v:Int)=(rl n l u).1[v]:=by rw[dg,Int.toNat_natCast,List.getD_eq_getElem?_getD,List.getElem?_eq_getElem hv];rfl
 rw[<-hdg];have hMh:=hM.hi u v;have hhi:=hj.hi v (by omega) (by omega)
 have h1:M u v<far->dg (rl n l u).1 v<far/\dg (rl n l u).1 v<=M u v:=fun hm=>by
  have a:=BellLaw.walk_le hj hg.ends hg.cost hb (by omega) (by omega) (by omega) ht.still (hM.wk u v hu hv2 hm);rw[h0] at a;exact⟨a.2.1,by omega⟩
 have h2:dg (rl n l u).1 v<far->M u v<far/\M u v<=dg (rl n l u).1 v:=fun hd=>by
  have a:=Fl.walk_le hM hg (i:=(u:Int)) (by omega) (hj.wk v (by omega) (by omega) hd);simp only[Int.toNat_natCast] at a;exact a.2
 by_cases hd:dg (rl n l u).1 v<far
 ·obtain⟨a,b⟩:=h2 hd
  have:=(h1 a).2;omega
 ·have:¬M u v<far:=fun hm=>hd (h1 hm).1
  omega
end
end JohnPlain
namespace John
open Go.RowKit NetLaw BellLaw DijkLaw JohnLaw JohnPlain Net Bell Go.Proofs.YtjebckehmmbkbaaGreat.Std
def LiftSays (N:Int) (l:List E) (w:World) (e:Ending) (w':World):Prop :=
 (jerr N l≠0->e= .returned (.tuple #[.slice none 0 0,.int .i64 (jerr N l)])) /\
 (jerr N l=0->∃S,e= .returned (.tuple #[.slice (some ⟨S,0,none⟩) N.toNat N.toNat,.int .i64 0])/\Own w' w.heap.size 3 1 ci (.slice (some ⟨S,0,none⟩) N.toNat N.toNat) (hs N.toNat l).1)/\Below w.heap.size w w'
theorem lift_any (N:Int) (A:Option Addr) (c:Nat) (l:List E) (w:World) (hl:Sl w w.heap.size 3 ce A l) (hlen:l.length<=9223372036854775807) :
 Calls Tryz.prog 26 #[.agg #[.int .i64 N,.slice A l.length c]] w fun e w'=>LiftSays N l w e w':=by
 have key:=fun W hs=>check_any N A c l W hs hlen;have hw0:Below w.heap.size w (w.alloc (.cells #[.int .i64 N,.slice A l.length c] 24)):=(Below.refl _ _).alloc zzL _;have hl0:=(hl.keep hw0 zzL).more (show w.heap.size<=(w.alloc (.cells #[.int .i64 N,.slice A l.length c] 24)).heap.size by simp)
 by_cases hg:chk N l=0
 ·rw[hg] at key
  have KEY:=hid key;clear key;have hgood:=chk_zero.1 hg;have hN1:=hgood.lo;have hN2:=hgood.hi;obtain⟨n,rfl⟩:=Int.eq_ofNat_of_zero_le (show 0<=N by omega);have he:jerr n l=if 0<=(hs n l).2.2 then 6 else 0:=by rw[jerr,if_neg (by simpa using hg)];rfl
  have hmk:∀w,(Instr.makeSlice 25 (.int .i64 (n:Int)) (.int .i64 (n:Int))).run Tryz.prog w= .ok (.slice (some ⟨w.heap.size,0,none⟩) n n) (w.alloc (.cells (madeCells #[.int .i64 0] n) 3)) :=
   run_make_row' (P:=Tryz.prog) 25 3 (.int .i64 0) 8 Tryz.underlying25 (by kernel_rfl) rfl .i64 .i64 n (by omega) (by omega)
  have HE:=hid he;have HG:=hid hgood;clear he hg hgood;go_enter Tryz.func26,Tryz.ntmps26
  go_wp2_with fail
  refine(KEY.out _ hl0).mono ?_;rintro e w1 ⟨rfl,hb1⟩;have B1:Below (w.heap.size+1) _ w1:=hb1.mono (by simp);have H1:=hw0.trans (B1.mono (Nat.le_succ _));have Z1:w.heap.size+1<=w1.heap.size:=by have:=hb1.size;simp at this;omega
  have hO:=blk_below (heap_alloc_new w (.cells #[.int .i64 n,.slice A l.length c] 24)) B1 (Nat.lt_succ_self _);have q0:=blk_cell hO 0;have q1:=blk_cell hO 1;simp only[zzG,zzH,zzI] at q0 q1;clear hb1 hl0 hO;have own0:=Grid.own_made n w1.heap.size w1 zzL (by omega) rfl;have H2:Below w.heap.size w (w1.alloc (.cells (madeCells #[.int .i64 0] n) 3)):=H1.alloc (by omega) _;have kr:=fun W (hW:W=w1.alloc (.cells (madeCells #[.int .i64 0] n) 3))=>relax_any n A c l w1.heap.size n (List.replicate n 0) W (by rw[hW];simp) (by rw[hW];exact(hl.keep H2 zzL).more (by omega)) (by rw[hW];exact own0) (by simp) (by omega) (by omega) HG.out.len HG.out.ends HG.out.cost (fun v hv=>by rw[List.getD_eq_getElem?_getD,List.getElem?_replicate,if_pos hv];decide);have KR:=hid kr;have HH2:=hid H2;have HH1:=hid H1;have z1:w.heap.size<w1.heap.size:=by omega
  clear kr own0 hl H2 H1 B1
  go_wp2_with fail
  refine(KR.out _ rfl).mono ?_;rintro e w3 ⟨D,P,last,hre,rfl,hrl⟩;have hfin:=HE.out;have hre2:hs n l=(D,P,last):=hre;rw[hre2] at hfin;have H3:Below w.heap.size w w3:=HH2.out.trans (hrl.lo.mono (by omega));have HRL:=hid hrl;have HRE:=hid hre2;clear hre hre2 hrl HE q0 q1 HH2 HH1
  by_cases hneg:0<=last
  ·rw[if_pos hneg] at hfin
   have HF:=hid hfin;clear hfin;go_wp2;go_ret2;rw[LiftSays,HF.out];exact⟨fun _=>rfl,fun h=>absurd h (by decide),H3⟩
  ·rw[if_neg hneg] at hfin
   have HF:=hid hfin;clear hfin;go_wp2;go_ret2;simp only[LiftSays,HF.out,Int.toNat_natCast,HRE.out];exact⟨fun h=>absurd rfl h,fun _=>⟨w1.heap.size,rfl,HRL.out.d.mono (by omega)⟩,H3⟩
 ·have he:jerr N l=chk N l:=by rw[jerr,if_pos hg]
  simp only[LiftSays,he];have KEY:=hid key;clear key he;have hne:(chk N l != 0)=true:=by rw[bne_iff_ne];exact hg
  generalize chk N l=x at *;go_enter Tryz.func26,Tryz.ntmps26
  go_wp2_with fail
  refine(KEY.out _ hl0).mono ?_;rintro e w1 ⟨rfl,hb1⟩;have H1:=hw0.trans (hb1.mono (by simp));clear hl hl0 hb1;go_wp2;go_ret2;exact⟨fun _=>rfl,fun h=>absurd h hg,H1⟩
end John
end Go.Proofs.YtjebckehmmbkbaaGreat
