/- The walk of dijk.Way. The walk of heur.Check. The walk of star.Look. The walk of star.Run. Plain facts on what a search with keys finds; the laws' own small net. What Dijkstra answers at the laws' own small net. What a law wants of dijk.Way: the answers, one by one; the walk of SameWay. What a law wants of star.Run: the answers, one by one. -/
import Derived.Laws.StructEq
import Derived.IntWalk
import Derived.Test.YtjebckehmmbkbaaGreatVDijkWalks
set_option linter.unusedSimpArgs false
set_option linter.unusedVariables false
set_option maxRecDepth 100000
set_option maxHeartbeats 24000000
namespace Go.Proofs.YtjebckehmmbkbaaGreat
namespace DijkWay
open Go.RowKit NetLaw BellLaw DijkLaw HeapLaw WayLaw Net Heap Go.Proofs.YtjebckehmmbkbaaGreat.Std Dijk
theorem infoIntW:(Tryz.prog.info? 3).map (fun i=>(i.zero,i.size,i.bytes))=some (some (.int .i64 0),1,8):=by kernel_rfl
theorem looks_zero {N:Int} {l:List E} {a b:Int} (h:Dijk.look N l [a,b]=0):NetLaw.Good N l/\(∀e∈l,1<=e.2.2)/\(0<=a/\a<N)/\0<=b/\b<N:=by
 unfold Dijk.look at h;split at h
 ·rename_i h1;exact absurd h h1
 ·rename_i h1
  obtain⟨x,y⟩:=pos_zero (by simpa using h1);simp only[lookE] at h;split at h
  ·omega
  ·split at h
   ·omega
   ·exact⟨x,y,by omega,by omega⟩
def WaySays (N:Int) (l:List E) (fr tt:Int) (w:World) (e:Ending) (w':World):Prop :=
 (Dijk.look N l [fr,tt]≠0->e= .returned (.tuple #[.agg #[.slice none 0 0,.int .i64 0],.int .i64 (Dijk.look N l [fr,tt])])) /\
 (Dijk.look N l [fr,tt]=0->∃D,Sh N fr l D/\(dg D tt=far->e= .returned (.tuple #[.agg #[.slice none 0 0,.int .i64 0],.int .i64 5])) /\
   (dg D tt<far->∃A c p,e= .returned (.tuple #[.agg #[.slice A p.length c,.int .i64 (dg D tt)],.int .i64 0])/\Own w' w.heap.size 3 1 ci (.slice A p.length c) p/\Wy N.toNat l D fr tt p))/\Below w.heap.size w w'
structure Rl (w wr:World) (n:Nat) (A:Option Addr) (c:Nat) (l:List E) (S:Nat) (D:List Int) (t:Nat) (A':Option Addr) (c':Nat) (b:List Int) (v:Int):Prop where
 own:Own wr w.heap.size 3 1 ci (.slice A' b.length c') b
 dist:Own wr w.heap.size 3 1 ci (.slice (some ⟨S,0,none⟩) n n) D
 sep:∀x y,(Value.slice A' x y).ownBlock≠some S
 net:wr.heap[w.heap.size]?=some (.cells #[.int .i64 n,.slice A l.length c] 24 (0,0))
 res:wr.heap[w.heap.size+1]?=some (.cells #[.slice none 0 0,.int .i64 0] 36 (0,0))
 lo:Below w.heap.size w wr
 bk:Bk n l D t v b
theorem Rl.keep {w wr wx:World} {n:Nat} {A:Option Addr} {c:Nat} {l:List E} {S:Nat} {D:List Int} {t:Nat} {A':Option Addr} {c':Nat} {b:List Int} {v:Int} (h:Rl w wr n A c l S D t A' c' b v) (hb:Below wr.heap.size wr wx):Rl w wx n A c l S D t A' c' b v :=
 ⟨h.own.keep hb,h.dist.keep hb,h.sep,blk_below h.net hb (lt_of_block h.net),blk_below h.res hb (lt_of_block h.res),h.lo.trans (hb.mono h.lo.size),h.bk⟩
structure R3 (w wx:World) (X:Nat) (dt:Int) (A':Option Addr) (c':Nat) (b:List Int) (A3:Option Addr) (c3 k:Nat):Prop where
 back:Own wx w.heap.size 3 1 ci (.slice A' b.length c') b
 path:Own wx w.heap.size 3 1 ci (.slice A3 k c3) (b.reverse.take k)
 sep:∀x y x' y',(Value.slice A' x y).ownBlock≠(Value.slice A3 x' y').ownBlock
 box:wx.heap[X]?=some (.cells #[.slice A3 k c3,.int .i64 dt] 36 (0,0))
 res:wx.heap[w.heap.size+1]?=some (.cells #[.slice none 0 0,.int .i64 0] 36 (0,0))
 lo:Below w.heap.size w wx
 hX:w.heap.size+1<X
theorem rev_take {b:List Int} {k:Nat} (hk:k<b.length):b.reverse.take (k+1)=b.reverse.take k++[b[b.length - 1 - k]'(by omega)]:=by
 rw[List.take_succ_eq_append_getElem (by rw[List.length_reverse];exact hk),List.getElem_reverse]
theorem way_any (N:Int) (A:Option Addr) (c:Nat) (l:List E) (fr tt:Int) (w:World) (hl:Sl w w.heap.size 3 ce A l) (hlen:l.length<=9223372036854775807) :
 Calls Tryz.prog 23 #[.agg #[.int .i64 N,.slice A l.length c],.int .i64 fr,.int .i64 tt] w fun e w'=>WaySays N l fr tt w e w':=by
 have hw0:Below w.heap.size w (((w.alloc (.cells #[.int .i64 N,.slice A l.length c] 24)).alloc (.cells #[.slice none 0 0,.int .i64 0] 36)).alloc (.cells #[.int .i64 fr,.int .i64 tt] 3)):=(((Below.refl _ _).alloc zzL _).alloc (by simp) _).alloc (by simp;omega) _;have hz0:w.heap.size<=(((w.alloc (.cells #[.int .i64 N,.slice A l.length c] 24)).alloc (.cells #[.slice none 0 0,.int .i64 0] 36)).alloc (.cells #[.int .i64 fr,.int .i64 tt] 3)).heap.size:=by simp;omega
 have hbox:=blk_alloc (blk_alloc (heap_alloc_new w (.cells #[.int .i64 N,.slice A l.length c] 24)) (.cells #[.slice none 0 0,.int .i64 0] 36)) (.cells #[.int .i64 fr,.int .i64 tt] 3)
 have hres:(((w.alloc (.cells #[.int .i64 N,.slice A l.length c] 24)).alloc (.cells #[.slice none 0 0,.int .i64 0] 36)).alloc (.cells #[.int .i64 fr,.int .i64 tt] 3)).heap[w.heap.size+1]?=some (.cells #[.slice none 0 0,.int .i64 0] 36 (0,0)):=by
  have h:=blk_alloc (heap_alloc_new (w.alloc (.cells #[.int .i64 N,.slice A l.length c] 24)) (.cells #[.slice none 0 0,.int .i64 0] 36)) (.cells #[.int .i64 fr,.int .i64 tt] 3)
  simpa using h
 have key:=look_any N A c l (some ⟨w.heap.size+1+1,0,none⟩) 2 2 [fr,tt] _ ((hl.keep hw0 zzL).more hz0) (sl_new' (by decide) ((w.alloc (.cells #[.int .i64 N,.slice A l.length c] 24)).alloc (.cells #[.slice none 0 0,.int .i64 0] 36)) #[.int .i64 fr,.int .i64 tt] 3 [fr,tt] (by simp) rfl) rfl hlen (by decide)
 by_cases hx:Dijk.look N l [fr,tt]=0
 ·obtain⟨hg,hc,⟨f0,f1⟩,t0,t1⟩:=looks_zero hx
  rw[hx] at key;have h1:=hg.lo;have hN2:=hg.hi;have h6:=hg.len;obtain⟨n,rfl⟩:=Int.eq_ofNat_of_zero_le (show 0<=N by omega);obtain⟨f,rfl⟩:=Int.eq_ofNat_of_zero_le f0;obtain⟨t,rfl⟩:=Int.eq_ofNat_of_zero_le t0;have krun:=fun W hs=>run_any n f A c l W hs hg (by omega) (fun e he=>by have:=hc e he;omega);have hpv:=fun (D:List Int) (v:Int) (hD:Sh n f l D)=>pv_spec (v:=v) hD hg hc;obtain⟨i0,hi,hz0i,hz1i,hz2i⟩:=info_parts infoIntW;have KEY:=hid key;have KRUN:=hid krun;have HX:=hid hx;have HBOX:=hid hbox;have HRES:=hid hres;have HPV:=hid hpv;have HG:=hid hg;have HCC:=hid hc;clear key krun hx hbox hg hc hres hpv;go_enter Tryz.func23,Tryz.ntmps23
  go_wp2_with fail
  refine KEY.out.mono ?_;rintro e w1 ⟨rfl,hb1⟩;have H1:=hw0.trans (hb1.mono hz0);have hb:=blk_below HBOX.out hb1 (by simp;omega);have hr:=blk_below HRES.out hb1 (by simp);have q0:=blk_cell hb 0;have q1:=blk_cell hb 1;simp only[zzG,zzH,zzI] at q0 q1;have HB:=hid hb;have HR:=hid hr;clear hb hr hb1
  go_wp2_with fail
  refine(KRUN.out _ ((hl.keep H1 zzL).more H1.size)).mono ?_;rintro e w2 ⟨S,D,rfl,ho,hsh,hb2⟩;have H2:=H1.trans (hb2.mono H1.size);have hS:=(ho.base_ S rfl).1;have hS2:=(ho.base_ S rfl).2;have hb:=blk_below HB.out hb2 (lt_of_block HB.out);have hr:=blk_below HR.out hb2 (lt_of_block HR.out);have hwS:=Nat.le_trans H1.size hS;have ho2:=ho.mono H1.size;have hDl:=hsh.len;have hDn:D.length=n:=by omega
  have htn:t<n:=by omega
  obtain⟨dc,_⟩:=own_at1 hDn ho2 htn;have hdt:D.getD t 0=dg D (t:Int):=by rw[dg,Int.toNat_natCast]
  have htf:=(hsh.lo t (by omega) (by omega)).2;rw[hdt] at dc;have r0:=blk_cell hr 0;have r1:=blk_cell hr 1;have rf0:=blk_free hr 0;have rf1:=blk_free hr 1;simp only[zzG,zzH,zzI] at r0 r1;have hzr:w.heap.size+1<w2.heap.size:=lt_of_block hr;have HO:=hid ho2;have HSH:=hid hsh;have HB2:=hid hb;have HR2:=hid hr;have HDT:=hid hdt;clear ho ho2 hsh hb hr hb2 HB HR q0 q1 hdt hDl
  by_cases hfar:dg D (t:Int)=far
  ·have hfar':=hfar
   unfold far at hfar';rw[hfar'] at dc;have HF:=hid hfar;clear hfar hfar' htf;go_wp2;refine bodyPost_ret (v:= .tuple #[.agg #[.slice none 0 0,.int .i64 0],.int .i64 5]) (by simp[results,Tryz.results23,go_sem,hzr,r0,r1,rf0,rf1]) rfl ?_;refine⟨fun h=>absurd HX.out h,fun _=>⟨D,HSH.out,fun _=>rfl,fun h=>by rw[HF.out] at h;exact absurd h (Int.lt_irrefl _)⟩,?_⟩;exact(H2.setCell (by dsimp only;omega) _).setCell (by dsimp only;omega) _
  ·have hlt:dg D (t:Int)<far:=by omega
   have hne5:(dg D (t:Int) == 1099511627776)=false:=by simp;exact hfar
   have HLT:=hid hlt;clear hfar hlt htf;generalize hdv:dg D (t:Int)=dt at *;have HDV:=hid hdv;clear hdv;have bk0:Own (w2.alloc (.cells #[.int .i64 t] 3)) w.heap.size 3 1 ci (.slice (some ⟨w2.heap.size,0,none⟩) 1 1) [(t:Int)]:=own_new' w2 _ _ rfl rfl (by omega) (by decide) rfl
   have rl0:Rl w (w2.alloc (.cells #[.int .i64 t] 3)) n A c l S D t (some ⟨w2.heap.size,0,none⟩) 1 [(t:Int)] t :=
    ⟨bk0,HO.out.alloc _,fun x y e=>by simp[Value.ownBlock] at e;omega,blk_alloc HB2.out _,blk_alloc HR2.out _,H2.alloc H2.size _,Bk.one ⟨t0,t1⟩ (by rw[HDV.out];exact HLT.out)⟩
   have RL0:=hid rl0;have HDN:=hid hDn;clear bk0 rl0;go_wp2;clear HO HB2 HR2 hDn r0 r1 rf0 rf1 dc H1 H2
   go_loopw [10,11] (fun s10 s11 wx=>∃(A':Option Addr) (c':Nat) (b:List Int) (v:Int),s10= .slice A' b.length c'/\s11= .int .i64 v/\Rl w wx n A c l S D t A' c' b v) (fun _ s11 _=>(dg D (intOf s11)).toNat)
   case atStart=>exact⟨_,_,[(t:Int)],t,rfl,rfl,RL0.out⟩
   case round =>
    clear RL0;obtain⟨A',c',b,v,rfl,rfl,hr⟩:=hrel;have n0:=blk_cell hr.net 0;have n1:=blk_cell hr.net 1;simp only[zzG,zzH,zzI] at n0 n1;have hzn:=lt_of_block hr.net;have hvin:v∈b:=List.mem_of_getLast? hr.bk.last;obtain⟨v0,v1,_,vf⟩:=hr.bk.rng v hvin
    by_cases hvf:v=f
    ·subst hvf
     have hd1:((f:Int) != (f:Int))=false:=by simp
     obtain⟨dc,_⟩:=own_at1 HDN.out hr.dist htn;have hgt:D.getD t 0=dt:=by rw[<-HDV.out,dg,Int.toNat_natCast]
     rw[hgt] at dc;have hSw:=(hr.dist.base_ S rfl).2;have hbl:=hr.bk.len;have hlen0:(0:Int)<=(b.length:Int) - 1:=by omega
     have HR:=hid hr;clear hgt hr hvin v0 v1 vf
     have r30:R3 w (wr.alloc (.cells #[.slice none 0 0,.int .i64 dt] 36)) wr.heap.size dt A' c' b none 0 0 :=
      ⟨HR.out.own.alloc _,Own.nil_,fun x y x' y' e=>by
        obtain⟨S1,c1,e1,_⟩:=HR.out.own.some_ hbl.2;have e2:(Value.slice A' x y).ownBlock=(Value.slice A' b.length c').ownBlock:=obs ..;rw[e2,e1] at e;simp[Value.ownBlock] at e,heap_alloc_new _ _,blk_alloc HR.out.res _,HR.out.lo.alloc HR.out.lo.size _,lt_of_block HR.out.res⟩
     have hway:=HR.out.bk.way;have R30:=hid r30;have HWAY:=hid hway;clear r30 hway;go_wp2;clear HR n0 n1 hzn dc hSw;generalize hX:wr.heap.size=X at *;have HX2:=hid hX;clear hX
     go_loopw [16] (fun s16 wx=>∃(k:Nat) (A3:Option Addr) (c3:Nat),k<=b.length/\s16= .int .i64 ((b.length:Int) - 1 - k)/\R3 w wx X dt A' c' b A3 c3 k) (fun s16 _=>(intOf s16+1).toNat)
     case atStart=>exact⟨0,none,0,Nat.zero_le _,by simp,R30.out⟩
     case round =>
      clear R30;obtain⟨k,A3,c3,hk,rfl,hr⟩:=hrel;have x0:=blk_cell hr.box 0;have x1:=blk_cell hr.box 1;have xf0:=blk_free hr.box 0;have r0:=blk_cell hr.res 0;have r1:=blk_cell hr.res 1;have rf0:=blk_free hr.res 0;have rf1:=blk_free hr.res 1;simp only[zzG,zzH,zzI] at x0 x1 r0 r1;have hzX:=lt_of_block hr.box;have hzR:=lt_of_block hr.res;have hXr:=hr.hX
      by_cases hlt:k<b.length
      ·obtain⟨m,hm⟩:∃m:Nat,b.length - 1 - k=m:=⟨_,rfl⟩
       have hmi:(b.length:Int) - 1 - k=(m:Int):=by omega
       have hmb:m<b.length:=by omega
       obtain⟨sb,so,rfl,hsb,hbc⟩:=hr.back.sl.2.atI hmb;have hnx:=rev_take hlt;have hbx:b[b.length - 1 - k]'(by omega)=b[m]:=by congr 1
       rw[hbx] at hnx;obtain⟨x,hxb⟩:∃x,x=b[m]:=⟨_,rfl⟩;rw[<-hxb] at hnx hbc;have HXB:=hid hxb;clear hxb;have hln:(b.reverse.take k).length=k:=by rw[List.length_take,List.length_reverse];omega
       have hown:=hr.path;have hrz:=hr.lo.size;have HR:=hid hr;have HNX:=hid hnx;have HLN:=hid hln;have HMI:=hid hmi;rw[hmi];clear hnx hln hr hbx hm hmi;go_wp2;refine Sink.wp_region_sink 6 9 (fun w'=>w'.cell? ⟨X,0,none⟩=some (.slice A3 k c3)/\w'.cell? ⟨sb,so+m,none⟩=some (.int .i64 x)) (by kernel_rfl) (by kernel_rfl) ?_ (fun hHeld=> ?_)
       ·go_keep
       simp only[List.take_succ_cons,List.take_zero,List.drop_succ_cons,List.drop_zero]
       repeat
        (refine Sink.Head.cons ?_ (by rfl) (fun w' hSw=> ?_) ?_
         rotate_left
         ·((try dsimp only at hSw);go_split_ands;go_simp;try with_reducible rfl)
         simp only[Act.put,zzD,zzE,zzF])
       refine Sink.Head.nil ?_;refine Sink.Tail.cons (fun K hK=> ?_);go_simp;refine hK.out _ _ (by go_keep) (fun hH2=> ?_);clear hK K hHeld;refine Sink.Tail.cons (fun K hK=> ?_);refine step_push _ rfl (.tmp 92) (.tmp 97) _ rfl w.heap.size 3 i0 _ 1 8 ci Tryz.underlying25 hi hz0i hz1i hz2i rfl (by decide) _ (b.reverse.take k) k HLN.out rfl (hown.alloc _) wr.heap.size 1 x rfl (news1' (by simp)) (fun _ _=>one_ci _ _) (by omega) (by omega) (by simp;omega) ?_;intro A4 c4 w4 hown4 hgrow4 hat4;have hg4:World.grownBy (wr.alloc (.cells #[.int .i64 x] 3)).drew w4 (Value.slice A3 k c3).ownBlock:=hgrow4;have ha4:(Value.slice A4 (k+1) c4).ownBlock=(Value.slice A3 k c3).ownBlock\/(Value.slice A4 (k+1) c4).ownBlock=some (wr.alloc (.cells #[.int .i64 x] 3)).drew.heap.size:=hat4;have hX0:(wr.alloc (.cells #[.int .i64 x] 3)).drew.heap[X]?=some (.cells #[.slice A3 k c3,.int .i64 dt] 36 (0,0)):=blk_alloc HR.out.box _;have hR0:(wr.alloc (.cells #[.int .i64 x] 3)).drew.heap[w.heap.size+1]?=some (.cells #[.slice none 0 0,.int .i64 0] 36 (0,0)):=blk_alloc HR.out.res _;have hb0:Own (wr.alloc (.cells #[.int .i64 x] 3)).drew w.heap.size 3 1 ci (.slice (some ⟨sb,so,none⟩) b.length c') b:=HR.out.back.alloc _;have hl0:Below w.heap.size w (wr.alloc (.cells #[.int .i64 x] 3)).drew:=(HR.out.lo.alloc hrz _).drew;have hsz0:(wr.alloc (.cells #[.int .i64 x] 3)).drew.heap.size=wr.heap.size+1:=by show (wr.alloc (.cells #[.int .i64 x] 3)).heap.size=_;simp
       have hX4:=blk_grown hX0 hg4 (hown.ne_ HR.out.box (by decide));have hR4:=blk_grown hR0 hg4 (hown.ne_ HR.out.res (by decide));have hb4:=hb0.kept hg4 (.inr (HR.out.sep _ _ _ _));obtain⟨sb2,so2,es2,_,hc2⟩:=hb4.sl.2.atI hmb;cases es2;rw[<-HXB.out] at hc2;have y0:=blk_cell hX4 0;have yf0:=blk_free hX4 0;simp only[zzG,zzH,zzI] at y0;have hlo4:Below w.heap.size w w4:=hl0.grown hg4 (by omega) hown.lo
       have hsep4:∀x y x' y',(Value.slice (some ⟨sb,so,none⟩) x y).ownBlock≠(Value.slice A4 x' y').ownBlock:=fun a1 a2 a3 a4 e=>by
        have e4:(Value.slice A4 a3 a4).ownBlock=(Value.slice A4 (k+1) c4).ownBlock:=obs ..;rcases ha4 with h|h
        ·rw[e4,h] at e
         exact HR.out.sep _ _ _ _ e
        ·rw[e4,h,hsz0] at e
         simp[Value.ownBlock] at e;omega
       refine hK.out _ _ ⟨y0,hc2⟩ (fun hH3=> ?_);clear hK K hH2;refine Sink.Tail.cons (fun K hK=> ?_);go_simp;refine hK.out _ _ hH3 (fun hH4=> ?_);clear hK K hH3;refine Sink.Tail.one ?_;have HN4:=hid hown4;have HB4:=hid hb4;have HX4:=hid hX4;have HR4:=hid hR4;have HS4:=hid hsep4;have HL4:=hid hlo4;clear hown4 hb4 hX4 hR4 hsep4 hlo4 hgrow4 hat4 hown hH4 hc2 hg4 ha4 hX0 hR0 hb0 hl0 hsz0;go_wp2;refine NoPanic.normal ?_;go_wp2
       go_roundw
       case rel =>
        refine⟨k+1,A4,c4,by omega,by have:=HMI.out;congr 1;omega,?_⟩;refine⟨HB4.out.setCell (HB4.out.ne_ HX4.out (by decide)) _,?_,HS4.out,blk_set HX4.out 0 _,blk_far HR4.out (by dsimp only;omega) _,HL4.out.setCell (by dsimp only;omega) _,hXr⟩;rw[HNX.out];exact HN4.out.setCell (HN4.out.ne_ HX4.out (by decide)) _
       case measure =>
        have:=HMI.out;simp[intOf] <;> omega
      ·obtain rfl:k=b.length:=by omega
       have hm1:(b.length:Int) - 1 - (b.length:Int)= -1:=by omega
       rw[hm1];have HR:=hid hr;have hne:=hr.path.ne_ hr.res (by decide);have HNE:=hid hne;clear hm1 hr hne;go_wp2;refine bodyPost_ret (v:= .tuple #[.agg #[.slice A3 b.length c3,.int .i64 dt],.int .i64 0]) (by simp[results,Tryz.results23,go_sem,hzR,r0,r1,rf0,rf1]) rfl ?_;refine⟨fun h=>absurd HX.out h,fun _=>⟨D,HSH.out,fun h=> ?_,fun _=>⟨A3,c3,b.reverse,by rw[List.length_reverse,HDV.out],?_,by rw[Int.toNat_natCast];exact HWAY.out⟩⟩,?_⟩
       ·have h2:=HLT.out
        rw[<-HDV.out,h] at h2;exact absurd h2 (Int.lt_irrefl _)
       ·have hp:=HR.out.path
        rw[List.take_of_length_le (by simp)] at hp;rw[List.length_reverse];exact(hp.setCell HNE.out _).setCell HNE.out _
       ·exact(HR.out.lo.setCell (by dsimp only;omega) _).setCell (by dsimp only;omega) _
    ·have hne:(v != (f:Int))=true:=by rw[bne_iff_ne];exact hvf
     obtain⟨p1,p2,p3,p4⟩:=HPV.out D v HSH.out ⟨v0,v1⟩ vf hvf;obtain⟨v,rfl⟩:=Int.eq_ofNat_of_zero_le v0;have hvn:v<n:=by omega
     have hp0:(n:Int)=pv n (l.take 0) D v:=rfl;have P1:=hid p1;have P4:=hid p4;have HP0:=hid hp0;have VF:=hid vf;have HR:=hid hr;clear p1 p4 hp0 vf hvin hr v0 v1 hvf;go_wp2
     go_loopw [12,46] (fun s12 s46 wx=>∃(k:Nat) (u:Int),k<=l.length/\s46= .int .i64 k/\s12= .int .i64 u/\Hid (u=pv n (l.take k) D v)/\Rl w wx n A c l S D t A' c' b v) (fun _ s46 _=>l.length - (intOf s46).toNat)
     case atStart=>exact⟨0,n,Nat.zero_le _,rfl,rfl,HP0,HR.out⟩
     case round =>
      clear HR n0 n1 hzn HP0;obtain⟨k,u,hk,rfl,rfl,hu,hr⟩:=hrel;have n0:=blk_cell hr.net 0;have n1:=blk_cell hr.net 1;simp only[zzG,zzH,zzI] at n0 n1;have hzn:=lt_of_block hr.net
      by_cases hlt:k<l.length
      ·obtain⟨bb,off,fe,te,co,rfl,hbB,he,hcf,hct,hcc⟩:=(hl.keep hr.lo zzL).atE hlt
       have hbw:bb<wr.heap.size:=by omega
       have hen:=HG.out.ends _ (List.getElem_mem hlt);have hco:=HG.out.cost _ (List.getElem_mem hlt);rw[he] at hen hco;obtain⟨e0,e1,e2,e3⟩:=hen;simp only at e0 e1 e2 e3 hco;obtain⟨fe,rfl⟩:=Int.eq_ofNat_of_zero_le e0;obtain⟨te,rfl⟩:=Int.eq_ofNat_of_zero_le e2;have hfn:fe<n:=by omega
       obtain⟨dx,_⟩:=own_at1 HDN.out hr.dist hfn;obtain⟨dy,_⟩:=own_at1 HDN.out hr.dist hvn;have hSw:=(hr.dist.base_ S rfl).2;have hlox:=HSH.out.lo fe (by omega) (by omega);have hnx:=pv_succ n l D v k hlt;rw[he, <-hu.out] at hnx;unfold pvS at hnx;have hgx:D.getD fe 0=dg D (fe:Int):=by rw[dg,Int.toNat_natCast]
       have hgy:D.getD v 0=dg D (v:Int):=by rw[dg,Int.toNat_natCast]
       rw[hgx] at dx;rw[hgy] at dy;simp only at hnx;have HNX:=hid hnx;clear hnx;generalize dg D (fe:Int)=x at *;generalize dg D (v:Int)=y at *;have hE:=hr.keep ((Below.refl _ _).alloc zzL (.cells #[.int .i64 fe,.int .i64 te,.int .i64 co] 70));have HE:=hid hE;unfold far at hlox;obtain⟨x0,x1⟩:=hlox;obtain⟨co0,co1⟩:=hco;clear hE hr he hgx hgy e0 e2
       by_cases htv:te=v
       ·have hb1:((te:Int) == (v:Int))=true:=by rw[beq_iff_eq];omega
        by_cases hxy:x+co=y
        ·have hb2:(x+co == y)=true:=by simp;exact hxy
         have hu2:pv n (l.take (k+1)) D v=min u fe:=by have:=HNX.out;rwa [if_pos ⟨by omega,hxy⟩] at this
         have HU:=hid hu2;clear hxy hu2 htv;go_wp2;go_quiet (fail);have HE2:=hid (HE.out.keep (below_drewN (Below.refl _ _) nq));go_wp2
         all_goals
          go_roundw
          case' rel=>exact⟨k+1,_,by omega,by go_num,rfl,hid (by rw[HU.out];omega),HE2.out⟩
          case' measure=>simp[intOf];omega
        ·have hb2:(x+co == y)=false:=by simp;exact hxy
         have hu2:pv n (l.take (k+1)) D v=u:=by have:=HNX.out;rwa [if_neg (fun h=>hxy h.2)] at this
         have HU:=hid hu2;clear hxy hu2 htv;go_wp2;go_quiet (fail);have HE2:=hid (HE.out.keep (below_drewN (Below.refl _ _) nq));go_wp2
         go_roundw
         case rel=>exact⟨k+1,u,by omega,by go_num,rfl,hid HU.out.symm,HE2.out⟩
         case measure=>simp[intOf];omega
       ·have hb1:((te:Int) == (v:Int))=false:=by rw[beq_eq_false_iff_ne];omega
        have hu2:pv n (l.take (k+1)) D v=u:=by have:=HNX.out;rwa [if_neg (fun h=>htv (by have:=h.1;omega))] at this
        have HU:=hid hu2;clear hu2 htv;go_wp2;go_quiet (fail);have HE2:=hid (HE.out.keep (below_drewN (Below.refl _ _) nq));go_wp2
        go_roundw
        case rel=>exact⟨k+1,u,by omega,by go_num,rfl,hid HU.out.symm,HE2.out⟩
        case measure=>simp[intOf];omega
      ·obtain rfl:k=l.length:=by omega
       have hu':u=pv n l D v:=by rw[hu.out,List.take_length]
       have p1:=P1.out;have p4:=P4.out;rw[<-hu'] at p1 p2 p3 p4;have hlo:=(HSH.out.lo u p2 p3).1;have hbk:=hr.bk.add p1 ⟨p2,p3⟩ p4 VF.out;have hbl:=hr.bk.len;have hown:=hr.own;have hSw:=(hr.dist.base_ S rfl).2;have hrz:=hr.lo.size;have HR:=hid hr;have HBK:=hid hbk;have P5:=hid p4;clear hu hu' p1 p4 hr hbk P1 P4
       go_wp2_with (at_builtin;refine wpList_push _ rfl (.tmp 74) (.tmp 76) _ rfl w.heap.size 3 i0 _ 1 8 ci Tryz.underlying25 hi hz0i hz1i hz2i rfl (by decide) _ b b.length rfl rfl (hown.alloc _) wr.heap.size 1 u rfl news1 (fun _ _=>one_ci _ _) (by omega) (by omega) (by simp;omega) ?_;intro A3 c3 w3 hown3 hgrow3 hat3)
       have r3:Rl w w3 n A c l S D t A3 c3 (b++[u]) u:=by
        refine⟨by rw[List.length_append];exact hown3,(HR.out.dist.alloc _).kept hgrow3 (.inr fun e=>HR.out.sep _ _ e.symm),fun x y e=> ?_,blk_grown (blk_alloc HR.out.net _) hgrow3 (hown.ne_ HR.out.net (by decide)),blk_grown (blk_alloc HR.out.res _) hgrow3 (hown.ne_ HR.out.res (by decide)),(HR.out.lo.alloc hrz _).grown hgrow3 (by simp;omega) hown.lo,HBK.out⟩;rcases hat3 with h|h
        ·rw[obs A3 x (b.length+1) y c3,h] at e
         exact HR.out.sep _ _ e
        ·rw[obs A3 x (b.length+1) y c3,h] at e
         simp at e;omega
       have R3:=hid r3;clear r3 hgrow3 hat3 hown3 hown
       go_roundw
       case rel=>exact⟨A3,c3,b++[u],u,by simp,rfl,R3.out⟩
       case measure =>
        have:=P5.out;simp[intOf];omega
 ·have hne:(Dijk.look N l [fr,tt] != 0)=true:=by rw[bne_iff_ne];exact hx
  unfold WaySays;generalize Dijk.look N l [fr,tt]=x at *;have KEY:=hid key;have HRES:=hid hres;clear key hl hbox hres;go_enter Tryz.func23,Tryz.ntmps23
  go_wp2_with fail
  refine KEY.out.mono ?_;rintro e w1 ⟨rfl,hb1⟩;have H1:=hw0.trans (hb1.mono hz0);have hr:=blk_below HRES.out hb1 (by simp);have r0:=blk_cell hr 0;have r1:=blk_cell hr 1;have rf0:=blk_free hr 0;have rf1:=blk_free hr 1;simp only[zzG,zzH,zzI] at r0 r1;clear hb1 hr;go_wp2;refine bodyPost_ret (v:= .tuple #[.agg #[.slice none 0 0,.int .i64 0],.int .i64 x]) (by simp[results,Tryz.results23,go_sem,r0,r1,rf0,rf1]) rfl ⟨fun _=>rfl,fun h=>absurd h hx,?_⟩
  first
   |exact(H1.setCell (by dsimp only;omega) _).setCell (by dsimp only;omega) _
   |exact H1
end DijkWay
namespace Heur
open Go.RowKit NetLaw BellLaw DijkLaw HeurLaw Net Dijk Go.Proofs.YtjebckehmmbkbaaGreat.Std
theorem getD_dg (D:List Int) (v:Nat):D.getD v 0=dg D (v:Int):=by rw[dg,Int.toNat_natCast]
theorem atD {w:World} {B:Nat} {A:Option Addr} {l:List Int} (h:Sl w B 1 ci A l) {k:Nat} (hk:k<l.length) :
 ∃b off,A=some ⟨b,off,none⟩/\b<B/\w.cell? ⟨b,off+k,none⟩=some (.int .i64 (dg l (k:Int))):=by
 obtain⟨b,off,hA,hb,hc⟩:=h.atI hk;refine⟨b,off,hA,hb,?_⟩;rw[hc,dg,Int.toNat_natCast,List.getD_eq_getElem?_getD,List.getElem?_eq_getElem hk]
 rfl
theorem check_h (N tt:Int) (A:Option Addr) (c:Nat) (l:List E) (Ah:Option Addr) (ch:Nat) (hs:List Int) (w:World) (hl:Sl w w.heap.size 3 ce A l) (hh:Sl w w.heap.size 1 ci Ah hs) (hlen:l.length<=9223372036854775807) (hlen':hs.length<=9223372036854775807) :
 Calls Tryz.prog 65 #[.agg #[.int .i64 N,.slice A l.length c],.int .i64 tt,.slice Ah hs.length ch] w fun e w'=>e= .returned (.int .i64 (hck (Dijk.look N l [tt]) N tt l hs))/\Below w.heap.size w w':=by
 have hw0:Below w.heap.size w ((w.alloc (.cells #[.int .i64 N,.slice A l.length c] 24)).alloc (.cells #[.int .i64 tt] 3)):=((Below.refl _ _).alloc zzL _).alloc (by simp) _;have hz0:w.heap.size<=((w.alloc (.cells #[.int .i64 N,.slice A l.length c] 24)).alloc (.cells #[.int .i64 tt] 3)).heap.size:=by simp;omega
 have hbox:=blk_alloc (heap_alloc_new w (.cells #[.int .i64 N,.slice A l.length c] 24)) (.cells #[.int .i64 tt] 3);have key:=look_any N A c l (some ⟨w.heap.size+1,0,none⟩) 1 1 [tt] _ ((hl.keep hw0 zzL).more hz0) (sl_new' (by decide) (w.alloc (.cells #[.int .i64 N,.slice A l.length c] 24)) #[.int .i64 tt] 3 [tt] (by simp) rfl) rfl hlen (by decide)
 by_cases hx:Dijk.look N l [tt]=0
 ·obtain⟨hg,hc,f0,f1⟩:=look_zero hx
  generalize hR:hck (Dijk.look N l [tt]) N tt l hs=R;have hp:R=if (hs.length:Int)≠N then 1 else if hrE hs≠0 then hrE hs else if dg hs tt≠0 then 7 else heE hs l:=by rw[<-hR];unfold hck;rw[if_neg (by omega)]
  have hN:=hg.lo;have hN2:=hg.hi;have h6:=hg.len;rw[hx] at key;have KEY:=hid key;have HP:=hid hp;have HBOX:=hid hbox;have HG:=hid hg;have HC:=hid hc;clear key hp hx hbox hg hc hlen hR;obtain⟨n,rfl⟩:=Int.eq_ofNat_of_zero_le (show 0<=N by omega);obtain⟨t,rfl⟩:=Int.eq_ofNat_of_zero_le f0
  by_cases hsl:hs.length=n
  ·subst hsl
   have hne:((hs.length:Int) != (hs.length:Int))=false:=by simp
   have ht:t<hs.length:=by omega
   obtain⟨bh,oh,rfl,hbh,_⟩:=atD hh ht;go_enter Tryz.func65,Tryz.ntmps65
   go_wp2_with fail
   refine KEY.out.mono ?_;rintro e w1 ⟨rfl,hb1⟩;have H1:=hw0.trans (hb1.mono hz0);have hb:=blk_below HBOX.out hb1 (by simp;omega);have hz1:=H1.size;have hzb:w.heap.size<w1.heap.size:=lt_of_block hb;have HB:=hid hb;have q0:=blk_cell hb 0;have q1:=blk_cell hb 1;simp only[zzG,zzH,zzI] at q0 q1;clear hb hb1;go_wp2
   go_loopw [26] (fun i wr=>∃k:Nat,k<=hs.length/\i= .int .i64 k/\Hid (hrE hs=hrE (hs.drop k))/\w1=wr) (fun i _=>hs.length - (intOf i).toNat)
   case atStart=>exact⟨0,Nat.zero_le _,rfl,hid rfl,rfl⟩
   case round =>
    obtain⟨k,hk,rfl,hpe,rfl⟩:=hrel
    by_cases hlt:k<hs.length
    ·obtain⟨b,off,hA,hbB,hcx⟩:=(hh.keep H1 zzL).atI hlt
     injection hA with hA;injection hA with hA1 hA2;subst hA1 hA2;have hst:=hrE_drop hs k hlt;rw[<-hpe.out] at hst;generalize hs[k]=x at *;have HST:=hid hst;clear hst hpe
     by_cases hlo:x<0
     ·have hfin:R=1:=by rw[HP.out,if_neg (by simp),if_pos (show hrE hs≠0 by rw[HST.out,if_pos (Or.inl hlo)];decide),HST.out,if_pos (Or.inl hlo)]
      have HF:=hid hfin;clear hfin;go_wp2;go_ret;exact⟨ret_int HF.out.symm,H1⟩
     ·by_cases hhi:1099511627776<x
      ·have hfin:R=1:=by rw[HP.out,if_neg (by simp),if_pos (show hrE hs≠0 by rw[HST.out,if_pos (show x<0\/far<x from Or.inr hhi)];decide),HST.out,if_pos (show x<0\/far<x from Or.inr hhi)]
       have HF:=hid hfin;clear hfin;go_wp2;go_ret;exact⟨ret_int HF.out.symm,H1⟩
      ·have hno:¬(x<0\/far<x):=by unfold far;omega
       have HNO:=hid hno;clear hno;go_wp2
       go_roundw
       case rel=>exact⟨k+1,by omega,by go_num,hid (by rw[HST.out,if_neg HNO.out]),by trivial⟩
       case measure=>simp[intOf];omega
    ·obtain rfl:k=hs.length:=by omega
     have hr0:hrE hs=0:=by rw[hpe.out,List.drop_length];rfl
     have hbd:=hrE_zero.1 hr0;obtain⟨b,off,hA,hbB,hct⟩:=atD (hh.keep H1 zzL) ht;injection hA with hA;injection hA with hA1 hA2;subst hA1 hA2;have HR0:=hid hr0;have HBD:=hid hbd;clear hr0 hbd hpe hlt
     by_cases hz:dg hs (t:Int)=0
     ·have hp2:R=heE hs l:=by rw[HP.out,if_neg (by simp),if_neg (by rw[HR0.out];decide),if_neg (by rw[hz];decide)]
      have HP2:=hid hp2;have hne2:(dg hs (t:Int) != 0)=false:=by rw[hz];rfl
      generalize dg hs (t:Int)=z at *;clear hp2 hz;go_wp2
      go_loopw [45] (fun i wr=>∃k:Nat,k<=l.length/\i= .int .i64 k/\Hid (heE hs l=heE hs (l.drop k))/\Below w1.heap.size w1 wr) (fun i _=>l.length - (intOf i).toNat)
      case atStart=>exact⟨0,Nat.zero_le _,rfl,hid rfl,Below.refl _ _⟩
      case round =>
       obtain⟨k,hk,rfl,hpe,hB⟩:=hrel;clear q0 q1 hct hne2;have hH:=H1.trans (hB.mono hz1)
       by_cases hlt:k<l.length
       ·obtain⟨b',off',f,u,co,rfl,hbB',he,hcf,hct,hcc⟩:=(hl.keep hH zzL).atE hlt
        have hst:=heE_drop hs l k hlt;rw[<-hpe.out,he] at hst;have hg:=HG.out;have hen:=hg.ends _ (List.getElem_mem hlt);have hco:=hg.cost _ (List.getElem_mem hlt);rw[he] at hen hco;obtain⟨f0',f1',u0,u1⟩:=hen;simp only at f0' f1' u0 u1 hco hst;obtain⟨f,rfl⟩:=Int.eq_ofNat_of_zero_le f0';obtain⟨u,rfl⟩:=Int.eq_ofNat_of_zero_le u0;have hfl:f<hs.length:=by omega
        have hul:u<hs.length:=by omega
        obtain⟨b1,o1,hA,_,hc1⟩:=atD (hh.keep hH zzL) hfl;injection hA with hA;injection hA with hA1 hA2;subst hA1 hA2;obtain⟨b1,o1,hA,_,hc2⟩:=atD (hh.keep hH zzL) hul;injection hA with hA;injection hA with hA1 hA2;subst hA1 hA2;have hx0:=HBD.out _ (dg_mem (a:=hs) (v:=(f:Int)) (by omega) (by omega));have hy0:=HBD.out _ (dg_mem (a:=hs) (v:=(u:Int)) (by omega) (by omega));have HST:=hid hst;unfold far at hx0 hy0;generalize dg hs (f:Int)=x at *;generalize dg hs (u:Int)=y at *;obtain⟨hx0,hx1⟩:=hx0;obtain⟨hy0,hy1⟩:=hy0;obtain⟨co0,co1⟩:=hco;have hbw:bh<wr.heap.size:=by have:=hB.size;omega
        have hbw':b'<wr.heap.size:=by have:=hB.size;omega
        have hE:=hB.alloc hB.size (.cells #[.int .i64 f,.int .i64 u,.int .i64 co] 70);clear hst hpe he hg f0' u0 hB hH
        by_cases hbad:co+y<x
        ·have hfin:R=7:=by rw[HP2.out,HST.out,if_pos hbad]
         have HF:=hid hfin;have hd:decide (x > co+y)=true:=decide_eq_true hbad;have hd2:decide (co+y<x)=true:=decide_eq_true hbad;clear hfin;go_wp2;go_quiet (fail);go_wp2;go_ret;exact⟨ret_int HF.out.symm,H1.trans ((below_drewN hE _).mono hz1)⟩
        ·have hd:decide (x > co+y)=false:=by simp;omega
         have hd2:decide (co+y<x)=false:=by simp;omega
         go_wp2;go_quiet (fail);go_wp2
         go_roundw
         case rel=>exact⟨k+1,by omega,by go_num,hid (by rw[HST.out,if_neg (show ¬(co+y<x) by omega)]),below_drewN hE _⟩
         case measure=>simp[intOf];omega
       ·obtain rfl:k=l.length:=by omega
        have hfin:R=0:=by rw[HP2.out,hpe.out,List.drop_length];rfl
        have HF:=hid hfin;clear hfin hpe;go_wp2;go_ret;exact⟨ret_int HF.out.symm,hH⟩
     ·have hfin:R=7:=by rw[HP.out,if_neg (by simp),if_neg (by rw[HR0.out];decide),if_pos hz]
      have HF:=hid hfin;have hne2:(dg hs (t:Int) != 0)=true:=by rw[bne_iff_ne];exact hz
      generalize dg hs (t:Int)=z at *;clear hfin hz;go_wp2;go_ret;exact⟨ret_int HF.out.symm,H1⟩
  ·have hne:((hs.length:Int) != (n:Int))=true:=by rw[bne_iff_ne];omega
   have hfin:R=1:=by rw[HP.out,if_pos (by omega)]
   have HF:=hid hfin;clear hfin hl hh;go_enter Tryz.func65,Tryz.ntmps65
   go_wp2_with fail
   refine KEY.out.mono ?_;rintro e w1 ⟨rfl,hb1⟩;have H1:=hw0.trans (hb1.mono hz0);have hb:=blk_below HBOX.out hb1 (by simp;omega);have q0:=blk_cell hb 0;have q1:=blk_cell hb 1;simp only[zzG,zzH,zzI] at q0 q1;clear hb hb1;go_wp2;go_ret;exact⟨ret_int HF.out.symm,H1⟩
 ·have hp:hck (Dijk.look N l [tt]) N tt l hs=Dijk.look N l [tt]:=by unfold hck;rw[if_pos hx]
  have hne:(Dijk.look N l [tt] != 0)=true:=by rw[bne_iff_ne];exact hx
  rw[hp];clear hp;generalize Dijk.look N l [tt]=x at *;have KEY:=hid key;clear key hl hh hbox hx;go_enter Tryz.func65,Tryz.ntmps65
  go_wp2_with fail
  refine KEY.out.mono ?_;rintro e w1 ⟨rfl,hb1⟩;have H1:=hw0.trans (hb1.mono hz0);clear hb1;go_wp2;go_ret;exact⟨rfl,H1⟩
end Heur
namespace StarF
open Go.RowKit NetLaw BellLaw DijkLaw HeurLaw Net Dijk Go.Proofs.YtjebckehmmbkbaaGreat.Std Heur
def slook (N fr tt:Int) (l:List E) (hs:List Int):Int:=if Dijk.look N l [fr,tt]=0 then hck (Dijk.look N l [tt]) N tt l hs else Dijk.look N l [fr,tt]
theorem look_snd {N:Int} {l:List E} {a b:Int} (h:Dijk.look N l [a,b]=0):Dijk.look N l [b]=0:=by
 unfold Dijk.look at h ⊢;split at h
 ·rename_i h1;rw[if_pos h1];exact h
 ·rename_i h1
  rw[if_neg h1];simp only[lookE] at h ⊢
  repeat' split at h
  all_goals first|omega|(repeat' split) <;> omega
theorem slook_zero {N fr tt:Int} {l:List E} {hs:List Int}:slook N fr tt l hs=0 ↔ Dijk.look N l [fr,tt]=0/\Cons N tt l hs:=by
 unfold slook;split
 ·rename_i h;rw[hck_zero];exact⟨fun x=>⟨h,x.2⟩,fun x=>⟨look_snd h,x.2⟩⟩
 ·rename_i h;exact⟨fun x=>absurd x h,fun x=>absurd x.1 h⟩
theorem slook_any (N fr tt:Int) (A:Option Addr) (c:Nat) (l:List E) (Ah:Option Addr) (ch:Nat) (hs:List Int) (w:World) (hl:Sl w w.heap.size 3 ce A l) (hh:Sl w w.heap.size 1 ci Ah hs) (hlen:l.length<=9223372036854775807) (hlen':hs.length<=9223372036854775807) :
 Calls Tryz.prog 32 #[.agg #[.int .i64 N,.slice A l.length c],.int .i64 fr,.int .i64 tt,.slice Ah hs.length ch] w fun e w'=>e= .returned (.int .i64 (slook N fr tt l hs))/\Below w.heap.size w w':=by
 have hw0:Below w.heap.size w ((w.alloc (.cells #[.int .i64 N,.slice A l.length c] 24)).alloc (.cells #[.int .i64 fr,.int .i64 tt] 3)):=((Below.refl _ _).alloc zzL _).alloc (by simp) _;have hz0:w.heap.size<=((w.alloc (.cells #[.int .i64 N,.slice A l.length c] 24)).alloc (.cells #[.int .i64 fr,.int .i64 tt] 3)).heap.size:=by simp;omega
 have hbox:=blk_alloc (heap_alloc_new w (.cells #[.int .i64 N,.slice A l.length c] 24)) (.cells #[.int .i64 fr,.int .i64 tt] 3);have key:=Dijk.look_any N A c l (some ⟨w.heap.size+1,0,none⟩) 2 2 [fr,tt] _ ((hl.keep hw0 zzL).more hz0) (sl_new' (by decide) (w.alloc (.cells #[.int .i64 N,.slice A l.length c] 24)) #[.int .i64 fr,.int .i64 tt] 3 [fr,tt] (by simp) rfl) rfl hlen (by decide);have kchk:=fun W (hb:Below w.heap.size w W)=>check_h N tt A c l Ah ch hs W ((hl.keep hb zzL).more hb.size) ((hh.keep hb zzL).more hb.size) hlen hlen';have KEY:=hid key;have KCHK:=hid kchk;have HBOX:=hid hbox;clear key kchk hbox
 by_cases hx:Dijk.look N l [fr,tt]=0
 ·have hsl:slook N fr tt l hs=hck (Dijk.look N l [tt]) N tt l hs:=by unfold slook;rw[if_pos hx]
  rw[hx] at KEY;have HSL:=hid hsl;clear hsl hx;go_enter Tryz.func32,Tryz.ntmps32
  go_wp2_with fail
  refine KEY.out.mono ?_;rintro e w1 ⟨rfl,hb1⟩;have H1:=hw0.trans (hb1.mono hz0);have hb:=blk_below HBOX.out hb1 (by simp;omega);have q0:=blk_cell hb 0;have q1:=blk_cell hb 1;have hzb:w.heap.size<w1.heap.size:=lt_of_block hb;simp only[zzG,zzH,zzI] at q0 q1;clear hb hb1
  go_wp2_with fail
  refine(KCHK.out _ H1).mono ?_;rintro e w2 ⟨rfl,hb2⟩;have H2:=H1.trans (hb2.mono H1.size);clear hb2 q0 q1;go_wp2;go_ret;rw[HSL.out];exact⟨rfl,H2⟩
 ·have hsl:Dijk.look N l [fr,tt]=slook N fr tt l hs:=by unfold slook;rw[if_neg hx]
  have hne:(Dijk.look N l [fr,tt] != 0)=true:=by rw[bne_iff_ne];exact hx
  rw[hsl] at KEY hne;clear hsl hx;generalize slook N fr tt l hs=er at *;go_enter Tryz.func32,Tryz.ntmps32
  go_wp2_with fail
  refine KEY.out.mono ?_;rintro e w1 ⟨rfl,hb1⟩;have H1:=hw0.trans (hb1.mono hz0);clear hb1;go_wp2;go_ret;exact⟨rfl,H1⟩
end StarF
namespace StarF
open Go.RowKit NetLaw BellLaw DijkLaw HeurLaw StarLaw Net Dijk Go.Proofs.YtjebckehmmbkbaaGreat.Std Heur
def RunSays (N fr tt:Int) (l:List E) (hs:List Int) (w:World) (e:Ending) (w':World):Prop :=
 (slook N fr tt l hs≠0->e= .returned (.tuple #[.agg #[.slice none 0 0,.int .i64 0,.slice none 0 0],.int .i64 (slook N fr tt l hs)])) /\
 (slook N fr tt l hs=0->∃n f t:Nat,N=n/\fr=f/\tt=t/\StarS.SearchSays n f t l hs 1 1 w e w')/\Below w.heap.size w w'
theorem run_any (N fr tt:Int) (A:Option Addr) (c:Nat) (l:List E) (Ah:Option Addr) (ch:Nat) (hs:List Int) (w:World) (hl:Sl w w.heap.size 3 ce A l) (hh:Sl w w.heap.size 1 ci Ah hs) (hlen:l.length<=9223372036854775807) (hlen':hs.length<=9223372036854775807) :
 Calls Tryz.prog 11 #[.agg #[.int .i64 N,.slice A l.length c],.int .i64 fr,.int .i64 tt,.slice Ah hs.length ch] w fun e w'=>RunSays N fr tt l hs w e w':=by
 have hw0:Below w.heap.size w ((w.alloc (.cells #[.int .i64 N,.slice A l.length c] 24)).alloc (.cells #[.slice none 0 0,.int .i64 0,.slice none 0 0] 38)):=((Below.refl _ _).alloc zzL _).alloc (by simp) _;have hz0:w.heap.size<=((w.alloc (.cells #[.int .i64 N,.slice A l.length c] 24)).alloc (.cells #[.slice none 0 0,.int .i64 0,.slice none 0 0] 38)).heap.size:=by simp;omega
 have hbox:=blk_alloc (heap_alloc_new w (.cells #[.int .i64 N,.slice A l.length c] 24)) (.cells #[.slice none 0 0,.int .i64 0,.slice none 0 0] 38)
 have hres:((w.alloc (.cells #[.int .i64 N,.slice A l.length c] 24)).alloc (.cells #[.slice none 0 0,.int .i64 0,.slice none 0 0] 38)).heap[w.heap.size+1]?=some (.cells #[.slice none 0 0,.int .i64 0,.slice none 0 0] 38 (0,0)):=by
  have h:=heap_alloc_new (w.alloc (.cells #[.int .i64 N,.slice A l.length c] 24)) (.cells #[.slice none 0 0,.int .i64 0,.slice none 0 0] 38)
  simpa using h
 have key:=slook_any N fr tt A c l Ah ch hs _ ((hl.keep hw0 zzL).more hz0) ((hh.keep hw0 zzL).more hz0) hlen hlen';have KEY:=hid key;have HBOX:=hid hbox;have HRES:=hid hres;clear key hbox hres
 by_cases hx:slook N fr tt l hs=0
 ·rw[hx] at KEY
  have HX:=hid hx;obtain⟨hlk,hC⟩:=slook_zero.1 hx;obtain⟨hg,hc,⟨f0,f1⟩,t0,t1⟩:=DijkWay.looks_zero hlk;have h1:=hg.lo;clear hx hlk;obtain⟨n,rfl⟩:=Int.eq_ofNat_of_zero_le (show 0<=N by omega);obtain⟨f,rfl⟩:=Int.eq_ofNat_of_zero_le f0;obtain⟨t,rfl⟩:=Int.eq_ofNat_of_zero_le t0;have hhl:hs.length=n:=by have:=hC.len;omega
  have ksrch:=fun W (hb:Below w.heap.size w W)=>StarS.search_any n f t A l.length c l Ah ch hs 1 1 0 W rfl ((hl.keep hb zzL).more hb.size) hg hc ((hh.keep hb zzL).more hb.size) hhl hC.lo (by omega) (by omega) (by decide) (by decide) trivial;rw[hhl] at KEY ⊢;have KS:=hid ksrch;have HHL:=hid hhl;clear ksrch hhl hg hC hc;go_enter Tryz.func11,Tryz.ntmps11
  go_wp2_with fail
  refine KEY.out.mono ?_;rintro e w1 ⟨rfl,hb1⟩;have H1:=hw0.trans (hb1.mono hz0);have hb:=blk_below HBOX.out hb1 (by simp;omega);have hr:=blk_below HRES.out hb1 (by simp);have q0:=blk_cell hb 0;have q1:=blk_cell hb 1;have hzb:w.heap.size<w1.heap.size:=lt_of_block hb;simp only[zzG,zzH,zzI] at q0 q1;have HR:=hid hr;clear hb hr hb1
  go_wp2_with fail
  refine(KS.out _ H1).mono ?_;rintro e w2 ⟨D,P,ord,hrch,hcase,hb2⟩;have H2:=H1.trans (hb2.mono H1.size);have hr:=blk_below HR.out hb2 (lt_of_block HR.out);have r0:=blk_cell hr 0;have r1:=blk_cell hr 1;have r2:=blk_cell hr 2;have rf0:=blk_free hr 0;have rf1:=blk_free hr 1;have rf2:=blk_free hr 2;simp only[zzG,zzH,zzI] at r0 r1 r2;have hzr:w.heap.size+1<w2.heap.size:=lt_of_block hr;have HR2:=hid hr;have HRCH:=hid hrch;have H1s:=hid H1.size;clear hr q0 q1 hb2 hrch HR;rcases hcase with ⟨hnx,cs,A1,c1,A2,c2,hch,rfl,ho1,ho2⟩|⟨hno,rfl⟩
  ·generalize hcl:cs.reverse.length=cl at *
   generalize hol:ord.length+1=ol at *;generalize hdt:dg D (t:Int)=dt at *;have HCL:=hid hcl;have HOL:=hid hol;have HDT:=hid hdt;have HNX:=hid hnx;have HO1:=hid ho1;have HO2:=hid ho2;have HCH:=hid hch;clear hcl hol hdt hnx ho1 ho2 hch;go_wp2;refine bodyPost_ret (v:= .tuple #[.agg #[.slice A1 cl c1,.int .i64 dt,.slice A2 ol c2],.int .i64 0]) (by simp[results,Tryz.results11,go_sem,hzr,r0,r1,r2,rf0,rf1,rf2]) rfl ?_;refine⟨fun h=>absurd HX.out h,fun _=>⟨n,f,t,rfl,rfl,rfl,D,P,ord,HRCH.out,.inl ⟨HNX.out,cs,A1,c1,A2,c2,HCH.out,?_,?_,?_⟩,?_⟩,?_⟩
   ·rw[HCL.out,HOL.out,HDT.out]
   ·rw[HCL.out]
    exact StarS.res_kept (HO1.out.mono H1s.out) HR2.out _ _ _
   ·rw[HOL.out]
    exact StarS.res_kept (HO2.out.mono H1s.out) HR2.out _ _ _
   ·exact((H2.setCell (by dsimp only;omega) _).setCell (by dsimp only;omega) _).setCell (by dsimp only;omega) _
   ·exact((H2.setCell (by dsimp only;omega) _).setCell (by dsimp only;omega) _).setCell (by dsimp only;omega) _
  ·have HNO:=hid hno
   clear hno;go_wp2;refine bodyPost_ret (v:= .tuple #[.agg #[.slice none 0 0,.int .i64 0,.slice none 0 0],.int .i64 5]) (by simp[results,Tryz.results11,go_sem,hzr,r0,r1,r2,rf0,rf1,rf2]) rfl ?_;refine⟨fun h=>absurd HX.out h,fun _=>⟨n,f,t,rfl,rfl,rfl,D,P,ord,HRCH.out,.inr ⟨HNO.out,rfl⟩,?_⟩,?_⟩
   ·exact((H2.setCell (by dsimp only;omega) _).setCell (by dsimp only;omega) _).setCell (by dsimp only;omega) _
   ·exact((H2.setCell (by dsimp only;omega) _).setCell (by dsimp only;omega) _).setCell (by dsimp only;omega) _
 ·have hne:(slook N fr tt l hs != 0)=true:=by rw[bne_iff_ne];exact hx
  unfold RunSays;have HX:=hid hx;clear hx;generalize slook N fr tt l hs=er at *;go_enter Tryz.func11,Tryz.ntmps11
  go_wp2_with fail
  refine KEY.out.mono ?_;rintro e w1 ⟨rfl,hb1⟩;have H1:=hw0.trans (hb1.mono hz0);have hr:=blk_below HRES.out hb1 (by simp);have r0:=blk_cell hr 0;have r1:=blk_cell hr 1;have r2:=blk_cell hr 2;have rf0:=blk_free hr 0;have rf1:=blk_free hr 1;have rf2:=blk_free hr 2;simp only[zzG,zzH,zzI] at r0 r1 r2;have hzr:w.heap.size+1<w1.heap.size:=lt_of_block hr;clear hr hb1;go_wp2;refine bodyPost_ret (v:= .tuple #[.agg #[.slice none 0 0,.int .i64 0,.slice none 0 0],.int .i64 er]) (by simp[results,Tryz.results11,go_sem,hzr,r0,r1,r2,rf0,rf1,rf2]) rfl ?_;exact⟨fun _=>rfl,fun h=>absurd h HX.out,((H1.setCell (by dsimp only;omega) _).setCell (by dsimp only;omega) _).setCell (by dsimp only;omega) _⟩
end StarF
namespace StarLaw
open NetLaw BellLaw DijkLaw HeurLaw
structure Fnd (n f t:Nat) (l:List E) (p:List Int) (co:Int) (o:List Int):Prop where
 cost:WalkLaw.cost n l p=(co,0)
 head:p.head?=some (f:Int)
 last:p.getLast?=some (t:Int)
 plen:1<=p.length/\p.length<=64
 olen:1<=o.length/\o.length<=64
 olenN:o.length<=n
 rng:∀v∈o,0<=v/\v<n
 nd:o.Nodup
 co0:0<=co/\co<far
theorem fnd {K:Int->Int->Int} {n f t:Nat} {l:List E} {hs D P ord cs:List Int} (hr:Rch K n f t l hs D P ord) (hn:Nx K n hs D ord t) (hch:Ch P t cs) (hg:NetLaw.Good n l) (hc:∀e∈l,1<=e.2.2) (hf:f<n) (ht:t<n) :
 Fnd n f t l cs.reverse (dg D t) (ord++[(t:Int)]):=by
 have hst:=hr.st hg.ends (fun e he=>⟨hc e he,(hg.cost e he).2⟩) hf;obtain⟨cs',h1,h2,h3,h4,h5,h6,h7⟩:=hst.way hg hc (v:=(t:Int)) (by omega) (by omega) hn.1.2.1;obtain rfl:=hch.unique h1
 have hnd:(ord++[(t:Int)]).Nodup:=by
  rw[List.nodup_append];exact⟨hst.nd,by simp,fun a ha b hb e=>by rw[List.mem_singleton] at hb;subst hb;subst e;exact hr.no_end ha⟩
 have hrng:∀v∈ord++[(t:Int)],0<=v/\v<n:=fun v hv=>by
  rcases List.mem_append.1 hv with h|h
  ·exact(hst.ordin v h).1
  ·rw[List.mem_singleton] at h;subst h;omega
 have hl:=nodup_lenI hnd hrng;have hN:=hg.hi;exact⟨h7,h5,h6,⟨by rw[List.length_reverse];exact h4,by rw[List.length_reverse];exact h3⟩,⟨by simp,by omega⟩,hl,hrng,hnd,⟨(hst.lo _ (by omega) (by omega)).1,hn.1.2.1⟩⟩
end StarLaw
namespace DijkTwo
open Go.RowKit NetLaw BellLaw DijkLaw Net Dijk Go.Proofs.YtjebckehmmbkbaaGreat.Std
theorem sh0:Sh 2 0 [(0,1,5)] [0,5]:=by
 refine⟨rfl,fun v v0 v1=> ?_,rfl,fun v v0 v1 h=> ?_,fun e he h=> ?_⟩
 ·rcases (show v=0\/v=1 by omega) with rfl|rfl <;> decide
 ·rcases (show v=0\/v=1 by omega) with rfl|rfl
  ·exact Wk.here
  ·exact Wk.step (e:=(0,1,5)) Wk.here (by simp) rfl
 ·simp at he;subst he;decide
theorem two_ends:∀e∈([(0,1,5)]:List E),0<=e.1/\e.1<2/\0<=e.2.1/\e.2.1<2:=by decide
theorem two_cost:∀e∈([(0,1,5)]:List E),0<=e.2.2:=by decide
theorem dist_yes (N:Int) (A:Option Addr) (c:Nat) (l:List E) (fr:Int) (hll:l.length<=9223372036854775807) (hk:Dijk.look N l [fr]=0) (W:World) (h:Sl W W.heap.size 3 ce A l) :
 Calls Tryz.prog 4 #[.agg #[.int .i64 N,.slice A l.length c],.int .i64 fr] W fun e w'=>∃S D,e= .returned (.tuple #[.slice (some ⟨S,0,none⟩) N.toNat N.toNat,.int .i64 0])/\Own w' W.heap.size 3 1 ci (.slice (some ⟨S,0,none⟩) N.toNat N.toNat) D/\Below W.heap.size W w'/\Hid (Sh N fr l D):=by
 refine(Dijk.dist_any N A c l fr W h hll).mono ?_;rintro e w' ⟨_,k2,k3⟩;obtain⟨S,D,k4,k5,k6⟩:=k2 hk;exact⟨S,D,k4,k5,k3,hid k6⟩
theorem dist_no (N:Int) (A:Option Addr) (c:Nat) (l:List E) (fr:Int) (hll:l.length<=9223372036854775807) (hk:Dijk.look N l [fr]≠0) (W:World) (h:Sl W W.heap.size 3 ce A l) :
 Calls Tryz.prog 4 #[.agg #[.int .i64 N,.slice A l.length c],.int .i64 fr] W fun e w'=>e= .returned (.tuple #[.slice none 0 0,.int .i64 (Dijk.look N l [fr])])/\Below W.heap.size W w':=by
 refine(Dijk.dist_any N A c l fr W h hll).mono ?_;rintro e w' ⟨k1,_,k3⟩;exact⟨k1 hk,k3⟩
end DijkTwo
namespace WayUse
open Go.RowKit NetLaw BellLaw DijkLaw WayLaw Net Go.Proofs.YtjebckehmmbkbaaGreat.Std Dijk DijkWay DijkTwo
theorem prs_take (p:List Int) (i:Nat):∀q∈WalkLaw.prs (p.take i),q∈WalkLaw.prs p:=fun q hq=>by
 induction i generalizing p with
 |zero=>simp[WalkLaw.prs] at hq
 |succ i ih =>
  cases p with
  |nil=>simp[WalkLaw.prs] at hq
  |cons a r =>
   cases r with
   |nil=>cases i <;> simp[WalkLaw.prs] at hq
   |cons b r =>
    cases i with
    |zero=>simp[WalkLaw.prs] at hq
    |succ i =>
     rw[List.take_succ_cons,List.take_succ_cons,WalkLaw.prs_cons] at hq;rw[WalkLaw.prs_cons];rcases List.mem_cons.1 hq with rfl|hq
     ·simp
     ·refine List.mem_cons_of_mem _ (ih (b::r) ?_)
      rw[List.take_succ_cons];exact hq
end WayUse
namespace StarF
open Go.RowKit NetLaw BellLaw DijkLaw HeurLaw StarLaw Net Dijk Go.Proofs.YtjebckehmmbkbaaGreat.Std Heur
def Found (n f t:Nat) (l:List E) (hs:List Int) (w:World) (e:Ending) (w':World):Prop :=
 ∃D P ord,Hid (Rch (StarS.KK 1 1) n f t l hs D P ord) /\
  ((∃(p:List Int) (m:Nat) (A1:Option Addr) (c1 k:Nat) (A2:Option Addr) (c2:Nat) (co:Int),e= .returned (.tuple #[.agg #[.slice A1 m c1,.int .i64 co,.slice A2 k c2],.int .i64 0])/\Own w' w.heap.size 3 1 ci (.slice A1 m c1) p/\Own w' w.heap.size 3 1 ci (.slice A2 k c2) (ord++[(t:Int)])/\Hid (Nx (StarS.KK 1 1) n hs D ord t)/\Hid (Fnd n f t l p co (ord++[(t:Int)]))/\Hid (p.length=m)/\Hid ((ord++[(t:Int)]).length=k)/\Hid (dg D t=co)/\Hid (Ch P t p.reverse))
   \/ (e= .returned (.tuple #[.agg #[.slice none 0 0,.int .i64 0,.slice none 0 0],.int .i64 5])/\Hid (∀u,¬Opn n D ord u)))/\Below w.heap.size w w'
theorem run_good (n f t:Nat) (A:Option Addr) (c:Nat) (l:List E) (Ah:Option Addr) (ch:Nat) (hs:List Int) (w:World) (hl:Sl w w.heap.size 3 ce A l) (hh:Sl w w.heap.size 1 ci Ah hs) (hlen:l.length<=9223372036854775807) (hlen':hs.length<=9223372036854775807) (hx:slook n f t l hs=0) :
 Calls Tryz.prog 11 #[.agg #[.int .i64 n,.slice A l.length c],.int .i64 f,.int .i64 t,.slice Ah hs.length ch] w fun e w'=>Found n f t l hs w e w':=by
 refine(run_any n f t A c l Ah ch hs w hl hh hlen hlen').mono ?_;rintro e w' ⟨_,k2,k3⟩;obtain⟨n',f',t',hn,hf,ht,D,P,ord,hr,hc,_⟩:=k2 hx;obtain rfl:n=n':=by omega
 obtain rfl:f=f':=by omega
 obtain rfl:t=t':=by omega
 obtain⟨hlk,_⟩:=slook_zero.1 hx;obtain⟨hg,hcc,⟨f0,f1⟩,t0,t1⟩:=DijkWay.looks_zero hlk;refine⟨D,P,ord,hid hr,?_,k3⟩;rcases hc with ⟨hnx,cs,A1,c1,A2,c2,hch,he,o1,o2⟩|⟨hno,he⟩
 ·refine .inl ⟨cs.reverse,cs.reverse.length,A1,c1,ord.length+1,A2,c2,dg D t,he,o1,o2,hid hnx,hid (fnd hr hnx hch hg hcc (by omega) (by omega)),hid rfl,hid (by simp),hid rfl,hid (by rw[List.reverse_reverse];exact hch)⟩
 ·exact .inr ⟨he,hid hno⟩
theorem far3 {W:World} {b o R:Nat} {v:Value} (h:W.cell? ⟨b,o,none⟩=some v) (hR:b+1<=R) (x y z:Value):(((W.setCell ⟨R,0,none⟩ x).setCell ⟨R,1,none⟩ y).setCell ⟨R,2,none⟩ z).cell? ⟨b,o,none⟩=some v :=
 ((keepAt ((((Below.refl (b+1) W).setCell hR x).setCell hR y).setCell hR z) (Nat.lt_succ_self b)).1 o).trans h
theorem fnd_cells {W:World} {R:Nat} {v0 v1 v2:Value} (hr:W.heap[R]?=some (.cells #[v0,v1,v2] 38 (0,0))):W.cell? ⟨R,0,none⟩=some v0/\W.cell? ⟨R,1,none⟩=some v1/\W.cell? ⟨R,2,none⟩=some v2/\W.frozen? ⟨R,0,none⟩=false/\W.frozen? ⟨R,1,none⟩=false/\W.frozen? ⟨R,2,none⟩=false:=by
 have c0:=blk_cell hr 0;have c1:=blk_cell hr 1;have c2:=blk_cell hr 2;simp only[zzG,zzH,zzI] at c0 c1 c2;exact⟨c0,c1,c2,blk_free hr 0,blk_free hr 1,blk_free hr 2⟩
theorem fnd_set {W:World} {R:Nat} {v0 v1 v2:Value} (hr:W.heap[R]?=some (.cells #[v0,v1,v2] 38 (0,0))) (x y z:Value):(((W.setCell ⟨R,0,none⟩ x).setCell ⟨R,1,none⟩ y).setCell ⟨R,2,none⟩ z).heap[R]?=some (.cells #[x,y,z] 38 (0,0)):=by
 have h1:=blk_set hr 0 x;have h2:=blk_set h1 1 y;have h3:=blk_set h2 2 z
 simpa using h3
end StarF
end Go.Proofs.YtjebckehmmbkbaaGreat
