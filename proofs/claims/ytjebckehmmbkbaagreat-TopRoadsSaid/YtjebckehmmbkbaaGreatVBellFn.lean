/- The walk of dijk.Run. Plain facts on walks through a net: no Go in sight. Plain facts on heights: no Go in sight. The walks of net.Copy, john.flat, john.Flat. Plain facts on one edge more: no Go in sight. Plain facts on what lies between (Floyd, Warshall): no Go in sight. The walks of BellTight's closure and of slices.ContainsFunc with it. -/
import Derived.Deep.LoopGhost
import Derived.Test.YtjebckehmmbkbaaGreatVHeapLess
set_option linter.unusedSimpArgs false
set_option linter.unusedVariables false
set_option maxRecDepth 100000
set_option maxHeartbeats 24000000
namespace Go.Proofs.YtjebckehmmbkbaaGreat
namespace Dijk
open Go.RowKit NetLaw BellLaw DijkLaw HeapLaw Net Heap Go.Proofs.YtjebckehmmbkbaaGreat.Std
section
variable {w w':World} {base base' H n c:Nat} {fn:Value} {A:Option Addr} {L:List Pop}
theorem blk_kp {g:Nat} {cs:Array Value} {t:TypeId} {fr:Nat × Nat} (h:HeapAt w base H fn A n c L) (hk:Kp w w' H (Value.slice A n c).ownBlock) (hg:w.heap[g]?=some (.cells cs t fr)) (h1:156≠t) (h2:121≠t):w'.heap[g]?=some (.cells cs t fr):=by
 refine(hk.block g (lt_of_block hg) (fun e=> ?_) (fun e=>h.own.ne_ hg h2 e.symm)).trans hg;subst e;have:=h.blk;rw[hg] at this;injection this with this;injection this with _ ht _;exact h1 ht.symm
theorem own_kp {α:Type} {sz:Nat} {cell:α->Nat->Value} {e:TypeId} {v:Value} {r:List α} (h:HeapAt w base H fn A n c L) (hk:Kp w w' H (Value.slice A n c).ownBlock) (ho:Own w base' e sz cell v r) (h1:156≠e) (h2:121≠e):Own w' base' e sz cell v r:=by
 refine⟨ho.1,?_⟩;rcases ho.2 with h3|⟨g,cap,cur,rfl,hg,hh,rest⟩
 ·exact .inl h3
 ·exact .inr ⟨g,cap,cur,rfl,hg,blk_kp h hk hh h1 h2,rest⟩
theorem tab_kp {S m:Nat} {F:Nat->Option Addr × Nat} {Ls:Nat->List Int} (h:HeapAt w base H fn A n c L) (hk:Kp w w' H (Value.slice A n c).ownBlock) (ht:Tab w base' S m F Ls):Tab w' base' S m F Ls:=by
 obtain⟨cs,hb,hs,hc⟩:=ht.blk;exact⟨ht.lo,⟨cs,blk_kp h hk hb (by decide) (by decide),hs,hc⟩,fun v hv=>own_kp h hk (ht.own v hv) (by decide) (by decide),ht.sep⟩
theorem tab_far {S m:Nat} {F:Nat->Option Addr × Nat} {Ls:Nat->List Int} {p:Addr} (ht:Tab w base' S m F Ls) (h1:p.block≠S) (h2:∀v,v<m->(Value.slice (F v).1 (Ls v).length (F v).2).ownBlock≠some p.block) (u:Value):Tab (w.setCell p u) base' S m F Ls:=by
 obtain⟨cs,hb,hs,hc⟩:=ht.blk;exact⟨ht.lo,⟨cs,blk_far hb (fun e=>h1 e.symm) u,hs,hc⟩,fun v hv=>(ht.own v hv).setCell (h2 v hv) u,ht.sep⟩
theorem heap_far {p:Addr} {t:TypeId} {cs:Array Value} (h:HeapAt w base H fn A n c L) (hp:w.heap[p.block]?=some (.cells cs t (0,0))) (h1:156≠t) (h2:121≠t) (u:Value):HeapAt (w.setCell p u) base H fn A n c L:=by
 have hne:H≠p.block:=fun e=>by
  have hb:=h.blk;rw[e,hp] at hb;injection hb with hb;injection hb with _ ht _;exact h1 ht.symm
 exact⟨h.hb,blk_far h.blk hne u,h.own.setCell (h.own.ne_ hp h2) u,h.len⟩
end
structure Mem (w0 w:World) (n:Nat) (A:Option Addr) (c:Nat) (l:List E) (S T H:Nat) (F:Nat->Option Addr × Nat) (Ah:Option Addr) (m ch:Nat) (L:List Pop) (D:List Int):Prop where
 box:w.heap[w0.heap.size]?=some (.cells #[.int .i64 n,.slice A l.length c] 24 (0,0))
 dist:Own w w0.heap.size 3 1 ci (.slice (some ⟨S,0,none⟩) n n) D
 dlen:D.length=n
 tab:Tab w w0.heap.size T n F (ol l l.length)
 sep:∀v,v<n->(Value.slice (F v).1 0 0).ownBlock≠some S
 heap:HeapAt w w0.heap.size H (fnOf 60) Ah m ch L
 lo:Below w0.heap.size w0 w
section
variable {w0 w w':World} {n c S T H m ch:Nat} {A Ah:Option Addr} {l:List E} {F:Nat->Option Addr × Nat} {L:List Pop} {D:List Int}
theorem Mem.alloc (h:Mem w0 w n A c l S T H F Ah m ch L D) (o:Obj):Mem w0 (w.alloc o) n A c l S T H F Ah m ch L D :=
 ⟨blk_alloc h.box o,h.dist.alloc o,h.dlen,h.tab.alloc o,h.sep,h.heap.alloc o,h.lo.alloc h.lo.size o⟩
theorem Mem.drewN (h:Mem w0 w n A c l S T H F Ah m ch L D) (k:Nat):Mem w0 (w.drewN k) n A c l S T H F Ah m ch L D :=
 ⟨h.box,h.dist.drewN k,h.dlen,⟨h.tab.lo,h.tab.blk,h.tab.own,h.tab.sep⟩,h.sep,h.heap.drewN k,below_drewN h.lo k⟩
theorem Mem.kp {Ah':Option Addr} {m' ch':Nat} {L':List Pop} (h:Mem w0 w n A c l S T H F Ah m ch L D) (hk:Kp w w' H (Value.slice Ah m ch).ownBlock) (hh:HeapAt w' w0.heap.size H (fnOf 60) Ah' m' ch' L'):Mem w0 w' n A c l S T H F Ah' m' ch' L' D :=
 ⟨blk_kp h.heap hk h.box (by decide) (by decide),own_kp h.heap hk h.dist (by decide) (by decide),h.dlen,tab_kp h.heap hk h.tab,h.sep,hh,h.lo.trans (hk.to h.lo.size h.heap.hb h.heap.own.lo)⟩
theorem Mem.set (h:Mem w0 w n A c l S T H F Ah m ch L D) (t:Nat) (x:Int) (hn:0<n):Mem w0 (w.setCell ⟨S,t,none⟩ (.int .i64 x)) n A c l S T H F Ah m ch L (D.set t x):=by
 obtain⟨cur,hb⟩:∃cs,w.heap[S]?=some (.cells cs 3 (0,0)):=by
  rcases h.dist.2 with ⟨h1,h2⟩|⟨g,cap,cur,hv,_,hh,_⟩
  ·cases h1
  ·injection hv with hv _ _
   injection hv with hv;injection hv with hv _ _;subst hv;exact⟨cur,hh⟩
 have hne:∀(g:Nat) (cs:Array Value) (t:TypeId),w.heap[g]?=some (.cells cs t (0,0))->3≠t->g≠S:=fun g cs t hg ht e=>by
  subst e;rw[hg] at hb;injection hb with hb;injection hb with _ hb _;exact ht hb.symm
 obtain⟨cs,htb,_⟩:=h.tab.blk;exact⟨blk_far h.box (hne _ _ _ h.box (by decide)) _,own_set1 h.dlen h.dist t x,by simp[h.dlen],tab_far h.tab (fun e=>hne _ _ _ htb (by decide) e.symm) (fun v hv e=>h.sep v hv ((obs ..).trans e)) _,h.sep,heap_far h.heap hb (by decide) (by decide) _,h.lo.setCell (by have:=h.dist.base_ S rfl;exact this.1) _⟩
end
theorem Tab_mono {w:World} {b b' S n:Nat} {F:Nat->Option Addr × Nat} {Ls:Nat->List Int} (h:Tab w b S n F Ls) (hb:b'<=b):Tab w b' S n F Ls:=⟨Nat.le_trans hb h.lo,h.blk,fun v hv=>(h.own v hv).mono hb,h.sep⟩
theorem Heap_mono {w:World} {b b' H n c:Nat} {fn:Value} {A:Option Addr} {L:List Pop} (h:HeapAt w b H fn A n c L) (hb:b'<=b):HeapAt w b' H fn A n c L:=⟨Nat.le_trans hb h.hb,h.blk,h.own.mono hb,h.len⟩
theorem start_inv' (n fr:Nat) (l:List E) (hf:fr<n):Inv n fr l ((List.replicate n far).set fr 0) [(0,(fr:Int))] [] 0 [] 1:=by
 have hs:=fun v hv=>dg_set (D:=List.replicate n far) (t:=(fr:Int)) (v:=v) (x:=0) (by omega) (by simp;omega) hv;simp only[Int.toNat_natCast] at hs;refine start_inv (by simp) (by rw[hs _ (by omega),if_pos rfl]) (fun v v0 v1 hv=> ?_) ⟨by omega,by omega⟩;rw[hs v v0,if_neg hv,dg,List.getD_eq_getElem?_getD,List.getElem?_replicate,if_pos (by omega)]
 rfl
def td (l:List E) (js:List Int):List E:=js.map fun i=>l.getD i.toNat (0,0,0)
theorem ol_mem {l:List E} {k v:Nat} {z:Int} (h:z∈ol l k v):∃i:Nat,z=i/\i<k/\(l.getD i (0,0,0)).1=v:=by
 unfold ol at h;rw[List.mem_map] at h;obtain⟨i,hi,rfl⟩:=h;rw[List.mem_filter,List.mem_range,beq_iff_eq] at hi;exact⟨i,rfl,hi.1,hi.2⟩
theorem td_all {l:List E} {v:Nat}:∀e∈l,e.1=(v:Int)->e∈td l (ol l l.length v):=fun e he hv=>by
 obtain⟨i,hi,rfl⟩:=List.getElem_of_mem he;unfold td;rw[List.mem_map];refine⟨(i:Int),?_,by rw[Int.toNat_natCast,List.getD_eq_getElem?_getD,List.getElem?_eq_getElem hi];rfl⟩;unfold ol;rw[List.mem_map];refine⟨i,?_,rfl⟩;rw[List.mem_filter,List.mem_range,beq_iff_eq,List.getD_eq_getElem?_getD,List.getElem?_eq_getElem hi];exact⟨hi,hv⟩
theorem ol_count (l:List E) (v:Nat):(ol l l.length v).length=l.countP fun e=>decide (e.1=(v:Int)):=by
 have key:∀k,k<=l.length->(ol l k v).length=(l.take k).countP fun e=>decide (e.1=(v:Int)):=by
  intro k
  induction k with
  |zero=>intro _;simp[ol]
  |succ k ih =>
   intro hk;have hlt:k<l.length:=by omega
   rw[ol_succ,List.take_succ_eq_append_getElem hlt,List.countP_append, <-ih (by omega),List.getD_eq_getElem?_getD,List.getElem?_eq_getElem hlt,Option.getD_some]
   by_cases h:l[k].1=(v:Int)
   ·rw[if_pos h];simp[h]
   ·rw[if_neg h];simp[h]
 have:=key l.length zzL
 rwa [List.take_length] at this
theorem recnt {N fr cur:Int} {l todo:List E} {D:List Int} {L:List (Int × Int)} {dn:List Int} {b b':Nat} (h:Inv N fr l D L dn cur todo b) (hb:L.length<=b'):Inv N fr l D L dn cur todo b' :=
 ⟨h.len,h.lo,h.st,h.wk,h.ent,h.nd,h.pend,h.dnle,h.dnnd,h.rel,hb⟩
def RunSays (n fr:Nat) (l:List E) (w:World) (e:Ending) (w':World):Prop :=
 ∃S D,e= .returned (.slice (some ⟨S,0,none⟩) n n)/\Own w' w.heap.size 3 1 ci (.slice (some ⟨S,0,none⟩) n n) D/\Sh n fr l D/\Below w.heap.size w w'
structure Out (w0 w:World) (n:Nat) (fr:Nat) (A:Option Addr) (c:Nat) (l:List E) (S T H:Nat) (F:Nat->Option Addr × Nat) (Ah:Option Addr) (m ch:Nat) (L:List Pop) (D:List Int) (dn:List Int) (cur:Int):Prop where
 mem:Mem w0 w n A c l S T H F Ah m ch L D
 hp:Hp d0 ltP L
 inv:Inv n fr l D L dn cur [] 7000
theorem run_wide (n fr:Nat) (A:Option Addr) (c:Nat) (l:List E) (w:World) (hl:Sl w w.heap.size 3 ce A l) (hg:Wide n l) (hf:fr<n) (hc0:∀e∈l,0<=e.2.2) :
 Calls Tryz.prog 20 #[.agg #[.int .i64 n,.slice A l.length c],.int .i64 fr] w fun e w'=>RunSays n fr l w e w':=by
 have hN:=hg.hi;have hlen:=hg.len;have hw0:Below w.heap.size w (w.alloc (.cells #[.int .i64 n,.slice A l.length c] 24)):=(Below.refl _ _).alloc zzL _
 have hmk:∀w,(Instr.makeSlice 25 (.int .i64 (n:Int)) (.int .i64 (n:Int))).run Tryz.prog w= .ok (.slice (some ⟨w.heap.size,0,none⟩) n n) (w.alloc (.cells (madeCells #[.int .i64 0] n) 3)) :=
  run_make_row' (P:=Tryz.prog) 25 3 (.int .i64 0) 8 Tryz.underlying25 (by kernel_rfl) rfl .i64 .i64 n (by omega) (by omega)
 have own0:=Grid.own_made n w.heap.size (w.alloc (.cells #[.int .i64 n,.slice A l.length c] 24)) (by simp) (by omega) (by simp:_=w.heap.size+1);have box0:=blk_alloc (heap_alloc_new w (.cells #[.int .i64 n,.slice A l.length c] 24)) (.cells (madeCells #[.int .i64 0] n) 3);have OWN0:=hid own0;have BOX0:=hid box0;have HG:=hid hg;have HC:=hid hc0;have HSL0:=hid hl;clear own0 box0 hg hc0;go_enter Tryz.func20,Tryz.ntmps20;go_wp2
 go_loopw [19] (fun i wr=>∃k:Nat,k<=n/\i= .int .i64 k/\Own wr w.heap.size 3 1 ci (.slice (some ⟨w.heap.size+1,0,none⟩) n n) (List.replicate k far++List.replicate (n - k) 0)/\wr.heap[w.heap.size]?=some (.cells #[.int .i64 n,.slice A l.length c] 24 (0,0))/\Below w.heap.size w wr) (fun i _=>n - (intOf i).toNat)
 case atStart=>exact⟨0,Nat.zero_le _,rfl,by simpa using OWN0.out,BOX0.out,((Below.refl _ _).alloc zzL _).alloc (by simp) _⟩
 case round =>
  obtain⟨k,hk,rfl,own,hbox,hB⟩:=hrel;have hlen1:(List.replicate k far++List.replicate (n - k) (0:Int)).length=n:=by simp;omega
  clear OWN0 BOX0
  by_cases hlt:k<n
  ·obtain⟨pc,pf⟩:=own_at1 hlen1 own hlt
   have HL1:=hid hlen1;clear hlen1;go_wp2
   go_roundw
   case rel=>exact⟨k+1,by omega,by go_num,by rw[<-Bell.fill_step n k far 0 hlt];exact own_set1 HL1.out own k _,blk_far hbox (by dsimp only;omega) _,hB.setCell (by dsimp only;omega) _⟩
   case measure=>simp[intOf];omega
  ·obtain rfl:n=k:=by omega
   rw[Nat.sub_self,List.replicate_zero,List.append_nil] at own hlen1;obtain⟨pc,pf⟩:=own_at1 hlen1 own hf;have own2:=own_set1 hlen1 own fr 0;have hbox2:=blk_far hbox (show w.heap.size≠(⟨w.heap.size+1,fr,none⟩:Addr).block by dsimp only;omega) (.int .i64 0);have hB2:=hB.setCell (p:=⟨w.heap.size+1,fr,none⟩) (by dsimp only;omega) (.int .i64 0);have b0:=blk_cell hbox 0;have b1:=blk_cell hbox 1;simp only[zzG,zzH,zzI] at b0 b1;have hwr:w.heap.size+1<wr.heap.size:=(own.base_ _ rfl).2;have ko:=fun W h=>outs_wide n A c l W h HG.out;have KO:=hid ko;have HOWN2:=hid own2;have HBOX2:=hid hbox2;have sl2:=(hl.keep hB2 zzL).more hB2.size;have SL2:=hid sl2;have HL1:=hid hlen1;have hneS:¬w.heap.size+1=w.heap.size:=by omega
   have hneS2:¬w.heap.size=w.heap.size+1:=by omega
   have hwr0:w.heap.size<wr.heap.size:=by omega
   clear ko own2 hbox2 own hbox sl2 hlen1 hlt
   go_wp2_with fail
   refine(KO.out _ SL2.out).mono ?_;rintro e w2 ⟨T,F,rfl,htab,hb2⟩;have hB3:=hB2.trans (hb2.mono hB2.size);have hbox3:=blk_below HBOX2.out hb2 (by simpa [World.setCell] using hwr0);have own3:=HOWN2.out.keep hb2
   have hsep:∀v,v<n->(Value.slice (F v).1 0 0).ownBlock≠some (w.heap.size+1):=fun v hv e=>by
    have:=((htab.own v hv).base_ _ ((obs ..).trans e)).1;simp[World.setCell] at this;omega
   have knew:=new_any 60 w2;unfold fnOf at knew;have HTAB:=hid (Tab_mono htab (show w.heap.size<=_ from hB2.size));have HBOX3:=hid hbox3;have HOWN3:=hid own3;have HSEP:=hid hsep;have KNEW:=hid knew;clear htab hbox3 own3 hsep knew HBOX2 HOWN2 pc pf b0 b1 hb2 hB
   go_wp2_with fail
   refine KNEW.out.mono ?_;rintro e w3 ⟨H,rfl,hh3,hb3⟩
   have mem3:Mem w w3 n A c l (w.heap.size+1) T H F none 0 0 [] ((List.replicate n far).set fr 0) :=
    ⟨blk_below HBOX3.out hb3 (lt_of_block HBOX3.out),HOWN3.out.keep hb3,by simp,HTAB.out.keep hb3,HSEP.out,Heap_mono hh3 hB3.size,hB3.trans (hb3.mono hB3.size)⟩
   have kpush:=push_any ltP ltP_ord less_any w.heap.size H none 0 0 [] 0 fr w3 mem3.heap Hp.nil (by decide) mem3.lo.size;have MEM3:=hid mem3;have KPUSH:=hid kpush;clear mem3 kpush hh3 hb3 hB3 HBOX3 HOWN3 HTAB HSEP
   go_wp2_with fail
   refine KPUSH.out.mono ?_;rintro e w4 ⟨⟨v,rfl⟩,A4,c4,L4,hh4,hpm4,hhp4,hkp4,_⟩;have hL4:L4=[(0,(fr:Int))]:=List.perm_singleton.1 hpm4;subst hL4;have mem4:=MEM3.out.kp hkp4 hh4
   have out4:Out w w4 n fr A c l (w.heap.size+1) T H F A4 1 c4 [(0,(fr:Int))] ((List.replicate n far).set fr 0) [] 0 :=
    ⟨mem4,hhp4,by have h:=start_inv' n fr l hf;exact⟨h.len,h.lo,h.st,h.wk,h.ent,h.nd,h.pend,h.dnle,h.dnnd,h.rel,by simp⟩⟩
   have OUT4:=hid out4;clear out4 mem4 hkp4 hh4 hpm4 hhp4 MEM3 hl;go_wp2
   go_loopg [9] (1+l.length) (fun g s9 wy=>∃(Ah:Option Addr) (m ch:Nat) (L:List Pop) (D:List Int) (dn:List Int) (cur:Int),Out w wy n fr A c l (w.heap.size+1) T H F Ah m ch L D dn cur/\L.length+(l.length - outs l dn)<=g/\g<=1+l.length)
   case atStart=>exact⟨A4,1,c4,_,_,_,_,OUT4.out,by rw[outs_nil];simp,Nat.le_refl _⟩
   case round =>
    clear OUT4;obtain⟨Ah,m,ch,L,D,dn,cur,ho,hgh,hgb⟩:=hrel;have hmem:=ho.mem;have klen:=len_any wr hmem.heap;have hLm:=hmem.heap.len
    by_cases hm0:m=0
    ·subst hm0
     have hL:L=[]:=List.eq_nil_of_length_eq_zero hLm;subst hL;have hsh:=ho.inv;have HSH:=hid hsh;have KLEN:=hid klen;have HMEM:=hid hmem;clear ho hsh klen hmem hLm hgh
     go_wp2_with fail
     refine KLEN.out.mono ?_;rintro e w5 ⟨rfl,rfl⟩;go_wp2;go_ret;exact⟨w.heap.size+1,D,rfl,HMEM.out.dist,HSH.out.fin HG.out.ends,HMEM.out.lo⟩
    ·obtain⟨m,rfl⟩:∃k,m=k+1:=⟨m - 1,by omega⟩
     have kpop:=pop_any ltP ltP_ord less_any w.heap.size H Ah m ch L wr hmem.heap ho.hp (by omega) hmem.lo.size;have htop:=ho.hp.top_mem ltP_ord;have KLEN:=hid klen;have KPOP:=hid kpop;have HTOP:=hid htop;have HO:=hid ho;have hgh':=hid hgh;have hLm':=hid hLm;clear klen kpop htop ho hmem hm0 hgh hLm
     go_wp2_with fail
     refine KLEN.out.mono ?_;rintro e w5 ⟨rfl,rfl⟩
     go_wp2_with fail
     refine KPOP.out.mono ?_;rintro e w6 ⟨p,q,L5,rfl,hg0,hh5,hpm5,hhp5,hkp⟩;have mem6:=HO.out.mem.kp hkp hh5
     have hmin:∀y∈L,p<=y.1:=fun y hy=>by
      have:=HTOP.out y hy;rw[hg0] at this;simp only[ltP,decide_eq_false_iff_not] at this;omega
     have hpin:(p,q)∈L:=hpm5.mem_iff.1 (List.mem_cons_self ..);obtain⟨q0,q1,hdq,_,_⟩:=HO.out.inv.ent (p,q) hpin;simp only at q0 q1 hdq;obtain⟨q,rfl⟩:=Int.eq_ofNat_of_zero_le q0;have hqn:q<n:=by omega
     obtain⟨dc,df⟩:=own_at1 mem6.dlen mem6.dist hqn;have hSw:w.heap.size+1<w6.heap.size:=(mem6.dist.base_ _ rfl).2;have hSw0:w.heap.size<w6.heap.size:=by omega
     have hdgq:dg D (q:Int)=D.getD q 0:=by rw[dg,Int.toNat_natCast]
     have HMIN:=hid hmin;have HPM5:=hid hpm5;have MEM6:=hid mem6;have HHP5:=hid hhp5;rw[<-hdgq] at dc;have hL5:L5.length=m:=hh5.len;have HL5:=hid hL5;clear hg0 hh5 hkp mem6 hmin hpin hpm5 hhp5 hdgq hL5 q0 q1
     by_cases hskip:dg D (q:Int)<p
     ·have hinv:=HO.out.inv.skip HPM5.out HMIN.out hskip
      have hd:decide (p > dg D (q:Int))=true:=decide_eq_true hskip;have hd2:decide (dg D (q:Int)<p)=true:=decide_eq_true hskip;have HINV:=hid hinv;generalize dg D (q:Int)=x at *;clear hinv;go_wp2;go_quiet (fail);go_wp2
      go_roundg (L5.length+(l.length - outs l dn))
      case measure=>have h1:=hgh'.out;have h2:=hLm'.out;have h3:=HL5.out;omega
      case rel=>exact⟨Ah,m,ch,L5,D,dn,p,⟨(MEM6.out.alloc _).drewN _,HHP5.out,HINV.out⟩,Nat.le_refl _,by have h1:=hgh'.out;have h2:=hLm'.out;have h3:=HL5.out;omega⟩
     ·obtain⟨hdk,_,_,hqd,htake⟩:=HO.out.inv.take HPM5.out HMIN.out hskip
      have hinv0:=htake (td l (ol l l.length q)) td_all;have hcnt:=ol_count l q;have houts:=outs_cons l dn q hqd;rw[<-hcnt] at houts;have hole:=outs_le l ((q:Int)::dn);obtain⟨tc,_⟩:=MEM6.out.tab.cell hqn;have hrow:∀wx (Ax:Option Addr) (mx cx:Nat) (Lx:List Pop) (Dx:List Int),Mem w wx n A c l (w.heap.size+1) T H F Ax mx cx Lx Dx->Own wx w.heap.size 3 1 ci (.slice (F q).1 (ol l l.length q).length (F q).2) (ol l l.length q):=fun wx Ax mx cx Lx Dx hx=>hx.tab.own q hqn;obtain⟨K,hK⟩:∃K,(ol l l.length q).length=K:=⟨_,rfl⟩;obtain⟨Aq,hAq⟩:∃Aq,(F q).1=Aq:=⟨_,rfl⟩;obtain⟨cq,hcq⟩:∃cq,(F q).2=cq:=⟨_,rfl⟩;rw[hK] at tc hrow houts;rw[hAq,hcq] at tc hrow;have hTl:=MEM6.out.tab.lt;have hHl:=MEM6.out.heap.lt;have hrb:(Value.slice Ah m ch).ownBlock≠some w6.heap.size:=fun e=>Nat.lt_irrefl _ (MEM6.out.heap.own.base_ _ e).2;have hbx:=heap_alloc_new w6 (.cells #[.int .i64 p,.int .i64 q] 121);have hb6:=blk_cell MEM6.out.box 1;simp only[zzG,zzH,zzI] at hb6;rw[hdk] at dc
      have hp0:0<=p/\p<=far:=by
       have:=HO.out.inv.lo q (by omega) (by omega);rw[hdk] at this;exact this
      have hK6:K<=6000:=by have:=ol_len l l.length q;omega
      have h1:=hgh'.out;have h2:=hLm'.out;have h3:=HL5.out;have hm6:m<=6000:=by omega
      have HINV0:=hid hinv0;have HOUTS:=hid houts;have HOLE:=hid hole;have HROW:=hid hrow;have HK:=hid hK;have HBX:=hid hbx;have HDK:=hid hdk;obtain⟨hp0,hp1⟩:=hp0;have hp2:p<=1099511627776:=hp1;clear hinv0 houts hole hrow hK hAq hcq hbx hdk hskip htake hcnt hqd h1 h2 h3 hdq;go_wp2;go_quiet (fail);go_wp2
      go_loopw [55] (fun i wy=>∃(j:Nat) (A6:Option Addr) (m6 c6:Nat) (L6:List Pop) (D6:List Int),j<=K/\i= .int .i64 j/\Mem w wy n A c l (w.heap.size+1) T H F A6 m6 c6 L6 D6/\Hp d0 ltP L6/\Inv n fr l D6 L6 ((q:Int)::dn) p (td l ((ol l l.length q).drop j)) (7000+j)/\L6.length<=L5.length+j/\dg D6 (q:Int)=p/\wy.heap[w6.heap.size]?=some (.cells #[.int .i64 p,.int .i64 q] 121 (0,0))/\(Value.slice A6 m6 c6).ownBlock≠some w6.heap.size) (fun i _=>K - (intOf i).toNat)
      case atStart=>exact⟨0,Ah,m,ch,L5,D,Nat.zero_le _,rfl,(MEM6.out.alloc _).drewN _,HHP5.out,HINV0.out,Nat.le_refl _,HDK.out,HBX.out,hrb⟩
      case round =>
       obtain⟨j,A6,m6,c6,L6,D6,hj,rfl,hmem,hhp6,hinv,hlen6,hdq6,hbx6,hrb6⟩:=hrel;clear HINV0 HHP5 HBX dc df tc hb6 hrb
       by_cases hjk:j<K
       ·have hjl:j<(ol l l.length q).length:=by rw[HK.out];exact hjk
        obtain⟨bq,offq,rfl,hbq,hcj⟩:=(HROW.out _ _ _ _ _ _ hmem).sl.2.atI hjl;obtain⟨i,hi,hil,hiq⟩:=ol_mem (List.getElem_mem hjl);rw[hi] at hcj;obtain⟨b,off,f,t,co,rfl,hbB,he,hcf,hct,hcc⟩:=(HSL0.out.keep hmem.lo zzL).atE hil;have hg:=HG.out;have hen:=hg.ends _ (List.getElem_mem hil);have hco:=hg.cost _ (List.getElem_mem hil);have hco0:=HC.out _ (List.getElem_mem hil);have hel:=List.getElem_mem hil;have hlg:l.getD i (0,0,0)=l[i]:=by rw[List.getD_eq_getElem?_getD,List.getElem?_eq_getElem hil];rfl
        have htd:td l ((ol l l.length q).drop j)=l[i]::td l ((ol l l.length q).drop (j+1)):=by
         rw[List.drop_eq_getElem_cons hjl,td,List.map_cons,hi,Int.toNat_natCast,hlg];rfl
        rw[hlg] at hiq;rw[he] at hen hco hco0 hel hiq htd;obtain⟨_,_,t0,t1⟩:=hen;simp only at t0 t1 hco hco0 hiq;obtain⟨t,rfl⟩:=Int.eq_ofNat_of_zero_le t0;have htn:t<n:=by omega
        rw[htd] at hinv;obtain⟨yc,yf⟩:=own_at1 hmem.dlen hmem.dist htn;have hdt:dg D6 (t:Int)=D6.getD t 0:=by rw[dg,Int.toNat_natCast]
        rw[<-hdt] at yc;have hb0:=blk_cell hbx6 0;have hb1:=blk_cell hbx6 1;have hx1:=blk_cell hmem.box 1;simp only[zzG,zzH,zzI] at hb0 hb1 hx1;have z1:w.heap.size+1<wr.heap.size:=(hmem.dist.base_ _ rfl).2;have z0:w.heap.size<wr.heap.size:=by omega
        have z2:w6.heap.size<wr.heap.size:=lt_of_block hbx6;have z3:b<wr.heap.size:=by omega
        have z4:(j:Int)<(K:Int):=by omega
        have z5:(i:Int)<(l.length:Int):=by omega
        have z6:¬w6.heap.size=w.heap.size+1:=by omega
        have z7:¬w.heap.size=w.heap.size+1:=by omega
        have z8:¬b=w.heap.size+1:=by omega
        obtain⟨co0,co1⟩:=hco;have hstay:=fun h=>hinv.stay hiq hdq6 h;have hgive:=fun (L':List Pop) h1 h2=>hinv.give (L':=L') hiq (List.mem_cons_self ..) hdq6 hel hco0 ⟨by simp only;omega,by simp only;omega⟩ (by omega) h1 h2;simp only at hstay hgive;have hdset:=fun x=>dg_set (D:=D6) (t:=(t:Int)) (v:=(q:Int)) (x:=x) (by omega) (by rw[hmem.dlen];omega) (by omega);simp only[Int.toNat_natCast] at hgive hdset;have HSTAY:=hid hstay;have HGIVE:=hid hgive;have HDS:=hid hdset;have HMEM:=hid hmem;have HBX:=hid hbx6;have HDQ:=hid hdq6;have hl6m:=hmem.heap.len;clear hstay hgive hdset hmem hbx6 hinv htd hlg hel he hi hjl hiq hdt t0 t1 hg hdq6
        by_cases hlt:p+co<dg D6 (t:Int)
        ·have hqt:¬(q:Int)=(t:Int):=fun e=>by have:=HDQ.out;rw[e] at this;omega
         have hdq7:dg (D6.set t (p+co)) (q:Int)=p:=by rw[HDS.out,if_neg hqt];exact HDQ.out
         have mem7:=(HMEM.out.set t (p+co) (by omega)).alloc (.cells #[.int .i64 f,.int .i64 t,.int .i64 co] 70);have kpush:=push_any ltP ltP_ord less_any w.heap.size H A6 m6 c6 L6 (p+co) t _ mem7.heap hhp6 (by have:=HL5.out;omega) mem7.lo.size;have hbx7:=blk_alloc (blk_far HBX.out (p:=⟨w.heap.size+1,t,none⟩) (by dsimp only;omega) (.int .i64 (p+co))) (.cells #[.int .i64 f,.int .i64 t,.int .i64 co] 70);have hz7:w6.heap.size<((wr.setCell ⟨w.heap.size+1,t,none⟩ (.int .i64 (p+co))).alloc (.cells #[.int .i64 f,.int .i64 t,.int .i64 co] 70)).heap.size:=lt_of_block hbx7;have MEM7:=hid mem7;have KPUSH:=hid kpush;have HBX7:=hid hbx7;have HDQ7:=hid hdq7;have hlt2:=hid hlt;have hpc:p+co<1099511627776+1000000001:=by omega
         generalize dg D6 (t:Int)=y at *;clear mem7 kpush hbx7 hdq7
         go_wp2_with fail
         refine KPUSH.out.mono ?_;rintro e w8 ⟨⟨v,rfl⟩,A8,c8,L8,hh8,hpm8,hhp8,hkp8,hat8⟩;have mem8:=MEM7.out.kp hkp8 hh8;have hbx8:=(hkp8.block _ hz7 (by omega) (fun e=>hrb6 e.symm)).trans HBX7.out
         have hrb8:(Value.slice A8 (m6+1) c8).ownBlock≠some w6.heap.size:=fun e=>by
          rcases hat8 _ e with h|h
          ·exact hrb6 h
          ·omega
         have hinv8:=HGIVE.out L8 hlt2.out hpm8;have hl8:=hpm8.length_eq;have MEM8:=hid mem8;have HBX8:=hid hbx8;have HINV8:=hid hinv8;have HL8:=hid hl8;clear mem8 hbx8 hinv8 hkp8 hh8 hpm8 hat8 hl8;go_wp2
         go_roundw
         case rel=>exact⟨j+1,A8,m6+1,c8,L8,D6.set t (p+co),by omega,by go_num,MEM8.out,hhp8,HINV8.out,by have:=HL8.out;simp at this;omega,HDQ7.out,HBX8.out,hrb8⟩
         case measure=>simp[intOf];omega
        ·have hinv8:=HSTAY.out hlt
         have hd1:decide (p+co<dg D6 (t:Int))=false:=by simp;omega
         have HINV8:=hid hinv8;generalize dg D6 (t:Int)=y at *;clear hinv8;go_wp2
         go_roundw
         case rel=>exact⟨j+1,A6,m6,c6,L6,D6,by omega,by go_num,HMEM.out.alloc _,hhp6,HINV8.out,by omega,HDQ.out,blk_alloc HBX.out _,hrb6⟩
         case measure=>simp[intOf];omega
       ·obtain rfl:j=K:=by omega
        rw[List.drop_eq_nil_of_le (by rw[HK.out];exact Nat.le_refl _)] at hinv;have h1:=hgh'.out;have h2:=hLm'.out;have h3:=HL5.out;have h4:=HOUTS.out;have h5:=HOLE.out;have hinv':=recnt hinv (show L6.length<=7000 by omega);have hms:L6.length+(l.length - outs l ((q:Int)::dn))+1<=L.length+(l.length - outs l dn):=by omega
        have HINV:=hid hinv';have HMEM:=hid hmem;have HMS:=hid hms;clear hinv hinv' hmem h1 h2 h3 h4 h5 hms hrb6 hbx6 hdq6 hlen6;go_wp2
        go_roundg (L6.length+(l.length - outs l ((q:Int)::dn)))
        case measure=>have h1:=hgh'.out;have h2:=HMS.out;omega
        case rel=>exact⟨A6,m6,c6,L6,D6,(q:Int)::dn,p,⟨HMEM.out,hhp6,HINV.out⟩,Nat.le_refl _,by have h1:=hgh'.out;have h2:=HMS.out;omega⟩
theorem run_any (n fr:Nat) (A:Option Addr) (c:Nat) (l:List E) (w:World) (hl:Sl w w.heap.size 3 ce A l) (hg:NetLaw.Good n l) (hf:fr<n) (hc0:∀e∈l,0<=e.2.2) :
 Calls Tryz.prog 20 #[.agg #[.int .i64 n,.slice A l.length c],.int .i64 fr] w fun e w'=>RunSays n fr l w e w':=run_wide n fr A c l w hl (Wide.of hg) hf hc0
end Dijk
namespace WalkLaw
open NetLaw
def egS (a b:Int) (s:Int × Bool) (e:E):Int × Bool:=if e.1=a/\e.2.1=b/\(s.2=false\/e.2.2<s.1) then (e.2.2,true) else s
def eg (l:List E) (a b:Int):Int × Bool:=l.foldl (egS a b) (0,false)
theorem eg_succ (l:List E) (a b:Int) (k:Nat) (h:k<l.length):eg (l.take (k+1)) a b=egS a b (eg (l.take k) a b) l[k]:=by
 unfold eg;rw[List.take_succ_eq_append_getElem h,List.foldl_append]
 rfl
theorem eg_bd {l:List E} (h:∀e∈l,-10000<=e.2.2/\e.2.2<=10000) (a b:Int): -10000<=(eg l a b).1/\(eg l a b).1<=10000:=by
 have key:∀(l:List E) (s:Int × Bool),(∀e∈l,-10000<=e.2.2/\e.2.2<=10000)->(-10000<=s.1/\s.1<=10000)->(-10000<=(l.foldl (egS a b) s).1/\(l.foldl (egS a b) s).1<=10000):=by
  intro l
  induction l with
  |nil=>intro s _ hs;exact hs
  |cons e r ih =>
   intro s hl hs;refine ih _ (fun e' he'=>hl e' (List.mem_cons_of_mem _ he')) ?_;unfold egS;split
   ·exact hl e (List.mem_cons_self)
   ·exact hs
 exact key l _ h (by simp)
def prs (p:List Int):List (Int × Int):=p.zip p.tail
theorem prs_len (p:List Int):(prs p).length=p.length - 1:=by simp[prs]
theorem prs_get {p:List Int} {k:Nat} (h:k+1<p.length):(prs p)[k]?=some (p[k],p[k+1]):=by
 unfold prs;rw[List.getElem?_zip_eq_some];exact⟨List.getElem?_eq_getElem (by omega),by rw[List.getElem?_tail];exact List.getElem?_eq_getElem h⟩
def sumP (l:List E) (ps:List (Int × Int)):Int:=(ps.map fun p=>(eg l p.1 p.2).1).sum
def okP (l:List E) (ps:List (Int × Int)):Bool:=ps.all fun p=>(eg l p.1 p.2).2
theorem sumP_snoc (l:List E) (ps:List (Int × Int)) (p:Int × Int):sumP l (ps++[p])=sumP l ps+(eg l p.1 p.2).1:=by simp[sumP]
theorem okP_snoc (l:List E) (ps:List (Int × Int)) (p:Int × Int):okP l (ps++[p])=(okP l ps && (eg l p.1 p.2).2):=by simp[okP]
theorem sumP_bd {l:List E} (h:∀e∈l,-10000<=e.2.2/\e.2.2<=10000) (ps:List (Int × Int)): -10000*(ps.length:Int)<=sumP l ps/\sumP l ps<=10000*(ps.length:Int):=by
 induction ps with
 |nil=>simp[sumP]
 |cons p r ih =>
  have e:sumP l (p::r)=(eg l p.1 p.2).1+sumP l r:=by simp[sumP]
  have:=eg_bd h p.1 p.2;rw[e];simp only[List.length_cons];omega
def outB (N v:Int):Bool:=decide (v<0) || decide (N<=v)
def cost (N:Int) (l:List E) (p:List Int):Int × Int :=
 if chk N l≠0 then (0,chk N l) else if p.length=0 then (0,1) else if 100<p.length then (0,2) else if p.any (outB N) then (0,1) else if okP l (prs p) then (sumP l (prs p),0) else (0,5)
theorem prs_cons (x y:Int) (r:List Int):prs (x::y::r)=(x,y)::prs (y::r):=rfl
theorem prs_join (a':List Int) (x:Int) (b':List Int):prs (a'++x::b')=prs (a'++[x])++prs (x::b'):=by
 induction a' with
 |nil=>simp[prs]
 |cons y r ih =>
  cases r with
  |nil =>
   show prs (y::x::b')=prs [y,x]++prs (x::b')
   rw[prs_cons];simp[prs]
  |cons z r =>
   show prs (y::z::(r++x::b'))=prs (y::z::(r++[x]))++prs (x::b')
   rw[prs_cons,prs_cons,List.cons_append]
   congr 1
theorem sumP_append (l:List E) (p q:List (Int × Int)):sumP l (p++q)=sumP l p+sumP l q:=by simp[sumP]
theorem okP_append (l:List E) (p q:List (Int × Int)):okP l (p++q)=(okP l p && okP l q):=by simp[okP]
theorem cost_zero {N:Int} {l:List E} {p:List Int}:(cost N l p).2=0 ↔ chk N l=0/\p.length≠0/\p.length<=100/\p.any (outB N)=false/\okP l (prs p)=true:=by
 unfold cost
 by_cases h1:chk N l=0
 ·rw[if_neg (by simp[h1])]
  by_cases h2:p.length=0
  ·rw[if_pos h2];simp[h2]
  ·rw[if_neg h2]
   by_cases h3:100<p.length
   ·rw[if_pos h3];simp;omega
   ·rw[if_neg h3]
    cases h4:p.any (outB N)
    ·cases h5:okP l (prs p)
     ·simp
     ·simp[h1];exact⟨fun h=>h2 (by rw[h];rfl),by omega⟩
    ·simp
 ·rw[if_pos h1];simp[h1]
theorem cost_val {N:Int} {l:List E} {p:List Int}:(cost N l p).1=if (cost N l p).2=0 then sumP l (prs p) else 0:=by
 unfold cost
 repeat' split
 all_goals simp_all
end WalkLaw
namespace JohnLaw
open NetLaw WalkLaw
def ht (h:List Int) (v:Int):Int:=h.getD v.toNat 0
def flc (h:List Int) (e:E):E:=(e.1,e.2.1,e.2.2+ht h e.1 - ht h e.2.1)
def flt (h:List Int) (l:List E):List E:=l.map (flc h)
end JohnLaw
namespace John
open Go.RowKit NetLaw JohnLaw Net
theorem copy_any (N:Int) (A:Option Addr) (c:Nat) (l:List E) (w:World) (hl:Sl w w.heap.size 3 ce A l) (hA:A=none->l.length=0/\c=0) (hlen:l.length<=600) :
 Calls Tryz.prog 43 #[.agg #[.int .i64 N,.slice A l.length c]] w fun e w'=>SomeNet N l w e w':=by
 obtain⟨i0,hi,hz0,hz1,hz2⟩:=info_parts infoEdge;obtain⟨w0,hw0⟩:∃w0,w0=(w.alloc (.cells #[.int .i64 N,.slice A l.length c] 24)).alloc (.cells #[.int .i64 0,.slice none 0 0] 24):=⟨_,rfl⟩;have hb0:Below w.heap.size w w0:=by rw[hw0];exact((Below.refl _ _).alloc zzL _).alloc (by simp) _
 have hz:w0.heap.size=w.heap.size+2:=by rw[hw0];simp
 have q0:w0.cell? ⟨w.heap.size,0,none⟩=some (.int .i64 N):=by rw[hw0];simp[go_sem]
 have q1:w0.cell? ⟨w.heap.size,1,none⟩=some (.slice A l.length c):=by rw[hw0];simp[go_sem]
 have r2:w0.heap[w.heap.size+1]?=some (.cells #[.int .i64 0,.slice none 0 0] 24 (0,0)):=by rw[hw0];have:=heap_alloc_new (w.alloc (.cells #[.int .i64 N,.slice A l.length c] 24)) (.cells #[.int .i64 0,.slice none 0 0] 24);simp at this ⊢;exact this
 have r0:=blk_cell r2 0;have r1:=blk_cell r2 1;have f0:=blk_free r2 0;have f1:=blk_free r2 1;simp only[zzG,zzH,zzI] at r0 r1;have hs0:=hl.keep hb0 zzL;have HA:=hid hA;have HW:=hid hw0;have hzz:w.heap.size+1<w0.heap.size:=by omega
 have hzz0:w.heap.size<w0.heap.size:=by omega
 clear hA hl;go_enter Tryz.func43,Tryz.ntmps43;go_wp2;rw[<-hw0];clear hw0
 go_region_law (first
  |(refine step_pushAll _ rfl (.const (.slice none 0 0)) (.tmp 6) _ rfl w0.heap.size 70 i0 _ 3 24 ce Tryz.underlying22 hi hz0 hz1 hz2 rfl (by decide) _ [] 0 rfl rfl Own.nil_ w.heap.size A l.length c l rfl rfl HA.out (by first|exact hs0|exact hs0.keep (below_drewN (Below.refl _ _) 1) zzL|exact hs0.keep (below_drewN (Below.refl _ _) 2) zzL) one_ce (by omega) (by omega) zzL ?_
    intro A3 c3 w3 hown3 hgrow3 hat3;simp only[Nat.zero_add,List.nil_append] at hown3;have hB3:Below w0.heap.size w0 w3:=by (first|exact(Below.refl _ _).grown hgrow3 zzL (fun k hk=>by cases hk)|exact(below_drewN (Below.refl _ _) 1).grown hgrow3 zzL (fun k hk=>by cases hk)|exact(below_drewN (Below.refl _ _) 2).grown hgrow3 zzL (fun k hk=>by cases hk))
    have p0:=((keepAt hB3 hzz0).1 0).trans q0;have p1:=((keepAt hB3 hzz0).1 1).trans q1;have p2:=((keepAt hB3 hzz).1 0).trans r0;have p3:=((keepAt hB3 hzz).1 1).trans r1;have p4:=((keepAt hB3 hzz).2 0).trans f0;have p5:=((keepAt hB3 hzz).2 1).trans f1;clear hgrow3))
 all_goals
  go_wp2;have hne:=hown3.ne_ ((hB3.block _ hzz).trans r2) (by decide);refine bodyPost_ret (v:= .agg #[.int .i64 N,.slice A3 l.length c3]) (by simp[results,Tryz.results43,go_sem,p0,p1,p2,p3]) rfl ⟨A3,c3,rfl,?_,?_⟩
  ·exact(((hown3.mono (by omega)).setCell hne _).setCell hne _)
  ·exact((hb0.trans (hB3.mono (by omega))).setCell (by dsimp only;omega) _).setCell (by dsimp only;omega) _
def lk (h:List Int) (l:List E) (k:Nat):List E:=flt h (l.take k)++l.drop k
theorem lk_len (h:List Int) (l:List E) (k:Nat):(lk h l k).length=l.length:=by simp[lk,flt];omega
theorem lk_zero (h:List Int) (l:List E):lk h l 0=l:=by simp[lk,flt]
theorem lk_all (h:List Int) (l:List E):lk h l l.length=flt h l:=by simp[lk]
theorem lk_get (h:List Int) (l:List E) (k:Nat) (hk:k<l.length) (hk':k<(lk h l k).length):(lk h l k)[k]=l[k]:=by
 have e:(lk h l k)[k]?=some l[k]:=by
  unfold lk;rw[List.getElem?_append_right (by simp[flt];omega)];simp[flt,Nat.min_eq_left (Nat.le_of_lt hk),hk]
 exact Option.some.inj ((List.getElem?_eq_getElem hk').symm.trans e)
theorem lk_set (h:List Int) (l:List E) (k:Nat) (hk:k<l.length):(lk h l k).set k (flc h l[k])=lk h l (k+1):=by
 unfold lk;have e:(flt h (l.take k)).length=k:=by simp[flt];omega
 rw[List.set_append_right _ _ (by omega),e,Nat.sub_self,List.drop_eq_getElem_cons hk,List.set_cons_zero,List.take_succ_eq_append_getElem hk,flt,flt,List.map_append,List.append_assoc]
 rfl
theorem flat_any (N:Int) (A:Option Addr) (c:Nat) (l:List E) (A':Option Addr) (c':Nat) (h:List Int) (w:World) (hl:Sl w w.heap.size 3 ce A l) (hA:A=none->l.length=0/\c=0) (hh:Sl w w.heap.size 1 ci A' h)
 (hg:NetLaw.Good N l) (hN:(h.length:Int)=N) (hlift:∀x∈h,-1000000000000<=x/\x<=1000000000000) :
 Calls Tryz.prog 27 #[.agg #[.int .i64 N,.slice A l.length c],.slice A' h.length c'] w fun e w'=>SomeNet N (flt h l) w e w':=by
 have hb0:Below w.heap.size w ((w.alloc (.cells #[.int .i64 N,.slice A l.length c] 24)).alloc (.cells #[.int .i64 0,.slice none 0 0] 24)):=((Below.refl _ _).alloc zzL _).alloc (by simp) _;have key:=fun W hs=>copy_any N A c l W hs hA hg.len;have KEY:=hid key;have hlen:=hg.len;have HG:=hid hg;have HN:=hid hN;clear key hA hg hN;go_enter Tryz.func27,Tryz.ntmps27
 go_wp2_with fail
 refine(KEY.out _ ((hl.keep hb0 zzL).more (by simp;omega))).mono ?_;rintro e w1 ⟨A1,c1,rfl,own1,hb1⟩;have B1:Below (w.heap.size+2) _ w1:=hb1.mono (by simp);have H1:Below w.heap.size w w1:=hb0.trans (B1.mono (by omega));have hR:=blk_below (heap_alloc_new (w.alloc (.cells #[.int .i64 N,.slice A l.length c] 24)) (.cells #[.int .i64 0,.slice none 0 0] 24)) B1 (by simp);have hsz:(w.alloc (.cells #[.int .i64 N,.slice A l.length c] 24)).heap.size=w.heap.size+1:=by simp
 rw[hsz] at hR;have hz1:w.heap.size+2<=w1.heap.size:=by have:=hb1.size;simp at this;omega
 have own1':=(own1.alloc (.cells #[.int .i64 N,.slice A1 l.length c1] 24)).mono (show w.heap.size<=_ by simp;omega);have hG1:=heap_alloc_new w1 (.cells #[.int .i64 N,.slice A1 l.length c1] 24);have hR1:=blk_alloc hR (.cells #[.int .i64 N,.slice A1 l.length c1] 24);have OWN1:=hid own1';have HG1:=hid hG1;have HR1:=hid hR1;clear hsz hb1 hl own1 own1' hR hR1 hG1;go_wp2
 go_loopw [13] (fun i wr=>∃k:Nat,k<=l.length/\i= .int .i64 k/\wr.heap[w1.heap.size]?=some (.cells #[.int .i64 N,.slice A1 l.length c1] 24 (0,0))/\wr.heap[w.heap.size+1]?=some (.cells #[.int .i64 0,.slice none 0 0] 24 (0,0)) /\
  Own wr w.heap.size 70 3 ce (.slice A1 l.length c1) (lk h l k)/\Below w.heap.size w wr) (fun i _=>l.length - (intOf i).toNat)
 case atStart=>exact⟨0,Nat.zero_le _,rfl,HG1.out,HR1.out,by rw[lk_zero];exact OWN1.out,H1.alloc (by omega) _⟩
 case round =>
  obtain⟨k,hk,rfl,hO,hR,own,hB⟩:=hrel;clear OWN1 HG1 HR1;have hO0:=blk_cell hO 0;have hO1:=blk_cell hO 1;have hOz:=lt_of_block hO;have hRz:=lt_of_block hR;simp only[zzG,zzH,zzI] at hO0 hO1
  by_cases hlt:k<l.length
  ·obtain⟨S,f,t,co,rfl,hS0,hS1,he,hcf,hct,hcc,g0,g1,g2⟩:=own_atE (lk_len h l k) own (show k<(lk h l k).length by rw[lk_len];exact hlt)
   have he':=he;rw[lk_get h l k hlt] at he';have hg:=HG.out;have hen:=hg.ends _ (List.getElem_mem hlt);have hco:=hg.cost _ (List.getElem_mem hlt);rw[he'] at hen hco;obtain⟨f0,f1,t0,t1⟩:=hen;simp only at f0 f1 t0 t1 hco;obtain⟨f,rfl⟩:=Int.eq_ofNat_of_zero_le f0;obtain⟨t,rfl⟩:=Int.eq_ofNat_of_zero_le t0;have hN:=HN.out;have f2:f<h.length:=by omega
   have t2:t<h.length:=by omega
   have hh2:=hh.keep hB zzL;obtain⟨bh,oh,rfl,hbh,hx⟩:=hh2.atI f2;obtain⟨bh',oh',hbe,hbh',hy⟩:=hh2.atI t2;injection hbe with hbe;injection hbe with hb1 hb2 _;subst hb1 hb2;have lx:=hlift _ (List.getElem_mem f2);have ly:=hlift _ (List.getElem_mem t2)
   have hfc:flc h l[k]=((f:Int),(t:Int),co+h[f] - h[t]):=by
    rw[he'];simp[flc,ht,List.getD_eq_getElem?_getD,f2,t2]
   have hset:=own_setj (lk_len h l k) own k 2 (flc h l[k]) (by rw[lk_len];exact hlt) (by decide) (fun j hj hne=>by
    rw[he,hfc]
    match j,hj,hne with
    |0,_,_=>rfl
    |1,_,_=>rfl
    |2,_,hne=>exact absurd rfl hne)
   rw[lk_set h l k hlt,hfc] at hset;have hset':Own (wr.setCell ⟨S,k*3+2,none⟩ (.int .i64 (co+h[f] - h[t]))) w.heap.size 70 3 ce (.slice (some ⟨S,0,none⟩) l.length c1) (lk h l (k+1)):=hset;have hne1:=own.ne_ hO (by decide);have hne2:=own.ne_ hR (by decide);generalize h[f]=x at *;generalize h[t]=y at *;have HF:=hid hfc;have OWN:=hid own;have hSO:¬S=w1.heap.size:=fun e=>hne1 (by rw[e];rfl);have hSR:¬S=w.heap.size+1:=fun e=>hne2 (by rw[e];rfl);obtain⟨lx0,lx1⟩:=lx;obtain⟨ly0,ly1⟩:=ly;obtain⟨co0,co1⟩:=hco;have hbr:bh<wr.heap.size:=by have:=hB.size;omega
   have hSb:¬bh=S:=by omega
   have hBz:=hB.size;have HSET:=hid hset';clear hfc own he he' hset hset' hg hN hh2 hne1 hne2 f0 t0 f1 t1 hh hlift;go_wp2
   go_region
   all_goals
    go_wp2
    go_roundw
    case' rel=>exact⟨k+1,by omega,by go_num,blk_alloc (blk_far hO (by dsimp only;omega) _) _,blk_alloc (blk_far hR (by dsimp only;omega) _) _,(HSET.out.alloc _).drewN 1,((hB.setCell (by dsimp only;omega) _).alloc (by simp[World.setCell];omega) _).drew⟩
    case' measure=>simp[intOf];omega
  ·obtain rfl:k=l.length:=by omega
   have hc0:=blk_cell hR 0;have hc1:=blk_cell hR 1;have hf0:=blk_free hR 0;have hf1:=blk_free hR 1;simp only[zzG,zzH,zzI] at hc0 hc1;rw[lk_all] at own;have hne:=own.ne_ hR (by decide);have hfl:(flt h l).length=l.length:=by simp[flt]
   have HFL:=hid hfl;have OWN:=hid own;clear hh own hfl;go_wp2;refine bodyPost_ret (v:= .agg #[.int .i64 N,.slice A1 l.length c1]) (by simp[results,Tryz.results27,go_sem,hc0,hc1,hO0,hO1]) rfl ⟨A1,c1,by rw[HFL.out],?_,?_⟩
   ·rw[HFL.out]
    exact(OWN.out.setCell hne _).setCell hne _
   ·exact(hB.setCell (by dsimp only;omega) _).setCell (by dsimp only;omega) _
end John
namespace DijkMorePlain
open NetLaw BellLaw DijkLaw
theorem wk_join {l:List E} {a u v d d':Int} (h:Wk l a u d) (h':Wk l u v d'):Wk l a v (d+d'):=by
 induction h' with
 |here=>rw[Int.add_zero];exact h
 |step _ he hf ih=>rw[<-Int.add_assoc];exact Wk.step ih he hf
end DijkMorePlain
namespace FloydLaw
open NetLaw BellLaw
abbrev Mx (T:Type):=Nat->Nat->T
def set2 {T:Type} (M:Mx T) (i j:Nat) (x:T):Mx T:=fun a b=>if a=i/\b=j then x else M a b
section
variable {T:Type} (orf thn:T->T->T)
def stp (k i:Nat) (M:Mx T) (j:Nat):Mx T:=set2 M i j (orf (M i j) (thn (M i k) (M k j)))
def inn (k i:Nat) (M:Mx T):Nat->Mx T
 |0=>M
 |j+1=>stp orf thn k i (inn k i M j) j
def mid (n k:Nat) (M:Mx T):Nat->Mx T
 |0=>M
 |i+1=>inn orf thn k i (mid n k M i) n
def out (n:Nat) (M:Mx T):Nat->Mx T
 |0=>M
 |k+1=>mid orf thn n k (out n M k) n
def ed1 (edge:E->T) (M:Mx T) (e:E):Mx T:=set2 M e.1.toNat e.2.1.toNat (orf (M e.1.toNat e.2.1.toNat) (edge e))
def eds (edge:E->T) (l:List E) (M:Mx T):Mx T:=l.foldl (ed1 orf edge) M
def ini (none self:T):Mx T:=fun i j=>if i=j then self else none
def clo (none self:T) (edge:E->T) (n:Nat) (l:List E):Mx T:=out orf thn n (eds orf edge l (ini none self)) n
theorem inn_eq {n k i:Nat} {M C:Mx T} (hc:∀a,orf (M a k) (thn (M a k) (M k k))=M a k) (hr:∀b,orf (M k b) (thn (M k k) (M k b))=M k b)
 (hC:C=fun a b=>if a<i/\b<n then orf (M a b) (thn (M a k) (M k b)) else M a b) (j:Nat) :
 inn orf thn k i C j=fun a b=>if (a<i/\b<n)\/(a=i/\b<j) then orf (M a b) (thn (M a k) (M k b)) else M a b:=by
 induction j with
 |zero =>
  rw[inn,hC]
  funext a b
  by_cases h:a<i/\b<n
  ·rw[if_pos h,if_pos (.inl h)]
  ·rw[if_neg h,if_neg (by omega)]
 |succ j ih =>
  rw[inn,ih];generalize hX:(fun a b=>if (a<i/\b<n)\/(a=i/\b<j) then orf (M a b) (thn (M a k) (M k b)) else M a b)=X;have hX':∀a b,X a b=if (a<i/\b<n)\/(a=i/\b<j) then orf (M a b) (thn (M a k) (M k b)) else M a b:=fun a b=>by rw[<-hX]
  have h1:X i k=M i k:=by rw[hX'];split <;> simp[hc]
  have h2:X k j=M k j:=by rw[hX'];split <;> simp[hr]
  have h3:X i j=M i j:=by rw[hX',if_neg (by omega)]
  funext a b
  rw[stp,h1,h2,h3,set2]
  by_cases h:a=i/\b=j
  ·obtain⟨rfl,rfl⟩:=h
   rw[if_pos ⟨rfl,rfl⟩,if_pos (by omega)]
  ·rw[if_neg h,hX']
   by_cases h4:(a<i/\b<n)\/(a=i/\b<j)
   ·rw[if_pos h4,if_pos (by omega)]
   ·rw[if_neg h4,if_neg (by omega)]
theorem mid_eq {n k:Nat} {M:Mx T} (hc:∀a,orf (M a k) (thn (M a k) (M k k))=M a k) (hr:∀b,orf (M k b) (thn (M k k) (M k b))=M k b) (i:Nat) :
 mid orf thn n k M i=fun a b=>if a<i/\b<n then orf (M a b) (thn (M a k) (M k b)) else M a b:=by
 induction i with
 |zero=>rw[mid];funext a b;rw[if_neg (by omega)]
 |succ i ih =>
  rw[mid,inn_eq orf thn hc hr ih n]
  funext a b
  by_cases h:(a<i/\b<n)\/(a=i/\b<n)
  ·rw[if_pos h,if_pos (by omega)]
  ·rw[if_neg h,if_neg (by omega)]
theorem inn_ind {P:Mx T->Prop} {n k i:Nat} (h:∀M i j,P M->P (stp orf thn k i M j)) {M:Mx T} (hM:P M) (j:Nat):P (inn orf thn k i M j):=by
 induction j with
 |zero=>exact hM
 |succ j ih=>exact h _ _ _ ih
theorem mid_ind {P:Mx T->Prop} {n k:Nat} (h:∀M i j,P M->P (stp orf thn k i M j)) {M:Mx T} (hM:P M) (i:Nat):P (mid orf thn n k M i):=by
 induction i with
 |zero=>exact hM
 |succ i ih=>exact inn_ind orf thn (n:=n) h ih n
theorem out_ind {P:Mx T->Prop} {n:Nat} (h:∀k M i j,P M->P (stp orf thn k i M j)) {M:Mx T} (hM:P M) (k:Nat):P (out orf thn n M k):=by
 induction k with
 |zero=>exact hM
 |succ k ih=>exact mid_ind orf thn (h k) ih n
end
def th (a b:Int):Int:=if a=far\/b=far then far else max (-far) (a+b)
def cst (e:E):Int:=e.2.2
def all (n:Nat) (l:List E):Mx Int:=clo min th far 0 cst n l
theorem far_pos:(0:Int)<far:=by decide
theorem th_rng {a b:Int} (ha: -far<=a/\a<=far) (hb: -far<=b/\b<=far): -far<=th a b:=by
 have:=far_pos;unfold th;split <;> omega
theorem th_grow {a d:Int} (ha: -far<=a/\a<=far) (hd:0<=d):a<=th a d/\a<=th d a:=by
 unfold th
 constructor <;> split <;> omega
def Rng (M:Mx Int):Prop:=∀i j,-far<=M i j/\M i j<=far
theorem stp_rng {k i j:Nat} {M:Mx Int} (h:Rng M):Rng (stp min th k i M j):=fun a b=>by
 unfold stp set2;split
 ·have h1:=h i j
  have h2:=th_rng (h i k) (h k j);omega
 ·exact h a b
theorem stp_le {k i j:Nat} {M M0:Mx Int} (h:∀a b,M a b<=M0 a b):∀a b,stp min th k i M j a b<=M0 a b:=fun a b=>by
 unfold stp set2;split
 ·rename_i e
  obtain⟨rfl,rfl⟩:=e;have:=h a b;omega
 ·exact h a b
theorem out_rng {n k:Nat} {M:Mx Int} (h:Rng M):Rng (out min th n M k):=out_ind min th (P:=Rng) (fun _ _ _ _ h=>stp_rng h) h k
theorem mid_le {n k i:Nat} {M:Mx Int} (a b:Nat):mid min th n k M i a b<=M a b:=mid_ind min th (n:=n) (k:=k) (P:=fun X=>∀a b,X a b<=M a b) (fun _ _ _ h=>stp_le h) (fun _ _=>Int.le_refl _) i a b
theorem out_le {n:Nat} {M:Mx Int} {k m:Nat} (h:k<=m) (a b:Nat):out min th n M m a b<=out min th n M k a b:=by
 induction m with
 |zero=>obtain rfl:k=0:=by omega
        exact Int.le_refl _
 |succ m ih =>
  rcases Nat.lt_or_ge k (m+1) with h1|h1
  ·exact Int.le_trans (mid_le a b) (ih (by omega))
  ·obtain rfl:k=m+1:=by omega
   exact Int.le_refl _
theorem mid_min {n k:Nat} {M:Mx Int} (hR:Rng M) (hd:0<=M k k) (a b:Nat) (ha:a<n) (hb:b<n):mid min th n k M n a b=min (M a b) (th (M a k) (M k b)):=by
 rw[mid_eq min th (fun a=>by have:=th_grow (hR a k) hd;omega) (fun b=>by have:=th_grow (hR k b) hd;omega) n];simp only[ha,hb,and_self,if_true]
structure FW (n k:Nat) (l:List E) (M:Mx Int):Prop where
 rng:Rng M
 bd:∀i j,i<n->j<n->M i j<far->∃S:List Nat,S.Nodup/\(∀m∈S,m<k)/\(∀m∈S,M i m<far/\M m j<far/\M i m+M m j<=M i j)/\ -(10000*((S.length:Int)+1))<=M i j/\M i j<=10000*((S.length:Int)+1)
 tri:∀i j m,i<n->j<n->m<k->M i m<far->M m j<far->M i j<=M i m+M m j
 wk:∀i j,i<n->j<n->M i j<far->Wk l i j (M i j)
theorem nodup_len {S:List Nat} {k:Nat} (h:S.Nodup) (hk:∀m∈S,m<k):S.length<=k:=by
 induction k generalizing S with
 |zero =>
  match S,hk with
  | [],_=>simp
  |a::r,hk=>exact absurd (hk a (by simp)) (by omega)
 |succ k ih =>
  have h1:∀m∈S.erase k,m<k:=fun m hm=>by
   have h2:=(List.Nodup.mem_erase_iff h).1 hm;have:=hk m h2.2;omega
  have:=ih (List.Nodup.erase k h) h1;have h3:=List.length_erase (a:=k) (l:=S);split at h3 <;> omega
theorem FW.small {n k:Nat} {l:List E} {M:Mx Int} (h:FW n k l M) (hk:k<=64) {i j:Nat} (hi:i<n) (hj:j<n) (hf:M i j<far): -650000<=M i j/\M i j<=650000:=by
 obtain⟨S,h1,h2,_,h4,h5⟩:=h.bd i j hi hj hf;have:=nodup_len h1 h2;omega
theorem FW.next {n k:Nat} {l:List E} {M:Mx Int} (h:FW n k l M) (hk:k<n) (hn:n<=64) (hd:∀m,m<n->0<=mid min th n k M n m m):FW n (k+1) l (mid min th n k M n):=by
 have hle:∀a b,mid min th n k M n a b<=M a b:=fun a b=>mid_le a b;have hkk:0<=M k k:=Int.le_trans (hd k hk) (hle k k);have hrng:Rng (mid min th n k M n):=mid_ind min th (P:=Rng) (fun _ _ _ h=>stp_rng h) h.rng n;have hfar:far=1099511627776:=rfl
 have hv:∀a b,a<n->b<n->mid min th n k M n a b=min (M a b) (if M a k<far/\M k b<far then M a k+M k b else far):=fun a b ha hb=>by
  rw[mid_min h.rng hkk a b ha hb,th];have r1:=h.rng a k;have r2:=h.rng k b
  by_cases c1:M a k<far
  ·by_cases c2:M k b<far
   ·have s1:=h.small (by omega) ha hk c1
    have s2:=h.small (by omega) hk hb c2;rw[if_neg (by omega),if_pos ⟨c1,c2⟩];omega
   ·rw[if_pos (by omega),if_neg (by omega)]
  ·rw[if_pos (by omega),if_neg (by omega)]
 generalize mid min th n k M n=M' at *;have small:∀a b,a<n->b<n->M a b<far-> -650000<=M a b/\M a b<=650000:=fun a b ha hb=>h.small (by omega) ha hb;refine⟨hrng,fun i j hi hj hf=> ?_,fun i j m hi hj hm f1 f2=> ?_,fun i j hi hj hf=> ?_⟩
 ·have hij:=hv i j hi hj
  by_cases hlt:M' i j<M i j
  ·have hcond:M i k<far/\M k j<far:=by
    by_cases c:M i k<far/\M k j<far
    ·exact c
    ·rw[if_neg c] at hij
     have:=(h.rng i j).2;omega
   obtain⟨c1,c2⟩:=hcond;rw[if_pos ⟨c1,c2⟩] at hij;have hval:M' i j=M i k+M k j:=by omega
   obtain⟨S1,p1,p2,p3,p4,p5⟩:=h.bd i k hi hk c1;obtain⟨S2,q1,q2,q3,q4,q5⟩:=h.bd k j hk hj c2
   have hdis:∀m,m∈S1->m∈S2->False:=fun m m1 m2=>by
    have hm:=p2 m m1;obtain⟨a1,a2,a3⟩:=p3 m m1;obtain⟨b1,b2,b3⟩:=q3 m m2;have t1:=h.tri i j m hi hj hm a1 b2;have dm:=hd m (by omega);have vm:=hv m m (by omega) (by omega);rw[if_pos ⟨a2,b1⟩] at vm;omega
   refine⟨S1++k::S2,?_,fun m hm=> ?_,fun m hm=> ?_,?_,?_⟩
   ·rw[List.nodup_append]
    refine⟨p1,List.nodup_cons.2 ⟨fun hm=>by have:=q2 k hm;omega,q1⟩,fun a ha b hb e=> ?_⟩;subst e;rcases List.mem_cons.1 hb with e|e
    ·subst e;have:=p2 _ ha;omega
    ·exact hdis a ha e
   ·rcases List.mem_append.1 hm with hm|hm
    ·have:=p2 m hm;omega
    ·rcases List.mem_cons.1 hm with e|e
     ·omega
     ·have:=q2 m e;omega
   ·rcases List.mem_append.1 hm with hm|hm
    ·have hmk:=p2 m hm
     obtain⟨a1,a2,a3⟩:=p3 m hm;have v1:=hv m j (by omega) hj;rw[if_pos ⟨a2,c2⟩] at v1;have l1:=hle i m;have s1:=small m k (by omega) hk a2;have s2:=small k j hk hj c2;exact⟨by omega,by omega,by omega⟩
    ·rcases List.mem_cons.1 hm with e|e
     ·subst e
      have l1:=hle i m;have l2:=hle m j;exact⟨by omega,by omega,by omega⟩
     ·have hmk:=q2 m e
      obtain⟨a1,a2,a3⟩:=q3 m e;have v1:=hv i m hi (by omega);rw[if_pos ⟨c1,a1⟩] at v1;have l1:=hle m j;have s1:=small i k hi hk c1;have s2:=small k m hk (by omega) a1;exact⟨by omega,by omega,by omega⟩
   ·simp only[List.length_append,List.length_cons];omega
   ·simp only[List.length_append,List.length_cons];omega
  ·have he:M' i j=M i j:=by have:=hle i j;omega
   rw[he] at hf ⊢;obtain⟨S,p1,p2,p3,p4,p5⟩:=h.bd i j hi hj hf;refine⟨S,p1,fun m hm=>by have:=p2 m hm;omega,fun m hm=> ?_,p4,p5⟩;obtain⟨a1,a2,a3⟩:=p3 m hm;have l1:=hle i m;have l2:=hle m j;exact⟨by omega,by omega,by omega⟩
 ·have v1:=hv i j hi hj
  have v2:=hv i m hi (by omega);have v3:=hv m j (by omega) hj;have sij:=small i j hi hj;have sik:=small i k hi hk;have skj:=small k j hk hj;have skm:=small k m hk (by omega);have smk:=small m k (by omega) hk;have sim:=small i m hi (by omega);have smj:=small m j (by omega) hj;rcases (show m<k\/m=k by omega) with hm|rfl
  ·have t1:=h.tri i j m hi hj hm
   have t2:=h.tri k j m hk hj hm;have t3:=h.tri i k m hi hk hm;have t4:=h.tri k k m hk hk hm
   by_cases c1:M i k<far <;> by_cases c2:M k j<far <;> by_cases c3:M k m<far <;> by_cases c4:M m k<far <;> by_cases c5:M i m<far <;> by_cases c6:M m j<far <;> simp only[c1,c2,c3,c4,c5,c6,and_self,and_true,and_false,false_and,true_and,if_true,if_false,true_imp_iff,forall_const,false_implies] at v1 v2 v3 t1 t2 t3 t4 sik skj skm smk sim smj <;> omega
  ·have hskk:=small m m hk hk
   by_cases c1:M i m<far <;> by_cases c2:M m j<far <;> by_cases c3:M m m<far <;> simp only[c1,c2,c3,and_self,and_true,and_false,false_and,true_and,if_true,if_false,false_implies] at v1 v2 v3 sik skj hskk <;> omega
 ·have hij:=hv i j hi hj
  by_cases hlt:M' i j<M i j
  ·by_cases c:M i k<far/\M k j<far
   ·rw[if_pos c] at hij
    have hval:M' i j=M i k+M k j:=by omega
    rw[hval];exact DijkMorePlain.wk_join (h.wk i k hi hk c.1) (h.wk k j hk hj c.2)
   ·rw[if_neg c] at hij
    have:=(h.rng i j).2;omega
  ·have he:M' i j=M i j:=by have:=hle i j;omega
   rw[he] at hf ⊢;exact h.wk i j hi hj hf
theorem FW.all {n:Nat} {l:List E} {M:Mx Int} (h:FW n 0 l M) (hn:n<=64) (hd:∀m,m<n->0<=out min th n M n m m) (k:Nat) (hk:k<=n):FW n k l (out min th n M k):=by
 induction k with
 |zero=>exact h
 |succ k ih =>
  exact(ih (by omega)).next (by omega) hn fun m hm=>Int.le_trans (hd m hm) (out_le (show k+1<=n from hk) m m)
theorem eds_start {n:Nat} {l:List E} (hg:NetLaw.Good n l) (r:List E) (hr:∀e∈r,e∈l) (M:Mx Int) (hM:∀i j,M i j=far\/(-10000<=M i j/\M i j<=10000/\Wk l i j (M i j))) :
 (∀i j,eds min cst r M i j=far\/(-10000<=eds min cst r M i j/\eds min cst r M i j<=10000/\Wk l i j (eds min cst r M i j)))/\(∀i j,eds min cst r M i j<=M i j)/\∀e∈r,eds min cst r M e.1.toNat e.2.1.toNat<=e.2.2:=by
 induction r generalizing M with
 |nil=>exact⟨hM,fun _ _=>Int.le_refl _,by simp⟩
 |cons e r ih =>
  have he:=hr e (by simp);have h1:=hg.ends e he;have h2:=hg.cost e he;have hfar:far=1099511627776:=rfl
  have hM':∀i j,ed1 min cst M e i j=far\/(-10000<=ed1 min cst M e i j/\ed1 min cst M e i j<=10000/\Wk l i j (ed1 min cst M e i j)):=fun i j=>by
   unfold ed1 set2 cst;split
   ·rename_i h
    obtain⟨rfl,rfl⟩:=h
    have hw:Wk l (e.1.toNat:Nat) (e.2.1.toNat:Nat) e.2.2:=by
     have:=Wk.step (l:=l) (fr:=e.1) (e:=e) Wk.here he rfl;rw[Int.zero_add] at this
     rwa [Int.toNat_of_nonneg h1.1,Int.toNat_of_nonneg h1.2.2.1]
    rcases Int.le_total (M e.1.toNat e.2.1.toNat) e.2.2 with hle|hle
    ·rw[Int.min_eq_left hle]
     exact hM _ _
    ·rw[Int.min_eq_right hle]
     exact .inr ⟨h2.1,h2.2,hw⟩
   ·exact hM i j
  have hle:∀i j,ed1 min cst M e i j<=M i j:=fun i j=>by
   unfold ed1 set2;split
   ·rename_i h
    obtain⟨rfl,rfl⟩:=h;omega
   ·exact Int.le_refl _
  obtain⟨a,b,c⟩:=ih (fun x hx=>hr x (by simp[hx])) (ed1 min cst M e) hM';refine⟨a,fun i j=>Int.le_trans (b i j) (hle i j),fun x hx=> ?_⟩;rcases List.mem_cons.1 hx with rfl|hx
  ·refine Int.le_trans (b _ _) ?_
   unfold ed1 set2 cst;rw[if_pos ⟨rfl,rfl⟩];omega
  ·exact c x hx
theorem ini_ok (l:List E) (i j:Nat):ini far (0:Int) i j=far\/(-10000<=ini far (0:Int) i j/\ini far (0:Int) i j<=10000/\Wk l i j (ini far (0:Int) i j)):=by
 unfold ini;split
 ·rename_i h;subst h;exact .inr ⟨by decide,by decide,Wk.here⟩
 ·exact .inl rfl
theorem start_rng {n:Nat} {l:List E} (hg:NetLaw.Good n l):Rng (eds min cst l (ini far 0)):=fun i j=>by
 have hfar:far=1099511627776:=rfl;rcases (eds_start hg l (fun _ h=>h) (ini far 0) (ini_ok l)).1 i j with h|h <;> omega
theorem start_fw {n:Nat} {l:List E} (hg:NetLaw.Good n l):FW n 0 l (eds min cst l (ini far 0)):=by
 have hfar:far=1099511627776:=rfl;have h:=(eds_start hg l (fun _ h=>h) (ini far 0) (ini_ok l)).1;refine⟨start_rng hg,fun i j _ _ hf=>⟨[],List.nodup_nil,by simp,by simp,?_,?_⟩,fun i j m _ _ hm=>by omega,fun i j _ _ hf=> ?_⟩
 all_goals
  rcases h i j with h|h
  ·omega
  ·first
   |(simp;omega)
   |exact h.2.2
structure Fl (n:Nat) (l:List E) (M:Mx Int):Prop where
 self:∀i,i<n->M i i=0
 small:∀i j,i<n->j<n->M i j<far-> -650000<=M i j/\M i j<=650000
 hi:∀i j,M i j<=far
 tri:∀i j m,i<n->j<n->m<n->M i m<far->M m j<far->M i j<=M i m+M m j
 wk:∀i j,i<n->j<n->M i j<far->Wk l i j (M i j)
 edge:∀e∈l,M e.1.toNat e.2.1.toNat<=e.2.2
theorem all_ok {n:Nat} {l:List E} (hg:NetLaw.Good n l) (hd:∀m,m<n->0<=all n l m m):Fl n l (all n l):=by
 have hn:n<=64:=by have:=hg.hi;omega
 have h:=FW.all (start_fw hg) hn hd n (Nat.le_refl _);obtain⟨_,s2,s3⟩:=eds_start hg l (fun _ h=>h) (ini far 0) (ini_ok l);refine⟨fun i hi=> ?_,fun i j hi hj hf=>h.small hn hi hj hf,fun i j=>(h.rng i j).2,fun i j m hi hj hm=>h.tri i j m hi hj hm,h.wk,fun e he=> ?_⟩
 ·have h1:=hd i hi
  have h2:=out_le (n:=n) (M:=eds min cst l (ini far 0)) (Nat.zero_le n) i i;have h3:=s2 i i;have h4:ini far (0:Int) i i=0:=by simp[ini]
  have h5:all n l i i<=eds min cst l (ini far 0) i i:=h2;omega
 ·have h2:=out_le (n:=n) (M:=eds min cst l (ini far 0)) (Nat.zero_le n) e.1.toNat e.2.1.toNat
  exact Int.le_trans h2 (s3 e he)
end FloydLaw
namespace Bell
open Go.RowKit NetLaw BellLaw Net Go.Proofs.YtjebckehmmbkbaaGreat.Std
def Into (D:List Int) (v co:Int) (e:E):Prop:=e.2.1=v/\dg D e.1<far/\dg D e.1+e.2.2=co
end Bell
end Go.Proofs.YtjebckehmmbkbaaGreat
