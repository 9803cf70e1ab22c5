/- The memory of yen.K: the heap of ways, the ways told, boxes of ways; and the plain next places. The walk of yen.K. yen.K as the laws call it; the small net; EqualFunc of ways. -/
import Derived.Test.YtjebckehmmbkbaaGreatVYenFn
import Derived.Test.YtjebckehmmbkbaaGreatVYenOnW
set_option linter.unusedSimpArgs false
set_option linter.unusedVariables false
set_option maxRecDepth 100000
set_option maxHeartbeats 24000000
namespace Go.Proofs.YtjebckehmmbkbaaGreat
namespace Yen
open Go.RowKit NetLaw BellLaw WalkLaw YenLaw YenOn Net Go.Proofs.YtjebckehmmbkbaaGreat.Std
open Heap (Kp Kp.refl Kp.below Kp.alloc Kp.drew Kp.setCell Kp.grown Kp.to fnOf)
open HeapW
def ob (A:Option Addr):Option Nat:=(Value.slice A 0 0).ownBlock
theorem ob_ (A:Option Addr) (n c:Nat):(Value.slice A n c).ownBlock=ob A:=by cases A <;> rfl
def ntL (i:Nat) (b:List Int) (O:List (List Int)):List Int:=(O.filter fun z=>decide (i<z.length) && decide (z.take i=b)).map fun z=>z.getD i 0
theorem ntL_succ (i:Nat) (b:List Int) (O:List (List Int)) (j:Nat) (h:j<O.length):ntL i b (O.take (j+1))=ntL i b (O.take j)++(if i<O[j].length/\O[j].take i=b then [O[j].getD i 0] else []):=by
 unfold ntL;rw[List.take_succ_eq_append_getElem h,List.filter_append,List.map_append,List.filter_cons,List.filter_nil]
 congr 1
 by_cases hc:i<O[j].length/\O[j].take i=b
 ·rw[if_pos hc,if_pos (by simp[hc.1,hc.2])]
  rfl
 ·rw[if_neg hc,if_neg (by simpa using fun a=>fun e=>hc ⟨a,e⟩)]
  rfl
theorem ntL_nots (i:Nat) (b:List Int) (hb:b.length=i) (O:List (List Int)):(fun x=>x∈ntL i b O)=nots O b:=by
 funext x
 refine propext ⟨fun h=> ?_,fun ⟨z,hz,r,e⟩=> ?_⟩
 ·unfold ntL at h
  rw[List.mem_map] at h;obtain⟨z,hz,rfl⟩:=h;rw[List.mem_filter,Bool.and_eq_true,decide_eq_true_eq,decide_eq_true_eq] at hz;obtain⟨h1,h2,h3⟩:=hz;refine⟨z,h1,z.drop (i+1),?_⟩;rw[List.getD_eq_getElem?_getD,List.getElem?_eq_getElem h2,Option.getD_some, <-List.drop_eq_getElem_cons h2, <-h3,List.take_append_drop]
 ·unfold ntL
  rw[List.mem_map];refine⟨z,List.mem_filter.2 ⟨hz,?_⟩,?_⟩
  ·rw[Bool.and_eq_true,decide_eq_true_eq,decide_eq_true_eq,e]
   exact⟨by simp[hb],by rw[<-hb,List.take_left'];rfl⟩
  ·rw[e,List.getD_eq_getElem?_getD,List.getElem?_append_right (by omega),hb,Nat.sub_self]
   rfl
theorem sl_take {α:Type} {w:World} {B sz:Nat} {cell:α->Nat->Value} {A:Option Addr} {l:List α} (h:Sl w B sz cell A l) (k:Nat):Sl w B sz cell A (l.take k):=by
 intro hl;rw[List.length_take] at hl;obtain⟨b,off,hA,hb,hc⟩:=h (by omega);refine⟨b,off,hA,hb,fun i hi j hj=> ?_⟩;have hi2:=hi;rw[List.length_take] at hi2;have:=hc i (by omega) j hj;rw[this,List.getElem_take]
theorem smp_take {n:Nat} {l:List E} {s t:Int} {q:List Int} (h:Smp n l s t q) {k:Nat} (hk:k<q.length):∃a:Nat,q.take (k+1)=q.take k++[(a:Int)]/\(q.take k).length=k/\(q.take k++[(a:Int)]).head?=some s/\(q.take k++[(a:Int)]).Nodup/\(∀v∈q.take k++[(a:Int)],0<=v/\v<n)/\okP l (prs (q.take k++[(a:Int)]))=true:=by
 have h0:=(h.rng q[k] (List.getElem_mem hk)).1;obtain⟨a,ha⟩:=Int.eq_ofNat_of_zero_le h0;have e:q.take (k+1)=q.take k++[(a:Int)]:=by rw[List.take_succ_eq_append_getElem hk,ha]
 refine⟨a,e,by rw[List.length_take];omega,?_,?_,fun v hv=> ?_,?_⟩
 ·rw[<-e]
  have:=h.head;cases q with
  |nil=>simp at this
  |cons x r=>simpa using this
 ·rw[<-e];exact h.nd.sublist (List.take_sublist _ _)
 ·rw[<-e] at hv;exact h.rng v (List.mem_of_mem_take hv)
 ·rw[<-e]
  have:=h.ok;unfold okP at this ⊢;rw[List.all_eq_true] at this ⊢;exact fun x hx=>this x (WayUse.prs_take q (k+1) x hx)
structure KM (w w':World) (n:Nat) (A:Option Addr) (c:Nat) (H:Nat) (l:List E) (Ah:Option Addr) (m ch:Nat) (L:List Pop) (Ao:Option Addr) (mo co:Nat) (O:List Pop):Prop where
 heap:HeapAt w' w.heap.size H (fnOf 50) Ah m ch L
 hp:HeapLaw.Hp d0 ltP L
 out:Own w' w.heap.size 36 2 cw (.slice Ao mo co) O
 olen:O.length=mo
 rdL:∀x∈L,Rd w' w.heap.size x
 rdO:∀x∈O,Rd w' w.heap.size x
 ctL:∀x∈L,x.2.1=wt l x.2.2
 ctO:∀x∈O,x.2.1=wt l x.2.2
 sep:∀g,ob Ah=some g->ob Ao≠some g
 lo:Below w.heap.size w w'
 bx:w'.heap[w.heap.size]?=some (.cells #[.int .i64 n,.slice A l.length c] 24 (0,0))
structure KB (w':World) (BW:Nat) (cs:Array Value) (Ah Ao:Option Addr):Prop where
 box:w'.heap[BW]?=some (.cells cs 36 (0,0))
 nh:ob Ah≠some BW
 no:ob Ao≠some BW
section
variable {w w' w'':World} {n c H:Nat} {A:Option Addr} {l:List E} {Ah:Option Addr} {m ch:Nat} {L:List Pop} {Ao:Option Addr} {mo co:Nat} {O:List Pop}
theorem KM.keep (h:KM w w' n A c H l Ah m ch L Ao mo co O) (hb:Below w'.heap.size w' w''):KM w w'' n A c H l Ah m ch L Ao mo co O :=
 ⟨h.heap.keep hb,h.hp,h.out.keep hb,h.olen,fun x hx=>(h.rdL x hx).keep hb,fun x hx=>(h.rdO x hx).keep hb,h.ctL,h.ctO,h.sep,h.lo.trans (hb.mono h.lo.size),blk_below h.bx hb (lt_of_block h.bx)⟩
theorem KM.row (h:KM w w' n A c H l Ah m ch L Ao mo co O):YenF.WRow w' Ao O:=⟨h.out.sl.2,fun x hx=>⟨_,h.rdO x hx⟩⟩
theorem KM.old (h:KM w w' n A c H l Ah m ch L Ao mo co O):(∀g,ob Ah=some g->g<w'.heap.size)/\∀g,ob Ao=some g->g<w'.heap.size :=
 ⟨fun g e=>(h.heap.own.base_ g (by rw[ob_];exact e)).2,fun g e=>(h.out.base_ g (by rw[ob_];exact e)).2⟩
theorem KM.kp {A':Option Addr} {m' c':Nat} {L':List Pop} (h:KM w w' n A c H l Ah m ch L Ao mo co O) (hk:Kp w' w'' H (Value.slice Ah m ch).ownBlock) (hh:HeapAt w'' w.heap.size H (fnOf 50) A' m' c' L') (hp:HeapLaw.Hp d0 ltP L') (hrd:∀x∈L',x∈L\/(Rd w'' w.heap.size x/\x.2.1=wt l x.2.2)) (hrow:∀S,ob A'=some S->ob Ah=some S\/w'.heap.size<=S):KM w w'' n A c H l A' m' c' L' Ao mo co O:=by
 have ho:Own w'' w.heap.size 36 2 cw (.slice Ao mo co) O:=by
  refine⟨h.out.1,?_⟩;rcases h.out.2 with h3|⟨g,cap,cur,e1,hg,hh',rest⟩
  ·exact .inl h3
  ·refine .inr ⟨g,cap,cur,e1,hg,?_,rest⟩
   refine(hk.block g (lt_of_block hh') (fun e=> ?_) (fun e=> ?_)).trans hh'
   ·subst e
    have:=h.heap.blk;rw[hh'] at this;injection this with this;injection this with _ ht _;exact absurd ht (by decide)
   ·rw[ob_] at e
    refine h.sep g e.symm ?_;rw[<-ob_ Ao mo co,e1]
    rfl
 refine⟨hh,hp,ho,h.olen,fun x hx=> ?_,fun x hx=>rd_kp h.heap hk (h.rdO x hx),fun x hx=> ?_,h.ctO,fun g e e'=> ?_,h.lo.trans (hk.to h.lo.size h.heap.hb h.heap.own.lo),?_⟩
 ·rcases hrd x hx with h1|h1
  ·exact rd_kp h.heap hk (h.rdL x h1)
  ·exact h1.1
 ·rcases hrd x hx with h1|h1
  ·exact h.ctL x h1
  ·exact h1.2
 ·rcases hrow g e with h1|h1
  ·exact h.sep g h1 e'
  ·have:=h.old.2 g e'
   omega
 ·refine(hk.block _ (lt_of_block h.bx) (fun e=> ?_) (fun e=>h.heap.own.ne_ h.bx (by decide) e.symm)).trans h.bx
  have h1:=h.heap.blk;rw[<-e,h.bx] at h1;injection h1 with h1;injection h1 with _ ht _;exact absurd ht (by decide)
theorem KM.told {A3:Option Addr} {c3:Nat} {x:Pop} (h:KM w w' n A c H l Ah m ch L Ao mo co O) (hg:w'.grownBy w'' (Value.slice Ao mo co).ownBlock) (ho:Own w'' w.heap.size 36 2 cw (.slice A3 (mo+1) c3) (O++[x])) (hat:(Value.slice A3 (mo+1) c3).ownBlock=(Value.slice Ao mo co).ownBlock\/(Value.slice A3 (mo+1) c3).ownBlock=some w'.heap.size) (hx:Rd w' w.heap.size x) (hc:x.2.1=wt l x.2.2):KM w w'' n A c H l Ah m ch L A3 (mo+1) c3 (O++[x]):=by
 have rd:∀y,Rd w' w.heap.size y->Rd w'' w.heap.size y:=fun y hy=>by
  refine⟨hy.1,?_⟩;rcases hy.2 with h3|⟨g,cap,cur,e1,hg',hh',rest⟩
  ·exact .inl h3
  ·exact .inr ⟨g,cap,cur,e1,hg',blk_grown hh' hg (fun e=>h.out.ne_ hh' (by decide) e),rest⟩
 have hrh:(Value.slice Ah m ch).ownBlock=none\/(Value.slice Ah m ch).ownBlock≠(Value.slice Ao mo co).ownBlock:=by
  rw[ob_,ob_];cases hA:ob Ah with
  |none=>exact .inl rfl
  |some g=>exact .inr (fun e=>h.sep g hA e.symm)
 refine⟨⟨h.heap.hb,blk_grown h.heap.blk hg (h.out.ne_ h.heap.blk (by decide)),h.heap.own.kept hg hrh,h.heap.len⟩,h.hp,ho,by simp[h.olen],fun y hy=>rd y (h.rdL y hy),fun y hy=> ?_,h.ctL,fun y hy=> ?_,fun g e e'=> ?_,h.lo.grown hg h.lo.size (fun k hk=>h.out.lo k hk),blk_grown h.bx hg (h.out.ne_ h.bx (by decide))⟩
 ·rcases List.mem_append.1 hy with h1|h1
  ·exact rd y (h.rdO y h1)
  ·rw[List.mem_singleton] at h1;subst h1;exact rd _ hx
 ·rcases List.mem_append.1 hy with h1|h1
  ·exact h.ctO y h1
  ·rw[List.mem_singleton] at h1;subst h1;exact hc
 ·rw[ob_,ob_] at hat
  rcases hat with h1|h1
  ·exact h.sep g e (h1 ▸ e')
  ·rw[h1] at e'
   injection e' with e';have:=h.old.1 g e;omega
variable {BW:Nat} {cs:Array Value}
theorem KB.keep (h:KB w' BW cs Ah Ao) (hb:Below w'.heap.size w' w''):KB w'' BW cs Ah Ao:=⟨blk_below h.box hb (lt_of_block h.box),h.nh,h.no⟩
theorem KB.new (h:KM w w' n A c H l Ah m ch L Ao mo co O) (cs:Array Value):KB (w'.alloc (.cells cs 36)) w'.heap.size cs Ah Ao :=
 ⟨heap_alloc_new _ _,fun e=>absurd (h.old.1 _ e) (Nat.lt_irrefl _),fun e=>absurd (h.old.2 _ e) (Nat.lt_irrefl _)⟩
theorem KB.kp {A':Option Addr} (h:KB w' BW cs Ah Ao) (hm:KM w w' n A c H l Ah m ch L Ao mo co O) (hk:Kp w' w'' H (Value.slice Ah m ch).ownBlock) (hrow:∀S,ob A'=some S->ob Ah=some S\/w'.heap.size<=S):KB w'' BW cs A' Ao:=by
 have hlt:=lt_of_block h.box;refine⟨(hk.block BW hlt (fun e=> ?_) (fun e=> ?_)).trans h.box,fun e=> ?_,h.no⟩
 ·have:=hm.heap.blk
  rw[<-e,h.box] at this;injection this with this;injection this with _ ht _;exact absurd ht (by decide)
 ·rw[ob_] at e;exact h.nh e.symm
 ·rcases hrow _ e with h1|h1
  ·exact h.nh h1
  ·omega
theorem KB.told {A3:Option Addr} {c3:Nat} (h:KB w' BW cs Ah Ao) (hg:w'.grownBy w'' (Value.slice Ao mo co).ownBlock) (hat:(Value.slice A3 (mo+1) c3).ownBlock=(Value.slice Ao mo co).ownBlock\/(Value.slice A3 (mo+1) c3).ownBlock=some w'.heap.size):KB w'' BW cs Ah A3:=by
 rw[ob_] at hg;rw[ob_,ob_] at hat;refine⟨blk_grown h.box hg h.no,h.nh,fun e=> ?_⟩;rcases hat with h1|h1
 ·exact h.no (h1 ▸ e)
 ·rw[h1] at e
  injection e with e;have:=lt_of_block h.box;omega
end
end Yen
namespace Yen
open Go.RowKit NetLaw BellLaw WalkLaw YenLaw YenOn Net Go.Proofs.YtjebckehmmbkbaaGreat.Std
open Heap (Kp Kp.refl Kp.below Kp.alloc Kp.drew Kp.setCell Kp.grown Kp.to fnOf)
open HeapW
theorem infoWayY:(Tryz.prog.info? 36).map (fun i=>(i.zero,i.size,i.bytes))=some (some (.agg #[.slice none 0 0,.int .i64 0]),2,32):=by kernel_rfl
def YenSays (n s t k:Nat) (l:List E) (w:World) (e:Ending) (w':World):Prop :=
 ∃Ao co O,Hid (Own w' w.heap.size 36 2 cw (.slice Ao O.length co) O/\(∀x∈O,Rd w' w.heap.size x/\x.2.1=wt l x.2.2)/\Top n l s t k (O.map (·.2.2)))/\Hid (Below w.heap.size w w') /\
  ((O=[]/\e= .returned (.tuple #[.slice none 0 0,.int .i64 5]))\/(O≠[]/\e= .returned (.tuple #[.slice Ao O.length co,.int .i64 0])))
theorem cd_one {n s t:Nat} {l:List E} {p:List Int}:Cd n l s t [(s:Int)] (· ∈([]:List Int)) p ↔ Smp n l s t p:=by
 refine⟨fun h=>h.1,fun h=>⟨h,?_⟩⟩;obtain⟨r,e⟩:=cons_of_head h.head;exact⟨r,by rw[e];rfl,fun x _ hx=>by cases hx⟩
theorem inv_start {n s t:Nat} {l:List E} {L:List (List Int)} (hs:∀p∈L,Smp n l s t p) (hl:∀p,Smp n l s t p->∃q∈L,leY l q p):Inv n l s t [] L (fun _=>False) :=
 ⟨by simp,hs,fun b hb ⟨x,z,hz,_⟩=>(by cases hz),fun _=>hl,List.Pairwise.nil,fun p _ _ q hq=>(by cases hq)⟩
theorem heap_mono {w:World} {b b' H n c:Nat} {fn:Value} {A:Option Addr} {L:List Pop} (h:HeapAt w b H fn A n c L) (hb:b'<=b):HeapAt w b' H fn A n c L:=⟨Nat.le_trans hb h.hb,h.blk,h.own.mono hb,h.len⟩
theorem k_yes (n s t k:Nat) (A:Option Addr) (c:Nat) (l:List E) (w:World) (hl:Sl w w.heap.size 3 ce A l) (hx:Dijk.look n l [(s:Int),(t:Int)]=0) (hk1:1<=k) (hk8:k<=8) :
 Calls Tryz.prog 18 #[.agg #[.int .i64 n,.slice A l.length c],.int .i64 s,.int .i64 t,.int .i64 k] w fun e w'=>YenSays n s t k l w e w':=by
 obtain⟨i0,hi,hz0,hz1,hz2⟩:=info_parts infoWayY;obtain⟨j0,hji,hy0,hy1,hy2⟩:=info_parts infoIntY;obtain⟨hg,hc1,⟨s0,s1⟩,t0,t1⟩:=DijkWay.looks_zero hx;have hn64:=hg.hi;have hlen:=hg.len;have hsn:s<n:=by omega
 have htn:t<n:=by omega
 have hcl:∀W,Below w.heap.size w W->Sl W W.heap.size 3 ce A l:=fun W hW=>(hl.keep hW zzL).more hW.size;have hw0:Below w.heap.size w (w.alloc (.cells #[.int .i64 n,.slice A l.length c] 24)):=(Below.refl _ _).alloc zzL _;have hw1:=hw0.alloc (by simp) (.cells #[.int .i64 s,.int .i64 t] 3);have hbx:=blk_alloc (heap_alloc_new w (.cells #[.int .i64 n,.slice A l.length c] 24)) (.cells #[.int .i64 s,.int .i64 t] 3);have klk:=Dijk.look_any n A c l (some ⟨w.heap.size+1,0,none⟩) 2 2 [(s:Int),(t:Int)] _ (hcl _ hw1) (sl_new' (by decide) (w.alloc (.cells #[.int .i64 n,.slice A l.length c] 24)) #[.int .i64 s,.int .i64 t] 3 [(s:Int),(t:Int)] (by simp) rfl) rfl (by omega) (by decide);rw[hx] at klk;have KLK:=hid klk;have HCL:=hid hcl;have HG:=hid hg;have HC1:=hid hc1;have HBX:=hid hbx;have q0:=blk_cell hbx 0;have q1:=blk_cell hbx 1;simp only[zzG,zzH,zzI] at q0 q1;have HW1:=hid hw1;clear klk hcl hg hc1 hbx hl hx hw0 hw1 s0 s1 t0 t1 q0 q1;go_enter Tryz.func18,Tryz.ntmps18
 go_wp2_with fail
 refine KLK.out.mono ?_;rintro e w1 ⟨rfl,hb1⟩;have hB1:=HW1.out.trans (hb1.mono HW1.out.size);have hbx1:=blk_below HBX.out hb1 (lt_of_block HBX.out);have HB1:=hid hB1;have HBX1:=hid hbx1;clear hB1 hbx1 hb1 HW1 HBX KLK;have hkk:¬(k:Int)<1:=by omega
 have hkk8:¬(k:Int) > 8:=by omega
 go_wp2_with fail
 refine(new_any 50 w1).mono ?_;rintro e w2 ⟨H,rfl,hh2,hb2⟩;clear hkk hkk8;have hB2:=HB1.out.trans (hb2.mono HB1.out.size);have hbx2:=blk_below HBX1.out hb2 (lt_of_block HBX1.out);have hkm:=(⟨heap_mono hh2 HB1.out.size,HeapLaw.Hp.nil,Own.nil_,rfl,by simp,by simp,by simp,by simp,fun g e=>(nomatch (show (none:Option Nat)=some g from e)),hB2,hbx2⟩:KM w w2 n A c H l none 0 0 [] none 0 0 []);have hz2':w.heap.size<w2.heap.size:=by have:=lt_of_block hbx2;omega
 have hkm3:=hkm.keep ((Below.refl _ _).alloc zzL (.cells #[.int .i64 s] 3));have kon:=onward_any n s t A c l (some ⟨w2.heap.size,0,none⟩) 0 1 [] s none 0 0 [] (w2.alloc (.cells #[.int .i64 s] 3)) (HCL.out _ hkm3.lo) (sl_new' (by decide) w2 #[.int .i64 s] 3 [(s:Int)] rfl rfl) rfl zzL Sl.nil rfl (by omega) HG.out HC1.out htn rfl (by simp) (fun v hv=>by simp at hv;omega) rfl;have q0:=blk_cell hbx2 0;have q1:=blk_cell hbx2 1;simp only[zzG,zzH,zzI] at q0 q1;have KON:=hid kon;have HKM:=hid hkm3;have hzz:w.heap.size<(w2.alloc (.cells #[.int .i64 s] 3)).heap.size:=by simp;omega
 clear kon hkm hkm3 hB2 hbx2 hb2 hh2 HB1 HBX1;go_upto_region 7 with fail
 go_cut [12,13] from 38 to 45 (fun s12 s13 wx=>∃(Z:Nat) (ok:Bool) (Ap:Option Addr) (kp cp:Nat) (wp:Int) (p:List Int),s12= .pointer (some ⟨Z,0,none⟩)/\s13= .bool ok/\Hid (KM w wx n A c H l none 0 0 [] none 0 0 [])/\Hid (wx.heap[Z]?=some (.cells #[.slice Ap kp cp,.int .i64 wp] 36 (0,0)))/\Hid (ok=true->Rd wx w.heap.size ((Ap,kp,cp),wp,p)/\wp=wt l p/\Cd n l s t [(s:Int)] (· ∈([]:List Int)) p/\∀q,Cd n l s t [(s:Int)] (· ∈([]:List Int)) q->leY l p q)/\Hid (ok=false->∀q,¬Cd n l s t [(s:Int)] (· ∈([]:List Int)) q))
 case first =>
  go_wp2_with fail
  refine KON.out.mono ?_;rintro e w4 ⟨hb4,hcase⟩;have hkm4:=HKM.out.keep hb4;rcases hcase with ⟨Ap,cp,p,rfl,ownp,HP⟩|⟨rfl,HP⟩
  ·have hkm5:=hkm4.keep ((Below.refl _ _).alloc zzL (.cells #[.slice Ap p.length cp,.int .i64 (wt l p)] 36))
   have hrd:Rd (w4.alloc (.cells #[.slice Ap p.length cp,.int .i64 (wt l p)] 36)) w.heap.size ((Ap,p.length,cp),wt l p,p):=Own.alloc (ownp.mono (by omega)) _;have hbx5:=heap_alloc_new w4 (.cells #[.slice Ap p.length cp,.int .i64 (wt l p)] 36);have HKM5:=hid hkm5;have HRD:=hid hrd;have HBX5:=hid hbx5;clear hkm5 hrd hbx5 hkm4 hb4 ownp KON HKM q0 q1 hzz;go_wp2
   go_meet
   exact⟨_,true,Ap,p.length,cp,wt l p,p,rfl,rfl,HKM5,HBX5,hid fun _=>⟨HRD.out,rfl,HP.out⟩,hid fun h=>(nomatch h)⟩
  ·have hkm5:=hkm4.keep ((Below.refl _ _).alloc zzL (.cells #[.slice none 0 0,.int .i64 0] 36))
   have hbx5:=heap_alloc_new w4 (.cells #[.slice none 0 0,.int .i64 0] 36);have HKM5:=hid hkm5;have HBX5:=hid hbx5;clear hkm5 hbx5 hkm4 hb4 KON HKM q0 q1 hzz;go_wp2
   go_meet
   exact⟨_,false,none,0,0,0,[],rfl,rfl,HKM5,HBX5,hid fun h=>(nomatch h),hid fun _=>HP.out⟩
 case rest =>
 obtain⟨Z,ok,Ap,kp,cp,wp,p,rfl,rfl,HKM5,HBX5,HYES,HNO⟩:=hcut;clear KON HKM q0 q1 hzz
 go_upto_if 46 with fail
 go_cut [] from 47 to 49 (fun wx=>∃(Ah:Option Addr) (m ch:Nat) (L:List Pop),m<=1/\Hid (KM w wx n A c H l Ah m ch L none 0 0 [])/\Hid (Inv n l s t [] (L.map (·.2.2)) (fun _=>False)))
 case first =>
  cases ok with
  |true =>
   obtain⟨hrd,hwp,hcd,hle⟩:=HYES.out (by first|rfl|trivial);have kps:=push_any ltP ltP_ord less_any w.heap.size H none 0 0 [] (Ap,kp,cp) wp p _ HKM5.out.heap HKM5.out.hp (by omega) HKM5.out.lo.size (fun z hz=>by rw[List.mem_singleton] at hz;subst hz;exact hrd);have KPS:=hid kps;have HRD:=hid hrd;have HCD:=hid (And.intro hcd hle);have HWP:=hid hwp;have z0:=blk_cell HBX5.out 0;have z1:=blk_cell HBX5.out 1;simp only[zzG,zzH,zzI] at z0 z1;clear kps hrd hcd hle hwp
   go_wp2_with fail
   refine KPS.out.mono ?_;rintro e w6 ⟨⟨v,rfl⟩,A6,c6,L6,hh6,hpm6,hhp6,hkp6,hrw6⟩
   have hkm6:=HKM5.out.kp hkp6 hh6 hhp6 (fun x hx=> .inr (by
    have:=hpm6.mem_iff.1 hx;rw[List.mem_singleton] at this;subst this;exact⟨rd_kp HKM5.out.heap hkp6 HRD.out,HWP.out⟩)) (fun S hS=>by rw[<-ob_ A6 (0+1) c6] at hS;rcases hrw6 S hS with h|h;exact .inl (by rw[<-ob_ none 0 0];exact h);exact .inr h)
   have hinv:Inv n l s t [] (L6.map (·.2.2)) (fun _=>False):=by
    refine inv_start (fun q hq=> ?_) (fun q hq=>⟨p,?_,?_⟩)
    ·obtain⟨x,hx,rfl⟩:=List.mem_map.1 hq
     have:=hpm6.mem_iff.1 hx;rw[List.mem_singleton] at this;subst this;exact HCD.out.1.1
    ·exact List.mem_map.2 ⟨((Ap,kp,cp),wp,p),hpm6.mem_iff.2 (by simp),rfl⟩
    ·exact HCD.out.2 q (cd_one.2 hq)
   have HKM6:=hid hkm6;have HINV:=hid hinv;clear hkm6 hinv hh6 hpm6 hhp6 hkp6 hrw6 z0 z1;go_wp2
   go_meet
   exact⟨A6,0+1,c6,L6,by omega,HKM6,HINV⟩
  |false =>
   have hinv:Inv n l s t [] (([]:List Pop).map (·.2.2)) (fun _=>False):=inv_start (by simp) (fun q hq=>absurd (cd_one.2 hq) (HNO.out (by first|rfl|trivial) q));have HINV:=hid hinv;clear hinv;go_wp2
   go_meet
   exact⟨none,0,0,[],by omega,HKM5,HINV⟩
 case rest =>
  obtain⟨Ah,m,ch,L,hm1,HKM1,HINV1⟩:=hcut;clear HKM5 HBX5 HYES HNO;go_wp2
  go_loopg [14] (65*k+1) (fun g s14 wy=>∃(Ah:Option Addr) (m ch:Nat) (L:List Pop) (Ao:Option Addr) (mo co:Nat) (O:List Pop),s14= .slice Ao mo co/\Hid (KM w wy n A c H l Ah m ch L Ao mo co O)/\Hid (Inv n l s t (O.map (·.2.2)) (L.map (·.2.2)) (fun _=>False))/\mo<=k/\65*(k - mo)+m<=g/\g<=65*k+1)
  case atStart=>exact⟨Ah,m,ch,L,none,0,0,[],rfl,HKM1,HINV1,Nat.zero_le _,by omega,Nat.le_refl _⟩
  case round =>
   clear HKM1 HINV1 hm1;obtain⟨Ah,m,ch,L,Ao,mo,co,O,rfl,HK,HI,hmo,hgh,hgb⟩:=hrel;rename World=>wo;have klen:=len_any wo HK.out.heap;have hLm:=HK.out.heap.len;have hOl:=HK.out.olen;have KLEN:=hid klen;have HLM:=hid hLm;have HOL:=hid hOl;clear klen hLm hOl
   have hfin:(m=0\/mo=k)->YenSays n s t k l w (.returned (if mo=0 then .tuple #[.slice none 0 0,.int .i64 5] else .tuple #[.slice Ao mo co,.int .i64 0])) wo:=fun hex=>by
    have htop:Top n l s t k (O.map (·.2.2)):=HI.out.top (by rw[List.length_map,HOL.out];exact hmo) (hex.elim (fun h=> .inr (by have:=List.eq_nil_of_length_eq_zero (HLM.out.trans h);rw[this];rfl)) (fun h=> .inl (by rw[List.length_map,HOL.out];exact h)));have ho:=HK.out.out;rw[<-HOL.out] at ho;refine⟨Ao,co,O,hid ⟨ho,fun x hx=>⟨HK.out.rdO x hx,HK.out.ctO x hx⟩,htop⟩,hid HK.out.lo,?_⟩
    by_cases h0:mo=0
    ·rw[if_pos h0]
     exact .inl ⟨List.eq_nil_of_length_eq_zero (HOL.out.trans h0),rfl⟩
    ·rw[if_neg h0]
     exact .inr ⟨fun e=>h0 (by rw[<-HOL.out,e];rfl),by rw[HOL.out]⟩
   have HFIN:=hid hfin;clear hfin
   by_cases hm0:m=0
   ·subst hm0
    have hpost:=HFIN.out (.inl rfl);clear HFIN hgh
    by_cases h0:mo=0
    ·subst h0
     rw[if_pos rfl] at hpost;have HPOST:=hid hpost;clear hpost
     go_wp2_with fail
     refine KLEN.out.mono ?_;rintro e w5 ⟨rfl,hw5⟩;subst hw5;go_wp2;go_ret2;exact HPOST.out
    ·rw[if_neg h0] at hpost
     have HPOST:=hid hpost;have h0':((mo:Int) == 0)=false:=beq_eq_false_iff_ne.2 (by omega);clear hpost h0
     go_wp2_with fail
     refine KLEN.out.mono ?_;rintro e w5 ⟨rfl,hw5⟩;subst hw5;go_wp2;go_ret2;exact HPOST.out
   ·obtain⟨m',rfl⟩:∃m',m=m'+1:=⟨m - 1,by omega⟩
    by_cases hmk:mo=k
    ·have hpost:=HFIN.out (.inr hmk)
     rw[if_neg (by omega)] at hpost;have HPOST:=hid hpost;have h0':((mo:Int) == 0)=false:=beq_eq_false_iff_ne.2 (by omega);have h1':¬(mo:Int)<(k:Int):=by omega
     have h2':((m'+1:Nat):Int) > 0:=by omega
     clear hpost hmk hgh HFIN hm0
     go_wp2_with fail
     refine KLEN.out.mono ?_;rintro e w5 ⟨rfl,hw5⟩;subst hw5;go_wp2;go_ret2;exact HPOST.out
    ·have kpop:=pop_any ltP ltP_ord less_any w.heap.size H Ah m' ch L wo HK.out.heap HK.out.hp (by omega) HK.out.lo.size HK.out.rdL
     have KPOP:=hid kpop;have h1':(mo:Int)<(k:Int):=by omega
     have h2':((m'+1:Nat):Int) > 0:=by omega
     have hm'b:m'<=600:=by omega
     clear kpop HFIN hm0
     go_wp2_with fail
     refine KLEN.out.mono ?_;rintro e w5 ⟨rfl,hw5⟩;subst hw5
     go_wp2_with fail
     refine KPOP.out.mono ?_;rintro e w6 ⟨p,pm,q,L2,rfl,hg2,hh2,hpm2,hhp2,hkp2⟩;clear h1' h2' KLEN KPOP;have hxL:=hpm2.mem_iff.1 (List.mem_cons_self (a:=((p,pm,q):Pop)) (l:=L2));have hrd6:=rd_kp HK.out.heap hkp2 (HK.out.rdL _ hxL);have hcq:pm=wt l q:=HK.out.ctL _ hxL;have hsq:Smp n l s t q:=HI.out.sl q (List.mem_map.2 ⟨_,hxL,rfl⟩);have hkm6:=HK.out.kp hkp2 hh2 hhp2 (fun x hx=> .inl (hpm2.mem_iff.1 (List.mem_cons_of_mem _ hx))) (fun S hS=> .inl hS);have hpmap:(q::L2.map (·.2.2)).Perm (L.map (·.2.2)):=hpm2.map (fun x:Pop=>x.2.2)
     have hmin:∀z∈L.map (·.2.2),leY l q z:=fun z hz=>by
      obtain⟨y,hy,rfl⟩:=List.mem_map.1 hz;have h1:=HK.out.hp.top_mem ltP_ord y hy;rw[hg2] at h1;have h2:=HK.out.ctL y hy;unfold ltP at h1;simp only at h1;rw[h2,hcq] at h1;rcases ltY_not h1 with h3|h3
      ·injection h3 with _ h3;exact .inl h3.symm
      ·exact .inr h3
     obtain⟨Aq,kq,cq⟩:=p;have hkq:q.length=kq:=(Own.sl hrd6).1.symm
     have hkc:kq<=cq:=by
      have hown:Own w6 w.heap.size 3 1 ci (.slice Aq kq cq) q:=hrd6;obtain⟨A',c',he,hc,_⟩:=hown.form;injection he with _ e1 e2;omega
     have hk64:kq<=64:=by have:=hsq.len;omega
     have hkm7:=hkm6.keep ((Below.refl _ _).alloc zzL (.cells #[.slice Aq kq cq,.int .i64 pm] 36));have hkb7:=KB.new hkm6 #[.slice Aq kq cq,.int .i64 pm];have hrd7:=hrd6.keep ((Below.refl _ _).alloc zzL (.cells #[.slice Aq kq cq,.int .i64 pm] 36));have hsk:=HI.out.skip hpmap;have htk:=HI.out.take hpmap hmin;have HSK:=hid hsk;have HTK:=hid htk;have HSQ:=hid hsq;have HCQ:=hid hcq;have HKQ:=hid hkq;clear hxL hrd6 hcq hsq hkm6 hpmap hmin hkq hsk htk hg2 hh2 hpm2 hhp2 hkp2 HK HI HLM;go_upto_region 13 with fail;generalize w6.alloc (.cells #[.slice Aq kq cq,.int .i64 pm] 36)=w7 at hkm7 hkb7 hrd7 ⊢;generalize w6.heap.size=BW at hkb7 ⊢;obtain⟨bq,hbq⟩:∃bq,decide (q∈O.map (·.2.2))=bq:=⟨_,rfl⟩;have kct:=YenF.contains_same BW kq cq Aq q pm Ao mo co O w7 hkm7.row HOL.out hkb7.box (Own.sl hrd7).2 HKQ.out (by omega) bq hbq;unfold YenF.fnS at kct;have KCT:=hid kct;have HKM7:=hid hkm7;have HKB7:=hid hkb7;have HRD7:=hid hrd7;have HBQ:=hid hbq;clear kct hkm7 hkb7 hrd7 hbq
     go_wp2_with fail
     refine KCT.out.mono ?_;rintro e w8 ⟨rfl,hb8⟩;have hkm8:=HKM7.out.keep hb8;have hkb8:=HKB7.out.keep hb8;have hrd8:=HRD7.out.keep hb8;clear hb8 KCT HKM7 HKB7 HRD7;cases bq with
     |true =>
      have hinv:=HSK.out (of_decide_eq_true HBQ.out);have HKM8:=hid hkm8;have HINV:=hid hinv;clear hinv hkm8 hkb8 hrd8 HTK;go_wp2
      go_roundg (65*(k - mo)+m')
      case measure=>omega
      case rel=>exact⟨Ah,m',ch,L2,Ao,mo,co,O,rfl,HKM8,HINV,hmo,Nat.le_refl _,by omega⟩
     |false =>
      have hinv:=HTK.out (of_decide_eq_false HBQ.out);have z0:=blk_cell hkb8.box 0;have z1:=blk_cell hkb8.box 1;simp only[zzG,zzH,zzI] at z0 z1;have hkm9:=hkm8.keep ((Below.refl _ _).alloc zzL (.cells #[.slice Aq kq cq,.int .i64 pm] 36));have hkb9:=hkb8.keep ((Below.refl _ _).alloc zzL (.cells #[.slice Aq kq cq,.int .i64 pm] 36));have hrd9:=hrd8.keep ((Below.refl _ _).alloc zzL (.cells #[.slice Aq kq cq,.int .i64 pm] 36));have HKM9:=hid hkm9;have HKB9:=hid hkb9;have HRD9:=hid hrd9;have HINV:=hid hinv;have hsz:=hkm9.lo.size;clear hkm9 hkb9 hrd9 hkm8 hkb8 hrd8 hinv HSK HTK HBQ;go_upto_region 14 with fail
      go_wp2_with (at_builtin;refine wpList_push _ rfl (.tmp 64) (.tmp 66) _ rfl w.heap.size 36 i0 _ 2 32 cw Tryz.underlying57 hi hz0 hz1 hz2 rfl (by decide) _ O mo HOL.out rfl HKM9.out.out w8.heap.size 1 ((Aq,kq,cq),pm,q) rfl (newsW (x:=(Aq,kq,cq)) (y:=pm) (p:=q) rfl) (fun _ _=>one_cw _ _) (by omega) (by omega) hsz ?_;intro A3 c3 w9 hown3 hg3 hat3;have hkm10:=HKM9.out.told hg3 hown3 hat3 HRD9.out HCQ.out;have hkb10:=HKB9.out.told hg3 hat3;have hrd10:Rd w9 w.heap.size ((Aq,kq,cq),pm,q):=hkm10.rdO _ (by simp);have y0:=blk_cell hkb10.box 0;simp only[zzG,zzH,zzI] at y0)
      obtain⟨O3,hO3⟩:∃O3,O++[(((Aq,kq,cq),pm,q):Pop)]=O3:=⟨_,rfl⟩;have hmap3:O3.map (·.2.2)=O.map (·.2.2)++[q]:=by rw[<-hO3,List.map_append];rfl
      have hinv10:=HINV.out;rw[<-hmap3] at hinv10;rw[hO3] at hkm10;have HKM10:=hid hkm10;have HKB10:=hid hkb10;have HRD10:=hid hrd10;have HINV10:=hid hinv10;have hol3:O3.length=mo+1:=hkm10.olen;have HOL3:=hid hol3;have hq1:1<=kq:=by have:=HSQ.out.len;have:=HKQ.out;omega
      clear hO3 hmap3 hinv10 hkm10 hkb10 hrd10 hol3 hown3 hg3 hat3 HINV HKM9 HKB9 HRD9 HOL z0 z1 hsz y0;go_wp2
      go_loopw [16] (fun i16 wy=>∃(i:Nat) (Ah:Option Addr) (m2 ch:Nat) (L3:List Pop),1<=i/\i<=kq/\i16= .int .i64 i/\Hid (KM w wy n A c H l Ah m2 ch L3 A3 (mo+1) c3 O3)/\Hid (KB wy BW #[.slice Aq kq cq,.int .i64 pm] Ah A3)/\Hid (Inv n l s t (O3.map (·.2.2)) (L3.map (·.2.2)) (bad q i))/\Hid (Rd wy w.heap.size ((Aq,kq,cq),pm,q))/\m2+1<=m'+i) (fun i16 _=>kq - (intOf i16).toNat)
      case atStart=>exact⟨1,Ah,m',ch,L2,Nat.le_refl _,hq1,rfl,HKM10,HKB10,HINV10,HRD10,by omega⟩
      case round =>
       clear HKM10 HKB10 HRD10 HINV10;obtain⟨i,Ah2,m2,ch2,L3,hi1,hik,rfl,HK2,HB2,HI2,HR2,hm2⟩:=hrel;rename World=>wp2;have y0:=blk_cell HB2.out.box 0;simp only[zzG,zzH,zzI] at y0
       by_cases hlt:i<kq
       ·obtain⟨kb,rfl⟩:∃kb,i=kb+1:=⟨i - 1,by omega⟩
        have hcq0:((kb:Int)+1)<=(cq:Int):=by omega
        have hwr0:Own wp2 wp2.heap.size 3 1 ci (.slice none 0 0) ([]:List Int):=Own.nil_;have HNT0:=hid hwr0;obtain⟨qi,hqi⟩:∃qi,q.take (kb+1)=qi:=⟨_,rfl⟩;have hqil:qi.length=kb+1:=by rw[<-hqi,List.length_take,HKQ.out];omega
        have hslq:∀W,Below wp2.heap.size wp2 W->Sl W W.heap.size 1 ci Aq qi:=fun W hW=>by
         rw[<-hqi];exact sl_take (((Own.sl HR2.out).2.keep hW zzL).more hW.size) _
        have HQI:=hid hqi;have HQL:=hid hqil;have HSLQ:=hid hslq;clear hwr0 hqi hqil hslq;go_wp2;clear y0
        go_loopw [81,18] (fun jj ss wy=>∃(j:Nat) (An:Option Addr) (kn cn:Nat) (nt:List Int),j<=mo+1/\jj= .int .i64 j/\ss= .slice An kn cn/\Hid (Own wy wp2.heap.size 3 1 ci (.slice An kn cn) nt)/\Hid (nt=ntL (kb+1) qi ((O3.map (·.2.2)).take j))/\Hid (nt.length=kn)/\kn<=j/\Hid (Below wp2.heap.size wp2 wy)) (fun jj _ _=>mo+1 - (intOf jj).toNat)
        case atStart=>exact⟨0,none,0,0,[],Nat.zero_le _,rfl,rfl,HNT0,hid rfl,hid rfl,Nat.le_refl _,hid (Below.refl _ _)⟩
        case round =>
         clear HNT0;obtain⟨j,An,kn,cn,nt,hj,rfl,rfl,HNT,HNE,HNL,hkn,HLW⟩:=hrel
         by_cases hjl:j<mo+1
         ·have hjo:j<O3.length:=by rw[HOL3.out];exact hjl
          obtain⟨b,off,x,xm,pz,rfl,hb,he,cx,cm,hp,hpl,hpc⟩:=(HK2.out.row.keep HLW.out).at_ hjo;have hrz:=HK2.out.rdO _ (List.getElem_mem hjo);rw[he] at hrz;obtain⟨Az,kz,cz⟩:=x;have hown:Own wp2 w.heap.size 3 1 ci (.slice Az kz cz) pz:=hrz
          have hzc:kz<=cz:=by
           obtain⟨A',c',he',hc,_⟩:=hown.form;injection he' with _ e1 e2;omega
          have hjm:j<(O3.map (·.2.2)).length:=by rw[List.length_map];exact hjo
          have hsu:=ntL_succ (kb+1) qi (O3.map (·.2.2)) j hjm;have hgz:(O3.map (·.2.2))[j]=pz:=by rw[List.getElem_map,he]
          rw[hgz] at hsu;have HSU:=hid hsu;have hbx:=heap_alloc_new wr (.cells #[.slice Az kz cz,.int .i64 xm] 36);have hlx:=HLW.out.alloc HLW.out.size (.cells #[.slice Az kz cz,.int .i64 xm] 36);have hnx:=HNT.out.alloc (.cells #[.slice Az kz cz,.int .i64 xm] 36);have hownx:=hown.keep hlx;simp only at cx hpl hpc;clear hrz hown hjm hsu hgz he hp;go_upto_region 23 with fail;generalize wr.alloc (.cells #[.slice Az kz cz,.int .i64 xm] 36)=wx at hbx hlx hnx hownx ⊢;generalize wr.heap.size=XE at hbx ⊢;have x0:=blk_cell hbx 0;simp only[zzG,zzH,zzI] at x0;have HLX:=hid hlx;have HNX:=hid hnx;have HOX:=hid hownx;have HBX2:=hid hbx;have HPL:=hid hpl;clear hbx hlx hnx hownx cx cm hpl HNT HLW
          by_cases hz:kb+1<kz
          ·have hzi:((kz:Int) > ((kb:Int)+1)):=by omega
           have hzc2:((kb:Int)+1)<=(cz:Int):=by omega
           obtain⟨eb,heb⟩:∃eb,decide (pz.take (kb+1)=qi)=eb:=⟨_,rfl⟩;have keq:=equal_int' Az Aq (kb+1) (kb+1) cz cq (pz.take (kb+1)) qi _ _ wx (sl_take HOX.out.sl.2 _) (HSLQ.out wx HLX.out) (by rw[List.length_take,HPL.out];omega) HQL.out (by omega) eb heb;have KEQ:=hid keq;have HEB:=hid heb;clear keq heb
           go_wp2_with fail
           refine KEQ.out.mono ?_;rintro e w11 ⟨rfl,kk,hkk⟩;subst hkk;have hlx:=below_drewN HLX.out kk;have hnx:=HNX.out.drewN kk;have hox:=HOX.out.drewN kk;have hbx:(wx.drewN kk).heap[XE]?=_:=HBX2.out;generalize wx.drewN kk=wk at hlx hnx hox hbx ⊢;have HLK:=hid hlx;have HNK:=hid hnx;clear hlx hnx KEQ x0;cases eb with
           |true =>
            obtain⟨bz,oz,hAz,hbz,hzz2⟩:=hox.sl.2.atI (k:=kb+1) (by rw[HPL.out];exact hz)
            have hst:ntL (kb+1) qi ((O3.map (·.2.2)).take (j+1))=nt++[pz[kb+1]'(by rw[HPL.out];exact hz)]:=by
             rw[HSU.out,if_pos ⟨by rw[HPL.out];exact hz,of_decide_eq_true HEB.out⟩, <-HNE.out,List.getD_eq_getElem?_getD,List.getElem?_eq_getElem (by rw[HPL.out];exact hz)]
             rfl
            generalize pz[kb+1]'(by rw[HPL.out];exact hz)=vz at hzz2 hst;have HST:=hid hst;have x0:=blk_cell hbx 0;simp only[zzG,zzH,zzI] at x0;subst hAz;have hz3:((kb:Int)+1)<(kz:Int):=by omega
            have hkn2:kn<=100:=by omega
            have hsz:=HLK.out.size;clear hst hbx hox hbz hz hzi hzc2
            go_wp2_with (at_builtin;refine wpList_push _ rfl (.tmp 98) (.tmp 104) _ rfl wp2.heap.size 3 j0 _ 1 8 ci Tryz.underlying25 hji hy0 hy1 hy2 rfl (by decide) _ nt kn HNL.out rfl (HNK.out.alloc _) wk.heap.size 1 vz rfl (news1' rfl) (fun _ _=>one_ci _ _) (by omega) (by omega) (by simp;omega) ?_;intro A8 c8 w13 hown8 hg8 hat8)
            have hl8:Below wp2.heap.size wp2 w13:=(HLK.out.alloc HLK.out.size _).grown hg8 (by have:=HLK.out.size;simp;omega) (fun kx hkx=>HNK.out.lo kx hkx);have HL8:=hid hl8;have HO8:=hid hown8;clear hl8 hown8 hg8 hat8 x0;go_wp2
            go_roundw
            case rel=>exact⟨j+1,A8,kn+1,c8,nt++[vz],by omega,by go_num,rfl,HO8,hid HST.out.symm,hid (by rw[List.length_append,HNL.out];rfl),by omega,HL8⟩
            case measure=>simp[intOf];omega
           |false =>
            have hst:nt=ntL (kb+1) qi ((O3.map (·.2.2)).take (j+1)):=by
             rw[HSU.out,if_neg (fun h=>of_decide_eq_false HEB.out h.2),List.append_nil];exact HNE.out
            have HST:=hid hst;clear hst hbx hox;go_wp2
            go_roundw
            case rel=>exact⟨j+1,An,kn,cn,nt,by omega,by go_num,rfl,HNK,HST,HNL,by omega,HLK⟩
            case measure=>simp[intOf];omega
          ·have hzi:¬((kz:Int) > ((kb:Int)+1)):=by omega
           have hst:nt=ntL (kb+1) qi ((O3.map (·.2.2)).take (j+1)):=by
            rw[HSU.out,if_neg (fun h=>hz (by rw[<-HPL.out];exact h.1)),List.append_nil];exact HNE.out
           have HST:=hid hst;clear hst;go_wp2
           go_roundw
           case rel=>exact⟨j+1,An,kn,cn,nt,by omega,by go_num,rfl,HNX,HST,HNL,by omega,HLX⟩
           case measure=>simp[intOf];omega
         ·obtain rfl:mo+1=j:=by omega
          have hne:=HNE.out;rw[List.take_of_length_le (by rw[List.length_map,HOL3.out];exact Nat.le_refl _)] at hne;have hnts:(fun x=>x∈nt)=nots (O3.map (·.2.2)) qi:=by rw[hne];exact ntL_nots (kb+1) qi HQL.out (O3.map (·.2.2))
          obtain⟨a,ea,el,ehd,end_,erg,eok⟩:=smp_take HSQ.out (k:=kb) (by rw[HKQ.out];omega);have hqa:qi=q.take kb++[(a:Int)]:=by rw[<-HQI.out];exact ea
          have hB3:Below w.heap.size w wr:=HK2.out.lo.trans (HLW.out.mono HK2.out.lo.size);have kon:=onward_any n s t A c l Aq kb cq (q.take kb) a An kn cn nt wr (HCL.out wr hB3) (by rw[<-hqa];exact HSLQ.out wr HLW.out) el (by omega) HNT.out.sl.2 HNL.out (by omega) HG.out HC1.out htn ehd end_ erg eok;rw[<-hqa] at kon;have hbx4:=blk_below HK2.out.bx HLW.out (lt_of_block HK2.out.bx);have q0:=blk_cell hbx4 0;have q1:=blk_cell hbx4 1;simp only[zzG,zzH,zzI] at q0 q1;have KON:=hid kon;have HNTS:=hid hnts;have hsm:∀z∈L3.map (·.2.2),Smp n l s t z:=HI2.out.sl;have HSM:=hid hsm;clear hne hnts ea el ehd end_ erg eok hqa hB3 kon hbx4 HNT HNE hsm
          go_wp2_with fail
          refine KON.out.mono ?_;rintro e w14 ⟨hb14,hcase⟩;have hl14:=HLW.out.trans (hb14.mono HLW.out.size);have hkm14:=HK2.out.keep hl14;have hkb14:=HB2.out.keep hl14;have hrd14:=HR2.out.keep hl14;have hz14:w.heap.size<=wr.heap.size:=Nat.le_trans HK2.out.lo.size HLW.out.size;rcases hcase with ⟨Ap2,cp2,p2,rfl,ownp2,HP⟩|⟨rfl,HP⟩
          ·have hbelow:Below w14.heap.size w14 (w14.alloc (.cells #[.slice Ap2 p2.length cp2,.int .i64 (wt l p2)] 36)):=(Below.refl _ _).alloc zzL _
           have hkm15:=hkm14.keep hbelow;have hkb15:=hkb14.keep hbelow;have hrd15:=hrd14.keep hbelow;have hrn:Rd (w14.alloc (.cells #[.slice Ap2 p2.length cp2,.int .i64 (wt l p2)] 36)) w.heap.size ((Ap2,p2.length,cp2),wt l p2,p2):=Own.alloc (ownp2.mono hz14) _;have hbx5:=heap_alloc_new w14 (.cells #[.slice Ap2 p2.length cp2,.int .i64 (wt l p2)] 36);obtain⟨wv,hwv⟩:∃wv,wt l p2=wv:=⟨_,rfl⟩;obtain⟨kv,hkv⟩:∃kv,p2.length=kv:=⟨_,rfl⟩;rw[hwv,hkv] at hkm15 hkb15 hrd15 hrn hbx5;rw[hwv,hkv];have HWV:=hid hwv;clear hbelow hwv hkv hb14 hl14 hkm14 hkb14 hrd14 ownp2 q0 q1 KON HK2 HB2 HR2 HLW;go_upto_region 28 with fail;generalize w14.alloc (.cells #[.slice Ap2 kv cp2,.int .i64 wv] 36)=w15 at hkm15 hkb15 hrd15 hrn hbx5 ⊢;generalize w14.heap.size=Z2 at hbx5 ⊢
           have kps:=push_any ltP ltP_ord less_any w.heap.size H Ah2 m2 ch2 L3 (Ap2,kv,cp2) wv p2 w15 hkm15.heap hkm15.hp (by omega) hkm15.lo.size (fun z hz=>by
            rcases List.mem_cons.1 hz with rfl|hz
            ·exact hrn
            ·exact hkm15.rdL z hz)
           have z0:=blk_cell hbx5 0;have z1:=blk_cell hbx5 1;simp only[zzG,zzH,zzI] at z0 z1;have KPS:=hid kps;have HKM15:=hid hkm15;have HKB15:=hid hkb15;have HRD15:=hid hrd15;have HRN:=hid hrn;clear kps hkm15 hkb15 hrd15 hrn hbx5
           go_wp2_with fail
           refine KPS.out.mono ?_;rintro e w16 ⟨⟨v,rfl⟩,A6,c6,L6,hh6,hpm6,hhp6,hkp6,hrw6⟩
           have hrow:∀S,ob A6=some S->ob Ah2=some S\/w15.heap.size<=S:=fun S hS=>by
            rw[<-ob_ A6 (m2+1) c6] at hS;rcases hrw6 S hS with h|h
            ·exact .inl (by rw[<-ob_ Ah2 m2 ch2];exact h)
            ·exact .inr h
           have hkm16:=HKM15.out.kp hkp6 hh6 hhp6 (fun x hx=>by
            rcases List.mem_cons.1 (hpm6.mem_iff.1 hx) with rfl|hx
            ·exact .inr ⟨rd_kp HKM15.out.heap hkp6 HRN.out,HWV.out.symm⟩
            ·exact .inl hx) hrow
           have hkb16:=HKB15.out.kp HKM15.out hkp6 hrow;have hrd16:=rd_kp HKM15.out.heap hkp6 HRD15.out
           have hin6:∀z,z∈L6.map (·.2.2) ↔ z=p2\/z∈L3.map (·.2.2):=fun z=>by
            rw[(hpm6.map (fun x:Pop=>x.2.2)).mem_iff,List.map_cons,List.mem_cons]
           have hinv16:Inv n l s t (O3.map (·.2.2)) (L6.map (·.2.2)) (bad q (kb+1+1)):=HI2.out.care (fun z hz=>(hin6 z).2 (.inr hz)) (fun z hz=>by
            rcases (hin6 z).1 hz with rfl|h
            ·exact HP.out.1.1
            ·exact HSM.out z h) (fun z hz=>by
            rw[HQI.out, <-HNTS.out] at hz ⊢;exact⟨p2,(hin6 p2).2 (.inl rfl),HP.out.1,HP.out.2 z hz⟩)
           have HKM16:=hid hkm16;have HKB16:=hid hkb16;have HRD16:=hid hrd16;have HINV16:=hid hinv16;clear hrow hkm16 hkb16 hrd16 hin6 hinv16 hh6 hpm6 hhp6 hkp6 hrw6 z0 z1 KPS HKM15 HKB15 HRD15 HRN;go_wp2
           go_roundw
           case rel=>exact⟨kb+1+1,A6,m2+1,c6,L6,by omega,by omega,by go_num,HKM16,HKB16,HINV16,HRD16,by omega⟩
           case measure=>simp[intOf];omega
          ·have hbelow:Below w14.heap.size w14 (w14.alloc (.cells #[.slice none 0 0,.int .i64 0] 36)):=(Below.refl _ _).alloc zzL _
           have hkm15:=hkm14.keep hbelow;have hkb15:=hkb14.keep hbelow;have hrd15:=hrd14.keep hbelow
           have hinv16:Inv n l s t (O3.map (·.2.2)) (L3.map (·.2.2)) (bad q (kb+1+1)):=HI2.out.care (fun z hz=>hz) HSM.out (fun z hz=>by
            rw[HQI.out, <-HNTS.out] at hz;exact absurd hz (HP.out z))
           have HKM16:=hid hkm15;have HKB16:=hid hkb15;have HRD16:=hid hrd15;have HINV16:=hid hinv16;clear hbelow hkm15 hkb15 hrd15 hinv16 hb14 hl14 hkm14 hkb14 hrd14 q0 q1 KON HK2 HB2 HR2 HLW;go_wp2
           go_roundw
           case rel=>exact⟨kb+1+1,Ah2,m2,ch2,L3,by omega,by omega,by go_num,HKM16,HKB16,HINV16,HRD16,by omega⟩
           case measure=>simp[intOf];omega
       ·obtain rfl:kq=i:=by omega
        have hcr:=HI2.out.cared (by rw[HKQ.out];exact Nat.le_refl _);have HCR:=hid hcr;clear hcr;go_wp2
        go_roundg (65*(k - (mo+1))+m2)
        case measure=>omega
        case rel=>exact⟨Ah2,m2,ch2,L3,A3,mo+1,c3,O3,rfl,HK2,HCR,by omega,Nat.le_refl _,by omega⟩
end Yen
namespace Yen
open Go.RowKit NetLaw BellLaw DijkLaw WalkLaw YenLaw YenOn Net Go.Proofs.YtjebckehmmbkbaaGreat.Std
open HeapW
theorem k_no (N a b k:Int) (A:Option Addr) (c:Nat) (l:List E) (w:World) (hl:Sl w w.heap.size 3 ce A l) (hlen:l.length<=9223372036854775807) (er:Int) (he:(Dijk.look N l [a,b]≠0/\er=Dijk.look N l [a,b])\/(Dijk.look N l [a,b]=0/\(k<1\/8<k)/\er=1)) :
 Calls Tryz.prog 18 #[.agg #[.int .i64 N,.slice A l.length c],.int .i64 a,.int .i64 b,.int .i64 k] w fun e w'=>e= .returned (.tuple #[.slice none 0 0,.int .i64 er])/\Below w.heap.size w w':=by
 have hcl:∀W,Below w.heap.size w W->Sl W W.heap.size 3 ce A l:=fun W hW=>(hl.keep hW zzL).more hW.size;have hw0:Below w.heap.size w (w.alloc (.cells #[.int .i64 N,.slice A l.length c] 24)):=(Below.refl _ _).alloc zzL _;have hw1:=hw0.alloc (by simp) (.cells #[.int .i64 a,.int .i64 b] 3);have hbx:=blk_alloc (heap_alloc_new w (.cells #[.int .i64 N,.slice A l.length c] 24)) (.cells #[.int .i64 a,.int .i64 b] 3);have klk:=Dijk.look_any N A c l (some ⟨w.heap.size+1,0,none⟩) 2 2 [a,b] _ (hcl _ hw1) (sl_new' (by decide) (w.alloc (.cells #[.int .i64 N,.slice A l.length c] 24)) #[.int .i64 a,.int .i64 b] 3 [a,b] (by simp) rfl) rfl hlen (by decide);have q0:=blk_cell hbx 0;have q1:=blk_cell hbx 1;simp only[zzG,zzH,zzI] at q0 q1;have HW1:=hid hw1;rcases he with ⟨h1,h2⟩|⟨h1,h2,rfl⟩
 ·rw[<-h2] at klk h1
  have hne:(er != 0)=true:=by rw[bne_iff_ne];exact h1
  have KLK:=hid klk;clear klk hcl hbx hl hw0 hw1 h1 h2;go_enter Tryz.func18,Tryz.ntmps18
  go_wp2_with fail
  refine KLK.out.mono ?_;rintro e w1 ⟨rfl,hb1⟩;have hB1:=HW1.out.trans (hb1.mono HW1.out.size);have HB1:=hid hB1;clear hB1 hb1 KLK q0 q1;go_wp2;go_ret2;exact⟨rfl,HB1.out⟩
 ·rw[h1] at klk
  have KLK:=hid klk;clear klk hcl hbx hl hw0 hw1 h1;rcases Int.lt_or_le k 1 with h3|h3
  ·clear h2
   go_enter Tryz.func18,Tryz.ntmps18
   go_wp2_with fail
   refine KLK.out.mono ?_;rintro e w1 ⟨rfl,hb1⟩;have hB1:=HW1.out.trans (hb1.mono HW1.out.size);have HB1:=hid hB1;clear hB1 hb1 KLK q0 q1;go_wp2;go_ret2;exact⟨rfl,HB1.out⟩
  ·have h4:k > 8:=by omega
   have h5:¬k<1:=by omega
   clear h2;go_enter Tryz.func18,Tryz.ntmps18
   go_wp2_with fail
   refine KLK.out.mono ?_;rintro e w1 ⟨rfl,hb1⟩;have hB1:=HW1.out.trans (hb1.mono HW1.out.size);have HB1:=hid hB1;clear hB1 hb1 KLK q0 q1;go_wp2;go_ret2;exact⟨rfl,HB1.out⟩
def KF (N a b k:Int) (l:List E) (O:List Pop) (er:Int):Prop :=
 (Dijk.look N l [a,b]≠0/\er=Dijk.look N l [a,b]/\O=[])\/(Dijk.look N l [a,b]=0/\(k<1\/8<k)/\er=1/\O=[]) \/
 (Dijk.look N l [a,b]=0/\1<=k/\k<=8/\∃n s t:Nat,N=n/\a=s/\b=t/\Top n l s t k.toNat (O.map (·.2.2))/\((O=[]/\er=5)\/(O≠[]/\er=0)))
theorem k_any (N a b k:Int) (A:Option Addr) (c:Nat) (l:List E) (w:World) (hl:Sl w w.heap.size 3 ce A l) (hlen:l.length<=9223372036854775807) :
 Calls Tryz.prog 18 #[.agg #[.int .i64 N,.slice A l.length c],.int .i64 a,.int .i64 b,.int .i64 k] w fun e w'=>∃Ao mo co O er,e= .returned (.tuple #[.slice Ao mo co,.int .i64 er])/\Hid (Below w.heap.size w w')/\Hid (O.length=mo)/\Hid (Own w' w.heap.size 36 2 cw (.slice Ao mo co) O)/\Hid (∀x∈O,Rd w' w.heap.size x/\x.2.1=wt l x.2.2)/\Hid (KF N a b k l O er):=by
 by_cases hx:Dijk.look N l [a,b]=0
 ·by_cases hk:1<=k/\k<=8
  ·obtain⟨hg,hc1,⟨s0,s1⟩,t0,t1⟩:=DijkWay.looks_zero hx
   have hlo:=hg.lo;obtain⟨n,rfl⟩:=Int.eq_ofNat_of_zero_le (show 0<=N by omega);obtain⟨s,rfl⟩:=Int.eq_ofNat_of_zero_le s0;obtain⟨t,rfl⟩:=Int.eq_ofNat_of_zero_le t0;obtain⟨k,rfl⟩:=Int.eq_ofNat_of_zero_le (show 0<=k by omega);refine(k_yes n s t k A c l w hl hx (by omega) (by omega)).mono ?_;rintro e w' ⟨Ao,co,O,h1,h2,h3⟩;rcases h3 with ⟨h3,he⟩|⟨h3,he⟩
   ·subst h3
    exact⟨none,0,0,[],5,he,h2,hid rfl,hid Own.nil_,hid (by simp),hid (.inr (.inr ⟨hx,hk.1,hk.2,n,s,t,rfl,rfl,rfl,by rw[Int.toNat_natCast];exact h1.out.2.2,.inl ⟨rfl,rfl⟩⟩))⟩
   ·exact⟨Ao,O.length,co,O,0,he,h2,hid rfl,hid h1.out.1,hid h1.out.2.1,hid (.inr (.inr ⟨hx,hk.1,hk.2,n,s,t,rfl,rfl,rfl,by rw[Int.toNat_natCast];exact h1.out.2.2,.inr ⟨h3,rfl⟩⟩))⟩
  ·refine(k_no N a b k A c l w hl hlen 1 (.inr ⟨hx,by omega,rfl⟩)).mono ?_
   rintro e w' ⟨he,hb⟩;exact⟨none,0,0,[],1,he,hid hb,hid rfl,hid Own.nil_,hid (by simp),hid (.inr (.inl ⟨hx,by omega,rfl,rfl⟩))⟩
 ·refine(k_no N a b k A c l w hl hlen _ (.inl ⟨hx,rfl⟩)).mono ?_
  rintro e w' ⟨he,hb⟩;exact⟨none,0,0,[],_,he,hid hb,hid rfl,hid Own.nil_,hid (by simp),hid (.inl ⟨hx,rfl,rfl⟩)⟩
end Yen
end Go.Proofs.YtjebckehmmbkbaaGreat
