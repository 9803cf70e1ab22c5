/- How a search's heap and its list of late places stand to its state. No walk. What an append to the late ones, or to the rounds, leaves of a search. The walk of (*ara.Search).reach. The walks of Heap[star.Place].Top and of (*ara.Search).fresh. All blocks of a search: it stays what it is where these stay. -/
import Derived.Test.YtjebckehmmbkbaaGreatVAraSet
set_option linter.unusedSimpArgs false
set_option linter.unusedVariables false
set_option maxRecDepth 100000
set_option maxHeartbeats 24000000
namespace Go.Proofs.YtjebckehmmbkbaaGreat
namespace Ara
open Go.RowKit NetLaw BellLaw StarLaw AraLaw Net Go.Proofs.YtjebckehmmbkbaaGreat.Std Flow
open HeapP (HeapAt d0 ltP ltP_ord)
structure HR (F:Fix) (Y:Var) (s:AS) (w:Int × Int) (K:Nat):Prop where
 mem:∀v,AraLaw.Op F.n s v->kyA w F.h s v∈Y.L
 ids:∀x∈Y.L,(0<=x.2.2/\x.2.2<F.n)/\x.2.1=dg F.h x.2.2/\(db s.dn x.2.2=false->s.op x.2.2=true)
 od:∀v,AraLaw.Op F.n s v->db s.dn v=false
 late:∀v:Int,0<=v->v<F.n->(s.lt v=true ↔ v∈Y.LT)
 lr:∀v∈Y.LT,0<=v/\v<F.n
 bm:Y.m<=K
 bl:Y.kl<=K
def CB (F:Fix) (s:AS):Prop:=∀v:Int,0<=v->v<F.n->0<=dg s.C v/\dg s.C v<=far
def Var.late' (Y:Var) (A:Option Addr) (k c:Nat) (LT:List Int):Var:={ Y with AL:=A,kl:=k,cl:=c,LT:=LT }
section
variable {F:Fix} {Y:Var} {s:AS} {w:Int × Int} {K:Nat}
theorem HR.more {K':Nat} (h:HR F Y s w K) (hK:K<=K'):HR F Y s w K':=⟨h.mem,h.ids,h.od,h.late,h.lr,Nat.le_trans h.bm hK,Nat.le_trans h.bl hK⟩
theorem up_eq {f:Int->Bool} {v:Int} {x:Bool}:up f v x v=x:=by simp[up]
theorem up_ne {f:Int->Bool} {u v:Int} {x:Bool} (h:u≠v):up f v x u=f u:=by simp[up,h]
theorem CB.set (h:CB F s) (hl:s.C.length=F.n) {v:Nat} (hv:v<F.n) {c:Int} (hc:0<=c/\c<=far) {P:List Int} {op lt:Int->Bool}:CB F { s with C:=s.C.set v c,P:=P,op:=op,lt:=lt }:=fun u u0 u1=>by
 show 0<=dg (s.C.set v c) u/\dg (s.C.set v c) u<=far
 have e:v=(v:Int).toNat:=by simp
 rw[e,dg_set (by omega) (by omega) u0];split
 ·exact hc
 ·exact h u u0 u1
theorem HR.put (h:HR F Y s w K) (hl:s.C.length=F.n) {v:Nat} (hv:v<F.n) {c:Int} (hd:db s.dn v=false) {A:Option Addr} {c':Nat} {L':List HeapP.Pop} (hp:L'.Perm ((w.2*c+w.1*dg F.h v,dg F.h v,(v:Int))::Y.L)) {P:List Int} :
 HR F (Y.heap' A (Y.m+1) c' L') { s with C:=s.C.set v c,P:=P,op:=up s.op v true } w (K+1):=by
 have e:v=(v:Int).toNat:=by simp
 have hdg:∀x:Int,0<=x->dg (s.C.set v c) x=if x=(v:Int) then c else dg s.C x:=fun x x0=>by
  have:=dg_set (D:=s.C) (t:=(v:Int)) (x:=c) (by omega) (by omega) x0;rw[Int.toNat_natCast] at this;exact this
 refine⟨fun x hx=> ?_,fun x hx=> ?_,fun x hx=> ?_,h.late,h.lr,by show Y.m+1<=K+1;have:=h.bm;omega,by show Y.kl<=K+1;have:=h.bl;omega⟩
 ·refine hp.mem_iff.2 ?_
  by_cases ex:x=(v:Int)
  ·subst ex
   refine List.mem_cons.2 (.inl ?_)
   show (w.2*dg (s.C.set v c) v+w.1*dg F.h v,dg F.h v,(v:Int))=_
   rw[hdg _ (by omega),if_pos rfl]
  ·refine List.mem_cons.2 (.inr ?_)
   have h1:s.op x=true:=by have:=hx.2;simp only[up_ne ex] at this;exact this
   have h2:=h.mem x ⟨hx.1,h1⟩
   have e2:kyA w F.h { s with C:=s.C.set v c,P:=P,op:=up s.op v true } x=kyA w F.h s x:=by
    unfold kyA;simp only;rw[hdg x hx.1.1,if_neg ex]
   rw[e2];exact h2
 ·rcases List.mem_cons.1 (hp.mem_iff.1 hx) with rfl|hx
  ·exact⟨⟨by simp,by simp only;omega⟩,rfl,fun _=>up_eq⟩
  ·obtain⟨h1,h2,h3⟩:=h.ids x hx
   refine⟨h1,h2,fun hd'=> ?_⟩
   by_cases ex:x.2.2=(v:Int)
   ·rw[ex];exact up_eq
   ·show up s.op v true x.2.2=true
    rw[up_ne ex];exact h3 hd'
 ·by_cases ex:x=(v:Int)
  ·rw[ex];exact hd
  ·have h1:s.op x=true:=by have:=hx.2;simp only[up_ne ex] at this;exact this
   exact h.od x ⟨hx.1,h1⟩
theorem HR.lates (h:HR F Y s w K) (hl:s.C.length=F.n) {v:Nat} (hv:v<F.n) {c:Int} (hd:db s.dn v=true) {A:Option Addr} {c':Nat} {P:List Int} :
 HR F (Y.late' A (Y.kl+1) c' (Y.LT++[(v:Int)])) { s with C:=s.C.set v c,P:=P,lt:=up s.lt v true } w (K+1):=by
 have hdg:∀x:Int,0<=x->dg (s.C.set v c) x=if x=(v:Int) then c else dg s.C x:=fun x x0=>by
  have:=dg_set (D:=s.C) (t:=(v:Int)) (x:=c) (by omega) (by omega) x0;rw[Int.toNat_natCast] at this;exact this
 refine⟨fun x hx=> ?_,h.ids,h.od,fun x x0 x1=> ?_,fun x hx=> ?_,by show Y.m<=K+1;have:=h.bm;omega,by show Y.kl+1<=K+1;have:=h.bl;omega⟩
 ·have hne:x≠(v:Int):=fun e=>by
   have:=h.od x hx;rw[e,hd] at this;cases this
  have h2:=h.mem x hx
  have e2:kyA w F.h { s with C:=s.C.set v c,P:=P,lt:=up s.lt v true } x=kyA w F.h s x:=by
   unfold kyA;simp only;rw[hdg x hx.1.1,if_neg hne]
  rw[e2];exact h2
 ·show up s.lt v true x=true ↔ x∈Y.LT++[(v:Int)]
  by_cases ex:x=(v:Int)
  ·rw[ex,up_eq];simp
  ·rw[up_ne ex,List.mem_append,h.late x x0 x1]
   simp[ex]
 ·rcases List.mem_append.1 hx with hx|hx
  ·exact h.lr x hx
  ·rw[List.mem_singleton] at hx
   omega
def Fresh (F:Fix) (s:AS) (w:Int × Int) (x:HeapP.Pop):Prop:=db s.dn x.2.2=false/\x.1=(kyA w F.h s x.2.2).1
theorem HR.next (h:HR F Y s w K) (hp:HeapLaw.Hp d0 ltP Y.L) (hlen:Y.L.length=Y.m) (hm:0<Y.m) (hf:Fresh F s w (Y.L.getD 0 d0)):NxA F.n w F.h s (Y.L.getD 0 d0).2.2/\Y.L.getD 0 d0=kyA w F.h s (Y.L.getD 0 d0).2.2:=by
 have hmem:Y.L.getD 0 d0∈Y.L:=by
  rw[List.getD_eq_getElem?_getD,List.getElem?_eq_getElem (by omega)];exact List.getElem_mem _
 obtain⟨h1,h2,h3⟩:=h.ids _ hmem
 have he:Y.L.getD 0 d0=kyA w F.h s (Y.L.getD 0 d0).2.2:=by
  refine Prod.ext hf.2 (Prod.ext h2 rfl)
 refine⟨⟨⟨h1,h3 hf.1⟩,fun u hu=> ?_⟩,he⟩;rw[<-he];exact hp.top_mem ltP_ord _ (h.mem u hu)
theorem HR.none (h:HR F Y s w K) (hlen:Y.L.length=Y.m) (hm:Y.m=0):∀v,¬AraLaw.Op F.n s v:=fun v hv=>by
 have h1:=h.mem v hv;have:Y.L=[]:=List.length_eq_zero_iff.1 (by omega);rw[this] at h1;cases h1
theorem HR.drop {m:Nat} (h:HR F Y s w K) (hm:Y.m=m+1) {x:HeapP.Pop} {L':List HeapP.Pop} (hp:(x::L').Perm Y.L) (hf:¬Fresh F s w x) {A:Option Addr} {c:Nat}:HR F (Y.heap' A m c L') s w K:=by
 refine⟨fun v hv=> ?_,fun y hy=>h.ids y (hp.mem_iff.1 (List.mem_cons_of_mem _ hy)),h.od,h.late,h.lr,by show m<=K;have:=h.bm;omega,h.bl⟩;have h1:=hp.mem_iff.2 (h.mem v hv);rcases List.mem_cons.1 h1 with e|h1
 ·exact absurd ⟨by rw[<-e];exact h.od v hv,by rw[<-e];rfl⟩ hf
 ·exact h1
theorem HR.take {m:Nat} (h:HR F Y s w K) (hl:s.dn.length=F.n) (hm:Y.m=m+1) {x:HeapP.Pop} {L':List HeapP.Pop} (hp:(x::L').Perm Y.L) {v:Int} (hv:0<=v/\v<F.n) (he:x.2.2=v) {A:Option Addr} {c:Nat}:HR F (Y.heap' A m c L') (AraLaw.mark v s) w K:=by
 have hdb:∀u:Int,0<=u->db (s.dn.set v.toNat true) u=if u=v then true else db s.dn u:=fun u u0=>db_set hv.1 (by omega) u0
 refine⟨fun u hu=> ?_,fun y hy=> ?_,fun u hu=> ?_,h.late,h.lr,by show m<=K;have:=h.bm;omega,h.bl⟩
 ·have hne:u≠v:=fun e=>by
   have h2:=hu.2;rw[e] at h2;simp only[AraLaw.mark,up_eq] at h2;cases h2
  have h2:s.op u=true:=by have:=hu.2;simp only[AraLaw.mark,up_ne hne] at this;exact this
  have h1:=hp.mem_iff.2 (h.mem u ⟨hu.1,h2⟩);rcases List.mem_cons.1 h1 with e|h1
  ·exact absurd (by rw[<-e] at he;exact he) hne
  ·exact h1
 ·obtain⟨h1,h2,h3⟩:=h.ids y (hp.mem_iff.1 (List.mem_cons_of_mem _ hy))
  refine⟨h1,h2,fun hd=> ?_⟩;have hd':db (s.dn.set v.toNat true) y.2.2=false:=hd;rw[hdb _ h1.1] at hd'
  by_cases e:y.2.2=v
  ·rw[if_pos e] at hd'
   cases hd'
  ·rw[if_neg e] at hd'
   show up s.op v false y.2.2=true
   rw[up_ne e];exact h3 hd'
 ·have hne:u≠v:=fun e=>by
   have h2:=hu.2;rw[e] at h2;simp only[AraLaw.mark,up_eq] at h2;cases h2
  have h2:s.op u=true:=by have:=hu.2;simp only[AraLaw.mark,up_ne hne] at this;exact this
  show db (s.dn.set v.toNat true) u=false
  rw[hdb _ hu.1.1,if_neg hne];exact h.od u ⟨hu.1,h2⟩
end
end Ara
namespace Ara
open Go.RowKit NetLaw BellLaw StarLaw AraLaw Net Go.Proofs.YtjebckehmmbkbaaGreat.Std Flow
open Heap (Kp Kp.refl Kp.below Kp.alloc Kp.drew Kp.setCell Kp.grown Kp.to fnOf)
open HeapP (HeapAt d0 ltP ltP_ord)
theorem own_apart {α β:Type} {w:World} {b b':Nat} {e e':TypeId} {sz sz':Nat} {cell:α->Nat->Value} {cell':β->Nat->Value} {v v':Value} {l:List α} {l':List β} (h:Own w b e sz cell v l) (h':Own w b' e' sz' cell' v' l') (hne:e≠e'):v.ownBlock=none\/v.ownBlock≠v'.ownBlock:=by
 rcases h'.2 with ⟨h1,_⟩|⟨g,cap,cur,hv,_,hh,_⟩
 ·have:v'.ownBlock=none:=by rw[h1];rfl
  rw[this];cases hx:v.ownBlock with
  |none=>exact .inl rfl
  |some g=>exact .inr (fun e=>by cases e)
 ·have:v'.ownBlock=some g:=by rw[hv];rfl
  rw[this];exact .inr (h.ne_ hh hne)
theorem apart_of {x:Option Nat} {r:Option Nat} (h:∀g,r=some g->x≠some g):x=none\/x≠r:=by
 cases x with
 |none=>exact .inl rfl
 |some g=>exact .inr (fun e=>h g e.symm rfl)
theorem heap_grown {w w':World} {base H n c:Nat} {fn:Value} {A:Option Addr} {L:List HeapP.Pop} {r:Option Nat} (h:HeapAt w base H fn A n c L) (hg:w.grownBy w' r) (h1:r≠some H) (h2:(Value.slice A n c).ownBlock=none\/(Value.slice A n c).ownBlock≠r):HeapAt w' base H fn A n c L :=
 ⟨h.hb,blk_grown h.blk hg h1,h.own.kept hg h2,h.len⟩
theorem tab_grown {w w':World} {b S m:Nat} {G:Nat->Option Addr × Nat} {Ls:Nat->List Int} {r:Option Nat} (h:Tab w b S m G Ls) (hg:w.grownBy w' r) (h1:r≠some S) (h2:∀v,v<m->ob (G v).1=none\/ob (G v).1≠r):Tab w' b S m G Ls:=by
 obtain⟨cs,hb,hs,hc⟩:=h.blk;exact⟨h.lo,⟨cs,blk_grown hb hg h1,hs,hc⟩,fun v hv=>(h.own v hv).kept hg (by rw[ob_];exact h2 v hv),h.sep⟩
section
variable {b:Nat} {w w':World} {P:Nat} {F:Fix} {Y:Var} {s:AS}
theorem obrow (A:Option Addr) (n c:Nat):(Value.slice A n c).ownBlock=ob A:=ob_ A n c
theorem AM.push (h:AM b w P F Y s) {A':Option Addr} {c':Nat} {x:Int} (hg:w.grownBy w' (Value.slice Y.AL Y.kl Y.cl).ownBlock) (ho:Own w' b 3 1 ci (.slice A' (Y.kl+1) c') (Y.LT++[x])) (hat:(Value.slice A' (Y.kl+1) c').ownBlock=(Value.slice Y.AL Y.kl Y.cl).ownBlock\/(Value.slice A' (Y.kl+1) c').ownBlock=some w.heap.size) :
 AM b (w'.setCell ⟨P,9,none⟩ (.slice A' (Y.kl+1) c')) P F (Y.late' A' (Y.kl+1) c' (Y.LT++[x])) s/\Fr P F Y (Y.late' A' (Y.kl+1) c' (Y.LT++[x])) w (w'.setCell ⟨P,9,none⟩ (.slice A' (Y.kl+1) c')):=by
 rw[obrow] at hg hat;rw[obrow] at hat;have hn:=h.neL;have hobz:∀{g:Nat} {t:TypeId} {cs:Array Value} {fr:Nat × Nat},w.heap[g]?=some (.cells cs t fr)->3≠t->ob Y.AL≠some g:=fun hh hne e=>h.late.ne_ hh hne ((ob_ ..).trans e);have hkt:∀{α:Type} {e:TypeId} {sz:Nat} {cell:α->Nat->Value} {v:Value} {l:List α},Own w b e sz cell v l->e≠3->Own w' b e sz cell v l:=fun hv hne=>hv.kept hg (by have:=own_apart hv h.late hne;rw[obrow Y.AL] at this;exact this);have hpz:=hobz h.z (by decide);have hz':=blk_grown h.z hg hpz;obtain⟨cs,hti,_⟩:=h.tab.blk
 have hS:∀g,ob A'=some g->ob Y.AL=some g\/g=w.heap.size:=fun g e=>by
  rcases hat with h1|h1
  ·exact .inl (h1 ▸ e)
  ·rw[e] at h1;injection h1 with h1;exact .inr h1
 have hfr:∀g,ob A'=some g->g≠P:=fun g e ep=>by
  subst ep;rcases hS g e with h1|h1
  ·exact hpz h1
  ·have:=lt_of_block h.z;omega
 have hne2:∀g,ob A'=some g->g≠F.SC/\g≠F.SP/\ob F.AH≠some g/\(∀v,v<F.n->ob (F.FO v).1≠some g)/\∀x∈Y.RS,ob x.A≠some g:=fun g e=>by
  rcases hS g e with h1|rfl
  ·exact hn g h1
  ·refine⟨fun e=> ?_,fun e=> ?_,fun e=> ?_,fun v hv e=> ?_,fun x hx e=> ?_⟩
   ·exact absurd (h.cost.base_ F.SC rfl).2 (by omega)
   ·exact absurd (h.pred.base_ F.SP rfl).2 (by omega)
   ·have:=(h.hh.base_ _ ((ob_ ..).trans e)).2;omega
   ·have:=((h.tab.own v hv).base_ _ ((ob_ ..).trans e)).2;omega
   ·have:=((h.ways x hx).base_ _ ((ob_ ..).trans e)).2;omega
 have hti':=blk_grown hti hg (hobz hti (by decide))
 refine⟨⟨blk_set hz' 9 _,h.zl,(hkt h.net (by decide)).setCell ((hkt h.net (by decide)).ne_ hz' (by decide)) _,
  tab_far (p:=⟨P,9,none⟩) (tab_grown h.tab hg (hobz hti (by decide)) (fun v hv=>apart_of fun g e=>(hn g e).2.2.2.1 v hv)) (blk_ne hz' hti' (by decide)) (fun v hv e=>(h.tab.own v hv).ne_ h.z (by decide) ((ob_ ..).trans e)) _,
  (h.hh.kept hg (by rw[obrow];exact apart_of fun g e=>(hn g e).2.2.1)).setCell (h.hh.ne_ h.z (by decide)) _,(hkt h.wt (by decide)).setCell (h.wt.ne_ h.z (by decide)) _,
  (h.cost.kept hg (by exact apart_of fun g e ee=>(hn g e).1 (by injection ee with ee;exact ee.symm))).setCell (h.cost.ne_ h.z (by decide)) _,(h.pred.kept hg (by exact apart_of fun g e ee=>(hn g e).2.1 (by injection ee with ee;exact ee.symm))).setCell (h.pred.ne_ h.z (by decide)) _,
  (hkt h.done (by decide)).setCell (h.done.ne_ h.z (by decide)) _,ho.setCell (fun e=>hfr _ ((ob_ ..).symm.trans e) rfl) _,
  heap_far (heap_grown h.heap hg (hobz h.heap.blk (by decide)) (by have:=own_apart h.heap.own h.late (by decide);rw[obrow Y.AL] at this;exact this)) hz' (by decide) (by decide) _,h.hp,(hkt h.rows (by decide)).setCell (h.rows.ne_ h.z (by decide)) _,
  fun x hx=>((h.ways x hx).kept hg (by rw[obrow];exact apart_of fun g e=>(hn g e).2.2.2.2 x hx)).setCell ((h.ways x hx).ne_ h.z (by decide)) _,h.rds,h.lenC,h.lenP,h.lenD,h.lenH,by show (Y.LT++[_]).length=Y.kl+1;rw[List.length_append,h.lenL];rfl,h.lenR,h.neCP,h.neH,h.neO,hne2,h.neW⟩,?_⟩
 refine⟨hg.os,hg.tape,hg.output,Nat.le_trans hg.size (by simp[World.setCell]),fun g hlt hm=>(Below.heap_setCell _ _ _ _ (fun e=>hm (.inl e))).trans (hg.block g hlt (fun e=>hm (.inr (.inr (.inr (.inr (.inr (.inr (.inl e.symm))))))))),fun g hm=> ?_,fun x hx=> .inl hx⟩;rcases hm with hm|hm|hm|hm|hm|hm|hm|hm
 ·exact .inl (.inl hm)
 ·exact .inl (.inr (.inl hm))
 ·exact .inl (.inr (.inr (.inl hm)))
 ·exact .inl (.inr (.inr (.inr (.inl hm))))
 ·exact .inl (.inr (.inr (.inr (.inr (.inl hm)))))
 ·exact .inl (.inr (.inr (.inr (.inr (.inr (.inl hm))))))
 ·rcases hS g hm with e|e
  ·exact .inl (.inr (.inr (.inr (.inr (.inr (.inr (.inl e)))))))
  ·exact .inr (by omega)
 ·exact .inl (.inr (.inr (.inr (.inr (.inr (.inr (.inr hm)))))))
theorem AM.nolate (h:AM b w P F Y s):AM b (w.setCell ⟨P,9,none⟩ (.slice none 0 0)) P F (Y.late' none 0 0 []) s/\Fr P F Y (Y.late' none 0 0 []) w (w.setCell ⟨P,9,none⟩ (.slice none 0 0)):=by
 obtain⟨cs,hti,_⟩:=h.tab.blk;refine⟨⟨blk_set h.z 9 _,h.zl,h.net.setCell (h.net.ne_ h.z (by decide)) _,tab_far (p:=⟨P,9,none⟩) h.tab (blk_ne h.z hti (by decide)) (fun v hv e=>(h.tab.own v hv).ne_ h.z (by decide) ((ob_ ..).trans e)) _,h.hh.setCell (h.hh.ne_ h.z (by decide)) _,h.wt.setCell (h.wt.ne_ h.z (by decide)) _,h.cost.setCell (h.cost.ne_ h.z (by decide)) _,h.pred.setCell (h.pred.ne_ h.z (by decide)) _,h.done.setCell (h.done.ne_ h.z (by decide)) _,Own.nil_,heap_far h.heap h.z (by decide) (by decide) _,h.hp,h.rows.setCell (h.rows.ne_ h.z (by decide)) _,fun x hx=>(h.ways x hx).setCell ((h.ways x hx).ne_ h.z (by decide)) _,h.rds,h.lenC,h.lenP,h.lenD,h.lenH,rfl,h.lenR,h.neCP,h.neH,h.neO,(fun g e=>by cases e),h.neW⟩,?_⟩;refine⟨rfl,rfl,rfl,by simp[World.setCell],fun g hlt hm=>(Below.heap_setCell _ _ _ _ (fun e=>hm (.inl e))),fun g hm=> ?_,fun x hx=> .inl hx⟩;rcases hm with hm|hm|hm|hm|hm|hm|hm|hm
 ·exact .inl (.inl hm)
 ·exact .inl (.inr (.inl hm))
 ·exact .inl (.inr (.inr (.inl hm)))
 ·exact .inl (.inr (.inr (.inr (.inl hm))))
 ·exact .inl (.inr (.inr (.inr (.inr (.inl hm)))))
 ·exact .inl (.inr (.inr (.inr (.inr (.inr (.inl hm))))))
 ·cases hm
 ·exact .inl (.inr (.inr (.inr (.inr (.inr (.inr (.inr hm)))))))
def Var.rows' (Y:Var) (A:Option Addr) (k c:Nat) (RS:List RE):Var:={ Y with AR:=A,kr:=k,cr:=c,RS:=RS }
theorem AM.round (h:AM b w P F Y s) {A':Option Addr} {c':Nat} {x:RE} (hg:w.grownBy w' (Value.slice Y.AR Y.kr Y.cr).ownBlock) (ho:Own w' b 51 5 Ara.cr (.slice A' (Y.kr+1) c') (Y.RS++[x])) (hat:(Value.slice A' (Y.kr+1) c').ownBlock=(Value.slice Y.AR Y.kr Y.cr).ownBlock\/(Value.slice A' (Y.kr+1) c').ownBlock=some w.heap.size)
 (hx:Own w b 3 1 ci (.slice x.A x.k x.c) x.path) (hx1:ob x.A≠some F.SC/\ob x.A≠some F.SP) (hx2:∀g,ob Y.AL=some g->ob x.A≠some g) :
 AM b (w'.setCell ⟨P,12,none⟩ (.slice A' (Y.kr+1) c')) P F (Y.rows' A' (Y.kr+1) c' (Y.RS++[x])) { s with rds:=s.rds++[x.rnd] }:=by
 rw[obrow] at hg hat;rw[obrow] at hat;have hobz:∀{g:Nat} {t:TypeId} {cs:Array Value} {fr:Nat × Nat},w.heap[g]?=some (.cells cs t fr)->51≠t->ob Y.AR≠some g:=fun hh hne e=>h.rows.ne_ hh hne ((ob_ ..).trans e);have hkt:∀{α:Type} {e:TypeId} {sz:Nat} {cell:α->Nat->Value} {v:Value} {l:List α},Own w b e sz cell v l->e≠51->Own w' b e sz cell v l:=fun hv hne=>hv.kept hg (by have:=own_apart hv h.rows hne;rw[obrow Y.AR] at this;exact this);have hpz:=hobz h.z (by decide);have hz':=blk_grown h.z hg hpz;obtain⟨cs,hti,_⟩:=h.tab.blk
 have hS:∀g,ob A'=some g->ob Y.AR=some g\/g=w.heap.size:=fun g e=>by
  rcases hat with h1|h1
  ·exact .inl (h1 ▸ e)
  ·rw[e] at h1;injection h1 with h1;exact .inr h1
 have hfr:∀g,ob A'=some g->g≠P:=fun g e ep=>by
  subst ep;rcases hS g e with h1|h1
  ·exact hpz h1
  ·have:=lt_of_block h.z;omega
 have hti':=blk_grown hti hg (hobz hti (by decide))
 have hway:∀y∈Y.RS++[x],Own w b 3 1 ci (.slice y.A y.k y.c) y.path:=fun y hy=>by
  rcases List.mem_append.1 hy with hy|hy
  ·exact h.ways y hy
  ·rw[List.mem_singleton] at hy;subst hy;exact hx
 exact⟨blk_set hz' 12 _,h.zl,(hkt h.net (by decide)).setCell (h.net.ne_ h.z (by decide)) _,
  tab_far (p:=⟨P,12,none⟩) (tab_grown h.tab hg (hobz hti (by decide)) (fun v hv=>by have:=own_apart (h.tab.own v hv) h.rows (by decide);rw[obrow,obrow] at this;exact this)) (blk_ne hz' hti' (by decide)) (fun v hv e=>(h.tab.own v hv).ne_ h.z (by decide) ((ob_ ..).trans e)) _,
  (hkt h.hh (by decide)).setCell (h.hh.ne_ h.z (by decide)) _,(hkt h.wt (by decide)).setCell (h.wt.ne_ h.z (by decide)) _,
  (hkt h.cost (by decide)).setCell (h.cost.ne_ h.z (by decide)) _,(hkt h.pred (by decide)).setCell (h.pred.ne_ h.z (by decide)) _,
  (hkt h.done (by decide)).setCell (h.done.ne_ h.z (by decide)) _,(hkt h.late (by decide)).setCell (h.late.ne_ h.z (by decide)) _,
  heap_far (heap_grown h.heap hg (hobz h.heap.blk (by decide)) (by have:=own_apart h.heap.own h.rows (by decide);rw[obrow Y.AR] at this;exact this)) hz' (by decide) (by decide) _,h.hp,ho.setCell (fun e=>hfr _ ((ob_ ..).symm.trans e) rfl) _,
  fun y hy=>(hkt (hway y hy) (by decide)).setCell ((hway y hy).ne_ h.z (by decide)) _,by show (Y.RS++[x]).map RE.rnd=s.rds++[x.rnd];rw[List.map_append,h.rds];rfl,h.lenC,h.lenP,h.lenD,h.lenH,h.lenL,by show (Y.RS++[_]).length=Y.kr+1;rw[List.length_append,h.lenR];rfl,h.neCP,h.neH,h.neO,
  fun g hgl=>⟨(h.neL g hgl).1,(h.neL g hgl).2.1,(h.neL g hgl).2.2.1,(h.neL g hgl).2.2.2.1,fun y hy=>by
   rcases List.mem_append.1 hy with hy|hy
   ·exact(h.neL g hgl).2.2.2.2 y hy
   ·rw[List.mem_singleton] at hy;subst hy;exact hx2 g hgl⟩,fun y hy=>by
   rcases List.mem_append.1 hy with hy|hy
   ·exact h.neW y hy
   ·rw[List.mem_singleton] at hy;subst hy;exact hx1⟩
theorem Fr.round {A':Option Addr} {c':Nat} {x:RE} {w1:World} (hw:w.heap.size<=w1.heap.size) (hg:w1.grownBy w' (Value.slice Y.AR Y.kr Y.cr).ownBlock) (hb:Below w.heap.size w w1) (hat:(Value.slice A' (Y.kr+1) c').ownBlock=(Value.slice Y.AR Y.kr Y.cr).ownBlock\/(Value.slice A' (Y.kr+1) c').ownBlock=some w1.heap.size) (hx:∀g,ob x.A=some g->w.heap.size<=g) :
 Fr P F Y (Y.rows' A' (Y.kr+1) c' (Y.RS++[x])) w (w'.setCell ⟨P,12,none⟩ (.slice A' (Y.kr+1) c')):=by
 rw[obrow] at hg hat;rw[obrow] at hat;refine⟨hg.os.trans hb.os,hg.tape.trans hb.tape,hg.output.trans hb.output,Nat.le_trans (Nat.le_trans hw hg.size) (by simp[World.setCell]),fun g hlt hm=>(Below.heap_setCell _ _ _ _ (fun e=>hm (.inl e))).trans ((hg.block g (by omega) (fun e=>hm (.inr (.inr (.inr (.inr (.inr (.inr (.inr e.symm))))))))).trans (hb.block g hlt)),fun g hm=> ?_,fun y hy=> ?_⟩
 ·rcases hm with hm|hm|hm|hm|hm|hm|hm|hm
  ·exact .inl (.inl hm)
  ·exact .inl (.inr (.inl hm))
  ·exact .inl (.inr (.inr (.inl hm)))
  ·exact .inl (.inr (.inr (.inr (.inl hm))))
  ·exact .inl (.inr (.inr (.inr (.inr (.inl hm)))))
  ·exact .inl (.inr (.inr (.inr (.inr (.inr (.inl hm))))))
  ·exact .inl (.inr (.inr (.inr (.inr (.inr (.inr (.inl hm)))))))
  ·have hm':ob A'=some g:=hm
   rcases hat with h1|h1
   ·exact .inl (.inr (.inr (.inr (.inr (.inr (.inr (.inr (h1 ▸ hm'))))))))
   ·rw[hm'] at h1;injection h1 with h1;exact .inr (by omega)
 ·rcases List.mem_append.1 hy with hy|hy
  ·exact .inl hy
  ·rw[List.mem_singleton] at hy;subst hy;exact .inr hx
end
end Ara
namespace Ara
open Go.RowKit NetLaw BellLaw StarLaw AraLaw Net Go.Proofs.YtjebckehmmbkbaaGreat.Std Flow
open Heap (Kp Kp.refl Kp.below Kp.alloc Kp.drew Kp.setCell Kp.grown Kp.to fnOf)
open HeapP (HeapAt d0 ltP ltP_ord)
structure FO (F:Fix):Prop where
 gd:NetLaw.Good F.n F.l
 c1:∀e∈F.l,1<=e.2.2
 hh:∀v:Int,0<=v->v<F.n->0<=dg F.h v/\dg F.h v<=far
 wl:F.ws.length<=8
 ww:∀w∈F.ws,WOk w
 tt:F.tt<F.n
structure SM (b:Nat) (w:World) (P:Nat) (F:Fix) (Y:Var) (s:AS) (K:Nat):Prop where
 am:AM b w P F Y s
 hr:s.rds.length<F.ws.length->HR F Y s (cwt F.ws s) K
 cb:CB F s
section
variable {b:Nat} {w w':World} {P:Nat} {F:Fix} {Y:Var} {s:AS} {K:Nat}
theorem FO.nb (h:FO F):F.n<=64:=by have:=h.gd.hi;omega
theorem FO.wt (h:FO F) (hr:s.rds.length<F.ws.length):WOk (cwt F.ws s):=by
 have hc:cwt F.ws s=F.ws[s.rds.length]:=by unfold cwt;rw[List.getD_eq_getElem?_getD,List.getElem?_eq_getElem hr];rfl
 rw[hc];exact h.ww _ (List.getElem_mem hr)
theorem SM.keep (h:SM b w P F Y s K) (hb:Below w.heap.size w w'):SM b w' P F Y s K:=⟨h.am.keep hb,h.hr,h.cb⟩
theorem SM.more {K':Nat} (h:SM b w P F Y s K) (hK:K<=K'):SM b w P F Y s K':=⟨h.am,fun hr=>(h.hr hr).more hK,h.cb⟩
theorem AM.free (h:AM b w P F Y s):w.frozen? ⟨P,9,none⟩=false/\w.frozen? ⟨P,11,none⟩=false/\w.frozen? ⟨P,12,none⟩=false:=⟨blk_free h.z 9,blk_free h.z 11,blk_free h.z 12⟩
theorem AM.cellC (h:AM b w P F Y s) {v:Nat} (hv:v<F.n):w.cell? ⟨F.SC,v,none⟩=some (.int .i64 (dg s.C v))/\w.frozen? ⟨F.SC,v,none⟩=false:=by
 obtain⟨c1,c2⟩:=own_at1 h.lenC h.cost hv;exact⟨by rw[c1];unfold dg;rw[Int.toNat_natCast],c2⟩
theorem AM.cellP (h:AM b w P F Y s) {v:Nat} (hv:v<F.n):w.cell? ⟨F.SP,v,none⟩=some (.int .i64 (dg s.P v))/\w.frozen? ⟨F.SP,v,none⟩=false:=by
 obtain⟨c1,c2⟩:=own_at1 h.lenP h.pred hv;exact⟨by rw[c1];unfold dg;rw[Int.toNat_natCast],c2⟩
theorem AM.cellD (h:AM b w P F Y s) {v:Nat} (hv:v<F.n):w.cell? ⟨F.SD,v,none⟩=some (.bool (db s.dn v))/\w.frozen? ⟨F.SD,v,none⟩=false:=by
 obtain⟨c1,c2⟩:=own_atG false h.lenD h.done hv;exact⟨by rw[c1];unfold db;rw[Int.toNat_natCast];rfl,c2⟩
theorem reach1_yes {h:List Int} {v:Nat} {c u:Int} (hc:c<dg s.C v) (hz:dg h v≠far):reach1 h v c u s={ s with C:=s.C.set v c,P:=s.P.set v u,op:=if db s.dn v=true then s.op else up s.op v true,lt:=if db s.dn v=true then up s.lt v true else s.lt }:=by
 unfold reach1;rw[if_pos ⟨hc,hz⟩,Int.toNat_natCast]
theorem reach1_no {h:List Int} {v c u:Int} (hc:¬(c<dg s.C v/\dg h v≠far)):reach1 h v c u s=s:=by
 unfold reach1;rw[if_neg hc]
def ReachSays (b:Nat) (w:World) (P:Nat) (F:Fix) (Y:Var) (s':AS) (K:Nat) (e:Ending) (w':World):Prop :=
 (∃r,e= .returned r)/\∃Y',SM b w' P F Y' s' K/\Fr P F Y Y' w w'
theorem reach_any (hO:FO F) (h:SM b w P F Y s K) (hr:s.rds.length<F.ws.length) (hK:K<=100000000) {v:Nat} (hv:v<F.n) {c u:Int} (hc:0<=c) (hc2:c<=4611686018427387904) :
 Calls Tryz.prog 78 #[.pointer (some ⟨P,0,none⟩),.int .i64 v,.int .i64 c,.int .i64 u] w fun e w'=>ReachSays b w P F Y (reach1 F.h v c u s) (K+1) e w':=by
 obtain⟨i0,hi,hz0,hz1,hz2⟩:=info_parts infoIntO;obtain⟨cv0,cv1⟩:=h.cb v (by omega) (by omega);obtain⟨g0,g1⟩:=hO.hh v (by omega) (by omega);obtain⟨⟨_,_,_,_,z4,_⟩,⟨z6,z7,z8,_,_,_,_⟩,zp⟩:=h.am.zs;obtain⟨bh,oh,e4,b4,b6,y0,y1⟩:=h.am.cells hv;obtain⟨_,f0⟩:=h.am.cellC hv;obtain⟨p0,p1⟩:=h.am.cellP hv;have hcp:=h.am.neCP;have hpc:F.SP≠F.SC:=fun e=>hcp e.symm;rw[e4] at z4;have HSTAY:Hid (ReachSays b w P F Y s (K+1) (.returned (.tuple #[])) w):=hid ⟨⟨_,rfl⟩,Y,h.more (Nat.le_succ _),Fr.refl _ _ _ _⟩
 by_cases hlt:c<dg s.C v
 ·by_cases hz:dg F.h v=far
  ·rw[reach1_no (fun e=>e.2 hz)]
   have hnn:¬dg s.C v<=c:=by omega
   unfold far at hz;clear h hO hr hK hc hc2 cv0 cv1 g0 g1 hcp hpc p0 p1 z7 z8 f0 e4;generalize dg s.C v=cv at *;generalize dg F.h v=g at *;subst hz;go_enter Tryz.func78,Tryz.ntmps78
   go_wp2_with fail
   exact bodyPost_ret (v:= .tuple #[]) (by simp[results,Tryz.results78,go_sem]) rfl HSTAY.out
  ·have hnn:¬dg s.C v<=c:=by omega
   have hgg:(dg F.h v == 1099511627776)=false:=by unfold far at hz;simpa using hz
   have hgn:¬dg F.h v=1099511627776:=hz;rw[reach1_yes hlt hz];have hcf:0<=c/\c<=far:=⟨hc,by omega⟩;have am2:AM b ((w.setCell ⟨F.SC,v,none⟩ (.int .i64 c)).setCell ⟨F.SP,v,none⟩ (.int .i64 u)) P F Y { s with C:=s.C.set v c,P:=s.P.set v u }:=(h.am.setC v c).setP v u;have am2':AM b ((w.setCell ⟨F.SP,v,none⟩ (.int .i64 u)).setCell ⟨F.SC,v,none⟩ (.int .i64 c)) P F Y { s with C:=s.C.set v c,P:=s.P.set v u }:=(h.am.setP v u).setC v c;have fr2:Fr P F Y Y w ((w.setCell ⟨F.SC,v,none⟩ (.int .i64 c)).setCell ⟨F.SP,v,none⟩ (.int .i64 u)):=((Fr.refl P F Y w).set (p:=⟨F.SC,v,none⟩) (.inl (.inr (.inl rfl))) _).set (p:=⟨F.SP,v,none⟩) (.inl (.inr (.inr (.inl rfl)))) _;have fr2':Fr P F Y Y w ((w.setCell ⟨F.SP,v,none⟩ (.int .i64 u)).setCell ⟨F.SC,v,none⟩ (.int .i64 c)):=((Fr.refl P F Y w).set (p:=⟨F.SP,v,none⟩) (.inl (.inr (.inr (.inl rfl)))) _).set (p:=⟨F.SC,v,none⟩) (.inl (.inr (.inl rfl))) _;have A2:=hid (And.intro am2 fr2);have A2':=hid (And.intro am2' fr2');have hlen:=h.am.lenC;have hrr:=h.hr hr;have hcb:=h.cb;have HHR:=hid hrr;have HCB:=hid hcb;have HLEN:=hid hlen;have HCF:=hid hcf;have HOO:=hid hO;have HRR:=hid hr;have HLT:=hid hlt;have HSW:=hid (show cwt F.ws { s with C:=s.C.set v c,P:=s.P.set v u }=cwt F.ws s from rfl);clear h hO hr am2 am2' fr2 fr2' hlen hrr hcb hcf hc hc2 cv0 cv1 g0 g1 hlt e4 HSTAY;have hgg2:=hgg;generalize hcv:dg s.C v=cv at *;generalize hgv:dg F.h v=g at *;generalize hpv:dg s.P v=pv at *;have HCV:=hid hcv;have HGV:=hid hgv;clear hcv hgv hpv hgg2 hz;go_enter Tryz.func78,Tryz.ntmps78;go_upto_region 1 with fail
   go_cut [] from 27 to 41 (fun wx=>Hid (AM b wx P F Y { s with C:=s.C.set v c,P:=s.P.set v u }/\Fr P F Y Y w wx))
   case first =>
    go_region
    all_goals
     go_wp2_with fail
     go_meet
     first
      |exact hid ⟨A2.out.1.keep (below_drewN (Below.refl _ _) 1),A2.out.2.drew⟩
      |exact hid ⟨A2'.out.1.keep (below_drewN (Below.refl _ _) 1),A2'.out.2.drew⟩
   case rest =>
    obtain⟨am3,fr3⟩:=hcut.out;clear hcut A2 A2' z4 z6 z7 z8 zp y0 y1 p0 p1 f0 hcp hpc b4 b6 hnn hgg hgn;obtain⟨_,⟨_,_,z8,z9,_,_,_⟩,zp⟩:=am3.zs;obtain⟨f9,_,_⟩:=am3.free;obtain⟨d0,_⟩:=am3.cellD hv;simp only at d0;cases hd:db s.dn v with
    |true =>
     rw[hd] at d0;have hown:=am3.late.alloc (.cells #[.int .i64 (v:Int)] 3);have am3a:=am3.keep ((Below.refl _ wc).alloc zzL (.cells #[.int .i64 (v:Int)] 3));have fr3a:=fr3.below ((Below.refl _ wc).alloc zzL (.cells #[.int .i64 (v:Int)] 3));have hlb:=HHR.out.bl;have hsz:=am3.size;have HLL:=hid am3.lenL;have HOWN:=hid hown;have AM3:=hid am3a;have FR3:=hid fr3a;clear am3 fr3 hown am3a fr3a
     have hfin:∀(A9:Option Addr) (c9:Nat) (w9:World),Own w9 b 3 1 ci (.slice A9 (Y.kl+1) c9) (Y.LT++[(v:Int)])->(wc.alloc (.cells #[.int .i64 (v:Int)] 3)).grownBy w9 (Value.slice Y.AL Y.kl Y.cl).ownBlock->((Value.slice A9 (Y.kl+1) c9).ownBlock=(Value.slice Y.AL Y.kl Y.cl).ownBlock\/(Value.slice A9 (Y.kl+1) c9).ownBlock=some (wc.alloc (.cells #[.int .i64 (v:Int)] 3)).heap.size)->(w9.cell? ⟨P,9,none⟩=some (.slice Y.AL Y.kl Y.cl)/\w9.frozen? ⟨P,9,none⟩=false/\P<w9.heap.size)/\ReachSays b w P F Y { s with C:=s.C.set v c,P:=s.P.set v u,op:=s.op,lt:=up s.lt v true } (K+1) (.returned (.tuple #[])) (w9.setCell ⟨P,9,none⟩ (.slice A9 (Y.kl+1) c9)):=fun A9 c9 w9 h9 g9 t9=>by
      obtain⟨q1,q2⟩:=AM3.out.push g9 h9 t9;have hz9:=blk_grown AM3.out.z g9 (fun e=>AM3.out.late.ne_ AM3.out.z (by decide) e);refine⟨⟨by rw[blk_cell hz9];rfl,blk_free hz9 9,lt_of_block hz9⟩,⟨_,rfl⟩,_,⟨⟨q1.z,q1.zl,q1.net,q1.tab,q1.hh,q1.wt,q1.cost,q1.pred,q1.done,q1.late,q1.heap,q1.hp,q1.rows,q1.ways,q1.rds,q1.lenC,q1.lenP,q1.lenD,q1.lenH,q1.lenL,q1.lenR,q1.neCP,q1.neH,q1.neO,q1.neL,q1.neW⟩,fun _=>HHR.out.lates HLEN.out hv hd,HCB.out.set HLEN.out hv HCF.out⟩,FR3.out.trans q2⟩
     have HFIN:=hid hfin;clear hfin;go_upto_region 3 with fail
     go_wp2_with (at_builtin;go_must (refine wpList_push _ rfl (.tmp 52) (.tmp 54) _ rfl b 3 i0 (.int .i64 0) 1 8 ci Tryz.underlying25 hi hz0 hz1 hz2 rfl (by decide) _ Y.LT Y.kl HLL.out rfl HOWN.out wc.heap.size 1 (v:Int) rfl news1 (fun _ _=>one_ci _ _) (by omega) (by omega) (by simp;omega) ?_;intro A9 c9 w9 hown9 hgrow9 hat9;obtain⟨⟨c91,c92,c93⟩,c94⟩:=HFIN.out A9 c9 w9 hown9 hgrow9 hat9;have C94:=hid c94;clear c94 hown9 hgrow9 hat9))
     exact bodyPost_end (v:= .tuple #[]) (by simp[results,Tryz.results78,go_sem]) rfl C94.out
    |false =>
     rw[hd] at d0
     have hput:=put_any am3 HRR.out (HOO.out.wt HRR.out) hv (by
      show 0<=dg (s.C.set v c) v/\dg (s.C.set v c) v<=far
      exact HCB.out.set HLEN.out hv HCF.out (P:=s.P) (op:=s.op) (lt:=s.lt) v (by omega) (by omega)) (HOO.out.hh v (by omega) (by omega)) (by have:=HHR.out.bm;omega)
     have hdv:dg (s.C.set v c) (v:Int)=c:=by
      have:=dg_set (D:=s.C) (t:=(v:Int)) (x:=c) (by omega) (by rw[HLEN.out];omega) (v:=(v:Int)) (by omega);rw[Int.toNat_natCast,if_pos rfl] at this;exact this
     simp only[HSW.out,hdv] at hput;have HPUT:=hid hput;have FR3:=hid fr3;clear am3 fr3 hput hdv;go_upto_region 4 with fail
     go_wp2_with fail
     refine HPUT.out.mono ?_;rintro e w4 ⟨⟨r4,rfl⟩,A4,c4,L4,am4,hpm4,fr4⟩
     have hfin:ReachSays b w P F Y { s with C:=s.C.set v c,P:=s.P.set v u,op:=up s.op v true,lt:=s.lt } (K+1) (.returned (.tuple #[])) w4 :=
      ⟨⟨_,rfl⟩,_,⟨⟨am4.z,am4.zl,am4.net,am4.tab,am4.hh,am4.wt,am4.cost,am4.pred,am4.done,am4.late,am4.heap,am4.hp,am4.rows,am4.ways,am4.rds,am4.lenC,am4.lenP,am4.lenD,am4.lenH,am4.lenL,am4.lenR,am4.neCP,am4.neH,am4.neO,am4.neL,am4.neW⟩,fun _=>HHR.out.put HLEN.out hv hd hpm4,HCB.out.set HLEN.out hv HCF.out⟩,FR3.out.trans fr4⟩
     have HFIN:=hid hfin;clear hfin am4 hpm4 fr4;go_wp2
     all_goals
      exact bodyPost_end (v:= .tuple #[]) (by simp[results,Tryz.results78,go_sem]) rfl HFIN.out
 ·rw[reach1_no (fun e=>hlt e.1)]
  have hnn:dg s.C v<=c:=by omega
  clear h hO hr hK hc hc2 cv0 cv1 g0 g1 hcp hpc p0 p1 z7 z8 f0 e4 hlt;generalize dg s.C v=cv at *;generalize dg F.h v=g at *;go_enter Tryz.func78,Tryz.ntmps78
  go_wp2_with fail
  exact bodyPost_ret (v:= .tuple #[]) (by simp[results,Tryz.results78,go_sem]) rfl HSTAY.out
end
end Ara
namespace Ara
open Go.RowKit NetLaw BellLaw StarLaw AraLaw Net Go.Proofs.YtjebckehmmbkbaaGreat.Std Flow
open Heap (Kp Kp.refl Kp.below Kp.alloc Kp.drew Kp.setCell Kp.grown Kp.to fnOf)
open HeapP (HeapAt d0 ltP ltP_ord)
theorem top_any {base H n c:Nat} {fn:Value} {A:Option Addr} {L:List HeapP.Pop} {w:World} (h:HeapAt w base H fn A n c L) (hn:0<n) :
 Calls Tryz.prog 95 #[.pointer (some ⟨H,0,none⟩)] w fun e w'=>∃a b x,L.getD 0 d0=(a,b,x)/\e= .returned (.agg #[.int .i64 a,.int .i64 b,.int .i64 x])/\Below w.heap.size w w':=by
 obtain⟨S,a,b,x,rfl,hS0,hS1,hSH,hg0,c00,c01,c02,f00,f01,f02⟩:=h.at_ hn;have hc1:=blk_cell h.blk 1;have hlt:=h.lt;simp only[zzG,zzH,zzI] at hc1;rw[Nat.zero_mul] at c00 c01 c02;rw[Nat.zero_add] at c01 c02;have z0:(0:Int)<(n:Int):=by omega
 clear h f00 f01 f02;go_enter Tryz.func95,Tryz.ntmps95;go_wp2;exact bodyPost_ret (v:= .agg #[.int .i64 a,.int .i64 b,.int .i64 x]) (by simp[results,Tryz.results95,go_sem]) rfl ⟨a,b,x,hg0,rfl,(Below.refl _ _).alloc zzL _⟩
def hlen (w:World) (H:Nat):Nat:=match w.cell? ⟨H,1,none⟩ with|some (.slice _ n _)=>n|_=>0
theorem hlen_eq {w:World} {base H n c:Nat} {fn:Value} {A:Option Addr} {L:List HeapP.Pop} (h:HeapAt w base H fn A n c L):hlen w H=n:=by
 have c1:=blk_cell h.blk 1;simp only[zzG,zzH,zzI] at c1;unfold hlen;rw[c1]
section
variable {b:Nat} {w w':World} {P:Nat} {F:Fix} {Y:Var} {s:AS} {K:Nat}
theorem SM.top (h:SM b w P F Y s K) (hr:s.rds.length<F.ws.length) {k:Nat} (hm:Y.m=k+1) {a g x:Int} (he:Y.L.getD 0 d0=(a,g,x)):(0<=x/\x<F.n)/\g=dg F.h x/\(a,g,x)∈Y.L:=by
 have hlen:=h.am.heap.len
 have hmem:(a,g,x)∈Y.L:=by
  rw[<-he,List.getD_eq_getElem?_getD,List.getElem?_eq_getElem (by omega)];exact List.getElem_mem _
 obtain⟨h1,h2,_⟩:=(h.hr hr).ids _ hmem;exact⟨h1,h2,hmem⟩
theorem SM.pop (h:SM b w P F Y s K) {k:Nat} (hm:Y.m=k+1) (hK:K<=100000000) (hr:s.rds.length<F.ws.length) :
 Calls Tryz.prog 70 #[.pointer (some ⟨F.H,0,none⟩)] w fun e w'=>∃a g x L',e= .returned (.agg #[.int .i64 a,.int .i64 g,.int .i64 x])/\Y.L.getD 0 d0=(a,g,x)/\((a,g,x)::L').Perm Y.L/\AM b w' P F (Y.heap' Y.Ah k Y.ch L') s/\Fr P F Y (Y.heap' Y.Ah k Y.ch L') w w':=by
 have hh:=h.am.heap;rw[hm] at hh;have hbm:=(h.hr hr).bm;refine(HeapP.pop_any ltP ltP_ord HeapP.less_any b F.H Y.Ah k Y.ch Y.L w hh h.am.hp (by omega) h.am.size).mono ?_;rintro e w' ⟨a,g,x,L',rfl,hg,hh2,hpm,hhp,hkp⟩;have hkp2:Kp w w' F.H (Value.slice Y.Ah Y.m Y.ch).ownBlock:=by rw[obrow] at hkp ⊢;exact hkp
 exact⟨a,g,x,L',rfl,hg,hpm,h.am.kp hkp2 hh2 hhp,Fr.kp hkp2 (fun S e=> .inl e)⟩
def FreshSays (b:Nat) (w:World) (P:Nat) (F:Fix) (Y:Var) (s:AS) (K:Nat) (e:Ending) (w':World):Prop :=
 ∃r Y',e= .returned (.bool r)/\SM b w' P F Y' s K/\Fr P F Y Y' w w'/\(r=true->0<Y'.m/\Fresh F s (cwt F.ws s) (Y'.L.getD 0 d0))/\(r=false->Y'.m=0)
theorem fresh_any (hO:FO F) (h:SM b w P F Y s K) (hr:s.rds.length<F.ws.length) (hK:K<=100000000) :
 Calls Tryz.prog 94 #[.pointer (some ⟨P,0,none⟩)] w fun e w'=>FreshSays b w P F Y s K e w':=by
 have h1:=hid h;have HOO:=hid hO;have HRR:=hid hr;clear h hO hr;go_enter Tryz.func94,Tryz.ntmps94;go_wp2
 go_loopw [2] (fun b2 wr=>b2= .bool false/\∃Y',Hid (SM b wr P F Y' s K)/\Hid (Fr P F Y Y' w wr)) (fun _ wr=>hlen wr F.H)
 case atStart=>exact⟨rfl,Y,h1,hid (Fr.refl _ _ _ _)⟩
 case round =>
  obtain⟨rfl,Y',HM,HFR⟩:=hrel;clear h1;obtain⟨_,⟨_,_,_,_,z10,_,_⟩,zp⟩:=HM.out.am.zs;have hml:=HM.out.am.heap.len;have klen:=HeapP.len_any wr HM.out.am.heap;have KLEN:=hid klen;obtain⟨m',hm'⟩:∃m',Y'.m=m':=⟨_,rfl⟩;have HMM:=hid hm';rw[hm'] at KLEN hml;clear klen hm'
  go_wp2_with fail
  refine KLEN.out.mono ?_;rintro e w2 ⟨rfl,hw2⟩;have hw2':=hw2.symm;clear hw2;subst hw2';rcases Nat.eq_zero_or_pos m' with hm0|hm0
  ·subst hm0
   have hpost:FreshSays b w P F Y s K (.returned (.bool false)) wr:=⟨false,Y',rfl,HM.out,HFR.out,fun h=>(nomatch h),fun _=>HMM.out⟩;have HPOST:=hid hpost;clear hpost;go_wp2;go_ret;exact HPOST.out
  ·obtain⟨k,rfl⟩:∃k,m'=k+1:=⟨m' - 1,by omega⟩
   have ktop:=top_any HM.out.am.heap (by rw[HMM.out];exact hm0);have KTOP:=hid ktop;have zk:(k:Int)+1 > 0:=by omega
   clear ktop
   go_wp2_with fail
   refine KTOP.out.mono ?_;rintro e w3 ⟨a,g,x,hg0,rfl,hb3⟩;obtain⟨hx0,hx1⟩:=(HM.out.top HRR.out HMM.out hg0).1;obtain⟨x,rfl⟩:=Int.eq_ofNat_of_zero_le hx0;have hxn:x<F.n:=by omega
   go_upto_region 3 with fail;have hm4:=(HM.out.keep hb3).keep ((Below.refl _ w3).alloc zzL (.cells #[.int .i64 a,.int .i64 g,.int .i64 x] 129));have hbx:=heap_alloc_new w3 (.cells #[.int .i64 a,.int .i64 g,.int .i64 x] 129);have hb4:Below wr.heap.size wr (w3.alloc (.cells #[.int .i64 a,.int .i64 g,.int .i64 x] 129)):=hb3.alloc hb3.size _;generalize w3.alloc (.cells #[.int .i64 a,.int .i64 g,.int .i64 x] 129)=w4 at hm4 hbx hb4 ⊢;generalize w3.heap.size=X at hbx ⊢;clear z10 zp hb3 KTOP KLEN;obtain⟨_,⟨_,_,z8,_,z10,_,_⟩,zp⟩:=hm4.am.zs;obtain⟨c1,_⟩:=hm4.am.cellD hxn;have zc:=(hm4.am.done.base_ _ rfl).2;have x0:=blk_cell hbx 0;have x2:=blk_cell hbx 2;simp only[zzG,zzH,zzI] at x0 x2;have zX:=lt_of_block hbx;have zx:(x:Int)<(F.n:Int):=by omega
   have kkey:=fun (W:World) (hW:Below w4.heap.size w4 W)=>key_any (hm4.am.keep hW) HRR.out (HOO.out.wt HRR.out) hxn (hm4.cb x (by omega) (by omega)) (HOO.out.hh x (by omega) (by omega));have hfr:Fresh F s (cwt F.ws s) (a,g,(x:Int)) ↔ (db s.dn x=false/\a=(cwt F.ws s).2*dg s.C x+(cwt F.ws s).1*dg F.h x):=Iff.rfl;have HFF:=hid hfr;have KKEY:=hid kkey;have HB4:=hid hb4;have HG0:=hid hg0;clear kkey hfr hm4 hbx hb4 hg0 hx0 hx1 hml hm0;generalize (cwt F.ws s).2*dg s.C x+(cwt F.ws s).1*dg F.h x=q at *;generalize db s.dn (x:Int)=dd at *;obtain⟨bb,hbb⟩:∃bb,decide (dd=false/\a=q)=bb:=⟨_,rfl⟩;have HBB:=hid hbb;clear hbb
   go_cut [32] from 15 to 33 (fun s32 wx=>s32= .bool bb/\Hid (Below w4.heap.size w4 wx))
   case first =>
    cases dd with
    |true =>
     have hbf:bb=false:=by rw[<-HBB.out];simp
     have HBF:=hid hbf;clear hbf;go_quiet (fail);go_wp2
     go_meet
     exact⟨by rw[HBF.out],hid (below_drewN (Below.refl _ _) nq)⟩
    |false =>
     have hcl:∀wd:World,Below w4.drew.heap.size w4.drew wd->wd.cell? ⟨P,8,none⟩=some (.slice (some ⟨F.SD,0,none⟩) F.n F.n)/\wd.cell? ⟨F.SD,x,none⟩=some (.bool false)/\wd.cell? ⟨X,0,none⟩=some (.int .i64 a)/\wd.cell? ⟨X,2,none⟩=some (.int .i64 x):=fun wd hbd =>
      ⟨(hbd.cell (p:=⟨P,8,none⟩) zp).trans z8,(hbd.cell (p:=⟨F.SD,x,none⟩) zc).trans c1,(hbd.cell (p:=⟨X,0,none⟩) zX).trans x0,(hbd.cell (p:=⟨X,2,none⟩) zX).trans x2⟩
     have HCL:=hid hcl;clear hcl
     by_cases ha:a=q
     ·subst ha
      have hbt:bb=true:=by rw[<-HBB.out];simp
      have HBT:=hid hbt;clear hbt
      go_region_held3 (fun w'=>w'.cell? ⟨P,8,none⟩=some (.slice (some ⟨F.SD,0,none⟩) F.n F.n)/\w'.cell? ⟨F.SD,x,none⟩=some (.bool false)/\w'.cell? ⟨X,0,none⟩=some (.int .i64 a)/\w'.cell? ⟨X,2,none⟩=some (.int .i64 x)) (first|go_keep|exact hcw) (first|(go_at_call 96;refine(KKEY.out _ (Below.refl _ _).drew).mono ?_;rintro e wd ⟨rfl,hbd⟩;have hcw:=HCL.out _ hbd))
      all_goals
       go_wp2
       go_meet
       exact⟨by rw[HBT.out],hid ((Below.refl _ _).drew.trans (hbd.mono zzL))⟩
     ·have hbt:bb=false:=by rw[<-HBB.out];simp[ha]
      have HBT:=hid hbt;have hbe:(a == q)=false:=beq_eq_false_iff_ne.2 ha;clear hbt ha
      go_region_held3 (fun w'=>w'.cell? ⟨P,8,none⟩=some (.slice (some ⟨F.SD,0,none⟩) F.n F.n)/\w'.cell? ⟨F.SD,x,none⟩=some (.bool false)/\w'.cell? ⟨X,0,none⟩=some (.int .i64 a)/\w'.cell? ⟨X,2,none⟩=some (.int .i64 x)) (first|go_keep|exact hcw) (first|(go_at_call 96;refine(KKEY.out _ (Below.refl _ _).drew).mono ?_;rintro e wd ⟨rfl,hbd⟩;have hcw:=HCL.out _ hbd))
      all_goals
       go_wp2
       go_meet
       exact⟨by rw[HBT.out],hid ((Below.refl _ _).drew.trans (hbd.mono zzL))⟩
   case rest =>
    obtain⟨rfl,HB5⟩:=hcut;have hbw:Below wr.heap.size wr wc:=HB4.out.trans (HB5.out.mono HB4.out.size);have hm5:=HM.out.keep hbw;have hf5:=HFR.out.below hbw;have HM5:=hid hm5;have HF5:=hid hf5;clear hbw hm5 hf5 HB4 HB5 x0 x2 zX c1 zc z8 z10 zp KKEY;cases bb with
    |true =>
     have hfb:=HFF.out.2 (of_decide_eq_true HBB.out);have hpost:FreshSays b w P F Y s K (.returned (.bool true)) wc:=⟨true,Y',rfl,HM5.out,HF5.out,fun _=>⟨by rw[HMM.out];exact Nat.succ_pos _,by rw[HG0.out];exact hfb⟩,fun h=>(nomatch h)⟩;have HPOST:=hid hpost;clear hpost hfb;go_wp2;go_ret;exact HPOST.out
    |false =>
     have hfb:¬Fresh F s (cwt F.ws s) (a,g,(x:Int)):=fun h=>by
      have:=decide_eq_true (HFF.out.1 h);rw[HBB.out] at this;cases this
     have HFB:=hid hfb;obtain⟨_,⟨_,_,_,_,z10,_,_⟩,zp⟩:=HM5.out.am.zs;have kpop:=HM5.out.pop HMM.out hK HRR.out;have KPOP:=hid kpop;have hl1:=hlen_eq HM.out.am.heap;have HL1:=hid hl1;clear hfb kpop hl1
     go_wp2_with fail
     refine KPOP.out.mono ?_;rintro e w9 ⟨p,pm,pq,L2,rfl,hg2,hpm2,am9,fr9⟩;rw[HG0.out] at hg2;obtain⟨rfl,rfl,rfl⟩:=(by simpa using hg2:a=p/\g=pm/\(x:Int)=pq);have hm9:SM b w9 P F (Y'.heap' Y'.Ah k Y'.ch L2) s K:=⟨am9,fun hr=>(HM5.out.hr hr).drop HMM.out hpm2 HFB.out,HM5.out.cb⟩;have hf9:=HF5.out.trans fr9;have hl9:=hlen_eq am9.heap;have HM9:=hid hm9;have HF9:=hid hf9;have HL9:=hid hl9;clear hm9 hf9 hl9 am9 fr9 hpm2 hg2;go_wp2
     go_roundw
     case rel=>exact⟨rfl,_,HM9,HF9⟩
     case measure=>rw[HL9.out,HL1.out,HMM.out];exact Nat.lt_succ_self _
end
end Ara
namespace Ara
open Go.RowKit NetLaw BellLaw StarLaw AraLaw Net Go.Proofs.YtjebckehmmbkbaaGreat.Std Flow
open Heap (Kp Kp.refl Kp.below Kp.alloc Kp.drew Kp.setCell Kp.grown Kp.to fnOf)
open HeapP (HeapAt d0 ltP ltP_ord)
theorem own_keepB {α:Type} {w w':World} {b:Nat} {e:TypeId} {sz:Nat} {cell:α->Nat->Value} {v:Value} {l:List α} (h:Own w b e sz cell v l) (hk:∀g,v.ownBlock=some g->w'.heap[g]?=w.heap[g]?):Own w' b e sz cell v l:=by
 refine⟨h.1,?_⟩;rcases h.2 with h3|⟨g,cap,cur,rfl,hg,hh,rest⟩
 ·exact .inl h3
 ·exact .inr ⟨g,cap,cur,rfl,hg,(hk g rfl).trans hh,rest⟩
def All (P:Nat) (F:Fix) (Y:Var) (g:Nat):Prop:=Mut P F Y g\/ob F.AE=some g\/g=F.TO\/(∃v,v<F.n/\ob (F.FO v).1=some g)\/ob F.AH=some g\/ob F.AW=some g\/∃x∈Y.RS,ob x.A=some g
section
variable {b:Nat} {w w':World} {P:Nat} {F:Fix} {Y Y':Var} {s:AS} {K:Nat}
theorem AM.keepF (h:AM b w P F Y s) (hk:∀g,All P F Y g->w'.heap[g]?=w.heap[g]?):AM b w' P F Y s:=by
 have hm:∀g,Mut P F Y g->w'.heap[g]?=w.heap[g]?:=fun g hg=>hk g (.inl hg)
 have htab:Tab w' b F.TO F.n F.FO (ol F.l F.l.length):=by
  obtain⟨cs,hb,hs,hc⟩:=h.tab.blk;exact⟨h.tab.lo,⟨cs,(hk _ (.inr (.inr (.inl rfl)))).trans hb,hs,hc⟩,fun v hv=>own_keepB (h.tab.own v hv) (fun g e=>hk g (.inr (.inr (.inr (.inl ⟨v,hv,(ob_ ..).symm.trans e⟩))))),h.tab.sep⟩
 exact⟨(hm P (.inl rfl)).trans h.z,h.zl,own_keepB h.net (fun g e=>hk g (.inr (.inl ((ob_ ..).symm.trans e)))),htab,own_keepB h.hh (fun g e=>hk g (.inr (.inr (.inr (.inr (.inl ((ob_ ..).symm.trans e))))))),own_keepB h.wt (fun g e=>hk g (.inr (.inr (.inr (.inr (.inr (.inl ((ob_ ..).symm.trans e)))))))),
  own_keepB h.cost (fun g e=>hm g (.inr (.inl (by injection e with e;exact e.symm)))),own_keepB h.pred (fun g e=>hm g (.inr (.inr (.inl (by injection e with e;exact e.symm))))),own_keepB h.done (fun g e=>hm g (.inr (.inr (.inr (.inl (by injection e with e;exact e.symm)))))),
  own_keepB h.late (fun g e=>hm g (.inr (.inr (.inr (.inr (.inr (.inr (.inl ((ob_ ..).symm.trans e))))))))),⟨h.heap.hb,(hm F.H (.inr (.inr (.inr (.inr (.inl rfl)))))).trans h.heap.blk,own_keepB h.heap.own (fun g e=>hm g (.inr (.inr (.inr (.inr (.inr (.inl ((ob_ ..).symm.trans e)))))))),h.heap.len⟩,h.hp,
  own_keepB h.rows (fun g e=>hm g (.inr (.inr (.inr (.inr (.inr (.inr (.inr ((ob_ ..).symm.trans e))))))))),fun x hx=>own_keepB (h.ways x hx) (fun g e=>hk g (.inr (.inr (.inr (.inr (.inr (.inr ⟨x,hx,(ob_ ..).symm.trans e⟩))))))),h.rds,h.lenC,h.lenP,h.lenD,h.lenH,h.lenL,h.lenR,h.neCP,h.neH,h.neO,h.neL,h.neW⟩
theorem AM.all (h:AM b w P F Y s) {g:Nat} (hg:All P F Y g):b<=g/\g<w.heap.size:=by
 rcases hg with hg|hg|rfl|⟨v,hv,hg⟩|hg|hg|⟨x,hx,hg⟩
 ·exact h.mut hg
 ·exact h.net.base_ _ ((ob_ ..).trans hg)
 ·exact⟨h.tab.lo,h.tab.lt⟩
 ·exact(h.tab.own v hv).base_ _ ((ob_ ..).trans hg)
 ·exact h.hh.base_ _ ((ob_ ..).trans hg)
 ·exact h.wt.base_ _ ((ob_ ..).trans hg)
 ·exact(h.ways x hx).base_ _ ((ob_ ..).trans hg)
theorem Fr.notall (h:Fr P F Y Y' w w') {g:Nat} (hg:¬All P F Y g) (hl:g<w.heap.size):¬All P F Y' g:=fun ha=>by
 rcases ha with ha|ha|ha|ha|ha|ha|⟨x,hx,ha⟩
 ·rcases h.new g ha with h1|h1
  ·exact hg (.inl h1)
  ·omega
 ·exact hg (.inr (.inl ha))
 ·exact hg (.inr (.inr (.inl ha)))
 ·exact hg (.inr (.inr (.inr (.inl ha))))
 ·exact hg (.inr (.inr (.inr (.inr (.inl ha)))))
 ·exact hg (.inr (.inr (.inr (.inr (.inr (.inl ha))))))
 ·rcases h.ways x hx with h1|h1
  ·exact hg (.inr (.inr (.inr (.inr (.inr (.inr ⟨x,h1,ha⟩))))))
  ·have:=h1 g ha;omega
theorem Fr.stays (h:Fr P F Y Y' w w') {g:Nat} (hg:¬All P F Y g) (hl:g<w.heap.size):w'.heap[g]?=w.heap[g]?:=h.block g hl (fun hm=>hg (.inl hm))
theorem AM.far (h:AM b w P F Y s) {p:Addr} (hp:¬All P F Y p.block) (u:Value):AM b (w.setCell p u) P F Y s:=h.keepF fun g hg=>Below.heap_setCell _ _ _ _ (fun e=>hp (e ▸ hg))
theorem AM.congr {s':AS} (h:AM b w P F Y s) (h1:s'.C=s.C) (h2:s'.P=s.P) (h3:s'.dn=s.dn) (h4:s'.sp=s.sp) (h5:s'.rds=s.rds):AM b w P F Y s':=by
 refine⟨by rw[h4];exact h.z,h.zl,h.net,h.tab,h.hh,h.wt,by rw[h1];exact h.cost,by rw[h2];exact h.pred,by rw[h3];exact h.done,h.late,h.heap,h.hp,h.rows,h.ways,by rw[h5];exact h.rds,by rw[h1];exact h.lenC,by rw[h2];exact h.lenP,by rw[h3];exact h.lenD,h.lenH,h.lenL,h.lenR,h.neCP,h.neH,h.neO,h.neL,h.neW⟩
theorem HR.congr {s':AS} {u:Int × Int} (h:HR F Y s u K) (h1:s'.C=s.C) (h3:s'.dn=s.dn) (h4:∀v:Int,0<=v->v<F.n->s'.op v=s.op v) (h5:∀v:Int,0<=v->v<F.n->s'.lt v=s.lt v):HR F Y s' u K:=by
 have hop:∀v,AraLaw.Op F.n s' v->AraLaw.Op F.n s v:=fun v hv=>⟨hv.1,by rw[<-h4 v hv.1.1 hv.1.2];exact hv.2⟩;refine⟨fun v hv=> ?_,fun x hx=> ?_,fun v hv=> ?_,fun v v0 v1=> ?_,h.lr,h.bm,h.bl⟩
 ·have:=h.mem v (hop v hv)
  unfold kyA at this ⊢;rw[h1];exact this
 ·obtain⟨a,b,c⟩:=h.ids x hx
  refine⟨a,b,fun hd=> ?_⟩;rw[h4 _ a.1 a.2];rw[h3] at hd;exact c hd
 ·rw[h3]
  exact h.od v (hop v hv)
 ·rw[h5 v v0 v1]
  exact h.late v v0 v1
theorem AM.pop (h:AM b w P F Y s) {k:Nat} (hm:Y.m=k+1) (hK:Y.m<=1000000000) :
 Calls Tryz.prog 70 #[.pointer (some ⟨F.H,0,none⟩)] w fun e w'=>∃a g x L',e= .returned (.agg #[.int .i64 a,.int .i64 g,.int .i64 x])/\Y.L.getD 0 d0=(a,g,x)/\((a,g,x)::L').Perm Y.L/\AM b w' P F (Y.heap' Y.Ah k Y.ch L') s/\Fr P F Y (Y.heap' Y.Ah k Y.ch L') w w':=by
 have hh:=h.heap;rw[hm] at hh;refine(HeapP.pop_any ltP ltP_ord HeapP.less_any b F.H Y.Ah k Y.ch Y.L w hh h.hp (by omega) h.size).mono ?_;rintro e w' ⟨a,g,x,L',rfl,hg,hh2,hpm,hhp,hkp⟩;have hkp2:Kp w w' F.H (Value.slice Y.Ah Y.m Y.ch).ownBlock:=by rw[obrow] at hkp ⊢;exact hkp
 exact⟨a,g,x,L',rfl,hg,hpm,h.kp hkp2 hh2 hhp,Fr.kp hkp2 (fun S e=> .inl e)⟩
end
end Ara
end Go.Proofs.YtjebckehmmbkbaaGreat
