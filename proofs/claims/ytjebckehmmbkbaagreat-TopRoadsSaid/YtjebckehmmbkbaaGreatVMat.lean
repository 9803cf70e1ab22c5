/- Plain: what bell.Dist answers is what it costs, where no cost is below 0. Plain: where each edge costs at least 1 the rounds end with nothing changed. Plain facts on shortest walks that go back from their end: no Go in sight. Plain: where Bellman and Ford's rounds do not end, the ways back lead round a cycle that costs less than 0. No Go in sight. A region that draws its order, whose loads are all -/
import Derived.StillTailTactics
import Derived.Test.YtjebckehmmbkbaaGreatVBellFn
set_option linter.unusedSimpArgs false
set_option linter.unusedVariables false
set_option maxRecDepth 100000
set_option maxHeartbeats 24000000
namespace Go.Proofs.YtjebckehmmbkbaaGreat
namespace BellSh
open NetLaw BellLaw DijkLaw Bell
theorem dg_start {n fr:Nat} (hf:fr<n) (v:Int) (v0:0<=v) (v1:v<n):dg (Bell.start n fr) v=if v=fr then 0 else far:=by
 have:=dg_set (D:=List.replicate n far) (t:=(fr:Int)) (v:=v) (x:=0) (by omega) (by simp;omega) v0;rw[Int.toNat_natCast] at this;rw[Bell.start,this];split
 ·rfl
 ·rw[dg,List.getD_eq_getElem?_getD,List.getElem?_replicate,if_pos (by omega)]
  rfl
theorem j_start {n fr:Nat} (hf:fr<n) (l:List E):J n l fr (Bell.start n fr):=by
 refine⟨by rw[start_len],fun v v0 v1=> ?_,?_,fun v v0 v1 h=> ?_,fun v v0 v1 hv h=> ?_⟩
 ·rw[dg_start hf v v0 v1];unfold far;split <;> omega
 ·rw[dg_start hf fr (by omega) (by omega),if_pos rfl];exact Int.le_refl _
 ·rw[dg_start hf v v0 v1] at h ⊢
  split at h
  ·rename_i e;subst e;rw[if_pos rfl];exact Wk.here
  ·exact absurd h (Int.lt_irrefl _)
 ·rw[dg_start hf v v0 v1,if_neg hv] at h
  exact absurd h (Int.lt_irrefl _)
theorem bd_start {n fr:Nat} (hf:fr<n):Bd n (Bell.start n fr) 0:=fun v v0 v1 h=>by
 rw[dg_start hf v v0 v1] at h ⊢;split at h
 ·rename_i e;rw[if_pos e];omega
 ·exact absurd h (Int.lt_irrefl _)
theorem bd_relax {N:Int} {l:List E} (hends:∀e∈l,0<=e.1/\e.1<N/\0<=e.2.1/\e.2.1<N) (hcost:∀e∈l,-10000<=e.2.2/\e.2.2<=10000) (k:Nat) (C:Int) (s:St) (h:Bd N s.1 C) (hl:(s.1.length:Int)=N) :
 Bd N (relax l k s).1 (C+k*(l.length*10000)):=by
 induction k generalizing s C with
 |zero=>simpa [relax] using h
 |succ k ih =>
  obtain⟨b1,b2,_⟩:=Bd.fold hends hcost l (fun _ he=>he) C (s.1,s.2.1,-1) h hl;have hk:0<=(k:Int)*(l.length*10000):=Int.mul_nonneg (by omega) (by omega)
  have e:C+((k+1:Nat):Int)*(l.length*10000)=C+l.length*10000+k*(l.length*10000):=by
   rw[Int.natCast_add,Int.add_mul];omega
  rw[e,relax];split
  ·exact Bd.more b1 (by omega)
  ·exact ih _ (pass l s) b1 b2
structure Tight (n:Nat) (l:List E) (fr:Nat) (D:List Int):Prop where
 len:D.length=n
 start:D.getD fr 0=0
 still:∀e∈l,¬(dg D e.1<far/\dg D e.1+e.2.2<dg D e.2.1)
 into:∀v:Nat,v<n->v≠fr->D.getD v 0<far->∃e∈l,Into D v (D.getD v 0) e
 lb:Lb n D 1000000000000
 hi:∀v:Nat,v<n->D.getD v 0<=far
theorem dist_law {n fr:Nat} {l:List E} (hg:NetLaw.Good n l) (hf:fr<n) (h:(rl n l fr).2.2<0):Tight n l fr (rl n l fr).1:=by
 have hj:J n l fr (rl n l fr).1:=J.relax_ hg.ends (by omega) n _ (j_start hf l)
 have hb:Bd n (rl n l fr).1 384000000:=by
  refine(bd_relax hg.ends hg.cost n 0 (Bell.start n fr,List.replicate n (-1),-1) (bd_start hf) (by simp[start_len])).more ?_;have h1:=hg.len;have h2:=hg.hi;have h3:(n:Int)*(l.length*10000)<=64*(600*10000):=Int.mul_le_mul (by omega) (by omega) (by omega) (by omega);omega
 have hs:=relax_still (l:=l) (fun e he=>(hg.ends e he).2.2.1) n (by omega) _ h;obtain⟨t0,t1⟩:=BellLaw.tight hj hg.ends hg.cost hb (by unfold far;omega) (by omega) (by omega) hs;refine⟨by have:=hj.len;omega,by have:=t0;rwa [dg,Int.toNat_natCast] at this,hs,fun v v1 v2 v3=> ?_,fun v v1=> ?_,fun v v1=> ?_⟩
 ·have e:dg (rl n l fr).1 (v:Int)=(rl n l fr).1.getD v 0:=by rw[dg,Int.toNat_natCast]
  obtain⟨x,hx,x1,x2,x3⟩:=t1 v (by omega) (by omega) (by omega) (by rw[e];exact v3);exact⟨x,hx,x1,x2,by rw[x3,e]⟩
 ·have e:dg (rl n l fr).1 (v:Int)=(rl n l fr).1.getD v 0:=by rw[dg,Int.toNat_natCast]
  rw[<-e]
  by_cases hh:dg (rl n l fr).1 v<far
  ·have:=hb v (by omega) (by omega) hh;omega
  ·unfold far at hh;omega
 ·have:=hj.hi v (by omega) (by omega)
  rwa [dg,Int.toNat_natCast] at this
theorem wk_nonneg {l:List E} {fr v d:Int} (h:Wk l fr v d) (hc:∀e∈l,0<=e.2.2):0<=d:=by
 induction h with
 |here=>exact Int.le_refl _
 |step _ he _ ih=>have:=hc _ he;omega
theorem bell_sh {n fr:Nat} {l:List E} (hg:NetLaw.Good n l) (hf:fr<n) (h:(rl n l fr).2.2<0) (hc:∀e∈l,0<=e.2.2):Sh n fr l (rl n l fr).1:=by
 have hj:J n l fr (rl n l fr).1:=J.relax_ hg.ends (by omega) n _ (j_start hf l);have ht:=dist_law hg hf h;refine⟨hj.len,fun v v0 v1=>⟨?_,hj.hi v v0 v1⟩,?_,hj.wk,fun e he hfar=> ?_⟩
 ·by_cases hv:dg (rl n l fr).1 v<far
  ·exact wk_nonneg (hj.wk v v0 v1 hv) hc
  ·unfold far at hv;omega
 ·have:=ht.start
  rw[dg,Int.toNat_natCast];exact this
 ·have:=ht.still e he
  omega
end BellSh
namespace BellSh
open NetLaw BellLaw DijkLaw Bell
def rank (n:Nat) (Z:List Int) (v:Int):Nat:=(List.range n).countP fun (u:Nat)=>decide (dg Z (u:Int)<dg Z v)
theorem rank_lt {n:Nat} {Z:List Int} {u v:Int} (hu:0<=u/\u<n) (h:dg Z u<dg Z v):rank n Z u<rank n Z v:=by
 unfold rank
 have h1:(List.range n).countP (fun (x:Nat)=>decide (dg Z (x:Int)<dg Z v))=(List.range n).countP (fun (x:Nat)=>decide (dg Z (x:Int)<dg Z u))+(List.range n).countP (fun (x:Nat)=>decide (dg Z u<=dg Z (x:Int)/\dg Z (x:Int)<dg Z v)):=by
  induction List.range n with
  |nil=>rfl
  |cons a r ih =>
   rw[List.countP_cons,List.countP_cons,List.countP_cons,ih]
   by_cases c1:dg Z (a:Int)<dg Z u
   ·have c2:dg Z (a:Int)<dg Z v:=by omega
    have c4:¬dg Z u<=dg Z (a:Int):=by omega
    simp[c1,c2,c4];omega
   ·by_cases c2:dg Z (a:Int)<dg Z v
    ·have c3:dg Z u<=dg Z (a:Int):=by omega
     simp[c1,c2,c3];omega
    ·simp[c1,c2]
 have h2:0<(List.range n).countP (fun (x:Nat)=>decide (dg Z u<=dg Z (x:Int)/\dg Z (x:Int)<dg Z v)):=by
  rw[List.countP_pos_iff];refine⟨u.toNat,by rw[List.mem_range];omega,?_⟩;have e:((u.toNat:Nat):Int)=u:=Int.toNat_of_nonneg hu.1;rw[e];simp[h]
 omega
theorem rank_le {n:Nat} {Z:List Int} {v:Int} (hv:0<=v/\v<n):rank n Z v+1<=n:=by
 unfold rank;have h1:=List.countP_le_length (p:=fun (u:Nat)=>decide (dg Z (u:Int)<dg Z v)) (l:=List.range n)
 have h2:(List.range n).countP (fun (u:Nat)=>decide (dg Z (u:Int)<dg Z v))≠(List.range n).length:=fun h=>by
  rw[List.countP_eq_length] at h;have:=h v.toNat (by rw[List.mem_range];omega);have e:((v.toNat:Nat):Int)=v:=Int.toNat_of_nonneg hv.1;rw[e] at this;simp at this
 rw[List.length_range] at h1 h2;omega
theorem pred {n fr:Nat} {l:List E} {Z:List Int} (hZ:Sh n fr l Z) (hends:∀e∈l,0<=e.1/\e.1<n/\0<=e.2.1/\e.2.1<n) (hc:∀e∈l,1<=e.2.2) {v:Int} (hv:0<=v/\v<n) (hfar:dg Z v<far) (hne:v≠fr):∃e∈l,e.2.1=v/\dg Z e.1+e.2.2=dg Z v/\dg Z e.1<dg Z v:=by
 have hw:=hZ.wk v hv.1 hv.2 hfar
 have gen:∀d,Wk l fr v d->d=dg Z v->∃e∈l,e.2.1=v/\dg Z e.1+e.2.2=dg Z v/\dg Z e.1<dg Z v:=by
  intro d hw hd;cases hw with
  |here=>exact absurd rfl hne
  |step hu he hf =>
   have c:=hc _ he;have h1:=hZ.walk_le hends hu (by omega) (fun e he=>by have:=hc e he;omega);rw[<-hf] at h1;have h2:=hZ.still _ he (by omega);exact⟨_,he,rfl,by omega,by omega⟩
 exact gen _ hw rfl
end BellSh
namespace WayLaw
open NetLaw BellLaw DijkLaw WalkLaw
def pvS (D:List Int) (v:Int) (u:Int) (e:E):Int:=if e.2.1=v/\dg D e.1+e.2.2=dg D v then min u e.1 else u
def pv (N:Int) (l:List E) (D:List Int) (v:Int):Int:=l.foldl (pvS D v) N
theorem pv_succ (N:Int) (l:List E) (D:List Int) (v:Int) (k:Nat) (h:k<l.length):pv N (l.take (k+1)) D v=pvS D v (pv N (l.take k) D v) l[k]:=by
 unfold pv;rw[List.take_succ_eq_append_getElem h,List.foldl_append]
 rfl
def Lk (l:List E) (D:List Int) (u v:Int):Prop:=∃e∈l,e.1=u/\e.2.1=v/\dg D u+e.2.2=dg D v
theorem pv_fold {D:List Int} {v:Int} (r l:List E) (hr:∀e∈r,e∈l) (u:Int):r.foldl (pvS D v) u<=u/\(r.foldl (pvS D v) u=u\/Lk l D (r.foldl (pvS D v) u) v)/\∀e∈r,e.2.1=v->dg D e.1+e.2.2=dg D v->r.foldl (pvS D v) u<=e.1:=by
 induction r generalizing u with
 |nil=>exact⟨Int.le_refl _,.inl rfl,by simp⟩
 |cons e r ih =>
  obtain⟨h1,h2,h3⟩:=ih (fun x hx=>hr x (by simp[hx])) (pvS D v u e);have hs:pvS D v u e<=u:=by unfold pvS;split <;> omega
  refine⟨Int.le_trans h1 hs,?_,fun x hx a b=> ?_⟩
  ·rcases h2 with h2|h2
   ·rw[List.foldl_cons,h2]
    unfold pvS;split
    ·rename_i c
     rcases Int.le_total u e.1 with d|d
     ·left;omega
     ·right
      rw[Int.min_eq_right d];exact⟨e,hr e (by simp),rfl,c.1,c.2⟩
    ·left;rfl
   ·exact .inr h2
  ·rcases List.mem_cons.1 hx with rfl|hx
   ·refine Int.le_trans h1 ?_
    unfold pvS;rw[if_pos ⟨a,b⟩];omega
   ·exact h3 x hx a b
theorem pv_spec {n:Nat} {l:List E} {D:List Int} {fr:Nat} {v:Int} (hD:Sh n fr l D) (hg:NetLaw.Good n l) (hc:∀e∈l,1<=e.2.2) (hv:0<=v/\v<n) (hfar:dg D v<far) (hne:v≠fr):Lk l D (pv n l D v) v/\0<=pv n l D v/\pv n l D v<n/\dg D (pv n l D v)<dg D v:=by
 obtain⟨e,he,h1,h2,h3⟩:=BellSh.pred hD hg.ends hc hv hfar hne;obtain⟨a,b,c⟩:=pv_fold (D:=D) (v:=v) l l (fun _ h=>h) n;have hlt:=c e he h1 h2;have hen:=hg.ends e he
 have hL:Lk l D (pv n l D v) v:=by
  rcases b with b|b
  ·have:l.foldl (pvS D v) (n:Int)=n:=b
   omega
  ·exact b
 obtain⟨x,hx,x1,x2,x3⟩:=hL;have:=hg.ends x hx;have:=hc x hx;exact⟨⟨x,hx,x1,x2,x3⟩,by omega,by omega,by omega⟩
structure Bk (n:Nat) (l:List E) (D:List Int) (t9 v:Int) (b:List Int):Prop where
 head:b.head?=some t9
 last:b.getLast?=some v
 rng:∀x∈b,0<=x/\x<n/\dg D v<=dg D x/\dg D x<far
 link:∀q∈prs b,Lk l D q.2 q.1
 nd:b.Nodup
theorem prs_snoc {b:List Int} {v:Int} (h:b.getLast?=some v) (u:Int):prs (b++[u])=prs b++[(v,u)]:=by
 obtain⟨a,rfl⟩:∃a,b=a++[v]:=by
  rw[List.getLast?_eq_some_iff] at h;exact h
 rw[List.append_assoc,List.singleton_append,prs_join a v [u]]
 rfl
theorem Bk.one {n:Nat} {l:List E} {D:List Int} {t9:Int} (h:0<=t9/\t9<n) (hf:dg D t9<far):Bk n l D t9 t9 [t9] :=
 ⟨rfl,rfl,fun x hx=>by simp at hx;subst hx;exact⟨h.1,h.2,Int.le_refl _,hf⟩,fun q hq=>by simp[prs] at hq,by simp⟩
theorem Bk.add {n:Nat} {l:List E} {D:List Int} {t9 v u:Int} {b:List Int} (h:Bk n l D t9 v b) (hL:Lk l D u v) (hu:0<=u/\u<n) (hlt:dg D u<dg D v) (hvf:dg D v<far):Bk n l D t9 u (b++[u]):=by
 refine⟨?_,by simp,fun x hx=> ?_,fun q hq=> ?_,?_⟩
 ·have:=h.head
  cases b with
  |nil=>simp at this
  |cons a r=>simpa using this
 ·rcases List.mem_append.1 hx with hx|hx
  ·obtain⟨a,b,c,d⟩:=h.rng x hx
   exact⟨a,b,by omega,d⟩
  ·simp at hx;subst hx;exact⟨hu.1,hu.2,Int.le_refl _,by omega⟩
 ·rw[prs_snoc h.last] at hq
  rcases List.mem_append.1 hq with hq|hq
  ·exact h.link q hq
  ·simp at hq;subst hq;exact hL
 ·rw[List.nodup_append]
  refine⟨h.nd,by simp,fun x hx y hy e=> ?_⟩;simp at hy;subst hy;subst e;have:=(h.rng x hx).2.2.1;omega
theorem Bk.len {n:Nat} {l:List E} {D:List Int} {t9 v:Int} {b:List Int} (h:Bk n l D t9 v b):b.length<=n/\1<=b.length:=by
 have h1:(b.map Int.toNat).Nodup:=by
  rw[List.Nodup,List.pairwise_map];refine List.Pairwise.imp_of_mem (fun {x y} hx hy hxy e=>hxy ?_) h.nd;have:=(h.rng x hx).1;have:=(h.rng y hy).1;omega
 have h2:=FloydLaw.nodup_len h1 (k:=n) (fun m hm=>by
  rw[List.mem_map] at hm;obtain⟨x,hx,rfl⟩:=hm;have:=h.rng x hx;omega)
 rw[List.length_map] at h2;refine⟨h2,?_⟩;have:=h.head;cases b with
 |nil=>simp at this
 |cons a r=>simp
theorem prs_rev (b:List Int):prs b.reverse=(prs b).reverse.map fun q=>(q.2,q.1):=by
 induction b with
 |nil=>rfl
 |cons x r ih =>
  cases r with
  |nil=>rfl
  |cons y r =>
   have hl:(y::r).reverse.getLast?=some y:=by simp
   have e1:(x::y::r).reverse=(y::r).reverse++[x]:=List.reverse_cons;have e2:((x,y)::prs (y::r)).reverse=(prs (y::r)).reverse++[(x,y)]:=List.reverse_cons;rw[e1,prs_cons,e2,List.map_append, <-ih,prs_snoc hl]
   rfl
structure Wy (n:Nat) (l:List E) (D:List Int) (fr t9:Int) (p:List Int):Prop where
 head:p.head?=some fr
 last:p.getLast?=some t9
 rng:∀x∈p,0<=x/\x<n/\dg D x<far
 link:∀q∈prs p,Lk l D q.1 q.2
 nd:p.Nodup
 len:p.length<=n/\1<=p.length
theorem Bk.way {n:Nat} {l:List E} {D:List Int} {t9 fr:Int} {b:List Int} (h:Bk n l D t9 fr b):Wy n l D fr t9 b.reverse:=by
 refine⟨by rw[List.head?_reverse];exact h.last,by rw[List.getLast?_reverse];exact h.head,fun x hx=> ?_,fun q hq=> ?_,by rw[List.Nodup,List.pairwise_reverse];exact h.nd.imp (fun h e=>h e.symm),by rw[List.length_reverse];exact h.len⟩
 ·have:=h.rng x (List.mem_reverse.1 hx)
  exact⟨this.1,this.2.1,this.2.2.2⟩
 ·rw[prs_rev,List.mem_map] at hq
  obtain⟨q',hq',rfl⟩:=hq;exact h.link q' (List.mem_reverse.1 hq')
theorem eg_fold (a b:Int) (r:List E) (s:Int × Bool):(s.2=true->(r.foldl (egS a b) s).2=true/\(r.foldl (egS a b) s).1<=s.1)/\(∀e∈r,e.1=a->e.2.1=b->(r.foldl (egS a b) s).2=true/\(r.foldl (egS a b) s).1<=e.2.2)/\(r.foldl (egS a b) s=s\/∃e∈r,e.1=a/\e.2.1=b/\r.foldl (egS a b) s=(e.2.2,true)):=by
 induction r generalizing s with
 |nil=>exact⟨fun h=>⟨h,Int.le_refl _⟩,by simp,.inl rfl⟩
 |cons e r ih =>
  obtain⟨h1,h2,h3⟩:=ih (egS a b s e);rw[List.foldl_cons]
  by_cases hc:e.1=a/\e.2.1=b/\(s.2=false\/e.2.2<s.1)
  ·have hs:egS a b s e=(e.2.2,true):=by unfold egS;rw[if_pos hc]
   rw[hs] at h1 h2 h3 ⊢;obtain⟨p1,p2⟩:=h1 rfl;refine⟨fun hs2=>⟨p1,?_⟩,fun x hx xa xb=> ?_,.inr ?_⟩
   ·rcases hc.2.2 with h|h
    ·rw[h] at hs2;cases hs2
    ·simp only at p2;omega
   ·rcases List.mem_cons.1 hx with rfl|hx
    ·exact⟨p1,p2⟩
    ·exact h2 x hx xa xb
   ·rcases h3 with h|⟨x,hx,r1⟩
    ·exact⟨e,by simp,hc.1,hc.2.1,h⟩
    ·exact⟨x,by simp[hx],r1⟩
  ·have hs:egS a b s e=s:=by unfold egS;rw[if_neg hc]
   rw[hs] at h1 h2 h3 ⊢;refine⟨h1,fun x hx xa xb=> ?_,?_⟩
   ·rcases List.mem_cons.1 hx with rfl|hx
    ·have hs2:s.2=true:=by
      cases hb:s.2 with
      |true=>rfl
      |false=>exact absurd ⟨xa,xb,.inl hb⟩ hc
     obtain⟨p1,p2⟩:=h1 hs2;refine⟨p1,?_⟩;have:¬x.2.2<s.1:=fun h=>hc ⟨xa,xb,.inr h⟩;omega
    ·exact h2 x hx xa xb
   ·rcases h3 with h|⟨x,hx,r1⟩
    ·exact .inl h
    ·exact .inr ⟨x,by simp[hx],r1⟩
theorem eg_link {n:Nat} {l:List E} {D:List Int} {fr:Nat} {u v:Int} (hD:Sh n fr l D) (hu:dg D u<far) (h:Lk l D u v):eg l u v=(dg D v - dg D u,true):=by
 obtain⟨e,he,h1,h2,h3⟩:=h;obtain⟨_,a,b⟩:=eg_fold u v l (0,false);obtain⟨a1,a2⟩:=a e he h1 h2;unfold eg;rcases b with b|⟨x,hx,x1,x2,x3⟩
 ·rw[b] at a1;cases a1
 ·rw[x3] at a2 ⊢
  have:=hD.still x hx (by rw[x1];exact hu);rw[x1,x2] at this;simp only at a2;have:x.2.2=dg D v - dg D u:=by omega
  rw[this]
theorem links_cost {n:Nat} {l:List E} {D:List Int} {fr:Nat} (hD:Sh n fr l D) (p:List Int) (x y:Int) (hx:p.head?=some x) (hy:p.getLast?=some y) (hf:∀z∈p,dg D z<far) (hl:∀q∈prs p,Lk l D q.1 q.2) :
 okP l (prs p)=true/\sumP l (prs p)=dg D y - dg D x:=by
 induction p generalizing x with
 |nil=>simp at hx
 |cons a r ih =>
  simp at hx;subst hx;cases r with
  |nil =>
   simp at hy;subst hy;simp[prs,okP,sumP]
  |cons b r =>
   have hlk:Lk l D a b:=hl (a,b) (by rw[prs_cons];simp);have he:=eg_link hD (hf a (by simp)) hlk;obtain⟨i1,i2⟩:=ih b rfl (by simpa using hy) (fun z hz=>hf z (by simp[hz])) (fun q hq=>hl q (by rw[prs_cons];simp[hq]));rw[prs_cons];have s1:okP l ((a,b)::prs (b::r))=((eg l a b).2 && okP l (prs (b::r))):=by simp[okP]
   have s2:sumP l ((a,b)::prs (b::r))=(eg l a b).1+sumP l (prs (b::r)):=by simp[sumP]
   rw[s1,s2,he,i1,i2];exact⟨rfl,by simp only;omega⟩
end WayLaw
namespace BellCyc
open NetLaw BellLaw WalkLaw WayLaw
def it (P:List Int):Nat->Int->Int
 |0,v=>v
 |i+1,v=>dg P (it P i v)
theorem it_add (P:List Int) (i j:Nat) (v:Int):it P (i+j) v=it P i (it P j v):=by
 induction i with
 |zero=>rw[Nat.zero_add];rfl
 |succ i ih=>rw[Nat.succ_add,it,it,ih]
theorem it_one (P:List Int) (i:Nat) (v:Int):it P (i+1) v=it P i (dg P v):=it_add P i 1 v
def sm (l:List E) (P:List Int):Nat->Int->Int
 |0,_=>0
 |i+1,v=>sm l P i v+(eg l (it P (i+1) v) (it P i v)).1
theorem sm_one (l:List E) (P:List Int) (i:Nat) (v:Int):sm l P (i+1) v=(eg l (dg P v) v).1+sm l P i (dg P v):=by
 induction i with
 |zero=>simp[sm,it]
 |succ i ih =>
  show sm l P (i+1) v+(eg l (it P (i+2) v) (it P (i+1) v)).1=(eg l (dg P v) v).1+(sm l P i (dg P v)+(eg l (it P (i+1) (dg P v)) (it P i (dg P v))).1)
  rw[ih,it_one P (i+1) v,it_one P i v];omega
theorem sm_rot (l:List E) (P:List Int) (m:Nat) (v:Int) (h:it P m v=v) (j:Nat):it P m (it P j v)=it P j v/\sm l P m (it P j v)=sm l P m v:=by
 induction j with
 |zero=>exact⟨h,rfl⟩
 |succ j ih =>
  obtain⟨h1,h2⟩:=ih;have a:=sm_one l P m (it P j v);have b:sm l P (m+1) (it P j v)=sm l P m (it P j v)+(eg l (it P (m+1) (it P j v)) (it P m (it P j v))).1:=rfl;have c:it P (m+1) (it P j v)=dg P (it P j v):=by rw[it,h1]
  rw[c,h1] at b;have e:it P (j+1) v=dg P (it P j v):=rfl;refine⟨?_,by rw[e];omega⟩;rw[e, <-it_one,it,h1]
section
variable {n:Nat} {l:List E} {D P:List Int}
structure Pr (n:Nat) (l:List E) (D P:List Int):Prop where
 dl:D.length=n
 pl:P.length=n
 lo:∀v:Int,0<=v->v<n-> -1<=dg P v/\dg P v<n
 link:∀v:Int,0<=v->v<n->0<=dg P v->dg D (dg P v)<far/\(eg l (dg P v) v).2=true/\dg D (dg P v)+(eg l (dg P v) v).1<=dg D v
 neg:∀(v:Int) (m:Nat),v<n->0<m->(∀i,0<=it P i v)->it P m v=v->(∀i,0<i->i<m->it P i v≠v)->sm l P m v<0
theorem Pr.chain (h:Pr n l D P) (m:Nat) (v:Int) (v1:v<n) (hv:∀i,i<=m->0<=it P i v):it P m v<n/\dg D (it P m v)+sm l P m v<=dg D v:=by
 induction m with
 |zero=>exact⟨v1,by simp[it,sm]⟩
 |succ m ih =>
  obtain⟨h1,h2⟩:=ih fun i hi=>hv i (by omega);have h0:=hv m (by omega);have h3:=hv (m+1) zzL;obtain⟨_,_,a⟩:=h.link _ h0 h1 h3;refine⟨(h.lo _ h0 h1).2,?_⟩;rw[sm];have:it P (m+1) v=dg P (it P m v):=rfl;rw[this];omega
theorem eg_le {e:E} (he:e∈l):(eg l e.1 e.2.1).2=true/\(eg l e.1 e.2.1).1<=e.2.2:=(eg_fold e.1 e.2.1 l (0,false)).2.1 e he rfl rfl
theorem eg_at {a b:Int} (h:(eg l a b).2=true):∃e∈l,e.1=a/\e.2.1=b/\e.2.2=(eg l a b).1:=by
 rcases (eg_fold a b l (0,false)).2.2 with h1|⟨e,he,ha,hb,h1⟩
 ·have:eg l a b=(0,false):=h1
  rw[this] at h;cases h
 ·have:eg l a b=(e.2.2,true):=h1
  exact⟨e,he,ha,hb,by rw[this]⟩
theorem Pr.step {e:E} (h:Pr n l D P) (he:e∈l) (hr:0<=e.1/\e.1<n/\0<=e.2.1/\e.2.1<n) (h1:dg D e.1<far) (h2:dg D e.1+e.2.2<dg D e.2.1):Pr n l (D.set e.2.1.toNat (dg D e.1+e.2.2)) (P.set e.2.1.toNat e.1):=by
 obtain⟨u,x,c⟩:=e;simp only at hr h1 h2 ⊢;obtain⟨u0,u1,x0,x1⟩:=hr;have hD:∀v:Int,0<=v->dg (D.set x.toNat (dg D u+c)) v=if v=x then dg D u+c else dg D v:=fun v v0=>dg_set x0 (by rw[h.dl];exact x1) v0
 have hP:∀v:Int,0<=v->dg (P.set x.toNat u) v=if v=x then u else dg P v:=fun v v0=>dg_set x0 (by rw[h.pl];exact x1) v0
 obtain⟨g1,g2⟩:=eg_le he;simp only at g1 g2;refine⟨by rw[List.length_set];exact h.dl,by rw[List.length_set];exact h.pl,fun v v0 v1=> ?_,fun v v0 v1 hp=> ?_,fun v m v1 hm hpos hcyc hmin=> ?_⟩
 ·rw[hP v v0]
  split
  ·omega
  ·exact h.lo v v0 v1
 ·rw[hP v v0] at hp ⊢
  rw[hD v v0]
  by_cases hv:v=x
  ·rw[if_pos hv] at hp ⊢
   rw[if_pos hv,hD u u0,hv]
   by_cases hu:u=x
   ·rw[if_pos hu]
    subst hu;exact⟨by omega,g1,by omega⟩
   ·rw[if_neg hu]
    exact⟨h1,g1,by omega⟩
  ·rw[if_neg hv] at hp ⊢
   rw[if_neg hv,hD _ hp];obtain⟨a,b,d⟩:=h.link v v0 v1 hp;refine⟨?_,b,?_⟩
   ·split
    ·rename_i e;rw[e] at a;omega
    ·exact a
   ·split
    ·rename_i e;rw[e] at d;rw[e];omega
    ·exact d
 ·by_cases hj:∃j,it (P.set x.toNat u) j v=x
  ·obtain⟨j,hj⟩:=hj
   obtain⟨r1,r2⟩:=sm_rot l (P.set x.toNat u) m v hcyc j;rw[hj] at r1 r2;rw[<-r2];obtain⟨k,rfl⟩:∃k,m=k+1:=⟨m - 1,by omega⟩;have hx:dg (P.set x.toNat u) x=u:=by rw[hP x x0,if_pos rfl]
   rw[sm_one,hx];rw[it_one,hx] at r1
   have hne:∀i,i<k->it (P.set x.toNat u) i u≠x:=fun i hi e=>by
    have e1:it (P.set x.toNat u) (i+1) x=x:=by rw[it_one,hx];exact e
    have e1':it (P.set x.toNat u) (i+1+j) v=it (P.set x.toNat u) j v:=by rw[it_add,hj];exact e1
    refine hmin (i+1) (by omega) (by omega) ?_
    obtain⟨q,hq⟩:∃q,j+q=(k+1)*(j+1):=⟨(k+1)*(j+1) - j,by
     have:j+1<=(k+1)*(j+1):=Nat.le_mul_of_pos_left _ (by omega);omega⟩
    have hper:∀t,it (P.set x.toNat u) ((k+1)*t) v=v:=fun t=>by
     induction t with
     |zero=>rfl
     |succ t ih=>rw[Nat.mul_succ,it_add,hcyc,ih]
    have e2:it (P.set x.toNat u) (q+(i+1+j)) v=it (P.set x.toNat u) (q+j) v:=by rw[it_add,e1', <-it_add]
    have e3:q+(i+1+j)=(i+1)+(k+1)*(j+1):=by omega
    have e4:q+j=(k+1)*(j+1):=by omega
    rw[e3,e4,it_add,hper] at e2;exact e2
   have heq:∀i,i<=k->it (P.set x.toNat u) i u=it P i u:=fun i=>by
    induction i with
    |zero=>intro _;rfl
    |succ i ih =>
     intro hi;have h3:=hne i (by omega);have h4:=hpos (i+1+j);rw[it_add,hj,it_one,hx] at h4;rw[it,it,hP _ h4,if_neg h3,ih (by omega)]
   have hsm:∀i,i<=k->sm l (P.set x.toNat u) i u=sm l P i u:=fun i=>by
    induction i with
    |zero=>intro _;rfl
    |succ i ih=>intro hi;rw[sm,sm,ih (by omega),heq _ hi,heq _ (by omega)]
   have hc:=h.chain k u u1 fun i hi=>by
    have h4:=hpos (i+1+j);rw[it_add,hj,it_one,hx,heq i hi] at h4;exact h4
   rw[<-heq k zzL,r1] at hc;rw[hsm k zzL];omega
  ·have hne:∀i,it (P.set x.toNat u) i v≠x:=fun i e=>hj ⟨i,e⟩
   have heq:∀i,it (P.set x.toNat u) i v=it P i v:=fun i=>by
    induction i with
    |zero=>rfl
    |succ i ih=>rw[it,it,hP _ (hpos i),if_neg (hne i),ih]
   have hsm:∀i,sm l (P.set x.toNat u) i v=sm l P i v:=fun i=>by
    induction i with
    |zero=>rfl
    |succ i ih=>rw[sm,sm,ih,heq,heq]
   rw[hsm];exact h.neg v m v1 hm (fun i=>by rw[<-heq];exact hpos i) (by rw[<-heq];exact hcyc) fun i a b=>by rw[<-heq];exact hmin i a b
def Still (D:List Int) (e:E):Prop:=¬(dg D e.1<far/\dg D e.1+e.2.2<dg D e.2.1)
structure Rd (n:Nat) (l:List E) (D P:List Int) (R:Int->Nat) (K:Nat) (r:List E):Prop where
 pr:Pr n l D P
 le:∀v,R v<=K
 rk:∀v:Int,0<=v->v<n->1<=R v->0<=dg P v/\R v<=R (dg P v)+1
 old:∀e∈l,Still D e\/K<=R e.1+1
 new:∀e∈l,e∈r\/Still D e\/K<=R e.1
def Lst (n:Nat) (R:Int->Nat) (K:Nat) (x:Int):Prop:=x= -1\/(0<=x/\x<n/\R x=K)
theorem Rd.fold (hends:∀e∈l,0<=e.1/\e.1<n/\0<=e.2.1/\e.2.1<n) {K:Nat} (hK:1<=K) (r:List E) (hr:∀e∈r,e∈l) (s:St) (R:Int->Nat) (h:Rd n l s.1 s.2.1 R K r) (hl:Lst n R K s.2.2) :
 ∃R',Rd n l (r.foldl rx s).1 (r.foldl rx s).2.1 R' K []/\Lst n R' K (r.foldl rx s).2.2:=by
 induction r generalizing s R with
 |nil=>exact⟨R,h,hl⟩
 |cons e r ih =>
  rw[List.foldl_cons];have he:e∈l:=hr e (by simp);have hr':∀e∈r,e∈l:=fun x hx=>hr x (by simp[hx])
  by_cases hc:dg s.1 e.1<far/\dg s.1 e.1+e.2.2<dg s.1 e.2.1
  ·have hs:rx s e=(s.1.set e.2.1.toNat (dg s.1 e.1+e.2.2),s.2.1.set e.2.1.toNat e.1,e.2.1):=by rw[rx,if_pos hc]
   rw[hs];obtain⟨u0,u1,x0,x1⟩:=hends e he;have hD:∀v:Int,0<=v->dg (s.1.set e.2.1.toNat (dg s.1 e.1+e.2.2)) v=if v=e.2.1 then dg s.1 e.1+e.2.2 else dg s.1 v:=fun v v0=>dg_set x0 (by rw[h.pr.dl];exact x1) v0
   have hP:∀v:Int,0<=v->dg (s.2.1.set e.2.1.toNat e.1) v=if v=e.2.1 then e.1 else dg s.2.1 v:=fun v v0=>dg_set x0 (by rw[h.pr.pl];exact x1) v0
   have hu:K<=R e.1+1:=by
    rcases h.old e he with h1|h1
    ·exact absurd hc h1
    ·exact h1
   have hst:∀y∈l,y.1≠e.2.1->Still s.1 y->Still (s.1.set e.2.1.toNat (dg s.1 e.1+e.2.2)) y:=fun y hy h1 h2=>by
    obtain⟨y0,y1,z0,z1⟩:=hends y hy;unfold Still at h2 ⊢;rw[hD _ y0,if_neg h1,hD _ z0];split
    ·rename_i e';rw[e'] at h2;omega
    ·exact h2
   refine ih hr' _ (fun v=>if v=e.2.1 then K else R v) ⟨h.pr.step he (hends e he) hc.1 hc.2,fun v=> ?_,fun v v0 v1 hv=> ?_,fun y hy=> ?_,fun y hy=> ?_⟩ (.inr ⟨x0,x1,by simp⟩)
   ·show (if v=e.2.1 then K else R v)<=K
    split
    ·exact Nat.le_refl _
    ·exact h.le v
   ·dsimp only at hv ⊢
    rw[hP v v0]
    by_cases hvx:v=e.2.1
    ·rw[if_pos hvx,if_pos hvx]
     refine⟨u0,?_⟩;split <;> omega
    ·rw[if_neg hvx] at hv ⊢
     rw[if_neg hvx];obtain⟨a,b⟩:=h.rk v v0 v1 hv;refine⟨a,?_⟩;split
     ·have:=h.le v;omega
     ·exact b
   ·dsimp only
    by_cases hyx:y.1=e.2.1
    ·rw[if_pos hyx];right;omega
    ·rw[if_neg hyx]
     rcases h.old y hy with h1|h1
     ·exact .inl (hst y hy hyx h1)
     ·exact .inr h1
   ·dsimp only
    by_cases hyx:y.1=e.2.1
    ·rw[if_pos hyx];right;right;exact Nat.le_refl _
    ·rw[if_neg hyx]
     rcases h.new y hy with h1|h1|h1
     ·rcases List.mem_cons.1 h1 with h1|h1
      ·subst h1
       right;left
       unfold Still;rw[hD _ u0,if_neg hyx,hD _ x0,if_pos rfl];omega
      ·exact .inl h1
     ·exact .inr (.inl (hst y hy hyx h1))
     ·exact .inr (.inr h1)
  ·have hs:rx s e=s:=by rw[rx,if_neg hc]
   rw[hs];refine ih hr' s R ⟨h.pr,h.le,h.rk,h.old,fun y hy=> ?_⟩ hl;rcases h.new y hy with h1|h1|h1
   ·rcases List.mem_cons.1 h1 with h1|h1
    ·subst h1;exact .inr (.inl hc)
    ·exact .inl h1
   ·exact .inr (.inl h1)
   ·exact .inr (.inr h1)
theorem Rd.relax_ (hends:∀e∈l,0<=e.1/\e.1<n/\0<=e.2.1/\e.2.1<n) (k:Nat):∀(K:Nat) (hK:1<=K) (s:St) (R:Int->Nat) (h:Rd n l s.1 s.2.1 R K l) (hl:0<=(relax l (k+1) s).2.2),
 ∃R',Rd n l (relax l (k+1) s).1 (relax l (k+1) s).2.1 R' (K+k) []/\Lst n R' (K+k) (relax l (k+1) s).2.2:=by
 induction k with
 |zero =>
  intro K hK s R h hl;obtain⟨R',h1,h2⟩:=Rd.fold hends hK l (fun _ h=>h) (s.1,s.2.1,-1) R h (.inl rfl);have e:relax l 1 s=pass l s:=by rw[relax];split <;> rfl
  rw[e];exact⟨R',h1,h2⟩
 |succ k ih =>
  intro K hK s R h hl;obtain⟨R',h1,h2⟩:=Rd.fold hends hK l (fun _ h=>h) (s.1,s.2.1,-1) R h (.inl rfl);rw[relax] at hl ⊢;split at hl
  ·exact absurd hl (by omega)
  ·rename_i hp
   rw[if_neg hp]
   have hold:∀e∈l,Still (pass l s).1 e\/K+1<=R' e.1+1:=fun e he=>by
    rcases h1.new e he with h5|h5|h5
    ·cases h5
    ·exact .inl h5
    ·exact .inr (by omega)
   obtain⟨R2,h3,h4⟩:=ih (K+1) (by omega) (pass l s) R' ⟨h1.pr,fun v=>Nat.le_succ_of_le (h1.le v),h1.rk,hold,fun e he=> .inl he⟩ hl;have e:K+1+k=K+(k+1):=by omega
   rw[e] at h3 h4;exact⟨R2,h3,h4⟩
theorem least (p:Nat->Prop) (m:Nat) (h:p m):∃k,k<=m/\p k/\∀i,i<k->¬p i:=by
 induction m using Nat.strongRecOn with
 |ind m ih =>
  by_cases hq:∃i,i<m/\p i
  ·obtain⟨i,hi,hp⟩:=hq
   obtain⟨k,hk,h1,h2⟩:=ih i hi hp;exact⟨k,by omega,h1,h2⟩
  ·exact⟨m,Nat.le_refl _,h,fun i hi hp=>hq ⟨i,hi,hp⟩⟩
structure Cyc (n:Nat) (l:List E) (P:List Int) (c:Int) (m:Nat):Prop where
 pos:0<m
 le:m<=n
 rng:∀i,0<=it P i c/\it P i c<n
 back:it P m c=c
 first:∀i,0<i->i<m->it P i c≠c
 neg:sm l P m c<0
 edge:∀i,(eg l (it P (i+1) c) (it P i c)).2=true
theorem pigeon (f:Nat->Int) (h:∀i,i<=n->0<=f i/\f i<n):∃i j,i<j/\j<=n/\f i=f j:=by
 refine Classical.byContradiction fun hno=> ?_
 have hnd:((List.range (n+1)).map fun i=>(f i).toNat).Nodup:=by
  rw[List.Nodup,List.pairwise_map,List.pairwise_iff_getElem];intro i j hi hj hij e;simp only[List.length_range] at hi hj;simp only[List.getElem_range] at e;have a:=h i (by omega);have b:=h j (by omega);exact hno ⟨i,j,hij,by omega,by omega⟩
 have:=FloydLaw.nodup_len (k:=n) hnd fun m hm=>by
  rw[List.mem_map] at hm;obtain⟨i,hi,rfl⟩:=hm;rw[List.mem_range] at hi;have:=h i (by omega);omega
 rw[List.length_map,List.length_range] at this;omega
theorem cyc_at (hn:1<=n) (hends:∀e∈l,0<=e.1/\e.1<n/\0<=e.2.1/\e.2.1<n) (D:List Int) (x:Int) (hD:D.length=n) (hl:0<=(relax l n (D,List.replicate n (-1),x)).2.2) :
 ((relax l n (D,List.replicate n (-1),x)).2.2<n/\∀i,0<=it (relax l n (D,List.replicate n (-1),x)).2.1 i (relax l n (D,List.replicate n (-1),x)).2.2/\it (relax l n (D,List.replicate n (-1),x)).2.1 i (relax l n (D,List.replicate n (-1),x)).2.2<n)/\∃m,Cyc n l (relax l n (D,List.replicate n (-1),x)).2.1 (it (relax l n (D,List.replicate n (-1),x)).2.1 n (relax l n (D,List.replicate n (-1),x)).2.2) m:=by
 have hdg:∀v:Int,0<=v->v<n->dg (List.replicate n (-1)) v= -1:=fun v v0 v1=>by
  rw[dg,List.getD_eq_getElem?_getD,List.getElem?_replicate,if_pos (by omega)]
  rfl
 have h0:Rd n l D (List.replicate n (-1)) (fun _=>0) 1 l:=by
  refine⟨⟨hD,by simp,fun v v0 v1=> ?_,fun v v0 v1 hv=> ?_,fun v m v1 hm hpos _ _=> ?_⟩,fun _=>by omega,fun _ _ _ h=>absurd h (by omega),fun _ _=> .inr (by omega),fun _ h=> .inl h⟩
  ·rw[hdg v v0 v1];omega
  ·rw[hdg v v0 v1] at hv;omega
  ·have h1:=hpos 0
   have h2:=hpos 1;rw[it] at h1;rw[it,it,hdg v h1 v1] at h2;omega
 obtain⟨k,rfl⟩:∃k,n=k+1:=⟨n - 1,by omega⟩;obtain⟨R,hR,hL⟩:=Rd.relax_ hends k 1 zzL _ _ h0 hl;generalize relax l (k+1) (D,List.replicate (k+1) (-1),x)=s at *;obtain⟨D1,P,v⟩:=s;simp only at *;rcases hL with hL|⟨v0,v1,hRv⟩
 ·omega
 have hch:∀i,i<=k+1->(0<=it P i v/\it P i v<((k+1:Nat):Int))/\1+k<=R (it P i v)+i:=fun i=>by
  induction i with
  |zero=>intro _;exact⟨⟨v0,v1⟩,by rw[it,hRv];omega⟩
  |succ i ih =>
   intro hi;obtain⟨⟨a,b⟩,c⟩:=ih (by omega);obtain⟨d,e⟩:=hR.rk _ a b (by omega);have:=hR.pr.lo _ a b;exact⟨⟨d,this.2⟩,by rw[it];omega⟩
 obtain⟨i,j,hij,hj,he⟩:=pigeon (n:=k+1) (fun i=>it P i v) fun i hi=>(hch i hi).1;obtain⟨m,rfl⟩:∃m,j=m+i:=⟨j - i,by omega⟩;have hm:0<m:=by omega
 have he:it P i v=it P m (it P i v):=by rw[<-it_add];exact he
 have hall:∀q,0<=it P q (it P i v)/\it P q (it P i v)<((k+1:Nat):Int):=fun q=>by
  induction q using Nat.strongRecOn with
  |ind q ih =>
   rcases Nat.lt_or_ge q m with hq|hq
   ·rw[<-it_add];exact(hch (q+i) (by omega)).1
   ·have:=ih (q - m) (by omega)
    obtain⟨r,rfl⟩:∃r,q=r+m:=⟨q - m,by omega⟩;rw[it_add, <-he];rw[Nat.add_sub_cancel] at this;exact this
 have hev:∀q,0<=it P q v/\it P q v<((k+1:Nat):Int):=fun q=>by
  rcases Nat.lt_or_ge q i with hq|hq
  ·exact(hch q (by omega)).1
  ·obtain⟨r,rfl⟩:∃r,q=r+i:=⟨q - i,by omega⟩
   rw[it_add];exact hall r
 refine⟨⟨v1,hev⟩,?_⟩;have hc:it P (k+1) v=it P (k+1 - i) (it P i v):=by rw[<-it_add];congr 1;omega
 have hback:it P m (it P (k+1) v)=it P (k+1) v:=by rw[hc];exact(sm_rot l P m (it P i v) he.symm (k+1 - i)).1
 obtain⟨m0,h1,⟨h2,h3⟩,h4⟩:=least (fun m=>0<m/\it P m (it P (k+1) v)=it P (k+1) v) m ⟨hm,hback⟩;have hrng:∀q,0<=it P q (it P (k+1) v)/\it P q (it P (k+1) v)<((k+1:Nat):Int):=fun q=>by rw[<-it_add];exact hev _
 have hfst:∀q,0<q->q<m0->it P q (it P (k+1) v)≠it P (k+1) v:=fun q q0 q1 e=>h4 q q1 ⟨q0,e⟩;refine⟨m0,h2,by omega,hrng,h3,hfst,hR.pr.neg _ m0 (hrng 0).2 h2 (fun q=>(hrng q).1) h3 hfst,fun q=> ?_⟩;exact(hR.pr.link _ (hrng q).1 (hrng q).2 (hrng (q+1)).1).2.1
theorem Cyc.wk {c:Int} {m:Nat} (h:Cyc n l P c m):Wk l c c (sm l P m c):=by
 have key:∀i,i<=m->Wk l (it P m c) (it P (m - i) c) (sm l P m c - sm l P (m - i) c):=fun i=>by
  induction i with
  |zero=>intro _;rw[Nat.sub_zero,Int.sub_self];exact Wk.here
  |succ i ih =>
   intro hi;have h1:=ih (by omega);obtain⟨j,hj⟩:∃j,m - i=j+1:=⟨m - i - 1,by omega⟩;have hj':m - (i+1)=j:=by omega
   rw[hj] at h1;rw[hj'];obtain⟨e,he,ha,hb,hc⟩:=eg_at (h.edge j);have h2:=Wk.step h1 he ha;rw[hb,hc] at h2;have e2:sm l P m c - sm l P (j+1) c+(eg l (it P (j+1) c) (it P j c)).1=sm l P m c - sm l P j c:=by rw[sm];omega
   rw[e2] at h2;exact h2
 have h1:=key m zzL;rw[Nat.sub_self,h.back] at h1
 simpa [sm,it] using h1
end
end BellCyc
namespace Sink
open Go
section
variable {P:Program} {ops:Array Oper} {Q:Exit->Act->World->Prop} {md:Region.Mode} {S:World->Prop}
def Any (P:Program) (md:Region.Mode) (ops:Array Oper) (Q:Exit->Act->World->Prop) (S:World->Prop) (n:Nat):Nat->Array Bool->Act->World->Prop
 |0,listed,a,w=>Region.ready md ops listed=[]/\Q .normal a w
 |f+1,listed,a,w=>(Region.ready md ops listed=[]->Q .normal a w)/\∀i∈Region.ready md ops listed,wpOp P ops Q i (fun a' w'=>(i=n\/S w')/\Any P md ops Q S n f (listed.setIfInBounds i true) a' w') a w
theorem Any.any {n:Nat}:∀(f:Nat) (listed:Array Bool) (a:Act) (w:World),Any P md ops Q S n f listed a w->wpAny P md ops Q f listed a w
 |0,_,_,_,h=>h
 |f+1,_,_,_,h=>⟨h.1,fun i hi=>wpOp_mono (fun a' w' h'=>Any.any f _ a' w' h'.2) (h.2 i hi)⟩
theorem Any.first {n i:Nat} {oi:Oper} {v:Value} (hi:ops[i]?=some oi) (hsel:Region.noSelect ops=true) (hs:Region.sinkB md ops n=true) (hc:Region.chainB md ops n=true) (hn:n<ops.size) (hin:i<n)
 (hQ:∀c a w,¬Q (.panic c) a w):∀(f:Nat) (listed:Array Bool) (a:Act) (w:World),HeadInv md ops n listed ->
   (∀j oj,ops[j]?=some oj->j≠i->listed.getD j true=false->(∀e∈oj.after,Region.binds md e=true->e.on≠i)->oi.apart ops oj=true) ->
   i∈Region.ready md ops listed->YieldsIf P ops S oi v a->S w->Any P md ops Q S n f (listed.setIfInBounds i true) (a.put oi.dst v) w->Any P md ops Q S n (f+1) listed a w:=by
 have sel:=Region.noSelect_spec hsel;intro f
 induction f with
 |zero =>
  intro listed a w inv _ hr hy hS H;refine⟨fun h=>(by rw[h] at hr;cases hr),fun j hj=> ?_⟩
  by_cases e:j=i
  ·rw[e]
   exact hy.wpOp hi hS ⟨.inr hS,H⟩
  ·have:=ready_mono hj e
   rw[H.1] at this;cases this
 |succ f ih =>
  intro listed a w inv hfree hr hy hS H;have hun:=(mem_ready.1 hr).1;refine⟨fun h=>(by rw[h] at hr;cases hr),fun j hj=> ?_⟩
  have hjn:j<n:=by
   rcases Nat.lt_or_ge j n with h|h
   ·exact h
   ·exact absurd hj (tail_waits hs hc hn inv _ i rfl hin hun j h)
  by_cases e:j=i
  ·rw[e]
   exact hy.wpOp hi hS ⟨.inr hS,H⟩
  ·obtain⟨hjun,oj,hoj,hall⟩:=mem_ready.1 hj
   have hno:∀x∈oj.after,Region.binds md x=true->x.on≠i:=fun x hx hb hxi=>by
    have h1:=hall x hx hb;rw[hxi,getD_both hun] at h1;cases h1
   have h2:=wpOp_putIf hoj (hfree j oj hoj e hjun hno) (fun cs b=>sel i oi cs b hi) (fun cs b=>sel j oj cs b hoj) (fun c a w h=>absurd h (hQ _ _ _)) hy (H.2 j (ready_mono hj e));refine wpOp_mono (fun a' w' h3=> ?_) h2;have hSw:S w':=h3.2.1.resolve_left (by omega);refine⟨.inr hSw,ih (listed.setIfInBounds j true) a' w' (inv.set hj hjn) (fun k ok hk hki hku hkn=> ?_) (ready_mono hr (fun h=>e h.symm)) h3.1 hSw ?_⟩
   ·refine hfree k ok hk hki ?_ hkn
    by_cases hjk:j=k
    ·subst hjk;exact hjun
    ·rw[getD_set_ne true hjk] at hku
     exact hku
   ·rw[Array.setIfInBounds_comm _ _ e]
    exact h3.2.2
def Head (P:Program) (ops:Array Oper) (S:World->Prop):List Oper->Act->(Act->Prop)->Prop
 | [],a,R=>R a
 |o::l,a,R=>∃v,YieldsIf P ops S o v a/\Head P ops S l (a.put o.dst v) R
def Tail (P:Program) (ops:Array Oper) (S:World->Prop) (Q:Exit->Act->World->Prop):List Oper->Act->World->Prop
 | [],a,w=>Q .normal a w
 | [o],a,w=>wpList P ops Q [o] a w
 |o::l,a,w=>∀K:Act->World->Prop,Shut (∀a w,S w->(S w->Tail P ops S Q l a w)->K a w)->if Region.wanted o (yielded ops a.tmps)=true then o.wp P a w K Q else K (a.put o.dst undef) w
theorem tail_any {n:Nat}:∀(l:List Oper) (k:Nat) (listed:Array Bool) (a:Act) (w:World),(∀j,l[j]?=ops[k+j]?)->(l=[]\/k+l.length=n+1)->Region.seqB md ops l.length k listed=true->Tail P ops S Q l a w->Any P md ops Q S n l.length listed a w
 | [],_,_,_,_,_,_,hB,h=>⟨by simpa [Region.seqB] using hB,h⟩
 | [o],k,listed,a,w,hl,hk,hB,h=>by
   have h0:ops[k]?=some o:=by simpa using (hl 0).symm
   have hkn:k=n:=by simpa using hk
   simp only[List.length_cons,List.length_nil,Region.seqB,Bool.and_eq_true,decide_eq_true_eq] at hB;refine⟨fun h1=>(by rw[hB.1] at h1;cases h1),fun i hi=> ?_⟩;rw[hB.1] at hi;obtain rfl:i=k:=by simpa using hi
   have h1:wpOp P ops Q i (wpList P ops Q []) a w:=by unfold wpOp;simp only[h0];exact h
   exact wpOp_mono (fun a' w' h'=>⟨.inl hkn,by simpa using hB.2,h'⟩) h1
 |o::o'::l,k,listed,a,w,hl,hk,hB,h=>by
  have h0:ops[k]?=some o:=by simpa using (hl 0).symm
  rw[List.length_cons,Region.seqB,Bool.and_eq_true,decide_eq_true_eq] at hB;refine⟨fun h1=>(by rw[hB.1] at h1;cases h1),fun i hi=> ?_⟩;rw[hB.1] at hi;obtain rfl:i=k:=by simpa using hi
  refine wpOp_step h0 fun K hK=>h K (fun a' w' hS ht=>hK a' w' ⟨.inr hS,?_⟩);exact tail_any (o'::l) (i+1) _ a' w' (fun j=>by have:=hl (j+1);simpa [Nat.add_assoc,Nat.add_comm 1 j] using this) (.inr (by simp at hk ⊢;omega)) hB.2 (ht hS)
theorem head_any {n:Nat} (hsel:Region.noSelect ops=true) (hs:Region.sinkB md ops n=true) (hc:Region.chainB md ops n=true) (hn:n<ops.size) (hQ:∀c a w,¬Q (.panic c) a w) (t:List Oper) (w:World) (hS:S w) :
 ∀(l:List Oper) (k:Nat) (listed:Array Bool) (a:Act),(∀j,j<l.length->l[j]?=ops[k+j]?)->(∀j,t[j]?=ops[k+l.length+j]?)->k+l.length<=n->k+l.length+t.length=n+1->HeadInv md ops n listed ->
 Region.lexHead md ops t.length l.length k listed=true->Head P ops S l a (fun a'=>Tail P ops S Q t a' w)->Any P md ops Q S n (l.length+t.length) listed a w
 | [],k,listed,a,_,ht,hk,hk2,inv,hB,h=>by
   rw[List.length_nil,Nat.zero_add];exact tail_any t k listed a w (fun j=>by simpa using ht j) (.inr (by simpa using hk2)) (by simpa [Region.lexHead] using hB) h
 |o::l,k,listed,a,hl,ht,hk,hk2,inv,hB,h=>by
  have h0:ops[k]?=some o:=by simpa using (hl 0 (by simp)).symm
  simp only[List.length_cons] at hk hk2 ht;simp only[List.length_cons,Region.lexHead,Bool.and_eq_true] at hB;obtain⟨⟨hr,hf⟩,hB'⟩:=hB;have hr':k∈Region.ready md ops listed:=by simpa using hr
  obtain⟨v,hy,hK⟩:=h;rw[List.length_cons,show l.length+1+t.length=(l.length+t.length)+1 by omega];refine Any.first h0 hsel hs hc hn (by omega) hQ _ listed a w inv (Region.free_spec h0 hf) hr' hy hS ?_
  exact head_any hsel hs hc hn hQ t w hS l (k+1) _ _ (fun j hj=>by have:=hl (j+1) (by simp;omega);simpa [Nat.add_assoc,Nat.add_comm 1 j] using this)
   (fun j=>by have:=ht j;rwa [show k+(l.length+1)+j=k+1+l.length+j by omega] at this) (by omega) (by omega) (inv.set hr' (by omega)) hB' hK
def okB (md:Region.Mode) (ops:Array Oper) (m n:Nat):Bool :=
 Region.noSelect ops && decide (n<ops.size) && decide (n+1=ops.size) && decide (m<=n) && Region.sinkB md ops n && Region.chainB md ops n && Region.lexHead md ops (ops.size - m) m 0 (Array.replicate ops.size false)
theorem wp_region_sink {id:Nat} {a:Act} {w:World} {l:List Oper} (m n:Nat) (S:World->Prop) (hm:P.follows .mixedOrders=true) (hB:okB .any l.toArray m n=true) (hS:S w.drew)
 (h:S w.drew->Head P l.toArray S (l.take m) a (fun a'=>Tail P l.toArray S (NoPanic Q) (l.drop m) a' w.drew)):(Code.region id l.toArray true).wp P Q a w:=by
 refine wp_region_noPanic ?_;simp only[okB,Bool.and_eq_true,decide_eq_true_eq] at hB;obtain⟨⟨⟨⟨⟨⟨hsel,hn⟩,hn1⟩,hmn⟩,hs⟩,hc⟩,hlex⟩:=hB;have hsz:n+1=l.length:=by simpa using hn1
 have htl:(l.take m).length=m:=by simp;omega
 have hdl:(l.drop m).length=l.toArray.size - m:=by simp
 have inv0:HeadInv .any l.toArray n (Array.replicate l.toArray.size false) :=
  ⟨by simp,fun j oj _ hl=>(by rw[getD_replicate_false] at hl;cases hl),fun t _ ht=>getD_in (by simpa using ht) (getD_replicate_false _ _)⟩
 have H:=head_any (md:= .any) (S:=S) hsel hs hc hn (fun c a w h=>(h:False)) (l.drop m) w.drew hS (l.take m) 0 _ a (fun j hj=>by
  have hj':j<m:=by rw[htl] at hj;exact hj
  simp[hj']) (fun j=>by rw[htl];simp[List.getElem?_drop]) (by rw[htl];omega) (by rw[htl,List.length_drop];omega) inv0 (by rw[htl,hdl];exact hlex) (h hS)
 have H2:=Any.any _ _ _ _ H;rw[htl,hdl,show m+(l.toArray.size - m)=l.toArray.size by simp;omega] at H2;exact wp_region_any hm H2
theorem Head.nil {a:Act} {R:Act->Prop} (h:R a):Head P ops S [] a R:=h
theorem Head.cons {o:Oper} {l:List Oper} {a:Act} {R:Act->Prop} (v:Value) (h1:Region.wanted o (yielded ops a.tmps)=true) (h2:∀w,S w->(execOp a.eval o).run P w= .ok (.value v) w) (h:Head P ops S l (a.put o.dst v) R):Head P ops S (o::l) a R:=⟨v,.inl ⟨h1,h2⟩,h⟩
theorem Tail.cons {o o':Oper} {l:List Oper} {a:Act} {w:World} (h:∀K:Act->World->Prop,Shut (∀a w,S w->(S w->Tail P ops S Q (o'::l) a w)->K a w)->if Region.wanted o (yielded ops a.tmps)=true then o.wp P a w K Q else K (a.put o.dst undef) w):Tail P ops S Q (o::o'::l) a w:=h
theorem Tail.one {o:Oper} {a:Act} {w:World} (h:wpList P ops Q [o] a w):Tail P ops S Q [o] a w:=h
end
end Sink
namespace Mat
open Go.RowKit NetLaw FloydLaw Net
structure Mt {T:Type} (w:World) (tr te:TypeId) (q:T->Value) (base S n m:Nat) (F:Nat->Nat) (M:Mx T):Prop where
 lo:base<=S
 blk:∃cs:Array Value,w.heap[S]?=some (.cells cs tr (0,0))/\cs.size=n/\(∀v,v<n->∃u,cs[v]?=some u)/\∀v,v<m->cs[v]?=some (.slice (some ⟨F v,0,none⟩) n n)
 row:∀v,v<m->base<=F v/\∃cs:Array Value,w.heap[F v]?=some (.cells cs te (0,0))/\cs.size=n/\∀j,j<n->cs[j]?=some (q (M v j))
 inj:∀u v,u<m->v<m->F u=F v->u=v
 ne:tr≠te
 mn:m<=n
section
variable {T:Type} {w w4:World} {tr te:TypeId} {q:T->Value} {base S n m:Nat} {F:Nat->Nat} {M:Mx T}
theorem Mt.lt (h:Mt w tr te q base S n m F M):S<w.heap.size:=by obtain⟨cs,hb,_⟩:=h.blk;exact lt_of_block hb
theorem Mt.rlt (h:Mt w tr te q base S n m F M) {v:Nat} (hv:v<m):F v<w.heap.size:=by obtain⟨_,cs,hb,_⟩:=h.row v hv;exact lt_of_block hb
theorem Mt.apart (h:Mt w tr te q base S n m F M) {v:Nat} (hv:v<m):F v≠S:=fun e=>by
 obtain⟨cs,hb,_⟩:=h.blk;obtain⟨_,cs',hb',_⟩:=h.row v hv;rw[e,hb] at hb';injection hb' with hb';injection hb' with _ ht;exact h.ne ht
theorem Mt.head (h:Mt w tr te q base S n m F M) {v:Nat} (hv:v<m):w.cell? ⟨S,v,none⟩=some (.slice (some ⟨F v,0,none⟩) n n):=by
 obtain⟨cs,hb,_,_,hc⟩:=h.blk;exact(blk_cell hb v).trans (hc v hv)
theorem Mt.there (h:Mt w tr te q base S n m F M) {v:Nat} (hv:v<n):(∃u,w.cell? ⟨S,v,none⟩=some u)/\w.frozen? ⟨S,v,none⟩=false:=by
 obtain⟨cs,hb,_,hu,_⟩:=h.blk;obtain⟨u,hu⟩:=hu v hv;exact⟨⟨u,(blk_cell hb v).trans hu⟩,blk_free hb v⟩
theorem Mt.cell (h:Mt w tr te q base S n m F M) {v j:Nat} (hv:v<m) (hj:j<n):w.cell? ⟨F v,j,none⟩=some (q (M v j))/\w.frozen? ⟨F v,j,none⟩=false:=by
 obtain⟨_,cs,hb,_,hc⟩:=h.row v hv;exact⟨(blk_cell hb j).trans (hc j hj),blk_free hb j⟩
theorem Mt.congr {M':Mx T} (h:Mt w tr te q base S n m F M) (he:∀v j,v<m->j<n->M v j=M' v j):Mt w tr te q base S n m F M' :=
 ⟨h.lo,h.blk,fun v hv=>by
   obtain⟨a,cs,b,c,d⟩:=h.row v hv;exact⟨a,cs,b,c,fun j hj=>by rw[d j hj,he v j hv hj]⟩,h.inj,h.ne,h.mn⟩
theorem Mt.base_ {base':Nat} (h:Mt w tr te q base S n m F M) (hb:base'<=base):Mt w tr te q base' S n m F M :=
 ⟨Nat.le_trans hb h.lo,h.blk,fun v hv=>by obtain⟨a,r⟩:=h.row v hv;exact⟨Nat.le_trans hb a,r⟩,h.inj,h.ne,h.mn⟩
theorem Mt.keep (h:Mt w tr te q base S n m F M) (hb:Below w.heap.size w w4):Mt w4 tr te q base S n m F M:=by
 obtain⟨cs,b,c,d,e⟩:=h.blk
 exact⟨h.lo,⟨cs,blk_below b hb (lt_of_block b),c,d,e⟩,fun v hv=>by
  obtain⟨a,cs,b,r⟩:=h.row v hv;exact⟨a,cs,blk_below b hb (lt_of_block b),r⟩,h.inj,h.ne,h.mn⟩
theorem Mt.drew (h:Mt w tr te q base S n m F M):Mt w.drew tr te q base S n m F M:=⟨h.lo,h.blk,h.row,h.inj,h.ne,h.mn⟩
theorem Mt.set (h:Mt w tr te q base S n m F M) {v j:Nat} (hv:v<m) (hj:j<n) (x:T):Mt (w.setCell ⟨F v,j,none⟩ (q x)) tr te q base S n m F (set2 M v j x):=by
 obtain⟨cs,b,c,d,e⟩:=h.blk;refine⟨h.lo,⟨cs,blk_far b (by exact fun e=>h.apart hv e.symm) _,c,d,e⟩,fun u hu=> ?_,h.inj,h.ne,h.mn⟩;obtain⟨a,cs,b,c,d⟩:=h.row u hu
 by_cases huv:u=v
 ·subst huv
  refine⟨a,cs.setIfInBounds j (q x),blk_set b j _,by simpa using c,fun i hi=> ?_⟩
  by_cases hij:i=j
  ·subst hij
   rw[Array.getElem?_setIfInBounds_self_of_lt (by omega)];simp[set2]
  ·rw[Array.getElem?_setIfInBounds_ne (fun x=>hij x.symm),d i hi]
   simp[set2,hij]
 ·refine⟨a,cs,blk_far b (by exact fun e=>huv (h.inj u v hu hv e)) _,c,fun i hi=> ?_⟩
  rw[d i hi];simp[set2,huv]
theorem Mt.add (h:Mt w tr te q base S n m F M) (hm:m<n) (hb:base<=w.heap.size) (z:T) (cs:Array Value) (hcs:cs.size=n) (hz:∀j,j<n->cs[j]?=some (q z)) {g:Nat} (hg:w.heap.size=g) :
 Mt ((w.setCell ⟨S,m,none⟩ (.slice (some ⟨g,0,none⟩) n n)).alloc (.cells cs te)) tr te q base S n (m+1) (fun v=>if v=m then g else F v) (fun a b=>if a=m then z else M a b):=by
 subst hg;obtain⟨hs,b,c,d,e⟩:=h.blk;have hl:=h.lt;have hnew:=heap_alloc_new (w.setCell ⟨S,m,none⟩ (.slice (some ⟨w.heap.size,0,none⟩) n n)) (.cells cs te);have hsz:(w.setCell ⟨S,m,none⟩ (.slice (some ⟨w.heap.size,0,none⟩) n n)).heap.size=w.heap.size:=by simp[World.setCell]
 rw[hsz] at hnew;refine⟨h.lo,⟨hs.setIfInBounds m (.slice (some ⟨w.heap.size,0,none⟩) n n),blk_alloc (blk_set b m _) _,by simpa using c,fun v hv=> ?_,fun v hv=> ?_⟩,fun v hv=> ?_,fun u v hu hv he=> ?_,h.ne,hm⟩
 ·by_cases hvm:v=m
  ·subst hvm
   exact⟨_,Array.getElem?_setIfInBounds_self_of_lt (by omega)⟩
  ·rw[Array.getElem?_setIfInBounds_ne (fun x=>hvm x.symm)]
   exact d v hv
 ·by_cases hvm:v=m
  ·subst hvm
   rw[Array.getElem?_setIfInBounds_self_of_lt (by omega),if_pos rfl]
  ·rw[Array.getElem?_setIfInBounds_ne (fun x=>hvm x.symm),if_neg hvm]
   exact e v (by omega)
 ·by_cases hvm:v=m
  ·subst hvm
   simp only[if_true];exact⟨hb,cs,hnew,hcs,hz⟩
  ·simp only[if_neg hvm]
   obtain⟨a,cs',b',c',d'⟩:=h.row v (by omega);exact⟨a,cs',blk_alloc (blk_far b' (by exact h.apart (by omega)) _) _,c',d'⟩
 ·by_cases hu':u=m <;> by_cases hv':v=m
  ·omega
  ·have:=h.rlt (v:=v) (by omega)
   simp only[if_pos hu',if_neg hv'] at he;omega
  ·have:=h.rlt (v:=u) (by omega)
   simp only[if_pos hv',if_neg hu'] at he;omega
  ·simp only[if_neg hu',if_neg hv'] at he
   exact h.inj u v (by omega) (by omega) he
theorem Mt.start (w:World) (tr te:TypeId) (q:T->Value) (base n:Nat) (cs:Array Value) (hcs:cs.size=n) (hu:∀v,v<n->∃u,cs[v]?=some u) (hne:tr≠te) (F:Nat->Nat) (M:Mx T) {S:Nat} (hS:w.heap.size=S) (hb:base<=S) :
 Mt (w.alloc (.cells cs tr)) tr te q base S n 0 F M:=by
 subst hS;exact⟨hb,⟨cs,heap_alloc_new w _,hcs,hu,fun v hv=>by omega⟩,fun v hv=>by omega,fun u v hu=>by omega,hne,Nat.zero_le _⟩
theorem made_get (z:Value) (n v:Nat) (hv:v<n):(madeCells #[z] n)[v]?=some z:=by simp[madeCells,hv,Nat.mod_one]
theorem made_size (z:Value) (n:Nat):(madeCells #[z] n).size=n:=by simp[madeCells]
end
theorem fill_row {T:Type} (none zero self:T) (n k:Nat) (v j:Nat) (hj:j<n):set2 (fun x y=>if x=k then (if y<n then none else zero) else ini none self x y) k k self v j=ini none self v j:=by
 unfold set2 ini
 by_cases e1:v=k
 ·subst e1
  by_cases e2:j=v
  ·subst e2;simp
  ·rw[if_neg (fun h=>e2 h.2)]
   dsimp only;rw[if_pos rfl,if_pos hj,if_neg (fun h=>e2 h.symm)]
 ·rw[if_neg (fun h=>e1 h.1)]
  dsimp only;rw[if_neg e1]
end Mat
end Go.Proofs.YtjebckehmmbkbaaGreat
