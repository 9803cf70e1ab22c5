/- Plain facts on a plan that is mended (Koenig, Likhachev): no Go in sight. Plain facts on the search by taste: no Go in sight. Plain facts on the search by taste: what holds all the way; the way back. Plain facts on the search by taste: what is found costs no more than the weight times the least. Plain facts on the focal search of weight one: each place is looked from once at most. No Go in sight.  -/
import Derived.Test.YtjebckehmmbkbaaGreatVYenUse
set_option linter.unusedSimpArgs false
set_option linter.unusedVariables false
set_option maxRecDepth 100000
set_option maxHeartbeats 24000000
namespace Go.Proofs.YtjebckehmmbkbaaGreat
namespace LifeLaw
open NetLaw BellLaw FlowLaw
open Net (tl ol)
def mnS (l:List E) (D:List Int) (b i:Int):Int:=min b (dg D (fr l i.toNat)+cpt l i.toNat)
def best (l:List E) (D:List Int) (js:List Int):Int:=js.foldl (mnS l D) far
theorem best_fold (l:List E) (D:List Int) (js:List Int) (b:Int):js.foldl (mnS l D) b<=b/\(∀j∈js,js.foldl (mnS l D) b<=dg D (fr l j.toNat)+cpt l j.toNat)/\(js.foldl (mnS l D) b=b\/∃j∈js,js.foldl (mnS l D) b=dg D (fr l j.toNat)+cpt l j.toNat):=by
 induction js generalizing b with
 |nil=>exact⟨Int.le_refl _,by simp,.inl rfl⟩
 |cons j r ih =>
  obtain⟨h1,h2,h3⟩:=ih (mnS l D b j);rw[List.foldl_cons];have e:mnS l D b j=min b (dg D (fr l j.toNat)+cpt l j.toNat):=rfl;refine⟨by omega,fun x hx=> ?_,?_⟩
  ·rcases List.mem_cons.1 hx with rfl|hx
   ·omega
   ·exact h2 x hx
  ·rcases h3 with h|⟨x,hx,h⟩
   ·rcases Int.le_total b (dg D (fr l j.toNat)+cpt l j.toNat) with hb|hb
    ·exact .inl (by rw[h];omega)
    ·exact .inr ⟨j,List.mem_cons_self ..,by rw[h];omega⟩
   ·exact .inr ⟨x,List.mem_cons_of_mem _ hx,h⟩
def ins (l:List E) (v:Int):List Int:=ol (tl l) l.length v.toNat
theorem ol_mem (l:List E) (k v:Nat) (j:Int):j∈ol l k v ↔ ∃i,i<k/\j=(i:Int)/\fr l i=v:=by
 unfold ol;rw[List.mem_map]
 constructor
 ·rintro⟨i,hi,rfl⟩
  rw[List.mem_filter,List.mem_range,beq_iff_eq] at hi;exact⟨i,hi.1,rfl,hi.2⟩
 ·rintro⟨i,hi,rfl,he⟩
  exact⟨i,by rw[List.mem_filter,List.mem_range,beq_iff_eq];exact⟨hi,he⟩,rfl⟩
theorem ins_mem {l:List E} {v j:Int} (v0:0<=v):j∈ins l v ↔ ∃i,i<l.length/\j=(i:Int)/\en l i=v:=by
 unfold ins;rw[ol_mem]
 constructor
 ·rintro⟨i,hi,rfl,he⟩
  rw[(tl_ed l i hi).1] at he;exact⟨i,hi,rfl,by omega⟩
 ·rintro⟨i,hi,rfl,he⟩
  exact⟨i,hi,rfl,by rw[(tl_ed l i hi).1];omega⟩
def lkv (l:List E) (s:Int) (D:List Int) (v:Int):Int:=if v=s then 0 else best l D (ins l v)
structure Gd (n:Nat) (l:List E) (s:Int):Prop where
 ends:∀i,i<l.length->(0<=fr l i/\fr l i<n)/\0<=en l i/\en l i<n
 cost:∀i,i<l.length->1<=cpt l i/\cpt l i<=10000
 s0:0<=s
 s1:s<n
 len:l.length<=600
 n64:n<=64
structure Rg (n:Nat) (D:List Int):Prop where
 len:D.length=n
 rg:∀v:Int,0<=v->v<n->0<=dg D v/\dg D v<=far
section
variable {n:Nat} {l:List E} {s v:Int} {D D':List Int}
theorem lkv_s (l:List E) (s:Int) (D:List Int):lkv l s D s=0:=if_pos rfl
theorem lkv_far (l:List E) (s:Int) (D:List Int) (v:Int):lkv l s D v<=far:=by
 unfold lkv;split
 ·decide
 ·exact(best_fold l D _ far).1
theorem lkv_le {i:Nat} (hi:i<l.length) (v0:0<=v) (hv:v≠s) (he:en l i=v):lkv l s D v<=dg D (fr l i)+cpt l i:=by
 unfold lkv;rw[if_neg hv];have:=(best_fold l D (ins l v) far).2.1 (i:Int) ((ins_mem v0).2 ⟨i,hi,rfl,he⟩)
 rwa [Int.toNat_natCast] at this
theorem lkv_at (v0:0<=v) (hv:v≠s):lkv l s D v=far\/∃i,i<l.length/\en l i=v/\lkv l s D v=dg D (fr l i)+cpt l i:=by
 unfold lkv;rw[if_neg hv];rcases (best_fold l D (ins l v) far).2.2 with h|⟨j,hj,h⟩
 ·exact .inl h
 ·obtain⟨i,hi,rfl,he⟩:=(ins_mem v0).1 hj
  rw[Int.toNat_natCast] at h;exact .inr ⟨i,hi,he,h⟩
theorem lkv_lo (hg:Gd n l s) (hr:Rg n D) (v0:0<=v):0<=lkv l s D v:=by
 by_cases hv:v=s
 ·rw[hv,lkv_s];exact Int.le_refl _
 ·rcases lkv_at (l:=l) (D:=D) v0 hv with h|⟨i,hi,_,h⟩
  ·rw[h];decide
  ·have a:=hr.rg _ (hg.ends i hi).1.1 (hg.ends i hi).1.2
   have b:=hg.cost i hi;omega
theorem chg (hg:Gd n l s) (hne:∀u:Int,0<=u->u<n->u≠v->dg D' u=dg D u) (hle:dg D' v<=dg D v) {u:Int} (u0:0<=u) (hu:u≠s):lkv l s D' u<=lkv l s D u/\(lkv l s D' u=lkv l s D u\/dg D' v+1<=lkv l s D' u):=by
 have h1:lkv l s D' u<=lkv l s D u:=by
  rcases lkv_at (l:=l) (D:=D) u0 hu with h|⟨i,hi,he,h⟩
  ·rw[h];exact lkv_far ..
  ·have a:=lkv_le (D:=D') hi u0 hu he
   have b:=(hg.ends i hi).1
   by_cases hv:fr l i=v
   ·rw[hv] at a h;omega
   ·rw[hne _ b.1 b.2 hv] at a;omega
 refine⟨h1,?_⟩;rcases lkv_at (l:=l) (D:=D') u0 hu with h|⟨i,hi,he,h⟩
 ·have:=lkv_far l s D u
  exact .inl (by omega)
 ·have a:=lkv_le (D:=D) hi u0 hu he
  have b:=(hg.ends i hi).1
  by_cases hv:fr l i=v
  ·rw[hv] at h
   have:=hg.cost i hi;exact .inr (by omega)
  ·rw[hne _ b.1 b.2 hv] at h
   exact .inl (by omega)
structure RI (n:Nat) (l:List E) (s:Int) (D:List Int) (K:Int) (O U:List Int):Prop where
 a:∀u:Int,0<=u->u<n->dg D u≠lkv l s D u->K<=dg D u/\K<=lkv l s D u
 b:∀u∈O,(0<=u/\u<n)/\dg D u=lkv l s D u/\dg D u<=K
 c:∀u∈U,(0<=u/\u<n)/\(u ∉ O->dg D u=far)
 no:O.Nodup
 nu:U.Nodup
theorem nodupI {S:List Int} (h:S.Nodup) (hk:∀m∈S,0<=m/\m<n):S.length<=n:=by
 have:=FloydLaw.nodup_len (S:=S.map Int.toNat) (k:=n) (by
  rw[List.Nodup,List.pairwise_map];refine List.Pairwise.imp_of_mem (fun ha hb hne e=> ?_) h;have a:=hk _ ha;have b:=hk _ hb;exact hne (by omega)) (fun m hm=>by
  rw[List.mem_map] at hm;obtain⟨x,hx,rfl⟩:=hm;have:=hk x hx;omega)
 rwa [List.length_map] at this
theorem RI.work {K:Int} {O U:List Int} (h:RI n l s D K O U):O.length+U.length<=2*n:=by
 have h1:=nodupI h.no fun m hm=>(h.b m hm).1;have h2:=nodupI h.nu fun m hm=>(h.c m hm).1;omega
theorem RI.start (hg:Gd n l s) (hr:Rg n D):RI n l s D 0 [] [] :=
 ⟨fun u u0 u1 _=>⟨(hr.rg u u0 u1).1,lkv_lo hg hr u0⟩,by simp,by simp,List.nodup_nil,List.nodup_nil⟩
theorem Rg.set (hr:Rg n D) {x:Int} (v0:0<=v) (v1:v<n) (hx:0<=x/\x<=far):Rg n (D.set v.toNat x):=by
 refine⟨by rw[List.length_set];exact hr.len,fun u u0 u1=> ?_⟩;rw[dg_set v0 (by rw[hr.len];exact v1) u0];split
 ·exact hx
 ·exact hr.rg u u0 u1
theorem RI.over {K k:Int} {O U:List Int} (h:RI n l s D K O U) (hg:Gd n l s) (hr:Rg n D) (v0:0<=v) (v1:v<n) (hk:lkv l s D v=k) (hgt:k<dg D v) (hmin:∀u:Int,0<=u->u<n->dg D u≠lkv l s D u->k<=dg D u/\k<=lkv l s D u) :
 RI n l s (D.set v.toNat k) k (v::O) U:=by
 have hd:∀u:Int,0<=u->dg (D.set v.toNat k) u=if u=v then k else dg D u:=fun u u0=>dg_set v0 (by rw[hr.len];exact v1) u0
 have hKk:K<=k:=by have:=(h.a v v0 v1 (by omega)).2;omega
 have hvO:v ∉ O:=fun hm=>by have:=(h.b v hm).2.1;omega
 have hch:∀u:Int,0<=u->u≠s->lkv l s (D.set v.toNat k) u<=lkv l s D u/\(lkv l s (D.set v.toNat k) u=lkv l s D u\/k+1<=lkv l s (D.set v.toNat k) u):=fun u u0 hu=>by
  have:=chg (v:=v) (D:=D) (D':=D.set v.toNat k) hg (fun u u0 _ hne=>by rw[hd u u0,if_neg hne]) (by rw[hd v v0,if_pos rfl];omega) u0 hu
  rwa [hd v v0,if_pos rfl] at this
 have hls:∀D,lkv l s D s=0:=lkv_s l s
 have hvv:lkv l s (D.set v.toNat k) v=k:=by
  by_cases hvs:v=s
  ·subst hvs;rw[hls] at hk ⊢;exact hk
  ·have:=hch v v0 hvs;omega
 refine⟨fun u u0 u1 hu=> ?_,fun u hu=> ?_,fun u hu=> ?_,List.nodup_cons.2 ⟨hvO,h.no⟩,h.nu⟩
 ·rw[hd u u0] at hu ⊢
  by_cases huv:u=v
  ·subst huv
   rw[if_pos rfl,hvv] at hu;exact absurd rfl hu
  ·rw[if_neg huv] at hu ⊢
   by_cases hus:u=s
   ·subst hus
    have:=hmin u u0 u1;rw[hls] at hu ⊢;rw[hls] at this;exact this hu
   ·obtain⟨c1,c2⟩:=hch u u0 hus
    have:=hmin u u0 u1
    by_cases hc:dg D u=lkv l s D u
    ·omega
    ·have:=this hc
     omega
 ·rcases List.mem_cons.1 hu with rfl|hu
  ·exact⟨⟨v0,v1⟩,by rw[hd u v0,if_pos rfl,hvv],by rw[hd u v0,if_pos rfl];exact Int.le_refl _⟩
  ·obtain⟨⟨u0,u1⟩,e1,e2⟩:=h.b u hu
   have huv:u≠v:=fun e=>hvO (by rw[<-e];exact hu);refine⟨⟨u0,u1⟩,?_,?_⟩
   ·rw[hd u u0,if_neg huv]
    by_cases hus:u=s
    ·subst hus;rw[hls];rw[hls] at e1;exact e1
    ·have:=hch u u0 hus;omega
   ·rw[hd u u0,if_neg huv];omega
 ·obtain⟨⟨u0,u1⟩,e1⟩:=h.c u hu
  refine⟨⟨u0,u1⟩,fun hm=> ?_⟩;rw[List.mem_cons,not_or] at hm;rw[hd u u0,if_neg hm.1];exact e1 hm.2
theorem RI.under {K k:Int} {O U:List Int} (h:RI n l s D K O U) (hg:Gd n l s) (hr:Rg n D) (v0:0<=v) (v1:v<n) (hk:dg D v=k) (hlt:k<lkv l s D v) (hmin:∀u:Int,0<=u->u<n->dg D u≠lkv l s D u->k<=dg D u/\k<=lkv l s D u) :
 RI n l s (D.set v.toNat far) k O (v::U):=by
 have hd:∀u:Int,0<=u->dg (D.set v.toNat far) u=if u=v then far else dg D u:=fun u u0=>dg_set v0 (by rw[hr.len];exact v1) u0
 have hKk:K<=k:=by have:=(h.a v v0 v1 (by omega)).1;omega
 have hkf:k<far:=by have:=lkv_far l s D v;omega
 have hvO:v ∉ O:=fun hm=>by have:=(h.b v hm).2.1;omega
 have hvU:v ∉ U:=fun hm=>by have:=(h.c v hm).2 hvO;omega
 have hls:∀D,lkv l s D s=0:=lkv_s l s;have hk0:0<=k:=by rw[<-hk];exact(hr.rg v v0 v1).1
 have hvs:v≠s:=fun e=>by subst e;rw[hls] at hlt;omega
 have hch:∀u:Int,0<=u->u≠s->lkv l s D u<=lkv l s (D.set v.toNat far) u/\(lkv l s D u=lkv l s (D.set v.toNat far) u\/k+1<=lkv l s D u):=fun u u0 hu=>by
  have:=chg (v:=v) (D:=D.set v.toNat far) (D':=D) hg (fun u u0 _ hne=>by rw[hd u u0,if_neg hne]) (by rw[hd v v0,if_pos rfl];omega) u0 hu
  rwa [hk] at this
 refine⟨fun u u0 u1 hu=> ?_,fun u hu=> ?_,fun u hu=> ?_,h.no,List.nodup_cons.2 ⟨hvU,h.nu⟩⟩
 ·rw[hd u u0] at hu ⊢
  by_cases huv:u=v
  ·subst huv
   rw[if_pos rfl];have:=hch u u0 hvs;omega
  ·rw[if_neg huv] at hu ⊢
   by_cases hus:u=s
   ·subst hus
    have:=hmin u u0 u1;rw[hls] at hu ⊢;rw[hls] at this;exact this hu
   ·obtain⟨c1,c2⟩:=hch u u0 hus
    have:=hmin u u0 u1
    by_cases hc:dg D u=lkv l s D u
    ·omega
    ·have:=this hc
     omega
 ·obtain⟨⟨u0,u1⟩,e1,e2⟩:=h.b u hu
  have huv:u≠v:=fun e=>hvO (by rw[<-e];exact hu);refine⟨⟨u0,u1⟩,?_,?_⟩
  ·rw[hd u u0,if_neg huv]
   by_cases hus:u=s
   ·subst hus;rw[hls];rw[hls] at e1;exact e1
   ·have:=hch u u0 hus;omega
  ·rw[hd u u0,if_neg huv];omega
 ·rcases List.mem_cons.1 hu with rfl|hu
  ·exact⟨⟨v0,v1⟩,fun _=>by rw[hd u v0,if_pos rfl]⟩
  ·obtain⟨⟨u0,u1⟩,e1⟩:=h.c u hu
   refine⟨⟨u0,u1⟩,fun hm=> ?_⟩;rw[hd u u0];split
   ·rfl
   ·exact e1 hm
structure Fx (n:Nat) (l:List E) (s t:Int) (D:List Int):Prop where
 at_:dg D t=lkv l s D t
 rest:∀u:Int,0<=u->u<n->dg D u≠lkv l s D u->dg D t<=dg D u/\dg D t<=lkv l s D u
structure Bst (l:List E) (s t d:Int):Prop where
 hi:d<=far
 is:d<far->Wk l s t d
 least:∀x,Wk l s t x->d<=x
theorem Fx.back {t:Int} (h:Fx n l s t D) (hg:Gd n l s) (hr:Rg n D) (v0:0<=v) (v1:v<n) (hvs:v≠s) (hf:dg D v<far) (hle:dg D v<=dg D t) (hc:dg D v=lkv l s D v):∃i,i<l.length/\en l i=v/\dg D (fr l i)+cpt l i=dg D v:=by
 rcases lkv_at (l:=l) (D:=D) v0 hvs with e|⟨i,hi,he,e⟩
 ·omega
 ·exact⟨i,hi,he,by omega⟩
theorem Fx.prev {t:Int} (h:Fx n l s t D) (hg:Gd n l s) (hr:Rg n D) (hle:dg D v<=dg D t) {i:Nat} (hi:i<l.length) (he:dg D (fr l i)+cpt l i=dg D v):dg D (fr l i)<dg D v/\dg D (fr l i)=lkv l s D (fr l i):=by
 have a:=hg.cost i hi;have b:=(hg.ends i hi).1;refine⟨by omega,Classical.byContradiction fun hc=> ?_⟩;have:=h.rest _ b.1 b.2 hc;omega
theorem Fx.sound {t:Int} (h:Fx n l s t D) (hg:Gd n l s) (hr:Rg n D):∀(m:Nat) (v:Int),(dg D v).toNat=m->0<=v->v<n->dg D v<far->dg D v<=dg D t->dg D v=lkv l s D v->Wk l s v (dg D v):=by
 intro m
 induction m using Nat.strongRecOn with
 |ind m ih =>
  intro v hm v0 v1 hf hle hc
  by_cases hvs:v=s
  ·subst hvs
   rw[lkv_s] at hc;rw[hc];exact Wk.here
  ·obtain⟨i,hi,he,e⟩:=h.back hg hr v0 v1 hvs hf hle hc
   obtain⟨p1,p2⟩:=h.prev hg hr hle hi e;have b:=(hg.ends i hi).1;have lo:=hr.rg _ b.1 b.2;have:=ih _ (by omega) (fr l i) rfl b.1 b.2 (by omega) (by omega) p2;have hw:=Wk.step (e:=ed l i) this (ed_mem hi) rfl;rw[<-e, <-he];exact hw
theorem wk_lo (hg:Gd n l s) {x:Int} (h:Wk l s v x):(0<=v/\v<n)/\0<=x:=by
 induction h with
 |here=>exact⟨⟨hg.s0,hg.s1⟩,Int.le_refl _⟩
 | @step u d e _ he hu ih =>
   obtain⟨i,hi,rfl⟩:=List.mem_iff_getElem.1 he;rw[<-ed_at hi];have a:=hg.cost i hi;have b:=(hg.ends i hi).2;exact⟨b,by have:(ed l i).2.2=cpt l i:=rfl;omega⟩
theorem Fx.least {t:Int} (h:Fx n l s t D) (hg:Gd n l s) {x:Int} (hw:Wk l s v x):x<dg D t->dg D v=lkv l s D v/\dg D v<=x:=by
 induction hw with
 |here =>
  intro hx
  have:dg D s=lkv l s D s:=Classical.byContradiction fun hc=>by
   have:=(h.rest s hg.s0 hg.s1 hc).2;rw[lkv_s] at this;omega
  exact⟨this,by rw[this,lkv_s];exact Int.le_refl _⟩
 | @step u d e hw he hu ih =>
   intro hx;obtain⟨i,hi,rfl⟩:=List.mem_iff_getElem.1 he;rw[<-ed_at hi] at hu hx ⊢;have a:=hg.cost i hi;have b:=(hg.ends i hi).2;have hlo:=(wk_lo hg hw).2;have ec:(ed l i).2.2=cpt l i:=rfl;have ee:(ed l i).2.1=en l i:=rfl;have ef:(ed l i).1=fr l i:=rfl;rw[ec] at hx ⊢;rw[ee];rw[ef] at hu;have h1:=(ih (by omega)).2
   have h2:lkv l s D (en l i)<=d+cpt l i:=by
    by_cases hs:en l i=s
    ·rw[hs,lkv_s];omega
    ·have:=lkv_le (D:=D) hi b.1 hs rfl
     rw[hu] at this;omega
   have h3:dg D (en l i)=lkv l s D (en l i):=Classical.byContradiction fun hc=>by
    have:=(h.rest _ b.1 b.2 hc).2;omega
   exact⟨h3,by omega⟩
theorem Fx.bst {t:Int} (h:Fx n l s t D) (hg:Gd n l s) (hr:Rg n D) (t0:0<=t) (t1:t<n):Bst l s t (dg D t):=by
 refine⟨(hr.rg t t0 t1).2,fun hf=>h.sound hg hr _ t rfl t0 t1 hf (Int.le_refl _) h.at_,fun x hx=> ?_⟩;rcases Int.lt_or_le x (dg D t) with e|e
 ·have:=(h.least hg hx e).2;omega
 ·exact e
end
end LifeLaw
namespace FocalLaw
open NetLaw BellLaw DijkLaw HeurLaw StarLaw
def sm (h C:List Int) (v:Int):Int:=dg C v+dg h v
def lst (h C:List Int) (B:List Bool):Nat->Int × Bool
 |0=>(0,false)
 |k+1=>if B.getD k false=true/\((lst h C B k).2=false\/sm h C k<(lst h C B k).1) then (sm h C k,true) else lst h C B k
def btr (h ta C:List Int) (a b:Int):Bool:=if dg ta a≠dg ta b then decide (dg ta a<dg ta b) else decide (sm h C a<sm h C b\/sm h C a=sm h C b/\a<b)
def pk (h ta C:List Int) (B:List Bool) (p q:Int) (L:Int × Bool):Nat->Int
 |0=> -1
 |k+1=>if L.2=true/\B.getD k false=true/\sm h C k*q<=p*L.1/\(pk h ta C B p q L k<0\/btr h ta C k (pk h ta C B p q L k)=true) then (k:Int) else pk h ta C B p q L k
def pick (n:Nat) (h ta C:List Int) (B:List Bool) (p q:Int):Int:=pk h ta C B p q (lst h C B n) n
section
variable {h ta C:List Int} {B:List Bool} {p q:Int}
theorem pk_rng (L:Int × Bool) (k:Nat):pk h ta C B p q L k= -1\/∃v:Nat,v<k/\pk h ta C B p q L k=v/\L.2=true/\B.getD v false=true/\sm h C v*q<=p*L.1:=by
 induction k with
 |zero=>exact .inl rfl
 |succ k ih =>
  rw[pk];split
  ·rename_i hh
   exact .inr ⟨k,by omega,rfl,hh.1,hh.2.1,hh.2.2.1⟩
  ·rcases ih with h1|⟨v,h1,h2⟩
   ·exact .inl h1
   ·exact .inr ⟨v,by omega,h2⟩
theorem pk_none {L:Int × Bool} (hL:L.2=true) {k:Nat} (hp:pk h ta C B p q L k= -1):∀v:Nat,v<k->B.getD v false=true->¬sm h C v*q<=p*L.1:=by
 induction k with
 |zero=>intro v hv;omega
 |succ k ih =>
  intro v hv hb hs;rw[pk] at hp;split at hp
  ·omega
  ·rename_i hh
   have h1:=ih hp
   by_cases hvk:v=k
   ·subst hvk
    exact hh ⟨hL,hb,hs,.inl (by rw[hp];decide)⟩
   ·exact h1 v (by omega) hb hs
theorem lst_spec (k:Nat):((lst h C B k).2=false->∀v:Nat,v<k->B.getD v false=false)/\((lst h C B k).2=true->(∃v:Nat,v<k/\B.getD v false=true/\sm h C v=(lst h C B k).1)/\∀v:Nat,v<k->B.getD v false=true->(lst h C B k).1<=sm h C v):=by
 induction k with
 |zero=>exact⟨fun _ v hv=>by omega,fun h=>by cases h⟩
 |succ k ih =>
  rw[lst];split
  ·rename_i hh
   refine⟨fun h=>(by cases h),fun _=>⟨⟨k,by omega,hh.1,rfl⟩,fun v hv hb=> ?_⟩⟩
   by_cases hvk:v=k
   ·subst hvk;exact Int.le_refl _
   ·rcases hh.2 with h1|h1
    ·rw[ih.1 h1 v (by omega)] at hb;cases hb
    ·cases h2:(lst h C B k).2 with
     |false=>rw[ih.1 h2 v (by omega)] at hb;cases hb
     |true=>have:=(ih.2 h2).2 v (by omega) hb;omega
  ·rename_i hh
   refine⟨fun h1 v hv=> ?_,fun h1=>⟨?_,fun v hv hb=> ?_⟩⟩
   ·by_cases hvk:v=k
    ·subst hvk
     cases hb:B.getD v false with
     |false=>rfl
     |true=>exact absurd ⟨hb,.inl h1⟩ hh
    ·exact ih.1 h1 v (by omega)
   ·obtain⟨v,h2,h3⟩:=(ih.2 h1).1
    exact⟨v,by omega,h3⟩
   ·by_cases hvk:v=k
    ·subst hvk
     by_cases h2:sm h C v<(lst h C B v).1
     ·exact absurd ⟨hb,.inr h2⟩ hh
     ·omega
    ·exact(ih.2 h1).2 v (by omega) hb
theorem pick_none {n:Nat} (hq:1<=q) (hqp:q<=p) (h0:∀v:Nat,v<n->0<=sm h C v) (hp:pick n h ta C B p q<0):∀v:Nat,v<n->B.getD v false=false:=by
 have hs:=lst_spec (h:=h) (C:=C) (B:=B) n;unfold pick at hp
 have hm:pk h ta C B p q (lst h C B n) n= -1:=by
  rcases pk_rng (h:=h) (ta:=ta) (C:=C) (B:=B) (p:=p) (q:=q) (lst h C B n) n with h1|⟨v,_,h2,_⟩
  ·exact h1
  ·omega
 cases hL:(lst h C B n).2 with
 |false=>exact hs.1 hL
 |true =>
  obtain⟨⟨u,hu,hb,he⟩,_⟩:=hs.2 hL;have h1:=pk_none hL hm u hu hb
  exfalso
  apply h1
  rw[<-he];have h2:=h0 u hu;have h3:=Int.mul_le_mul_of_nonneg_right hqp h2;rw[Int.mul_comm (sm h C u) q];exact h3
theorem pick_some {n:Nat} (hp:0<=pick n h ta C B p q):∃v:Nat,v<n/\pick n h ta C B p q=v/\B.getD v false=true/\∀u:Nat,u<n->B.getD u false=true->0<=p->sm h C v*q<=p*sm h C u:=by
 unfold pick at hp ⊢;rcases pk_rng (h:=h) (ta:=ta) (C:=C) (B:=B) (p:=p) (q:=q) (lst h C B n) n with h1|⟨v,h1,h2,h3,h4,h5⟩
 ·omega
 ·refine⟨v,h1,h2,h4,fun u hu hb hp0=> ?_⟩
  have h6:=((lst_spec (h:=h) (C:=C) (B:=B) n).2 h3).2 u hu hb;exact Int.le_trans h5 (Int.mul_le_mul_of_nonneg_left h6 hp0)
end
def fx1 (h:List Int) (v:Int) (s:List Int × List Int × List Bool) (e:E):List Int × List Int × List Bool :=
 if dg s.1 v+e.2.2<dg s.1 e.2.1/\dg h e.2.1<far then (s.1.set e.2.1.toNat (dg s.1 v+e.2.2),s.2.1.set e.2.1.toNat v,s.2.2.set e.2.1.toNat true) else s
def fxs (h:List Int) (v:Int) (es:List E) (s:List Int × List Int × List Bool):List Int × List Int × List Bool:=es.foldl (fx1 h v) s
def F0 (n fr:Nat) (h:List Int):List Int × List Int × List Bool:=((List.replicate n far).set fr 0,List.replicate n (-1),(List.replicate n false).set fr (decide (dg h fr<far)))
inductive Fr (n fr tt:Nat) (l:List E) (h ta:List Int) (p q:Int):List Int × List Int × List Bool->List Int->Prop
 |start:Fr n fr tt l h ta p q (F0 n fr h) []
 |step {s:List Int × List Int × List Bool} {ord:List Int} {v:Nat}:Fr n fr tt l h ta p q s ord->pick n h ta s.1 s.2.2 p q=v->v≠tt->Fr n fr tt l h ta p q (fxs h v (oe l v) (s.1,s.2.1,s.2.2.set v false)) (ord++[(v:Int)])
section
variable {n fr tt:Nat} {l:List E} {h ta:List Int} {p q:Int}
end
end FocalLaw
namespace FocalLaw
open NetLaw BellLaw DijkLaw HeurLaw StarLaw
theorem dg_set {D:List Int} {n k:Nat} (hD:D.length=n) (hk:k<n) (x:Int) (u:Int) (u0:0<=u):dg (D.set k x) u=if u=k then x else dg D u:=by
 obtain⟨j,rfl⟩:=Int.eq_ofNat_of_zero_le u0;rw[dg,dg,Int.toNat_natCast,List.getD_eq_getElem?_getD,List.getD_eq_getElem?_getD,List.getElem?_set]
 by_cases h:k=j
 ·subst h;rw[if_pos rfl,if_pos (by omega),if_pos rfl];rfl
 ·rw[if_neg h,if_neg (by omega)]
theorem getB_set {B:List Bool} {n k:Nat} (hB:B.length=n) (hk:k<n) (x:Bool) (j:Nat):(B.set k x).getD j false=if j=k then x else B.getD j false:=by
 rw[List.getD_eq_getElem?_getD,List.getD_eq_getElem?_getD,List.getElem?_set]
 by_cases h:k=j
 ·subst h;rw[if_pos rfl,if_pos (by omega),if_pos rfl];rfl
 ·rw[if_neg h,if_neg (fun e=>h e.symm)]
structure Fi (n fr:Nat) (l:List E) (h C P:List Int) (B:List Bool):Prop where
 lc:C.length=n
 lp:P.length=n
 lb:B.length=n
 lo:∀v:Int,0<=v->v<n->0<=dg C v/\dg C v<=far
 wt:∀v:Nat,v<n->B.getD v false=true->dg C v<far/\dg h v<far
 wk:∀v:Int,0<=v->v<n->dg C v<far->Wk l fr v (dg C v)
 root:dg C fr=0
 rootP:dg P fr= -1
 tree:∀v:Int,0<=v->v<n->dg C v<far->v≠fr->(0<=dg P v/\dg P v<n)/\dg C (dg P v)<far/\∃c,(dg P v,v,c)∈l/\dg C (dg P v)+c<=dg C v
section
variable {n fr:Nat} {l:List E} {h C P:List Int} {B:List Bool}
theorem Fi.start (hf:fr<n):Fi n fr l h (F0 n fr h).1 (F0 n fr h).2.1 (F0 n fr h).2.2:=by
 have hr:(List.replicate n far).length=n:=by simp
 have e:∀u:Int,0<=u->u<n->dg (F0 n fr h).1 u=if u=fr then 0 else far:=fun u u0 u1=>by
  rw[F0];simp only;rw[dg_set hr hf 0 u u0,rep_dg u0 u1]
 refine⟨by simp[F0],by simp[F0],by simp[F0],fun v v0 v1=> ?_,fun v hv hb=> ?_,fun v v0 v1 hlt=> ?_,?_,?_,fun v v0 v1 hlt hne=> ?_⟩
 ·rw[e v v0 v1];split <;> unfold far <;> omega
 ·rw[F0] at hb
  simp only at hb;rw[getB_set (n:=n) (by simp) hf] at hb;split at hb
  ·rename_i hvf
   subst hvf;rw[e v (by omega) (by omega),if_pos rfl];exact⟨by unfold far;omega,by simpa using hb⟩
  ·rw[List.getD_eq_getElem?_getD,List.getElem?_replicate,if_pos hv] at hb
   cases hb
 ·rw[e v v0 v1] at hlt ⊢
  split at hlt
  ·rename_i hvf
   rw[if_pos hvf,hvf];exact Wk.here
  ·exact absurd hlt (Int.lt_irrefl _)
 ·rw[e fr (by omega) (by omega),if_pos rfl]
 ·rw[F0]
  exact rep_dg (by omega) (by omega)
 ·rw[e v v0 v1,if_neg hne] at hlt
  exact absurd hlt (Int.lt_irrefl _)
theorem Fi.off (hi:Fi n fr l h C P B) (k:Nat) (hk:k<n):Fi n fr l h C P (B.set k false) :=
 ⟨hi.lc,hi.lp,by rw[List.length_set];exact hi.lb,hi.lo,fun v hv hb=>by
   rw[getB_set hi.lb hk] at hb;split at hb
   ·cases hb
   ·exact hi.wt v hv hb,hi.wk,hi.root,hi.rootP,hi.tree⟩
theorem Fi.one (hi:Fi n fr l h C P B) (hends:∀e∈l,0<=e.1/\e.1<n/\0<=e.2.1/\e.2.1<n) (hc:∀e∈l,1<=e.2.2) (hf:fr<n) {v:Nat} (hv:v<n) (hvf:dg C v<far) {e:E} (he:e∈l) (hev:e.1=v) :
 Fi n fr l h (fx1 h v (C,P,B) e).1 (fx1 h v (C,P,B) e).2.1 (fx1 h v (C,P,B) e).2.2/\dg (fx1 h v (C,P,B) e).1 v=dg C v:=by
 unfold fx1;split
 ·rename_i hx
  obtain⟨h1,h2⟩:=hx;simp only at h1 h2 ⊢;obtain⟨_,_,t0,t1⟩:=hends e he;have hc1:=hc e he;obtain⟨u,hu⟩:=Int.eq_ofNat_of_zero_le t0;rw[hu] at h1 h2 t1;have hun:u<n:=by omega
  have hut:e.2.1.toNat=u:=by rw[hu,Int.toNat_natCast]
  rw[hut];have lv:=hi.lo v (by omega) (by omega);have lu:=hi.lo u (by omega) (by omega);have hne:u≠fr:=fun e=>by rw[e,hi.root] at h1;omega
  have huv:u≠v:=fun e=>by rw[e] at h1;omega
  have eC:=fun (w:Int) (w0:0<=w)=>dg_set hi.lc hun (dg C v+e.2.2) w w0;have eP:=fun (w:Int) (w0:0<=w)=>dg_set hi.lp hun (v:Int) w w0
  have hm:(((v:Nat):Int),((u:Nat):Int),e.2.2)∈l:=by
   have:e=((v:Int),(u:Int),e.2.2):=Prod.ext hev (Prod.ext hu rfl);rw[<-this];exact he
  refine⟨⟨by rw[List.length_set];exact hi.lc,by rw[List.length_set];exact hi.lp,by rw[List.length_set];exact hi.lb,fun w w0 w1=> ?_,fun w hw hb=> ?_,fun w w0 w1 hlt=> ?_,?_,?_,fun w w0 w1 hlt hwf=> ?_⟩,?_⟩
  ·rw[eC w w0]
   split
   ·omega
   ·exact hi.lo w w0 w1
  ·rw[eC w (by omega)]
   rw[getB_set hi.lb hun] at hb;split at hb
   ·rename_i hwu
    subst hwu;rw[if_pos rfl];exact⟨by omega,h2⟩
   ·rename_i hwu
    rw[if_neg (by omega)];exact hi.wt w hw hb
  ·rw[eC w w0] at hlt ⊢
   split at hlt
   ·rename_i hwu
    rw[if_pos hwu,hwu];have hs:=Wk.step (hi.wk v (by omega) (by omega) hvf) he hev;rw[hu] at hs;exact hs
   ·rename_i hwu
    rw[if_neg hwu];exact hi.wk w w0 w1 hlt
  ·rw[eC fr (by omega),if_neg (by omega)];exact hi.root
  ·rw[eP fr (by omega),if_neg (by omega)];exact hi.rootP
  ·rw[eP w w0]
   rw[eC w w0] at hlt ⊢;split at hlt
   ·rename_i hwu
    rw[if_pos hwu,if_pos hwu];refine⟨⟨by omega,by omega⟩,?_,e.2.2,by rw[hwu];exact hm,?_⟩
    ·rw[eC v (by omega),if_neg (by omega)];exact hvf
    ·rw[eC v (by omega),if_neg (by omega)];exact Int.le_refl _
   ·rename_i hwu
    rw[if_neg hwu,if_neg hwu];obtain⟨⟨p0,p1⟩,h3,c,h4,h5⟩:=hi.tree w w0 w1 hlt hwf;refine⟨⟨p0,p1⟩,?_,c,h4,?_⟩
    ·rw[eC _ p0];split
     ·omega
     ·exact h3
    ·rw[eC _ p0];split
     ·rename_i hpu
      rw[hpu] at h5;omega
     ·exact h5
  ·rw[eC v (by omega),if_neg (by omega)]
 ·exact⟨hi,rfl⟩
theorem Fi.all (hends:∀e∈l,0<=e.1/\e.1<n/\0<=e.2.1/\e.2.1<n) (hc:∀e∈l,1<=e.2.2) (hf:fr<n) {v:Nat} (hv:v<n):∀(es:List E) (s:List Int × List Int × List Bool),(∀e∈es,e∈l/\e.1=v)->Fi n fr l h s.1 s.2.1 s.2.2->dg s.1 v<far->Fi n fr l h (fxs h v es s).1 (fxs h v es s).2.1 (fxs h v es s).2.2/\dg (fxs h v es s).1 v=dg s.1 v
 | [],s,_,hi,_=>⟨hi,rfl⟩
 |e::r,s,hm,hi,hlt=>by
  obtain⟨C,P,B⟩:=s;obtain⟨h1,h2⟩:=hi.one hends hc hf hv hlt (hm e (List.mem_cons_self ..)).1 (hm e (List.mem_cons_self ..)).2;obtain⟨h3,h4⟩:=Fi.all hends hc hf hv r (fx1 h v (C,P,B) e) (fun x hx=>hm x (List.mem_cons_of_mem _ hx)) h1 (by rw[h2];exact hlt);exact⟨h3,h4.trans h2⟩
theorem Fr.fi {tt:Nat} {ta:List Int} {p q:Int} {s:List Int × List Int × List Bool} {ord:List Int} (hends:∀e∈l,0<=e.1/\e.1<n/\0<=e.2.1/\e.2.1<n) (hc:∀e∈l,1<=e.2.2) (hf:fr<n) (hr:Fr n fr tt l h ta p q s ord):Fi n fr l h s.1 s.2.1 s.2.2:=by
 induction hr with
 |start=>exact Fi.start hf
 | @step s ord v hr hn hv ih =>
   obtain⟨u,hu,he,hb,_⟩:=pick_some (h:=h) (ta:=ta) (C:=s.1) (B:=s.2.2) (p:=p) (q:=q) (n:=n) (by rw[hn];omega);rw[hn] at he;obtain rfl:=Int.ofNat.inj he
   exact(Fi.all hends hc hf hu (oe l v) (s.1,s.2.1,s.2.2.set v false) (fun e he=>by
    rw[oe,List.mem_filter] at he;exact⟨he.1,by simpa using he.2⟩) (ih.off v hu) (ih.wt v hu hb).1).1
theorem Fi.chain (hi:Fi n fr l h C P B) (hc:∀e∈l,1<=e.2.2):∀(k:Nat) (v:Int),0<=v->v<n->dg C v<far->dg C v<=k ->
 ∃cs,Ch P v cs/\(∀x∈cs,(0<=x/\x<n)/\dg C x<=dg C v)/\cs.Nodup/\cs.head?=some v/\cs.getLast?=some (fr:Int)/\WalkLaw.okP l (WalkLaw.prs cs.reverse)=true/\WalkLaw.sumP l (WalkLaw.prs cs.reverse)<=dg C v:=by
 intro k
 induction k with
 |zero =>
  intro v v0 v1 hf hk
  by_cases e:v=fr
  ·subst e
   exact⟨[(fr:Int)],Ch.last hi.rootP,fun x hx=>by rw[List.mem_singleton] at hx;subst hx;exact⟨⟨v0,v1⟩,Int.le_refl _⟩,by simp,rfl,rfl,rfl,by rw[hi.root];exact Int.le_refl _⟩
  ·obtain⟨⟨p0,p1⟩,_,c,hcl,hcd⟩:=hi.tree v v0 v1 hf e
   have:=hc _ hcl;have:=(hi.lo _ p0 p1).1;simp only at *;omega
 |succ k ih =>
  intro v v0 v1 hf hk
  by_cases e:v=fr
  ·subst e
   exact⟨[(fr:Int)],Ch.last hi.rootP,fun x hx=>by rw[List.mem_singleton] at hx;subst hx;exact⟨⟨v0,v1⟩,Int.le_refl _⟩,by simp,rfl,rfl,rfl,by rw[hi.root];exact Int.le_refl _⟩
  ·obtain⟨⟨p0,p1⟩,hpf,c,hcl,hcd⟩:=hi.tree v v0 v1 hf e
   have hc1:=hc _ hcl;simp only at hc1;obtain⟨cs,hch,hb,hnd,hhd,hla,hok,hsum⟩:=ih (dg P v) p0 p1 hpf (by omega);have hlast:cs.reverse.getLast?=some (dg P v):=by rw[List.getLast?_reverse];exact hhd
   have hpr:WalkLaw.prs (v::cs).reverse=WalkLaw.prs cs.reverse++[(dg P v,v)]:=by
    rw[List.reverse_cons];exact WayLaw.prs_snoc hlast v
   obtain⟨_,heg,_⟩:=WayLaw.eg_fold (dg P v) v l (0,false);obtain⟨hg1,hg2⟩:=heg _ hcl rfl rfl;refine⟨v::cs,Ch.more p0 hch,fun x hx=> ?_,List.nodup_cons.2 ⟨fun hx=> ?_,hnd⟩,rfl,?_,?_,?_⟩
   ·rcases List.mem_cons.1 hx with rfl|hx
    ·exact⟨⟨v0,v1⟩,Int.le_refl _⟩
    ·exact⟨(hb x hx).1,by have:=(hb x hx).2;omega⟩
   ·have:=(hb v hx).2;omega
   ·cases cs with
    |nil=>cases hhd
    |cons y ys=>rw[List.getLast?_cons_cons];exact hla
   ·rw[hpr,WalkLaw.okP_snoc,hok]
    exact hg1
   ·rw[hpr,WalkLaw.sumP_snoc]
    have h8:(WalkLaw.eg l (dg P v) v).1<=c:=hg2
    show WalkLaw.sumP l (WalkLaw.prs cs.reverse)+(WalkLaw.eg l (dg P v) v).1<=dg C v
    omega
theorem Fi.way (hi:Fi n fr l h C P B) (hg:NetLaw.Good n l) (hc:∀e∈l,1<=e.2.2) {v:Int} (v0:0<=v) (v1:v<n) (hf:dg C v<far) :
 ∃cs,Ch P v cs/\(∀x∈cs,0<=x/\x<n)/\cs.length<=64/\1<=cs.length/\cs.reverse.head?=some (fr:Int)/\cs.reverse.getLast?=some v/\∃d,WalkLaw.cost n l cs.reverse=(d,0)/\d<=dg C v:=by
 have hlo:=(hi.lo v v0 v1).1;obtain⟨cs,h1,h2,h3,h4,h5,h6,h7⟩:=hi.chain hc (dg C v).toNat v v0 v1 hf (by omega);have hlen:cs.length<=64:=Nat.le_trans (nodup_lenI h3 (fun m hm=>(h2 m hm).1)) (by have:=hg.hi;omega);have h1l:1<=cs.length:=by cases cs with|nil=>cases h4|cons _ _=>simp
 have hz:(WalkLaw.cost n l cs.reverse).2=0:=WalkLaw.cost_zero.2 ⟨chk_zero.2 hg,by rw[List.length_reverse];omega,by rw[List.length_reverse];omega,by
  rw[List.any_eq_false];intro x hx;have:=(h2 x (List.mem_reverse.1 hx)).1;simp[WalkLaw.outB];omega,h6⟩
 have hv:=WalkLaw.cost_val (N:=(n:Int)) (l:=l) (p:=cs.reverse);rw[if_pos hz] at hv;exact⟨cs,h1,fun x hx=>(h2 x hx).1,hlen,h1l,by rw[List.head?_reverse];exact h5,by rw[List.getLast?_reverse];exact h4,_,Prod.ext hv hz,h7⟩
end
end FocalLaw
namespace FocalLaw
open NetLaw BellLaw DijkLaw HeurLaw StarLaw
section
variable {n fr:Nat} {l:List E} {h:List Int}
def Rx (n:Nat) (l:List E) (h:List Int) (v:Int) (todo:List E) (s:List Int × List Int × List Bool):Prop :=
 ∀e∈l,(e.1=v->e ∉ todo)->s.2.2.getD e.1.toNat false=false->dg s.1 e.1<far->dg h e.1<far->dg h e.2.1<far->dg s.1 e.2.1<=dg s.1 e.1+e.2.2
theorem fx1_mono {s:List Int × List Int × List Bool} (hi:Fi n fr l h s.1 s.2.1 s.2.2) (hends:∀e∈l,0<=e.1/\e.1<n/\0<=e.2.1/\e.2.1<n) {v:Nat} {e:E} (he:e∈l) (u:Int) (u0:0<=u) :
 dg (fx1 h v s e).1 u<=dg s.1 u/\((fx1 h v s e).2.2.getD u.toNat false=false->dg (fx1 h v s e).1 u=dg s.1 u/\s.2.2.getD u.toNat false=false):=by
 unfold fx1;split
 ·rename_i hx
  obtain⟨_,_,t0,t1⟩:=hends e he;obtain⟨k,hk⟩:=Int.eq_ofNat_of_zero_le t0;have hkn:k<n:=by omega
  have hkt:e.2.1.toNat=k:=by rw[hk,Int.toNat_natCast]
  simp only;rw[hkt,dg_set hi.lc hkn _ u u0,getB_set hi.lb hkn];rw[hk] at hx
  by_cases huk:u=k
  ·subst huk
   rw[if_pos rfl,Int.toNat_natCast,if_pos rfl];exact⟨by have:=hx.1;omega,fun h=>by cases h⟩
  ·rw[if_neg huk,if_neg (by omega)]
   exact⟨Int.le_refl _,fun h=>⟨rfl,h⟩⟩
 ·exact⟨Int.le_refl _,fun h=>⟨rfl,h⟩⟩
theorem fx1_done {s:List Int × List Int × List Bool} (hi:Fi n fr l h s.1 s.2.1 s.2.2) (hends:∀e∈l,0<=e.1/\e.1<n/\0<=e.2.1/\e.2.1<n) {v:Nat} {e:E} (he:e∈l) (hh:dg h e.2.1<far):dg (fx1 h v s e).1 e.2.1<=dg s.1 v+e.2.2:=by
 obtain⟨_,_,t0,t1⟩:=hends e he;obtain⟨k,hk⟩:=Int.eq_ofNat_of_zero_le t0;have hkn:k<n:=by omega
 unfold fx1;split
 ·simp only
  rw[show e.2.1.toNat=k by rw[hk,Int.toNat_natCast],dg_set hi.lc hkn _ _ t0,if_pos hk];exact Int.le_refl _
 ·rename_i hx
  exact Int.not_lt.1 fun h1=>hx ⟨h1,hh⟩
theorem Rx.all (hends:∀e∈l,0<=e.1/\e.1<n/\0<=e.2.1/\e.2.1<n) (hc:∀e∈l,1<=e.2.2) (hf:fr<n) {v:Nat} (hv:v<n):∀(es:List E) (s:List Int × List Int × List Bool),(∀e∈es,e∈l/\e.1=v)->Fi n fr l h s.1 s.2.1 s.2.2->dg s.1 v<far->Rx n l h v es s->Rx n l h v [] (fxs h v es s)
 | [],s,_,_,_,hr=>hr
 |e::r,s,hm,hi,hlt,hr=>by
  obtain⟨hel,hev⟩:=hm e (List.mem_cons_self ..);have h12:Fi n fr l h (fx1 h v s e).1 (fx1 h v s e).2.1 (fx1 h v s e).2.2/\dg (fx1 h v s e).1 v=dg s.1 v:=hi.one hends hc hf hv hlt hel hev;obtain⟨h1,h2⟩:=h12;refine Rx.all hends hc hf hv r (fx1 h v s e) (fun x hx=>hm x (List.mem_cons_of_mem _ hx)) h1 (by rw[h2];exact hlt) ?_;intro x hx htodo hb hcf hh1 hh2;obtain⟨x0,x1,x2,x3⟩:=hends x hx;obtain⟨_,hm1⟩:=fx1_mono hi hends (v:=v) hel x.1 x0;obtain⟨hm2,_⟩:=fx1_mono hi hends (v:=v) hel x.2.1 x2;obtain⟨hsame,hbs⟩:=hm1 hb
  by_cases hxe:x=e
  ·subst hxe
   have h3:=fx1_done hi hends (v:=v) hel hh2;rw[hev,h2];exact h3
  ·have h3:=hr x hx (fun hxv hmem=>by
    rcases List.mem_cons.1 hmem with h4|h4
    ·exact hxe h4
    ·exact htodo hxv h4) hbs (by rw[<-hsame];exact hcf) hh1 hh2
   rw[hsame];omega
theorem Fr.rx {tt:Nat} {ta:List Int} {p q:Int} {s:List Int × List Int × List Bool} {ord:List Int} (hends:∀e∈l,0<=e.1/\e.1<n/\0<=e.2.1/\e.2.1<n) (hc:∀e∈l,1<=e.2.2) (hf:fr<n) (hr:Fr n fr tt l h ta p q s ord):Rx n l h 0 [] s:=by
 induction hr with
 |start =>
  intro e he _ hb hcf h1 h2;obtain⟨e0,e1,e2,e3⟩:=hends e he
  have hC:∀u:Int,0<=u->u<n->dg (F0 n fr h).1 u=if u=fr then 0 else far:=fun u u0 u1=>by
   rw[F0];simp only;rw[dg_set (n:=n) (by simp) hf 0 u u0,rep_dg u0 u1]
  rw[hC _ e0 e1] at hcf;split at hcf
  ·rename_i hef
   exfalso
   rw[F0] at hb;simp only at hb;rw[hef,Int.toNat_natCast,getB_set (n:=n) (by simp) hf,if_pos rfl] at hb;rw[hef] at h1;rw[decide_eq_true h1] at hb;cases hb
  ·exact absurd hcf (Int.lt_irrefl _)
 | @step s ord v hr hn hv ih =>
   obtain⟨u,hu,he,hb,_⟩:=pick_some (h:=h) (ta:=ta) (C:=s.1) (B:=s.2.2) (p:=p) (q:=q) (n:=n) (by rw[hn];omega);rw[hn] at he;obtain rfl:=Int.ofNat.inj he;have hi:=hr.fi hends hc hf
   have hall:=Rx.all hends hc hf hu (oe l v) (s.1,s.2.1,s.2.2.set v false) (fun e he=>by
    rw[oe,List.mem_filter] at he
    exact⟨he.1,by simpa using he.2⟩) (hi.off v hu) (hi.wt v hu hb).1 (fun e he htodo hbe hcf h1 h2=>by
     obtain⟨e0,e1,e2,e3⟩:=hends e he
     by_cases hev:e.1=v
     ·exact absurd (List.mem_filter.2 ⟨he,by simpa using hev⟩) (htodo hev)
     ·refine ih e he (fun _ hm=>by cases hm) ?_ hcf h1 h2
      simp only at hbe;rw[getB_set hi.lb hu,if_neg (by omega)] at hbe;exact hbe)
   intro e he _ hbe hcf h1 h2;exact hall e he (fun _ hm=>by cases hm) hbe hcf h1 h2
theorem front_of {tt:Nat} {s:List Int × List Int × List Bool} (hi:Fi n fr l h s.1 s.2.1 s.2.2) (hx:Rx n l h 0 [] s) (hC:HeurLaw.Cons n tt l h) (hends:∀e∈l,0<=e.1/\e.1<n/\0<=e.2.1/\e.2.1<n) (hc:∀e∈l,1<=e.2.2) (hf:fr<n) {v d:Int} (hw:Wk l fr v d) :
 (0<=d/\0<=v/\v<n)/\(dg h v+d<far->dg s.1 v<=d\/∃u:Nat,u<n/\s.2.2.getD u false=true/\sm h s.1 u<=d+dg h v):=by
 induction hw with
 |here=>exact⟨⟨Int.le_refl _,by omega,by omega⟩,fun _=> .inl (by rw[hi.root];exact Int.le_refl _)⟩
 | @step u d e hu he hev ih =>
   obtain⟨e0,e1,e2,e3⟩:=hends e he;have hc1:=hc e he;have hed:=hC.edge e he;have hb1:=hC.bd e0 e1;have hb2:=hC.bd e2 e3;subst hev;obtain⟨⟨d0,u0,u1⟩,ih⟩:=ih;refine⟨⟨by omega,e2,e3⟩,fun hlt=> ?_⟩;rcases ih (by omega) with h1|⟨k,hk,hb,hs⟩
   ·cases hb:s.2.2.getD e.1.toNat false with
    |true =>
     refine .inr ⟨e.1.toNat,by omega,hb,?_⟩;unfold sm;rw[Int.toNat_of_nonneg e0];omega
    |false =>
     have h2:=hx e he (fun _ hm=>by cases hm) hb (by omega) (by omega) (by omega);exact .inl (by omega)
   ·exact .inr ⟨k,hk,hb,by omega⟩
theorem Fr.bound {tt:Nat} {ta:List Int} {p q:Int} {s:List Int × List Int × List Bool} {ord:List Int} (hC:HeurLaw.Cons n tt l h) (hends:∀e∈l,0<=e.1/\e.1<n/\0<=e.2.1/\e.2.1<n) (hc:∀e∈l,1<=e.2.2) (hf:fr<n) (ht:tt<n) (hq:1<=q) (hqp:q<=p) (hr:Fr n fr tt l h ta p q s ord) (hp:pick n h ta s.1 s.2.2 p q=(tt:Int)) {d:Int} (hw:Wk l fr tt d) (hd:d<far):q*dg s.1 tt<=p*d:=by
 have hi:=hr.fi hends hc hf;obtain⟨⟨d0,_⟩,hfr⟩:=front_of hi (hr.rx hends hc hf) hC hends hc hf hw;have hz:=hC.zero;obtain⟨v,hv,he,hb,hle⟩:=pick_some (h:=h) (ta:=ta) (C:=s.1) (B:=s.2.2) (p:=p) (q:=q) (n:=n) (by rw[hp];omega);rw[hp] at he;obtain rfl:=Int.ofNat.inj he;have hlo:=(hi.lo tt (by omega) (by omega)).1;rcases hfr (by omega) with h1|⟨u,hu,hbu,hs⟩
 ·have h2:=Int.mul_le_mul hqp h1 hlo (show 0<=p by omega)
  exact h2
 ·have h2:=hle u hu hbu (by omega)
  rw[hz,Int.add_zero] at hs;have h3:=Int.mul_le_mul_of_nonneg_left hs (show 0<=p by omega);have h4:sm h s.1 tt=dg s.1 tt:=by unfold sm;omega
  rw[h4,Int.mul_comm] at h2;omega
theorem Fr.seen {tt:Nat} {ta:List Int} {p q:Int} {s:List Int × List Int × List Bool} {ord:List Int} (hends:∀e∈l,0<=e.1/\e.1<n/\0<=e.2.1/\e.2.1<n) (hc:∀e∈l,1<=e.2.2) (hf:fr<n) (hr:Fr n fr tt l h ta p q s ord):(∀v:Nat,v<n->dg s.1 v<far->dg h v<far->s.2.2.getD v false=true\/(v:Int)∈ord)/\(tt:Int) ∉ ord:=by
 induction hr with
 |start =>
  refine⟨fun v hv hcf hh=> ?_,by simp⟩;rw[F0] at hcf ⊢;simp only at hcf ⊢;rw[dg_set (n:=n) (by simp) hf 0 v (by omega),rep_dg (by omega) (by omega)] at hcf;split at hcf
  ·rename_i hvf
   obtain rfl:v=fr:=by omega
   rw[getB_set (n:=n) (by simp) hf,if_pos rfl];exact .inl (decide_eq_true hh)
  ·exact absurd hcf (Int.lt_irrefl _)
 | @step s ord v hr hn hv ih =>
   obtain⟨u,hu,he,hb,_⟩:=pick_some (h:=h) (ta:=ta) (C:=s.1) (B:=s.2.2) (p:=p) (q:=q) (n:=n) (by rw[hn];omega);rw[hn] at he;obtain rfl:=Int.ofNat.inj he;have hi:=hr.fi hends hc hf
   have key:∀(es:List E) (x:List Int × List Int × List Bool),(∀e∈es,e∈l/\e.1=v)->Fi n fr l h x.1 x.2.1 x.2.2->dg x.1 v<far->(∀w:Nat,w<n->dg x.1 w<far->dg h w<far->x.2.2.getD w false=true\/(w:Int)∈ord++[(v:Int)])->∀w:Nat,w<n->dg (fxs h v es x).1 w<far->dg h w<far->(fxs h v es x).2.2.getD w false=true\/(w:Int)∈ord++[(v:Int)]:=by
    intro es
    induction es with
    |nil=>intro x _ _ _ hx;exact hx
    |cons e r ihr =>
     intro x hm hix hlt hx;obtain⟨hel,hev⟩:=hm e (List.mem_cons_self ..);have h12:Fi n fr l h (fx1 h v x e).1 (fx1 h v x e).2.1 (fx1 h v x e).2.2/\dg (fx1 h v x e).1 v=dg x.1 v:=hix.one hends hc hf hu hlt hel hev;refine ihr (fx1 h v x e) (fun y hy=>hm y (List.mem_cons_of_mem _ hy)) h12.1 (by rw[h12.2];exact hlt) (fun w hw hcf hh=> ?_);cases hbw:(fx1 h v x e).2.2.getD w false with
     |true=>exact .inl rfl
     |false =>
      obtain⟨_,hm1⟩:=fx1_mono hix hends (v:=v) hel w (by omega);rw[Int.toNat_natCast] at hm1;obtain⟨h1,h2⟩:=hm1 hbw;rcases hx w hw (by rw[<-h1];exact hcf) hh with h3|h3
      ·rw[h2] at h3;cases h3
      ·exact .inr h3
   refine⟨key (oe l v) (s.1,s.2.1,s.2.2.set v false) (fun e he=>by
    rw[oe,List.mem_filter] at he;exact⟨he.1,by simpa using he.2⟩) (hi.off v hu) (hi.wt v hu hb).1 (fun w hw hcf hh=> ?_),?_⟩
   ·simp only
    rw[getB_set hi.lb hu]
    by_cases hwv:w=v
    ·subst hwv;exact .inr (by simp)
    ·rw[if_neg hwv]
     rcases ih.1 w hw hcf hh with h1|h1
     ·exact .inl h1
     ·exact .inr (List.mem_append_left _ h1)
   ·rw[List.mem_append,List.mem_singleton]
    rintro (h1|h1)
    ·exact ih.2 h1
    ·exact hv (by omega)
theorem Fr.none {tt:Nat} {ta:List Int} {p q:Int} {s:List Int × List Int × List Bool} {ord:List Int} (hC:HeurLaw.Cons n tt l h) (hends:∀e∈l,0<=e.1/\e.1<n/\0<=e.2.1/\e.2.1<n) (hc:∀e∈l,1<=e.2.2) (hf:fr<n) (ht:tt<n) (hq:1<=q) (hqp:q<=p) (hr:Fr n fr tt l h ta p q s ord) (hp:pick n h ta s.1 s.2.2 p q<0) {M:List Int} (hM:Sh n fr l M):dg M tt=far:=by
 have hi:=hr.fi hends hc hf
 have hno:=pick_none (h:=h) (ta:=ta) (C:=s.1) (B:=s.2.2) (n:=n) hq hqp (fun v hv=>by
  have h1:=hi.lo v (by omega) (by omega);have h2:=hC.bd (v:=(v:Int)) (by omega) (by omega);unfold sm;omega) hp
 have hlo:=hM.lo tt (by omega) (by omega)
 by_cases hlt:dg M tt<far
 ·obtain⟨_,hfr⟩:=front_of hi (hr.rx hends hc hf) hC hends hc hf (hM.wk tt (by omega) (by omega) hlt)
  have hz:=hC.zero;rcases hfr (by omega) with h1|⟨u,hu,hb,_⟩
  ·obtain⟨h2,h3⟩:=hr.seen hends hc hf
   rcases h2 tt ht (by omega) (by rw[hz];unfold far;omega) with h4|h4
   ·rw[hno tt ht] at h4;cases h4
   ·exact absurd h4 h3
  ·rw[hno u hu] at hb;cases hb
 ·omega
end
end FocalLaw
namespace FocalLaw
open NetLaw BellLaw DijkLaw HeurLaw StarLaw
section
variable {n fr tt:Nat} {l:List E} {h ta M:List Int}
theorem fx1_opt (hM:Sh n fr l M) (hends:∀e∈l,0<=e.1/\e.1<n/\0<=e.2.1/\e.2.1<n) (hc:∀e∈l,1<=e.2.2) {s:List Int × List Int × List Bool} (hi:Fi n fr l h s.1 s.2.1 s.2.2) {v:Nat} (hv:v<n) {e:E} (he:e∈l) (hev:e.1=v) {u:Nat} (hu:u<n) (ho:dg s.1 u=dg M u) :
 dg (fx1 h v s e).1 u=dg s.1 u/\(fx1 h v s e).2.2.getD u false=s.2.2.getD u false:=by
 unfold fx1;split
 ·rename_i hx
  obtain⟨h1,h2⟩:=hx;obtain⟨_,_,e2,e3⟩:=hends e he;have hlt:e.2.1.toNat<n:=by omega
  have hne:u≠e.2.1.toNat:=fun hue=>by
   have e4:(u:Int)=e.2.1:=by omega
   have hw:=(hM.lo u (by omega) (by omega)).2
   have hcv:dg s.1 (v:Int)<far:=by
    have h3:=(hi.lo e.2.1 e2 e3).2;have:=hc e he;omega
   have hwk:=hi.wk v (by omega) (by omega) hcv;have hwk2:Wk l fr e.2.1 (dg s.1 v+e.2.2):=Wk.step hwk he hev;have h5:=hM.walk_le hends hwk2 (by rw[<-e4] at h1;omega) (fun e he=>by have:=hc e he;omega);rw[<-e4] at h5 h1;omega
  refine⟨?_,?_⟩
  ·show dg (s.1.set e.2.1.toNat (dg s.1 v+e.2.2)) u=dg s.1 u
   rw[dg_set hi.lc hlt _ u (by omega),if_neg (by omega)]
  ·show (s.2.2.set e.2.1.toNat true).getD u false=s.2.2.getD u false
   rw[getB_set hi.lb hlt,if_neg hne]
 ·exact⟨rfl,rfl⟩
theorem fxs_opt (hM:Sh n fr l M) (hends:∀e∈l,0<=e.1/\e.1<n/\0<=e.2.1/\e.2.1<n) (hc:∀e∈l,1<=e.2.2) (hf:fr<n) {v:Nat} (hv:v<n):∀(es:List E) (s:List Int × List Int × List Bool),(∀e∈es,e∈l/\e.1=v)->Fi n fr l h s.1 s.2.1 s.2.2->dg s.1 v<far->∀u:Nat,u<n->dg s.1 u=dg M u ->
 dg (fxs h v es s).1 u=dg s.1 u/\(fxs h v es s).2.2.getD u false=s.2.2.getD u false:=by
 intro es
 induction es with
 |nil=>intro s _ _ _ u _ _;exact⟨rfl,rfl⟩
 |cons e es ih =>
  intro s hes hi hvf u hu ho;obtain⟨he,hev⟩:=hes e (by simp);obtain⟨a1,a2⟩:=fx1_opt hM hends hc hi hv he hev hu ho;have hi2:=Fi.all hends hc hf hv [e] s (fun x hx=>by rw[List.mem_singleton] at hx;subst hx;exact⟨he,hev⟩) hi hvf;obtain⟨hi3,hv3⟩:=hi2;have e1:fxs h v [e] s=fx1 h v s e:=rfl;rw[e1] at hi3 hv3;have hvf3:dg (fx1 h v s e).1 v<far:=by omega
  obtain⟨b1,b2⟩:=ih (fx1 h v s e) (fun x hx=>hes x (List.mem_cons_of_mem _ hx)) hi3 hvf3 u hu (by rw[a1];exact ho);have e2:fxs h v (e::es) s=fxs h v es (fx1 h v s e):=rfl;rw[e2];exact⟨b1.trans a1,b2.trans a2⟩
theorem Fr.once (hC:HeurLaw.Cons n tt l h) (hends:∀e∈l,0<=e.1/\e.1<n/\0<=e.2.1/\e.2.1<n) (hc:∀e∈l,1<=e.2.2) (hf:fr<n) (hM:Sh n fr l M) (hmb:∀v:Nat,v<n->dg M v<far->dg h v<far->dg M v+dg h v<far) {s:List Int × List Int × List Bool} {ord:List Int} (hr:Fr n fr tt l h ta 1 1 s ord) :
 (∀v∈ord,∃k:Nat,v=k/\k<n/\dg s.1 k=dg M k/\s.2.2.getD k false=false)/\ord.Nodup:=by
 induction hr with
 |start=>exact⟨fun v hv=>(nomatch hv),List.nodup_nil⟩
 | @step s ord v hr hp hne ih =>
   obtain⟨ih1,ih2⟩:=ih;have hi:=hr.fi hends hc hf;have hx:=hr.rx hends hc hf;obtain⟨v',hv,hpv,hb,hle⟩:=pick_some (p:=1) (q:=1) (show 0<=pick n h ta s.1 s.2.2 1 1 by rw[hp];omega);obtain rfl:v=v':=by rw[hp] at hpv;omega
   obtain⟨hcf,hhf⟩:=hi.wt v hv hb;have hmle:=hM.walk_le hends (hi.wk v (by omega) (by omega) hcf) hcf (fun e he=>by have:=hc e he;omega);have hmf:dg M (v:Int)<far:=by omega
   have hopt:dg s.1 (v:Int)=dg M v:=by
    have h1:=(front_of hi hx hC hends hc hf (hM.wk v (by omega) (by omega) hmf)).2 (by have:=hmb v hv hmf hhf;omega);rcases h1 with h1|⟨u,hu,hub,hsm⟩
    ·omega
    ·have h2:=hle u hu hub (by decide)
     unfold sm at h2 hsm;omega
   have hi2:=hi.off v hv
   have hkeep:=fun (u:Nat) (hu:u<n) (ho:dg s.1 u=dg M u)=>fxs_opt (h:=h) hM hends hc hf hv (oe l v) (s.1,s.2.1,s.2.2.set v false) (fun e he=>by
    rw[oe,List.mem_filter] at he;exact⟨he.1,by simpa using he.2⟩) hi2 hcf u hu ho
   refine⟨fun x hx=> ?_,?_⟩
   ·rcases List.mem_append.1 hx with hx|hx
    ·obtain⟨k,rfl,hk,ho,hbk⟩:=ih1 x hx
     obtain⟨a1,a2⟩:=hkeep k hk ho;refine⟨k,rfl,hk,a1.trans ho,a2.trans ?_⟩
     show (s.2.2.set v false).getD k false=false
     rw[getB_set hi.lb hv];split
     ·rfl
     ·exact hbk
    ·rw[List.mem_singleton] at hx
     subst hx;obtain⟨a1,a2⟩:=hkeep v hv hopt;refine⟨v,rfl,hv,a1.trans hopt,a2.trans ?_⟩
     show (s.2.2.set v false).getD v false=false
     rw[getB_set hi.lb hv,if_pos rfl]
   ·rw[List.nodup_append]
    refine⟨ih2,by simp,fun a ha b hb2 hab=> ?_⟩;rw[List.mem_singleton] at hb2;subst hb2;subst hab;obtain⟨k,e,_,_,hbk⟩:=ih1 _ ha;obtain rfl:k=v:=by omega
    rw[hb] at hbk;cases hbk
theorem Fr.steps (hC:HeurLaw.Cons n tt l h) (hends:∀e∈l,0<=e.1/\e.1<n/\0<=e.2.1/\e.2.1<n) (hc:∀e∈l,1<=e.2.2) (hf:fr<n) (hM:Sh n fr l M) (hmb:∀v:Nat,v<n->dg M v<far->dg h v<far->dg M v+dg h v<far) {s:List Int × List Int × List Bool} {ord:List Int} (hr:Fr n fr tt l h ta 1 1 s ord):ord.length<=n:=by
 obtain⟨h1,h2⟩:=hr.once hC hends hc hf hM hmb
 exact nodup_lenI h2 (fun v hv=>by
  obtain⟨k,rfl,hk,_⟩:=h1 v hv;omega)
end
end FocalLaw
namespace YenLaw
open NetLaw BellLaw DijkLaw WalkLaw WayLaw
section
variable {n s t:Nat} {l:List E} {D:List Int}
theorem bk_all (hD:Sh n s l D) (hg:NetLaw.Good n l) (hc:∀e∈l,1<=e.2.2) {tt:Int}:∀(k:Nat) (v:Int) (b:List Int),(dg D v).toNat<=k->dg D v<far->(0<=v/\v<n)->Bk n l D tt v b->∃b',Bk n l D tt s b':=by
 intro k
 induction k with
 |zero =>
  intro v b hk hf hv hb
  by_cases hvs:v=s
  ·subst hvs;exact⟨b,hb⟩
  ·obtain⟨h1,h2,h3,h4⟩:=pv_spec hD hg hc hv hf hvs
   have:=(hD.lo _ h2 h3).1;omega
 |succ k ih =>
  intro v b hk hf hv hb
  by_cases hvs:v=s
  ·subst hvs;exact⟨b,hb⟩
  ·obtain⟨h1,h2,h3,h4⟩:=pv_spec hD hg hc hv hf hvs
   exact ih _ _ (by omega) (by omega) ⟨h2,h3⟩ (hb.add h1 ⟨h2,h3⟩ h4 hf)
theorem best_smp (hD:Sh n s l D) (hg:NetLaw.Good n l) (hc:∀e∈l,1<=e.2.2) (ht:t<n) (hf:dg D (t:Int)<far):∃p,Smp n l s t p/\wt l p=dg D (t:Int):=by
 obtain⟨b,hb⟩:=bk_all hD hg hc _ t [(t:Int)] zzL hf ⟨by omega,by omega⟩ (Bk.one ⟨by omega,by omega⟩ hf);have hw:=hb.way;obtain⟨h1,h2⟩:=links_cost hD b.reverse s t hw.head hw.last (fun z hz=>(hw.rng z hz).2.2) hw.link;refine⟨b.reverse,⟨hw.head,hw.last,hw.nd,fun v hv=>⟨(hw.rng v hv).1,(hw.rng v hv).2.1⟩,h1⟩,?_⟩;unfold wt;rw[h2,hD.st];omega
theorem Smp.ge {p:List Int} (h:Smp n l s t p) (hD:Sh n s l D) (hg:NetLaw.Good n l) (hc:∀e∈l,1<=e.2.2):dg D (t:Int)<=wt l p/\wt l p<far/\0<=wt l p:=by
 have hw:=TopLaw.walk_wk p s t h.head h.last h.ok;have hb:=sumP_bd hg.cost (prs p);rw[prs_len] at hb;have hl:=h.len;have hn:=hg.hi;have hlt:wt l p<far:=by unfold wt far;omega
 have h1:=hD.walk_le hg.ends hw hlt (fun e he=>by have:=hc e he;omega);have hd:=(hD.wk t);refine⟨h1,hlt,?_⟩
 have key:∀(v x:Int),Wk l s v x->0<=x:=fun v x hw=>by
  induction hw with
  |here=>exact Int.le_refl _
  |step _ he _ ih=>have:=hc _ he;omega
 exact key _ _ hw
theorem Top.first {k:Nat} {p:List Int} {r:List (List Int)} (h:Top n l s t k (p::r)) (hD:Sh n s l D) (hg:NetLaw.Good n l) (hc:∀e∈l,1<=e.2.2) (ht:t<n):wt l p=dg D (t:Int):=by
 obtain⟨h1,h2,_⟩:=(h.so p (by simp)).ge hD hg hc;obtain⟨p',hp',hw⟩:=best_smp hD hg hc ht (by omega)
 have hle:leY l p p':=by
  by_cases hm:p'∈p::r
  ·rcases List.mem_cons.1 hm with e|hm
   ·exact .inl e.symm
   ·exact .inr ((List.pairwise_cons.1 h.sorted).1 p' hm)
  ·exact .inr (h.low p' hp' hm p (by simp))
 rcases hle with e|e
 ·rw[e,hw]
 ·rw[ltY_iff] at e
  unfold ky at e;simp only at e;omega
end
end YenLaw
namespace TopP
open NetLaw BellLaw DijkLaw HeurLaw StarLaw
theorem bst_sh {n s t:Nat} {l:List E} {M:List Int} {d:Int} (hM:Sh n s l M) (hg:NetLaw.Good n l) (hc:∀e∈l,1<=e.2.2) (ht:t<n) (hb:LifeLaw.Bst l s t d):d=dg M t:=by
 have hlo:=hM.lo t (by omega) (by omega);have h1:=hb.hi;rcases Int.lt_or_le d far with h|h
 ·have h2:=hM.walk_le hg.ends (hb.is h) h (fun e he=>by have:=hc e he;omega)
  have h3:=hb.least _ (hM.wk t (by omega) (by omega) (by omega));omega
 ·rcases Int.lt_or_le (dg M t) far with h2|h2
  ·have h3:=hb.least _ (hM.wk t (by omega) (by omega) h2)
   omega
  ·omega
theorem yen_one {n s t:Nat} {l:List E} {M:List Int} {out:List (List Int)} (hM:Sh n s l M) (hg:NetLaw.Good n l) (hc:∀e∈l,1<=e.2.2) (ht:t<n) (h:YenLaw.Top n l s t 1 out):(out=[]/\dg M t=far)\/∃p,out=[p]/\YenLaw.wt l p=dg M t/\dg M t<far:=by
 have hlo:=hM.lo t (by omega) (by omega);cases out with
 |nil =>
  refine .inl ⟨rfl,?_⟩;rcases Int.lt_or_le (dg M t) far with h1|h1
  ·obtain⟨q,hq,_⟩:=YenLaw.best_smp hM hg hc ht h1
   rcases h.all with h2|h2
   ·simp at h2
   ·have:=h2 q hq;simp at this
  ·omega
 |cons p r =>
  have hl:=h.len;simp only[List.length_cons] at hl;obtain rfl:r=[]:=List.eq_nil_of_length_eq_zero (by omega);obtain⟨g1,g2,_⟩:=(h.so p (by simp)).ge hM hg hc;exact .inr ⟨p,rfl,h.first hM hg hc ht,by omega⟩
theorem focal_end {n f t:Nat} {l:List E} {hs ta M:List Int} (hC:Cons n t l hs) (hg:NetLaw.Good n l) (hc:∀e∈l,1<=e.2.2) (hf:f<n) (ht:t<n) (hM:Sh n f l M) {s:List Int × List Int × List Bool} {ord cs:List Int} (hr:FocalLaw.Fr n f t l hs ta 1 1 s ord) (h2:FocalLaw.pick n hs ta s.1 s.2.2 1 1=(t:Int)) (hch:Ch s.2.1 t cs) :
 (WalkLaw.cost n l cs.reverse).1=dg M t/\dg M t<far:=by
 have hn:=hg.hi;have hi:=hr.fi hg.ends hc hf;obtain⟨v,hv,he,hbv,_⟩:=FocalLaw.pick_some (h:=hs) (ta:=ta) (C:=s.1) (B:=s.2.2) (p:=1) (q:=1) (n:=n) (by rw[h2];omega);rw[h2] at he;obtain rfl:t=v:=by omega
 have hlt:=(hi.wt t hv hbv).1;obtain⟨cs',g1,g2,g3,g4,g5,g6,d,g7,g8⟩:=hi.way hg hc (v:=(t:Int)) (by omega) (by omega) hlt;obtain rfl:=hch.unique g1;have hcc:(WalkLaw.cost n l cs.reverse).1=d:=by rw[g7]
 have hw:=hi.wk t (by omega) (by omega) hlt;have hle2:=hM.walk_le hg.ends hw hlt (fun e he=>by have:=hc e he;omega);have hlt':dg M t<far:=Int.lt_of_le_of_lt hle2 hlt;have h3:=hr.bound hC hg.ends hc hf ht (by decide) (by decide) h2 (hM.wk t (by omega) (by omega) hlt') hlt'
 have hwd:Wk l f t d:=by
  have hz:(WalkLaw.cost n l cs.reverse).2=0:=by rw[g7]
  have hv:=WalkLaw.cost_val (N:=(n:Int)) (l:=l) (p:=cs.reverse);rw[if_pos hz,g7] at hv;have hok:=(WalkLaw.cost_zero.1 hz).2.2.2.2;have k:=TopLaw.walk_wk cs.reverse f t g5 g6 hok;rw[<-hv] at k;exact k
 have h4:=hM.walk_le hg.ends hwd (by omega) (fun e he=>by have:=hc e he;omega);exact⟨by rw[hcc];omega,hlt'⟩
end TopP
namespace TopC
open Go.RowKit NetLaw BellLaw DijkLaw WalkLaw YenLaw Net Go.Proofs.YtjebckehmmbkbaaGreat.Std
open HeapW
def KC (c:Int) (w:World) (e:Ending) (w':World):Prop :=
 (∃A m co,e= .returned (.tuple #[.slice A m co,.int .i64 5])/\c=far/\Below w.heap.size w w') \/
 (∃S co x,e= .returned (.tuple #[.slice (some ⟨S,0,none⟩) 1 co,.int .i64 0])/\c<far/\S<w'.heap.size/\w'.cell? ⟨S,0,none⟩=some x/\w'.cell? ⟨S,1,none⟩=some (.int .i64 c)/\Below w.heap.size w w')
theorem yen_c (n s t:Nat) (A:Option Addr) (c:Nat) (l:List E) (w:World) (hl:Sl w w.heap.size 3 ce A l) (hlen:l.length<=9223372036854775807) (hx:Dijk.look n l [(s:Int),(t:Int)]=0) {M:List Int} (hM:Sh n s l M) :
 Calls Tryz.prog 18 #[.agg #[.int .i64 n,.slice A l.length c],.int .i64 s,.int .i64 t,.int .i64 1] w fun e w'=>KC (dg M t) w e w':=by
 obtain⟨hg,hc,⟨s0,s1⟩,t0,t1⟩:=DijkWay.looks_zero hx;have ht:t<n:=by omega
 have hlo:=hM.lo t (by omega) (by omega);refine(Yen.k_any n s t 1 A c l w hl hlen).mono ?_;rintro e w' ⟨Ao,mo,co,O,er,rfl,hb,hlen1,hown,hrd,hkf⟩;rcases hkf.out with ⟨h1,_⟩|⟨_,h2,_⟩|⟨_,_,_,n',s',t',e1,e2,e3,htop,hcase⟩
 ·exact absurd hx h1
 ·omega
 ·obtain rfl:n=n':=by omega
  obtain rfl:s=s':=by omega
  obtain rfl:t=t':=by omega
  have htop1:Top n l s t 1 (O.map (·.2.2)):=htop;rcases TopP.yen_one hM hg hc ht htop1 with ⟨hn,hfar⟩|⟨p,hp,hw,hlt⟩
  ·have hO:O=[]:=List.map_eq_nil_iff.1 hn
   rcases hcase with ⟨_,rfl⟩|⟨h1,_⟩
   ·exact .inl ⟨Ao,mo,co,rfl,hfar,hb.out⟩
   ·exact absurd hO h1
  ·obtain⟨x,rfl⟩:∃x,O=[x]:=by
    cases O with
    |nil=>cases hp
    |cons x r =>
     cases r with
     |nil=>exact⟨x,rfl⟩
     |cons y r=>simp at hp
   have hxp:x.2.2=p:=by simpa using hp
   rcases hcase with ⟨h1,_⟩|⟨_,rfl⟩
   ·cases h1
   obtain rfl:mo=1:=by rw[<-hlen1.out];rfl
   obtain⟨S,c',hv,_,hS,_,hcl⟩:=hown.out.some_ (by simp);injection hv with hA e4 e5;subst hA;have hw2:=(hrd.out x (by simp)).2;have k0:=(hcl 0 (by simp) 0 (by decide)).1;have k1:=(hcl 0 (by simp) 1 (by decide)).1;refine .inr ⟨S,co,_,rfl,hlt,hS,k0,?_,hb.out⟩
   have h9:cw x 1= .int .i64 (dg M t):=by
    unfold cw;simp only;rw[hw2,hxp,hw]
   have k2:w'.cell? ⟨S,1,none⟩=some (cw x 1):=k1;rw[k2,h9]
end TopC
end Go.Proofs.YtjebckehmmbkbaaGreat
