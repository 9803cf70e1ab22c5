/- Plain facts on the search with keys: no Go in sight. The walk of star.Back. Plain facts on what goes through a net: flows, cuts, and what one more way adds. No Go in sight. The memory of flow.seek: who lies where, and what each write leaves as it was. The memory of star.Search: who lies where, and what each write leaves as it was. -/
import Derived.Deep.AppendSrc
import Derived.Test.YtjebckehmmbkbaaGreatVHeurLaw
set_option linter.unusedSimpArgs false
set_option linter.unusedVariables false
set_option maxRecDepth 100000
set_option maxHeartbeats 24000000
namespace Go.Proofs.YtjebckehmmbkbaaGreat
namespace StarLaw
open NetLaw BellLaw DijkLaw HeurLaw
abbrev Tr:=Int × Int × Int
def lt3 (a b:Tr):Bool:=decide (a.1<b.1\/a.1=b.1/\(a.2.1<b.2.1\/a.2.1=b.2.1/\a.2.2<b.2.2))
theorem lt3_no {a b:Tr}:lt3 a b=false ↔ b.1<a.1\/a.1=b.1/\(b.2.1<a.2.1\/a.2.1=b.2.1/\b.2.2<=a.2.2):=by
 simp only[lt3,decide_eq_false_iff_not];omega
def ky (K:Int->Int->Int) (h D:List Int) (v:Int):Tr:=(K (dg D v) (dg h v),dg h v,v)
def Opn (N:Nat) (D ord:List Int) (v:Int):Prop:=(0<=v/\v<N)/\dg D v<far/\v ∉ ord
def Nx (K:Int->Int->Int) (N:Nat) (h D ord:List Int) (v:Int):Prop:=Opn N D ord v/\∀u,Opn N D ord u->lt3 (ky K h D u) (ky K h D v)=false
def rx1 (h dn:List Int) (v:Int) (s:List Int × List Int) (e:E):List Int × List Int :=
 if e.2.1∈dn\/dg s.1 e.2.1<=dg s.1 v+e.2.2\/dg h e.2.1=far then s else (s.1.set e.2.1.toNat (dg s.1 v+e.2.2),s.2.set e.2.1.toNat v)
def oe (l:List E) (v:Int):List E:=l.filter fun e=>decide (e.1=v)
def rxs (h dn:List Int) (v:Int) (es:List E) (s:List Int × List Int):List Int × List Int:=es.foldl (rx1 h dn v) s
def D0 (N fr:Nat) (h:List Int):List Int:=if dg h fr=far then List.replicate N far else (List.replicate N far).set fr 0
def P0 (N:Nat):List Int:=List.replicate N (-1)
inductive Rch (K:Int->Int->Int) (N fr tt:Nat) (l:List E) (h:List Int):List Int->List Int->List Int->Prop
 |start:Rch K N fr tt l h (D0 N fr h) (P0 N) []
 |step {D P ord:List Int} {v:Int}:Rch K N fr tt l h D P ord->Nx K N h D ord v->v≠tt->Rch K N fr tt l h (rxs h (ord++[v]) v (oe l v) (D,P)).1 (rxs h (ord++[v]) v (oe l v) (D,P)).2 (ord++[v])
section
variable {K K':Int->Int->Int} {N fr tt:Nat} {l:List E} {h:List Int}
end
structure Mid (N:Nat) (l:List E) (h dn:List Int) (v:Int) (D P D' P':List Int) (seen:List E):Prop where
 lenD:D'.length=D.length
 lenP:P'.length=P.length
 eq:∀u:Int,0<=u->u<N->(dg D' u=dg D u/\dg P' u=dg P u)\/(u ∉ dn/\dg h u≠far/\dg P' u=v/\dg D' u<dg D u/\∃e∈l,e.1=v/\e.2.1=u/\dg D' u=dg D v+e.2.2)
 rel:∀e∈seen,e.2.1∈dn\/dg h e.2.1=far\/dg D' e.2.1<=dg D v+e.2.2
section
variable {N:Nat} {l:List E} {h dn:List Int} {v:Int} {D P D' P':List Int} {seen:List E}
theorem Mid.start:Mid N l h dn v D P D P []:=⟨rfl,rfl,fun u _ _=> .inl ⟨rfl,rfl⟩,fun e he=>by cases he⟩
theorem Mid.le (hm:Mid N l h dn v D P D' P' seen) {u:Int} (u0:0<=u) (u1:u<N):dg D' u<=dg D u:=by
 rcases hm.eq u u0 u1 with ⟨e,_⟩|⟨_,_,_,e,_⟩ <;> omega
theorem Mid.dn_ (hm:Mid N l h dn v D P D' P' seen) {u:Int} (u0:0<=u) (u1:u<N) (hu:u∈dn):dg D' u=dg D u/\dg P' u=dg P u:=by
 rcases hm.eq u u0 u1 with e|⟨e,_⟩
 ·exact e
 ·exact absurd hu e
theorem Mid.step (hm:Mid N l h dn v D P D' P' seen) {e:E} (he:e∈l) (hev:e.1=v) (v0:0<=v) (v1:v<N) (hv:v∈dn) (t0:0<=e.2.1) (t1:e.2.1<N) (hD:D.length=N) (hP:P.length=N) :
 Mid N l h dn v D P (rx1 h dn v (D',P') e).1 (rx1 h dn v (D',P') e).2 (seen++[e]):=by
 have hvv:=(hm.dn_ v0 v1 hv).1;unfold rx1
 by_cases hc:e.2.1∈dn\/dg D' e.2.1<=dg D' v+e.2.2\/dg h e.2.1=far
 ·rw[if_pos hc]
  refine⟨hm.lenD,hm.lenP,hm.eq,fun x hx=> ?_⟩;rcases List.mem_append.1 hx with hx|hx
  ·exact hm.rel x hx
  ·rw[List.mem_singleton] at hx
   subst hx;rw[hvv] at hc;rcases hc with hc|hc|hc
   ·exact .inl hc
   ·exact .inr (.inr hc)
   ·exact .inr (.inl hc)
 ·rw[if_neg hc]
  have hne:e.2.1 ∉ dn:=fun h=>hc (.inl h);have hlt:¬dg D' e.2.1<=dg D' v+e.2.2:=fun h=>hc (.inr (.inl h));have hhf:dg h e.2.1≠far:=fun h=>hc (.inr (.inr h));rw[hvv] at hlt ⊢;have hDl:=hm.lenD;have hPl:=hm.lenP;have sD:=fun u hu=>dg_set (D:=D') (t:=e.2.1) (v:=u) (x:=dg D v+e.2.2) t0 (by omega) hu;have sP:=fun u hu=>dg_set (D:=P') (t:=e.2.1) (v:=u) (x:=v) t0 (by omega) hu;refine⟨by simp[hDl],by simp[hPl],fun u u0 u1=> ?_,fun x hx=> ?_⟩
  ·simp only[sD u u0,sP u u0]
   by_cases hu:u=e.2.1
   ·subst hu
    rw[if_pos rfl,if_pos rfl];exact .inr ⟨hne,hhf,rfl,by have:=hm.le u0 u1;omega,e,he,hev,rfl,rfl⟩
   ·rw[if_neg hu,if_neg hu]
    exact hm.eq u u0 u1
  ·rcases List.mem_append.1 hx with hx|hx
   ·rcases hm.rel x hx with h1|h1|h1
    ·exact .inl h1
    ·exact .inr (.inl h1)
    ·refine .inr (.inr ?_)
     by_cases x0:0<=x.2.1
     ·simp only[sD _ x0]
      split
      ·rename_i hxe
       rw[hxe] at h1;have:=hlt;omega
      ·exact h1
     ·have e2:x.2.1.toNat=0:=by omega
      have h3:∀A:List Int,dg A x.2.1=dg A 0:=fun A=>by unfold dg;rw[e2];rfl
      rw[h3] at h1 ⊢;simp only[sD 0 (Int.le_refl 0)];split
      ·rename_i hxe
       rw[hxe] at h1;omega
      ·exact h1
   ·rw[List.mem_singleton] at hx
    subst hx;refine .inr (.inr ?_);simp only[sD _ t0,if_pos];exact Int.le_refl _
theorem Mid.all (hends:∀e∈l,0<=e.1/\e.1<N/\0<=e.2.1/\e.2.1<N) (v0:0<=v) (v1:v<N) (hv:v∈dn) (hD:D.length=N) (hP:P.length=N):∀(es:List E) (seen:List E) (D' P':List Int),(∀e∈es,e∈l/\e.1=v)->Mid N l h dn v D P D' P' seen ->
 Mid N l h dn v D P (rxs h dn v es (D',P')).1 (rxs h dn v es (D',P')).2 (seen++es):=by
 intro es
 induction es with
 |nil=>intro seen D' P' _ hm;rw[List.append_nil];exact hm
 |cons e es ih =>
  intro seen D' P' hes hm;obtain⟨he,hev⟩:=hes e (List.mem_cons_self ..);obtain⟨_,_,t0,t1⟩:=hends e he;have:=ih (seen++[e]) _ _ (fun x hx=>hes x (List.mem_cons_of_mem _ hx)) (hm.step he hev v0 v1 hv t0 t1 hD hP);rw[List.append_assoc] at this;exact this
end
structure St (N fr:Nat) (l:List E) (h D P ord:List Int):Prop where
 lenD:D.length=N
 lenP:P.length=N
 lo:∀v:Int,0<=v->v<N->0<=dg D v/\dg D v<=far
 live:∀v:Int,0<=v->v<N->dg D v<far->dg h v≠far
 wk:∀v:Int,0<=v->v<N->dg D v<far->Wk l fr v (dg D v)
 root:dg h fr≠far->dg D fr=0
 rootP:dg P fr= -1
 tree:∀v:Int,0<=v->v<N->dg D v<far->v≠fr->(0<=dg P v/\dg P v<N)/\dg P v∈ord/\∃c,(dg P v,v,c)∈l/\dg D v=dg D (dg P v)+c/\∀c',(dg P v,v,c')∈l->c<=c'
 relx:∀e∈l,e.1∈ord->e.2.1 ∉ ord->dg h e.2.1≠far->dg D e.2.1<=dg D e.1+e.2.2
 ordin:∀v∈ord,(0<=v/\v<N)/\dg D v<far
 nd:ord.Nodup
 bd:∀v:Int,0<=v->v<N->dg D v<far->dg D v<=10000*(ord.length:Int)
section
variable {N fr:Nat} {l:List E} {h D P ord:List Int}
theorem rep_dg {n:Nat} {x v:Int} (v0:0<=v) (v1:v<n):dg (List.replicate n x) v=x:=by
 rw[dg,List.getD_eq_getElem?_getD,List.getElem?_replicate,if_pos (by omega)]
 rfl
theorem St.start (hf:fr<N):St N fr l h (D0 N fr h) (P0 N) []:=by
 unfold D0 P0
 by_cases hh:dg h fr=far
 ·rw[if_pos hh]
  have hr:=fun v v0 v1=>rep_dg (n:=N) (x:=far) (v:=v) v0 v1;exact⟨by simp,by simp,fun v v0 v1=>by rw[hr v v0 v1];unfold far;omega,fun v v0 v1 hv=>(by rw[hr v v0 v1] at hv;omega),fun v v0 v1 hv=>(by rw[hr v v0 v1] at hv;omega),fun hn=>absurd hh hn,rep_dg (by omega) (by omega),fun v v0 v1 hv=>(by rw[hr v v0 v1] at hv;omega),fun e _ he=>(by cases he),fun v hv=>(by cases hv),List.nodup_nil,fun v v0 v1 hv=>by rw[hr v v0 v1] at hv;omega⟩
 ·rw[if_neg hh]
  have hs:=fun v hv=>dg_set (D:=List.replicate N far) (t:=(fr:Int)) (v:=v) (x:=0) (by omega) (by simp;omega) hv;simp only[Int.toNat_natCast] at hs
  have hr:∀v:Int,0<=v->v<N->dg ((List.replicate N far).set fr 0) v=if v=fr then 0 else far:=fun v v0 v1=>by
   rw[hs v v0];split
   ·rfl
   ·exact rep_dg v0 v1
  have hlt:∀v:Int,0<=v->v<N->dg ((List.replicate N far).set fr 0) v<far->v=fr:=fun v v0 v1 hv=>by
   rw[hr v v0 v1] at hv;split at hv
   ·assumption
   ·omega
  refine⟨by simp,by simp,fun v v0 v1=> ?_,fun v v0 v1 hv=> ?_,fun v v0 v1 hv=> ?_,fun _=> ?_,rep_dg (by omega) (by omega),fun v v0 v1 hv hn=>absurd (hlt v v0 v1 hv) hn,fun e _ he=>(by cases he),fun v hv=>(by cases hv),List.nodup_nil,fun v v0 v1 hv=> ?_⟩
  ·rw[hr v v0 v1];split <;> (unfold far;omega)
  ·rw[hlt v v0 v1 hv];exact hh
  ·obtain rfl:=hlt v v0 v1 hv
   rw[hr _ v0 v1,if_pos rfl];exact Wk.here
  ·rw[hr _ (by omega) (by omega),if_pos rfl]
  ·rw[hlt v v0 v1 hv,hr _ (by omega) (by omega),if_pos rfl];simp
theorem St.step (hs:St N fr l h D P ord) (hends:∀e∈l,0<=e.1/\e.1<N/\0<=e.2.1/\e.2.1<N) (hc:∀e∈l,1<=e.2.2/\e.2.2<=10000) (hf:fr<N) {v:Int} (hv:Opn N D ord v) :
 St N fr l h (rxs h (ord++[v]) v (oe l v) (D,P)).1 (rxs h (ord++[v]) v (oe l v) (D,P)).2 (ord++[v])/\(∀u∈ord++[v],dg (rxs h (ord++[v]) v (oe l v) (D,P)).1 u=dg D u) /\
 ∀u:Int,0<=u->u<N->dg (rxs h (ord++[v]) v (oe l v) (D,P)).1 u=dg D u\/(u ∉ ord++[v]/\∃c,(v,u,c)∈l/\dg (rxs h (ord++[v]) v (oe l v) (D,P)).1 u=dg D v+c):=by
 obtain⟨⟨v0,v1⟩,hvf,hvo⟩:=hv;have hvd:v∈ord++[v]:=List.mem_append_right _ (List.mem_singleton.2 rfl)
 have hm:=Mid.all (h:=h) (dn:=ord++[v]) hends v0 v1 hvd hs.lenD hs.lenP (oe l v) [] D P (fun e he=>by
  unfold oe at he;rw[List.mem_filter] at he;exact⟨he.1,of_decide_eq_true he.2⟩) Mid.start
 rw[List.nil_append] at hm;generalize (rxs h (ord++[v]) v (oe l v) (D,P)).1=D' at hm ⊢;generalize (rxs h (ord++[v]) v (oe l v) (D,P)).2=P' at hm ⊢
 have hdn:∀u∈ord++[v],(0<=u/\u<N)/\dg D u<far:=fun u hu=>by
  rcases List.mem_append.1 hu with h1|h1
  ·exact hs.ordin u h1
  ·rw[List.mem_singleton] at h1;subst h1;exact⟨⟨v0,v1⟩,hvf⟩
 have hsame:∀u∈ord++[v],dg D' u=dg D u/\dg P' u=dg P u:=fun u hu=>hm.dn_ (hdn u hu).1.1 (hdn u hu).1.2 hu;have hvlo:=hs.lo v v0 v1
 have hnew:∀u:Int,0<=u->u<N->(dg D' u=dg D u/\dg P' u=dg P u)\/(u ∉ ord++[v]/\dg h u≠far/\dg P' u=v/\dg D' u<dg D u/\∃c,(v,u,c)∈l/\dg D' u=dg D v+c/\1<=c/\c<=10000):=fun u u0 u1=>by
  rcases hm.eq u u0 u1 with h1|⟨h1,h2,h3,h4,e,he,e1,e2,e3⟩
  ·exact .inl h1
  ·refine .inr ⟨h1,h2,h3,h4,e.2.2,?_,e3,hc e he⟩
   rw[<-e1, <-e2];exact he
 refine⟨⟨hm.lenD.trans hs.lenD,hm.lenP.trans hs.lenP,fun u u0 u1=> ?_,fun u u0 u1 hu=> ?_,fun u u0 u1 hu=> ?_,fun hh=> ?_,?_,fun u u0 u1 hu hne=> ?_,fun e he heo hen hef=> ?_,fun u hu=> ?_,?_,fun u u0 u1 hu=> ?_⟩,fun u hu=>(hsame u hu).1,fun u u0 u1=> ?_⟩
 ·have:=hs.lo u u0 u1
  rcases hnew u u0 u1 with ⟨e,_⟩|⟨_,_,_,e,c,_,e2,e3,_⟩ <;> omega
 ·rcases hnew u u0 u1 with ⟨e,_⟩|⟨_,e,_⟩
  ·exact hs.live u u0 u1 (by omega)
  ·exact e
 ·rcases hnew u u0 u1 with ⟨e,_⟩|⟨_,_,_,e,c,hm,e2,e3⟩
  ·rw[e];exact hs.wk u u0 u1 (by omega)
  ·rw[e2]
   exact Wk.step (e:=(v,u,c)) (hs.wk v v0 v1 hvf) hm rfl
 ·have h0:=hs.root hh
  rcases hnew fr (by omega) (by omega) with ⟨e,_⟩|⟨_,_,_,e,c,_,e2,e3⟩ <;> omega
 ·rcases hnew fr (by omega) (by omega) with ⟨_,e⟩|⟨_,e1,_,e,c,_,e2,e3⟩
  ·rw[e];exact hs.rootP
  ·have h0:=hs.root e1
   omega
 ·rcases hnew u u0 u1 with ⟨e,eP⟩|⟨hud,hhu,eP,e,c,hmem,e2,e3⟩
  ·obtain⟨⟨p0,p1⟩,hpo,c,hcl,hcd,hmin⟩:=hs.tree u u0 u1 (by omega) hne
   have hpd:dg P u∈ord++[v]:=List.mem_append_left _ hpo;rw[eP,e];exact⟨⟨p0,p1⟩,hpd,c,hcl,by rw[(hsame _ hpd).1];exact hcd,hmin⟩
  ·rw[eP]
   refine⟨⟨v0,v1⟩,hvd,c,hmem,by rw[(hsame v hvd).1];exact e2,fun c' hc'=> ?_⟩;have hin:((v,u,c'):E)∈oe l v:=by unfold oe;rw[List.mem_filter];exact⟨hc',by simp⟩
   rcases hm.rel _ hin with h1|h1|h1
   ·exact absurd h1 hud
   ·exact absurd h1 hhu
   ·simp only at h1
    omega
 ·obtain⟨a0,a1,b0,b1⟩:=hends e he
  have hle:=hm.le b0 b1;rcases List.mem_append.1 heo with h1|h1
  ·have hn1:e.2.1 ∉ ord:=fun x=>hen (List.mem_append_left _ x)
   have:=hs.relx e he h1 hn1 hef;rw[(hsame _ heo).1];omega
  ·rw[List.mem_singleton] at h1
   have hin:e∈oe l v:=by unfold oe;rw[List.mem_filter];exact⟨he,by simp[h1]⟩
   rw[(hsame _ heo).1,h1];rcases hm.rel _ hin with h2|h2|h2
   ·exact absurd h2 hen
   ·exact absurd h2 hef
   ·exact h2
 ·obtain⟨h1,h2⟩:=hdn u hu
  exact⟨h1,by rw[(hsame u hu).1];exact h2⟩
 ·rw[List.nodup_append]
  exact⟨hs.nd,by simp,fun a ha b hb e=>by rw[List.mem_singleton] at hb;subst hb;subst e;exact hvo ha⟩
 ·have hl:((ord++[v]).length:Int)=ord.length+1:=by simp
  rw[hl];have hbv:=hs.bd v v0 v1 hvf;rcases hnew u u0 u1 with ⟨e,_⟩|⟨_,_,_,e,c,_,e2,e3,e4⟩
  ·have:=hs.bd u u0 u1 (by omega)
   omega
  ·omega
 ·rcases hnew u u0 u1 with ⟨e,_⟩|⟨hud,_,_,_,c,hmem,e2,_⟩
  ·exact .inl e
  ·exact .inr ⟨hud,c,hmem,e2⟩
theorem nodup_lenI {S:List Int} {k:Nat} (h:S.Nodup) (hk:∀m∈S,0<=m/\m<k):S.length<=k:=by
 induction k generalizing S with
 |zero =>
  cases S with
  |nil=>simp
  |cons x S=>have:=hk x (List.mem_cons_self ..);omega
 |succ k ih =>
  have h1:=ih (S:=S.erase (k:Int)) (h.erase _) (fun m hm=>by
   have hm2:=(h.mem_erase_iff).1 hm;have:=hk m hm2.2;have:=hm2.1;omega)
  by_cases hin:(k:Int)∈S
  ·rw[List.length_erase_of_mem hin] at h1;omega
  ·rw[List.erase_of_not_mem hin] at h1;omega
theorem St.ordlen (hs:St N fr l h D P ord) (hN:N<=64):ord.length<=64:=Nat.le_trans (nodup_lenI hs.nd (fun m hm=>(hs.ordin m hm).1)) hN
theorem Rch.st {K:Int->Int->Int} {tt:Nat} (hends:∀e∈l,0<=e.1/\e.1<N/\0<=e.2.1/\e.2.1<N) (hc:∀e∈l,1<=e.2.2/\e.2.2<=10000) (hf:fr<N) {D P ord:List Int} (hr:Rch K N fr tt l h D P ord):St N fr l h D P ord:=by
 induction hr with
 |start=>exact St.start hf
 |step hr hn hv ih=>exact(ih.step hends hc hf hn.1).1
theorem Rch.no_end {K:Int->Int->Int} {tt:Nat} {D P ord:List Int} (hr:Rch K N fr tt l h D P ord):(tt:Int) ∉ ord:=by
 induction hr with
 |start=>simp
 |step hr hn hv ih =>
  rw[List.mem_append,List.mem_singleton];rintro (h1|h1)
  ·exact ih h1
  ·exact hv h1.symm
end
def Cl (N fr:Nat) (l:List E) (h:List Int) (q p:Int) (D ord:List Int):Prop:=∀s∈ord,∀d,Wk l fr s d->dg h s+d<far->q*dg D s<=p*d
section
variable {N fr tt:Nat} {l:List E} {h D P ord:List Int} {q p:Int}
theorem front (hs:St N fr l h D P ord) (hcl:Cl N fr l h q p D ord) (hC:HeurLaw.Cons N tt l h) (hends:∀e∈l,0<=e.1/\e.1<N/\0<=e.2.1/\e.2.1<N) (hc:∀e∈l,1<=e.2.2/\e.2.2<=10000) (hf:fr<N) (hN:N<=64) (hq:1<=q) (hqp:q<=p) {v d:Int} (hw:Wk l fr v d) :
 dg h v+d<far->(0<=d)/\((v∈ord/\q*dg D v<=p*d)\/∃u,Opn N D ord u/\∃du,0<=du/\q*dg D u<=p*du/\du+dg h u<=d+dg h v):=by
 induction hw with
 |here =>
  intro hlt;refine⟨Int.le_refl _,?_⟩;have hr:=hs.root (by omega)
  by_cases ho:(fr:Int)∈ord
  ·exact .inl ⟨ho,by rw[hr];simp⟩
  ·exact .inr ⟨fr,⟨⟨by omega,by omega⟩,by rw[hr];unfold far;omega,ho⟩,0,Int.le_refl _,by rw[hr];simp,by omega⟩
 | @step u d e hu he hfe ih =>
   intro hlt;subst hfe;have hed:=hC.edge e he;obtain⟨a0,a1,b0,b1⟩:=hends e he;have h1:=hc e he;obtain⟨d0,ih⟩:=ih (by omega);refine⟨by omega,?_⟩;rcases ih with ⟨ho,hle⟩|⟨x,hx,dx,dx0,hx1,hx2⟩
   ·have hbd:=(hC.bd b0 b1).1
    have hhf:dg h e.2.1≠far:=by omega
    have hmul:q*(dg D e.1+e.2.2)<=p*(d+e.2.2):=by
     have:q*e.2.2<=p*e.2.2:=Int.mul_le_mul_of_nonneg_right hqp (by omega);rw[Int.mul_add,Int.mul_add];omega
    by_cases hoe:e.2.1∈ord
    ·exact .inl ⟨hoe,hcl _ hoe _ (Wk.step hu he rfl) hlt⟩
    ·have hrel:=hs.relx e he ho hoe hhf
     have hlo:=(hs.lo e.2.1 b0 b1).1;have hq2:q*dg D e.2.1<=q*(dg D e.1+e.2.2):=Int.mul_le_mul_of_nonneg_left hrel (by omega)
     by_cases hfr:dg D e.2.1<far
     ·exact .inr ⟨e.2.1,⟨⟨b0,b1⟩,hfr,hoe⟩,d+e.2.2,by omega,by omega,Int.le_refl _⟩
     ·exfalso
      have ho1:=(hs.ordin _ ho).2;have ho2:=hs.bd e.1 a0 a1 ho1;have h64:=hs.ordlen hN;unfold far at *;omega
   ·exact .inr ⟨x,hx,dx,dx0,hx1,by omega⟩
theorem Cl.step {K:Int->Int->Int} (hK:∀c g,K c g=q*c+p*g) (hs:St N fr l h D P ord) (hcl:Cl N fr l h q p D ord) (hC:HeurLaw.Cons N tt l h) (hends:∀e∈l,0<=e.1/\e.1<N/\0<=e.2.1/\e.2.1<N) (hc:∀e∈l,1<=e.2.2/\e.2.2<=10000) (hf:fr<N) (hN:N<=64) (hq:1<=q) (hqp:q<=p) {v:Int} (hv:Nx K N h D ord v) :
 ∀d,Wk l fr v d->dg h v+d<far->q*dg D v<=p*d:=fun d hw hlt=>by
 obtain⟨d0,h1⟩:=front hs hcl hC hends hc hf hN hq hqp hw hlt;rcases h1 with ⟨_,h1⟩|⟨u,hu,du,du0,h1,h2⟩
 ·exact h1
 ·have h3:=lt3_no.1 (hv.2 u hu)
  simp only[ky,hK] at h3;have h4:p*(du+dg h u)<=p*(d+dg h v):=Int.mul_le_mul_of_nonneg_left h2 (by omega);rw[Int.mul_add,Int.mul_add] at h4;omega
theorem Rch.cl {K:Int->Int->Int} (hK:∀c g,K c g=q*c+p*g) (hC:HeurLaw.Cons N tt l h) (hends:∀e∈l,0<=e.1/\e.1<N/\0<=e.2.1/\e.2.1<N) (hc:∀e∈l,1<=e.2.2/\e.2.2<=10000) (hf:fr<N) (hN:N<=64) (hq:1<=q) (hqp:q<=p) (hr:Rch K N fr tt l h D P ord):Cl N fr l h q p D ord:=by
 induction hr with
 |start=>intro s hs;cases hs
 | @step D P ord v hr hn hv ih =>
   intro s hs d hw hlt;have hst:=hr.st hends hc hf;obtain⟨_,hsame,_⟩:=hst.step hends hc hf hn.1;rw[hsame s hs];rcases List.mem_append.1 hs with h1|h1
   ·exact ih s h1 d hw hlt
   ·rw[List.mem_singleton] at h1
    subst h1;exact Cl.step hK hst ih hC hends hc hf hN hq hqp hn d hw hlt
theorem Rch.end_cost {K:Int->Int->Int} (hK:∀c g,K c g=q*c+p*g) (hC:HeurLaw.Cons N tt l h) (hends:∀e∈l,0<=e.1/\e.1<N/\0<=e.2.1/\e.2.1<N) (hc:∀e∈l,1<=e.2.2/\e.2.2<=10000) (hf:fr<N) (hN:N<=64) (hq:1<=q) (hqp:q<=p) (hr:Rch K N fr tt l h D P ord) (hn:Nx K N h D ord tt):∀d,Wk l fr tt d->d<far->q*dg D tt<=p*d:=fun d hw hd =>
 Cl.step hK (hr.st hends hc hf) (hr.cl hK hC hends hc hf hN hq hqp) hC hends hc hf hN hq hqp hn d hw (by rw[hC.zero];omega)
theorem Rch.none {K:Int->Int->Int} (hK:∀c g,K c g=q*c+p*g) (hC:HeurLaw.Cons N tt l h) (hends:∀e∈l,0<=e.1/\e.1<N/\0<=e.2.1/\e.2.1<N) (hc:∀e∈l,1<=e.2.2/\e.2.2<=10000) (hf:fr<N) (ht:tt<N) (hN:N<=64) (hq:1<=q) (hqp:q<=p) (hr:Rch K N fr tt l h D P ord) (hn:∀u,¬Opn N D ord u) {M:List Int} (hM:Sh N fr l M):dg M tt=far:=by
 have hlo:=hM.lo tt (by omega) (by omega)
 by_cases hlt:dg M tt<far
 ·obtain⟨_,h1⟩:=front (hr.st hends hc hf) (hr.cl hK hC hends hc hf hN hq hqp) hC hends hc hf hN hq hqp (hM.wk tt (by omega) (by omega) hlt) (by rw[hC.zero];omega)
  rcases h1 with ⟨h1,_⟩|⟨u,hu,_⟩
  ·exact absurd h1 hr.no_end
  ·exact absurd hu (hn u)
 ·omega
end
structure Srt (N:Nat) (h D ord:List Int):Prop where
 le:∀s∈ord,∀u,Opn N D ord u->dg D s+dg h s<=dg D u+dg h u
 pw:ord.Pairwise fun a b=>dg D a+dg h a<=dg D b+dg h b
section
variable {N fr tt:Nat} {l:List E} {h D P ord:List Int}
theorem Srt.add {v:Int} (hs:Srt N h D ord) (hv:Opn N D ord v):(ord++[v]).Pairwise fun a b=>dg D a+dg h a<=dg D b+dg h b:=by
 rw[List.pairwise_append];exact⟨hs.pw,List.pairwise_singleton _ _,fun a ha b hb=>by rw[List.mem_singleton] at hb;subst hb;exact hs.le a ha _ hv⟩
theorem Rch.srt {K:Int->Int->Int} (hK:∀c g,K c g=c+g) (hC:HeurLaw.Cons N tt l h) (hends:∀e∈l,0<=e.1/\e.1<N/\0<=e.2.1/\e.2.1<N) (hc:∀e∈l,1<=e.2.2/\e.2.2<=10000) (hf:fr<N) (hr:Rch K N fr tt l h D P ord):Srt N h D ord:=by
 induction hr with
 |start=>exact⟨fun s hs=>(by cases hs),List.Pairwise.nil⟩
 | @step D P ord v hr hn hv ih =>
   have hst:=hr.st hends hc hf;obtain⟨_,hsame,hch⟩:=hst.step hends hc hf hn.1;have hadd:=ih.add hn.1;refine⟨fun s hs u hu=> ?_,?_⟩
   ·rw[hsame s hs]
    obtain⟨⟨u0,u1⟩,huf,huo⟩:=hu
    have hsv:dg D s+dg h s<=dg D v+dg h v:=by
     rcases List.mem_append.1 hs with h1|h1
     ·exact ih.le s h1 v hn.1
     ·rw[List.mem_singleton] at h1;subst h1;exact Int.le_refl _
    rcases hch u u0 u1 with h2|⟨_,c,hm,h2⟩
    ·rw[h2] at huf ⊢
     have huo':u ∉ ord:=fun x=>huo (List.mem_append_left _ x);have h3:=lt3_no.1 (hn.2 u ⟨⟨u0,u1⟩,huf,huo'⟩);simp only[ky,hK] at h3;omega
    ·rw[h2]
     have h3:=hC.edge _ hm;simp only at h3;omega
   ·refine hadd.imp_of_mem ?_
    intro a b ha hb hab;rw[hsame a ha,hsame b hb];exact hab
theorem Rch.star {K:Int->Int->Int} (hK:∀c g,K c g=c+g) (hC:HeurLaw.Cons N tt l h) (hends:∀e∈l,0<=e.1/\e.1<N/\0<=e.2.1/\e.2.1<N) (hc:∀e∈l,1<=e.2.2/\e.2.2<=10000) (hf:fr<N) (ht:tt<N) (hN:N<=64) (hr:Rch K N fr tt l h D P ord) (hn:Nx K N h D ord tt) {M:List Int} (hM:Sh N fr l M) :
 dg D tt=dg M tt/\dg M tt<far/\(∀s∈ord++[(tt:Int)],(0<=s/\s<N)/\dg M s=dg D s/\dg M s<far/\dg M s+dg h s<=dg M tt)/\(ord++[(tt:Int)]).Pairwise (fun a b=>dg M a+dg h a<=dg M b+dg h b)/\(ord++[(tt:Int)]).Nodup /\
 ∀u:Int,0<=u->u<N->dg M u+dg h u<dg M tt->u∈ord:=by
 have hK':∀c g,K c g=1*c+1*g:=fun c g=>by rw[hK];omega
 have hst:=hr.st hends hc hf;have hcl:=hr.cl hK' hC hends hc hf hN (Int.le_refl 1) (Int.le_refl 1);have hsr:=hr.srt hK hC hends hc hf;have hc0:∀e∈l,0<=e.2.2:=fun e he=>by have:=(hc e he).1;omega
 obtain⟨⟨t0,t1⟩,htf,hto⟩:=hn.1;have hwt:=hst.wk tt t0 t1 htf;have hle:=hM.walk_le hends hwt htf hc0;have hMf:dg M tt<far:=by omega
 have hge:=hr.end_cost hK' hC hends hc hf hN (Int.le_refl 1) (Int.le_refl 1) hn _ (hM.wk tt t0 t1 hMf) hMf;have htt:dg D tt=dg M tt:=by omega
 have hbd:∀s∈ord++[(tt:Int)],(0<=s/\s<N)/\dg M s=dg D s/\dg M s<far/\dg M s+dg h s<=dg M tt:=fun s hs=>by
  rcases List.mem_append.1 hs with h1|h1
  ·obtain⟨⟨s0,s1⟩,hsf⟩:=hst.ordin s h1
   have h2:=hsr.le s h1 tt hn.1;rw[hC.zero] at h2;have h3:=hM.walk_le hends (hst.wk s s0 s1 hsf) hsf hc0;have h4:=hcl s h1 _ (hM.wk s s0 s1 (by omega)) (by omega);exact⟨⟨s0,s1⟩,by omega,by omega,by omega⟩
  ·rw[List.mem_singleton] at h1
   subst h1;rw[hC.zero];exact⟨⟨t0,t1⟩,htt.symm,hMf,by omega⟩
 refine⟨htt,hMf,hbd,?_,?_,fun u u0 u1 hlt=> ?_⟩
 ·refine(hsr.add hn.1).imp_of_mem ?_
  intro a b ha hb hab;rw[(hbd a ha).2.1,(hbd b hb).2.1];exact hab
 ·rw[List.nodup_append]
  exact⟨hst.nd,by simp,fun a ha b hb e=>by rw[List.mem_singleton] at hb;subst hb;subst e;exact hto ha⟩
 ·have hb:=(hC.bd u0 u1).1
  obtain⟨_,h1⟩:=front hst hcl hC hends hc hf hN (Int.le_refl 1) (Int.le_refl 1) (hM.wk u u0 u1 (by omega)) (by omega);rcases h1 with ⟨h1,_⟩|⟨x,hx,dx,_,h1,h2⟩
  ·exact h1
  ·exfalso
   have h3:=lt3_no.1 (hn.2 x hx);simp only[ky,hK] at h3;have h4:dg h tt=0:=hC.zero;omega
end
inductive Ch (P:List Int):Int->List Int->Prop
 |last {v:Int}:dg P v= -1->Ch P v [v]
 |more {v:Int} {cs:List Int}:0<=dg P v->Ch P (dg P v) cs->Ch P v (v::cs)
theorem Ch.unique {P:List Int} {v:Int} {cs cs':List Int} (h:Ch P v cs) (h':Ch P v cs'):cs=cs':=by
 induction h generalizing cs' with
 |last h1 =>
  cases h' with
  |last _=>rfl
  |more h2 _=>omega
 |more h1 hc ih =>
  cases h' with
  |last h2=>omega
  |more _ hc2=>rw[ih hc2]
theorem eg_min {l:List E} {a b c:Int} (hc:(a,b,c)∈l) (hmin:∀c',(a,b,c')∈l->c<=c'):WalkLaw.eg l a b=(c,true):=by
 obtain⟨_,h2,h3⟩:=WayLaw.eg_fold a b l (0,false);obtain⟨h4,h5⟩:=h2 _ hc rfl rfl;unfold WalkLaw.eg;rcases h3 with h3|⟨e,he,e1,e2,h3⟩
 ·rw[h3] at h4;cases h4
 ·rw[h3]
  have:(a,b,e.2.2)∈l:=by rw[<-e1, <-e2];exact he
  have h6:=hmin _ this;rw[h3] at h5;simp only at h5;rw[show e.2.2=c by omega]
section
variable {N fr:Nat} {l:List E} {h D P ord:List Int}
theorem St.chain (hs:St N fr l h D P ord) (hc:∀e∈l,1<=e.2.2/\e.2.2<=10000):∀(k:Nat) (v:Int),0<=v->v<N->dg D v<far->dg D v<=k ->
 ∃cs,Ch P v cs/\(∀x∈cs,(0<=x/\x<N)/\dg D x<=dg D v)/\cs.Nodup/\cs.head?=some v/\cs.getLast?=some (fr:Int)/\WalkLaw.okP l (WalkLaw.prs cs.reverse)=true/\WalkLaw.sumP l (WalkLaw.prs cs.reverse)=dg D v:=by
 intro k
 induction k with
 |zero =>
  intro v v0 v1 hf hk
  by_cases e:v=fr
  ·subst e
   have hr:=hs.root (hs.live _ v0 v1 hf);exact⟨[(fr:Int)],Ch.last hs.rootP,fun x hx=>by rw[List.mem_singleton] at hx;subst hx;exact⟨⟨v0,v1⟩,Int.le_refl _⟩,by simp,rfl,rfl,rfl,by rw[hr];rfl⟩
  ·obtain⟨⟨p0,p1⟩,_,c,hcl,hcd,_⟩:=hs.tree v v0 v1 hf e
   have:=(hc _ hcl).1;have:=(hs.lo _ p0 p1).1;simp only at *;omega
 |succ k ih =>
  intro v v0 v1 hf hk
  by_cases e:v=fr
  ·subst e
   have hr:=hs.root (hs.live _ v0 v1 hf);exact⟨[(fr:Int)],Ch.last hs.rootP,fun x hx=>by rw[List.mem_singleton] at hx;subst hx;exact⟨⟨v0,v1⟩,Int.le_refl _⟩,by simp,rfl,rfl,rfl,by rw[hr];rfl⟩
  ·obtain⟨⟨p0,p1⟩,_,c,hcl,hcd,hmin⟩:=hs.tree v v0 v1 hf e
   have hc1:=(hc _ hcl).1;simp only at hc1;obtain⟨cs,hch,hb,hnd,hhd,hla,hok,hsum⟩:=ih (dg P v) p0 p1 (by omega) (by omega);have hlast:cs.reverse.getLast?=some (dg P v):=by rw[List.getLast?_reverse];exact hhd
   have hpr:WalkLaw.prs (v::cs).reverse=WalkLaw.prs cs.reverse++[(dg P v,v)]:=by
    rw[List.reverse_cons];exact WayLaw.prs_snoc hlast v
   have heg:=eg_min hcl hmin;refine⟨v::cs,Ch.more p0 hch,fun x hx=> ?_,List.nodup_cons.2 ⟨fun hx=> ?_,hnd⟩,rfl,?_,?_,?_⟩
   ·rcases List.mem_cons.1 hx with rfl|hx
    ·exact⟨⟨v0,v1⟩,Int.le_refl _⟩
    ·exact⟨(hb x hx).1,by have:=(hb x hx).2;omega⟩
   ·have:=(hb v hx).2;omega
   ·cases cs with
    |nil=>cases hhd
    |cons y ys=>rw[List.getLast?_cons_cons];exact hla
   ·rw[hpr,WalkLaw.okP_snoc,hok,heg];rfl
   ·rw[hpr,WalkLaw.sumP_snoc,hsum,heg,hcd]
theorem St.way (hs:St N fr l h D P ord) (hg:NetLaw.Good N l) (hc:∀e∈l,1<=e.2.2) {v:Int} (v0:0<=v) (v1:v<N) (hf:dg D v<far) :
 ∃cs,Ch P v cs/\(∀x∈cs,0<=x/\x<N)/\cs.length<=64/\1<=cs.length/\cs.reverse.head?=some (fr:Int)/\cs.reverse.getLast?=some v/\WalkLaw.cost N l cs.reverse=(dg D v,0):=by
 have hlo:=(hs.lo v v0 v1).1;obtain⟨cs,h1,h2,h3,h4,h5,h6,h7⟩:=hs.chain (fun e he=>⟨hc e he,(hg.cost e he).2⟩) (dg D v).toNat v v0 v1 hf (by omega);have hlen:cs.length<=64:=Nat.le_trans (nodup_lenI h3 (fun m hm=>(h2 m hm).1)) (by have:=hg.hi;omega);have h1l:1<=cs.length:=by cases cs with|nil=>cases h4|cons _ _=>simp
 have hz:(WalkLaw.cost N l cs.reverse).2=0:=WalkLaw.cost_zero.2 ⟨chk_zero.2 hg,by rw[List.length_reverse];omega,by rw[List.length_reverse];omega,by
  rw[List.any_eq_false];intro x hx;have:=(h2 x (List.mem_reverse.1 hx)).1;simp[WalkLaw.outB];omega,h6⟩
 have hv:=WalkLaw.cost_val (N:=(N:Int)) (l:=l) (p:=cs.reverse);rw[if_pos hz,h7] at hv;exact⟨cs,h1,fun x hx=>(h2 x hx).1,hlen,h1l,by rw[List.head?_reverse];exact h5,by rw[List.getLast?_reverse];exact h4,Prod.ext hv hz⟩
end
end StarLaw
namespace Star
open Go.RowKit NetLaw BellLaw StarLaw Net Go.Proofs.YtjebckehmmbkbaaGreat.Std
theorem Ch.head {P:List Int} {v:Int} {cs:List Int} (h:Ch P v cs):cs.head?=some v:=by cases h <;> rfl
theorem Ch.next {P:List Int} {v:Int} {cs:List Int} (h:Ch P v cs):∀k,∀(hk:k<cs.length),dg P cs[k]=cs.getD (k+1) (-1):=by
 induction h with
 |last h1 =>
  intro k hk;obtain rfl:k=0:=by simpa using hk
  simpa using h1
 | @more v cs h1 hc ih =>
   intro k hk;cases k with
   |zero =>
    have:=Ch.head hc;simp only[zzC,List.getD_eq_getElem?_getD,zzI];rw[List.head?_eq_getElem?] at this;rw[this]
    rfl
   |succ k =>
    have:=ih k (by simpa using hk)
    simpa using this
def SomeWay (p:List Int) (co:Int) (w:World) (e:Ending) (w':World):Prop :=
 ∃A c,e= .returned (.agg #[.slice A p.length c,.int .i64 co])/\Own w' w.heap.size 3 1 ci (.slice A p.length c) p/\Below w.heap.size w w'
theorem back_any (A:Option Addr) (n c:Nat) (P:List Int) (v co:Int) (cs:List Int) (w:World) (hl:Sl w w.heap.size 1 ci A P) (hn:P.length=n) (hch:Ch P v cs) (hin:∀x∈cs,0<=x/\x<n) (h64:cs.length<=64) (hn64:n<=64) :
 Calls Tryz.prog 71 #[.slice A n c,.int .i64 v,.int .i64 co] w fun e w'=>SomeWay cs.reverse co w e w':=by
 obtain⟨i0,hi,hz0,hz1,hz2⟩:=info_parts infoInt;have hhd:=Ch.head hch;have hnx:=Ch.next hch;obtain⟨q,hq⟩:∃q,cs.length=q:=⟨_,rfl⟩
 have hq0:0<q:=by
  rw[<-hq];cases cs with
  |nil=>cases hhd
  |cons _ _=>simp
 have hv0:v=cs.getD 0 (-1):=by
  rw[List.head?_eq_getElem?] at hhd;rw[List.getD_eq_getElem?_getD,hhd]
  rfl
 have hR6:=heap_alloc_new w (.cells #[.slice none 0 0,.int .i64 0] 36);have hR7:=heap_alloc_new (w.alloc (.cells #[.slice none 0 0,.int .i64 0] 36)) (.cells #[.slice none 0 0,.int .i64 co] 36);rw[show (w.alloc (.cells #[.slice none 0 0,.int .i64 0] 36)).heap.size=w.heap.size+1 by simp] at hR7;have hB0:Below w.heap.size w ((w.alloc (.cells #[.slice none 0 0,.int .i64 0] 36)).alloc (.cells #[.slice none 0 0,.int .i64 co] 36)):=((Below.refl _ _).alloc zzL _).alloc (by simp) _;have HR6:=hid (blk_alloc hR6 (.cells #[.slice none 0 0,.int .i64 co] 36));have HR7:=hid hR7;have HB0:=hid hB0;have HSL:=hid hl;have HN:=hid hn;have HNX:=hid hnx;have HIN:=hid hin;have HQ:=hid hq;have HV:=hid hv0;rw[hq] at h64;clear hR6 hR7 hB0 hl hn hnx hin hq hhd hch hv0;go_enter Tryz.func71,Tryz.ntmps71;go_wp2
 go_loopg [8] q (fun g s8 wr=>∃(k:Nat) (Aq:Option Addr) (cq:Nat),k<=q/\s8= .int .i64 (cs.getD k (-1))/\Hid (wr.heap[w.heap.size+1]?=some (.cells #[.slice Aq k cq,.int .i64 co] 36 (0,0)))/\Hid (wr.heap[w.heap.size]?=some (.cells #[.slice none 0 0,.int .i64 0] 36 (0,0)))/\Hid (Own wr w.heap.size 3 1 ci (.slice Aq k cq) (cs.take k))/\Hid (Below w.heap.size w wr)/\Hid (q<=g+k))
 case atStart=>exact⟨0,none,0,Nat.zero_le _,by rw[HV.out],HR7,HR6,hid Own.nil_,HB0,hid (by omega)⟩
 case round =>
  obtain⟨k,Aq,cq,hk,rfl,HO7,HO6,OW,HB,HG⟩:=hrel;have hO0:=blk_cell HO7.out 0;simp only[zzG,zzH,zzI] at hO0;have hz7:=lt_of_block HO7.out
  by_cases hlt:k<q
  ·have hkl:k<cs.length:=by rw[HQ.out];exact hlt
   obtain⟨x0,x1⟩:=HIN.out _ (List.getElem_mem hkl);have hnext:=HNX.out k hkl;have hgd:cs.getD k (-1)=cs[k]:=by rw[List.getD_eq_getElem?_getD,List.getElem?_eq_getElem hkl];rfl
   have htk:cs.take (k+1)=cs.take k++[cs[k]]:=List.take_succ_eq_append_getElem hkl;rw[hgd];have hlenk:(cs.take k).length=k:=by rw[List.length_take,HQ.out];omega
   obtain⟨x,hx⟩:∃x,cs[k]=x:=⟨_,rfl⟩;rw[hx] at hnext htk x0 x1 ⊢;obtain⟨x,rfl⟩:=Int.eq_ofNat_of_zero_le x0;obtain⟨b,o,hA,hb,hcx⟩:=HSL.out.atI (show x<P.length by rw[HN.out];omega);subst hA
   have hpx:P[x]'(by rw[HN.out];omega)=cs.getD (k+1) (-1):=by
    rw[<-hnext,dg,Int.toNat_natCast,List.getD_eq_getElem?_getD,List.getElem?_eq_getElem (by rw[HN.out];omega)]
    rfl
   rw[hpx] at hcx;generalize hyy:cs.getD (k+1) (-1)=y at *;have HYY:=hid hyy;have HTK:=hid htk;have HLK:=hid hlenk;have hbz:b<wr.heap.size:=by have:=HB.out.size;omega
   have hoa:=OW.out.alloc (.cells #[.int .i64 x] 3);have hO7a:=blk_alloc HO7.out (.cells #[.int .i64 x] 3);have hO6a:=blk_alloc HO6.out (.cells #[.int .i64 x] 3);have HOA:=hid hoa;have H7A:=hid hO7a;have H6A:=hid hO6a;have hxn:x<n:=by omega
   have hbB:b<w.heap.size:=hb;have hbn:¬b=w.heap.size+1:=by omega
   have hbn2:¬w.heap.size+1=b:=by omega
   have hxi:(x:Int)<(n:Int):=by omega
   have hcx2:∀X,Below w.heap.size w X->X.cell? ⟨b,o+x,none⟩=some (.int .i64 y):=fun X hX=>(hX.cell (p:=⟨b,o+x,none⟩) hb).trans hcx;have HCX:=hid hcx2;clear hcx2 hnext hgd htk hlenk hx hkl hoa hO7a hO6a hpx x0 hcx hyy
   go_wp2_with (at_builtin;refine wpList_push _ rfl (.tmp 21) (.tmp 23) _ rfl w.heap.size 3 i0 (.int .i64 0) 1 8 ci Tryz.underlying25 hi hz0 hz1 hz2 rfl (by decide) _ _ k HLK.out rfl HOA.out wr.heap.size 1 (x:Int) rfl news1 (fun _ _=>rfl) (by omega) (by omega) (by have:=HB.out.size;simp;omega) ?_;intro A8 c8 w8 hown8 hgrow8 hat8;have h78:=blk_grown H7A.out hgrow8 (HOA.out.ne_ H7A.out (by decide));have h68:=blk_grown H6A.out hgrow8 (HOA.out.ne_ H6A.out (by decide));have hb8:=(HB.out.alloc HB.out.size (.cells #[.int .i64 x] 3)).grown hgrow8 (by have:=HB.out.size;simp;omega) HOA.out.lo;have hcx8:=HCX.out _ hb8;have hc78:=blk_cell h78 0;have hf78:=blk_free h78 0;simp only[zzG,zzH,zzI] at hc78)
   have HO7':=hid (blk_set h78 0 (.slice A8 (k+1) c8));have HO6':=hid (blk_far h68 (p:=⟨w.heap.size+1,0,none⟩) (by dsimp only;omega) (.slice A8 (k+1) c8));have HOW':=hid (hown8.setCell (p:=⟨w.heap.size+1,0,none⟩) (hown8.ne_ h78 (by decide)) (.slice A8 (k+1) c8));have HB':=hid (hb8.setCell (p:=⟨w.heap.size+1,0,none⟩) (by dsimp only;omega) (.slice A8 (k+1) c8));clear h78 h68 hown8 hgrow8 hat8 hb8 hcx8 hc78 hf78
   go_roundg (q - (k+1))
   case measure=>have:=HG.out;omega
   case rel=>exact⟨k+1,A8,c8,by omega,by rw[HYY.out],HO7',HO6',hid (by rw[HTK.out];exact HOW'.out),HB',hid (by omega)⟩
  ·obtain rfl:k=q:=by omega
   have hgd:cs.getD k (-1)= -1:=by rw[List.getD_eq_getElem?_getD,List.getElem?_eq_none (by rw[HQ.out];exact Nat.le_refl _)];rfl
   rw[hgd];have hown:=OW.out;rw[List.take_of_length_le (by rw[HQ.out];exact Nat.le_refl _)] at hown;obtain⟨S,rfl,hbS,hS⟩:=own_form1 HQ.out hq0 hown;obtain⟨wa,rfl⟩:∃wa:World,wa=wr:=⟨_,rfl⟩;have HOWN:=hid hown
   have hSne:S≠w.heap.size+1:=fun e=>by
    have:=hown.ne_ HO7.out (by decide);exact this (by rw[e];rfl)
   have hSne6:S≠w.heap.size:=fun e=>by
    have:=hown.ne_ HO6.out (by decide);exact this (by rw[e];rfl)
   clear hgd hown OW;go_wp2;go_quiet (fail);go_wp2;have hq1:(k:Int) - 1 - ((0:Nat):Int)=(k:Int) - 1:=by simp
   have HQ1:=hid hq1;clear hq1;have hown1:Own (wa.drewN nq) w.heap.size 3 1 ci (.slice (some ⟨S,0,none⟩) k cq) (sw cs 0):=by rw[sw_zero];exact HOWN.out.drewN nq
   have HOW1:=hid hown1;have HOW7:=hid (show (wa.drewN nq).heap[w.heap.size+1]?=some (.cells #[.slice (some ⟨S,0,none⟩) k cq,.int .i64 co] 36 (0,0)) from HO7.out);have HOW6:=hid (show (wa.drewN nq).heap[w.heap.size]?=some (.cells #[.slice none 0 0,.int .i64 0] 36 (0,0)) from HO6.out);have HBW:=hid (below_drewN HB.out nq);clear hown1 hO0
   go_loopw [9,10] (fun i j wr=>∃x:Nat,2*x<=k+1/\i= .int .i64 x/\j= .int .i64 ((k:Int) - 1 - x)/\Hid (Own wr w.heap.size 3 1 ci (.slice (some ⟨S,0,none⟩) k cq) (sw cs x))/\Hid (wr.heap[w.heap.size+1]?=some (.cells #[.slice (some ⟨S,0,none⟩) k cq,.int .i64 co] 36 (0,0)))/\Hid (wr.heap[w.heap.size]?=some (.cells #[.slice none 0 0,.int .i64 0] 36 (0,0)))/\Hid (Below w.heap.size w wr)) (fun _ j _=>(intOf j+1).toNat)
   case atStart=>exact⟨0,by omega,rfl,by rw[HQ1.out],HOW1,HOW7,HOW6,HBW⟩
   case round =>
    clear HOW1 HOW7 HOW6 HBW HOWN HO7 HO6 HB;obtain⟨x,hx,rfl,rfl,HX,H7,H6,HBr⟩:=hrel;have hS7:=lt_of_block H7.out;have o0:=blk_cell H7.out 0;simp only[zzG,zzH,zzI] at o0;have hSr:=(HX.out.base_ S rfl).2
    by_cases hlt2:2*x+1<k
    ·have hsl:=HQ.out
     obtain⟨c1,f1⟩:=own_at1 (by rw[sw_len,hsl]) HX.out (k:=x) (by omega);obtain⟨c2,f2⟩:=own_at1 (by rw[sw_len,hsl]) HX.out (k:=k - 1 - x) (by omega);rw[List.getD_eq_getElem?_getD,List.getElem?_eq_getElem (by rw[sw_len,hsl];omega),Option.getD_some,sw_get,if_neg (by rw[hsl];omega)] at c1 c2;obtain⟨y1,hy1⟩:∃y1,y1=cs.getD x 0:=⟨_,rfl⟩;obtain⟨y2,hy2⟩:∃y2,y2=cs.getD (k - 1 - x) 0:=⟨_,rfl⟩;rw[<-hy1] at c1;rw[<-hy2] at c2;have hst:=sw_step (l:=cs) (k:=x) (x:=y1) (y:=y2) (by rw[hsl];omega) hy1 (by rw[hsl];exact hy2);rw[hsl] at hst;have HST:=hid hst;obtain⟨j,hj⟩:∃j,j=k - 1 - x:=⟨_,rfl⟩;rw[<-hj] at c2 f2;have ej:(k:Int) - 1 - x=(j:Int):=by omega
     rw[ej];have hjn:j<k:=by omega
     have hxj:x<j:=by omega
     have hxk:(x:Int)<(k:Int):=by omega
     have hjk:(j:Int)<(k:Int):=by omega
     have HJ:=hid hj;clear hst hy1 hy2 hsl ej hj;go_wp2
     go_region
     all_goals
      go_wp2
      go_roundw
      case' rel =>
       have hw7:=H7.out;have hw6:=H6.out
       exact⟨x+1,by omega,by go_num,by have:=HJ.out;congr 1;omega,hid (by
        rw[<-HST.out, <-HJ.out];exact own_set1 (by rw[List.length_set,sw_len,HQ.out]) (own_set1 (by rw[sw_len,HQ.out]) HX.out x y2) j y1),hid (blk_far (blk_far hw7 (by dsimp only;omega) _) (by dsimp only;omega) _),hid (blk_far (blk_far hw6 (by dsimp only;omega) _) (by dsimp only;omega) _),hid (((HBr.out.setCell (by exact hbS) _).setCell (by exact hbS) _).drew)⟩
      case' measure=>simp[intOf] <;> omega
    ·have hfin:sw cs x=cs.reverse:=sw_end (by rw[HQ.out];omega) (by rw[HQ.out];omega)
     have hnlt:¬((x:Int)<(k:Int) - 1 - x):=by omega
     have hown:=HX.out;rw[hfin] at hown;have o1:=blk_cell H7.out 1;have p0:=blk_cell H6.out 0;have p1:=blk_cell H6.out 1;have g0:=blk_free H6.out 0;have g1:=blk_free H6.out 1;simp only[zzG,zzH,zzI] at o1 p0 p1;have hrl:cs.reverse.length=k:=by rw[List.length_reverse,HQ.out]
     have HRL:=hid hrl;have HOW:=hid hown;have hz6:=lt_of_block H6.out;clear hfin hlt2 hown hrl;go_wp2;refine bodyPost_ret (v:= .agg #[.slice (some ⟨S,0,none⟩) k cq,.int .i64 co]) (by simp[results,Tryz.results71,go_sem,o0,o1,p0,p1,g0,g1]) rfl ?_;refine⟨some ⟨S,0,none⟩,cq,by rw[HRL.out],?_,?_⟩
     ·rw[HRL.out]
      have hne:=HOW.out.ne_ H6.out (by decide);exact(HOW.out.setCell hne _).setCell hne _
     ·exact(HBr.out.setCell (by exact Nat.le_refl _) _).setCell (by exact Nat.le_refl _) _
end Star
namespace FlowLaw
open NetLaw Net
def ed (l:List E) (i:Nat):E:=l.getD i (0,0,0)
def fr (l:List E) (i:Nat):Int:=(ed l i).1
def en (l:List E) (i:Nat):Int:=(ed l i).2.1
def cpt (l:List E) (i:Nat):Int:=(ed l i).2.2
theorem ed_mem {l:List E} {i:Nat} (h:i<l.length):ed l i∈l:=by
 unfold ed;rw[List.getD_eq_getElem?_getD,List.getElem?_eq_getElem h];exact List.getElem_mem h
theorem ed_at {l:List E} {i:Nat} (h:i<l.length):ed l i=l[i]:=by
 unfold ed;rw[List.getD_eq_getElem?_getD,List.getElem?_eq_getElem h]
 rfl
section
variable {l:List E} {s t v:Int} {F:List Int} {S:Int->Bool}
theorem tl_ed (l:List E) (i:Nat) (hi:i<l.length):fr (tl l) i=en l i/\en (tl l) i=fr l i/\cpt (tl l) i=cpt l i:=by
 have h:i<(tl l).length:=by simp[tl];exact hi
 unfold fr en cpt;rw[ed_at h,ed_at hi];simp[tl]
end
section
variable {n:Nat} {l:List E} {F B od:List Int} {s t:Int}
end
end FlowLaw
namespace Flow
open Go.RowKit NetLaw FlowLaw Net Go.Proofs.YtjebckehmmbkbaaGreat.Std
def cb (b:Bool) (_:Nat):Value:= .bool b
theorem own_atG {α:Type} {w:World} {base:Nat} {e:TypeId} {cell:α->Nat->Value} {S c n:Nat} {l:List α} (d:α) (hn:l.length=n) (h:Own w base e 1 cell (.slice (some ⟨S,0,none⟩) n c) l) {k:Nat} (hk:k<n) :
 w.cell? ⟨S,k,none⟩=some (cell (l.getD k d) 0)/\w.frozen? ⟨S,k,none⟩=false:=by
 obtain⟨S',c',hv,_,_,_,hc⟩:=h.some_ (by omega);injection hv with hv;injection hv with hv;injection hv with hv;subst hv;obtain⟨a,b⟩:=hc k (by omega) 0 (by decide);rw[Nat.mul_one,Nat.add_zero] at a b;refine⟨?_,b⟩;rw[a,List.getD_eq_getElem?_getD,List.getElem?_eq_getElem (by omega)]
 rfl
theorem own_setG {α:Type} {w:World} {base:Nat} {e:TypeId} {cell:α->Nat->Value} {S c n:Nat} {l:List α} (hn:l.length=n) (h:Own w base e 1 cell (.slice (some ⟨S,0,none⟩) n c) l) (k:Nat) (hk:k<n) (a:α) :
 Own (w.setCell ⟨S,k,none⟩ (cell a 0)) base e 1 cell (.slice (some ⟨S,0,none⟩) n c) (l.set k a):=by
 have h1:=own_setj hn h k 0 a (by omega) (by decide) (fun j hj hne=>by omega);rw[Nat.mul_one,Nat.add_zero] at h1;exact h1
theorem own_madeI (n base:Nat) (w:World) (hb:base<=w.heap.size) (hn:n<=1000000) {g:Nat} (hg:w.heap.size=g):Own (w.alloc (.cells (madeCells #[.int .i64 0] n) 3)) base 3 1 ci (.slice (some ⟨g,0,none⟩) n n) (List.replicate n 0) :=
 own_new' w _ _ hg (by simp) hb hn (by
  rw[fl_map]
  apply List.ext_getElem
  ·simp[madeCells]
  ·intro i h1 h2
   simp[madeCells,ci,Nat.mod_one])
theorem fl_mapG {α:Type} (cell:α->Nat->Value) (l:List α):fl 1 cell l=l.map fun x=>cell x 0:=by
 induction l with
 |nil=>rfl
 |cons a r ih =>
  have e:fl 1 cell (a::r)=(List.range 1).map (cell a)++fl 1 cell r:=rfl;rw[e,ih]
  rfl
theorem own_madeB (n base:Nat) (w:World) (hb:base<=w.heap.size) (hn:n<=1000000) {g:Nat} (hg:w.heap.size=g):Own (w.alloc (.cells (madeCells #[.bool false] n) 4)) base 4 1 cb (.slice (some ⟨g,0,none⟩) n n) (List.replicate n false) :=
 own_new' w _ _ hg (by simp) hb hn (by
  rw[fl_mapG]
  apply List.ext_getElem
  ·simp[madeCells]
  ·intro i h1 h2
   simp[madeCells,cb,Nat.mod_one])
section
variable {w0 w w':World} {n c m S8 S10 q:Nat} {A:Option Addr} {B:List Int} {Sn:List Bool}
end
section
variable {w0 w w':World} {n c mm S8 S10 q ge f t b off m c9:Nat} {co:Int} {A:Option Addr} {Q B:List Int} {Sn:List Bool}
end
end Flow
namespace Star
open Go.RowKit NetLaw BellLaw StarLaw Net Go.Proofs.YtjebckehmmbkbaaGreat.Std Flow
open Heap (Kp Kp.refl Kp.below Kp.alloc Kp.drew Kp.setCell Kp.grown Kp.to fnOf)
open HeapP (HeapAt)
abbrev Pl:=Int × Int × Int
section
variable {w w':World} {base base' H n c:Nat} {fn:Value} {A:Option Addr} {L:List Pl}
theorem blk_kp {g:Nat} {cs:Array Value} {t:TypeId} {fr:Nat × Nat} (h:HeapAt w base H fn A n c L) (hk:Kp w w' H (Value.slice A n c).ownBlock) (hg:w.heap[g]?=some (.cells cs t fr)) (h1:159≠t) (h2:129≠t):w'.heap[g]?=some (.cells cs t fr):=by
 refine(hk.block g (lt_of_block hg) (fun e=> ?_) (fun e=>h.own.ne_ hg h2 e.symm)).trans hg;subst e;have:=h.blk;rw[hg] at this;injection this with this;injection this with _ ht _;exact h1 ht.symm
theorem own_kp {α:Type} {sz:Nat} {cell:α->Nat->Value} {e:TypeId} {v:Value} {r:List α} (h:HeapAt w base H fn A n c L) (hk:Kp w w' H (Value.slice A n c).ownBlock) (ho:Own w base' e sz cell v r) (h1:159≠e) (h2:129≠e):Own w' base' e sz cell v r:=by
 refine⟨ho.1,?_⟩;rcases ho.2 with h3|⟨g,cap,cur,rfl,hg,hh,rest⟩
 ·exact .inl h3
 ·exact .inr ⟨g,cap,cur,rfl,hg,blk_kp h hk hh h1 h2,rest⟩
theorem tab_kp {S m:Nat} {F:Nat->Option Addr × Nat} {Ls:Nat->List Int} (h:HeapAt w base H fn A n c L) (hk:Kp w w' H (Value.slice A n c).ownBlock) (ht:Tab w base' S m F Ls):Tab w' base' S m F Ls:=by
 obtain⟨cs,hb,hs,hc⟩:=ht.blk;exact⟨ht.lo,⟨cs,blk_kp h hk hb (by decide) (by decide),hs,hc⟩,fun v hv=>own_kp h hk (ht.own v hv) (by decide) (by decide),ht.sep⟩
theorem tab_far {S m:Nat} {F:Nat->Option Addr × Nat} {Ls:Nat->List Int} {p:Addr} (ht:Tab w base' S m F Ls) (h1:p.block≠S) (h2:∀v,v<m->(Value.slice (F v).1 0 0).ownBlock≠some p.block) (u:Value):Tab (w.setCell p u) base' S m F Ls:=by
 obtain⟨cs,hb,hs,hc⟩:=ht.blk;exact⟨ht.lo,⟨cs,blk_far hb (fun e=>h1 e.symm) u,hs,hc⟩,fun v hv=>(ht.own v hv).setCell (fun e=>h2 v hv ((obs ..).trans e)) u,ht.sep⟩
theorem heap_far {p:Addr} {t:TypeId} {cs:Array Value} (h:HeapAt w base H fn A n c L) (hp:w.heap[p.block]?=some (.cells cs t (0,0))) (h1:159≠t) (h2:129≠t) (u:Value):HeapAt (w.setCell p u) base H fn A n c L:=by
 have hne:H≠p.block:=fun e=>by
  have hb:=h.blk;rw[e,hp] at hb;injection hb with hb;injection hb with _ ht _;exact h1 ht.symm
 exact⟨h.hb,blk_far h.blk hne u,h.own.setCell (h.own.ne_ hp h2) u,h.len⟩
theorem heap_mono {base':Nat} (h:HeapAt w base H fn A n c L) (hb:base'<=base):HeapAt w base' H fn A n c L:=⟨Nat.le_trans hb h.hb,h.blk,h.own.mono hb,h.len⟩
end
theorem own_blk {α:Type} {w:World} {b:Nat} {e:TypeId} {sz:Nat} {cell:α->Nat->Value} {S n c:Nat} {l:List α} (h:Own w b e sz cell (.slice (some ⟨S,0,none⟩) n c) l):∃cs,w.heap[S]?=some (.cells cs e (0,0)):=by
 rcases h.2 with ⟨h1,_⟩|⟨g,cap,cur,hv,_,hh,_⟩
 ·cases h1
 ·injection hv with hv _ _
  injection hv with hv;injection hv with hv _ _;subst hv;exact⟨cur,hh⟩
theorem blk_ne {w:World} {g g':Nat} {cs cs':Array Value} {t t':TypeId} {f f':Nat × Nat} (h:w.heap[g]?=some (.cells cs t f)) (h':w.heap[g']?=some (.cells cs' t' f')) (hne:t≠t'):g≠g':=fun e=>by
 subst e;rw[h] at h';injection h' with h';injection h' with _ ht _;exact hne ht
def dnl (ord:List Int) (n:Nat):List Bool:=(List.range n).map fun (v:Nat)=>decide ((v:Int)∈ord)
theorem dnl_len (ord:List Int) (n:Nat):(dnl ord n).length=n:=by simp[dnl]
theorem dnl_get {ord:List Int} {n k:Nat} (h:k<n):(dnl ord n).getD k false=decide ((k:Int)∈ord):=by
 rw[List.getD_eq_getElem?_getD,dnl,List.getElem?_map,List.getElem?_range h]
 rfl
theorem dnl_nil (n:Nat):dnl [] n=List.replicate n false:=by
 apply List.ext_getElem
 ·simp[dnl]
 ·intro i h1 h2
  simp[dnl]
theorem dnl_set {ord:List Int} {n v:Nat}:(dnl ord n).set v true=dnl (ord++[(v:Int)]) n:=by
 apply List.ext_getElem
 ·simp[dnl]
 ·intro i h1 h2
  rw[List.getElem_set];simp only[dnl,List.getElem_map,List.getElem_range,List.mem_append,List.mem_singleton]
  by_cases e:v=i
  ·subst e;simp
  ·have:¬(i:Int)=(v:Int):=by omega
   rw[if_neg e];simp[this]
structure SM (w0 w:World) (n:Nat) (A:Option Addr) (m c:Nat) (l:List E) (Ah:Option Addr) (ch Z SC SP SD T H:Nat) (F:Nat->Option Addr × Nat) (fn:Value) (Aw:Option Addr) (mw cw:Nat) (L:List Pl) (D P ord:List Int) (top:Nat):Prop where
 box:w.heap[w0.heap.size]?=some (.cells #[.int .i64 n,.slice A m c] 24 (0,0))
 res:w.heap[w0.heap.size+1]?=some (.cells #[.slice none 0 0,.int .i64 0,.slice none 0 0] 38 (0,0))
 z:w.heap[Z]?=some (.cells #[.int .i64 n,.slice A m c,.slice (some ⟨T,0,none⟩) n n,.slice Ah n ch,.slice (some ⟨SC,0,none⟩) n n,.slice (some ⟨SP,0,none⟩) n n,.slice (some ⟨SD,0,none⟩) n n,.pointer (some ⟨H,0,none⟩),fn] 132 (0,0))
 cost:Own w w0.heap.size 3 1 ci (.slice (some ⟨SC,0,none⟩) n n) D
 pred:Own w w0.heap.size 3 1 ci (.slice (some ⟨SP,0,none⟩) n n) P
 done:Own w w0.heap.size 4 1 cb (.slice (some ⟨SD,0,none⟩) n n) (dnl ord n)
 tab:Tab w w0.heap.size T n F (ol l l.length)
 heap:HeapAt w w0.heap.size H (fnOf 67) Aw mw cw L
 ne:SC≠SP
 sep:∀v,v<n->(Value.slice (F v).1 0 0).ownBlock≠some SC/\(Value.slice (F v).1 0 0).ownBlock≠some SP
 lo:Below w0.heap.size w0 w
 dl:D.length=n
 pl:P.length=n
 tops:SC<top/\SP<top/\∀v,v<n->∀g,(Value.slice (F v).1 0 0).ownBlock=some g->g<top
 tw:top<=w.heap.size
 zt:w0.heap.size+2<=top
section
variable {w0 w w':World} {n m c ch Z SC SP SD T H mw cw top:Nat} {A Ah Aw:Option Addr} {l:List E} {F:Nat->Option Addr × Nat} {fn:Value} {L:List Pl} {D P ord:List Int}
theorem SM.keep (h:SM w0 w n A m c l Ah ch Z SC SP SD T H F fn Aw mw cw L D P ord top) (hb:Below w.heap.size w w'):SM w0 w' n A m c l Ah ch Z SC SP SD T H F fn Aw mw cw L D P ord top :=
 ⟨blk_below h.box hb (lt_of_block h.box),blk_below h.res hb (lt_of_block h.res),blk_below h.z hb (lt_of_block h.z),h.cost.keep hb,h.pred.keep hb,h.done.keep hb,h.tab.keep hb,h.heap.keep hb,h.ne,h.sep,h.lo.trans (hb.mono h.lo.size),h.dl,h.pl,h.tops,Nat.le_trans h.tw hb.size,h.zt⟩
theorem SM.alloc (h:SM w0 w n A m c l Ah ch Z SC SP SD T H F fn Aw mw cw L D P ord top) (o:Obj):SM w0 (w.alloc o) n A m c l Ah ch Z SC SP SD T H F fn Aw mw cw L D P ord top:=h.keep ((Below.refl _ _).alloc zzL _)
theorem SM.drewN (h:SM w0 w n A m c l Ah ch Z SC SP SD T H F fn Aw mw cw L D P ord top) (k:Nat):SM w0 (w.drewN k) n A m c l Ah ch Z SC SP SD T H F fn Aw mw cw L D P ord top:=h.keep (below_drewN (Below.refl _ _) k)
theorem SM.drew (h:SM w0 w n A m c l Ah ch Z SC SP SD T H F fn Aw mw cw L D P ord top):SM w0 w.drew n A m c l Ah ch Z SC SP SD T H F fn Aw mw cw L D P ord top:=h.keep (Below.refl _ _).drew
theorem SM.kp {Aw':Option Addr} {mw' cw':Nat} {L':List Pl} (h:SM w0 w n A m c l Ah ch Z SC SP SD T H F fn Aw mw cw L D P ord top) (hk:Kp w w' H (Value.slice Aw mw cw).ownBlock) (hh:HeapAt w' w0.heap.size H (fnOf 67) Aw' mw' cw' L'):SM w0 w' n A m c l Ah ch Z SC SP SD T H F fn Aw' mw' cw' L' D P ord top :=
 ⟨blk_kp h.heap hk h.box (by decide) (by decide),blk_kp h.heap hk h.res (by decide) (by decide),blk_kp h.heap hk h.z (by decide) (by decide),own_kp h.heap hk h.cost (by decide) (by decide),own_kp h.heap hk h.pred (by decide) (by decide),own_kp h.heap hk h.done (by decide) (by decide),tab_kp h.heap hk h.tab,hh,h.ne,h.sep,h.lo.trans (hk.to h.lo.size h.heap.hb h.heap.own.lo),h.dl,h.pl,h.tops,Nat.le_trans h.tw hk.size,h.zt⟩
theorem SM.setC (h:SM w0 w n A m c l Ah ch Z SC SP SD T H F fn Aw mw cw L D P ord top) (k:Nat) (x:Int):SM w0 (w.setCell ⟨SC,k,none⟩ (.int .i64 x)) n A m c l Ah ch Z SC SP SD T H F fn Aw mw cw L (D.set k x) P ord top:=by
 obtain⟨cur,hb⟩:=own_blk h.cost;obtain⟨cs,htb,_⟩:=h.tab.blk;have hlo:=(h.cost.base_ SC rfl).1;have hne:=h.ne;exact⟨blk_far h.box (blk_ne h.box hb (by decide)) _,blk_far h.res (blk_ne h.res hb (by decide)) _,blk_far h.z (blk_ne h.z hb (by decide)) _,own_set1 h.dl h.cost k x,h.pred.setCell (fun e=>hne (by injection e with e;exact e.symm)) _,h.done.setCell (h.done.ne_ hb (by decide)) _,tab_far h.tab (blk_ne hb htb (by decide)) (fun v hv=>(h.sep v hv).1) _,heap_far h.heap hb (by decide) (by decide) _,h.ne,h.sep,h.lo.setCell hlo _,by rw[List.length_set];exact h.dl,h.pl,h.tops,by simpa [World.setCell] using h.tw,h.zt⟩
theorem SM.setP (h:SM w0 w n A m c l Ah ch Z SC SP SD T H F fn Aw mw cw L D P ord top) (k:Nat) (x:Int):SM w0 (w.setCell ⟨SP,k,none⟩ (.int .i64 x)) n A m c l Ah ch Z SC SP SD T H F fn Aw mw cw L D (P.set k x) ord top:=by
 obtain⟨cur,hb⟩:=own_blk h.pred;obtain⟨cs,htb,_⟩:=h.tab.blk;have hlo:=(h.pred.base_ SP rfl).1;have hne:=h.ne;exact⟨blk_far h.box (blk_ne h.box hb (by decide)) _,blk_far h.res (blk_ne h.res hb (by decide)) _,blk_far h.z (blk_ne h.z hb (by decide)) _,h.cost.setCell (fun e=>hne (by injection e with e)) _,own_set1 h.pl h.pred k x,h.done.setCell (h.done.ne_ hb (by decide)) _,tab_far h.tab (blk_ne hb htb (by decide)) (fun v hv=>(h.sep v hv).2) _,heap_far h.heap hb (by decide) (by decide) _,h.ne,h.sep,h.lo.setCell hlo _,h.dl,by rw[List.length_set];exact h.pl,h.tops,by simpa [World.setCell] using h.tw,h.zt⟩
theorem SM.setD (h:SM w0 w n A m c l Ah ch Z SC SP SD T H F fn Aw mw cw L D P ord top) (k:Nat) (hk:k<n):SM w0 (w.setCell ⟨SD,k,none⟩ (.bool true)) n A m c l Ah ch Z SC SP SD T H F fn Aw mw cw L D P (ord++[(k:Int)]) top:=by
 obtain⟨cur,hb⟩:=own_blk h.done;obtain⟨cs,htb,_⟩:=h.tab.blk;have hlo:=(h.done.base_ SD rfl).1;have hset:=own_setG (cell:=cb) (dnl_len ord n) h.done k hk true;rw[dnl_set] at hset;exact⟨blk_far h.box (blk_ne h.box hb (by decide)) _,blk_far h.res (blk_ne h.res hb (by decide)) _,blk_far h.z (blk_ne h.z hb (by decide)) _,h.cost.setCell (h.cost.ne_ hb (by decide)) _,h.pred.setCell (h.pred.ne_ hb (by decide)) _,hset,tab_far h.tab (blk_ne hb htb (by decide)) (fun v hv e=>(h.tab.own v hv).ne_ hb (by decide) ((obs ..).trans e)) _,heap_far h.heap hb (by decide) (by decide) _,h.ne,h.sep,h.lo.setCell hlo _,h.dl,h.pl,h.tops,by simpa [World.setCell] using h.tw,h.zt⟩
theorem SM.grown {row:Option Nat} {bo:Nat} {v:Value} {O:List Int} (h:SM w0 w n A m c l Ah ch Z SC SP SD T H F fn Aw mw cw L D P ord top) (ho:Own w bo 3 1 ci v O) (hbo:top<=bo) (hg:w.grownBy w' v.ownBlock):SM w0 w' n A m c l Ah ch Z SC SP SD T H F fn Aw mw cw L D P ord top:=by
 have hfar:∀(v1:Value) (g1:Nat),v1.ownBlock=some g1->g1<top->v1.ownBlock=none\/v1.ownBlock≠v.ownBlock:=fun v1 g1 h1 h2=> .inr (fun e=>by
  have:=(ho.base_ g1 (e.symm.trans h1)).1;omega)
 obtain⟨t1,t2,t3⟩:=h.tops;obtain⟨cs,htb,hs,hc⟩:=h.tab.blk;have hty:∀{g:Nat} {cs:Array Value} {t:TypeId},w.heap[g]?=some (.cells cs t (0,0))->3≠t->w'.heap[g]?=some (.cells cs t (0,0)):=fun hg1 ht=>blk_grown hg1 hg (ho.ne_ hg1 ht);refine⟨hty h.box (by decide),hty h.res (by decide),hty h.z (by decide),h.cost.kept hg (hfar _ SC rfl t1),h.pred.kept hg (hfar _ SP rfl t2),h.done.kept hg (.inr fun e=> ?_),⟨h.tab.lo,⟨cs,hty htb (by decide),hs,hc⟩,fun u hu=> ?_,h.tab.sep⟩,⟨h.heap.hb,hty h.heap.blk (by decide),h.heap.own.kept hg ?_,h.heap.len⟩,h.ne,h.sep,h.lo.grown hg h.lo.size (fun g hg1=>by have:=(ho.base_ g hg1).1;have:=h.zt;omega),h.dl,h.pl,h.tops,Nat.le_trans h.tw hg.size,h.zt⟩
 ·obtain⟨cur,hb⟩:=own_blk h.done
  exact ho.ne_ hb (by decide) e.symm
 ·refine(h.tab.own u hu).kept hg ?_
  cases hx:(Value.slice (F u).1 (ol l l.length u).length (F u).2).ownBlock with
  |none=>exact .inl rfl
  |some g=>rw[<-hx];exact hfar _ g hx (t3 u hu g ((obs ..).trans hx))
 ·cases hx:(Value.slice Aw mw cw).ownBlock with
  |none=>exact .inl rfl
  |some g =>
   refine .inr fun e=> ?_;obtain⟨A',c',hv,_,hnil⟩:=h.heap.own.form;rcases h.heap.own.2 with ⟨h1,_⟩|⟨g',cap,cur,h1,_,hh,_⟩
   ·rw[h1] at hx;cases hx
   ·rw[h1] at hx
    injection hx with hx;simp at hx;subst hx;exact ho.ne_ hh (by decide) e.symm
end
end Star
end Go.Proofs.YtjebckehmmbkbaaGreat
