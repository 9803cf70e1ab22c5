/- ara.Run where nothing can be found; on the small net; what a law's walk keeps. ara.Run with a last weight of one: the last round's cost. Plain facts on the best ways one after the other (Yen): no Go in sight. Plain facts on the first way that goes on from a beginning: no Go in sight. Go's own slices package at []int: what Index and Contains answer. -/
import Derived.Test.YtjebckehmmbkbaaGreatVAraRunW
set_option linter.unusedSimpArgs false
set_option linter.unusedVariables false
set_option maxRecDepth 100000
set_option maxHeartbeats 24000000
namespace Go.Proofs.YtjebckehmmbkbaaGreat
namespace Ara
open Go.RowKit NetLaw BellLaw StarLaw AraLaw Net Go.Proofs.YtjebckehmmbkbaaGreat.Std Flow
open StarF (slook slook_any slook_zero)
theorem RC.at_ {w:World} {b:Nat} {A:Option Addr} {k c:Nat} {R:List RE} {rs:List Rnd} (h:RC w b A k c R rs) {j:Nat} (hj:j<k):∃x S,R[j]?=some x/\x∈R/\rs[j]?=some x.rnd/\A=some ⟨S,0,none⟩/\b<=S/\S<w.heap.size/\(w.cell? ⟨S,j*5,none⟩=some (.int .i64 x.num)/\w.cell? ⟨S,j*5+1,none⟩=some (.int .i64 x.den)/\w.cell? ⟨S,j*5+2,none⟩=some (.slice x.A x.k x.c)/\w.cell? ⟨S,j*5+3,none⟩=some (.int .i64 x.cost)/\w.cell? ⟨S,j*5+4,none⟩=some (.int .i64 x.done))/\∃cs,w.heap[S]?=some (.cells cs 51 (0,0)):=by
 have hl:=h.len.1;obtain⟨S,c',hv,hb,hS,_,hc⟩:=h.own.some_ (by omega);have hi:j<R.length:=by omega
 have hA:A=some ⟨S,0,none⟩:=by injection hv with hv
 have ho:=h.own;rw[hA] at ho;refine⟨R[j],S,List.getElem?_eq_getElem hi,List.getElem_mem hi,?_,hA,hb,hS,⟨(hc j hi 0 (by omega)).1,(hc j hi 1 (by omega)).1,(hc j hi 2 (by omega)).1,(hc j hi 3 (by omega)).1,(hc j hi 4 (by omega)).1⟩,own_blk ho⟩;rw[<-h.rnd,List.getElem?_map,List.getElem?_eq_getElem hi]
 rfl
end Ara
namespace TopA
open Go.RowKit NetLaw BellLaw DijkLaw StarLaw AraLaw Net Go.Proofs.YtjebckehmmbkbaaGreat.Std Flow Ara StarF
def lc (rs:List Rnd) (j:Nat):Int:=if j=0 then far else match rs[j - 1]? with|some r=>r.cost|none=>far
theorem wg_wk {N:Int} {l:List E} {p:List Int} {co f t:Int} (h:WalkLaw.cost N l p=(co,0)) (h0:p.head?=some f) (h1:p.getLast?=some t):Wk l f t co:=by
 have hz:(WalkLaw.cost N l p).2=0:=by rw[h]
 have hv:=WalkLaw.cost_val (N:=N) (l:=l) (p:=p);rw[if_pos hz,h] at hv;have hok:=(WalkLaw.cost_zero.1 hz).2.2.2.2;have k:=TopLaw.walk_wk p f t h0 h1 hok;rw[<-hv] at k;exact k
theorem round_facts {n f t:Nat} {l:List E} {ws:List (Int × Int)} {s:AS} {M:List Int} (hR:RI n f t l ws s) (hM:Sh n f l M) (hg:NetLaw.Good n l) (hc:∀e∈l,1<=e.2.2) (ht:t<n) {j:Nat} {r:Rnd} (hj:s.rds[j]?=some r) (hjw:j<ws.length) :
 (r.num=ws[j].1/\r.den=ws[j].2)/\r.cost<=lc s.rds j/\(dg M t=far->r.cost=far/\r.path=[])/\(dg M t<far->(0<=r.cost/\r.cost<far)/\WalkLaw.cost n l r.path=(r.cost,0)/\r.path.head?=some (f:Int)/\r.path.getLast?=some (t:Int)/\r.path.length<=64/\r.den*r.cost<=r.num*dg M t/\dg M t<=r.cost):=by
 have hlo:=hM.lo t (by omega) (by omega);have hmem:r∈s.rds:=List.mem_of_getElem? hj;obtain⟨hwg,hb⟩:=hR.each r hmem;have hc0:∀e∈l,0<=e.2.2:=fun e he=>by have:=hc e he;omega
 have hjl:j<s.rds.length:=by obtain⟨h,_⟩:=List.getElem?_eq_some_iff.1 hj;exact h
 refine⟨?_,?_,fun hf=> ?_,fun hf=> ?_⟩
 ·have h1:(s.rds.map (fun r=>(r.num,r.den)))[j]?=some (r.num,r.den):=by rw[List.getElem?_map,hj];rfl
  rw[hR.wts,List.getElem?_take,if_pos hjl,List.getElem?_eq_getElem hjw] at h1;injection h1 with h1;rw[h1];exact⟨rfl,rfl⟩
 ·unfold lc
  by_cases h0:j=0
  ·rw[if_pos h0]
   rcases hwg with ⟨h,_⟩|⟨h,_⟩ <;> omega
  ·rw[if_neg h0]
   obtain⟨k,rfl⟩:∃k,j=k+1:=⟨j - 1,by omega⟩;have hk:k<s.rds.length:=by omega
   rw[Nat.add_sub_cancel,List.getElem?_eq_getElem hk];have hp:=List.pairwise_iff_getElem.1 hR.mono k (k+1) hk hjl (Nat.lt_succ_self k);obtain⟨_,e⟩:=List.getElem?_eq_some_iff.1 hj;rw[<-e];exact hp
 ·rcases hwg with ⟨h,h2⟩|⟨h,h2,h3,h4,_⟩
  ·exact⟨h,h2⟩
  ·have hw:=wg_wk h2 h3 h4
   have:=hM.walk_le hg.ends hw h hc0;omega
 ·obtain⟨h1,h2⟩:=hb _ (hM.wk t (by omega) (by omega) hf) hf
  rcases hwg with ⟨h,_⟩|⟨h,k2,k3,k4,k5⟩
  ·omega
  ·have hw:=wg_wk k2 k3 k4
   have h3:=hM.walk_le hg.ends hw h hc0;exact⟨⟨by omega,h⟩,k2,k3,k4,k5,h2,h3⟩
theorem wts_ok:wcode [(5,2),(1,1)]=0:=by decide +kernel
theorem ara_c (n f t:Nat) (A:Option Addr) (c:Nat) (l:List E) (Ah:Option Addr) (ch:Nat) (hs:List Int) (S:Nat) (w:World) (hl:Sl w w.heap.size 3 ce A l) (hA:A=none->l.length=0/\c=0) (hh:Sl w w.heap.size 1 ci Ah hs) (hAh:Ah=none->hs.length=0/\ch=0) (hw:Sl w w.heap.size 2 cp (some ⟨S,0,none⟩) [(5,2),(1,1)]) (hx:slook n f t l hs=0) {M:List Int} (hM:Sh n f l M) :
 Calls Tryz.prog 15 #[.agg #[.int .i64 n,.slice A l.length c],.int .i64 f,.int .i64 t,.slice Ah hs.length ch,.slice (some ⟨S,0,none⟩) 2 2] w fun e w'=>∃R cR,e= .returned (.tuple #[.slice (some ⟨R,0,none⟩) 2 cR,.int .i64 0])/\R<w'.heap.size/\(∃x:RE,w'.cell? ⟨R,5,none⟩=some (.int .i64 x.num)/\w'.cell? ⟨R,6,none⟩=some (.int .i64 x.den)/\w'.cell? ⟨R,7,none⟩=some (.slice x.A x.k x.c)/\w'.cell? ⟨R,8,none⟩=some (.int .i64 (dg M t))/\w'.cell? ⟨R,9,none⟩=some (.int .i64 x.done))/\Below w.heap.size w w':=by
 obtain⟨hlk,hC⟩:=slook_zero.1 hx;obtain⟨hg,hc,⟨f0,f1⟩,t0,t1⟩:=DijkWay.looks_zero hlk;have hf:f<n:=by omega
 have htn:t<n:=by omega
 refine(run_yes n f t A c l Ah ch hs (some ⟨S,0,none⟩) 2 [(5,2),(1,1)] w hl hA hh hAh hw (fun e=>by cases e) hx wts_ok).mono ?_;rintro e w' ⟨A',k,c',R,s,kk,rfl,hrc,hrn,hov,hb⟩;have hov2:s.rds.length=2:=hov;obtain rfl:k=2:=by rw[<-hrc.len.2];exact hov2
 obtain⟨hwo1,hwo⟩:=wcode_ok wts_ok;obtain⟨V,_,_,hRI⟩:=hrn.si hC hg hc hf htn hwo1.2 (fun w hw=>⟨(hwo w hw).1.1,(hwo w hw).2.2⟩);obtain⟨x,SR,_,_,hxr,hA',_,hS,⟨c0,c1,c2,c3,c4⟩,_⟩:=hrc.at_ (j:=1) (by decide);subst hA';obtain⟨⟨a1,a2⟩,_,a3,a4⟩:=round_facts hRI hM hg hc htn hxr (show 1<([(5,2),(1,1)]:List (Int × Int)).length by decide);have e1:x.rnd.num=1:=a1;have e2:x.rnd.den=1:=a2;have hlo:=hM.lo t (by omega) (by omega)
 have hco:x.cost=dg M t:=by
  rcases Int.lt_or_le (dg M t) far with h|h
  ·obtain⟨_,_,_,_,_,h5,h6⟩:=a4 h
   rw[e1,e2] at h5;have h7:x.rnd.cost=x.cost:=rfl;omega
  ·have h8:=(a3 (by omega)).1
   have h7:x.rnd.cost=x.cost:=rfl;omega
 rw[hco] at c3;exact⟨SR,c',rfl,hS,⟨x,c0,c1,c2,c3,c4⟩,hb⟩
end TopA
namespace YenLaw
open NetLaw BellLaw DijkLaw WalkLaw
def lexlt:List Int->List Int->Bool
 |_,[]=>false
 | [],_::_=>true
 |x::a,y::b=>decide (x<y) || (decide (x=y) && lexlt a b)
theorem lexlt_cons (x y:Int) (a b:List Int):lexlt (x::a) (y::b)=true ↔ x<y\/x=y/\lexlt a b=true:=by simp[lexlt]
theorem lexlt_irr (a:List Int):lexlt a a=false:=by
 induction a with
 |nil=>rfl
 |cons x a ih=>simp[lexlt,ih]
theorem lexlt_tri (a b:List Int):a=b\/lexlt a b=true\/lexlt b a=true:=by
 induction a generalizing b with
 |nil=>cases b with
  |nil=>exact .inl rfl
  |cons y b=>exact .inr (.inl rfl)
 |cons x a ih=>cases b with
  |nil=>exact .inr (.inr rfl)
  |cons y b =>
   rw[lexlt_cons,lexlt_cons];rcases Int.lt_trichotomy x y with h|h|h
   ·exact .inr (.inl (.inl h))
   ·subst h
    rcases ih b with h|h|h
    ·exact .inl (by rw[h])
    ·exact .inr (.inl (.inr ⟨rfl,h⟩))
    ·exact .inr (.inr (.inr ⟨rfl,h⟩))
   ·exact .inr (.inr (.inl h))
theorem lexlt_trans {a b c:List Int} (h:lexlt a b=true) (h':lexlt b c=true):lexlt a c=true:=by
 induction a generalizing b c with
 |nil=>cases c with
  |nil=>cases b with
   |nil=>exact h'
   |cons _ _=>cases h'
  |cons _ _=>rfl
 |cons x a ih=>cases b with
  |nil=>cases h
  |cons y b=>cases c with
   |nil=>cases h'
   |cons z c =>
    rw[lexlt_cons] at h h' ⊢;rcases h with h|⟨rfl,h⟩
    ·rcases h' with h'|⟨rfl,h'⟩
     ·exact .inl (by omega)
     ·exact .inl h
    ·rcases h' with h'|⟨rfl,h'⟩
     ·exact .inl h'
     ·exact .inr ⟨rfl,ih h h'⟩
theorem lexlt_app (b r r':List Int) (h:lexlt r r'=true):lexlt (b++r) (b++r')=true:=by
 induction b with
 |nil=>exact h
 |cons x b ih=>rw[List.cons_append,List.cons_append,lexlt_cons];exact .inr ⟨rfl,ih⟩
def ltY (a b:Int × List Int):Bool:=decide (a.1<b.1) || (decide (a.1=b.1) && lexlt a.2 b.2)
theorem ltY_iff (a b:Int × List Int):ltY a b=true ↔ a.1<b.1\/a.1=b.1/\lexlt a.2 b.2=true:=by simp[ltY]
theorem ltY_irr (a:Int × List Int):ltY a a=false:=by simp[ltY,lexlt_irr]
theorem ltY_trans {a b c:Int × List Int} (h:ltY a b=true) (h':ltY b c=true):ltY a c=true:=by
 rw[ltY_iff] at *;rcases h with h|⟨h1,h2⟩ <;> rcases h' with h'|⟨k1,k2⟩
 ·exact .inl (by omega)
 ·exact .inl (by omega)
 ·exact .inl (by omega)
 ·exact .inr ⟨by omega,lexlt_trans h2 k2⟩
theorem ltY_tri (a b:Int × List Int):a=b\/ltY a b=true\/ltY b a=true:=by
 obtain⟨x,p⟩:=a;obtain⟨y,q⟩:=b;simp only[ltY_iff];rcases Int.lt_trichotomy x y with h|h|h
 ·exact .inr (.inl (.inl h))
 ·subst h
  rcases lexlt_tri p q with h|h|h
  ·exact .inl (by rw[h])
  ·exact .inr (.inl (.inr ⟨rfl,h⟩))
  ·exact .inr (.inr (.inr ⟨rfl,h⟩))
 ·exact .inr (.inr (.inl h))
theorem ltY_asy {a b:Int × List Int} (h:ltY a b=true):ltY b a=false:=by
 cases h':ltY b a with
 |false=>rfl
 |true=>have:=ltY_trans h h';rw[ltY_irr] at this;cases this
theorem ltY_not {a b:Int × List Int} (h:ltY a b=false):a=b\/ltY b a=true:=by
 rcases ltY_tri a b with h1|h1|h1
 ·exact .inl h1
 ·rw[h] at h1;cases h1
 ·exact .inr h1
theorem ltY_neg {a b c:Int × List Int} (h:ltY a b=false) (h':ltY b c=false):ltY a c=false:=by
 rcases ltY_not h with rfl|h1
 ·exact h'
 ·rcases ltY_not h' with rfl|h2
  ·exact h
  ·exact ltY_asy (ltY_trans h2 h1)
def wt (l:List E) (p:List Int):Int:=sumP l (prs p)
def ky (l:List E) (p:List Int):Int × List Int:=(wt l p,p)
def leY (l:List E) (p q:List Int):Prop:=p=q\/ltY (ky l p) (ky l q)=true
theorem leY.trans {l:List E} {p q r:List Int} (h:leY l p q) (h':leY l q r):leY l p r:=by
 rcases h with rfl|h
 ·exact h'
 ·rcases h' with rfl|h'
  ·exact .inr h
  ·exact .inr (ltY_trans h h')
structure Smp (n:Nat) (l:List E) (s t:Int) (p:List Int):Prop where
 head:p.head?=some s
 last:p.getLast?=some t
 nd:p.Nodup
 rng:∀v∈p,0<=v/\v<n
 ok:okP l (prs p)=true
theorem Smp.len {n:Nat} {l:List E} {s t:Int} {p:List Int} (h:Smp n l s t p):p.length<=n/\1<=p.length:=by
 have h1:(p.map Int.toNat).Nodup:=by
  rw[List.Nodup,List.pairwise_map];refine List.Pairwise.imp_of_mem (fun {x y} hx hy hxy e=>hxy ?_) h.nd;have:=h.rng x hx;have:=h.rng y hy;omega
 have h2:=FloydLaw.nodup_len h1 (k:=n) (fun m hm=>by
  rw[List.mem_map] at hm;obtain⟨x,hx,rfl⟩:=hm;have:=h.rng x hx;omega)
 rw[List.length_map] at h2;refine⟨h2,?_⟩;have:=h.head;cases p with
 |nil=>simp at this
 |cons a r=>simp
theorem Smp.cost {n:Nat} {l:List E} {s t:Int} {p:List Int} (h:Smp n l s t p) (hg:chk n l=0) (hn:n<=64):cost n l p=(wt l p,0):=by
 have h1:=h.len;unfold WalkLaw.cost;rw[if_neg (by simp[hg]),if_neg (by omega),if_neg (by omega),if_neg ?_,if_pos h.ok]
 ·rfl
 ·rw[Bool.not_eq_true,List.any_eq_false]
  intro v hv;have:=h.rng v hv;unfold outB;simp only[Bool.or_eq_true,decide_eq_true_eq];omega
theorem Smp.end_ {n:Nat} {l:List E} {s t:Int} {a:List Int} {x:Int} {r:List Int} (h:Smp n l s t (a++x::r)) (hx:x=t):r=[]:=by
 have h1:=h.last;have h2:=h.nd;subst hx;cases r with
 |nil=>rfl
 |cons y r =>
  exfalso
  rw[List.getLast?_append,List.getLast?_cons_cons] at h1
  have h3:(y::r).getLast?=some x:=by
   cases h4:(y::r).getLast? with
   |none=>simp at h4
   |some z=>rw[h4] at h1;simpa using h1
  have h4:=List.mem_of_getLast? h3;rw[List.nodup_append] at h2;have:=h2.2.1;rw[List.nodup_cons] at this;exact this.1 h4
def Cd (n:Nat) (l:List E) (s t:Int) (b:List Int) (not:Int->Prop) (p:List Int):Prop:=Smp n l s t p/\∃r,p=b++r/\∀x,r.head?=some x->¬not x
def nots (out:List (List Int)) (b:List Int) (x:Int):Prop:=∃z∈out,∃r,z=b++x::r
def Cov (n:Nat) (l:List E) (s t:Int) (out L:List (List Int)) (b:List Int):Prop :=
 ∀p,Cd n l s t b (nots out b) p->∃q∈L,Cd n l s t b (nots out b) q/\leY l q p
structure Inv (n:Nat) (l:List E) (s t:Int) (out L:List (List Int)) (bad:List Int->Prop):Prop where
 so:∀p∈out,Smp n l s t p
 sl:∀p∈L,Smp n l s t p
 cov:∀b,b≠[]->(∃x,nots out b x)->¬bad b->Cov n l s t out L b
 none:out=[]->∀p,Smp n l s t p->∃q∈L,leY l q p
 sorted:out.Pairwise fun p q=>ltY (ky l p) (ky l q)=true
 low:∀p,Smp n l s t p->p ∉ out->∀q∈out,ltY (ky l q) (ky l p)=true
section
variable {n:Nat} {l:List E} {s t:Int} {out L L':List (List Int)}
theorem cons_of_head {p:List Int} {s:Int} (h:p.head?=some s):∃r,p=s::r:=by
 cases p with
 |nil=>simp at h
 |cons a r=>simp at h;exact⟨r,by rw[h]⟩
theorem Inv.waits (h:Inv n l s t out L (fun _=>False)) {p:List Int} (hp:Smp n l s t p) (hout:p ∉ out):∃q∈L,q ∉ out/\leY l q p:=by
 by_cases ho:out=[]
 ·obtain⟨q,h1,h2⟩:=h.none ho p hp
  exact⟨q,h1,by rw[ho];simp,h2⟩
 ·
  have key:∀k,k<=p.length->(∃b r,p=b++r/\b≠[]/\r.length=k/\∃x,nots out b x)->∃b r,p=b++r/\b≠[]/\(∃x,nots out b x)/\∀x r',r=x::r'->¬nots out b x:=by
   intro k
   induction k with
   |zero =>
    rintro - ⟨b,r,rfl,hb,hr,hx⟩;exact⟨b,r,rfl,hb,hx,fun x r' e=>by rw[e] at hr;simp at hr⟩
   |succ k ih =>
    rintro hk ⟨b,r,he,hb,hr,hx⟩;cases r with
    |nil=>simp at hr
    |cons y r =>
     by_cases hy:nots out b y
     ·obtain⟨z,hz,r1,e⟩:=hy
      have hsz:=h.so z hz;cases r1 with
      |nil =>
       exfalso
       have h1:=hsz.last;rw[e,List.getLast?_append] at h1;simp at h1;have h2:=(he ▸ hp).end_ h1;exact hout (by rw[he,h2, <-e];exact hz)
      |cons w r1 =>
       refine ih (by omega) ⟨b++[y],r,by rw[he];simp,by simp,by simpa using hr,w,z,hz,r1,by rw[e];simp⟩
     ·exact⟨b,y::r,he,hb,hx,fun x r' e=>by injection e with e _;subst e;exact hy⟩
  obtain⟨z,hz⟩:=List.exists_mem_of_ne_nil _ ho;have hsz:=h.so z hz;obtain⟨rz,ez⟩:=cons_of_head hsz.head;obtain⟨rp,ep⟩:=cons_of_head hp.head
  have hb0:∃x,nots out [s] x:=by
   cases rz with
   |nil =>
    exfalso
    have h1:=hsz.last;rw[ez] at h1;simp at h1;have h2:=Smp.end_ (a:=[]) (x:=s) (r:=rp) (by rw[List.nil_append, <-ep];exact hp) h1;exact hout (by rw[ep,h2, <-ez];exact hz)
   |cons x rz=>exact⟨x,z,hz,rz,by rw[ez];rfl⟩
  obtain⟨b,r,he,hb,⟨x,hx⟩,hr⟩:=key rp.length (by rw[ep];simp) ⟨[s],rp,by rw[ep];rfl,by simp,rfl,hb0⟩
  obtain⟨q,h1,h2,h3⟩:=h.cov b hb ⟨x,hx⟩ (fun h=>h) p ⟨hp,r,he,fun y hy=>by
   obtain⟨r',e'⟩:=cons_of_head hy;exact hr y r' e'⟩
  refine⟨q,h1,fun hq=> ?_,h3⟩;obtain⟨hsq,rq,eq,hnq⟩:=h2;cases rq with
  |nil =>
   obtain⟨z',hz',r',e'⟩:=hx;have h4:=hsq.last;rw[eq,List.append_nil] at h4;obtain⟨b0,eb⟩:∃b0,b=b0++[t]:=List.getLast?_eq_some_iff.1 h4;have h5:=Smp.end_ (a:=b0) (x:=t) (r:=x::r') (by have:=h.so z' hz';rw[e',eb] at this;simpa using this) rfl;cases h5
  |cons y rq=>exact hnq y rfl ⟨q,hq,rq,eq⟩
theorem Inv.skip (h:Inv n l s t out L (fun _=>False)) {w:List Int} (hp:(w::L').Perm L) (hw:w∈out):Inv n l s t out L' (fun _=>False):=by
 have hmem:∀q∈L,q≠w->q∈L':=fun q hq hne=>by
  rcases List.mem_cons.1 (hp.mem_iff.2 hq) with h|h
  ·exact absurd h hne
  ·exact h
 refine⟨h.so,fun p hp'=>h.sl p (hp.mem_iff.1 (List.mem_cons_of_mem _ hp')),fun b hb ⟨x,hx⟩ hn p hc=> ?_,fun e=>(by rw[e] at hw;simp at hw),h.sorted,h.low⟩;obtain⟨q,h1,h2,h3⟩:=h.cov b hb ⟨x,hx⟩ hn p hc;refine⟨q,hmem q h1 (fun e=> ?_),h2,h3⟩;subst e;obtain⟨hsq,rq,eq,hnq⟩:=h2;cases rq with
 |nil =>
  obtain⟨z',hz',r',e'⟩:=hx;have h4:=hsq.last;rw[eq,List.append_nil] at h4;obtain⟨b0,eb⟩:∃b0,b=b0++[t]:=List.getLast?_eq_some_iff.1 h4;have h5:=Smp.end_ (a:=b0) (x:=t) (r:=x::r') (by have:=h.so z' hz';rw[e',eb] at this;simpa using this) rfl;cases h5
 |cons y rq=>exact hnq y rfl ⟨q,hw,rq,eq⟩
def bad (w:List Int) (i:Nat) (b:List Int):Prop:=∃k,i<=k/\k<w.length/\b=w.take k
theorem Inv.take (h:Inv n l s t out L (fun _=>False)) {w:List Int} (hp:(w::L').Perm L) (hmin:∀q∈L,leY l w q) (hw:w ∉ out):Inv n l s t (out++[w]) L' (bad w 1):=by
 have hsw:Smp n l s t w:=h.sl w (hp.mem_iff.1 (List.mem_cons_self))
 have hle:∀p,Smp n l s t p->p ∉ out->leY l w p:=fun p hp' ho=>by
  obtain⟨q,h1,h2,h3⟩:=h.waits hp' ho;exact(hmin q h1).trans h3
 refine⟨fun p hp'=> ?_,fun p hp'=>h.sl p (hp.mem_iff.1 (List.mem_cons_of_mem _ hp')),fun b hb ⟨x,hx⟩ hn=> ?_,fun e=>by simp at e,?_,fun p hp' ho q hq=> ?_⟩
 ·rcases List.mem_append.1 hp' with h1|h1
  ·exact h.so p h1
  ·rw[List.mem_singleton] at h1;subst h1;exact hsw
 ·have hbw:∀y r,w≠b++y::r:=fun y r e=>hn ⟨b.length,by
   cases b with
   |nil=>exact absurd rfl hb
   |cons _ _=>simp,by rw[e];simp,by rw[e];simp⟩
  have hno:nots (out++[w]) b=nots out b:=by
   funext y
   refine propext ⟨fun ⟨z,hz,r,e⟩=> ?_,fun ⟨z,hz,r,e⟩=>⟨z,List.mem_append_left _ hz,r,e⟩⟩;rcases List.mem_append.1 hz with h1|h1
   ·exact⟨z,h1,r,e⟩
   ·rw[List.mem_singleton] at h1
    subst h1;exact absurd e (hbw y r)
  intro p hc;rw[hno] at hc hx ⊢;obtain⟨q,h1,h2,h3⟩:=h.cov b hb ⟨x,hx⟩ (fun h=>h) p hc;refine⟨q,?_,h2,h3⟩;rcases List.mem_cons.1 (hp.mem_iff.2 h1) with h4|h4
  ·exfalso
   subst h4;obtain⟨hsq,rq,eq,hnq⟩:=h2;cases rq with
   |nil =>
    obtain⟨z',hz',r',e'⟩:=hx;have h4:=hsq.last;rw[eq,List.append_nil] at h4;obtain⟨b0,eb⟩:∃b0,b=b0++[t]:=List.getLast?_eq_some_iff.1 h4;have h5:=Smp.end_ (a:=b0) (x:=t) (r:=x::r') (by have:=h.so z' hz';rw[e',eb] at this;simpa using this) rfl;cases h5
   |cons y rq=>exact hbw y rq eq
  ·exact h4
 ·rw[List.pairwise_append]
  refine⟨h.sorted,by simp,fun a ha b hb=> ?_⟩;rw[List.mem_singleton] at hb;subst hb;exact h.low _ hsw hw a ha
 ·rw[List.mem_append,List.mem_singleton,not_or] at ho
  rcases List.mem_append.1 hq with h1|h1
  ·exact h.low p hp' ho.1 q h1
  ·rw[List.mem_singleton] at h1
   subst h1;rcases hle p hp' ho.1 with e|e
   ·exact absurd e.symm ho.2
   ·exact e
theorem Inv.care {w:List Int} {i:Nat} (h:Inv n l s t out L (bad w i)) (hL:∀q∈L,q∈L') (hS:∀q∈L',Smp n l s t q) (hc:∀p,Cd n l s t (w.take i) (nots out (w.take i)) p->∃q∈L',Cd n l s t (w.take i) (nots out (w.take i)) q/\leY l q p):Inv n l s t out L' (bad w (i+1)):=by
 refine⟨h.so,hS,fun b hb hx hn=> ?_,fun e p hp=> ?_,h.sorted,h.low⟩
 ·by_cases hbi:b=w.take i
  ·subst hbi
   exact hc
  ·intro p hp
   obtain⟨q,h1,h2,h3⟩:=h.cov b hb hx (fun ⟨k,h1,h2,h3⟩=>hn ⟨k,by
    rcases Nat.lt_or_ge i k with h4|h4
    ·exact h4
    ·have:k=i:=by omega
     subst this;exact absurd h3 hbi,h2,h3⟩) p hp
   exact⟨q,hL q h1,h2,h3⟩
 ·obtain⟨q,h1,h2⟩:=h.none e p hp
  exact⟨q,hL q h1,h2⟩
theorem Inv.cared {w:List Int} {i:Nat} (h:Inv n l s t out L (bad w i)) (hi:w.length<=i):Inv n l s t out L (fun _=>False) :=
 ⟨h.so,h.sl,fun b hb hx _=>h.cov b hb hx (fun ⟨k,h1,h2,_⟩=>by omega),h.none,h.sorted,h.low⟩
structure Top (n:Nat) (l:List E) (s t:Int) (k:Nat) (out:List (List Int)):Prop where
 so:∀p∈out,Smp n l s t p
 sorted:out.Pairwise fun p q=>ltY (ky l p) (ky l q)=true
 low:∀p,Smp n l s t p->p ∉ out->∀q∈out,ltY (ky l q) (ky l p)=true
 len:out.length<=k
 all:out.length=k\/∀p,Smp n l s t p->p∈out
theorem Inv.top {k:Nat} (h:Inv n l s t out L (fun _=>False)) (hk:out.length<=k) (he:out.length=k\/L=[]):Top n l s t k out :=
 ⟨h.so,h.sorted,h.low,hk,he.imp_right fun e p hp=>by
   by_cases ho:p∈out
   ·exact ho
   ·obtain⟨q,h1,_⟩:=h.waits hp ho
    rw[e] at h1;cases h1⟩
end
end YenLaw
namespace YenOn
open NetLaw BellLaw DijkLaw WalkLaw YenLaw
def bk (e:E):E:=(e.2.1,e.1,e.2.2)
def okU (b nt:List Int) (u v:Int):Bool:= !(decide (v∈b) || (decide (u∈b.dropLast) || (decide (u=b.getLastD 0) && decide (v∈nt))))
def rst (b nt:List Int) (l:List E):List E:=l.filter fun e=>okU b nt e.1 e.2.1
theorem rst_fold (b nt:List Int) (u v:Int) (l:List E) (s:Int × Bool):(rst b nt l).foldl (egS u v) s=if okU b nt u v=true then l.foldl (egS u v) s else s:=by
 induction l generalizing s with
 |nil=>simp[rst]
 |cons e r ih =>
  unfold rst at ih ⊢;rw[List.filter_cons]
  by_cases hk:okU b nt e.1 e.2.1=true
  ·rw[if_pos hk,List.foldl_cons,ih,List.foldl_cons]
   by_cases hu:okU b nt u v=true
   ·rw[if_pos hu,if_pos hu]
   ·rw[if_neg hu,if_neg hu]
    unfold egS;rw[if_neg];rintro⟨rfl,rfl,_⟩;exact hu hk
  ·rw[if_neg hk,ih,List.foldl_cons]
   by_cases hu:okU b nt u v=true
   ·rw[if_pos hu,if_pos hu]
    congr 1
    unfold egS;rw[if_neg];rintro⟨rfl,rfl,_⟩;exact hk hu
   ·rw[if_neg hu,if_neg hu]
theorem eg_rst (b nt:List Int) (l:List E) (u v:Int):eg (rst b nt l) u v=if okU b nt u v=true then eg l u v else (0,false):=rst_fold b nt u v l _
theorem okP_cons (l:List E) (p:Int × Int) (ps:List (Int × Int)):okP l (p::ps)=((eg l p.1 p.2).2 && okP l ps):=by simp[okP]
theorem sumP_cons (l:List E) (p:Int × Int) (ps:List (Int × Int)):sumP l (p::ps)=(eg l p.1 p.2).1+sumP l ps:=by simp[sumP]
theorem ok_rst {b nt:List Int} {l:List E} {ps:List (Int × Int)} (h:okP (rst b nt l) ps=true):okP l ps=true/\sumP l ps=sumP (rst b nt l) ps/\∀q∈ps,okU b nt q.1 q.2=true:=by
 induction ps with
 |nil=>exact⟨rfl,rfl,by simp⟩
 |cons q ps ih =>
  rw[okP_cons,Bool.and_eq_true] at h;obtain⟨h1,h2⟩:=h;obtain⟨i1,i2,i3⟩:=ih h2
  have hk:okU b nt q.1 q.2=true:=by
   by_cases hk:okU b nt q.1 q.2=true
   ·exact hk
   ·rw[eg_rst,if_neg hk] at h1;cases h1
  have he:=eg_rst b nt l q.1 q.2;rw[if_pos hk] at he;rw[okP_cons,sumP_cons,sumP_cons,he,i2];rw[he] at h1
  exact⟨by rw[h1,i1];rfl,rfl,fun x hx=>by
   rcases List.mem_cons.1 hx with rfl|hx
   ·exact hk
   ·exact i3 x hx⟩
theorem rst_ok {b nt:List Int} {l:List E} {ps:List (Int × Int)} (h:okP l ps=true) (hk:∀q∈ps,okU b nt q.1 q.2=true):okP (rst b nt l) ps=true:=by
 induction ps with
 |nil=>rfl
 |cons q ps ih =>
  rw[okP_cons,Bool.and_eq_true] at h;rw[okP_cons,eg_rst,if_pos (hk q (by simp)),h.1,ih h.2 (fun x hx=>hk x (by simp[hx]))]
  rfl
theorem eg_mem {l:List E} {u v:Int} (h:(eg l u v).2=true):∃e∈l,e.1=u/\e.2.1=v/\eg l u v=(e.2.2,true):=by
 obtain⟨_,_,b⟩:=WayLaw.eg_fold u v l (0,false);unfold eg at h ⊢;rcases b with b|b
 ·rw[b] at h;cases h
 ·exact b
structure Rs (n:Nat) (t:Nat) (rs:List E) (D:List Int):Prop where
 ends:∀e∈rs,0<=e.1/\e.1<n/\0<=e.2.1/\e.2.1<n
 cost:∀e∈rs,1<=e.2.2/\e.2.2<=10000
 sh:Sh n t (rs.map bk) D
 tn:t<n
section
variable {n t:Nat} {rs:List E} {D:List Int}
theorem Rs.st (h:Rs n t rs D) {e:E} (he:e∈rs) (hf:dg D e.2.1<far):dg D e.1<=dg D e.2.1+e.2.2:=h.sh.still (bk e) (List.mem_map.2 ⟨e,he,rfl⟩) hf
def Tg (rs:List E) (D:List Int) (u v:Int):Prop:=∃e∈rs,e.1=u/\e.2.1=v/\dg D v<far/\e.2.2+dg D v=dg D u
theorem Rs.tight (h:Rs n t rs D) {v:Int} (hv:0<=v/\v<n) (hf:dg D v<far) (hne:v≠t):∃x,Tg rs D v x:=by
 obtain⟨e',he',h1,h2,h3⟩:=BellSh.pred h.sh (fun e he=>by
  obtain⟨x,hx,rfl⟩:=List.mem_map.1 he;have:=h.ends x hx;exact⟨this.2.2.1,this.2.2.2,this.1,this.2.1⟩) (fun e he=>by
  obtain⟨x,hx,rfl⟩:=List.mem_map.1 he;exact(h.cost x hx).1) hv hf hne
 obtain⟨e,he,rfl⟩:=List.mem_map.1 he';have hc:=(h.cost e he).1;refine⟨e.2.1,e,he,h1,rfl,?_,?_⟩
 ·have:dg D (bk e).1=dg D e.2.1:=rfl
  have h4:(bk e).2.2=e.2.2:=rfl;omega
 ·have:dg D (bk e).1=dg D e.2.1:=rfl
  have h4:(bk e).2.2=e.2.2:=rfl;omega
def nxS (D:List Int) (a:Int) (u:Int) (e:E):Int:=if e.1=a/\dg D e.2.1<far/\e.2.2+dg D e.2.1=dg D a then min u e.2.1 else u
def nx (n:Nat) (rs:List E) (D:List Int) (a:Int):Int:=rs.foldl (nxS D a) n
theorem nx_succ (n:Nat) (rs:List E) (D:List Int) (a:Int) (k:Nat) (h:k<rs.length):nx n (rs.take (k+1)) D a=nxS D a (nx n (rs.take k) D a) rs[k]:=by
 unfold nx;rw[List.take_succ_eq_append_getElem h,List.foldl_append]
 rfl
theorem nx_fold {a:Int} (r rs:List E) (hr:∀e∈r,e∈rs) (u:Int):r.foldl (nxS D a) u<=u/\(r.foldl (nxS D a) u=u\/Tg rs D a (r.foldl (nxS D a) u))/\∀e∈r,e.1=a->dg D e.2.1<far->e.2.2+dg D e.2.1=dg D a->r.foldl (nxS D a) u<=e.2.1:=by
 induction r generalizing u with
 |nil=>exact⟨Int.le_refl _,.inl rfl,by simp⟩
 |cons e r ih =>
  obtain⟨h1,h2,h3⟩:=ih (fun x hx=>hr x (by simp[hx])) (nxS D a u e);have hs:nxS D a u e<=u:=by unfold nxS;split <;> omega
  refine⟨Int.le_trans h1 hs,?_,fun x hx p q z=> ?_⟩
  ·rcases h2 with h2|h2
   ·rw[List.foldl_cons,h2]
    unfold nxS;split
    ·rename_i c
     rcases Int.le_total u e.2.1 with d|d
     ·left;omega
     ·right
      rw[Int.min_eq_right d];exact⟨e,hr e (by simp),c.1,rfl,c.2.1,c.2.2⟩
    ·left;rfl
   ·exact .inr h2
  ·rcases List.mem_cons.1 hx with rfl|hx
   ·refine Int.le_trans h1 ?_
    unfold nxS;rw[if_pos ⟨p,q,z⟩];omega
   ·exact h3 x hx p q z
theorem Rs.next (h:Rs n t rs D) {a:Int} (ha:0<=a/\a<n) (hf:dg D a<far) (hne:a≠t):Tg rs D a (nx n rs D a)/\(0<=nx n rs D a/\nx n rs D a<n)/\dg D (nx n rs D a)<dg D a/\∀v,Tg rs D a v->nx n rs D a<=v:=by
 obtain⟨x,e,he,h1,h2,h3,h4⟩:=h.tight ha hf hne;obtain⟨a1,b1,c1⟩:=nx_fold (D:=D) (a:=a) rs rs (fun _ h=>h) n;have hlt:=c1 e he h1 (by rw[h2];exact h3) (by rw[h2];exact h4);have hen:=h.ends e he
 have hT:Tg rs D a (nx n rs D a):=by
  rcases b1 with b1|b1
  ·have:rs.foldl (nxS D a) (n:Int)=n:=b1
   omega
  ·exact b1
 obtain⟨z,hz,z1,z2,z3,z4⟩:=hT;have r1:=h.ends z hz;have r2:=h.cost z hz
 exact⟨⟨z,hz,z1,z2,z3,z4⟩,by rw[<-z2];exact r1.2.2,by omega,fun v ⟨y,hy,y1,y2,y3,y4⟩=>by
  have:=c1 y hy y1 (by rw[y2];exact y3) (by rw[y2];exact y4);rw[y2] at this;exact this⟩
theorem Rs.eg_tg (h:Rs n t rs D) {u v:Int} (hT:Tg rs D u v):eg rs u v=(dg D u - dg D v,true):=by
 obtain⟨e,he,h1,h2,h3,h4⟩:=hT;obtain⟨_,a,b⟩:=WayLaw.eg_fold u v rs (0,false);obtain⟨a1,a2⟩:=a e he h1 h2;unfold eg;rcases b with b|⟨x,hx,x1,x2,x3⟩
 ·rw[b] at a1;cases a1
 ·rw[x3] at a2 ⊢
  have:=h.st hx (by rw[x2];exact h3);rw[x1,x2] at this;simp only at a2;have:x.2.2=dg D u - dg D v:=by omega
  rw[this]
def Gy (n t:Nat) (rs:List E) (D:List Int) (ps:List (Int × Int)):Prop:=∀q∈ps,q.2=nx n rs D q.1/\q.1≠t/\(0<=q.1/\q.1<n)/\dg D q.1<far
theorem Gy.below (h:Rs n t rs D) {r:List Int} {a:Int} (hg:Gy n t rs D (prs (a::r))):(∀x∈r,dg D x<dg D a/\(0<=x/\x<n)/\∃e∈rs,e.2.1=x)/\(a::r).Nodup:=by
 induction r generalizing a with
 |nil=>exact⟨by simp,by simp⟩
 |cons y r ih =>
  rw[prs_cons] at hg;obtain⟨g1,g2,g3,g4⟩:=hg (a,y) (by simp);simp only at g1 g2 g3 g4;obtain⟨n1,n2,n3,_⟩:=h.next g3 g4 g2;rw[<-g1] at n1 n2 n3;obtain⟨i1,i2⟩:=ih (a:=y) (fun q hq=>hg q (by simp[hq]))
  have hall:∀x∈y::r,dg D x<dg D a/\(0<=x/\x<n)/\∃e∈rs,e.2.1=x:=fun x hx=>by
   rcases List.mem_cons.1 hx with rfl|hx
   ·obtain⟨e,he,_,e2,_⟩:=n1
    exact⟨n3,n2,e,he,e2⟩
   ·obtain⟨j1,j2,j3⟩:=i1 x hx
    exact⟨by omega,j2,j3⟩
  refine⟨hall,List.nodup_cons.2 ⟨fun hm=> ?_,i2⟩⟩;have:=(hall a hm).1;omega
theorem Gy.cost (h:Rs n t rs D) {r:List Int} {a:Int} (hg:Gy n t rs D (prs (a::r))) (hl:(a::r).getLast?=some (t:Int)):okP rs (prs (a::r))=true/\wt rs (a::r)=dg D a:=by
 induction r generalizing a with
 |nil =>
  simp at hl;subst hl;exact⟨rfl,h.sh.st.symm⟩
 |cons y r ih =>
  rw[prs_cons] at hg;obtain⟨g1,g2,g3,g4⟩:=hg (a,y) (by simp);simp only at g1 g2 g3 g4;obtain⟨n1,n2,n3,_⟩:=h.next g3 g4 g2;rw[<-g1] at n1;obtain⟨i1,i2⟩:=ih (a:=y) (fun q hq=>hg q (by simp[hq])) (by rwa [List.getLast?_cons_cons] at hl);have he:=h.eg_tg n1;unfold wt at i2 ⊢;rw[prs_cons,okP_cons,sumP_cons,he,i1,i2];exact⟨rfl,by simp only;omega⟩
theorem Rs.pos (h:Rs n t rs D) {ps:List (Int × Int)} (ho:okP rs ps=true):0<=sumP rs ps/\sumP rs ps<=10000*(ps.length:Int):=by
 induction ps with
 |nil=>exact⟨Int.le_refl _,by simp[sumP]⟩
 |cons q ps ih =>
  rw[okP_cons,Bool.and_eq_true] at ho;obtain⟨e,he,_,_,h3⟩:=eg_mem ho.1;have:=h.cost e he;have:=ih ho.2;rw[sumP_cons,h3,List.length_cons];simp only;omega
theorem Gy.least (h:Rs n t rs D) {r r':List Int} {a:Int} (hg:Gy n t rs D (prs (a::r))) (hl:(a::r).getLast?=some (t:Int)) (ho:okP rs (prs (a::r'))=true) (hl':(a::r').getLast?=some (t:Int)) (hw:wt rs (a::r')<far):dg D a<=wt rs (a::r')/\(wt rs (a::r')=dg D a->r=r'\/lexlt r r'=true):=by
 have ge:∀(r':List Int) (a:Int),okP rs (prs (a::r'))=true->(a::r').getLast?=some (t:Int)->wt rs (a::r')<far->dg D a<=wt rs (a::r'):=by
  intro r'
  induction r' with
  |nil =>
   intro a _ hl' _;simp at hl';subst hl';rw[h.sh.st];exact Int.le_refl _
  |cons x r1 ih =>
   intro a ho hl' hw;unfold wt at hw ih ⊢;rw[prs_cons,okP_cons,Bool.and_eq_true] at ho;rw[prs_cons,sumP_cons] at hw ⊢;obtain⟨e,he,e1,e2,e3⟩:=eg_mem ho.1;have hc:=h.cost e he;rw[e3] at hw ⊢;simp only at hw ⊢;have hi:=ih x ho.2 (by rwa [List.getLast?_cons_cons] at hl') (by omega);have hs:=h.st he (by rw[e2];simp only;omega);rw[e1,e2] at hs;simp only at hs;omega
 refine⟨ge r' a ho hl' hw,?_⟩
 induction r generalizing a r' with
 |nil =>
  intro heq;simp at hl;subst hl;cases r' with
  |nil=>exact .inl rfl
  |cons x r1=>exact .inr rfl
 |cons y r ih =>
  intro heq;rw[prs_cons] at hg;obtain⟨g1,g2,g3,g4⟩:=hg (a,y) (by simp);simp only at g1 g2 g3 g4;obtain⟨n1,n2,n3,n4⟩:=h.next g3 g4 g2;rw[<-g1] at n1 n2 n3 n4;cases r' with
  |nil =>
   simp at hl';exact absurd hl' g2
  |cons x r1 =>
   unfold wt at heq hw;rw[prs_cons,okP_cons,Bool.and_eq_true] at ho;rw[prs_cons,sumP_cons] at heq hw;obtain⟨e,he,e1,e2,e3⟩:=eg_mem ho.1;have hc:=h.cost e he;rw[e3] at heq hw;simp only at heq hw e1 e2;have hl2:(x::r1).getLast?=some (t:Int):=by rwa [List.getLast?_cons_cons] at hl'
   have hw2:wt rs (x::r1)<far:=by unfold wt;omega
   have hge:=ge r1 x ho.2 hl2 hw2;have hxf:dg D e.2.1<far:=by rw[e2];omega
   have hs:=h.st he hxf;rw[e1,e2] at hs;have hwx:wt rs (x::r1)=sumP rs (prs (x::r1)):=rfl;have hT:Tg rs D a x:=⟨e,he,e1,e2,by rw[<-e2];exact hxf,by omega⟩;have hyx:=n4 x hT;rw[lexlt_cons];rcases Int.lt_trichotomy y x with hlt|rfl|hgt
   ·exact .inr (.inl hlt)
   ·rcases ih (a:=y) (r':=r1) (fun q hq=>hg q (by simp[hq])) (by rwa [List.getLast?_cons_cons] at hl) ho.2 hl2 hw2 (by omega) with k|k
    ·exact .inl (by rw[k])
    ·exact .inr (.inr ⟨rfl,k⟩)
   ·omega
end
section
variable {n s t:Nat} {l:List E} {D:List Int} {b0 nt:List Int} {a:Int}
theorem rst_rs (hg:NetLaw.Good n l) (hc:∀e∈l,1<=e.2.2) (ht:t<n) (b nt:List Int) (hD:Sh n t ((rst b nt l).map bk) D):Rs n t (rst b nt l) D :=
 ⟨fun e he=>hg.ends e (List.mem_filter.1 he).1,fun e he=>⟨hc e (List.mem_filter.1 he).1,(hg.cost e (List.mem_filter.1 he).1).2⟩,hD,ht⟩
theorem last_join (b0:List Int) (a:Int) (r:List Int) {z:Int} (h:(a::r).getLast?=some z):(b0++a::r).getLast?=some z:=by
 rw[List.getLast?_append,h];rfl
theorem cd_rst (p:List Int) (hp:Cd n l s t (b0++[a]) (· ∈nt) p):∃r,p=b0++a::r/\okP (rst (b0++[a]) nt l) (prs (a::r))=true/\(a::r).getLast?=some (t:Int)/\(prs (a::r)).length<=n:=by
 obtain⟨hs,r,rfl,hr⟩:=hp;refine⟨r,by simp,?_,?_,?_⟩
 ·have ho:=hs.ok
  have hnd:=hs.nd;rw[List.append_assoc,List.singleton_append] at ho hnd;rw[prs_join,okP_append,Bool.and_eq_true] at ho;refine rst_ok ho.2 fun q hq=> ?_;rw[List.nodup_append,List.nodup_cons] at hnd;obtain⟨d1,⟨d2,d3⟩,d4⟩:=hnd
  have hmem:q.1∈a::r/\q.2∈r/\(q.1=a->r.head?=some q.2):=by
   obtain⟨i,hi,rfl⟩:=List.mem_iff_getElem.1 hq;rw[prs_len] at hi;have h1:=prs_get (p:=a::r) (k:=i) (by simp at hi ⊢;omega);rw[List.getElem?_eq_getElem (by rw[prs_len];exact hi)] at h1;injection h1 with h1;rw[h1];refine⟨List.getElem_mem _,by simp,fun e=> ?_⟩;cases i with
   |zero=>simp at hi;cases r with
    |nil=>simp at hi
    |cons _ _=>rfl
   |succ i =>
    exfalso
    simp only[zzB] at e;exact d2 (by rw[<-e];exact List.getElem_mem _)
  obtain⟨m1,m2,m3⟩:=hmem;unfold okU;rw[Bool.not_eq_true',Bool.or_eq_false_iff,Bool.or_eq_false_iff];refine⟨?_,?_,?_⟩
  ·rw[decide_eq_false_iff_not,List.mem_append,List.mem_singleton]
   rintro (h|h)
   ·exact d4 _ h _ (List.mem_cons_of_mem _ m2) rfl
   ·rw[h] at m2;exact d2 m2
  ·rw[decide_eq_false_iff_not,List.dropLast_concat]
   intro h;exact d4 _ h _ m1 rfl
  ·rw[Bool.and_eq_false_iff,decide_eq_false_iff_not,decide_eq_false_iff_not]
   by_cases e:q.1=a
   ·exact .inr (fun h=>hr _ (m3 e) h)
   ·exact .inl (by simpa [List.getLastD_eq_getLast?] using e)
 ·have:=hs.last
  rw[List.append_assoc,List.singleton_append,List.getLast?_append] at this;cases h:(a::r).getLast? with
  |none=>simp at h
  |some z=>rw[h] at this;simpa using this
 ·rw[prs_len]
  have:=hs.len;simp at this ⊢;omega
theorem on_none (hg:NetLaw.Good n l) (hc:∀e∈l,1<=e.2.2) (ht:t<n) (hD:Sh n t ((rst (b0++[a]) nt l).map bk) D) (hf:dg D a=far) (p:List Int):¬Cd n l s t (b0++[a]) (· ∈nt) p:=by
 intro hp;obtain⟨r,rfl,h1,h2,h3⟩:=cd_rst p hp;have hR:=rst_rs hg hc ht (b0++[a]) nt hD;have hw:∀(r:List Int) (a:Int),okP (rst (b0++[a]) nt l) (prs (a::r))=true->True:=fun _ _ _=>trivial
 have key:∀(r:List Int) (a':Int),okP (rst (b0++[a]) nt l) (prs (a'::r))=true->(a'::r).getLast?=some (t:Int)->(prs (a'::r)).length<=n->dg D a'<far:=by
  intro r
  induction r with
  |nil =>
   intro a' _ h2 _;simp at h2;subst h2;rw[hD.st]
   decide
  |cons y r ih =>
   intro a' h1 h2 h3;rw[prs_cons,okP_cons,Bool.and_eq_true] at h1;rw[prs_cons,List.length_cons] at h3;obtain⟨e,he,e1,e2,e3⟩:=eg_mem h1.1;have hi:=ih y h1.2 (by rwa [List.getLast?_cons_cons] at h2) (by omega);simp only at e1 e2;have hs:=hR.st he (by rw[e2];exact hi);rw[e1,e2] at hs;have hd:=(hD.wk y (by rw[<-e2];exact(hR.ends e he).2.2.1) (by rw[<-e2];exact(hR.ends e he).2.2.2) hi);have hc:=hR.cost e he
   have hb:∀(r:List Int) (y:Int),okP (rst (b0++[a]) nt l) (prs (y::r))=true->(y::r).getLast?=some (t:Int)->(prs (y::r)).length<=n->dg D y<=10000*((prs (y::r)).length:Int):=by
    intro r
    induction r with
    |nil =>
     intro y _ h2 _;simp at h2;subst h2;rw[hD.st];omega
    |cons x r ih =>
     intro y h1 h2 h3;rw[prs_cons,okP_cons,Bool.and_eq_true] at h1;rw[prs_cons,List.length_cons] at h3 ⊢;obtain⟨e,he,e1,e2,e3⟩:=eg_mem h1.1;have hi:=ih x h1.2 (by rwa [List.getLast?_cons_cons] at h2) (by omega);simp only at e1 e2;have hn:=hg.hi;have hs:=hR.st he (by rw[e2];unfold far;omega);rw[e1,e2] at hs;have hc:=hR.cost e he;omega
   have:=hb r y h1.2 (by rwa [List.getLast?_cons_cons] at h2) (by omega);have hn:=hg.hi;unfold far;omega
 have:=key r a h1 h2 h3;omega
theorem on_least (hg:NetLaw.Good n l) (hc:∀e∈l,1<=e.2.2) (ht:t<n) (hD:Sh n t ((rst (b0++[a]) nt l).map bk) D) (hs:(b0++[a]).head?=some (s:Int)) (hnd:(b0++[a]).Nodup) (hrg:∀v∈b0++[a],0<=v/\v<n) (hok:okP l (prs (b0++[a]))=true)
 {r:List Int} (hG:Gy n t (rst (b0++[a]) nt l) D (prs (a::r))) (hl:(a::r).getLast?=some (t:Int)) :
 Cd n l s t (b0++[a]) (· ∈nt) (b0++a::r)/\∀p,Cd n l s t (b0++[a]) (· ∈nt) p->leY l (b0++a::r) p:=by
 have hR:=rst_rs hg hc ht (b0++[a]) nt hD;obtain⟨g1,g2⟩:=hG.below hR;obtain⟨c1,c2⟩:=hG.cost hR hl;obtain⟨o1,o2,o3⟩:=ok_rst c1
 have hnb:∀x∈r,x ∉ b0++[a]:=fun x hx=>by
  obtain⟨_,_,e,he,rfl⟩:=g1 x hx;have:=(List.mem_filter.1 he).2;unfold okU at this;rw[Bool.not_eq_true',Bool.or_eq_false_iff,decide_eq_false_iff_not] at this;exact this.1
 refine⟨⟨⟨?_,last_join b0 a r hl,?_,fun v hv=> ?_,?_⟩,r,by simp,fun x hx hn=> ?_⟩,fun p hp=> ?_⟩
 ·cases b0 with
  |nil=>simpa using hs
  |cons z b0=>simpa using hs
 ·rw[show b0++a::r=(b0++[a])++r by simp,List.nodup_append]
  exact⟨hnd,(List.nodup_cons.1 g2).2,fun x hx y hy e=>hnb y hy (e ▸ hx)⟩
 ·rw[show b0++a::r=(b0++[a])++r by simp] at hv
  rcases List.mem_append.1 hv with h|h
  ·exact hrg v h
  ·exact(g1 v h).2.1
 ·rw[prs_join,okP_append,hok,o1]
  rfl
 ·obtain⟨r1,rfl⟩:=cons_of_head hx
  have h1:=o3 (a,x) (by rw[prs_cons];simp);unfold okU at h1;rw[Bool.not_eq_true',Bool.or_eq_false_iff,Bool.or_eq_false_iff,Bool.and_eq_false_iff,decide_eq_false_iff_not,decide_eq_false_iff_not,decide_eq_false_iff_not,decide_eq_false_iff_not] at h1;rcases h1.2.2 with h2|h2
  ·exact h2 (by simp[List.getLastD_eq_getLast?])
  ·exact h2 hn
 ·obtain⟨r',rfl,p1,p2,p3⟩:=cd_rst p hp
  obtain⟨q1,q2,_⟩:=ok_rst p1;have hn:=hg.hi;have hb:=hR.pos p1;obtain⟨k1,k2⟩:=hG.least hR hl p1 p2 (by unfold wt far;omega)
  have w1:wt l (b0++a::r)=wt l (b0++[a])+dg D a:=by
   rw[<-c2];unfold wt;rw[prs_join,sumP_append,o2]
  have w2:wt l (b0++a::r')=wt l (b0++[a])+wt (rst (b0++[a]) nt l) (a::r'):=by
   unfold wt;rw[prs_join,sumP_append,q2]
  unfold leY ky;rw[ltY_iff,w1,w2];simp only
  by_cases he:wt (rst (b0++[a]) nt l) (a::r')=dg D a
  ·rcases k2 he with e|e
   ·exact .inl (by rw[e])
   ·exact .inr (.inr ⟨by omega,lexlt_app b0 _ _ (by rw[lexlt_cons];exact .inr ⟨rfl,e⟩)⟩)
  ·exact .inr (.inl (by omega))
end
end YenOn
namespace Std
open Go.RowKit
structure At (l:List Int) (v i:Int):Prop where
 not:v ∉ l->i= -1
 is:v∈l->∃k:Nat,i=k/\l[k]?=some v/\v ∉ l.take k
theorem At.mem {l:List Int} {v i:Int} (h:At l v i):decide (0<=i)=decide (v∈l):=by
 by_cases hv:v∈l
 ·obtain⟨k,rfl,_⟩:=h.is hv
  rw[decide_eq_true hv,decide_eq_true (by omega)]
 ·rw[h.not hv,decide_eq_false hv];rfl
def IndexI (l:List Int) (v:Int) (w:World) (e:Ending) (w':World):Prop:=∃i:Int,e= .returned (.int .i64 i)/\At l v i/\w'=w
theorem index_int (A:Option Addr) (c:Nat) (l:List Int) (v:Int) (B:Nat) (w:World) (hl:Sl w B 1 ci A l) (hlen:l.length<=9223372036854775807) :
 Calls Tryz.prog 101 #[.slice A l.length c,.int .i64 v] w fun e w'=>IndexI l v w e w':=by
 go_enter Tryz.func101,Tryz.ntmps101;go_wp2
 go_loop [8] (fun i=>∃k:Nat,k<=l.length/\i= .int .i64 k/\Hid (v ∉ l.take k)) (fun i=>l.length - (intOf i).toNat)
 case atStart=>exact⟨0,Nat.zero_le _,rfl,hid (by simp)⟩
 case round =>
  obtain⟨k,hk,rfl,HT⟩:=hrel
  by_cases hlt:k<l.length
  ·obtain⟨b,off,rfl,hbB,hc⟩:=hl.atI hlt
   have hx:l[k]?=some l[k]:=List.getElem?_eq_getElem hlt;have htk:l.take (k+1)=l.take k++[l[k]]:=List.take_succ_eq_append_getElem hlt;have hin:l[k]∈l:=List.getElem_mem hlt;generalize l[k]=x at *;have HX:=hid hx;have HTK:=hid htk;have HIN:=hid hin;clear hx htk hin hl
   by_cases hxy:v=x
   ·subst hxy
    go_wp2;go_ret;exact⟨k,rfl,⟨fun h=>absurd HIN.out h,fun _=>⟨k,rfl,HX.out,HT.out⟩⟩,rfl⟩
   ·have hne:(v == x)=false:=by rw[beq_eq_false_iff_ne];exact hxy
    have HNE:=hid hxy;clear hxy;go_wp2
    go_round
    case rel=>exact⟨k+1,by omega,by go_num,hid (by
     rw[HTK.out,List.mem_append,List.mem_singleton];rintro (h|h)
     ·exact HT.out h
     ·exact HNE.out h)⟩
    case measure=>simp[intOf];omega
  ·obtain rfl:k=l.length:=by omega
   have h1:v ∉ l:=by have:=HT.out;rwa [List.take_length] at this
   have H1:=hid h1;clear h1;go_wp2;go_ret;exact⟨-1,rfl,⟨fun _=>rfl,fun h=>absurd h H1.out⟩,rfl⟩
theorem contains_int (A:Option Addr) (c n:Nat) (l:List Int) (v:Int) (B:Nat) (w:World) (hl:Sl w B 1 ci A l) (hn:l.length=n) (hlen:n<=9223372036854775807) (b:Bool) (hb:decide (v∈l)=b) :
 Calls Tryz.prog 87 #[.slice A n c,.int .i64 v] w fun e w'=>e= .returned (.bool b)/\w'=w:=by
 subst hn hb;have KI:=hid (index_int A c l v B w hl hlen);clear hl;go_enter Tryz.func87,Tryz.ntmps87
 go_wp2_with fail
 refine KI.out.mono ?_;rintro e w1 ⟨i,rfl,hi,rfl⟩;have HI:=hid hi.mem;clear hi;go_wp2;go_ret;exact⟨ret_bool HI.out,rfl⟩
end Std
end Go.Proofs.YtjebckehmmbkbaaGreat
