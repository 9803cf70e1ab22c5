/- Plain facts on the search that goes on: what holds along a run; its rounds. No Go in sight. Plain facts on the search that goes on: the first state, all states. No Go in sight. The memory of an ara.Search: who lies where, and what each write leaves as it was. The walks of (*ara.Search).key, Over and of Top of its heap. What a push or a pop of the heap, and a write into one of the rows, leaves of a -/
import Derived.Test.YtjebckehmmbkbaaGreatVAraInv
set_option linter.unusedSimpArgs false
set_option linter.unusedVariables false
set_option maxRecDepth 100000
set_option maxHeartbeats 24000000
namespace Go.Proofs.YtjebckehmmbkbaaGreat
namespace AraLaw
open NetLaw BellLaw StarLaw WalkLaw
section
variable {N fr tt:Nat} {l:List E} {h:List Int} {s:AS} {V:Int->Int} {ws:List (Int × Int)}
theorem eg_leA {l:List E} {a b c:Int} (hc:(a,b,c)∈l):(eg l a b).2=true/\(eg l a b).1<=c:=by
 obtain⟨_,k,_⟩:=WayLaw.eg_fold a b l (0,false);exact k (a,b,c) hc rfl rfl
theorem AI.chain (hI:AI N fr l h s V) (hcs:∀e∈l,1<=e.2.2/\e.2.2<=10000):∀(k:Nat) (v:Int),0<=v->v<N->dg s.C v<far->dg s.C v<=k ->
 ∃cs,Ch s.P v cs/\(∀x∈cs,(0<=x/\x<N)/\dg s.C x<=dg s.C v)/\cs.Nodup/\cs.head?=some v/\cs.getLast?=some (fr:Int)/\okP l (prs cs.reverse)=true/\sumP l (prs cs.reverse)<=dg s.C v:=by
 intro k
 induction k with
 |zero =>
  intro v v0 v1 hf hk
  by_cases e:v=fr
  ·subst e
   have hr:=hI.root (hI.live _ v0 v1 hf);exact⟨[(fr:Int)],Ch.last hI.rootP,fun x hx=>by rw[List.mem_singleton] at hx;subst hx;exact⟨⟨v0,v1⟩,Int.le_refl _⟩,by simp,rfl,rfl,rfl,by rw[hr];exact Int.le_refl _⟩
  ·obtain⟨⟨p0,p1⟩,c,hcl,hcd⟩:=hI.tree v v0 v1 hf e
   have:=(hcs _ hcl).1;have:=(hI.lo _ p0 p1).1;simp only at *;omega
 |succ k ih =>
  intro v v0 v1 hf hk
  by_cases e:v=fr
  ·subst e
   have hr:=hI.root (hI.live _ v0 v1 hf);exact⟨[(fr:Int)],Ch.last hI.rootP,fun x hx=>by rw[List.mem_singleton] at hx;subst hx;exact⟨⟨v0,v1⟩,Int.le_refl _⟩,by simp,rfl,rfl,rfl,by rw[hr];exact Int.le_refl _⟩
  ·obtain⟨⟨p0,p1⟩,c,hcl,hcd⟩:=hI.tree v v0 v1 hf e
   have hc1:=(hcs _ hcl).1;simp only at hc1;obtain⟨cs,hch,hb,hnd,hhd,hla,hok,hsum⟩:=ih (dg s.P v) p0 p1 (by omega) (by omega);have hlast:cs.reverse.getLast?=some (dg s.P v):=by rw[List.getLast?_reverse];exact hhd
   have hpr:prs (v::cs).reverse=prs cs.reverse++[(dg s.P v,v)]:=by
    rw[List.reverse_cons];exact WayLaw.prs_snoc hlast v
   obtain⟨g1,g2⟩:=eg_leA hcl;refine⟨v::cs,Ch.more p0 hch,fun x hx=> ?_,List.nodup_cons.2 ⟨fun hx=> ?_,hnd⟩,rfl,?_,?_,?_⟩
   ·rcases List.mem_cons.1 hx with rfl|hx
    ·exact⟨⟨v0,v1⟩,Int.le_refl _⟩
    ·exact⟨(hb x hx).1,by have:=(hb x hx).2;omega⟩
   ·have:=(hb v hx).2;omega
   ·cases cs with
    |nil=>cases hhd
    |cons y ys=>rw[List.getLast?_cons_cons];exact hla
   ·rw[hpr,okP_snoc,hok,g1];rfl
   ·rw[hpr,sumP_snoc]
    show sumP l (prs cs.reverse)+(eg l (dg s.P v) v).1<=_
    omega
theorem AI.way (hI:AI N fr l h s V) (hg:NetLaw.Good N l) (hc:∀e∈l,1<=e.2.2) {v:Int} (v0:0<=v) (v1:v<N) (hf:dg s.C v<far) :
 ∃cs,Ch s.P v cs/\(∀x∈cs,0<=x/\x<N)/\cs.length<=64/\1<=cs.length/\cs.reverse.head?=some (fr:Int)/\cs.reverse.getLast?=some v/\(cost N l cs.reverse).2=0/\(cost N l cs.reverse).1<=dg s.C v:=by
 have hlo:=(hI.lo v v0 v1).1;obtain⟨cs,h1,h2,h3,h4,h5,h6,h7⟩:=hI.chain (fun e he=>⟨hc e he,(hg.cost e he).2⟩) (dg s.C v).toNat v v0 v1 hf (by omega);have hlen:cs.length<=64:=Nat.le_trans (nodup_lenI h3 (fun m hm=>(h2 m hm).1)) (by have:=hg.hi;omega);have h1l:1<=cs.length:=by cases cs with|nil=>cases h4|cons _ _=>simp
 have hz:(cost N l cs.reverse).2=0:=cost_zero.2 ⟨chk_zero.2 hg,by rw[List.length_reverse];omega,by rw[List.length_reverse];omega,by
  rw[List.any_eq_false];intro x hx;have:=(h2 x (List.mem_reverse.1 hx)).1;simp[outB];omega,h6⟩
 have hv:=cost_val (N:=(N:Int)) (l:=l) (p:=cs.reverse);rw[if_pos hz] at hv;exact⟨cs,h1,fun x hx=>(h2 x hx).1,hlen,h1l,by rw[List.head?_reverse];exact h5,by rw[List.getLast?_reverse];exact h4,hz,by rw[hv];exact h7⟩
def WG (N fr tt:Nat) (l:List E) (path:List Int) (co:Int):Prop:=(co=far/\path=[])\/(co<far/\cost N l path=(co,0)/\path.head?=some (fr:Int)/\path.getLast?=some (tt:Int)/\path.length<=64)
def lastD (s:AS):Int:=match s.rds.getLast? with|some r=>r.done|none=>0
def DoneOk (N:Nat):Int->List Rnd->Prop
 |_,[]=>True
 |a,r::rs=>a<=r.done/\r.done<=a+N/\DoneOk N r.done rs
theorem DoneOk.snoc {a:Int} {rs:List Rnd} {r:Rnd} (h:DoneOk N a rs) (h1:(match rs.getLast? with|some x=>x.done|none=>a)<=r.done) (h2:r.done<=(match rs.getLast? with|some x=>x.done|none=>a)+N):DoneOk N a (rs++[r]):=by
 induction rs generalizing a with
 |nil=>exact⟨h1,h2,trivial⟩
 |cons x rs ih =>
  obtain⟨k1,k2,k3⟩:=h;refine⟨k1,k2,ih k3 ?_ ?_⟩
  ·cases rs with
   |nil=>simpa using h1
   |cons y rs=>rw[List.getLast?_cons_cons] at h1;cases hl:(y::rs).getLast? with
    |none=>simp at hl
    |some z=>rw[hl] at h1;exact h1
  ·cases rs with
   |nil=>simpa using h2
   |cons y rs=>rw[List.getLast?_cons_cons] at h2;cases hl:(y::rs).getLast? with
    |none=>simp at hl
    |some z=>rw[hl] at h2;exact h2
structure RI (N fr tt:Nat) (l:List E) (ws:List (Int × Int)) (s:AS):Prop where
 len:s.rds.length<=ws.length
 run:s.rds.length<ws.length->s.sp=lastD s+s.dn.count true
 ld:0<=lastD s/\lastD s<=N*s.rds.length
 each:∀r∈s.rds,WG N fr tt l r.path r.cost/\∀d,Wk l fr tt d->d<far->r.cost<far/\r.den*r.cost<=r.num*d
 wts:s.rds.map (fun r=>(r.num,r.den))=ws.take s.rds.length
 mono:s.rds.Pairwise fun a b=>b.cost<=a.cost
 dns:DoneOk N 0 s.rds
def SI (N fr tt:Nat) (l:List E) (h:List Int) (ws:List (Int × Int)) (s:AS):Prop:=∃V,AI N fr l h s V/\(s.rds.length<ws.length->ClA N fr l h (cwt ws s).2 (cwt ws s).1 s V)/\RI N fr tt l ws s
theorem RI.sp_le (hR:RI N fr tt l ws s) (hd:s.dn.length=N) (hl:s.rds.length<ws.length) (hN:N<=64) (hw:ws.length<=8):s.sp<=1000:=by
 have h1:=hR.run hl;have h2:=hR.ld.2;have h3:s.dn.count true<=s.dn.length:=List.count_le_length;have h4:(N:Int)*s.rds.length<=64*8:=Int.mul_le_mul (by omega) (by omega) (by omega) (by omega);omega
theorem SI.told_ (hS:SI N fr tt l h ws s) (hC:HeurLaw.Cons N tt l h) (hg:NetLaw.Good N l) (hc:∀e∈l,1<=e.2.2) (hfr:fr<N) (htt:tt<N) (hwl:ws.length<=8) (hws:∀w∈ws,1<=w.2/\w.2<=w.1) (hl:s.rds.length<ws.length) (hf:Fin N tt (cwt ws s) h s) {w:List Int × Int} (hb:BestA N tt l s w) :
 RI N fr tt l ws { told ws w s with dn:=List.replicate s.dn.length false }/\(s.rds.length+1=ws.length->RI N fr tt l ws (told ws w s))/\(∃V,AI N fr l h (told ws w s) V/\AI N fr l h (again (told ws w s)) V):=by
 obtain⟨V,hI,hcl,hR⟩:=hS;have hcl:=hcl hl;have hN:=hg.hi;have hcs:∀e∈l,1<=e.2.2/\e.2.2<=10000:=fun e he=>⟨hc e he,(hg.cost e he).2⟩;have hsp:=hR.sp_le hI.lenD hl (by omega) hwl;have hcw:cwt ws s=ws[s.rds.length]:=by unfold cwt;rw[List.getD_eq_getElem?_getD,List.getElem?_eq_getElem hl];rfl
 obtain⟨hq1,hqp⟩:=hws (cwt ws s) (by rw[hcw];exact List.getElem_mem hl)
 have hin:∀d,Wk l fr tt d->d<far->dg s.C tt<far/\(cwt ws s).2*dg s.C tt<=(cwt ws s).1*d:=fun d hw hd=>by
  have hz:=hC.zero;rcases hf with hn|⟨v,hv,hne,hk⟩
  ·have h1:=hI.within hcl hC hg.ends hcs hfr (by omega) hq1 hqp (v:=(tt:Int)) (by omega) (by omega) (fun u hu=>absurd hu (hn u)) d hw (by omega)
   obtain⟨_,h2⟩:=hI.front hcl hC hg.ends hcs hfr (by omega) hq1 hqp hw (by omega);rcases h2 with ⟨h2,_⟩|⟨u,hu,_⟩
   ·exact⟨h2,h1⟩
   ·exact absurd hu (hn u)
  ·have hlo:=(hI.lo tt (by omega) (by omega)).2
   refine⟨by omega,hI.within hcl hC hg.ends hcs hfr (by omega) hq1 hqp (v:=(tt:Int)) (by omega) (by omega) (fun u hu=> ?_) d hw (by omega)⟩;have h1:=StarLaw.lt3_no.1 (hv.2 u hu);have h2:(kyA (cwt ws s) h s v).1<=(kyA (cwt ws s) h s u).1:=by simp only[kyA] at h1 ⊢;omega
   have h3:(kyA (cwt ws s) h s tt).1<=(kyA (cwt ws s) h s v).1:=by omega
   exact Int.le_trans h3 h2
 have hprev:WG N fr tt l (prevW s).1 (prevW s).2/\(∀r∈s.rds,(prevW s).2<=r.cost):=by
  unfold prevW;cases hgl:s.rds.getLast? with
  |none =>
   have:s.rds=[]:=List.getLast?_eq_none_iff.1 hgl;exact⟨.inl ⟨rfl,rfl⟩,fun r hr=>by rw[this] at hr;cases hr⟩
  |some r =>
   obtain⟨rs,hrs⟩:=List.getLast?_eq_some_iff.1 hgl;refine⟨(hR.each r (List.mem_of_getLast? hgl)).1,fun x hx=> ?_⟩;have hm:=hR.mono;rw[hrs,List.pairwise_append] at hm;rw[hrs] at hx;rcases List.mem_append.1 hx with hx|hx
   ·exact hm.2.2 x hx r (by simp)
   ·rw[List.mem_singleton] at hx;subst hx;exact Int.le_refl _
 have hwg:WG N fr tt l w.1 w.2/\w.2<=(prevW s).2/\∀d,Wk l fr tt d->d<far->w.2<far/\(cwt ws s).2*w.2<=(cwt ws s).1*d:=by
  rcases hb with ⟨h1,rfl⟩|⟨h1,cs,h2,rfl⟩
  ·exact⟨hprev.1,Int.le_refl _,fun d hw hd=>absurd (hin d hw hd).1 h1⟩
  ·obtain⟨cs',k1,k2,k3,k4,k5,k6,k7,k8⟩:=hI.way hg hc (v:=(tt:Int)) (by omega) (by omega) h1
   obtain rfl:=h2.unique k1;split
   ·rename_i hlt
    refine⟨.inr ⟨by omega,Prod.ext rfl k7,k5,k6,by rw[List.length_reverse];exact k3⟩,by simp only;omega,fun d hw hd=> ?_⟩;have h3:=(hin d hw hd).2;have h4:=Int.mul_le_mul_of_nonneg_left k8 (show 0<=(cwt ws s).2 by omega);exact⟨by simp only;omega,by simp only;omega⟩
   ·rename_i hlt
    refine⟨hprev.1,Int.le_refl _,fun d hw hd=> ?_⟩;have h3:=(hin d hw hd).2;have h4:=Int.mul_le_mul_of_nonneg_left (show (prevW s).2<=dg s.C tt by omega) (show 0<=(cwt ws s).2 by omega);exact⟨by omega,by omega⟩
 have hrun:=hR.run hl;have hcnt:s.dn.count true<=N:=by rw[<-hI.lenD];exact List.count_le_length
 have hld:lastD (told ws w s)=s.sp:=by unfold lastD told;simp
 have hwts:(s.rds++[(⟨(cwt ws s).1,(cwt ws s).2,w.1,w.2,s.sp⟩:Rnd)]).map (fun r=>(r.num,r.den))=ws.take (s.rds.length+1):=by
  rw[List.map_append,hR.wts,List.take_succ_eq_append_getElem hl, <-hcw]
  rfl
 have common:∀s2:AS,s2.rds=(told ws w s).rds->s2.sp=s.sp->(s2.rds.length<ws.length->s2.sp=lastD s2+s2.dn.count true)->RI N fr tt l ws s2:=fun s2 e1 e2 e3=>by
  have el:s2.rds.length=s.rds.length+1:=by rw[e1];simp[told]
  have eld:lastD s2=s.sp:=by unfold lastD;rw[e1];exact hld
  refine⟨by omega,e3,?_,?_,?_,?_,?_⟩
  ·rw[eld,el]
   have h2:=hR.ld;have h4:(N:Int)*((s.rds.length+1:Nat):Int)=N*s.rds.length+N:=by rw[Int.natCast_add,Int.mul_add];omega
   omega
  ·rw[e1]
   intro r hr;rcases List.mem_append.1 hr with hr|hr
   ·exact hR.each r hr
   ·rw[List.mem_singleton] at hr
    subst hr;exact⟨hwg.1,hwg.2.2⟩
  ·rw[el,e1];exact hwts
  ·rw[e1]
   show (s.rds++[_]).Pairwise _
   rw[List.pairwise_append];refine⟨hR.mono,by simp,fun a ha b hb=> ?_⟩;rw[List.mem_singleton] at hb;subst hb;have:=hprev.2 a ha;have:=hwg.2.1;simp only;omega
  ·rw[e1]
   refine hR.dns.snoc ?_ ?_
   ·show lastD s<=s.sp
    omega
   ·show s.sp<=lastD s+N
    omega
 refine⟨common _ rfl rfl (fun _=> ?_),fun he=>common _ rfl rfl (fun hlt=> ?_),V,⟨hI.lenC,hI.lenP,hI.lenD,hI.sp0,hI.lo,hI.live,hI.wk,hI.root,hI.rootP,hI.tree,hI.opn,hI.ltn,hI.dnV,hI.rest,hI.bd⟩,⟨hI.lenC,hI.lenP,by simp[again,told,hI.lenD],hI.sp0,hI.lo,hI.live,hI.wk,hI.root,hI.rootP,hI.tree,fun v v0 v1 ho=> ?_,fun v v0 v1 hl=>(by cases hl),fun v v0 v1 hd=> ?_,fun v v0 v1 hvf ho _ e he hev hh=> ?_,hI.bd⟩⟩
 ·show s.sp=lastD (told ws w s)+((List.replicate s.dn.length false).count true:Nat)
  rw[hld,List.count_replicate];simp
 ·exfalso
  have:(told ws w s).rds.length=s.rds.length+1:=by simp[told]
  omega
 ·refine⟨?_,db_rep _ _⟩
  have ho':(s.op v || s.lt v)=true:=ho;rw[Bool.or_eq_true] at ho';rcases ho' with h1|h1
  ·exact(hI.opn v v0 v1 h1).1
  ·exact(hI.ltn v v0 v1 h1).1
 ·have hd':db (List.replicate s.dn.length false) v=true:=hd
  rw[db_rep] at hd';cases hd'
 ·have ho':(s.op v || s.lt v)=false:=ho
  rw[Bool.or_eq_false_iff] at ho';cases hd:db s.dn v with
  |true =>
   obtain⟨_,_,k3,k4⟩:=hI.dnV v v0 v1 hd;have:=k3 e he hev hh;rw[k4 ho'.2] at this;exact this
  |false=>exact hI.rest v v0 v1 hvf ho'.1 hd e he hev hh
theorem Stl.keep (hC:HeurLaw.Cons N tt l h) (hg:NetLaw.Good N l) (hc:∀e∈l,1<=e.2.2) (hfr:fr<N) (htt:tt<N) (hwl:ws.length<=8) (hws:∀w∈ws,1<=w.2/\w.2<=w.1) {a:AS} (h1:Stl N tt l h ws s a) (hS:SI N fr tt l h ws s):SI N fr tt l h ws a:=by
 induction h1 with
 |over _=>exact hS
 |wait _ _=>exact hS
 | @last s w e hf hb =>
   obtain⟨_,h2,V,h3,_⟩:=SI.told_ hS hC hg hc hfr htt hwl hws (by omega) hf hb;refine⟨V,h3,fun hl=> ?_,h2 e⟩
   exfalso
   have:(told ws w s).rds.length=s.rds.length+1:=by simp[told]
   omega
 | @next s s' w e hf hb _ ih =>
   obtain⟨h2,_,V,_,h4⟩:=SI.told_ hS hC hg hc hfr htt hwl hws (by omega) hf hb;refine ih ⟨V,h4,fun _ v v0 v1 hd=> ?_,⟨h2.len,h2.run,h2.ld,h2.each,h2.wts,h2.mono,h2.dns⟩⟩;have hd':db (List.replicate s.dn.length false) v=true:=hd;rw[db_rep] at hd';cases hd'
end
end AraLaw
namespace AraLaw
open NetLaw BellLaw StarLaw WalkLaw
section
variable {N fr tt:Nat} {l:List E} {h:List Int} {ws:List (Int × Int)}
theorem count_set {dn:List Bool} {i:Nat} (hi:i<dn.length) (hf:dn[i]=false):(dn.set i true).count true=dn.count true+1:=by
 induction dn generalizing i with
 |nil=>simp at hi
 |cons b dn ih =>
  cases i with
  |zero =>
   simp only[zzC] at hf;subst hf;simp
  |succ i =>
   simp only[zzB] at hf;rw[List.set_cons_succ,List.count_cons,List.count_cons,ih (by simpa using hi) hf];omega
theorem ai_init (hC:HeurLaw.Cons N tt l h) (hfr:fr<N):AI N fr l h (init N h fr) (fun _=>0):=by
 have hrC:∀v:Int,0<=v->v<N->dg (List.replicate N far) v=far:=fun v v0 v1=>rep_dg v0 v1;have hrP:∀v:Int,0<=v->v<N->dg (List.replicate N (-1)) v= -1:=fun v v0 v1=>rep_dg v0 v1;unfold init reach1
 by_cases hc:(0:Int)<dg (List.replicate N far) fr/\dg h fr≠far
 ·rw[if_pos hc]
  have hs:∀v:Int,0<=v->v<N->dg ((List.replicate N far).set (fr:Int).toNat 0) v=if v=fr then 0 else far:=fun v v0 v1=>by
   rw[dg_set (by omega) (by simp;omega) v0,hrC v v0 v1]
  have hp:∀v:Int,0<=v->v<N->dg ((List.replicate N (-1)).set (fr:Int).toNat (-1)) v= -1:=fun v v0 v1=>by
   rw[dg_set (by omega) (by simp;omega) v0,hrP v v0 v1];split <;> rfl
  have hlt:∀v:Int,0<=v->v<N->dg ((List.replicate N far).set (fr:Int).toNat 0) v<far->v=fr:=fun v v0 v1 hv=>by
   rw[hs v v0 v1] at hv;split at hv
   ·assumption
   ·omega
  refine⟨by simp,by simp,by simp,Int.le_refl _,fun v v0 v1=> ?_,fun v v0 v1 hv=> ?_,fun v v0 v1 hv=> ?_,fun _=> ?_,?_,fun v v0 v1 hv hne=>absurd (hlt v v0 v1 hv) hne,fun v v0 v1 ho=> ?_,fun v v0 v1 hl=> ?_,fun v v0 v1 hd=> ?_,fun v v0 v1 hv ho hd e he hev hh=> ?_,fun v v0 v1 hv=> ?_⟩
  ·show 0<=dg ((List.replicate N far).set (fr:Int).toNat 0) v/\_<=far
   rw[hs v v0 v1];split <;> (unfold far;omega)
  ·rw[hlt v v0 v1 hv];exact hc.2
  ·have e:=hlt v v0 v1 hv
   subst e
   show Wk l fr fr (dg ((List.replicate N far).set (fr:Int).toNat 0) fr)
   rw[hs fr v0 v1,if_pos rfl];exact Wk.here
  ·show dg ((List.replicate N far).set (fr:Int).toNat 0) fr=0
   rw[hs fr (by omega) (by omega),if_pos rfl]
  ·exact hp fr (by omega) (by omega)
  ·have ho':up (fun _=>false) (fr:Int) true v=true:=by
    have:(if db (List.replicate N false) (fr:Int)=true then (fun _=>false) else up (fun _=>false) (fr:Int) true) v=true:=ho;rw[db_rep,if_neg (by decide)] at this;exact this
   unfold up at ho';split at ho'
   ·rename_i e
    subst e;refine⟨?_,db_rep _ _⟩
    show dg ((List.replicate N far).set (fr:Int).toNat 0) fr<far
    rw[hs fr v0 v1,if_pos rfl]
    decide
   ·cases ho'
  ·have:(if db (List.replicate N false) (fr:Int)=true then up (fun _=>false) (fr:Int) true else (fun _=>false)) v=true:=hl
   rw[db_rep,if_neg (by decide)] at this;cases this
  ·have:db (List.replicate N false) v=true:=hd
   rw[db_rep] at this;cases this
  ·exfalso
   have e:=hlt v v0 v1 hv;subst e;have:(if db (List.replicate N false) (fr:Int)=true then (fun _=>false) else up (fun _=>false) (fr:Int) true) fr=false:=ho;rw[db_rep,if_neg (by decide)] at this;simp[up] at this
  ·have e:=hlt v v0 v1 hv
   subst e
   show dg ((List.replicate N far).set (fr:Int).toNat 0) fr<=10000*0
   rw[hs fr v0 v1,if_pos rfl]
   decide
 ·rw[if_neg hc]
  have hz:dg h fr=far:=by
   rw[hrC fr (by omega) (by omega)] at hc
   by_cases e:dg h fr=far
   ·exact e
   ·exact absurd ⟨by decide,e⟩ hc
  have hno:∀v:Int,0<=v->v<N->¬dg (List.replicate N far) v<far:=fun v v0 v1 hv=>by rw[hrC v v0 v1] at hv;omega
  refine⟨by simp,by simp,by simp,Int.le_refl _,fun v v0 v1=> ?_,fun v v0 v1 hv=>absurd hv (hno v v0 v1),fun v v0 v1 hv=>absurd hv (hno v v0 v1),fun hh=>absurd hz hh,hrP fr (by omega) (by omega),fun v v0 v1 hv=>absurd hv (hno v v0 v1),fun v v0 v1 ho=>(by cases ho),fun v v0 v1 hl=>(by cases hl),fun v v0 v1 hd=> ?_,fun v v0 v1 hv=>absurd hv (hno v v0 v1),fun v v0 v1 hv=>absurd hv (hno v v0 v1)⟩
  ·show 0<=dg (List.replicate N far) v/\_
   rw[hrC v v0 v1]
   decide
  ·have:db (List.replicate N false) v=true:=hd
   rw[db_rep] at this;cases this
theorem si_init (hC:HeurLaw.Cons N tt l h) (hfr:fr<N):SI N fr tt l h ws (init N h fr):=by
 have hr:=reach1_rds h fr 0 (-1) ⟨List.replicate N far,List.replicate N (-1),List.replicate N false,fun _=>false,fun _=>false,0,[]⟩;have e1:(init N h fr).rds=[]:=hr.1;have e2:(init N h fr).sp=0:=hr.2.1;have e3:(init N h fr).dn=List.replicate N false:=hr.2.2;refine⟨_,ai_init hC hfr,fun _ v v0 v1 hd=> ?_,?_⟩
 ·rw[e3,db_rep] at hd
  cases hd
 ·refine⟨by rw[e1];simp,fun _=> ?_,?_,?_,?_,?_,?_⟩
  ·rw[e2,e3]
   unfold lastD;rw[e1,List.count_replicate];simp
  ·unfold lastD;rw[e1];simp
  ·rw[e1];intro r hr;cases hr
  ·rw[e1];simp
  ·rw[e1];exact List.Pairwise.nil
  ·rw[e1];trivial
theorem SI.look_ {s:AS} {v:Int} (hS:SI N fr tt l h ws s) (hC:HeurLaw.Cons N tt l h) (hg:NetLaw.Good N l) (hc:∀e∈l,1<=e.2.2) (hfr:fr<N) (hwl:ws.length<=8) (hws:∀w∈ws,1<=w.2/\w.2<=w.1) (hl:s.rds.length<ws.length) (hv:NxA N (cwt ws s) h s v):SI N fr tt l h ws (expand l h v s):=by
 obtain⟨V,hI,hcl,hR⟩:=hS;have hcl:=hcl hl;have hN:=hg.hi;have hcs:∀e∈l,1<=e.2.2/\e.2.2<=10000:=fun e he=>⟨hc e he,(hg.cost e he).2⟩;have hsp:=hR.sp_le hI.lenD hl (by omega) hwl;have hcw:cwt ws s=ws[s.rds.length]:=by unfold cwt;rw[List.getD_eq_getElem?_getD,List.getElem?_eq_getElem hl];rfl
 obtain⟨hq1,hqp⟩:=hws (cwt ws s) (by rw[hcw];exact List.getElem_mem hl);obtain⟨r1,r2,r3⟩:=expand_rds l h v s;have v0:=hv.1.1.1;have v1:=hv.1.1.2;have hvd:=(hI.opn v v0 v1 hv.1.2).2;refine⟨_,hI.look_ hg.ends hcs hfr hv.1 (by omega),fun _ u u0 u1 hd d hw hlt=> ?_,?_⟩
 ·have hcw2:cwt ws (expand l h v s)=cwt ws s:=by unfold cwt;rw[r1]
  rw[hcw2];rw[r3,db_set v0 (by rw[hI.lenD];exact v1) u0] at hd
  by_cases e:u=v
  ·subst e
   simp only[if_pos rfl]
   exact hI.within hcl hC hg.ends hcs hfr (by omega) hq1 hqp v0 v1 (fun x hx=>by
    have h1:=StarLaw.lt3_no.1 (hv.2 x hx);simp only[kyA] at h1 ⊢;omega) d hw hlt
  ·rw[if_neg e] at hd
   simp only[if_neg e];exact hcl u u0 u1 hd d hw hlt
 ·have hld:lastD (expand l h v s)=lastD s:=by unfold lastD;rw[r1]
  refine⟨by rw[r1];exact hR.len,fun _=> ?_,by rw[hld,r1];exact hR.ld,by rw[r1];exact hR.each,by rw[r1];exact hR.wts,by rw[r1];exact hR.mono,by rw[r1];exact hR.dns⟩;have hi:v.toNat<s.dn.length:=by rw[hI.lenD];omega
  have hf:s.dn[v.toNat]=false:=by
   unfold db at hvd;rw[List.getD_eq_getElem?_getD,List.getElem?_eq_getElem hi] at hvd;exact hvd
  rw[r2,r3,hld,count_set hi hf];have:=hR.run hl;omega
theorem Rn.si (hC:HeurLaw.Cons N tt l h) (hg:NetLaw.Good N l) (hc:∀e∈l,1<=e.2.2) (hfr:fr<N) (htt:tt<N) (hwl:ws.length<=8) (hws:∀w∈ws,1<=w.2/\w.2<=w.1) {k:Nat} {s:AS} (hr:Rn N tt l h ws fr k s):SI N fr tt l h ws s:=by
 induction hr with
 |start a=>exact a.keep hC hg hc hfr htt hwl hws (si_init hC hfr)
 |step _ hl hv hs ih=>exact hs.keep hC hg hc hfr htt hwl hws (ih.look_ hC hg hc hfr hwl hws hl hv)
theorem Rn.short (hC:HeurLaw.Cons N tt l h) (hg:NetLaw.Good N l) (hc:∀e∈l,1<=e.2.2) (hfr:fr<N) (htt:tt<N) (hwl:ws.length<=8) (hws:∀w∈ws,1<=w.2/\w.2<=w.1) {k:Nat} {s:AS} (hr:Rn N tt l h ws fr k s) (hl:s.rds.length<ws.length):k<=1000:=by
 obtain⟨V,hI,_,hR⟩:=hr.si hC hg hc hfr htt hwl hws;have h1:=hR.sp_le hI.lenD hl (by have:=hg.hi;omega) hwl;have h2:=hr.sp;omega
end
end AraLaw
namespace Ara
open Go.RowKit NetLaw BellLaw StarLaw AraLaw Net Go.Proofs.YtjebckehmmbkbaaGreat.Std Flow
open Heap (Kp Kp.refl Kp.below Kp.alloc Kp.drew Kp.setCell Kp.grown Kp.to fnOf)
open HeapP (HeapAt d0 ltP ltP_ord)
def ob (A:Option Addr):Option Nat:=(Value.slice A 0 0).ownBlock
theorem ob_ (A:Option Addr) (n c:Nat):(Value.slice A n c).ownBlock=ob A:=by cases A <;> rfl
structure RE where
 num:Int
 den:Int
 A:Option Addr
 k:Nat
 c:Nat
 cost:Int
 done:Int
 path:List Int
def cr (x:RE) (j:Nat):Value:=match j with|0=> .int .i64 x.num|1=> .int .i64 x.den|2=> .slice x.A x.k x.c|3=> .int .i64 x.cost|_=> .int .i64 x.done
theorem one_cr (x:RE) (j:Nat):(cr x j).oneCell'=true:=by unfold cr;split <;> rfl
def RE.rnd (x:RE):Rnd:=⟨x.num,x.den,x.path,x.cost,x.done⟩
structure Fix where
 n:Nat
 tt:Nat
 l:List E
 h:List Int
 ws:List (Int × Int)
 AE:Option Addr
 cE:Nat
 TO:Nat
 FO:Nat->Option Addr × Nat
 AH:Option Addr
 cH:Nat
 AW:Option Addr
 cW:Nat
 SC:Nat
 SP:Nat
 SD:Nat
 H:Nat
structure Var where
 AL:Option Addr
 kl:Nat
 cl:Nat
 LT:List Int
 Ah:Option Addr
 m:Nat
 ch:Nat
 L:List HeapP.Pop
 AR:Option Addr
 kr:Nat
 cr:Nat
 RS:List RE
structure AM (b:Nat) (w:World) (P:Nat) (F:Fix) (Y:Var) (s:AS):Prop where
 z:w.heap[P]?=some (.cells #[.int .i64 F.n,.slice F.AE F.l.length F.cE,.slice (some ⟨F.TO,0,none⟩) F.n F.n,.int .i64 F.tt,.slice F.AH F.n F.cH,.slice F.AW F.ws.length F.cW,.slice (some ⟨F.SC,0,none⟩) F.n F.n,.slice (some ⟨F.SP,0,none⟩) F.n F.n,.slice (some ⟨F.SD,0,none⟩) F.n F.n,.slice Y.AL Y.kl Y.cl,.pointer (some ⟨F.H,0,none⟩),.int .i64 s.sp,.slice Y.AR Y.kr Y.cr] 98 (0,0))
 zl:b<=P
 net:Own w b 70 3 ce (.slice F.AE F.l.length F.cE) F.l
 tab:Tab w b F.TO F.n F.FO (ol F.l F.l.length)
 hh:Own w b 3 1 ci (.slice F.AH F.n F.cH) F.h
 wt:Own w b 43 2 cp (.slice F.AW F.ws.length F.cW) F.ws
 cost:Own w b 3 1 ci (.slice (some ⟨F.SC,0,none⟩) F.n F.n) s.C
 pred:Own w b 3 1 ci (.slice (some ⟨F.SP,0,none⟩) F.n F.n) s.P
 done:Own w b 4 1 cb (.slice (some ⟨F.SD,0,none⟩) F.n F.n) s.dn
 late:Own w b 3 1 ci (.slice Y.AL Y.kl Y.cl) Y.LT
 heap:HeapAt w b F.H (fnOf 67) Y.Ah Y.m Y.ch Y.L
 hp:HeapLaw.Hp d0 ltP Y.L
 rows:Own w b 51 5 Ara.cr (.slice Y.AR Y.kr Y.cr) Y.RS
 ways:∀x∈Y.RS,Own w b 3 1 ci (.slice x.A x.k x.c) x.path
 rds:Y.RS.map RE.rnd=s.rds
 lenC:s.C.length=F.n
 lenP:s.P.length=F.n
 lenD:s.dn.length=F.n
 lenH:F.h.length=F.n
 lenL:Y.LT.length=Y.kl
 lenR:Y.RS.length=Y.kr
 neCP:F.SC≠F.SP
 neH:ob F.AH≠some F.SC/\ob F.AH≠some F.SP
 neO:∀v,v<F.n->ob (F.FO v).1≠some F.SC/\ob (F.FO v).1≠some F.SP
 neL:∀g,ob Y.AL=some g->g≠F.SC/\g≠F.SP/\ob F.AH≠some g/\(∀v,v<F.n->ob (F.FO v).1≠some g)/\∀x∈Y.RS,ob x.A≠some g
 neW:∀x∈Y.RS,ob x.A≠some F.SC/\ob x.A≠some F.SP
def Mut (P:Nat) (F:Fix) (Y:Var) (g:Nat):Prop:=g=P\/g=F.SC\/g=F.SP\/g=F.SD\/g=F.H\/ob Y.Ah=some g\/ob Y.AL=some g\/ob Y.AR=some g
structure Fr (P:Nat) (F:Fix) (Y Y':Var) (w w':World):Prop where
 os:w'.os=w.os
 tape:w'.tape=w.tape
 output:w'.output=w.output
 size:w.heap.size<=w'.heap.size
 block:∀g,g<w.heap.size->¬Mut P F Y g->w'.heap[g]?=w.heap[g]?
 new:∀g,Mut P F Y' g->Mut P F Y g\/w.heap.size<=g
 ways:∀x∈Y'.RS,x∈Y.RS\/∀g,ob x.A=some g->w.heap.size<=g
section
variable {b:Nat} {w w' w'':World} {P:Nat} {F:Fix} {Y Y' Y'':Var} {s:AS}
theorem Fr.refl (P:Nat) (F:Fix) (Y:Var) (w:World):Fr P F Y Y w w:=⟨rfl,rfl,rfl,Nat.le_refl _,fun _ _ _=>rfl,fun _ h=> .inl h,fun _ h=> .inl h⟩
theorem Fr.trans (h:Fr P F Y Y' w w') (h':Fr P F Y' Y'' w' w''):Fr P F Y Y'' w w'' :=
 ⟨h'.os.trans h.os,h'.tape.trans h.tape,h'.output.trans h.output,Nat.le_trans h.size h'.size,
  fun g hg hn=>(h'.block g (Nat.lt_of_lt_of_le hg h.size) (fun hm=>(h.new g hm).elim hn (fun hl=>by omega))).trans (h.block g hg hn),
  fun g hm=>(h'.new g hm).elim (fun hm=>h.new g hm) (fun hl=> .inr (Nat.le_trans h.size hl)),
  fun x hx=>(h'.ways x hx).elim (fun hx=>h.ways x hx) (fun hn=> .inr fun g hg=>Nat.le_trans h.size (hn g hg))⟩
theorem Fr.below (h:Fr P F Y Y' w w') (hb:Below w'.heap.size w' w''):Fr P F Y Y' w w'' :=
 ⟨hb.os.trans h.os,hb.tape.trans h.tape,hb.output.trans h.output,Nat.le_trans h.size hb.size,fun g hg hn=>(hb.block g (Nat.lt_of_lt_of_le hg h.size)).trans (h.block g hg hn),h.new,h.ways⟩
theorem Fr.drewN (h:Fr P F Y Y' w w') (k:Nat):Fr P F Y Y' w (w'.drewN k):=h.below (below_drewN (Below.refl _ _) k)
theorem Fr.drew (h:Fr P F Y Y' w w'):Fr P F Y Y' w w'.drew:=h.drewN 1
theorem Fr.set (h:Fr P F Y Y' w w') {p:Addr} (hp:Mut P F Y p.block\/w.heap.size<=p.block) (u:Value):Fr P F Y Y' w (w'.setCell p u) :=
 ⟨h.os,h.tape,h.output,by have:=h.size;simpa [World.setCell] using this,fun g hg hn=>(Below.heap_setCell _ _ _ _ (fun e=>by
   rcases hp with hp|hp
   ·exact hn (e ▸ hp)
   ·omega)).trans (h.block g hg hn),h.new,h.ways⟩
theorem Fr.of (hb:Below w.heap.size w w'):Fr P F Y Y w w':=(Fr.refl P F Y w).below hb
theorem AM.keep (h:AM b w P F Y s) (hb:Below w.heap.size w w'):AM b w' P F Y s :=
 ⟨blk_below h.z hb (lt_of_block h.z),h.zl,h.net.keep hb,h.tab.keep hb,h.hh.keep hb,h.wt.keep hb,h.cost.keep hb,h.pred.keep hb,h.done.keep hb,h.late.keep hb,h.heap.keep hb,h.hp,h.rows.keep hb,fun x hx=>(h.ways x hx).keep hb,h.rds,h.lenC,h.lenP,h.lenD,h.lenH,h.lenL,h.lenR,h.neCP,h.neH,h.neO,h.neL,h.neW⟩
theorem AM.size (h:AM b w P F Y s):b<=w.heap.size:=Nat.le_trans h.zl (Nat.le_of_lt (lt_of_block h.z))
theorem AM.mut (h:AM b w P F Y s) {g:Nat} (hm:Mut P F Y g):b<=g/\g<w.heap.size:=by
 rcases hm with rfl|rfl|rfl|rfl|rfl|hm|hm|hm
 ·exact⟨h.zl,lt_of_block h.z⟩
 ·exact h.cost.base_ _ rfl
 ·exact h.pred.base_ _ rfl
 ·exact h.done.base_ _ rfl
 ·exact⟨h.heap.hb,h.heap.lt⟩
 ·exact h.heap.own.base_ _ ((ob_ ..).trans hm)
 ·exact h.late.base_ _ ((ob_ ..).trans hm)
 ·exact h.rows.base_ _ ((ob_ ..).trans hm)
theorem AM.lo (h:AM b w P F Y s) (hf:Fr P F Y Y' w w'):Below b w w' :=
 ⟨hf.os,hf.tape,hf.output,hf.size,fun g hg=>hf.block g (Nat.lt_of_lt_of_le hg h.size) (fun hm=>by have:=(h.mut hm).1;omega)⟩
end
end Ara
namespace Ara
open Go.RowKit NetLaw BellLaw StarLaw AraLaw Net Go.Proofs.YtjebckehmmbkbaaGreat.Std Flow
open Heap (Kp Kp.refl Kp.below Kp.alloc Kp.drew Kp.setCell Kp.grown Kp.to fnOf)
open HeapP (HeapAt d0 ltP ltP_ord)
def WOk (w:Int × Int):Prop:=(1<=w.2/\w.2<=1000000)/\1<=w.1/\w.1<=1000000
section
variable {b:Nat} {w w':World} {P:Nat} {F:Fix} {Y:Var} {s:AS}
theorem AM.kr_ (h:AM b w P F Y s):Y.kr=s.rds.length:=by rw[<-h.lenR, <-h.rds,List.length_map]
theorem AM.zs (h:AM b w P F Y s):(w.cell? ⟨P,0,none⟩=some (.int .i64 F.n)/\w.cell? ⟨P,1,none⟩=some (.slice F.AE F.l.length F.cE)/\w.cell? ⟨P,2,none⟩=some (.slice (some ⟨F.TO,0,none⟩) F.n F.n)/\w.cell? ⟨P,3,none⟩=some (.int .i64 F.tt)/\w.cell? ⟨P,4,none⟩=some (.slice F.AH F.n F.cH)/\w.cell? ⟨P,5,none⟩=some (.slice F.AW F.ws.length F.cW))/\(w.cell? ⟨P,6,none⟩=some (.slice (some ⟨F.SC,0,none⟩) F.n F.n)/\w.cell? ⟨P,7,none⟩=some (.slice (some ⟨F.SP,0,none⟩) F.n F.n)/\w.cell? ⟨P,8,none⟩=some (.slice (some ⟨F.SD,0,none⟩) F.n F.n)/\w.cell? ⟨P,9,none⟩=some (.slice Y.AL Y.kl Y.cl)/\w.cell? ⟨P,10,none⟩=some (.pointer (some ⟨F.H,0,none⟩))/\w.cell? ⟨P,11,none⟩=some (.int .i64 s.sp)/\w.cell? ⟨P,12,none⟩=some (.slice Y.AR Y.kr Y.cr))/\P<w.heap.size:=by
 refine⟨⟨?_,?_,?_,?_,?_,?_⟩,⟨?_,?_,?_,?_,?_,?_,?_⟩,lt_of_block h.z⟩ <;> (rw[blk_cell h.z];rfl)
theorem AM.cells (h:AM b w P F Y s) {v:Nat} (hv:v<F.n):∃bh oh,F.AH=some ⟨bh,oh,none⟩/\bh<w.heap.size/\F.SC<w.heap.size/\w.cell? ⟨F.SC,v,none⟩=some (.int .i64 (dg s.C v))/\w.cell? ⟨bh,oh+v,none⟩=some (.int .i64 (dg F.h v)):=by
 obtain⟨c1,_⟩:=own_at1 h.lenC h.cost hv;obtain⟨bh,oh,hA,hb,hc⟩:=h.hh.sl.2.atI (k:=v) (by rw[h.lenH];exact hv);refine⟨bh,oh,hA,hb,(h.cost.base_ F.SC rfl).2,?_,?_⟩
 ·rw[c1];unfold dg;rw[Int.toNat_natCast]
 ·rw[hc];unfold dg;rw[Int.toNat_natCast,List.getD_eq_getElem?_getD,List.getElem?_eq_getElem (by rw[h.lenH];exact hv)];rfl
theorem AM.weight (h:AM b w P F Y s) (hr:s.rds.length<F.ws.length):∃bw ow,F.AW=some ⟨bw,ow,none⟩/\bw<w.heap.size/\w.cell? ⟨bw,ow+s.rds.length*2,none⟩=some (.int .i64 (cwt F.ws s).1)/\w.cell? ⟨bw,ow+s.rds.length*2+1,none⟩=some (.int .i64 (cwt F.ws s).2):=by
 have hc:cwt F.ws s=F.ws[s.rds.length]:=by unfold cwt;rw[List.getD_eq_getElem?_getD,List.getElem?_eq_getElem hr];rfl
 obtain⟨b,off,hA,hB,hcc⟩:=h.wt.sl.2 (by omega);rw[hc];exact⟨b,off,hA,hB,hcc _ hr 0 (by omega),hcc _ hr 1 (by omega)⟩
theorem isover_any (h:AM b w P F Y s):Calls Tryz.prog 41 #[.pointer (some ⟨P,0,none⟩)] w fun e w'=>e= .returned (.bool (decide (s.rds.length=F.ws.length)))/\∃k,w'=w.drewN k:=by
 obtain⟨⟨_,_,_,_,_,z5⟩,⟨_,_,_,_,_,_,z12⟩,zp⟩:=h.zs;have hk:=h.kr_;rw[hk] at z12;clear h hk;generalize s.rds.length=k at *;go_enter Tryz.func41,Tryz.ntmps41;go_upto_region 1 with fail;go_quiet (fail);go_wp2;go_ret
 have hd:((k:Int) == (F.ws.length:Int))=decide (k=F.ws.length):=by
  by_cases hx:k=F.ws.length
  ·rw[hx];simp
  ·have:(k:Int)≠(F.ws.length:Int):=by omega
   simp[hx,this]
 exact⟨by rw[<-hd];rfl,nq,rfl⟩
theorem wkey_any (p q:Int) (w:World):Calls Tryz.prog 36 #[.agg #[.int .i64 p,.int .i64 q]] w fun e w'=>e= .returned (.func (.func 73) #[] #[.pointer (some ⟨w.heap.size,0,none⟩)])/\w'=w.alloc (.cells #[.int .i64 p,.int .i64 q] 43):=by
 go_enter Tryz.func36,Tryz.ntmps36;go_wp2;go_ret;exact⟨rfl,rfl⟩
theorem wkey_b (p q:Int) (w:World):Calls Tryz.prog 36 #[.agg #[.int .i64 p,.int .i64 q]] w fun e w'=>∃B,e= .returned (.func (.func 73) #[] #[.pointer (some ⟨B,0,none⟩)])/\Below w.heap.size w w'/\w'.cell? ⟨B,0,none⟩=some (.int .i64 p)/\w'.cell? ⟨B,1,none⟩=some (.int .i64 q):=by
 refine(wkey_any p q w).mono ?_;rintro e w' ⟨rfl,rfl⟩;exact⟨_,rfl,(Below.refl _ _).alloc zzL _,blk_cell (heap_alloc_new w _) 0,blk_cell (heap_alloc_new w _) 1⟩
theorem kfn_any (Bw:Nat) (p q c g:Int) (w:World) (h0:w.cell? ⟨Bw,0,none⟩=some (.int .i64 p)) (h1:w.cell? ⟨Bw,1,none⟩=some (.int .i64 q)) (hw:WOk (p,q)) (hc:0<=c/\c<=far) (hg:0<=g/\g<=far) :
 Calls Tryz.prog 73 #[.int .i64 c,.int .i64 g,.pointer (some ⟨Bw,0,none⟩)] w fun e w'=>e= .returned (.int .i64 (q*c+p*g))/\∃k,w'=w.drewN k:=by
 obtain⟨⟨q1,q2⟩,p1,p2⟩:=hw;simp only at q1 q2 p1 p2;have m1:0<=q*c:=Int.mul_nonneg (by omega) hc.1;have m2:0<=p*g:=Int.mul_nonneg (by omega) hg.1;have m3:q*c<=1000000*1099511627776:=Int.mul_le_mul (by omega) (by have:=hc.2;unfold far at this;omega) hc.1 (by omega);have m4:p*g<=1000000*1099511627776:=Int.mul_le_mul (by omega) (by have:=hg.2;unfold far at this;omega) hg.1 (by omega);obtain⟨x,hx⟩:∃x,q*c=x:=⟨_,rfl⟩;obtain⟨y,hy⟩:∃y,p*g=y:=⟨_,rfl⟩;rw[hx] at m1 m3 ⊢;rw[hy] at m2 m4 ⊢;have w1:IntKind.i64.wrap x=x:=IntWalk.i64_in _ (by omega);have w2:IntKind.i64.wrap y=y:=IntWalk.i64_in _ (by omega);have w3:IntKind.i64.wrap (x+y)=x+y:=IntWalk.i64_in _ (by omega);clear hc hg q1 q2 p1 p2;go_enter Tryz.func73,Tryz.ntmps73;go_wp2;go_ret;exact⟨rfl,0,rfl⟩
theorem below_cells {w1 w2:World} {P:Nat} {B:Nat} (hb:Below B w1 w2) {o:Nat} {x:Value} (hP:P<B) (h:w1.cell? ⟨P,o,none⟩=some x):w2.cell? ⟨P,o,none⟩=some x:=(hb.cell (p:=⟨P,o,none⟩) hP).trans h
theorem key_any (h:AM b w P F Y s) (hr:s.rds.length<F.ws.length) (hw:WOk (cwt F.ws s)) {v:Nat} (hv:v<F.n) (hc:0<=dg s.C v/\dg s.C v<=far) (hg:0<=dg F.h v/\dg F.h v<=far) :
 Calls Tryz.prog 96 #[.pointer (some ⟨P,0,none⟩),.int .i64 v] w fun e w'=>e= .returned (.int .i64 ((cwt F.ws s).2*dg s.C v+(cwt F.ws s).1*dg F.h v))/\Below w.heap.size w w':=by
 obtain⟨⟨_,_,_,_,z4,z5⟩,⟨z6,_,_,_,_,_,z12⟩,zp⟩:=h.zs;obtain⟨bw,ow,e5,b5,x0,x1⟩:=h.weight hr;obtain⟨bh,oh,e4,b4,b6,y0,y1⟩:=h.cells hv;have hk:=h.kr_;rw[hk] at z12;rw[e5] at z5;rw[e4] at z4;clear h hk e5 e4;generalize s.rds.length=k at *;generalize F.ws.length=mw at *;generalize dg s.C v=c at *;generalize dg F.h v=g at *;generalize cwt F.ws s=u at *;obtain⟨p,q⟩:=u;simp only at x0 x1 ⊢;have HB0:Below w.heap.size w w:=Below.refl _ _;go_enter Tryz.func96,Tryz.ntmps96;go_upto_region 1 with fail
 go_region_held3 (fun w'=>w'.cell? ⟨P,4,none⟩=some (.slice (some ⟨bh,oh,none⟩) F.n F.cH)/\w'.cell? ⟨P,5,none⟩=some (.slice (some ⟨bw,ow,none⟩) mw F.cW)/\w'.cell? ⟨P,6,none⟩=some (.slice (some ⟨F.SC,0,none⟩) F.n F.n)/\w'.cell? ⟨P,12,none⟩=some (.slice Y.AR k Y.cr)/\w'.cell? ⟨bw,ow+k*2,none⟩=some (.int .i64 p)/\w'.cell? ⟨bw,ow+k*2+1,none⟩=some (.int .i64 q)/\w'.cell? ⟨F.SC,v,none⟩=some (.int .i64 c)/\w'.cell? ⟨bh,oh+v,none⟩=some (.int .i64 g))
  (first
    |go_keep
    |exact p8
    |exact q8)
  (first
    |(go_at_call 36;refine(wkey_b p q _).mono ?_;rintro e wd ⟨B,rfl,hbd,t0,t1⟩;have p9:Below w.heap.size w wd:=HB0.drew.trans (hbd.mono (by simp));have p8:wd.cell? ⟨P,4,none⟩=some (.slice (some ⟨bh,oh,none⟩) F.n F.cH)/\wd.cell? ⟨P,5,none⟩=some (.slice (some ⟨bw,ow,none⟩) mw F.cW)/\wd.cell? ⟨P,6,none⟩=some (.slice (some ⟨F.SC,0,none⟩) F.n F.n)/\wd.cell? ⟨P,12,none⟩=some (.slice Y.AR k Y.cr)/\wd.cell? ⟨bw,ow+k*2,none⟩=some (.int .i64 p)/\wd.cell? ⟨bw,ow+k*2+1,none⟩=some (.int .i64 q)/\wd.cell? ⟨F.SC,v,none⟩=some (.int .i64 c)/\wd.cell? ⟨bh,oh+v,none⟩=some (.int .i64 g):=⟨below_cells p9 zp z4,below_cells p9 zp z5,below_cells p9 zp z6,below_cells p9 zp z12,below_cells p9 b5 x0,below_cells p9 b5 x1,below_cells p9 b6 y0,below_cells p9 b4 y1⟩)
    |(go_at_call 73;refine(kfn_any _ p q c g _ (by assumption) (by assumption) hw hc hg).mono ?_;rintro e we ⟨rfl,kk,hwe⟩;have q9:Below w.heap.size w we:=(by rw[hwe];exact below_drewN p9 kk);have q8:we.cell? ⟨P,4,none⟩=some (.slice (some ⟨bh,oh,none⟩) F.n F.cH)/\we.cell? ⟨P,5,none⟩=some (.slice (some ⟨bw,ow,none⟩) mw F.cW)/\we.cell? ⟨P,6,none⟩=some (.slice (some ⟨F.SC,0,none⟩) F.n F.n)/\we.cell? ⟨P,12,none⟩=some (.slice Y.AR k Y.cr)/\we.cell? ⟨bw,ow+k*2,none⟩=some (.int .i64 p)/\we.cell? ⟨bw,ow+k*2+1,none⟩=some (.int .i64 q)/\we.cell? ⟨F.SC,v,none⟩=some (.int .i64 c)/\we.cell? ⟨bh,oh+v,none⟩=some (.int .i64 g):=⟨below_cells q9 zp z4,below_cells q9 zp z5,below_cells q9 zp z6,below_cells q9 zp z12,below_cells q9 b5 x0,below_cells q9 b5 x1,below_cells q9 b6 y0,below_cells q9 b4 y1⟩))
 all_goals
  clear hwe;go_wp2;go_ret;exact⟨rfl,below_drewN p9 kk⟩
end
end Ara
namespace Ara
open Go.RowKit NetLaw BellLaw StarLaw AraLaw Net Go.Proofs.YtjebckehmmbkbaaGreat.Std Flow
open Heap (Kp Kp.refl Kp.below Kp.alloc Kp.drew Kp.setCell Kp.grown Kp.to fnOf)
open HeapP (HeapAt d0 ltP ltP_ord)
section
variable {w w':World} {base base' H n c:Nat} {fn:Value} {A:Option Addr} {L:List HeapP.Pop}
theorem blk_kp {g:Nat} {cs:Array Value} {t:TypeId} {fr:Nat × Nat} (h:HeapAt w base H fn A n c L) (hk:Kp w w' H (Value.slice A n c).ownBlock) (hg:w.heap[g]?=some (.cells cs t fr)) (h1:159≠t) (h2:129≠t):w'.heap[g]?=some (.cells cs t fr):=by
 refine(hk.block g (lt_of_block hg) (fun e=> ?_) (fun e=>h.own.ne_ hg h2 e.symm)).trans hg;subst e;have:=h.blk;rw[hg] at this;injection this with this;injection this with _ ht _;exact h1 ht.symm
theorem own_kp {α:Type} {sz:Nat} {cell:α->Nat->Value} {e:TypeId} {v:Value} {r:List α} (h:HeapAt w base H fn A n c L) (hk:Kp w w' H (Value.slice A n c).ownBlock) (ho:Own w base' e sz cell v r) (h1:159≠e) (h2:129≠e):Own w' base' e sz cell v r:=by
 refine⟨ho.1,?_⟩;rcases ho.2 with h3|⟨g,cap,cur,rfl,hg,hh,rest⟩
 ·exact .inl h3
 ·exact .inr ⟨g,cap,cur,rfl,hg,blk_kp h hk hh h1 h2,rest⟩
theorem tab_kp {S m:Nat} {F:Nat->Option Addr × Nat} {Ls:Nat->List Int} (h:HeapAt w base H fn A n c L) (hk:Kp w w' H (Value.slice A n c).ownBlock) (ht:Tab w base' S m F Ls):Tab w' base' S m F Ls:=by
 obtain⟨cs,hb,hs,hc⟩:=ht.blk;exact⟨ht.lo,⟨cs,blk_kp h hk hb (by decide) (by decide),hs,hc⟩,fun v hv=>own_kp h hk (ht.own v hv) (by decide) (by decide),ht.sep⟩
theorem tab_far {S m:Nat} {F:Nat->Option Addr × Nat} {Ls:Nat->List Int} {p:Addr} (ht:Tab w base' S m F Ls) (h1:p.block≠S) (h2:∀v,v<m->(Value.slice (F v).1 0 0).ownBlock≠some p.block) (u:Value):Tab (w.setCell p u) base' S m F Ls:=by
 obtain⟨cs,hb,hs,hc⟩:=ht.blk;exact⟨ht.lo,⟨cs,blk_far hb (fun e=>h1 e.symm) u,hs,hc⟩,fun v hv=>(ht.own v hv).setCell (fun e=>h2 v hv ((obs ..).trans e)) u,ht.sep⟩
theorem heap_far {p:Addr} {t:TypeId} {cs:Array Value} (h:HeapAt w base H fn A n c L) (hp:w.heap[p.block]?=some (.cells cs t (0,0))) (h1:159≠t) (h2:129≠t) (u:Value):HeapAt (w.setCell p u) base H fn A n c L:=by
 have hne:H≠p.block:=fun e=>by
  have hb:=h.blk;rw[e,hp] at hb;injection hb with hb;injection hb with _ ht _;exact h1 ht.symm
 exact⟨h.hb,blk_far h.blk hne u,h.own.setCell (h.own.ne_ hp h2) u,h.len⟩
end
theorem own_blk {α:Type} {w:World} {b:Nat} {e:TypeId} {sz:Nat} {cell:α->Nat->Value} {S n c:Nat} {l:List α} (h:Own w b e sz cell (.slice (some ⟨S,0,none⟩) n c) l):∃cs,w.heap[S]?=some (.cells cs e (0,0)):=by
 rcases h.2 with ⟨h1,_⟩|⟨g,cap,cur,hv,_,hh,_⟩
 ·cases h1
 ·injection hv with hv _ _
  injection hv with hv;injection hv with hv _ _;subst hv;exact⟨cur,hh⟩
theorem blk_ne {w:World} {g g':Nat} {cs cs':Array Value} {t t':TypeId} {f f':Nat × Nat} (h:w.heap[g]?=some (.cells cs t f)) (h':w.heap[g']?=some (.cells cs' t' f')) (hne:t≠t'):g≠g':=fun e=>by
 subst e;rw[h] at h';injection h' with h';injection h' with _ ht _;exact hne ht
section
variable {b:Nat} {w w':World} {P:Nat} {F:Fix} {Y:Var} {s:AS}
def Var.heap' (Y:Var) (A:Option Addr) (m c:Nat) (L:List HeapP.Pop):Var:={ Y with Ah:=A,m:=m,ch:=c,L:=L }
theorem AM.kp {A':Option Addr} {m' c':Nat} {L':List HeapP.Pop} (h:AM b w P F Y s) (hk:Kp w w' F.H (Value.slice Y.Ah Y.m Y.ch).ownBlock) (hh:HeapAt w' b F.H (fnOf 67) A' m' c' L') (hp:HeapLaw.Hp d0 ltP L'):AM b w' P F (Y.heap' A' m' c' L') s :=
 ⟨blk_kp h.heap hk h.z (by decide) (by decide),h.zl,own_kp h.heap hk h.net (by decide) (by decide),tab_kp h.heap hk h.tab,own_kp h.heap hk h.hh (by decide) (by decide),own_kp h.heap hk h.wt (by decide) (by decide),own_kp h.heap hk h.cost (by decide) (by decide),own_kp h.heap hk h.pred (by decide) (by decide),own_kp h.heap hk h.done (by decide) (by decide),own_kp h.heap hk h.late (by decide) (by decide),hh,hp,own_kp h.heap hk h.rows (by decide) (by decide),fun x hx=>own_kp h.heap hk (h.ways x hx) (by decide) (by decide),h.rds,h.lenC,h.lenP,h.lenD,h.lenH,h.lenL,h.lenR,h.neCP,h.neH,h.neO,h.neL,h.neW⟩
theorem Fr.kp {A':Option Addr} {m' c':Nat} {L':List HeapP.Pop} (hk:Kp w w' F.H (Value.slice Y.Ah Y.m Y.ch).ownBlock) (hn:∀S,ob A'=some S->ob Y.Ah=some S\/w.heap.size<=S):Fr P F Y (Y.heap' A' m' c' L') w w' :=
 ⟨hk.os,hk.tape,hk.output,hk.size,fun g hg hm=>hk.block g hg (fun e=>hm (.inr (.inr (.inr (.inr (.inl e)))))) (fun e=>hm (.inr (.inr (.inr (.inr (.inr (.inl ((ob_ ..).symm.trans e.symm)))))))),fun g hm=>by
   rcases hm with hm|hm|hm|hm|hm|hm|hm|hm
   ·exact .inl (.inl hm)
   ·exact .inl (.inr (.inl hm))
   ·exact .inl (.inr (.inr (.inl hm)))
   ·exact .inl (.inr (.inr (.inr (.inl hm))))
   ·exact .inl (.inr (.inr (.inr (.inr (.inl hm)))))
   ·rcases hn g hm with h|h
    ·exact .inl (.inr (.inr (.inr (.inr (.inr (.inl h))))))
    ·exact .inr h
   ·exact .inl (.inr (.inr (.inr (.inr (.inr (.inr (.inl hm)))))))
   ·exact .inl (.inr (.inr (.inr (.inr (.inr (.inr (.inr hm))))))),fun x hx=> .inl hx⟩
def PutSays (b:Nat) (w:World) (P:Nat) (F:Fix) (Y:Var) (s:AS) (v:Nat) (k:Int) (e:Ending) (w':World):Prop :=
 (∃r,e= .returned r)/\∃A c L',AM b w' P F (Y.heap' A (Y.m+1) c L') s/\L'.Perm ((k,dg F.h v,(v:Int))::Y.L)/\Fr P F Y (Y.heap' A (Y.m+1) c L') w w'
theorem put_any (h:AM b w P F Y s) (hr:s.rds.length<F.ws.length) (hw:WOk (cwt F.ws s)) {v:Nat} (hv:v<F.n) (hc:0<=dg s.C v/\dg s.C v<=far) (hg:0<=dg F.h v/\dg F.h v<=far) (hm:Y.m<=4000000000000) :
 Calls Tryz.prog 93 #[.pointer (some ⟨P,0,none⟩),.int .i64 v] w fun e w'=>PutSays b w P F Y s v ((cwt F.ws s).2*dg s.C v+(cwt F.ws s).1*dg F.h v) e w':=by
 obtain⟨⟨_,_,_,_,z4,_⟩,⟨_,_,_,_,z10,_,_⟩,zp⟩:=h.zs;obtain⟨bh,oh,e4,b4,_,_,y1⟩:=h.cells hv;rw[e4] at z4;have hk:=fun (W:World) (hW:Below w.heap.size w W)=>key_any (h.keep hW) hr hw hv hc hg;generalize (cwt F.ws s).2*dg s.C v+(cwt F.ws s).1*dg F.h v=ky at *;have hpu:=fun (W:World) (hW:Below w.heap.size w W)=>HeapP.push_any ltP ltP_ord HeapP.less_any b F.H Y.Ah Y.m Y.ch Y.L ky (dg F.h v) v W (h.keep hW).heap h.hp (by omega) ((h.keep hW).size)
 have hfin:∀(W w':World) (A8:Option Addr) (c8:Nat) (L8:List HeapP.Pop) (r:Value),Below w.heap.size w W->HeapAt w' b F.H (fnOf 67) A8 (Y.m+1) c8 L8->L8.Perm ((ky,dg F.h v,(v:Int))::Y.L)->HeapLaw.Hp d0 ltP L8->Kp W w' F.H (Value.slice Y.Ah Y.m Y.ch).ownBlock->(∀S,(Value.slice A8 (Y.m+1) c8).ownBlock=some S->(Value.slice Y.Ah Y.m Y.ch).ownBlock=some S\/W.heap.size<=S)->PutSays b w P F Y s v ky (.returned r) w':=fun W w' A8 c8 L8 r hW hh hpm hhp hkp hat =>
  ⟨⟨r,rfl⟩,A8,c8,L8,(h.keep hW).kp hkp hh hhp,hpm,(Fr.of hW).trans (Fr.kp hkp (fun S hS=>(hat S ((ob_ ..).trans hS)).imp (fun e=>(ob_ ..).symm.trans e) id))⟩
 have hs:∀(W:World) (r:Value),PutSays b w P F Y s v ky (.returned r) W->W.cell? ⟨P,4,none⟩=some (.slice (some ⟨bh,oh,none⟩) F.n F.cH)/\W.cell? ⟨P,10,none⟩=some (.pointer (some ⟨F.H,0,none⟩))/\W.cell? ⟨bh,oh+v,none⟩=some (.int .i64 (dg F.h v)):=fun W r hP=>by
  obtain⟨_,_,_,_,hW,_⟩:=hP;obtain⟨⟨_,_,_,_,q4,_⟩,⟨_,_,_,_,q10,_,_⟩,_⟩:=hW.zs;obtain⟨bh',oh',e4',_,_,_,y1'⟩:=hW.cells hv;rw[e4] at e4' q4;injection e4' with e4';injection e4' with ea eb _;subst ea eb;exact⟨q4,q10,y1'⟩
 have HSS:=hid hs;have HK:=hid hk;have HPU:=hid hpu;have HFIN:=hid hfin;have HB0:Below w.heap.size w w:=Below.refl _ _;clear hk hpu hfin hs h hw hr hc hg hm e4;generalize dg F.h v=g at *;go_enter Tryz.func93,Tryz.ntmps93;go_upto_region 0 with fail
 go_region_held3 (fun w'=>w'.cell? ⟨P,4,none⟩=some (.slice (some ⟨bh,oh,none⟩) F.n F.cH)/\w'.cell? ⟨P,10,none⟩=some (.pointer (some ⟨F.H,0,none⟩))/\w'.cell? ⟨bh,oh+v,none⟩=some (.int .i64 g))
  (first
    |go_keep
    |exact p8
    |exact q8)
  (first
    |(go_at_call 96;refine(HK.out _ HB0.drew).mono ?_;rintro e wd ⟨rfl,hbd⟩;have p9:Below w.heap.size w wd:=HB0.drew.trans (hbd.mono (by simp));have p8:wd.cell? ⟨P,4,none⟩=some (.slice (some ⟨bh,oh,none⟩) F.n F.cH)/\wd.cell? ⟨P,10,none⟩=some (.pointer (some ⟨F.H,0,none⟩))/\wd.cell? ⟨bh,oh+v,none⟩=some (.int .i64 g):=⟨below_cells p9 zp z4,below_cells p9 zp z10,below_cells p9 b4 y1⟩)
    |(go_at_call 90;refine(HPU.out _ p9).mono ?_;rintro e we ⟨⟨r8,rfl⟩,A8,c8,L8,hh8,hpm8,hhp8,hkp8,hat8⟩;have q9:=HFIN.out _ _ A8 c8 L8 (.tuple #[]) p9 hh8 hpm8 hhp8 hkp8 hat8;have q8:=HSS.out _ _ q9))
 all_goals
  go_wp2;exact bodyPost_end (v:= .tuple #[]) (by simp[results,Tryz.results93,go_sem]) rfl q9
end
end Ara
namespace Ara
open Go.RowKit NetLaw BellLaw StarLaw AraLaw Net Go.Proofs.YtjebckehmmbkbaaGreat.Std Flow
open Heap (Kp Kp.refl Kp.below Kp.alloc Kp.drew Kp.setCell Kp.grown Kp.to fnOf)
open HeapP (HeapAt d0 ltP ltP_ord)
section
variable {b:Nat} {w w':World} {P:Nat} {F:Fix} {Y:Var} {s:AS}
theorem AM.setC (h:AM b w P F Y s) (k:Nat) (x:Int):AM b (w.setCell ⟨F.SC,k,none⟩ (.int .i64 x)) P F Y { s with C:=s.C.set k x }:=by
 obtain⟨cur,hb⟩:=own_blk h.cost;obtain⟨cs,hti,_⟩:=h.tab.blk;exact⟨blk_far h.z (blk_ne h.z hb (by decide)) _,h.zl,h.net.setCell (h.net.ne_ hb (by decide)) _,tab_far (p:=⟨F.SC,k,none⟩) h.tab (blk_ne hb hti (by decide)) (fun v hv=>(h.neO v hv).1) _,h.hh.setCell (fun e=>h.neH.1 ((ob_ ..).symm.trans e)) _,h.wt.setCell (h.wt.ne_ hb (by decide)) _,own_set1 h.lenC h.cost k x,h.pred.setCell (fun e=>h.neCP (by injection e with e;exact e.symm)) _,h.done.setCell (h.done.ne_ hb (by decide)) _,h.late.setCell (fun e=>(h.neL _ ((ob_ ..).symm.trans e)).1 rfl) _,heap_far h.heap hb (by decide) (by decide) _,h.hp,h.rows.setCell (h.rows.ne_ hb (by decide)) _,fun x hx=>(h.ways x hx).setCell (fun e=>(h.neW x hx).1 ((ob_ ..).symm.trans e)) _,h.rds,by show (s.C.set k x).length=F.n;rw[List.length_set];exact h.lenC,h.lenP,h.lenD,h.lenH,h.lenL,h.lenR,h.neCP,h.neH,h.neO,h.neL,h.neW⟩
theorem AM.setP (h:AM b w P F Y s) (k:Nat) (x:Int):AM b (w.setCell ⟨F.SP,k,none⟩ (.int .i64 x)) P F Y { s with P:=s.P.set k x }:=by
 obtain⟨cur,hb⟩:=own_blk h.pred;obtain⟨cs,hti,_⟩:=h.tab.blk;exact⟨blk_far h.z (blk_ne h.z hb (by decide)) _,h.zl,h.net.setCell (h.net.ne_ hb (by decide)) _,tab_far (p:=⟨F.SP,k,none⟩) h.tab (blk_ne hb hti (by decide)) (fun v hv=>(h.neO v hv).2) _,h.hh.setCell (fun e=>h.neH.2 ((ob_ ..).symm.trans e)) _,h.wt.setCell (h.wt.ne_ hb (by decide)) _,h.cost.setCell (fun e=>h.neCP (by injection e with e)) _,own_set1 h.lenP h.pred k x,h.done.setCell (h.done.ne_ hb (by decide)) _,h.late.setCell (fun e=>(h.neL _ ((ob_ ..).symm.trans e)).2.1 rfl) _,heap_far h.heap hb (by decide) (by decide) _,h.hp,h.rows.setCell (h.rows.ne_ hb (by decide)) _,fun x hx=>(h.ways x hx).setCell (fun e=>(h.neW x hx).2 ((ob_ ..).symm.trans e)) _,h.rds,h.lenC,by show (s.P.set k x).length=F.n;rw[List.length_set];exact h.lenP,h.lenD,h.lenH,h.lenL,h.lenR,h.neCP,h.neH,h.neO,h.neL,h.neW⟩
theorem AM.setS (h:AM b w P F Y s) (x:Int):AM b (w.setCell ⟨P,11,none⟩ (.int .i64 x)) P F Y { s with sp:=x }:=by
 obtain⟨cs,hti,_⟩:=h.tab.blk;exact⟨blk_set h.z 11 _,h.zl,h.net.setCell (h.net.ne_ h.z (by decide)) _,tab_far (p:=⟨P,11,none⟩) h.tab (blk_ne h.z hti (by decide)) (fun v hv e=>(h.tab.own v hv).ne_ h.z (by decide) ((ob_ ..).trans e)) _,h.hh.setCell (h.hh.ne_ h.z (by decide)) _,h.wt.setCell (h.wt.ne_ h.z (by decide)) _,h.cost.setCell (h.cost.ne_ h.z (by decide)) _,h.pred.setCell (h.pred.ne_ h.z (by decide)) _,h.done.setCell (h.done.ne_ h.z (by decide)) _,h.late.setCell (h.late.ne_ h.z (by decide)) _,heap_far h.heap h.z (by decide) (by decide) _,h.hp,h.rows.setCell (h.rows.ne_ h.z (by decide)) _,fun x hx=>(h.ways x hx).setCell ((h.ways x hx).ne_ h.z (by decide)) _,h.rds,h.lenC,h.lenP,h.lenD,h.lenH,h.lenL,h.lenR,h.neCP,h.neH,h.neO,h.neL,h.neW⟩
theorem AM.setD (h:AM b w P F Y s) {k:Nat} (hk:k<F.n) (x:Bool):AM b (w.setCell ⟨F.SD,k,none⟩ (.bool x)) P F Y { s with dn:=s.dn.set k x }:=by
 obtain⟨cur,hb⟩:=own_blk h.done;obtain⟨cs,hti,_⟩:=h.tab.blk;have hd:=own_setG h.lenD h.done k hk x;exact⟨blk_far h.z (blk_ne h.z hb (by decide)) _,h.zl,h.net.setCell (h.net.ne_ hb (by decide)) _,tab_far (p:=⟨F.SD,k,none⟩) h.tab (blk_ne hb hti (by decide)) (fun v hv e=>(h.tab.own v hv).ne_ hb (by decide) ((ob_ ..).trans e)) _,h.hh.setCell (h.hh.ne_ hb (by decide)) _,h.wt.setCell (h.wt.ne_ hb (by decide)) _,h.cost.setCell (h.cost.ne_ hb (by decide)) _,h.pred.setCell (h.pred.ne_ hb (by decide)) _,hd,h.late.setCell (h.late.ne_ hb (by decide)) _,heap_far h.heap hb (by decide) (by decide) _,h.hp,h.rows.setCell (h.rows.ne_ hb (by decide)) _,fun y hy=>(h.ways y hy).setCell ((h.ways y hy).ne_ hb (by decide)) _,h.rds,h.lenC,h.lenP,by show (s.dn.set k x).length=F.n;rw[List.length_set];exact h.lenD,h.lenH,h.lenL,h.lenR,h.neCP,h.neH,h.neO,h.neL,h.neW⟩
end
end Ara
end Go.Proofs.YtjebckehmmbkbaaGreat
