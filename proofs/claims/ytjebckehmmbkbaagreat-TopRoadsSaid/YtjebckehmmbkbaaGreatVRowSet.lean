/- Plain facts on heaps: no Go in sight. Small facts that all walks of this seat share. Slices that read as lists: what a walk wants of them. Plain facts on nets: no Go in sight. The walks of package net: what each function answers. The walks of net.Turned and net.Turn. Rows of the call's own: one cell of an element is set. -/
import Derived.RowKit
import Derived.Test.YtjebckehmmbkbaaGreatProg
import Derived.WalkKit
import Derived.WalkSpells
import Derived.WalkLawsBesides
import Derived.Deep.QuietTactic
import Derived.BigQuiet
import Derived.Lib.Hide
import Derived.ProofKit
import Derived.Deep.RegionWith
import Derived.Lib.SmallJoins
import Derived.Deep.RegionHeld3
import Derived.Maps.AppendAt
import Derived.Laws.AppendOwnNone
import Derived.Deep.RegionLaw
set_option linter.unusedSimpArgs false
set_option linter.unusedVariables false
set_option maxRecDepth 100000
set_option maxHeartbeats 24000000
namespace Go.Proofs.YtjebckehmmbkbaaGreat
namespace HeapLaw
section
variable {α:Type} {d:α} {lt:α->α->Bool} {L:List α}
structure Ord (lt:α->α->Bool):Prop where
 asym:∀{a b},lt a b=true->lt b a=false
 ntr:∀{a b c},lt b a=false->lt c b=false->lt c a=false
def par (j:Nat):Nat:=(j - 1) / 2
theorem par_lt {j:Nat} (h:0<j):par j<j:=by unfold par;omega
def Hp (d:α) (lt:α->α->Bool) (L:List α):Prop:=∀j,0<j->j<L.length->lt (L.getD j d) (L.getD (par j) d)=false
def swp (d:α) (L:List α) (i k:Nat):List α:=(L.set i (L.getD k d)).set k (L.getD i d)
theorem swp_len (i k:Nat):(swp d L i k).length=L.length:=by simp[swp]
theorem swp_get {i k:Nat} (hi:i<L.length) (hk:k<L.length) (j:Nat):(swp d L i k).getD j d=if j=k then L.getD i d else if j=i then L.getD k d else L.getD j d:=by
 unfold swp;rw[List.getD_eq_getElem?_getD]
 by_cases h:j=k
 ·subst h;rw[if_pos rfl,List.getElem?_set_self (by simpa using hk)];rfl
 ·rw[if_neg h,List.getElem?_set_ne (fun e=>h e.symm)]
  by_cases h2:j=i
  ·subst h2;rw[if_pos rfl,List.getElem?_set_self hi];rfl
  ·rw[if_neg h2,List.getElem?_set_ne (fun e=>h2 e.symm),List.getD_eq_getElem?_getD]
theorem set_perm {x:α} {k:Nat} (hk:k<L.length):(L.getD k d::L.set k x).Perm (x::L):=by
 induction L generalizing k with
 |nil=>simp at hk
 |cons a r ih =>
  match k,hk with
  |0,_=>exact List.Perm.swap _ _ _
  |k+1,hk =>
   have e1:(a::r).getD (k+1) d=r.getD k d:=by simp[List.getD_eq_getElem?_getD]
   rw[e1,List.set_cons_succ];exact(List.Perm.swap _ _ _).trans (((ih (by simpa using hk)).cons a).trans (List.Perm.swap _ _ _))
theorem swp_perm {i k:Nat} (hi:i<L.length) (hk:k<L.length) (hik:i≠k):(swp d L i k).Perm L:=by
 have h1:=set_perm (d:=d) (x:=L.getD i d) (L:=L.set i (L.getD k d)) (k:=k) (by simpa using hk);have h2:=set_perm (d:=d) (x:=L.getD k d) hi
 have e:(L.set i (L.getD k d)).getD k d=L.getD k d:=by
  rw[List.getD_eq_getElem?_getD,List.getElem?_set_ne hik,List.getD_eq_getElem?_getD]
 rw[e] at h1;have h3:=h1.trans h2;exact List.Perm.cons_inv h3
structure Up (d:α) (lt:α->α->Bool) (L:List α) (i:Nat):Prop where
 lo:∀j,0<j->j<L.length->j≠i->lt (L.getD j d) (L.getD (par j) d)=false
 over:∀j,0<i->0<j->j<L.length->par j=i->lt (L.getD j d) (L.getD (par i) d)=false
theorem Up.step (o:Ord lt) {i:Nat} (h:Up d lt L i) (h0:0<i) (hi:i<L.length) (hl:lt (L.getD i d) (L.getD (par i) d)=true):Up d lt (swp d L i (par i)) (par i):=by
 have hp:=par_lt h0;have hk:par i<L.length:=by omega
 have hs:=fun j=>swp_get (d:=d) hi hk j;refine⟨fun j j0 j1 jn=> ?_,fun j p0 j0 j1 jp=> ?_⟩
 ·rw[swp_len] at j1
  have hpj:=par_lt j0;rw[hs,hs,if_neg jn]
  by_cases e:j=i
  ·subst e
   rw[if_pos rfl,if_pos rfl];exact o.asym hl
  ·rw[if_neg e]
   by_cases e2:par j=par i
   ·rw[if_pos e2]
    have:=h.lo j j0 j1 e;rw[e2] at this;exact o.ntr (o.asym hl) this
   ·rw[if_neg e2]
    by_cases e3:par j=i
    ·rw[if_pos e3];exact h.over j h0 j0 j1 e3
    ·rw[if_neg e3];exact h.lo j j0 j1 e
 ·rw[swp_len] at j1
  have hpp:=par_lt p0;have h1:=h.lo (par i) p0 hk (by omega);rw[hs,hs,if_neg (show par (par i)≠par i by omega),if_neg (show par (par i)≠i by omega),if_neg (show j≠par i by have:=par_lt j0;omega)]
  by_cases e:j=i
  ·rw[if_pos e];exact h1
  ·rw[if_neg e]
   have:=h.lo j j0 j1 e;rw[jp] at this;exact o.ntr h1 this
theorem Up.done {i:Nat} (h:Up d lt L i) (hi:0<i->lt (L.getD i d) (L.getD (par i) d)=false):Hp d lt L:=fun j j0 j1=>by
 by_cases e:j=i
 ·subst e;exact hi j0
 ·exact h.lo j j0 j1 e
theorem Hp.snoc (h:Hp d lt L) (x:α):Up d lt (L++[x]) L.length:=by
 have hg:∀j,j<L.length->(L++[x]).getD j d=L.getD j d:=fun j hj=>by rw[List.getD_eq_getElem?_getD,List.getElem?_append_left hj,List.getD_eq_getElem?_getD]
 refine⟨fun j j0 j1 jn=> ?_,fun j i0 j0 j1 jp=> ?_⟩
 ·simp at j1
  have:=par_lt j0;rw[hg j (by omega),hg _ (by omega)];exact h j j0 (by omega)
 ·simp at j1
  have:=par_lt j0;omega
structure Dn (d:α) (lt:α->α->Bool) (L:List α) (i:Nat):Prop where
 lo:∀j,0<j->j<L.length->par j≠i->lt (L.getD j d) (L.getD (par j) d)=false
 over:∀j,0<i->0<j->j<L.length->par j=i->lt (L.getD j d) (L.getD (par i) d)=false
structure Least (d:α) (lt:α->α->Bool) (L:List α) (i k:Nat):Prop where
 k0:0<k
 kl:k<L.length
 kp:par k=i
 least:∀j,0<j->j<L.length->par j=i->lt (L.getD j d) (L.getD k d)=false
theorem Dn.step (o:Ord lt) {i k:Nat} (h:Dn d lt L i) (hk:Least d lt L i k) (hl:lt (L.getD k d) (L.getD i d)=true):Dn d lt (swp d L i k) k:=by
 obtain⟨k0,k1,kp,hk⟩:=hk;have hki:=par_lt k0;have hi:i<L.length:=by omega
 have hs:=fun j=>swp_get (d:=d) hi k1 j;refine⟨fun j j0 j1 jn=> ?_,fun j p0 j0 j1 jp=> ?_⟩
 ·rw[swp_len] at j1
  rw[hs,hs,if_neg jn]
  by_cases e:par j=i
  ·rw[if_pos e]
   by_cases e2:j=k
   ·rw[if_pos e2];exact o.asym hl
   ·rw[if_neg e2,if_neg (show j≠i by have:=par_lt j0;omega)]
    exact hk j j0 j1 e
  ·rw[if_neg e,if_neg (show j≠k by intro x;subst x;exact e kp)]
   by_cases e3:j=i
   ·subst e3
    rw[if_pos rfl];exact h.over k j0 k0 k1 kp
   ·rw[if_neg e3];exact h.lo j j0 j1 e
 ·rw[swp_len] at j1
  have hj:=par_lt j0;rw[hs,hs,kp,if_neg (show i≠k by omega),if_pos rfl,if_neg (show j≠k by omega),if_neg (show j≠i by omega)];have:=h.lo j j0 j1 (by omega)
  rwa [jp] at this
theorem Dn.leaf {i:Nat} (h:Dn d lt L i) (hn:L.length<=2*i+1):Hp d lt L:=fun j j0 j1=>h.lo j j0 j1 (by unfold par;omega)
theorem Dn.done (o:Ord lt) {i k:Nat} (h:Dn d lt L i) (hk:Least d lt L i k) (hl:lt (L.getD k d) (L.getD i d)=false):Hp d lt L:=fun j j0 j1=>by
 by_cases e:par j=i
 ·rw[e];exact o.ntr hl (hk.least j j0 j1 e)
 ·exact h.lo j j0 j1 e
theorem least_left (o:Ord lt) {i:Nat} (h1:2*i+1<L.length) (h:2*i+2<L.length->lt (L.getD (2*i+2) d) (L.getD (2*i+1) d)=false):Least d lt L i (2*i+1):=by
 refine⟨by omega,h1,by unfold par;omega,fun j j0 j1 jp=> ?_⟩;rcases (show j=2*i+1\/j=2*i+2 from by unfold par at jp;omega) with rfl|rfl
 ·cases h:lt (L.getD (2*i+1) d) (L.getD (2*i+1) d) with
  |false=>rfl
  |true=>exact(h.symm.trans (o.asym h))
 ·exact h j1
theorem least_right (o:Ord lt) {i:Nat} (h1:2*i+2<L.length) (h:lt (L.getD (2*i+2) d) (L.getD (2*i+1) d)=true):Least d lt L i (2*i+2):=by
 refine⟨by omega,h1,by unfold par;omega,fun j j0 j1 jp=> ?_⟩;rcases (show j=2*i+1\/j=2*i+2 from by unfold par at jp;omega) with rfl|rfl
 ·exact o.asym h
 ·cases h:lt (L.getD (2*i+2) d) (L.getD (2*i+2) d) with
  |false=>rfl
  |true=>exact(h.symm.trans (o.asym h))
theorem irrefl (o:Ord lt) (a:α):lt a a=false:=by
 cases h:lt a a with
 |false=>rfl
 |true=>exact(h.symm.trans (o.asym h))
theorem Hp.top (o:Ord lt) (h:Hp d lt L):∀j,j<L.length->lt (L.getD j d) (L.getD 0 d)=false:=by
 intro j
 induction j using Nat.strongRecOn with
 |_ j ih =>
  intro hj;rcases Nat.eq_zero_or_pos j with rfl|j0
  ·exact irrefl o _
  ·have hp:=par_lt j0
   exact o.ntr (ih _ hp (by omega)) (h j j0 hj)
theorem Hp.top_mem (o:Ord lt) (h:Hp d lt L):∀y∈L,lt y (L.getD 0 d)=false:=fun y hy=>by
 obtain⟨j,hj,rfl⟩:=List.getElem_of_mem hy;have:=h.top o j hj
 rwa [List.getD_eq_getElem?_getD,List.getElem?_eq_getElem hj] at this
def cutTop (d:α) (L:List α):List α:=(L.set 0 (L.getD (L.length - 1) d)).take (L.length - 1)
theorem cutTop_len:(cutTop d L).length=L.length - 1:=by simp[cutTop]
theorem cutTop_perm (h:L≠[]):(L.getD 0 d::cutTop d L).Perm L:=by
 obtain⟨r,x,rfl⟩:∃r x,L=r++[x]:=⟨L.dropLast,L.getLast h,(List.dropLast_concat_getLast h).symm⟩;have hl:(r++[x]).length - 1=r.length:=by simp
 have hx:(r++[x]).getD r.length d=x:=by simp[List.getD_eq_getElem?_getD]
 unfold cutTop;rw[hl,hx];cases r with
 |nil=>simp[List.getD_eq_getElem?_getD]
 |cons a r =>
  have e:(((a::r)++[x]).set 0 x).take (a::r).length=x::r:=by simp
  rw[e];have e2:((a::r)++[x]).getD 0 d=a:=rfl;rw[e2];refine List.Perm.cons a ?_;exact(List.perm_append_comm (l₁:=[x]) (l₂:=r))
theorem cutTop_dn (h:Hp d lt L):Dn d lt (cutTop d L) 0:=by
 have hg:∀j,0<j->j<L.length - 1->(cutTop d L).getD j d=L.getD j d:=fun j j0 hj=>by
  unfold cutTop;rw[List.getD_eq_getElem?_getD,List.getElem?_take_of_lt hj,List.getElem?_set_ne (by omega),List.getD_eq_getElem?_getD]
 refine⟨fun j j0 j1 jp=> ?_,fun j i0=>absurd i0 (Nat.lt_irrefl 0)⟩;rw[cutTop_len] at j1;have:=par_lt j0;rw[hg j j0 j1,hg _ (by omega) (by omega)];exact h j j0 (by omega)
theorem Hp.nil:Hp d lt []:=fun j _ h=>absurd h (Nat.not_lt_zero _)
end
end HeapLaw
open Go.RowKit
theorem bcell {W w1:World} (hb:Below W.heap.size W w1):(∀b o,b<W.heap.size->w1.cell? ⟨b,o,none⟩=W.cell? ⟨b,o,none⟩)/\(∀b o,b<W.heap.size->w1.frozen? ⟨b,o,none⟩=W.frozen? ⟨b,o,none⟩) :=
 ⟨fun b o h=>hb.cell (p:=⟨b,o,none⟩) h,fun b o h=>hb.frozen (p:=⟨b,o,none⟩) h⟩
theorem below_drewN {B:Nat} {a w:World} (h:Below B a w) (n:Nat):Below B a (w.drewN n):=⟨h.os,h.tape,h.output,h.size,h.block⟩
theorem bafter {W w1:World} (hb:Below W.heap.size W w1):(∀b o,b<W.heap.size->w1.cell? ⟨b,o,none⟩=W.cell? ⟨b,o,none⟩)/\(∀b o,b<W.heap.size->w1.frozen? ⟨b,o,none⟩=W.frozen? ⟨b,o,none⟩)/\W.heap.size<=w1.heap.size :=
 ⟨fun b o h=>hb.cell (p:=⟨b,o,none⟩) h,fun b o h=>hb.frozen (p:=⟨b,o,none⟩) h,hb.size⟩
theorem keepN {W w1:World} {N:Nat} (hb:Below N W w1):(∀b o,b<N->w1.cell? ⟨b,o,none⟩=W.cell? ⟨b,o,none⟩)/\(∀b o,b<N->w1.frozen? ⟨b,o,none⟩=W.frozen? ⟨b,o,none⟩) :=
 ⟨fun b o h=>hb.cell (p:=⟨b,o,none⟩) h,fun b o h=>hb.frozen (p:=⟨b,o,none⟩) h⟩
theorem keepAt {W w1:World} {N b:Nat} (hb:Below N W w1) (h:b<N):(∀o,w1.cell? ⟨b,o,none⟩=W.cell? ⟨b,o,none⟩)/\(∀o,w1.frozen? ⟨b,o,none⟩=W.frozen? ⟨b,o,none⟩) :=
 ⟨fun o=>hb.cell (p:=⟨b,o,none⟩) h,fun o=>hb.frozen (p:=⟨b,o,none⟩) h⟩
theorem ret_int {k:IntKind} {a b:Int} (h:a=b):Ending.returned (.int k a)= .returned (.int k b):=by rw[h]
theorem ret_bool {a b:Bool} (h:a=b):Ending.returned (.bool a)= .returned (.bool b):=by rw[h]
open Go.ChangeShapes in
theorem trodAll_below {H:Type} {enc:TypeId × Value->H} {P:Program} (hl:laidOutB P=true) {W W':World} (hB:Below W.heap.size W W') :
 ∀(ts:List TypeId) (vs:List Value) (ds:List (DataW H)) (ps:List MemPlace),(∀t∈ts,P.readableRec t=true/\t<P.types.size)->(∀x∈ps,x.block<W.heap.size) ->
  DataW.TrodAll enc P W 0 (fun _=>true) true ts vs ds ps->DataW.TrodAll enc P W' 0 (fun b=>decide (b<W.heap.size)) true ts vs ds ps:=by
 intro ts
 induction ts with
 |nil =>
  intro vs ds ps _ _ h;obtain⟨rfl,rfl,rfl⟩:=trodAll_nil h
  rfl
 |cons t ts ih =>
  intro vs ds ps ht hx h;obtain⟨v,vs',d,ds',p,q,rfl,rfl,rfl,h1,h2⟩:=trodAll_cons h
  exact⟨p,q,Below.trod hl (ht t (by simp)).1 (ht t (by simp)).2 h1 hB (fun x hx'=>hx x (List.mem_append_left _ hx')),
   ih vs' ds' q (fun t' h'=>ht t' (List.mem_cons_of_mem _ h')) (fun x hx'=>hx x (List.mem_append_right _ hx')) h2,rfl⟩
open Go.ChangeShapes Go.WideShapes in
theorem post_of_law {H:Type} {enc:TypeId × Value->H} {P:Program} {f:Func} {s:ChangeSpec} {tb:TypeId} {W W':World} {args:Array Value} {ds gs:List (DataW H)} {before:List MemPlace}
 (hl:laidOutB P=true) (hr:f.resultTypes=#[tb]) (hb:P.underlying tb=some .bool) (hv:s.vars=[])
 (hpar:∀t∈f.params.toList,P.readableRec t=true/\t<P.types.size)
 (hW:DataW.Whole enc P f.params.toList s.vars false W args.toList ds gs before)
 (hfn:s.fn H (ds++gs)={ results:=[.lit (.bool true)],args:=ds })
 (hB:Below W.heap.size W W'):s.post enc P f false true false false W args (.bool true) W':=by
 have hlt:∀p∈before,p.block<W.heap.size:=fun p hp=>hW.lt p hp;have hW0:=hW;obtain⟨p,q,hA,hV,rfl,hz,hn⟩:=hW;rw[hv] at hV;obtain⟨rfl,rfl⟩:=trodVars_none hV;refine⟨ds,[],p++[],[],p,[],hW0,?_,?_,?_,World.keptBut_mono (fun x hx=>⟨hx,?_⟩) (hB.frame (· ∈p++[])),fun h=>by cases h⟩
 ·rw[hfn,hr]
  exact trodAll_mk1 (shut_bool hb _)
 ·rw[hfn]
  exact trodAll_below hl hB _ _ _ _ hpar (fun x hx=>hlt x (List.mem_append_left _ hx)) hA
 ·rw[hfn,hv]
  rfl
 ·rw[List.append_nil] at hx
  exact Or.inr (Or.inl hx)
theorem wf_bd {a:Int} (h:(Lit.int .i64 a).wf=true): -9223372036854775808<=a/\a<=9223372036854775807:=by
 simp only[Lit.wf,Bool.and_eq_true,decide_eq_true_eq] at h;exact h
theorem zzA.{u} {α:Type u} {xs:List α} {i:Nat} (h:i<xs.toArray.size):xs.toArray[i]=xs[i]'(by simpa using h):=List.getElem_toArray h
theorem zzB.{u} {α:Type u} (a:α) (r:List α) (i:Nat) (h:i+1<(a::r).length):(a::r)[i+1]=r[i]'(by simpa using h):=List.getElem_cons_succ a r i h
theorem zzC.{u} {α:Type u} (a:α) (r:List α) (h:0<(a::r).length):(a::r)[0]=a:=List.getElem_cons_zero a r h
theorem zzD.{u} {α:Type u} (l:List α) (i:Nat) (a:α):l.toArray.setIfInBounds i a=(l.set i a).toArray:=List.setIfInBounds_toArray l i a
theorem zzE.{u} {α:Type u} {x:α} {xs:List α} {a:α}:(x::xs).set 0 a=a::xs:=List.set_cons_zero
theorem zzF.{u} {α:Type u} {x:α} {xs:List α} {i:Nat} {a:α}:(x::xs).set (i+1) a=x::xs.set i a:=List.set_cons_succ
theorem zzG.{u} {α:Type u} {xs:List α} {i:Nat}:xs.toArray[i]?=xs[i]?:=List.getElem?_toArray
theorem zzH.{u} {α:Type u} {a:α} {l:List α}:(a::l)[0]?=some a:=List.getElem?_cons_zero
theorem zzI.{u} {α:Type u} {a:α} {i:Nat} {l:List α}:(a::l)[i+1]?=l[i]?:=List.getElem?_cons_succ
theorem zzL {n:Nat}:n<=n:=Nat.le_refl n
theorem hid {p:Prop} (h:p):Hid p:=Lib.hid h
theorem zzT {P:Go.Program} {ops:Array Go.Oper} {Q:Go.Exit->Go.Act->Go.World->Prop} {md:Go.Region.Mode} {S:Go.World->Prop} (fuel i:Nat) {oi:Go.Oper} (v:Go.Value) {listed:Array Bool} {a:Go.Act} {w:Go.World} (h1:ops[i]?=some oi) (hb:(Go.Region.noSelect ops && (Go.Region.free md ops listed i && (Go.Region.ready md ops listed).contains i))=true) (h5:∀(c:List Go.PanicEntry) (a:Go.Act) (w:Go.World),Q (Go.Exit.panic c) (a.put oi.dst v) w->Q (Go.Exit.panic c) a w) (h6:Go.YieldsIf P ops S oi v a) (h7:S w) (h8:Go.wpAnyH P md ops Q S fuel (listed.setIfInBounds i true) (a.put oi.dst v) w):Go.wpAnyH P md ops Q S (fuel+1) listed a w:=by
 rw[Bool.and_eq_true,Bool.and_eq_true] at hb;exact Go.wpAnyH_take h1 hb.1 hb.2.1 hb.2.2 h5 h6 h7 h8
open Go.RowKit
def Sl {α:Type} (w:World) (B sz:Nat) (cell:α->Nat->Value) (A:Option Addr) (l:List α):Prop :=
 0<l.length->∃b off,A=some ⟨b,off,none⟩/\b<B/\∀(i:Nat) (h:i<l.length) (j:Nat),j<sz->w.cell? ⟨b,off+(i*sz+j),none⟩=some (cell l[i] j)
theorem Sl.nil {α:Type} {w:World} {B sz:Nat} {cell:α->Nat->Value} {A:Option Addr}:Sl w B sz cell A []:=fun h=>absurd h (by simp)
theorem Sl.keep {α:Type} {w w':World} {B B' sz:Nat} {cell:α->Nat->Value} {A:Option Addr} {l:List α} (h:Sl w B sz cell A l) (hb:Below B' w w') (hB:B<=B'):Sl w' B sz cell A l:=by
 intro hl;obtain⟨b,off,hA,hlt,hc⟩:=h hl;exact⟨b,off,hA,hlt,fun i hi j hj=>(hb.cell (p:=⟨b,_,none⟩) (by show b<_;omega)).trans (hc i hi j hj)⟩
theorem Sl.more {α:Type} {w:World} {B B' sz:Nat} {cell:α->Nat->Value} {A:Option Addr} {l:List α} (h:Sl w B sz cell A l) (hB:B<=B'):Sl w B' sz cell A l:=by
 intro hl;obtain⟨b,off,hA,hlt,hc⟩:=h hl;exact⟨b,off,hA,by omega,hc⟩
def ci (z:Int) (_:Nat):Value:= .int .i64 z
def ce (e:Int × Int × Int) (j:Nat):Value:=match j with|0=> .int .i64 e.1|1=> .int .i64 e.2.1|_=> .int .i64 e.2.2
def cp (e:Int × Int) (j:Nat):Value:=match j with|0=> .int .i64 e.1|_=> .int .i64 e.2
theorem Sl.atE {w:World} {B:Nat} {A:Option Addr} {l:List (Int × Int × Int)} (h:Sl w B 3 ce A l) {k:Nat} (hk:k<l.length) :
 ∃b off f t c,A=some ⟨b,off,none⟩/\b<B/\l[k]=(f,t,c)/\w.cell? ⟨b,off+k*3,none⟩=some (.int .i64 f)/\w.cell? ⟨b,off+k*3+1,none⟩=some (.int .i64 t)/\w.cell? ⟨b,off+k*3+2,none⟩=some (.int .i64 c):=by
 obtain⟨b,off,hA,hlt,hc⟩:=h (by omega);exact⟨b,off,_,_,_,hA,hlt,rfl,hc k hk 0 (by omega),hc k hk 1 (by omega),hc k hk 2 (by omega)⟩
theorem Sl.atI {w:World} {B:Nat} {A:Option Addr} {l:List Int} (h:Sl w B 1 ci A l) {k:Nat} (hk:k<l.length) :
 ∃b off,A=some ⟨b,off,none⟩/\b<B/\w.cell? ⟨b,off+k,none⟩=some (.int .i64 l[k]):=by
 obtain⟨b,off,hA,hlt,hc⟩:=h (by omega);have:=hc k hk 0 (by omega);rw[Nat.mul_one,Nat.add_zero] at this;exact⟨b,off,hA,hlt,this⟩
def fl {α:Type} (sz:Nat) (cell:α->Nat->Value) (l:List α):List Value:=l.flatMap fun a=>(List.range sz).map (cell a)
theorem fl_len {α:Type} (sz:Nat) (cell:α->Nat->Value) (l:List α):(fl sz cell l).length=l.length*sz:=by
 induction l with
 |nil=>simp[fl]
 |cons a r ih =>
  have e:fl sz cell (a::r)=(List.range sz).map (cell a)++fl sz cell r:=rfl;rw[e,List.length_append,ih,List.length_map,List.length_range,List.length_cons,Nat.succ_mul];omega
theorem fl_snoc {α:Type} (sz:Nat) (cell:α->Nat->Value) (l:List α) (a:α):fl sz cell (l++[a])=fl sz cell l++(List.range sz).map (cell a):=by simp[fl]
theorem fl_append {α:Type} (sz:Nat) (cell:α->Nat->Value) (l r:List α):fl sz cell (l++r)=fl sz cell l++fl sz cell r:=by simp[fl]
theorem fl_get {α:Type} (sz:Nat) (cell:α->Nat->Value) (l:List α):∀(i:Nat) (h:i<l.length) (j:Nat),j<sz->(fl sz cell l)[i*sz+j]?=some (cell l[i] j):=by
 induction l with
 |nil=>intro i h;simp at h
 |cons a r ih =>
  intro i h j hj;have e:fl sz cell (a::r)=(List.range sz).map (cell a)++fl sz cell r:=rfl;rw[e]
  match i with
  |0 =>
   rw[Nat.zero_mul,Nat.zero_add,List.getElem?_append_left (by simpa using hj)];simp[hj]
  |i+1 =>
   have hlen:((List.range sz).map (cell a)).length=sz:=by simp
   rw[List.getElem?_append_right (by rw[hlen,Nat.succ_mul];omega),hlen];have:(i+1)*sz+j - sz=i*sz+j:=by rw[Nat.succ_mul];omega
   rw[this];exact ih i (by simpa using h) j hj
theorem fl_mem {α:Type} {sz:Nat} {cell:α->Nat->Value} {l:List α} (h:∀a j,(cell a j).oneCell'=true):∀u∈fl sz cell l,u.oneCell'=true:=by
 intro u hu;simp only[fl,List.mem_flatMap,List.mem_map] at hu;obtain⟨a,_,j,_,rfl⟩:=hu;exact h a j
theorem fl_map {α:Type} (cell:α->Nat->Value) (l:List α):fl 1 cell l=l.map fun a=>cell a 0:=by
 induction l with
 |nil=>rfl
 |cons a r ih =>
  have e:fl 1 cell (a::r)=(List.range 1).map (cell a)++fl 1 cell r:=rfl;rw[e,ih]
  rfl
def Own {α:Type} (w:World) (base:Nat) (e:TypeId) (sz:Nat) (cell:α->Nat->Value) (v:Value) (l:List α):Prop:=w.ownsRow base e sz v l.length (fl sz cell l)
section
variable {α:Type} {w w':World} {base:Nat} {e:TypeId} {sz:Nat} {cell:α->Nat->Value} {v:Value} {l:List α}
theorem Own.nil_:Own w base e sz cell (.slice none 0 0) ([]:List α):=World.ownsRow_nil _ _ _ _
theorem Own.form (h:Own w base e sz cell v l):∃A c,v= .slice A l.length c/\(l.length<=c)/\(A=none->l.length=0/\c=0):=by
 rcases h.2 with ⟨rfl,h0⟩|⟨g',cap,cur,rfl,hg,_,hc,_⟩
 ·exact⟨_,_,by rw[h0],by omega,fun _=>⟨h0,rfl⟩⟩
 ·exact⟨_,_,rfl,hc,fun h=>by cases h⟩
theorem Own.base_ (h:Own w base e sz cell v l):∀k,v.ownBlock=some k->base<=k/\k<w.heap.size:=World.ownsRow.lt h
theorem Own.lo (h:Own w base e sz cell v l):∀k,v.ownBlock=some k->base<=k:=fun k hk=>(h.base_ k hk).1
theorem Own.kept {row:Option Nat} (h:Own w base e sz cell v l) (hg:w.grownBy w' row) (hne:v.ownBlock=none\/v.ownBlock≠row):Own w' base e sz cell v l:=World.ownsRow.kept h hg hne
theorem Own.alloc (h:Own w base e sz cell v l) (o:Obj):Own (w.alloc o) base e sz cell v l:=World.ownsRow.alloc h o
theorem Own.drewN (h:Own w base e sz cell v l) (n:Nat):Own (w.drewN n) base e sz cell v l:=h
theorem Own.below {B:Nat} (h:Own w base e sz cell v l) (hb:Below B w w') (hB:∀k,v.ownBlock=some k->k<B):Own w' base e sz cell v l:=by
 refine⟨h.1,?_⟩;rcases h.2 with hn|⟨g,cap,cur,rfl,hg,hh,r⟩
 ·exact .inl hn
 ·exact .inr ⟨g,cap,cur,rfl,hg,(hb.block g (hB g rfl)).trans hh,r⟩
theorem Own.keep (h:Own w base e sz cell v l) (hb:Below w.heap.size w w'):Own w' base e sz cell v l:=h.below hb fun k hk=>(h.base_ k hk).2
theorem Own.mono {base':Nat} (h:Own w base e sz cell v l) (hB:base'<=base):Own w base' e sz cell v l:=by
 refine⟨h.1,?_⟩;rcases h.2 with hn|⟨g,cap,cur,rfl,hg,r⟩
 ·exact .inl hn
 ·exact .inr ⟨g,cap,cur,rfl,by omega,r⟩
theorem Own.setCell (h:Own w base e sz cell v l) {p:Addr} (hp:v.ownBlock≠some p.block) (u:Value):Own (w.setCell p u) base e sz cell v l:=ownsRow_setCell_other h hp u
theorem Own.ne_ {g:Nat} {t:TypeId} {cs:Array Value} {fr:Nat × Nat} (h:Own w base e sz cell v l) (hg:w.heap[g]?=some (.cells cs t fr)) (hne:e≠t):v.ownBlock≠some g:=by
 rcases h.2 with ⟨rfl,_⟩|⟨g',cap,cur,rfl,_,hh,_⟩
 ·simp[Value.ownBlock]
 ·intro he
  have:g'=g:=by simpa [Value.ownBlock] using he
  subst this;rw[hg] at hh;injection hh with hh;injection hh with _ ht;exact hne ht.symm
theorem Own.some_ (h:Own w base e sz cell v l) (hn:0<l.length):∃S c,v= .slice (some ⟨S,0,none⟩) l.length c/\base<=S/\S<w.heap.size/\l.length<=c/\∀(i:Nat) (hi:i<l.length) (j:Nat),j<sz->w.cell? ⟨S,i*sz+j,none⟩=some (cell l[i] j)/\w.frozen? ⟨S,i*sz+j,none⟩=false:=by
 have h0:=h;rcases h.2 with ⟨rfl,h1⟩|⟨g',cap,cur,rfl,hg,hh,hc,_⟩
 ·omega
 ·refine⟨g',cap,rfl,hg,lt_of_block hh,hc,fun i hi j hj=>⟨(World.ownsRow.cellAt h0 _ ?_).trans (fl_get sz cell l i hi j hj),World.ownsRow.frozenAt h0 _⟩⟩
  have:(i+1)*sz<=l.length*sz:=Nat.mul_le_mul_right _ hi;rw[Nat.succ_mul] at this;omega
theorem Own.sl {A:Option Addr} {n c:Nat} (h:Own w base e sz cell (.slice A n c) l):n=l.length/\Sl w w.heap.size sz cell A l:=by
 rcases h.2 with ⟨h1,h2⟩|⟨g',cap,cur,h1,hg,hh,hc,_⟩
 ·injection h1 with h1 h3 _
  refine⟨by omega,fun hl=>by omega⟩
 ·injection h1 with h1 h3 h4
  subst h1 h3 h4;refine⟨rfl,fun hl=> ?_⟩;obtain⟨S,c',h5,h6,h7,_,h8⟩:=h.some_ hl;injection h5 with h5 _ _;injection h5 with h5;injection h5 with h5;subst h5;exact⟨g',0,rfl,h7,fun i hi j hj=>by rw[Nat.zero_add];exact(h8 i hi j hj).1⟩
end
theorem cell_new (w:World) (cs:Array Value) (e:TypeId) (j:Nat):(w.alloc (.cells cs e)).cell? ⟨w.heap.size,j,none⟩=cs[j]?:=by
 rw[cell_of_row _ _ _ _ _ _ (heap_alloc_new w _)]
theorem news1 {w:World} {e:TypeId} {x:Int}:∀j,j<1->(w.alloc (.cells #[.int .i64 x] e)).cell? ⟨w.heap.size,j,none⟩=some (ci x j):=by
 intro j hj;obtain rfl:j=0:=by omega
 rw[cell_new];rfl
theorem news2 {w:World} {e:TypeId} {x y:Int}:∀j,j<2->(w.alloc (.cells #[.int .i64 x,.int .i64 y] e)).cell? ⟨w.heap.size,j,none⟩=some (cp (x,y) j):=by
 intro j hj;rw[cell_new]
 match j,hj with
 |0,_=>rfl
 |1,_=>rfl
theorem news3 {w:World} {e:TypeId} {x y z:Int}:∀j,j<3->(w.alloc (.cells #[.int .i64 x,.int .i64 y,.int .i64 z] e)).cell? ⟨w.heap.size,j,none⟩=some (ce (x,y,z) j):=by
 intro j hj;rw[cell_new]
 match j,hj with
 |0,_=>rfl
 |1,_=>rfl
 |2,_=>rfl
theorem one_ci (x:Int) (j:Nat):(ci x j).oneCell'=true:=rfl
theorem one_cp (x:Int × Int) (j:Nat):(cp x j).oneCell'=true:=by unfold cp;split <;> rfl
theorem one_ce (x:Int × Int × Int) (j:Nat):(ce x j).oneCell'=true:=by unfold ce;split <;> rfl
theorem wp_push {α:Type} {P:Program} (w:World) {o:Oper} {a:Act} {K:Act->World->Prop} {Q:Exit->Act->World->Prop} (s x:Operand) (t:TypeId)
 (ho:o.op= .call { callee:= .builtin .append,args:=#[s,x],argTypes:=#[t,t] })
 (base:Nat) (e:TypeId) (i:TypeInfo) (z:Value) (sz bytes:Nat) (cell:α->Nat->Value) (ht:P.underlying t=some (.slice e)) (hi:P.info? e=some i) (hz:i.zero=some z)
 (hsize:i.size=sz) (hby:i.bytes=bytes) (hzs:z.cells.size=sz) (hsz:0<sz)
 (v:Value) (l:List α) (n:Nat) (hn:l.length=n) (hs:a.eval s=v) (hown:Own w base e sz cell v l)
 (g c:Nat) (y:α) (hx:a.eval x= .slice (some ⟨g,0,none⟩) 1 c) (hnews:∀j,j<sz->w.cell? ⟨g,j,none⟩=some (cell y j)) (h1:∀j,j<sz->(cell y j).oneCell'=true)
 (hlen:n+1<=9223372036854775807) (hbytes:(n+1)*bytes<=140737488355328) (hbase:base<=w.heap.size)
 (h:∀A c' w',Own w' base e sz cell (.slice A (n+1) c') (l++[y])->w.grownBy w' v.ownBlock->((Value.slice A (n+1) c').ownBlock=v.ownBlock\/(Value.slice A (n+1) c').ownBlock=some w.heap.size) ->
   K (a.put o.dst (.slice A (n+1) c')) w'):o.wp P a w K Q:=by
 subst hn
 have q1:∀j u,((List.range sz).map (cell y))[j]?=some u->w.cell? ((⟨g,0,none⟩:Addr).add j)=some u:=by
  intro j u hj;rw[List.getElem?_map] at hj;rcases Nat.lt_or_ge j sz with hlt|hge
  ·rw[List.getElem?_range hlt] at hj
   injection hj with hj;rw[Go.WideShapes.add_plain,Nat.zero_add,hnews j hlt, <-hj]
  ·rw[List.getElem?_eq_none (by simpa using hge)] at hj
   cases hj
 have q2:∀u∈(List.range sz).map (cell y),u.oneCell'=true:=by
  intro u hu;rw[List.mem_map] at hu;obtain⟨j,hj,rfl⟩:=hu;exact h1 j (List.mem_range.1 hj)
 obtain⟨v',w',hr,hown',hgrow,_,hat⟩:=run_append_own_at (P:=P) w base t o.type e i z sz bytes ht hi hz hsize hby hzs hsz v l.length (fl sz cell l) hown ⟨g,0,none⟩ 1 c ((List.range sz).map (cell y)) (by simp) q1 q2 hlen hbytes hbase;unfold Oper.wp execOp;simp only[ho,resolve,invoke,builtin,Sem.run_bind,Sem.run_pure,Result.andThen_ok,List.map_toArray,List.map_cons,List.map_nil,hs,hx,hr]
 have hown2:Own w' base e sz cell v' (l++[y]):=by
  unfold Own;rw[fl_snoc,List.length_append];exact hown'
 obtain⟨A,c',hv,_⟩:=hown2.form;rw[List.length_append] at hv;have hv':v'= .slice A (l.length+1) c':=hv;subst hv';exact h A c' w' hown2 hgrow hat
theorem wpList_push {α:Type} {P:Program} (w:World) {ops:Array Oper} {rest:List Oper} {o:Oper} {a:Act} {Q:Exit->Act->World->Prop} (hgd:o.guard=none) (s x:Operand) (t:TypeId)
 (ho:o.op= .call { callee:= .builtin .append,args:=#[s,x],argTypes:=#[t,t] })
 (base:Nat) (e:TypeId) (i:TypeInfo) (z:Value) (sz bytes:Nat) (cell:α->Nat->Value) (ht:P.underlying t=some (.slice e)) (hi:P.info? e=some i) (hz:i.zero=some z)
 (hsize:i.size=sz) (hby:i.bytes=bytes) (hzs:z.cells.size=sz) (hsz:0<sz)
 (v:Value) (l:List α) (n:Nat) (hn:l.length=n) (hs:a.eval s=v) (hown:Own w base e sz cell v l)
 (g c:Nat) (y:α) (hx:a.eval x= .slice (some ⟨g,0,none⟩) 1 c) (hnews:∀j,j<sz->w.cell? ⟨g,j,none⟩=some (cell y j)) (h1:∀j,j<sz->(cell y j).oneCell'=true)
 (hlen:n+1<=9223372036854775807) (hbytes:(n+1)*bytes<=140737488355328) (hbase:base<=w.heap.size)
 (h:∀A c' w',Own w' base e sz cell (.slice A (n+1) c') (l++[y])->w.grownBy w' v.ownBlock->((Value.slice A (n+1) c').ownBlock=v.ownBlock\/(Value.slice A (n+1) c').ownBlock=some w.heap.size) ->
   wpList P ops Q rest (a.put o.dst (.slice A (n+1) c')) w'):wpList P ops Q (o::rest) a w :=
 wpList_plain hgd fun _ hK=>wp_push w s x t ho base e i z sz bytes cell ht hi hz hsize hby hzs hsz v l n hn hs hown g c y hx hnews h1 hlen hbytes hbase fun A c' w' h1 h2 h3=>hK _ _ (h A c' w' h1 h2 h3)
theorem step_push {α:Type} {P:Program} (w:World) {ops:Array Oper} {o:Oper} {a:Act} {K:Act->World->Prop} {Q:Exit->Act->World->Prop} {E:Prop} (hgd:o.guard=none) (s x:Operand) (t:TypeId)
 (ho:o.op= .call { callee:= .builtin .append,args:=#[s,x],argTypes:=#[t,t] })
 (base:Nat) (e:TypeId) (i:TypeInfo) (z:Value) (sz bytes:Nat) (cell:α->Nat->Value) (ht:P.underlying t=some (.slice e)) (hi:P.info? e=some i) (hz:i.zero=some z)
 (hsize:i.size=sz) (hby:i.bytes=bytes) (hzs:z.cells.size=sz) (hsz:0<sz)
 (v:Value) (l:List α) (n:Nat) (hn:l.length=n) (hs:a.eval s=v) (hown:Own w base e sz cell v l)
 (g c:Nat) (y:α) (hx:a.eval x= .slice (some ⟨g,0,none⟩) 1 c) (hnews:∀j,j<sz->w.cell? ⟨g,j,none⟩=some (cell y j)) (h1:∀j,j<sz->(cell y j).oneCell'=true)
 (hlen:n+1<=9223372036854775807) (hbytes:(n+1)*bytes<=140737488355328) (hbase:base<=w.heap.size)
 (h:∀A c' w',Own w' base e sz cell (.slice A (n+1) c') (l++[y])->w.grownBy w' v.ownBlock->((Value.slice A (n+1) c').ownBlock=v.ownBlock\/(Value.slice A (n+1) c').ownBlock=some w.heap.size) ->
   K (a.put o.dst (.slice A (n+1) c')) w'):if Region.wanted o (yielded ops a.tmps)=true then Oper.wp P o a w K Q else E:=by
 have hw:Region.wanted o (yielded ops a.tmps)=true:=by simp[Region.wanted,hgd]
 rw[if_pos hw];exact wp_push w s x t ho base e i z sz bytes cell ht hi hz hsize hby hzs hsz v l n hn hs hown g c y hx hnews h1 hlen hbytes hbase h
theorem divmod {sz j:Nat} (hsz:0<sz):j=j / sz*sz+j % sz/\j % sz<sz:=⟨by have:=Nat.div_add_mod j sz;rw[Nat.mul_comm] at this;omega,Nat.mod_lt _ hsz⟩
theorem fl_some {α:Type} {sz:Nat} {cell:α->Nat->Value} {l:List α} (hsz:0<sz) {j:Nat} {u:Value} (h:(fl sz cell l)[j]?=some u):∃(hi:j / sz<l.length),u=cell (l[j / sz]) (j % sz):=by
 have hj:j<l.length*sz:=by
  rcases Nat.lt_or_ge j (l.length*sz) with h1|h1
  ·exact h1
  ·rw[List.getElem?_eq_none (by rw[fl_len];exact h1)] at h
   cases h
 have hi:j / sz<l.length:=(Nat.div_lt_iff_lt_mul hsz).2 hj;refine⟨hi,?_⟩;have h2:=fl_get sz cell l (j / sz) hi (j % sz) (divmod hsz).2;rw[<-(divmod (j:=j) hsz).1,h] at h2;injection h2
theorem wp_pushAll {α:Type} {P:Program} (w:World) {o:Oper} {a:Act} {K:Act->World->Prop} {Q:Exit->Act->World->Prop} (s x:Operand) (t:TypeId)
 (ho:o.op= .call { callee:= .builtin .append,args:=#[s,x],argTypes:=#[t,t] })
 (base:Nat) (e:TypeId) (i:TypeInfo) (z:Value) (sz bytes:Nat) (cell:α->Nat->Value) (ht:P.underlying t=some (.slice e)) (hi:P.info? e=some i) (hz:i.zero=some z)
 (hsize:i.size=sz) (hby:i.bytes=bytes) (hzs:z.cells.size=sz) (hsz:0<sz)
 (v:Value) (l:List α) (n:Nat) (hn:l.length=n) (hs:a.eval s=v) (hown:Own w base e sz cell v l)
 (B:Nat) (A:Option Addr) (m c:Nat) (r:List α) (hm:r.length=m) (hx:a.eval x= .slice A m c) (hA:A=none->m=0/\c=0) (hr:Sl w B sz cell A r) (h1:∀y j,(cell y j).oneCell'=true)
 (hlen:n+m<=9223372036854775807) (hbytes:(n+m)*bytes<=140737488355328) (hbase:base<=w.heap.size)
 (h:∀A' c' w',Own w' base e sz cell (.slice A' (n+m) c') (l++r)->w.grownBy w' v.ownBlock->((Value.slice A' (n+m) c').ownBlock=v.ownBlock\/(Value.slice A' (n+m) c').ownBlock=some w.heap.size) ->
   K (a.put o.dst (.slice A' (n+m) c')) w'):o.wp P a w K Q:=by
 subst hn hm
 match A,hA with
 |none,hA =>
  obtain⟨h0,rfl⟩:=hA rfl;have hr0:r=[]:=List.eq_nil_of_length_eq_zero h0;subst hr0;obtain⟨A',c',hv,_⟩:=hown.form;have hr:=run_append_owned_none (P:=P) (w:=w) base t o.type e i sz ht hi v l.length (fl sz cell l) hown;unfold Oper.wp execOp;simp only[ho,resolve,invoke,builtin,Sem.run_bind,Sem.run_pure,Result.andThen_ok,List.map_toArray,List.map_cons,List.map_nil,hs,hx,List.length_nil,hr];subst hv;exact h A' c' w (by rw[List.append_nil];exact hown) (World.grownBy.refl w _) (.inl rfl)
 |some ad,_ =>
  have q1:∀j u,(fl sz cell r)[j]?=some u->w.cell? (ad.add j)=some u:=by
   intro j u hj;obtain⟨hi',rfl⟩:=fl_some hsz hj;obtain⟨b,off,hA',_,hc⟩:=hr (Nat.lt_of_le_of_lt (Nat.zero_le _) hi');injection hA' with hA';subst hA';rw[Go.WideShapes.add_plain];have:=hc (j / sz) hi' (j % sz) (divmod hsz).2;rw[<-(divmod (j:=j) hsz).1] at this;exact this
  obtain⟨v',w',hrun,hown',hgrow,_,hat⟩:=run_append_own_at (P:=P) w base t o.type e i z sz bytes ht hi hz hsize hby hzs hsz v l.length (fl sz cell l) hown ad r.length c (fl sz cell r) (fl_len _ _ _) q1 (fl_mem h1) hlen hbytes hbase
  ·unfold Oper.wp execOp
   simp only[ho,resolve,invoke,builtin,Sem.run_bind,Sem.run_pure,Result.andThen_ok,List.map_toArray,List.map_cons,List.map_nil,hs,hx,hrun]
   have hown2:Own w' base e sz cell v' (l++r):=by
    unfold Own;rw[fl_append,List.length_append];exact hown'
   obtain⟨A',c',hv,_⟩:=hown2.form;rw[List.length_append] at hv;subst hv;exact h A' c' w' hown2 hgrow hat
theorem wpList_pushAll {α:Type} {P:Program} (w:World) {ops:Array Oper} {rest:List Oper} {o:Oper} {a:Act} {Q:Exit->Act->World->Prop} (hgd:o.guard=none) (s x:Operand) (t:TypeId)
 (ho:o.op= .call { callee:= .builtin .append,args:=#[s,x],argTypes:=#[t,t] })
 (base:Nat) (e:TypeId) (i:TypeInfo) (z:Value) (sz bytes:Nat) (cell:α->Nat->Value) (ht:P.underlying t=some (.slice e)) (hi:P.info? e=some i) (hz:i.zero=some z)
 (hsize:i.size=sz) (hby:i.bytes=bytes) (hzs:z.cells.size=sz) (hsz:0<sz)
 (v:Value) (l:List α) (n:Nat) (hn:l.length=n) (hs:a.eval s=v) (hown:Own w base e sz cell v l)
 (B:Nat) (A:Option Addr) (m c:Nat) (r:List α) (hm:r.length=m) (hx:a.eval x= .slice A m c) (hA:A=none->m=0/\c=0) (hr:Sl w B sz cell A r) (h1:∀y j,(cell y j).oneCell'=true)
 (hlen:n+m<=9223372036854775807) (hbytes:(n+m)*bytes<=140737488355328) (hbase:base<=w.heap.size)
 (h:∀A' c' w',Own w' base e sz cell (.slice A' (n+m) c') (l++r)->w.grownBy w' v.ownBlock->((Value.slice A' (n+m) c').ownBlock=v.ownBlock\/(Value.slice A' (n+m) c').ownBlock=some w.heap.size) ->
   wpList P ops Q rest (a.put o.dst (.slice A' (n+m) c')) w'):wpList P ops Q (o::rest) a w :=
 wpList_plain hgd fun _ hK=>wp_pushAll w s x t ho base e i z sz bytes cell ht hi hz hsize hby hzs hsz v l n hn hs hown B A m c r hm hx hA hr h1 hlen hbytes hbase fun A' c' w' h1 h2 h3=>hK _ _ (h A' c' w' h1 h2 h3)
theorem step_pushAll {α:Type} {P:Program} (w:World) {ops:Array Oper} {o:Oper} {a:Act} {K:Act->World->Prop} {Q:Exit->Act->World->Prop} {E:Prop} (hgd:o.guard=none) (s x:Operand) (t:TypeId)
 (ho:o.op= .call { callee:= .builtin .append,args:=#[s,x],argTypes:=#[t,t] })
 (base:Nat) (e:TypeId) (i:TypeInfo) (z:Value) (sz bytes:Nat) (cell:α->Nat->Value) (ht:P.underlying t=some (.slice e)) (hi:P.info? e=some i) (hz:i.zero=some z)
 (hsize:i.size=sz) (hby:i.bytes=bytes) (hzs:z.cells.size=sz) (hsz:0<sz)
 (v:Value) (l:List α) (n:Nat) (hn:l.length=n) (hs:a.eval s=v) (hown:Own w base e sz cell v l)
 (B:Nat) (A:Option Addr) (m c:Nat) (r:List α) (hm:r.length=m) (hx:a.eval x= .slice A m c) (hA:A=none->m=0/\c=0) (hr:Sl w B sz cell A r) (h1:∀y j,(cell y j).oneCell'=true)
 (hlen:n+m<=9223372036854775807) (hbytes:(n+m)*bytes<=140737488355328) (hbase:base<=w.heap.size)
 (h:∀A' c' w',Own w' base e sz cell (.slice A' (n+m) c') (l++r)->w.grownBy w' v.ownBlock->((Value.slice A' (n+m) c').ownBlock=v.ownBlock\/(Value.slice A' (n+m) c').ownBlock=some w.heap.size) ->
   K (a.put o.dst (.slice A' (n+m) c')) w'):if Region.wanted o (yielded ops a.tmps)=true then Oper.wp P o a w K Q else E:=by
 have hw:Region.wanted o (yielded ops a.tmps)=true:=by simp[Region.wanted,hgd]
 rw[if_pos hw];exact wp_pushAll w s x t ho base e i z sz bytes cell ht hi hz hsize hby hzs hsz v l n hn hs hown B A m c r hm hx hA hr h1 hlen hbytes hbase h
theorem sl_new {α:Type} {sz:Nat} (hsz:0<sz) {cell:α->Nat->Value} (w:World) (cs:Array Value) (e:TypeId) (l:List α) (h:cs.toList=fl sz cell l):Sl (w.alloc (.cells cs e)) (w.alloc (.cells cs e)).heap.size sz cell (some ⟨w.heap.size,0,none⟩) l:=by
 intro hl;refine⟨w.heap.size,0,rfl,by simp,fun i hi j hj=> ?_⟩;rw[Nat.zero_add,cell_new, <-Array.getElem?_toList,h];exact fl_get sz cell l i hi j hj
namespace NetLaw
abbrev E:=Int × Int × Int
def endsBad (N:Int) (e:E):Prop:=e.1<0\/N<=e.1\/e.2.1<0\/N<=e.2.1
def costBad (e:E):Prop:=e.2.2< -10000\/10000<e.2.2
instance (N:Int) (e:E):Decidable (endsBad N e):=by unfold endsBad;infer_instance
instance (e:E):Decidable (costBad e):=by unfold costBad;infer_instance
def chkE (N:Int):List E->Int
 | []=>0
 |e::r=>if endsBad N e then 1 else if costBad e then 4 else chkE N r
def chk (N:Int) (l:List E):Int:=if N<1\/64<N then 1 else if 600<l.length then 2 else chkE N l
theorem chkE_drop (N:Int) (l:List E) (k:Nat) (h:k<l.length):chkE N (l.drop k)=if endsBad N l[k] then 1 else if costBad l[k] then 4 else chkE N (l.drop (k+1)):=by
 rw[List.drop_eq_getElem_cons h];rfl
theorem chkE_zero {N:Int} {l:List E}:chkE N l=0 ↔ ∀e∈l,¬endsBad N e/\¬costBad e:=by
 induction l with
 |nil=>simp[chkE]
 |cons e r ih =>
  unfold chkE
  by_cases h1:endsBad N e
  ·simp[h1]
  ·by_cases h2:costBad e
   ·simp[h1,h2]
   ·rw[if_neg h1,if_neg h2,ih];simp[h1,h2]
structure Good (N:Int) (l:List E):Prop where
 lo:1<=N
 hi:N<=64
 len:l.length<=600
 ends:∀e∈l,0<=e.1/\e.1<N/\0<=e.2.1/\e.2.1<N
 cost:∀e∈l,-10000<=e.2.2/\e.2.2<=10000
theorem chk_zero {N:Int} {l:List E}:chk N l=0 ↔ Good N l:=by
 unfold chk
 constructor
 ·intro h
  split at h
  ·omega
  ·split at h
   ·omega
   ·rw[chkE_zero] at h
    refine⟨by omega,by omega,by omega,fun e he=> ?_,fun e he=> ?_⟩
    ·have:=(h e he).1;unfold endsBad at this;omega
    ·have:=(h e he).2;unfold costBad at this;omega
 ·intro h
  have h1:=h.lo;have h2:=h.hi;have h3:=h.len;rw[if_neg (by omega),if_neg (by omega),chkE_zero];intro e he;have a:=h.ends e he;have b:=h.cost e he;unfold endsBad costBad;omega
end NetLaw
namespace Net
open Go.RowKit NetLaw
theorem check_any (N:Int) (A:Option Addr) (c:Nat) (l:List E) (w:World) (hl:Sl w w.heap.size 3 ce A l) (hlen:l.length<=9223372036854775807) :
 Calls Tryz.prog 24 #[.agg #[.int .i64 N,.slice A l.length c]] w fun e w'=>e= .returned (.int .i64 (chk N l))/\Below w.heap.size w w':=by
 by_cases h1:N<1\/64<N
 ·have hfin:chk N l=1:=by rw[chk,if_pos h1]
  rw[hfin];clear hfin hl;rcases (show N<1\/(1<=N/\64<N) from by omega) with h|h
  all_goals
   go_enter Tryz.func24,Tryz.ntmps24;go_wp2;go_ret;exact⟨rfl,(Below.refl _ _).alloc zzL _⟩
 ·by_cases h2:600<l.length
  ·have hfin:chk N l=2:=by rw[chk,if_neg h1,if_pos h2]
   rw[hfin];clear hfin hl;go_enter Tryz.func24,Tryz.ntmps24;go_wp2;go_ret;exact⟨rfl,(Below.refl _ _).alloc zzL _⟩
  ·have hfin:chk N l=chkE N l:=by rw[chk,if_neg h1,if_neg h2]
   rw[hfin];clear hfin hlen;have h3:1<=N:=by omega
   have h4:N<=64:=by omega
   have h5:l.length<=600:=by omega
   clear h1 h2;go_enter Tryz.func24,Tryz.ntmps24;go_wp2
   go_loopw [20] (fun i wr=>∃k:Nat,k<=l.length/\i= .int .i64 k/\chkE N l=chkE N (l.drop k)/\Below (w.heap.size+1) (w.alloc (.cells #[.int .i64 N,.slice A l.length c] 24)) wr) (fun i _=>l.length - (intOf i).toNat)
   case atStart=>exact⟨0,Nat.zero_le _,rfl,rfl,Below.refl _ _⟩
   case round =>
    obtain⟨k,hk,rfl,hchk,hB⟩:=hrel;have HC:=hid hchk;clear hchk
    by_cases hlt:k<l.length
    ·have hl2:=(hl.keep ((Below.refl _ _).alloc zzL _) zzL).keep hB (Nat.le_succ _)
     obtain⟨b,off,f,t,cc,rfl,hbB,he,hcf,hct,hcc⟩:=hl2.atE hlt
     have hs:chkE N l=if f<0\/N<=f\/t<0\/N<=t then 1 else if cc< -10000\/10000<cc then 4 else chkE N (l.drop (k+1)):=by
      have h9:=chkE_drop N l k hlt;rw[he, <-HC.out] at h9;exact h9
     have HS:=hid hs;clear he hl2 hl hs HC;obtain⟨c1,f1⟩:=keepN hB;have hsz:w.heap.size<wr.heap.size:=by have:=hB.size;simp at this;omega
     have hE:=(((Below.refl _ _).alloc zzL _).trans (hB.mono (Nat.le_succ _))).alloc (by omega) (.cells #[.int .i64 f,.int .i64 t,.int .i64 cc] 70);go_wp2
     all_goals first
      |(go_ret
        exact⟨ret_int (by have e:=HS.out;first|(rw[if_pos (by omega)] at e;exact e.symm)|(rw[if_neg (by omega),if_pos (by omega)] at e;exact e.symm)),hE⟩)
      |(go_roundw
        case rel=>exact⟨k+1,by omega,by go_num,by have e:=HS.out;rw[if_neg (by omega),if_neg (by omega)] at e;exact e,hB.alloc (by omega) _⟩
        case measure=>simp[intOf];omega)
    ·obtain rfl:k=l.length:=by omega
     have hz:chkE N l=0:=by rw[HC.out,List.drop_length];rfl
     have HZ:=hid hz;clear hz HC hl;have hE:=((Below.refl _ _).alloc zzL _).trans (hB.mono (Nat.le_succ _));go_wp2;go_ret;exact⟨ret_int HZ.out.symm,hE⟩
end Net
namespace Net
open Go.RowKit NetLaw
theorem blk_set {w:World} {g:Nat} {t:TypeId} {cs:Array Value} (h:w.heap[g]?=some (.cells cs t (0,0))) (i:Nat) (u:Value):(w.setCell ⟨g,i,none⟩ u).heap[g]?=some (.cells (cs.setIfInBounds i u) t (0,0)):=by
 simp[World.setCell,Array.getElem?_modify,h]
theorem blk_cell {w:World} {g:Nat} {t:TypeId} {cs:Array Value} (h:w.heap[g]?=some (.cells cs t (0,0))) (i:Nat):w.cell? ⟨g,i,none⟩=cs[i]?:=cell_of_row w g i cs t (0,0) h
theorem blk_free {w:World} {g:Nat} {t:TypeId} {cs:Array Value} (h:w.heap[g]?=some (.cells cs t (0,0))) (i:Nat):w.frozen? ⟨g,i,none⟩=false:=by simp[World.frozen?,h]
theorem blk_alloc {w:World} {g:Nat} {o:Obj} (h:w.heap[g]?=some o) (o':Obj):(w.alloc o').heap[g]?=some o:=(Below.heap_alloc _ _ _ (lt_of_block h)).trans h
theorem blk_grown {w w1:World} {g:Nat} {o:Obj} {row:Option Nat} (h:w.heap[g]?=some o) (hg:w.grownBy w1 row) (hne:row≠some g):w1.heap[g]?=some o:=(hg.block g (lt_of_block h) (fun e=>hne e.symm)).trans h
theorem blk_far {w:World} {g:Nat} {o:Obj} (h:w.heap[g]?=some o) {p:Addr} (hne:g≠p.block) (u:Value):(w.setCell p u).heap[g]?=some o:=(Below.heap_setCell _ _ _ _ hne).trans h
theorem blk_below {w w1:World} {g B:Nat} {o:Obj} (h:w.heap[g]?=some o) (hb:Below B w w1) (hB:g<B):w1.heap[g]?=some o:=(hb.block g hB).trans h
theorem news3' {w:World} {e:TypeId} {x y z:Int} {g:Nat} (hg:w.heap.size=g):∀j,j<3->(w.alloc (.cells #[.int .i64 x,.int .i64 y,.int .i64 z] e)).cell? ⟨g,j,none⟩=some (ce (x,y,z) j):=by
 subst hg;exact news3
def tl (l:List E):List E:=l.map fun e=>(e.2.1,e.1,e.2.2)
theorem tl_len (l:List E):(tl l).length=l.length:=by simp[tl]
theorem tl_succ {l:List E} {k:Nat} (h:k<l.length) {f t c:Int} (he:l[k]=(f,t,c)):tl (l.take (k+1))=tl (l.take k)++[(t,f,c)]:=by
 rw[List.take_succ_eq_append_getElem h,he];simp[tl]
theorem infoEdge:(Tryz.prog.info? 70).map (fun i=>(i.zero,i.size,i.bytes))=some (some (.agg #[.int .i64 0,.int .i64 0,.int .i64 0]),3,24):=by kernel_rfl
def SomeNet (N:Int) (l:List E) (w:World) (e:Ending) (w':World):Prop :=
 ∃A c,e= .returned (.agg #[.int .i64 N,.slice A l.length c])/\Own w' w.heap.size 70 3 ce (.slice A l.length c) l/\Below w.heap.size w w'
theorem turned_any (N:Int) (A:Option Addr) (c:Nat) (l:List E) (w:World) (hl:Sl w w.heap.size 3 ce A l) (hlen:l.length<=1000000) :
 Calls Tryz.prog 46 #[.agg #[.int .i64 N,.slice A l.length c]] w fun e w'=>SomeNet N (tl l) w e w':=by
 obtain⟨i0,hi,hz0,hz1,hz2⟩:=info_parts infoEdge;go_enter Tryz.func46,Tryz.ntmps46;go_wp2
 go_loopw [12] (fun i wr=>∃(k:Nat) (A':Option Addr) (c':Nat),k<=l.length/\i= .int .i64 k/\wr.heap[w.heap.size+1+1]?=some (.cells #[.int .i64 N,.slice A' k c'] 24 (0,0))/\(∃cs,wr.heap[w.heap.size+1]?=some (.cells cs 24 (0,0))/\cs.size=2) /\
  Own wr w.heap.size 70 3 ce (.slice A' k c') (tl (l.take k))/\Below w.heap.size w wr) (fun i _=>l.length - (intOf i).toNat)
 case atStart=>exact⟨0,none,0,Nat.zero_le _,rfl,by have h:=heap_alloc_new ((w.alloc (.cells #[.int .i64 N,.slice A l.length c] 24)).alloc (.cells #[.int .i64 0,.slice none 0 0] 24)) (.cells #[.int .i64 N,.slice none 0 0] 24);simp at h ⊢;exact h,
  ⟨#[.int .i64 0,.slice none 0 0],by have h:=heap_alloc_new (w.alloc (.cells #[.int .i64 N,.slice A l.length c] 24)) (.cells #[.int .i64 0,.slice none 0 0] 24);have h2:=blk_alloc h (.cells #[.int .i64 N,.slice none 0 0] 24);simp at h2 ⊢;exact h2,rfl⟩,Own.nil_,(((Below.refl _ _).alloc zzL _).alloc (by simp) _).alloc (by simp;omega) _⟩
 case round =>
  obtain⟨k,A',c',hk,rfl,hO,⟨cs,hR,hcs⟩,hown,hB⟩:=hrel;have hO0:=blk_cell hO 0;have hO1:=blk_cell hO 1;have hOz:=lt_of_block hO;simp only[zzG,zzH,zzI] at hO0 hO1;have HCS:=hid hcs;clear hcs
  by_cases hlt:k<l.length
  ·obtain⟨b,off,f,t,cc,rfl,hbB,he,hcf,hct,hcc⟩:=(hl.keep hB zzL).atE hlt
   have hst:=tl_succ hlt he;have hln:(tl (l.take k)).length=k:=by rw[tl_len,List.length_take];omega
   have HST:=hid hst;have HLN:=hid hln;clear hst hln he
   go_wp2_with (at_builtin;refine wpList_push _ rfl (.tmp 17) (.tmp 25) _ rfl w.heap.size 70 i0 _ 3 24 ce Tryz.underlying22 hi hz0 hz1 hz2 rfl (by decide) _ (tl (l.take k)) k HLN.out rfl ((hown.alloc _).alloc _) (wr.heap.size+1) 1 (t,f,cc) rfl (news3' (by simp)) (fun _ _=>one_ce _ _) (by omega) (by omega) (by have:=hB.size;simp;omega) ?_;intro A3 c3 w3 hown3 hgrow3 hat3;have hO3:=blk_grown (blk_alloc (blk_alloc hO _) _) hgrow3 (hown.ne_ hO (by decide));have hR3:=blk_grown (blk_alloc (blk_alloc hR _) _) hgrow3 (hown.ne_ hR (by decide));have hc3:=blk_cell hO3 1;have hf3:=blk_free hO3 1;simp only[zzG,zzH,zzI] at hc3;clear hO0 hO1 hO hR)
   have hB3:Below w.heap.size w w3:=((hB.alloc hB.size _).alloc (by have:=hB.size;simp;omega) _).grown hgrow3 (by have:=hB.size;simp;omega) hown.lo;clear hgrow3
   go_roundw
   case rel =>
    refine⟨k+1,A3,c3,by omega,by go_num,blk_set hO3 1 _,⟨cs,blk_far hR3 (by dsimp only;omega) _,HCS.out⟩,?_,hB3.setCell (by dsimp only;omega) _⟩;rw[HST.out];exact hown3.setCell (hown3.ne_ hO3 (by decide)) _
   case measure=>simp[intOf];omega
  ·obtain rfl:k=l.length:=by omega
   have hc0:=blk_cell hR 0;have hc1:=blk_cell hR 1;have hf0:=blk_free hR 0;have hf1:=blk_free hR 1
   obtain⟨x0,x1,rfl⟩:∃x0 x1,cs=#[x0,x1]:=by
    obtain⟨cl⟩:=cs
    match cl,HCS.out with
    | [x0,x1],_=>exact⟨x0,x1,rfl⟩
   simp only[zzG,zzH,zzI] at hc0 hc1;have hown2:Own wr w.heap.size 70 3 ce (.slice A' l.length c') (tl l):=by rw[List.take_length] at hown;exact hown
   clear HCS hown hl;go_wp2;refine bodyPost_ret (v:= .agg #[.int .i64 N,.slice A' l.length c']) (by simp[results,Tryz.results46,go_sem,hc0,hc1,hO0,hO1]) rfl ⟨A',c',by rw[tl_len],?_,?_⟩
   ·rw[tl_len]
    have hne:=hown2.ne_ hR (by decide);exact(hown2.setCell hne _).setCell hne _
   ·exact(hB.setCell (by dsimp only;omega) _).setCell (by dsimp only;omega) _
end Net
open Go.RowKit
theorem fl_set {α:Type} {sz:Nat} {cell:α->Nat->Value} (l:List α) (k j0:Nat) (a':α) (hk:k<l.length) (hj:j0<sz) (h:∀j,j<sz->j≠j0->cell a' j=cell l[k] j):fl sz cell (l.set k a')=(fl sz cell l).set (k*sz+j0) (cell a' j0):=by
 induction l generalizing k with
 |nil=>simp at hk
 |cons a r ih =>
  have e1:fl sz cell (a::r)=(List.range sz).map (cell a)++fl sz cell r:=rfl
  match k,hk with
  |0,_ =>
   have e2:fl sz cell ((a::r).set 0 a')=(List.range sz).map (cell a')++fl sz cell r:=rfl;rw[e2,e1,Nat.zero_mul,Nat.zero_add,List.set_append_left _ _ (by simpa using hj)]
   congr 1
   refine List.ext_getElem (by simp) fun i h1 h2=> ?_;simp only[List.length_map,List.length_range] at h1;rw[List.getElem_set]
   by_cases e:j0=i
   ·subst e;simp
   ·rw[if_neg e]
    simp only[List.getElem_map,List.getElem_range];exact h i h1 (fun x=>e x.symm)
  |k+1,hk =>
   have e2:fl sz cell ((a::r).set (k+1) a')=(List.range sz).map (cell a)++fl sz cell (r.set k a'):=rfl;have e3:(k+1)*sz+j0 - sz=k*sz+j0:=by rw[Nat.succ_mul];omega
   rw[e2,e1,List.set_append_right _ _ (by simp;rw[Nat.succ_mul];omega),ih k (by simpa using hk) (fun j hj hne=>h j hj hne)];simp[e3]
theorem own_setj {α:Type} {sz:Nat} {cell:α->Nat->Value} {w:World} {base:Nat} {e:TypeId} {S c n:Nat} {l:List α} (hn:l.length=n) (h:Own w base e sz cell (.slice (some ⟨S,0,none⟩) n c) l) (k j0:Nat) (a':α) (hk:k<l.length) (hj:j0<sz) (hc:∀j,j<sz->j≠j0->cell a' j=cell l[k] j) :
 Own (w.setCell ⟨S,k*sz+j0,none⟩ (cell a' j0)) base e sz cell (.slice (some ⟨S,0,none⟩) n c) (l.set k a'):=by
 subst hn;have hs:=World.ownsRow.stored h (k*sz+j0) (cell a' j0);unfold Own;rw[List.length_set,fl_set l k j0 a' hk hj hc];exact hs.1
theorem own_atE {w:World} {base:Nat} {e:TypeId} {A:Option Addr} {n c:Nat} {l:List (Int × Int × Int)} (hn:l.length=n) (h:Own w base e 3 ce (.slice A n c) l) {k:Nat} (hk:k<l.length) :
 ∃S f t co,A=some ⟨S,0,none⟩/\base<=S/\S<w.heap.size/\l[k]=(f,t,co)/\w.cell? ⟨S,k*3,none⟩=some (.int .i64 f)/\w.cell? ⟨S,k*3+1,none⟩=some (.int .i64 t)/\w.cell? ⟨S,k*3+2,none⟩=some (.int .i64 co)/\w.frozen? ⟨S,k*3,none⟩=false/\w.frozen? ⟨S,k*3+1,none⟩=false/\w.frozen? ⟨S,k*3+2,none⟩=false:=by
 subst hn;obtain⟨S,c',hv,hb,hS,_,hc⟩:=h.some_ (by omega);injection hv with hv _ _;exact⟨S,_,_,_,hv,hb,hS,rfl,(hc k hk 0 (by omega)).1,(hc k hk 1 (by omega)).1,(hc k hk 2 (by omega)).1,(hc k hk 0 (by omega)).2,(hc k hk 1 (by omega)).2,(hc k hk 2 (by omega)).2⟩
theorem own_new' {α:Type} {sz:Nat} {cell:α->Nat->Value} (w:World) (cs:Array Value) (e:TypeId) {l:List α} {g n base:Nat} (hg:w.heap.size=g) (hn:l.length=n) (hb:base<=w.heap.size) (hm:n<=1000000) (h:cs.toList=fl sz cell l) :
 Own (w.alloc (.cells cs e)) base e sz cell (.slice (some ⟨g,0,none⟩) n n) l:=by
 subst hg hn;have k:=World.ownsRow_lit (base:=base) (e:=e) (size:=sz) w cs l.length hb (by unfold maxLen;omega) (by rw[<-Array.length_toList,h,fl_len]);unfold Own;rw[<-h];exact k
end Go.Proofs.YtjebckehmmbkbaaGreat
