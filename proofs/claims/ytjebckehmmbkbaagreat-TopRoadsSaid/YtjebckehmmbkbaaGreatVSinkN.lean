/- A region that draws its order, whose last operations (from number n on) are stores over what was loaded: S behind each operation before them. -/
import Derived.StillTailTactics
import Derived.Test.YtjebckehmmbkbaaGreatVRowSet
set_option linter.unusedSimpArgs false
set_option linter.unusedVariables false
set_option maxRecDepth 100000
set_option maxHeartbeats 24000000
namespace Go.Proofs.YtjebckehmmbkbaaGreat
namespace SinkN
open Go
section
variable {P:Program} {ops:Array Oper} {Q:Exit->Act->World->Prop} {md:Region.Mode} {S:World->Prop} {n:Nat} {skip:List Nat}
def exq (n:Nat) (skip:List Nat) (i:Nat):Bool:=decide (n<=i) || skip.contains i
def AnyN (P:Program) (md:Region.Mode) (ops:Array Oper) (Q:Exit->Act->World->Prop) (S:World->Prop) (n:Nat) (skip:List Nat):Nat->Array Bool->Act->World->Prop
 |0,listed,a,w=>Region.ready md ops listed=[]/\Q .normal a w
 |f+1,listed,a,w=>(Region.ready md ops listed=[]->Q .normal a w)/\∀i∈Region.ready md ops listed,wpOp P ops Q i (fun a' w'=>(exq n skip i=true\/S w')/\AnyN P md ops Q S n skip f (listed.setIfInBounds i true) a' w') a w
theorem AnyN.any:∀(f:Nat) (listed:Array Bool) (a:Act) (w:World),AnyN P md ops Q S n skip f listed a w->wpAny P md ops Q f listed a w
 |0,_,_,_,h=>h
 |f+1,_,_,_,h=>⟨h.1,fun i hi=>wpOp_mono (fun a' w' h'=>AnyN.any f _ a' w' h'.2) (h.2 i hi)⟩
theorem start {id:Nat} {a:Act} {w:World} (n:Nat) (skip:List Nat) (S:World->Prop) (hm:P.follows .mixedOrders=true) (h:AnyN P .any ops Q S n skip ops.size (Array.replicate ops.size false) a w.drew):(Code.region id ops true).wp P Q a w :=
 wp_region_any hm (AnyN.any _ _ _ _ h)
def sinkS (md:Region.Mode) (ops:Array Oper) (n:Nat) (skip:List Nat):Bool :=
 (List.range n).all fun i=>skip.contains i || (List.range (n+1)).any fun j=>decide (i<j) && !skip.contains j && Region.waitsFor md ops j i
theorem waits {listed:Array Bool} (hs:sinkS md ops n skip=true) (hc:Region.chainB md ops n=true) (hn:n<ops.size) (inv:HeadInv md ops n listed) :
 ∀(d i:Nat),n - i=d->i<n->skip.contains i=false->listed.getD i true=false->∀t,n<=t->t ∉ Region.ready md ops listed:=by
 intro d
 induction d using Nat.strongRecOn with
 |_ d ih =>
  intro i hd hi hsk hun t ht hr;obtain⟨_,ot,hot,hall⟩:=mem_ready.1 hr;have htlt:t<ops.size:=(Array.getElem?_eq_some_iff.1 hot).1
  by_cases htn:t=n
  ·subst htn
   have h1:=List.all_eq_true.1 hs i (List.mem_range.2 hi);rw[hsk,Bool.false_or] at h1;obtain⟨j,hj,hj2⟩:=List.any_eq_true.1 h1;simp only[Bool.and_eq_true,decide_eq_true_eq,Bool.not_eq_true'] at hj2;obtain⟨oj,hoj,e,he,hb,hon⟩:=Region.waitsFor_spec hj2.2;have hjle:j<=t:=by have:=List.mem_range.1 hj;omega
   by_cases hjt:j=t
   ·subst hjt
    have:oj=ot:=Option.some.inj (hoj.symm.trans hot);subst this;have h2:=hall e he hb;rw[hon,getD_both hun] at h2;cases h2
   ·cases hl:listed.getD j false with
    |true =>
     have h2:=inv.closed j oj hoj hl e he hb;rw[hon,getD_both hun] at h2;cases h2
    |false =>
     have hjs:j<listed.size:=by rw[inv.size];omega
     exact ih (t - j) (by omega) j rfl (by omega) hj2.1.2 (getD_in hjs hl) t zzL hr
  ·have h1:=List.all_eq_true.1 hc t (List.mem_range.2 htlt)
   simp only[Bool.or_eq_true,decide_eq_true_eq] at h1;rcases h1 with h1|h1
   ·omega
   ·obtain⟨o',ho',e,he,hb,hon⟩:=Region.waitsFor_spec h1
    have:o'=ot:=Option.some.inj (ho'.symm.trans hot);subst this;have h2:=hall e he hb;rw[hon,getD_both (inv.tail (t - 1) (by omega) (by omega))] at h2;cases h2
def headB (md:Region.Mode) (ops:Array Oper) (n:Nat) (listed:Array Bool):Bool :=
 decide (listed.size=ops.size) && ((List.range ops.size).all fun j=>match ops[j]? with|some oj=> !listed.getD j false || oj.after.all fun e=> !Region.binds md e || listed.getD e.on false|none=>true) && (List.range ops.size).all fun t=>decide (t<n) || !listed.getD t true
theorem headB_spec {listed:Array Bool} (h:headB md ops n listed=true):HeadInv md ops n listed:=by
 simp only[headB,Bool.and_eq_true,decide_eq_true_eq] at h;obtain⟨⟨h1,h2⟩,h3⟩:=h;refine⟨h1,fun j oj hj hl e he hb=> ?_,fun t ht htn=> ?_⟩
 ·have hjs:j<ops.size:=(Array.getElem?_eq_some_iff.1 hj).1
  have h4:=List.all_eq_true.1 h2 j (List.mem_range.2 hjs);rw[hj] at h4;simp only[hl,Bool.not_true,Bool.false_or] at h4;have h5:=(Array.all_eq_true'.1 h4) e he;simp only[hb,Bool.not_true,Bool.false_or] at h5;exact h5
 ·have h4:=List.all_eq_true.1 h3 t (List.mem_range.2 htn)
  simp only[Bool.or_eq_true,decide_eq_true_eq,Bool.not_eq_true'] at h4;rcases h4 with h4|h4
  ·omega
  ·exact h4
theorem AnyN.free_ {i:Nat} {oi:Oper} {v:Value} (hi:ops[i]?=some oi) (hsel:Region.noSelect ops=true) (hex:exq n skip i=true) (hQ:∀c a w,Q (.panic c) (a.put oi.dst v) w->Q (.panic c) a w):∀(f:Nat) (listed:Array Bool) (a:Act) (w:World),
 (∀j oj,ops[j]?=some oj->j≠i->listed.getD j true=false->(∀e∈oj.after,Region.binds md e=true->e.on≠i)->oi.apart ops oj=true) ->
 i∈Region.ready md ops listed->YieldsIf P ops (fun _=>True) oi v a->AnyN P md ops Q S n skip f (listed.setIfInBounds i true) (a.put oi.dst v) w->AnyN P md ops Q S n skip (f+1) listed a w:=by
 have sel:=Region.noSelect_spec hsel;intro f
 induction f with
 |zero =>
  intro listed a w _ hr hy H;refine⟨fun h=>(by rw[h] at hr;cases hr),fun j hj=> ?_⟩
  by_cases e:j=i
  ·rw[e]
   exact hy.wpOp hi trivial ⟨.inl hex,H⟩
  ·have:=ready_mono hj e
   rw[H.1] at this;cases this
 |succ f ih =>
  intro listed a w hfree hr hy H;have hun:=(mem_ready.1 hr).1;refine⟨fun h=>(by rw[h] at hr;cases hr),fun j hj=> ?_⟩
  by_cases e:j=i
  ·rw[e]
   exact hy.wpOp hi trivial ⟨.inl hex,H⟩
  ·obtain⟨hjun,oj,hoj,hall⟩:=mem_ready.1 hj
   have hno:∀x∈oj.after,Region.binds md x=true->x.on≠i:=fun x hx hb hxi=>by
    have h1:=hall x hx hb;rw[hxi,getD_both hun] at h1;cases h1
   have h2:=wpOp_putIf hoj (hfree j oj hoj e hjun hno) (fun cs b=>sel i oi cs b hi) (fun cs b=>sel j oj cs b hoj) hQ hy (H.2 j (ready_mono hj e));refine wpOp_mono (fun a' w' h3=>⟨h3.2.1,ih (listed.setIfInBounds j true) a' w' (fun k ok hk hki hku hkn=> ?_) (ready_mono hr (fun h=>e h.symm)) h3.1 ?_⟩) h2
   ·refine hfree k ok hk hki ?_ hkn
    by_cases hjk:j=k
    ·subst hjk;exact hjun
    ·rw[getD_set_ne true hjk] at hku
     exact hku
   ·rw[Array.setIfInBounds_comm _ _ e]
    exact h3.2.2
theorem AnyN.first {i:Nat} {oi:Oper} {v:Value} (hi:ops[i]?=some oi) (hsel:Region.noSelect ops=true) (hs:sinkS md ops n skip=true) (hc:Region.chainB md ops n=true) (hn:n<ops.size) (hin:i<n) (hsk:skip.contains i=false)
 (hQ:∀c a w,Q (.panic c) (a.put oi.dst v) w->Q (.panic c) a w):∀(f:Nat) (listed:Array Bool) (a:Act) (w:World),HeadInv md ops n listed->(∀k∈skip,listed.getD k true=true) ->
   (∀j oj,ops[j]?=some oj->j≠i->listed.getD j true=false->(∀e∈oj.after,Region.binds md e=true->e.on≠i)->oi.apart ops oj=true) ->
   i∈Region.ready md ops listed->YieldsIf P ops S oi v a->S w->AnyN P md ops Q S n skip f (listed.setIfInBounds i true) (a.put oi.dst v) w->AnyN P md ops Q S n skip (f+1) listed a w:=by
 have sel:=Region.noSelect_spec hsel;intro f
 induction f with
 |zero =>
  intro listed a w inv _ _ hr hy hS H;refine⟨fun h=>(by rw[h] at hr;cases hr),fun j hj=> ?_⟩
  by_cases e:j=i
  ·rw[e]
   exact hy.wpOp hi hS ⟨.inr hS,H⟩
  ·have:=ready_mono hj e
   rw[H.1] at this;cases this
 |succ f ih =>
  intro listed a w inv hskl hfree hr hy hS H;have hun:=(mem_ready.1 hr).1;refine⟨fun h=>(by rw[h] at hr;cases hr),fun j hj=> ?_⟩
  have hjn:j<n:=by
   rcases Nat.lt_or_ge j n with h|h
   ·exact h
   ·exact absurd hj (waits hs hc hn inv _ i rfl hin hsk hun j h)
  by_cases e:j=i
  ·rw[e]
   exact hy.wpOp hi hS ⟨.inr hS,H⟩
  ·obtain⟨hjun,oj,hoj,hall⟩:=mem_ready.1 hj
   have hno:∀x∈oj.after,Region.binds md x=true->x.on≠i:=fun x hx hb hxi=>by
    have h1:=hall x hx hb;rw[hxi,getD_both hun] at h1;cases h1
   have hjs:exq n skip j=false:=by
    unfold exq;rw[Bool.or_eq_false_iff];refine⟨decide_eq_false (by omega),?_⟩;cases hcj:skip.contains j with
    |false=>rfl
    |true =>
     have:=hskl j (by simpa using hcj);rw[hjun] at this;cases this
   have h2:=wpOp_putIf hoj (hfree j oj hoj e hjun hno) (fun cs b=>sel i oi cs b hi) (fun cs b=>sel j oj cs b hoj) hQ hy (H.2 j (ready_mono hj e));refine wpOp_mono (fun a' w' h3=> ?_) h2;have hSw:S w':=h3.2.1.resolve_left (by rw[hjs];decide);refine⟨.inr hSw,ih (listed.setIfInBounds j true) a' w' (inv.set hj hjn) (fun k hk=> ?_) (fun k ok hk hki hku hkn=> ?_) (ready_mono hr (fun h=>e h.symm)) h3.1 hSw ?_⟩
   ·by_cases hjk:j=k
    ·subst hjk
     rw[hskl j hk] at hjun;cases hjun
    ·rw[getD_set_ne true hjk]
     exact hskl k hk
   ·refine hfree k ok hk hki ?_ hkn
    by_cases hjk:j=k
    ·subst hjk;exact hjun
    ·rw[getD_set_ne true hjk] at hku
     exact hku
   ·rw[Array.setIfInBounds_comm _ _ e]
    exact h3.2.2
theorem AnyN.takeFree {i:Nat} {oi:Oper} {v:Value} {fuel:Nat} {listed:Array Bool} {a:Act} {w:World} (hi:ops[i]?=some oi) (hb:(Region.noSelect ops && exq n skip i && Region.free md ops listed i && (Region.ready md ops listed).contains i)=true)
 (hQ:∀c a w,Q (.panic c) (a.put oi.dst v) w->Q (.panic c) a w) (hy:YieldsIf P ops (fun _=>True) oi v a)
 (h:AnyN P md ops Q S n skip fuel (listed.setIfInBounds i true) (a.put oi.dst v) w):AnyN P md ops Q S n skip (fuel+1) listed a w:=by
 simp only[Bool.and_eq_true] at hb;exact AnyN.free_ hi hb.1.1.1 hb.1.1.2 hQ fuel listed a w (Region.free_spec hi hb.1.2) (by simpa using hb.2) hy h
theorem AnyN.take {i:Nat} {oi:Oper} {v:Value} {fuel:Nat} {listed:Array Bool} {a:Act} {w:World} (hi:ops[i]?=some oi)
 (hb:(Region.noSelect ops && sinkS md ops n skip && Region.chainB md ops n && decide (n<ops.size) && decide (i<n) && !skip.contains i && headB md ops n listed && (skip.all fun k=>listed.getD k true) && Region.free md ops listed i && (Region.ready md ops listed).contains i)=true)
 (hQ:∀c a w,Q (.panic c) (a.put oi.dst v) w->Q (.panic c) a w) (hy:YieldsIf P ops S oi v a) (hS:S w)
 (h:AnyN P md ops Q S n skip fuel (listed.setIfInBounds i true) (a.put oi.dst v) w):AnyN P md ops Q S n skip (fuel+1) listed a w:=by
 simp only[Bool.and_eq_true,decide_eq_true_eq,Bool.not_eq_true',List.all_eq_true] at hb;obtain⟨⟨⟨⟨⟨⟨⟨⟨⟨b1,b2⟩,b3⟩,b4⟩,b5⟩,b6⟩,b7⟩,b8⟩,b9⟩,b10⟩:=hb;exact AnyN.first hi b1 b2 b3 b4 b5 b6 hQ fuel listed a w (headB_spec b7) b8 (Region.free_spec hi b9) (by simpa using b10) hy hS h
def AllN (P:Program) (md:Region.Mode) (ops:Array Oper) (Q:Exit->Act->World->Prop) (S:World->Prop) (n:Nat) (skip:List Nat) (fuel:Nat) (listed:Array Bool) (a:Act) (w:World) (rs:List Nat):Prop :=
 ∀i∈rs,wpOp P ops Q i (fun a' w'=>(exq n skip i=true\/S w')/\AnyN P md ops Q S n skip fuel (listed.setIfInBounds i true) a' w') a w
theorem AllN.nil {fuel:Nat} {listed:Array Bool} {a:Act} {w:World}:AllN P md ops Q S n skip fuel listed a w []:=fun _ h=>by cases h
theorem AllN.cons {fuel:Nat} {listed:Array Bool} {a:Act} {w:World} {i:Nat} {o:Oper} {rs:List Nat} (ho:ops[i]?=some o)
 (h:∀K':Act->World->Prop,Shut (∀a w,(exq n skip i=true\/S w)->AnyN P md ops Q S n skip fuel (listed.setIfInBounds i true) a w->K' a w)->if Region.wanted o (yielded ops a.tmps)=true then Oper.wp P o a w K' Q else K' (a.put o.dst undef) w)
 (hs:AllN P md ops Q S n skip fuel listed a w rs):AllN P md ops Q S n skip fuel listed a w (i::rs):=fun j hj=>by
 rcases List.mem_cons.1 hj with rfl|hj
 ·exact wpOp_step ho (fun K' hK=>h K' (fun a w hS hW=>hK a w ⟨hS,hW⟩))
 ·exact hs j hj
theorem AnyN.ready_ {rs:List Nat} {fuel:Nat} {listed:Array Bool} {a:Act} {w:World} (hr:Region.ready md ops listed=rs) (hne:rs≠[])
 (h:AllN P md ops Q S n skip fuel listed a w rs):AnyN P md ops Q S n skip (fuel+1) listed a w:=⟨fun h0=>absurd (hr ▸ h0) hne,hr ▸ h⟩
theorem AnyN.done {listed:Array Bool} {a:Act} {w:World} (hr:Region.ready md ops listed=[]) (h:Q .normal a w):AnyN P md ops Q S n skip 0 listed a w:=⟨hr,h⟩
end
end SinkN
end Go.Proofs.YtjebckehmmbkbaaGreat
