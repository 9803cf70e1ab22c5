/- The memory of a life.Plan: who lies where, and what each write leaves as it was. The walks of (*life.Plan).key and put, and of Top of its heap. The walk of (*life.Plan).fresh. The walks of (*life.Plan).mend and Set. -/
import Derived.Test.YtjebckehmmbkbaaGreatVLifeInv
set_option linter.unusedSimpArgs false
set_option linter.unusedVariables false
set_option maxRecDepth 100000
set_option maxHeartbeats 24000000
namespace Go.Proofs.YtjebckehmmbkbaaGreat
namespace Life
open Go.RowKit NetLaw BellLaw FlowLaw LifeLaw Net Go.Proofs.YtjebckehmmbkbaaGreat.Std Flow
open Heap (Kp Kp.refl Kp.below Kp.alloc Kp.drew Kp.setCell Kp.grown Kp.to fnOf)
open HeapS (HeapAt d0 ltP ltP_ord)
theorem ltS_ltP:ltS=ltP:=rfl
section
variable {w w':World} {base base' H n c:Nat} {fn:Value} {A:Option Addr} {L:List Sp}
theorem blk_kp {g:Nat} {cs:Array Value} {t:TypeId} {fr:Nat × Nat} (h:HeapAt w base H fn A n c L) (hk:Kp w w' H (Value.slice A n c).ownBlock) (hg:w.heap[g]?=some (.cells cs t fr)) (h1:144≠t) (h2:103≠t):w'.heap[g]?=some (.cells cs t fr):=by
 refine(hk.block g (lt_of_block hg) (fun e=> ?_) (fun e=>h.own.ne_ hg h2 e.symm)).trans hg;subst e;have:=h.blk;rw[hg] at this;injection this with this;injection this with _ ht _;exact h1 ht.symm
theorem own_kp {α:Type} {sz:Nat} {cell:α->Nat->Value} {e:TypeId} {v:Value} {r:List α} (h:HeapAt w base H fn A n c L) (hk:Kp w w' H (Value.slice A n c).ownBlock) (ho:Own w base' e sz cell v r) (h1:144≠e) (h2:103≠e):Own w' base' e sz cell v r:=by
 refine⟨ho.1,?_⟩;rcases ho.2 with h3|⟨g,cap,cur,rfl,hg,hh,rest⟩
 ·exact .inl h3
 ·exact .inr ⟨g,cap,cur,rfl,hg,blk_kp h hk hh h1 h2,rest⟩
theorem tab_kp {S m:Nat} {F:Nat->Option Addr × Nat} {Ls:Nat->List Int} (h:HeapAt w base H fn A n c L) (hk:Kp w w' H (Value.slice A n c).ownBlock) (ht:Tab w base' S m F Ls):Tab w' base' S m F Ls:=by
 obtain⟨cs,hb,hs,hc⟩:=ht.blk;exact⟨ht.lo,⟨cs,blk_kp h hk hb (by decide) (by decide),hs,hc⟩,fun v hv=>own_kp h hk (ht.own v hv) (by decide) (by decide),ht.sep⟩
theorem tab_far {S m:Nat} {F:Nat->Option Addr × Nat} {Ls:Nat->List Int} {p:Addr} (ht:Tab w base' S m F Ls) (h1:p.block≠S) (h2:∀v,v<m->(Value.slice (F v).1 0 0).ownBlock≠some p.block) (u:Value):Tab (w.setCell p u) base' S m F Ls:=by
 obtain⟨cs,hb,hs,hc⟩:=ht.blk;exact⟨ht.lo,⟨cs,blk_far hb (fun e=>h1 e.symm) u,hs,hc⟩,fun v hv=>(ht.own v hv).setCell (fun e=>h2 v hv ((obs ..).trans e)) u,ht.sep⟩
theorem heap_far {p:Addr} {t:TypeId} {cs:Array Value} (h:HeapAt w base H fn A n c L) (hp:w.heap[p.block]?=some (.cells cs t (0,0))) (h1:144≠t) (h2:103≠t) (u:Value):HeapAt (w.setCell p u) base H fn A n c L:=by
 have hne:H≠p.block:=fun e=>by
  have hb:=h.blk;rw[e,hp] at hb;injection hb with hb;injection hb with _ ht _;exact h1 ht.symm
 exact⟨h.hb,blk_far h.blk hne u,h.own.setCell (h.own.ne_ hp h2) u,h.len⟩
end
theorem own_blk {α:Type} {w:World} {b:Nat} {e:TypeId} {sz:Nat} {cell:α->Nat->Value} {S n c:Nat} {l:List α} (h:Own w b e sz cell (.slice (some ⟨S,0,none⟩) n c) l):∃cs,w.heap[S]?=some (.cells cs e (0,0)):=by
 rcases h.2 with ⟨h1,_⟩|⟨g,cap,cur,hv,_,hh,_⟩
 ·cases h1
 ·injection hv with hv _ _
  injection hv with hv;injection hv with hv _ _;subst hv;exact⟨cur,hh⟩
theorem blk_ne {w:World} {g g':Nat} {cs cs':Array Value} {t t':TypeId} {f f':Nat × Nat} (h:w.heap[g]?=some (.cells cs t f)) (h':w.heap[g']?=some (.cells cs' t' f')) (hne:t≠t'):g≠g':=fun e=>by
 subst e;rw[h] at h';injection h' with h';injection h' with _ ht _;exact hne ht
def KW (w w':World):Prop:=∀(g:Nat) (cs:Array Value) (fr:Nat × Nat),w.heap[g]?=some (.cells cs 36 fr)->w'.heap[g]?=some (.cells cs 36 fr)
theorem KW.refl (w:World):KW w w:=fun _ _ _ h=>h
theorem KW.trans {w w' w2:World} (h:KW w w') (h':KW w' w2):KW w w2:=fun g cs fr hg=>h' g cs fr (h g cs fr hg)
theorem KW.below {w w':World} (h:Below w.heap.size w w'):KW w w':=fun g cs fr hg=>blk_below hg h (lt_of_block hg)
theorem KW.kp {w w':World} {base H n c:Nat} {fn:Value} {A:Option Addr} {L:List Sp} (h:HeapAt w base H fn A n c L) (hk:Kp w w' H (Value.slice A n c).ownBlock):KW w w':=fun g cs fr hg=>blk_kp h hk hg (by decide) (by decide)
theorem KW.setCell {w:World} {p:Addr} {cs:Array Value} {t:TypeId} {fr:Nat × Nat} (hp:w.heap[p.block]?=some (.cells cs t fr)) (ht:36≠t) (u:Value):KW w (w.setCell p u):=fun g cs' fr' hg=>blk_far hg (blk_ne hg hp ht) u
structure LM (w0 w:World) (n s t P M:Nat) (AE:Option Addr) (cE TI TO:Nat) (FI FO:Nat->Option Addr × Nat) (SC cC SL cL H:Nat) (l:List E) (D R:List Int) (Aw:Option Addr) (mw cw:Nat) (L:List Sp) (wk:Int):Prop where
 z:w.heap[P]?=some (.cells #[.int .i64 n,.slice AE M cE,.slice (some ⟨TI,0,none⟩) n n,.slice (some ⟨TO,0,none⟩) n n,.int .i64 s,.int .i64 t,.slice (some ⟨SC,0,none⟩) n cC,.slice (some ⟨SL,0,none⟩) n cL,.pointer (some ⟨H,0,none⟩),.int .i64 wk] 106 (0,0))
 zl:w0.heap.size<=P
 net:Own w w0.heap.size 70 3 ce (.slice AE M cE) l
 cost:Own w w0.heap.size 3 1 ci (.slice (some ⟨SC,0,none⟩) n cC) D
 look:Own w w0.heap.size 3 1 ci (.slice (some ⟨SL,0,none⟩) n cL) R
 tabI:Tab w w0.heap.size TI n FI (ol (tl l) M)
 tabO:Tab w w0.heap.size TO n FO (ol l M)
 heap:HeapAt w w0.heap.size H (fnOf 45) Aw mw cw L
 hp:HeapLaw.Hp d0 ltP L
 ne:SC≠SL
 sepI:∀v,v<n->(Value.slice (FI v).1 0 0).ownBlock≠some SC/\(Value.slice (FI v).1 0 0).ownBlock≠some SL
 sepO:∀v,v<n->(Value.slice (FO v).1 0 0).ownBlock≠some SC/\(Value.slice (FO v).1 0 0).ownBlock≠some SL
 lo:Below w0.heap.size w0 w
 ll:l.length=M
 dl:D.length=n
 rl:R.length=n
section
variable {w0 w w':World} {n s t P M cE TI TO SC cC SL cL H mw cw:Nat} {AE Aw:Option Addr} {FI FO:Nat->Option Addr × Nat} {l:List E} {D R:List Int} {L:List Sp} {wk:Int}
theorem LM.keep (h:LM w0 w n s t P M AE cE TI TO FI FO SC cC SL cL H l D R Aw mw cw L wk) (hb:Below w.heap.size w w'):LM w0 w' n s t P M AE cE TI TO FI FO SC cC SL cL H l D R Aw mw cw L wk :=
 ⟨blk_below h.z hb (lt_of_block h.z),h.zl,h.net.keep hb,h.cost.keep hb,h.look.keep hb,h.tabI.keep hb,h.tabO.keep hb,h.heap.keep hb,h.hp,h.ne,h.sepI,h.sepO,h.lo.trans (hb.mono h.lo.size),h.ll,h.dl,h.rl⟩
theorem LM.alloc (h:LM w0 w n s t P M AE cE TI TO FI FO SC cC SL cL H l D R Aw mw cw L wk) (o:Obj):LM w0 (w.alloc o) n s t P M AE cE TI TO FI FO SC cC SL cL H l D R Aw mw cw L wk:=h.keep ((Below.refl _ _).alloc zzL _)
theorem LM.drew (h:LM w0 w n s t P M AE cE TI TO FI FO SC cC SL cL H l D R Aw mw cw L wk):LM w0 (w.drew) n s t P M AE cE TI TO FI FO SC cC SL cL H l D R Aw mw cw L wk:=h.keep (Below.refl _ _).drew
theorem LM.kp {Aw':Option Addr} {mw' cw':Nat} {L':List Sp} (h:LM w0 w n s t P M AE cE TI TO FI FO SC cC SL cL H l D R Aw mw cw L wk) (hk:Kp w w' H (Value.slice Aw mw cw).ownBlock) (hh:HeapAt w' w0.heap.size H (fnOf 45) Aw' mw' cw' L') (hp:HeapLaw.Hp d0 ltP L'):LM w0 w' n s t P M AE cE TI TO FI FO SC cC SL cL H l D R Aw' mw' cw' L' wk :=
 ⟨blk_kp h.heap hk h.z (by decide) (by decide),h.zl,own_kp h.heap hk h.net (by decide) (by decide),own_kp h.heap hk h.cost (by decide) (by decide),own_kp h.heap hk h.look (by decide) (by decide),tab_kp h.heap hk h.tabI,tab_kp h.heap hk h.tabO,hh,hp,h.ne,h.sepI,h.sepO,h.lo.trans (hk.to h.lo.size h.heap.hb h.heap.own.lo),h.ll,h.dl,h.rl⟩
theorem LM.setC (h:LM w0 w n s t P M AE cE TI TO FI FO SC cC SL cL H l D R Aw mw cw L wk) (k:Nat) (x:Int):LM w0 (w.setCell ⟨SC,k,none⟩ (.int .i64 x)) n s t P M AE cE TI TO FI FO SC cC SL cL H l (D.set k x) R Aw mw cw L wk:=by
 obtain⟨cur,hb⟩:=own_blk h.cost;obtain⟨cs,hti,_⟩:=h.tabI.blk;obtain⟨cs2,hto,_⟩:=h.tabO.blk;have hlo:=(h.cost.base_ SC rfl).1;have hne:=h.ne;exact⟨blk_far h.z (blk_ne h.z hb (by decide)) _,h.zl,h.net.setCell (h.net.ne_ hb (by decide)) _,own_set1 h.dl h.cost k x,h.look.setCell (fun e=>hne (by injection e with e;exact e.symm)) _,tab_far h.tabI (blk_ne hb hti (by decide)) (fun v hv=>(h.sepI v hv).1) _,tab_far h.tabO (blk_ne hb hto (by decide)) (fun v hv=>(h.sepO v hv).1) _,heap_far h.heap hb (by decide) (by decide) _,h.hp,h.ne,h.sepI,h.sepO,h.lo.setCell hlo _,h.ll,by rw[List.length_set];exact h.dl,h.rl⟩
theorem LM.kw_setC (h:LM w0 w n s t P M AE cE TI TO FI FO SC cC SL cL H l D R Aw mw cw L wk) (k:Nat) (u:Value):KW w (w.setCell ⟨SC,k,none⟩ u):=by
 obtain⟨cur,hb⟩:=own_blk h.cost;exact KW.setCell (p:=⟨SC,k,none⟩) hb (by decide) u
theorem LM.setL (h:LM w0 w n s t P M AE cE TI TO FI FO SC cC SL cL H l D R Aw mw cw L wk) (k:Nat) (x:Int):LM w0 (w.setCell ⟨SL,k,none⟩ (.int .i64 x)) n s t P M AE cE TI TO FI FO SC cC SL cL H l D (R.set k x) Aw mw cw L wk:=by
 obtain⟨cur,hb⟩:=own_blk h.look;obtain⟨cs,hti,_⟩:=h.tabI.blk;obtain⟨cs2,hto,_⟩:=h.tabO.blk;have hlo:=(h.look.base_ SL rfl).1;have hne:=h.ne;exact⟨blk_far h.z (blk_ne h.z hb (by decide)) _,h.zl,h.net.setCell (h.net.ne_ hb (by decide)) _,h.cost.setCell (fun e=>hne (by injection e with e)) _,own_set1 h.rl h.look k x,tab_far h.tabI (blk_ne hb hti (by decide)) (fun v hv=>(h.sepI v hv).2) _,tab_far h.tabO (blk_ne hb hto (by decide)) (fun v hv=>(h.sepO v hv).2) _,heap_far h.heap hb (by decide) (by decide) _,h.hp,h.ne,h.sepI,h.sepO,h.lo.setCell hlo _,h.ll,h.dl,by rw[List.length_set];exact h.rl⟩
theorem LM.kw_setL (h:LM w0 w n s t P M AE cE TI TO FI FO SC cC SL cL H l D R Aw mw cw L wk) (k:Nat) (u:Value):KW w (w.setCell ⟨SL,k,none⟩ u):=by
 obtain⟨cur,hb⟩:=own_blk h.look;exact KW.setCell (p:=⟨SL,k,none⟩) hb (by decide) u
theorem LM.setW (h:LM w0 w n s t P M AE cE TI TO FI FO SC cC SL cL H l D R Aw mw cw L wk) (x:Int):LM w0 (w.setCell ⟨P,9,none⟩ (.int .i64 x)) n s t P M AE cE TI TO FI FO SC cC SL cL H l D R Aw mw cw L x:=by
 obtain⟨c1,hc⟩:=own_blk h.cost;obtain⟨c2,hl⟩:=own_blk h.look;obtain⟨cs,hti,_⟩:=h.tabI.blk;obtain⟨cs2,hto,_⟩:=h.tabO.blk;have hrow:∀{F:Nat->Option Addr × Nat} {S:Nat} {Ls:Nat->List Int},Tab w w0.heap.size S n F Ls->∀v,v<n->(Value.slice (F v).1 0 0).ownBlock≠some P:=fun ht v hv e=>(ht.own v hv).ne_ h.z (by decide) ((obs ..).trans e);exact⟨blk_set h.z 9 _,h.zl,h.net.setCell (h.net.ne_ h.z (by decide)) _,h.cost.setCell (h.cost.ne_ h.z (by decide)) _,h.look.setCell (h.look.ne_ h.z (by decide)) _,tab_far h.tabI (blk_ne h.z hti (by decide)) (hrow h.tabI) _,tab_far h.tabO (blk_ne h.z hto (by decide)) (hrow h.tabO) _,heap_far h.heap h.z (by decide) (by decide) _,h.hp,h.ne,h.sepI,h.sepO,h.lo.setCell h.zl _,h.ll,h.dl,h.rl⟩
theorem LM.kw_setW (h:LM w0 w n s t P M AE cE TI TO FI FO SC cC SL cL H l D R Aw mw cw L wk) (u:Value):KW w (w.setCell ⟨P,9,none⟩ u):=KW.setCell (p:=⟨P,9,none⟩) h.z (by decide) u
theorem LM.cells (h:LM w0 w n s t P M AE cE TI TO FI FO SC cC SL cL H l D R Aw mw cw L wk) {v:Nat} (hv:v<n):w.cell? ⟨SC,v,none⟩=some (.int .i64 (dg D v))/\w.cell? ⟨SL,v,none⟩=some (.int .i64 (dg R v))/\w.frozen? ⟨SC,v,none⟩=false/\w.frozen? ⟨SL,v,none⟩=false/\SC<w.heap.size/\SL<w.heap.size:=by
 have e1:=own_at1 h.dl h.cost hv;have e2:=own_at1 h.rl h.look hv;have hd:∀X:List Int,dg X (v:Int)=X.getD v 0:=fun X=>by rw[dg,Int.toNat_natCast]
 exact⟨by rw[hd];exact e1.1,by rw[hd];exact e2.1,e1.2,e2.2,(h.cost.base_ SC rfl).2,(h.look.base_ SL rfl).2⟩
theorem LM.zs (h:LM w0 w n s t P M AE cE TI TO FI FO SC cC SL cL H l D R Aw mw cw L wk):w.cell? ⟨P,0,none⟩=some (.int .i64 n)/\w.cell? ⟨P,1,none⟩=some (.slice AE M cE)/\w.cell? ⟨P,2,none⟩=some (.slice (some ⟨TI,0,none⟩) n n)/\w.cell? ⟨P,3,none⟩=some (.slice (some ⟨TO,0,none⟩) n n)/\w.cell? ⟨P,4,none⟩=some (.int .i64 s)/\w.cell? ⟨P,5,none⟩=some (.int .i64 t)/\w.cell? ⟨P,6,none⟩=some (.slice (some ⟨SC,0,none⟩) n cC)/\w.cell? ⟨P,7,none⟩=some (.slice (some ⟨SL,0,none⟩) n cL)/\w.cell? ⟨P,8,none⟩=some (.pointer (some ⟨H,0,none⟩))/\w.cell? ⟨P,9,none⟩=some (.int .i64 wk)/\w.frozen? ⟨P,9,none⟩=false/\P<w.heap.size:=by
 have z:=fun i=>blk_cell h.z i;exact⟨z 0,z 1,z 2,z 3,z 4,z 5,z 6,z 7,z 8,z 9,blk_free h.z 9,lt_of_block h.z⟩
end
end Life
namespace Life
open Go.RowKit NetLaw BellLaw FlowLaw LifeLaw Net Go.Proofs.YtjebckehmmbkbaaGreat.Std Flow
open Heap (Kp Kp.refl Kp.below Kp.alloc Kp.drew Kp.setCell Kp.grown Kp.to fnOf)
open HeapS (HeapAt d0 ltP ltP_ord)
section
variable {w0 w w':World} {n s t P M cE TI TO SC cC SL cL H mw cw:Nat} {AE Aw:Option Addr} {FI FO:Nat->Option Addr × Nat} {l:List E} {D R:List Int} {L:List Sp} {wk:Int}
theorem key_any (h:LM w0 w n s t P M AE cE TI TO FI FO SC cC SL cL H l D R Aw mw cw L wk) {v:Nat} (hv:v<n) :
 Calls Tryz.prog 81 #[.pointer (some ⟨P,0,none⟩),.int .i64 v] w fun e w'=>e= .returned (.agg #[.int .i64 (min (dg D v) (dg R v)),.int .i64 (min (dg D v) (dg R v)),.int .i64 v])/\Below w.heap.size w w':=by
 obtain⟨c1,c2,_,_,zc,zl⟩:=h.cells hv;obtain⟨_,_,_,_,_,_,z6,z7,_,_,_,zp⟩:=h.zs;have zv:(v:Int)<(n:Int):=by omega
 clear h;generalize dg D (v:Int)=d at *;generalize dg R (v:Int)=r at *;obtain⟨k,hk⟩:∃k,min d r=k:=⟨_,rfl⟩;have hif:(if r<d then r else d)=k:=by split <;> omega
 rw[hk];clear hk;go_enter Tryz.func81,Tryz.ntmps81;go_upto_region 1 with fail;go_quiet (fail);go_wp2;refine bodyPost_ret (v:= .agg #[.int .i64 k,.int .i64 k,.int .i64 v]) (by simp[results,Tryz.results81,go_sem]) rfl ?_;exact⟨rfl,(((below_drewN ((Below.refl _ _).alloc zzL _) nq).setCell zzL _).setCell zzL _).setCell zzL _⟩
theorem top_any {base H n c:Nat} {fn:Value} {A:Option Addr} {L:List Sp} {w:World} (h:HeapAt w base H fn A n c L) (hn:0<n) :
 Calls Tryz.prog 83 #[.pointer (some ⟨H,0,none⟩)] w fun e w'=>∃a b x,L.getD 0 d0=(a,b,x)/\e= .returned (.agg #[.int .i64 a,.int .i64 b,.int .i64 x])/\Below w.heap.size w w':=by
 obtain⟨S,a,b,x,rfl,hS0,hS1,hSH,hg0,c00,c01,c02,f00,f01,f02⟩:=h.at_ hn;have hc1:=blk_cell h.blk 1;have hlt:=h.lt;simp only[zzG,zzH,zzI] at hc1;rw[Nat.zero_mul] at c00 c01 c02;rw[Nat.zero_add] at c01 c02;have z0:(0:Int)<(n:Int):=by omega
 clear h f00 f01 f02;go_enter Tryz.func83,Tryz.ntmps83;go_wp2;exact bodyPost_ret (v:= .agg #[.int .i64 a,.int .i64 b,.int .i64 x]) (by simp[results,Tryz.results83,go_sem]) rfl ⟨a,b,x,hg0,rfl,(Below.refl _ _).alloc zzL _⟩
def PutSays (w0:World) (n s t P M:Nat) (AE:Option Addr) (cE TI TO:Nat) (FI FO:Nat->Option Addr × Nat) (SC cC SL cL H:Nat) (l:List E) (D R:List Int) (Aw:Option Addr) (mw cw:Nat) (L:List Sp) (wk:Int) (v:Nat) (w1:World) (e:Ending) (w':World):Prop :=
 (∃r,e= .returned r)/\∃Aw' mw' cw' L',LM w0 w' n s t P M AE cE TI TO FI FO SC cC SL cL H l D R Aw' mw' cw' L' wk/\(∀x∈L,x∈L')/\(∀x∈L',x∈L\/x=ky D R v)/\(dg D v≠dg R v->ky D R v∈L')/\mw'<=mw+1/\KW w1 w'/\w1.heap.size<=w'.heap.size
theorem put_any (h:LM w0 w n s t P M AE cE TI TO FI FO SC cC SL cL H l D R Aw mw cw L wk) {v:Nat} (hv:v<n) (hmw:mw<=4000000000000) :
 Calls Tryz.prog 47 #[.pointer (some ⟨P,0,none⟩),.int .i64 v] w fun e w'=>PutSays w0 n s t P M AE cE TI TO FI FO SC cC SL cL H l D R Aw mw cw L wk v w e w':=by
 obtain⟨c1,c2,_,_,zc,zl⟩:=h.cells hv;obtain⟨_,_,_,_,_,_,z6,z7,z8,_,_,zp⟩:=h.zs;have zv:(v:Int)<(n:Int):=by omega
 have HM:=hid h
 by_cases hne:dg D v=dg R v
 ·have hpost:PutSays w0 n s t P M AE cE TI TO FI FO SC cC SL cL H l D R Aw mw cw L wk v w (.returned (.tuple #[])) w:=⟨⟨_,rfl⟩,Aw,mw,cw,L,h,fun _ hx=>hx,fun _ hx=> .inl hx,fun hn=>absurd hne hn,Nat.le_succ _,KW.refl w,Nat.le_refl _⟩
  have hpd:∀k,PutSays w0 n s t P M AE cE TI TO FI FO SC cC SL cL H l D R Aw mw cw L wk v w (.returned (.tuple #[])) (w.drewN k):=fun k=>⟨⟨_,rfl⟩,Aw,mw,cw,L,h.keep (below_drewN (Below.refl _ _) k),fun _ hx=>hx,fun _ hx=> .inl hx,fun hn=>absurd hne hn,Nat.le_succ _,KW.below (below_drewN (Below.refl _ _) k),by simp⟩;have HPD:=hid hpd;rw[<-hne] at c2;have hd:((dg D v) != (dg D v))=false:=by simp
  clear h hne hpost hpd HM;generalize dg D (v:Int)=d at *;go_enter Tryz.func47,Tryz.ntmps47;go_upto_region 0 with fail;go_quiet (fail);go_wp2;exact bodyPost_end (v:= .tuple #[]) (by simp[results,Tryz.results47,go_sem]) rfl (HPD.out nq)
 ·have hk:=fun (W:World) (hW:Below w.heap.size w W)=>key_any (h.keep hW) hv
  have hpu:=fun (W:World) (hW:Below w.heap.size w W)=>HeapS.push_any ltP ltP_ord HeapS.less_any w0.heap.size H Aw mw cw L (min (dg D v) (dg R v)) (min (dg D v) (dg R v)) v W (h.keep hW).heap h.hp (by omega) ((h.keep hW).lo.size)
  have hfin:∀(W w':World) (A8:Option Addr) (c8:Nat) (L8:List Sp) (r:Value),Below w.heap.size w W->HeapAt w' w0.heap.size H (fnOf 45) A8 (mw+1) c8 L8->L8.Perm ((min (dg D v) (dg R v),min (dg D v) (dg R v),(v:Int))::L)->HeapLaw.Hp d0 ltP L8->Kp W w' H (Value.slice Aw mw cw).ownBlock->PutSays w0 n s t P M AE cE TI TO FI FO SC cC SL cL H l D R Aw mw cw L wk v w (.returned r) w':=fun W w' A8 c8 L8 r hW hh hpm hhp hkp =>
   ⟨⟨r,rfl⟩,A8,mw+1,c8,L8,(h.keep hW).kp hkp hh hhp,fun x hx=>hpm.symm.subset (List.mem_cons_of_mem _ hx),fun x hx=>(List.mem_cons.1 (hpm.subset hx)).elim .inr .inl,fun _=>hpm.symm.subset (List.mem_cons_self ..),Nat.le_refl _,(KW.below hW).trans (KW.kp (h.keep hW).heap hkp),Nat.le_trans hW.size hkp.size⟩
  have HK:=hid hk;have HPU:=hid hpu;have HFIN:=hid hfin;have hd:((dg D v) != (dg R v))=true:=by rw[bne_iff_ne];exact hne
  clear h hne hk hpu hfin HM;generalize dg D (v:Int)=d at *;generalize dg R (v:Int)=r at *;generalize min d r=k at *;go_enter Tryz.func47,Tryz.ntmps47;go_upto_region 0 with fail;go_quiet (fail);go_wp2;have HW1:Below w.heap.size w (w.drewN nq):=below_drewN (Below.refl _ _) nq;have zz:(w.drewN nq).cell? ⟨P,8,none⟩=some (.pointer (some ⟨H,0,none⟩)):=z8;clear z6 z7 z8 c1 c2;have hz1:(w.drewN nq).heap.size=w.heap.size:=by simp
  generalize w.drewN nq=w1 at *;have zp1:P<w1.heap.size:=by omega
  clear hz1
  go_region_held3 (fun w'=>w'.cell? ⟨P,8,none⟩=some (.pointer (some ⟨H,0,none⟩)))
   (first
     |go_keep
     |exact p8
     |exact q8)
   (first
     |(go_at_call 81;refine(HK.out _ HW1.drew).mono ?_;rintro e wd ⟨rfl,hbd⟩;have p8:wd.cell? ⟨P,8,none⟩=some (.pointer (some ⟨H,0,none⟩)):=(hbd.cell (p:=⟨P,8,none⟩) zp1).trans zz;have HW2:Below w.heap.size w wd:=HW1.drew.trans (hbd.mono HW1.drew.size))
     |(go_at_call 80;refine(HPU.out _ HW2).mono ?_;rintro e we ⟨⟨r8,rfl⟩,A8,c8,L8,hh8,hpm8,hhp8,hkp8,hat8⟩;have q8:we.cell? ⟨P,8,none⟩=some (.pointer (some ⟨H,0,none⟩)):=(by obtain⟨_,_,_,_,_,hm9,_⟩:=HFIN.out _ _ A8 c8 L8 r8 HW2 hh8 hpm8 hhp8 hkp8;exact hm9.zs.2.2.2.2.2.2.2.2.1)))
  all_goals
   go_wp2;exact bodyPost_end (v:= .tuple #[]) (by simp[results,Tryz.results47,go_sem]) rfl (HFIN.out _ _ A8 c8 L8 _ HW2 hh8 hpm8 hhp8 hkp8)
end
end Life
namespace Life
open Go.RowKit NetLaw BellLaw FlowLaw LifeLaw Net Go.Proofs.YtjebckehmmbkbaaGreat.Std Flow
open Heap (Kp Kp.refl Kp.below Kp.alloc Kp.drew Kp.setCell Kp.grown Kp.to fnOf)
open HeapS (HeapAt d0 ltP ltP_ord)
structure Thin (D R:List Int) (L L':List Sp):Prop where
 sub:∀x∈L',x∈L
 kept:∀x∈L,frsh D R x->x∈L'
theorem Thin.refl (D R:List Int) (L:List Sp):Thin D R L L:=⟨fun _ h=>h,fun _ h _=>h⟩
theorem Thin.pop {D R:List Int} {L L' L2:List Sp} {x:Sp} (h:Thin D R L L') (hp:(x::L2).Perm L') (hx:¬frsh D R x):Thin D R L L2 :=
 ⟨fun y hy=>h.sub y (hp.subset (List.mem_cons_of_mem _ hy)),fun y hy hf=>(List.mem_cons.1 (hp.symm.subset (h.kept y hy hf))).elim (fun e=>absurd (by rw[<-e];exact hf) hx) id⟩
def hlen (w:World) (H:Nat):Nat:=match w.cell? ⟨H,1,none⟩ with|some (.slice _ n _)=>n|_=>0
theorem hlen_eq {w:World} {base H n c:Nat} {fn:Value} {A:Option Addr} {L:List Sp} (h:HeapAt w base H fn A n c L):hlen w H=n:=by
 have c1:=blk_cell h.blk 1;simp only[zzG,zzH,zzI] at c1;unfold hlen;rw[c1]
def FreshSays (w0:World) (n s t P M:Nat) (AE:Option Addr) (cE TI TO:Nat) (FI FO:Nat->Option Addr × Nat) (SC cC SL cL H:Nat) (l:List E) (D R:List Int) (Aw:Option Addr) (mw cw:Nat) (L:List Sp) (wk:Int) (w1:World) (e:Ending) (w':World):Prop :=
 ∃b Aw' mw' cw' L',e= .returned (.bool b)/\Hid (LM w0 w' n s t P M AE cE TI TO FI FO SC cC SL cL H l D R Aw' mw' cw' L' wk)/\mw'<=mw/\KW w1 w'/\w1.heap.size<=w'.heap.size/\Hid (Thin D R L L')/\Hid ((b=true->0<mw'/\frsh D R (L'.getD 0 d0))/\(b=false->L'=[]))
section
variable {w0 w w':World} {n s t P M cE TI TO SC cC SL cL H mw cw:Nat} {AE Aw:Option Addr} {FI FO:Nat->Option Addr × Nat} {l:List E} {D R:List Int} {L:List Sp} {wk:Int}
theorem top_ids {x:Sp} (hi:∀x∈L,0<=x.2.2/\x.2.2<n) {L':List Sp} (ht:Thin D R L L') {k:Nat} (hl:L'.length=k+1) (hg:L'.getD 0 d0=x):x∈L'/\0<=x.2.2/\x.2.2<n:=by
 have hm:x∈L':=by
  rw[List.getD_eq_getElem?_getD,List.getElem?_eq_getElem (by omega)] at hg;simp only[Option.getD_some] at hg;rw[<-hg];exact List.getElem_mem _
 exact⟨hm,hi x (ht.sub x hm)⟩
theorem fresh_any (h:LM w0 w n s t P M AE cE TI TO FI FO SC cC SL cL H l D R Aw mw cw L wk) (hi:∀x∈L,0<=x.2.2/\x.2.2<n) (hmw:mw<=4000000000000) :
 Calls Tryz.prog 82 #[.pointer (some ⟨P,0,none⟩)] w fun e w'=>FreshSays w0 n s t P M AE cE TI TO FI FO SC cC SL cL H l D R Aw mw cw L wk w e w':=by
 have h1:=hid h;have hI:=hid hi;clear h hi;go_enter Tryz.func82,Tryz.ntmps82;go_wp2
 go_loopw [2] (fun b wr=>b= .bool false/\∃A' m' c' L',Hid (LM w0 wr n s t P M AE cE TI TO FI FO SC cC SL cL H l D R A' m' c' L' wk)/\m'<=mw/\Hid (KW w wr)/\w.heap.size<=wr.heap.size/\Hid (Thin D R L L')) (fun _ wr=>hlen wr H)
 case atStart=>exact⟨rfl,Aw,mw,cw,L,h1,Nat.le_refl _,hid (KW.refl w),Nat.le_refl _,hid (Thin.refl D R L)⟩
 case round =>
  obtain⟨rfl,A',m',c',L',HM,hm',HKW,hz,HT⟩:=hrel;clear h1;obtain⟨_,_,_,_,_,_,z6,z7,z8,_,_,zp⟩:=HM.out.zs;have hml:=HM.out.heap.len;have klen:=HeapS.len_any wr HM.out.heap;have KLEN:=hid klen;clear klen
  go_wp2_with fail
  refine KLEN.out.mono ?_;rintro e w2 ⟨rfl,hw2⟩;have hw2':=hw2.symm;clear hw2;subst hw2';rcases Nat.eq_zero_or_pos m' with hm0|hm0
  ·subst hm0
   have hL0:L'=[]:=List.eq_nil_of_length_eq_zero hml;have hpost:FreshSays w0 n s t P M AE cE TI TO FI FO SC cC SL cL H l D R Aw mw cw L wk w (.returned (.bool false)) wr:=⟨false,A',0,c',L',rfl,HM,Nat.zero_le _,HKW.out,hz,HT,hid ⟨fun h=>(nomatch h),fun _=>hL0⟩⟩;have HPOST:=hid hpost;clear hpost hL0;go_wp2;go_ret;exact HPOST.out
  ·obtain⟨k,rfl⟩:∃k,m'=k+1:=⟨m' - 1,by omega⟩
   have ktop:=top_any HM.out.heap hm0;have KTOP:=hid ktop;have zk:(k:Int)+1 > 0:=by omega
   clear ktop
   go_wp2_with fail
   refine KTOP.out.mono ?_;rintro e w3 ⟨a,b,x,hg0,rfl,hb3⟩;obtain⟨hxm,hx0,hx1⟩:=top_ids (x:=(a,b,x)) hI.out HT.out hml hg0;simp only at hx0 hx1;obtain⟨x,rfl⟩:=Int.eq_ofNat_of_zero_le hx0;have hxn:x<n:=by omega
   go_upto_region 3 with fail;have hm4:=(HM.out.keep hb3).alloc (.cells #[.int .i64 a,.int .i64 b,.int .i64 x] 103);have hbx:=heap_alloc_new w3 (.cells #[.int .i64 a,.int .i64 b,.int .i64 x] 103);have hb4:Below wr.heap.size wr (w3.alloc (.cells #[.int .i64 a,.int .i64 b,.int .i64 x] 103)):=hb3.alloc hb3.size _;generalize w3.alloc (.cells #[.int .i64 a,.int .i64 b,.int .i64 x] 103)=w4 at hm4 hbx hb4 ⊢;generalize w3.heap.size=X at hbx ⊢;clear z6 z7 z8 zp hb3 KTOP KLEN;obtain⟨_,_,_,_,_,_,z6,z7,z8,_,_,zp⟩:=hm4.zs;obtain⟨c1,c2,_,_,zc,zl⟩:=hm4.cells hxn;have x0:=blk_cell hbx 0;have x1:=blk_cell hbx 1;have x2:=blk_cell hbx 2;simp only[zzG,zzH,zzI] at x0 x1 x2;have zX:=lt_of_block hbx;have zx:(x:Int)<(n:Int):=by omega
   have kkey:=fun (W:World) (hW:Below w4.heap.size w4 W)=>key_any (hm4.keep hW) hxn
   have hfr:frsh D R (a,b,(x:Int)) ↔ (dg D x≠dg R x/\a=min (dg D x) (dg R x)/\b=min (dg D x) (dg R x)):=by
    unfold frsh ky;simp only[Prod.mk.injEq,and_true]
   have HFR:=hid hfr;have KKEY:=hid kkey;have HM4:=hid hm4;have HB4:=hid hb4;have HG0:=hid hg0;have HI2:=hid hxm;clear kkey hfr hm4 hbx hb4 hg0 hxm hx0 hx1 hml hm0;generalize dg D (x:Int)=d at *;generalize dg R (x:Int)=r at *;obtain⟨q,hq⟩:∃q,min d r=q:=⟨_,rfl⟩;obtain⟨bb,hbb⟩:∃bb,decide (d≠r/\a=q/\b=q)=bb:=⟨_,rfl⟩;rw[hq] at HFR KKEY;clear hq;have HBB:=hid hbb;clear hbb
   go_cut [39] from 15 to 38 (fun s39 wx=>s39= .bool bb/\Hid (Below w4.heap.size w4 wx))
   case first =>
    by_cases hdr:d=r
    ·have hbf:bb=false:=by rw[<-HBB.out];exact decide_eq_false (fun h=>h.1 hdr)
     have HBF:=hid hbf;have hdd:(d != r)=false:=by rw[hdr];simp
     clear hdr hbf;go_quiet (fail);go_wp2
     go_meet
     exact⟨by rw[HBF.out],hid (below_drewN (Below.refl _ _) nq)⟩
    ·have hdd:(d != r)=true:=by rw[bne_iff_ne];exact hdr
     have hcl:∀wd:World,Below w4.drew.heap.size w4.drew wd->wd.cell? ⟨P,6,none⟩=some (.slice (some ⟨SC,0,none⟩) n cC)/\wd.cell? ⟨P,7,none⟩=some (.slice (some ⟨SL,0,none⟩) n cL)/\wd.cell? ⟨SC,x,none⟩=some (.int .i64 d)/\wd.cell? ⟨SL,x,none⟩=some (.int .i64 r)/\wd.cell? ⟨X,0,none⟩=some (.int .i64 a)/\wd.cell? ⟨X,1,none⟩=some (.int .i64 b)/\wd.cell? ⟨X,2,none⟩=some (.int .i64 x):=fun wd hbd =>
      ⟨(hbd.cell (p:=⟨P,6,none⟩) zp).trans z6,(hbd.cell (p:=⟨P,7,none⟩) zp).trans z7,(hbd.cell (p:=⟨SC,x,none⟩) zc).trans c1,(hbd.cell (p:=⟨SL,x,none⟩) zl).trans c2,(hbd.cell (p:=⟨X,0,none⟩) zX).trans x0,(hbd.cell (p:=⟨X,1,none⟩) zX).trans x1,(hbd.cell (p:=⟨X,2,none⟩) zX).trans x2⟩
     have HCL:=hid hcl;clear hcl
     by_cases ha:a=q
     ·subst ha
      by_cases hb:a=b
      ·obtain rfl:=hb
       have hbt:bb=true:=by rw[<-HBB.out];exact decide_eq_true ⟨hdr,rfl,rfl⟩
       have HBT:=hid hbt;clear hbt hdr
       go_region_held3 (fun w'=>w'.cell? ⟨P,6,none⟩=some (.slice (some ⟨SC,0,none⟩) n cC)/\w'.cell? ⟨P,7,none⟩=some (.slice (some ⟨SL,0,none⟩) n cL)/\w'.cell? ⟨SC,x,none⟩=some (.int .i64 d)/\w'.cell? ⟨SL,x,none⟩=some (.int .i64 r)/\w'.cell? ⟨X,0,none⟩=some (.int .i64 a)/\w'.cell? ⟨X,1,none⟩=some (.int .i64 a)/\w'.cell? ⟨X,2,none⟩=some (.int .i64 x)) (first|go_keep|exact hcw) (first|(go_at_call 81;refine(KKEY.out _ (Below.refl _ _).drew).mono ?_;rintro e wd ⟨rfl,hbd⟩;have hcw:=HCL.out _ hbd))
       all_goals
        go_wp2
        go_meet
        exact⟨by rw[HBT.out],hid ((Below.refl _ _).drew.trans (hbd.mono zzL))⟩
      ·have hbt:bb=false:=by rw[<-HBB.out];exact decide_eq_false (fun h=>hb h.2.2.symm)
       have HBT:=hid hbt;have hbe:(b == a)=false:=beq_eq_false_iff_ne.2 (fun e=>hb e.symm);clear hbt hdr hb
       go_region_held3 (fun w'=>w'.cell? ⟨P,6,none⟩=some (.slice (some ⟨SC,0,none⟩) n cC)/\w'.cell? ⟨P,7,none⟩=some (.slice (some ⟨SL,0,none⟩) n cL)/\w'.cell? ⟨SC,x,none⟩=some (.int .i64 d)/\w'.cell? ⟨SL,x,none⟩=some (.int .i64 r)/\w'.cell? ⟨X,0,none⟩=some (.int .i64 a)/\w'.cell? ⟨X,1,none⟩=some (.int .i64 b)/\w'.cell? ⟨X,2,none⟩=some (.int .i64 x)) (first|go_keep|exact hcw) (first|(go_at_call 81;refine(KKEY.out _ (Below.refl _ _).drew).mono ?_;rintro e wd ⟨rfl,hbd⟩;have hcw:=HCL.out _ hbd))
       all_goals
        go_wp2
        go_meet
        exact⟨by rw[HBT.out],hid ((Below.refl _ _).drew.trans (hbd.mono zzL))⟩
     ·have hbt:bb=false:=by rw[<-HBB.out];exact decide_eq_false (fun h=>ha h.2.1)
      have HBT:=hid hbt;have hbe:(a == q)=false:=beq_eq_false_iff_ne.2 ha;clear hbt hdr ha
      go_region_held3 (fun w'=>w'.cell? ⟨P,6,none⟩=some (.slice (some ⟨SC,0,none⟩) n cC)/\w'.cell? ⟨P,7,none⟩=some (.slice (some ⟨SL,0,none⟩) n cL)/\w'.cell? ⟨SC,x,none⟩=some (.int .i64 d)/\w'.cell? ⟨SL,x,none⟩=some (.int .i64 r)/\w'.cell? ⟨X,0,none⟩=some (.int .i64 a)/\w'.cell? ⟨X,1,none⟩=some (.int .i64 b)/\w'.cell? ⟨X,2,none⟩=some (.int .i64 x)) (first|go_keep|exact hcw) (first|(go_at_call 81;refine(KKEY.out _ (Below.refl _ _).drew).mono ?_;rintro e wd ⟨rfl,hbd⟩;have hcw:=HCL.out _ hbd))
      all_goals
       go_wp2
       go_meet
       exact⟨by rw[HBT.out],hid ((Below.refl _ _).drew.trans (hbd.mono zzL))⟩
   case rest =>
    obtain⟨rfl,HB5⟩:=hcut;have hbw:Below wr.heap.size wr wc:=HB4.out.trans (HB5.out.mono HB4.out.size);have hkw:KW w wc:=HKW.out.trans (KW.below hbw);have hzc:w.heap.size<=wc.heap.size:=Nat.le_trans hz hbw.size;have hm5:=HM.out.keep hbw;have HM5:=hid hm5;have HKC:=hid hkw;clear hbw hkw hm5 HM4 HB4 HB5 x0 x1 x2 zX c1 c2 zc zl z6 z7 z8 zp KKEY;cases bb with
    |true =>
     have hfb:=HFR.out.2 (of_decide_eq_true HBB.out);have hpost:FreshSays w0 n s t P M AE cE TI TO FI FO SC cC SL cL H l D R Aw mw cw L wk w (.returned (.bool true)) wc:=⟨true,A',k+1,c',L',rfl,HM5,hm',HKC.out,hzc,HT,hid ⟨fun _=>⟨Nat.succ_pos _,by rw[HG0.out];exact hfb⟩,fun h=>(nomatch h)⟩⟩;have HPOST:=hid hpost;clear hpost hfb;go_wp2;go_ret;exact HPOST.out
    |false =>
     have hfb:¬frsh D R (a,b,(x:Int)):=fun h=>by
      have:=decide_eq_true (HFR.out.1 h);rw[HBB.out] at this;cases this
     have HFB:=hid hfb;obtain⟨_,_,_,_,_,_,_,_,z8,_,_,zp⟩:=HM5.out.zs;have kpop:=HeapS.pop_any ltP ltP_ord HeapS.less_any w0.heap.size H A' k c' L' wc HM5.out.heap HM5.out.hp (by omega) HM5.out.lo.size;have KPOP:=hid kpop;have hl1:=hlen_eq HM.out.heap;have HL1:=hid hl1;clear hfb kpop hl1
     go_wp2_with fail
     refine KPOP.out.mono ?_;rintro e w9 ⟨p,pm,pq,L2,rfl,hg2,hh2,hpm2,hhp2,hkp2⟩;rw[HG0.out] at hg2;obtain⟨rfl,rfl,rfl⟩:=(by simpa using hg2:a=p/\b=pm/\(x:Int)=pq);have hm9:=HM5.out.kp hkp2 hh2 hhp2;have hkw9:=HKC.out.trans (KW.kp HM5.out.heap hkp2);have hz9:w.heap.size<=w9.heap.size:=Nat.le_trans hzc hkp2.size;have ht9:=HT.out.pop hpm2 HFB.out;have hl9:=hlen_eq hh2;have HM9:=hid hm9;have HK9:=hid hkw9;have HT9:=hid ht9;have HL9:=hid hl9;clear hm9 hkw9 ht9 hl9 hh2 hpm2 hhp2 hkp2 hg2;go_wp2
     go_roundw
     case rel=>exact⟨rfl,A',k,c',L2,HM9,by omega,HK9,hz9,HT9⟩
     case measure=>rw[HL9.out,HL1.out];exact Nat.lt_succ_self _
end
end Life
namespace Life
open Go.RowKit NetLaw BellLaw FlowLaw LifeLaw Net Go.Proofs.YtjebckehmmbkbaaGreat.Std Flow
open Heap (Kp Kp.refl Kp.below Kp.alloc Kp.drew Kp.setCell Kp.grown Kp.to fnOf)
open HeapS (HeapAt d0 ltP ltP_ord)
def MendSays (w0:World) (n s t P M:Nat) (AE:Option Addr) (cE TI TO:Nat) (FI FO:Nat->Option Addr × Nat) (SC cC SL cL H:Nat) (l:List E) (D R:List Int) (Aw:Option Addr) (mw cw:Nat) (L:List Sp) (wk:Int) (v:Int) (w1:World) (e:Ending) (w':World):Prop :=
 (∃r,e= .returned r)/\∃R' Aw' mw' cw' L',Hid (LM w0 w' n s t P M AE cE TI TO FI FO SC cC SL cL H l D R' Aw' mw' cw' L' wk)/\mw'<=mw+1/\KW w1 w'/\w1.heap.size<=w'.heap.size /\
   Hid (∀pend pend':Int->Prop,PI n l s D R L pend->(∀u:Int,pend u->u=v\/pend' u)->PI n l s D R' L' pend')
section
variable {w0 w w':World} {n s t P M cE TI TO SC cC SL cL H mw cw:Nat} {AE Aw:Option Addr} {FI FO:Nat->Option Addr × Nat} {l:List E} {D R:List Int} {L:List Sp} {wk:Int}
theorem MendSays.ret {v:Int} {w1:World} {e e':Ending} {r':Value} (h:MendSays w0 n s t P M AE cE TI TO FI FO SC cC SL cL H l D R Aw mw cw L wk v w1 e w') (he:e'= .returned r':=by rfl):MendSays w0 n s t P M AE cE TI TO FI FO SC cC SL cL H l D R Aw mw cw L wk v w1 (.returned r') w':=⟨⟨r',rfl⟩,h.2⟩
theorem row_ids (hg:Gd n l s) (h:LM w0 w n s t P M AE cE TI TO FI FO SC cC SL cL H l D R Aw mw cw L wk) {v:Nat}:∀j∈ol (tl l) M v,∃i,i<M/\j=(i:Int)/\en l i=v:=fun j hj=>by
 obtain⟨i,hi,he,hf⟩:=(ol_mem _ _ _ _).1 hj;rw[tl_fr] at hf;exact⟨i,hi,he,hf⟩
theorem mend_put (h:LM w0 w n s t P M AE cE TI TO FI FO SC cC SL cL H l D R Aw mw cw L wk) {v:Nat} (hv:v<n) (hvs:v≠s) {e:Ending} {w2 w3:World} {bv:Int} (hb:best l D (ins l v)=bv) (hm:LM w0 w2 n s t P M AE cE TI TO FI FO SC cC SL cL H l D (R.set v bv) Aw mw cw L wk) (hk:KW w w2) (hz:w.heap.size<=w2.heap.size) (hp:PutSays w0 n s t P M AE cE TI TO FI FO SC cC SL cL H l D (R.set v bv) Aw mw cw L wk v w2 e w3):MendSays w0 n s t P M AE cE TI TO FI FO SC cC SL cL H l D R Aw mw cw L wk v w e w3:=by
 obtain⟨hr,Aw',mw',cw',L',h1,h2,h3,h4,h5,h6,h7⟩:=hp;refine⟨hr,_,Aw',mw',cw',L',hid h1,h5,hk.trans h6,Nat.le_trans hz h7,hid fun pend pend' hpi hpe=> ?_⟩;have hki:∀x∈L',0<=x.2.2/\x.2.2<n:=fun x hx=>(h3 x hx).elim (hpi.ids x) fun e=>by rw[e];exact⟨by simp[ky],by simp[ky];omega⟩
 have hd:dg (R.set v bv) v=bv:=by
  have:=dg_set (D:=R) (t:=(v:Int)) (v:=v) (x:=bv) (by omega) (by rw[h.rl];omega) (by omega)
  rwa [if_pos rfl,Int.toNat_natCast] at this
 have:=hpi.mend (v:=(v:Int)) (L':=L') (pend':=pend') (by omega) (by omega) (by omega) h2 hki (by rw[hb,Int.toNat_natCast];intro hne;exact h4 (by rw[hd];exact hne)) hpe;rw[hb,Int.toNat_natCast] at this;exact this
theorem set_self {R:List Int} {v:Nat} (h:v<R.length):R.set v (dg R v)=R:=by
 apply List.ext_getElem
 ·simp
 ·intro i h1 h2
  rw[List.getElem_set];split
  ·rename_i e
   subst e;unfold dg;rw[Int.toNat_natCast,List.getD_eq_getElem?_getD,List.getElem?_eq_getElem h2]
   rfl
  ·rfl
theorem mend_any (h:LM w0 w n s t P M AE cE TI TO FI FO SC cC SL cL H l D R Aw mw cw L wk) (hg:Gd n l s) (hr:Rg n D) {v:Nat} (hv:v<n) (hmw:mw<=4000000000000) :
 Calls Tryz.prog 85 #[.pointer (some ⟨P,0,none⟩),.int .i64 v] w fun e w'=>MendSays w0 n s t P M AE cE TI TO FI FO SC cC SL cL H l D R Aw mw cw L wk v w e w':=by
 obtain⟨z0,z1,z2,z3,z4,z5,z6,z7,z8,z9,_,zp⟩:=h.zs;have zv:(v:Int)<(n:Int):=by omega
 by_cases hvs:v=s
 ·subst hvs
  have hpost:MendSays w0 n v t P M AE cE TI TO FI FO SC cC SL cL H l D R Aw mw cw L wk v w (.returned (.tuple #[])) w:=⟨⟨_,rfl⟩,R,Aw,mw,cw,L,hid h,Nat.le_succ _,KW.refl w,Nat.le_refl _,hid fun pend pend' hpi hpe=>hpi.mend_s hpe⟩;have hd:((v:Int) == (v:Int))=true:=by simp
  have HPOST:=hid hpost;clear h hpost hr hg;go_enter Tryz.func85,Tryz.ntmps85;go_wp2;exact bodyPost_ret (v:= .tuple #[]) (by simp[results,Tryz.results85,go_sem]) rfl HPOST.out
 ·have hd:((v:Int) == (s:Int))=false:=by rw[beq_eq_false_iff_ne];omega
  obtain⟨tc,tf⟩:=h.tabI.cell hv;have htl:=h.tabI.lt;have hown:=h.tabI.own v hv;have hids:=row_ids hg h (v:=v);have hbest:best l D (ol (tl l) M v)=best l D (ins l v):=by unfold ins;rw[h.ll,Int.toNat_natCast]
  have hjl:(ol (tl l) M v).length<=600:=Nat.le_trans (ol_len _ _ _) (by rw[<-h.ll];exact hg.len);generalize ol (tl l) M v=js at tc hown hids hbest hjl;obtain⟨A,ca⟩:∃A ca,FI v=(A,ca):=⟨_,_,rfl⟩;obtain⟨ca,hF⟩:=ca;rw[hF] at tc hown;simp only at tc hown;have hlen:=(hown.form);obtain⟨bv,hbv⟩:∃bv,best l D (ins l v)=bv:=⟨_,rfl⟩;rw[hbv] at hbest;have hfold:∀k (hk:k<js.length),(js.take (k+1)).foldl (mnS l D) far=mnS l D ((js.take k).foldl (mnS l D) far) js[k]:=fun k hk=>by rw[List.take_succ_eq_append_getElem hk,List.foldl_append];rfl
  have hput:=fun (R':List Int) (W:World) (hm:LM w0 W n s t P M AE cE TI TO FI FO SC cC SL cL H l D R' Aw mw cw L wk)=>put_any hm hv hmw;have hfin:=fun (W W':World) (e:Ending) (hm:LM w0 W n s t P M AE cE TI TO FI FO SC cC SL cL H l D (R.set v bv) Aw mw cw L wk) (hk:KW w W) (hz:w.heap.size<=W.heap.size) (hp:PutSays w0 n s t P M AE cE TI TO FI FO SC cC SL cL H l D (R.set v bv) Aw mw cw L wk v W e W')=>mend_put h hv hvs hbv hm hk hz hp;have HFIN:=hid hfin;have HPUT:=hid hput;have HM:=hid h;have HG:=hid hg;have HR:=hid hr;have HO:=hid hown;have HI:=hid hids;have HB:=hid hbest;have HBV:=hid hbv;have HFO:=hid hfold;have hfar:far=1099511627776:=rfl;have HFAR:=hid hfar;clear h hg hr hown hids hbest hbv hfold hput hfin hF hlen tf hvs hfar;go_enter Tryz.func85,Tryz.ntmps85;go_wp2
  go_loopw [4,22] (fun b i wr=>∃k:Nat,k<=js.length/\i= .int .i64 k/\b= .int .i64 ((js.take k).foldl (mnS l D) far)/\Below w.heap.size w wr) (fun b i _=>js.length - (intOf i).toNat)
  case atStart=>exact⟨0,Nat.zero_le _,rfl,by rw[List.take_zero];rfl,Below.refl _ _⟩
  case round =>
   obtain⟨k,hk,rfl,rfl,hB⟩:=hrel;clear z0 z1 z2 z3 z4 z5 z6 z7 z8 z9 zp tc htl;obtain⟨z0,z1,z2,z3,z4,z5,z6,z7,z8,z9,_,zp⟩:=(HM.out.keep hB).zs
   by_cases hlt:k<js.length
   ·have hjs:=HI.out _ (List.getElem_mem hlt)
    obtain⟨bb,off,rfl,hbb,hx⟩:=(HO.out.keep hB).sl.2.atI hlt;have hst:=HFO.out k hlt;generalize js[k]=jk at hjs hx hst;obtain⟨i,hi,rfl,hei⟩:=hjs;obtain⟨S,f,t',co,rfl,hS0,hS1,he,hcf,hct,hcc,g0,g1,g2⟩:=own_atE HM.out.ll (HM.out.keep hB).net (show i<l.length by rw[HM.out.ll];exact hi);have hil:i<l.length:=by rw[HM.out.ll];exact hi
    have he2:ed l i=(f,t',co):=by rw[ed_at hil];exact he
    have e1:fr l i=f:=by unfold fr;rw[he2]
    have e3:cpt l i=co:=by unfold cpt;rw[he2]
    have hends:=(HG.out.ends i hil).1;have hco:=HG.out.cost i hil;rw[e1] at hends;rw[e3] at hco;obtain⟨f,rfl⟩:=Int.eq_ofNat_of_zero_le hends.1;have hfn:f<n:=by omega
    have zf:(f:Int)<(n:Int):=by omega
    obtain⟨c1,_,_,_,zc,_⟩:=(HM.out.keep hB).cells hfn;have hrg:=HR.out.rg (f:Int) (by omega) zf;have hms:mnS l D ((js.take k).foldl (mnS l D) far) (i:Int)=min ((js.take k).foldl (mnS l D) far) (dg D (f:Int)+co):=by unfold mnS;rw[Int.toNat_natCast,e1,e3]
    rw[hms] at hst;generalize (js.take k).foldl (mnS l D) far=b at *;generalize dg D (f:Int)=d at *;have hff:=HFAR.out;rw[hff] at hrg;obtain⟨r0,r1⟩:=hrg;obtain⟨o0,o1⟩:=hco;have w1:IntKind.i64.wrap (d+co)=d+co:=by simp[IntKind.wrap,IntKind.bits,IntKind.signed];omega
    obtain⟨q,hq⟩:∃q,d+co=q:=⟨_,rfl⟩;rw[hq] at w1 hst;obtain⟨mn,hmn⟩:∃mn,min b q=mn:=⟨_,rfl⟩;have hif:(if q<b then q else b)=mn:=by split <;> omega
    rw[hmn] at hst;have HST:=hid hst;have zi:(i:Int)<(M:Int):=by omega
    have w1':IntKind.i64.wrap (d+co)=q:=by rw[hq];exact w1
    have hBz:=hB.size;clear hst hmn hms he he2 e1 e3 hends hei hil hi hff hq w1;go_upto_region 6 with fail;go_quiet (fail);go_wp2
    go_roundw
    case rel=>exact⟨k+1,by omega,by go_num,by rw[HST.out],below_drewN (hB.alloc hB.size _) nq⟩
    case measure=>simp[intOf];omega
   ·obtain rfl:k=js.length:=by omega
    have hbb:js.foldl (mnS l D) far=bv:=HB.out;rw[List.take_length,hbb];clear hbb;obtain⟨_,c2,_,f2,_,zc2⟩:=(HM.out.keep hB).cells hv;have hBz:=hB.size
    by_cases hne:bv=dg R (v:Int)
    ·have hset:R.set v bv=R:=by rw[hne];exact set_self (by rw[HM.out.rl];exact hv)
     have hm2:=HM.out.keep hB;rw[<-hset] at hm2;have hpu:=HPUT.out _ _ hm2;have HPU:=hid hpu;have HM2:=hid hm2;have hd2:(bv != dg R (v:Int))=false:=by rw[hne];simp
     clear hset hm2 hpu hne f2;generalize dg R (v:Int)=r at *
     go_wp2_with fail
     refine(HPU.out).mono ?_;rintro e w9 hps;obtain⟨⟨r9,rfl⟩,hps2⟩:=hps;have hq:=HFIN.out _ _ _ HM2.out (KW.below hB) hBz ⟨⟨r9,rfl⟩,hps2⟩;have HQ:=hid hq;clear hq hps2;go_wp2;exact bodyPost_end (v:= .tuple #[]) (by simp[results,Tryz.results85,go_sem]) rfl (MendSays.ret HQ.out)
    ·have hd2:(bv != dg R (v:Int))=true:=by rw[bne_iff_ne];exact hne
     have hm2:=(HM.out.keep hB).setL v bv;have hkw:=(KW.below hB).trans ((HM.out.keep hB).kw_setL v (.int .i64 bv));have hpu:=HPUT.out _ _ hm2;have HPU:=hid hpu;have HM2:=hid hm2;have HKW:=hid hkw;clear hm2 hpu hne hkw;generalize dg R (v:Int)=r at *
     go_wp2_with fail
     refine(HPU.out).mono ?_;rintro e w9 hps;obtain⟨⟨r9,rfl⟩,hps2⟩:=hps;have hq:=HFIN.out _ _ _ HM2.out HKW.out (by simp[World.setCell];omega) ⟨⟨r9,rfl⟩,hps2⟩;have HQ:=hid hq;clear hq hps2;go_wp2;exact bodyPost_end (v:= .tuple #[]) (by simp[results,Tryz.results85,go_sem]) rfl (MendSays.ret HQ.out)
end
end Life
end Go.Proofs.YtjebckehmmbkbaaGreat
