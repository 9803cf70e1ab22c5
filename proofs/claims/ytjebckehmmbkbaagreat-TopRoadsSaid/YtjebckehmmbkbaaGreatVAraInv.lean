/- Small contracts for TopRoads: bell, john and floyd at one cell, the closure `same`, one(), and the guesses by landmarks. Arguments opened: slices of ints and of structs of ints, nets, grids. Plain facts on walks and their parts, and what begun answers. Plain facts on the search that goes on (Likhachev, Gordon, Thrun): states, steps, rounds; there is but one run. No Go in sight. Plain facts on the  -/
import Derived.Deep.Slices
import Derived.Deep.Fields
import Derived.SizedLaws
import Derived.Test.YtjebckehmmbkbaaGreatVHeurSmall
set_option linter.unusedSimpArgs false
set_option linter.unusedVariables false
set_option maxRecDepth 100000
set_option maxHeartbeats 24000000
namespace Go.Proofs.YtjebckehmmbkbaaGreat
namespace TopU
open Go.RowKit NetLaw BellLaw DijkLaw FloydLaw HeurLaw Net Go.Proofs.YtjebckehmmbkbaaGreat.Std RowsInt FloydAll Heur
open TopC (Cs FC)
theorem one_t (w:World):Calls Tryz.prog 13 #[] w fun e w'=>e= .returned (.agg #[.int .i64 1,.int .i64 1])/\Below w.heap.size w w':=by
 go_enter Tryz.func13,Tryz.ntmps13;go_wp2;refine bodyPost_ret (v:= .agg #[.int .i64 1,.int .i64 1]) (by simp[results,Tryz.results13,go_sem]) rfl ⟨rfl,?_⟩;exact(Below.refl _ _).alloc zzL _
theorem same_t (bc:Nat) (cc xe co:Int) (w:World) (hc:w.cell? ⟨bc,0,none⟩=some (.int .i64 cc)) (hb:bc<w.heap.size) (hs:Cs cc xe co) :
 Calls Tryz.prog 10 #[.int .i64 co,.int .i64 xe,.pointer (some ⟨bc,0,none⟩)] w fun e w'=>e= .returned (.bool true)/\w=w':=by
 rcases hs with ⟨rfl,rfl,_⟩|⟨rfl,rfl,h⟩
 ·go_enter Tryz.func10,Tryz.ntmps10
  go_wp2;go_ret;exact⟨rfl,rfl⟩
 ·unfold far at h
  subst h;go_enter Tryz.func10,Tryz.ntmps10;go_wp2;go_ret;exact⟨rfl,rfl⟩
theorem bell_t (n f t:Nat) (A:Option Addr) (c:Nat) (l:List E) (hg:NetLaw.Good n l) (hc:∀e∈l,1<=e.2.2) (hf:f<n) (ht:t<n) (hll:l.length<=9223372036854775807) {M:List Int} (hM:Sh n f l M) (W:World) (h:Sl W W.heap.size 3 ce A l) :
 Calls Tryz.prog 7 #[.agg #[.int .i64 n,.slice A l.length c],.int .i64 f] W fun e w'=>∃S,e= .returned (.tuple #[.slice (some ⟨S,0,none⟩) n n,.int .i64 0])/\S<w'.heap.size/\w'.cell? ⟨S,t,none⟩=some (.int .i64 (dg M t))/\Below W.heap.size W w':=by
 obtain⟨z1,z2⟩:=JohnPlain.bell_all hg (TopD.all_fl hg hc) hf;refine(Bell.dist_any n A c l f W h hll).mono ?_;rintro e w' ⟨_,k2,k3⟩
 have hz:Bell.derr n l f=0:=by
  rw[Bell.derr,if_neg (by simpa using chk_zero.2 hg),if_neg (by omega),if_neg];simp only[Int.toNat_natCast];omega
 obtain⟨S,_,k4,k5,_⟩:=k2 hz;simp only[Int.toNat_natCast] at k4 k5;rw[z2] at k5;obtain⟨dc,_⟩:=own_at1 (by simp) k5 ht
 have e1:((List.range n).map (all n l f)).getD t 0=dg M t:=by
  rw[<-TopD.all_at hg hc hf ht hM];simp[ht]
 rw[e1] at dc;exact⟨S,k4,(k5.base_ S rfl).2,dc,k3⟩
def RowAt (w:World) (A:Option Addr) (n f t:Nat) (x:Int):Prop :=
 ∃b off b8 o8 C8,A=some ⟨b,off,none⟩/\b<w.heap.size/\b8<w.heap.size/\w.cell? ⟨b,off+f,none⟩=some (.slice (some ⟨b8,o8,none⟩) n C8)/\w.cell? ⟨b8,o8+t,none⟩=some (.int .i64 x)
theorem row_at {w:World} {A:Option Addr} {n f t:Nat} {M:Mx Int} (h:Sr w w.heap.size A (rows n M)) (hf:f<n) (ht:t<n):RowAt w A n f t (M f t):=by
 obtain⟨b,off,rfl,hb,hcc⟩:=h (by rw[rows_len];omega);obtain⟨A8,C8,hc8,hs8⟩:=hcc f (by rw[rows_len];exact hf);rw[show (rows n M)[f]'(by rw[rows_len];exact hf)=_ from rows_get n _ (by rw[rows_len];exact hf)] at hc8 hs8;rw[List.length_map,List.length_range] at hc8;obtain⟨b8,o8,rfl,hb8,hd⟩:=hs8 (by simp;omega);refine⟨b,off,b8,o8,C8,rfl,hb,hb8,hc8,?_⟩;have:=hd t (by simpa using ht) 0 (by decide)
 simpa [ci] using this
theorem RowAt.keep {w w':World} {A:Option Addr} {n f t:Nat} {x:Int} (h:RowAt w A n f t x) (hb:Below w.heap.size w w'):RowAt w' A n f t x:=by
 obtain⟨b,off,b8,o8,C8,rfl,h1,h2,h3,h4⟩:=h;have hz:=hb.size;exact⟨b,off,b8,o8,C8,rfl,by omega,by omega,((keepAt hb h1).1 _).trans h3,((keepAt hb h2).1 _).trans h4⟩
theorem john_t (n f t:Nat) (A:Option Addr) (c:Nat) (l:List E) (hA:A=none->l.length=0/\c=0) (hg:NetLaw.Good n l) (hc:∀e∈l,1<=e.2.2) (hf:f<n) (ht:t<n) (hll:l.length<=9223372036854775807) {M:List Int} (hM:Sh n f l M) (W:World) (h:Sl W W.heap.size 3 ce A l) :
 Calls Tryz.prog 8 #[.agg #[.int .i64 n,.slice A l.length c]] W fun e w'=>∃A' c',e= .returned (.tuple #[.slice A' n c',.int .i64 0])/\RowAt w' A' n f t (dg M t)/\Below W.heap.size W w':=by
 refine(John.All_any n A c l W h hA hll).mono ?_;rintro e w' ⟨_,k2,k3⟩;obtain⟨A',c',k4,k5⟩:=k2 (TopD.aerr_ok hg hc);simp only[Int.toNat_natCast] at k4 k5;have k6:=row_at k5 hf ht;rw[TopD.all_at hg hc hf ht hM] at k6;exact⟨A',c',k4,k6,k3⟩
theorem floyd_t (n f t:Nat) (A:Option Addr) (c:Nat) (l:List E) (hg:NetLaw.Good n l) (hc:∀e∈l,1<=e.2.2) (hf:f<n) (ht:t<n) (hll:l.length<=9223372036854775807) {M:List Int} (hM:Sh n f l M) (W:World) (h:Sl W W.heap.size 3 ce A l) :
 Calls Tryz.prog 9 #[.agg #[.int .i64 n,.slice A l.length c]] W fun e w'=>∃A' c',e= .returned (.tuple #[.slice A' n c',.int .i64 0])/\RowAt w' A' n f t (dg M t)/\Below W.heap.size W w':=by
 refine(yes_of n A c l hll (TopD.aerr_ok hg hc) W h).mono ?_;rintro e w' ⟨S,F,k4,k5,k6⟩;simp only[Int.toNat_natCast] at k4 k5;have k7:=row_at (sr_mt (q:=FloydAll.q) (fun _=>rfl) k5) hf ht;rw[TopD.all_at hg hc hf ht hM] at k7;exact⟨_,_,k4,k7,k6⟩
theorem dist_t (N:Int) (A:Option Addr) (c:Nat) (l:List E) (fr:Int) (hll:l.length<=9223372036854775807) (W:World) (h:Sl W W.heap.size 3 ce A l) :
 Calls Tryz.prog 4 #[.agg #[.int .i64 N,.slice A l.length c],.int .i64 fr] W fun e w'=>∃A' m c',e= .returned (.tuple #[.slice A' m c',.int .i64 (Dijk.look N l [fr])])/\Below W.heap.size W w':=by
 by_cases hk:Dijk.look N l [fr]=0
 ·refine(DijkTwo.dist_yes N A c l fr hll hk W h).mono ?_
  rintro e w' ⟨S,D,rfl,_,h2,_⟩;rw[hk];exact⟨_,_,_,rfl,h2⟩
 ·refine(DijkTwo.dist_no N A c l fr hll hk W h).mono ?_
  rintro e w' ⟨rfl,h2⟩;exact⟨_,_,_,rfl,h2⟩
theorem of_good {N f t:Int} {l:List E} {ms:List Int} (h1:Dijk.look N l [f]=0) (h2:OkM N l ms/\0<=t/\t<N):∃n f' t':Nat,N=n/\f=f'/\t=t'/\f'<n/\t'<n/\NetLaw.Good n l/\(∀e∈l,1<=e.2.2)/\Dijk.look n l [(f':Int),(t':Int)]=0/\∀m er out,OfFact N l ms t m er out->er=0/\n=m/\StarF.slook n f' t' l out=0/\out.length=n/\∀M,Sh n f' l M->∀v:Nat,v<n->dg M v<far->dg out v<far->dg M v+dg out v<far:=by
 obtain⟨hg,hc,f0,f1⟩:=Dijk.look_zero h1;obtain⟨h3,t0,t1⟩:=h2;have hlo:=hg.lo;obtain⟨n,rfl⟩:=Int.eq_ofNat_of_zero_le (show 0<=N by omega);obtain⟨f,rfl⟩:=Int.eq_ofNat_of_zero_le f0;obtain⟨t,rfl⟩:=Int.eq_ofNat_of_zero_le t0;have hlk:Dijk.look n l [(f:Int),(t:Int)]=0:=Heur.look_good hg hc (by intro v hv;simp at hv;omega);refine⟨n,f,t,rfl,rfl,rfl,by omega,by omega,hg,hc,hlk,fun m er out ho=> ?_⟩;obtain⟨_,_,hr⟩:=okM_iff.1 h3;rcases ho with ⟨_,_,h4⟩|⟨e1,_,e2,D1,D2,hL,e3⟩
 ·exact absurd ⟨h3,t0,t1⟩ h4
 ·obtain rfl:m=n:=by omega
  have hcons:=bls_cons hL hr hg hc (t:=(t:Int)) ⟨by omega,by omega⟩;rw[<-e3] at hcons;refine⟨e1,rfl,StarF.slook_zero.2 ⟨hlk,hcons⟩,by have:=hcons.len;omega,fun M hM v hv a b=> ?_⟩;rw[e3] at b ⊢;exact bls_small hL hr hg hc (t:=(t:Int)) ⟨by omega,by omega⟩ hM v hv a b
theorem tbox {w w3 W:World} {N:Int} {A Ah:Option Addr} {c:Nat} {l:List E} {hs:List Int} {cc:Int} (hl:Sl w w.heap.size 3 ce A l) (h3:Below (w.heap.size+1) (w.alloc (.cells #[.int .i64 N,.slice A l.length c] 24)) w3) (hh:Sl w3 w3.heap.size 1 ci Ah hs) (hW:Below (w3.heap.size+1) (w3.alloc (.cells #[.int .i64 cc] 3)) W) :
 W.cell? ⟨w.heap.size,0,none⟩=some (.int .i64 N)/\W.cell? ⟨w.heap.size,1,none⟩=some (.slice A l.length c)/\W.cell? ⟨w3.heap.size,0,none⟩=some (.int .i64 cc)/\w3.heap.size+1<=W.heap.size/\Sl W W.heap.size 3 ce A l/\Sl W W.heap.size 1 ci Ah hs/\Below w.heap.size w W:=by
 have hb0:Below w.heap.size w (w.alloc (.cells #[.int .i64 N,.slice A l.length c] 24)):=(Below.refl _ _).alloc zzL _;have hz3:w.heap.size+1<=w3.heap.size:=by have:=h3.size;simpa using this
 have hw5:Below w3.heap.size w3 (w3.alloc (.cells #[.int .i64 cc] 3)):=(Below.refl _ _).alloc zzL _;have hW3:Below w3.heap.size w3 W:=hw5.trans (hW.mono (Nat.le_succ _));have hn:=h3.trans (hW3.mono hz3);have hbx:=blk_below (heap_alloc_new w (.cells #[.int .i64 N,.slice A l.length c] 24)) hn (Nat.lt_succ_self _);have hcx:=blk_below (heap_alloc_new w3 (.cells #[.int .i64 cc] 3)) hW (Nat.lt_succ_self _);have q0:=blk_cell hbx 0;have q1:=blk_cell hbx 1;have q2:=blk_cell hcx 0;simp only[zzG,zzH,zzI] at q0 q1 q2;have hb:=hb0.trans (hn.mono (Nat.le_succ _));exact⟨q0,q1,q2,lt_of_block hcx,(hl.keep hb zzL).more hb.size,(hh.keep hW3 zzL).more hW3.size,hb⟩
def FE (w wx:World) (R:Nat) (cc xe co:Int):Prop:=wx.cell? ⟨R,1,none⟩=some (.int .i64 co)/\R<wx.heap.size/\Cs cc xe co/\Below w.heap.size w wx
theorem fend_new {w w6:World} {cc xe co:Int} (hb:Below w.heap.size w w6) (hcs:Cs cc xe co) (a b:Value):FE w (w6.alloc (.cells #[a,.int .i64 co,b] 38)) w6.heap.size cc xe co:=by
 have h:=heap_alloc_new w6 (.cells #[a,.int .i64 co,b] 38);have q1:=blk_cell h 1;simp only[zzG,zzH,zzI] at q1;exact⟨q1,lt_of_block h,hcs,hb.alloc hb.size _⟩
theorem fend_set {w w6:World} {R:Nat} {cc xe co:Int} (hr:w6.heap[R]?=some (.cells #[.slice none 0 0,.int .i64 0,.slice none 0 0] 38 (0,0))) (hR:w.heap.size<=R) (hb:Below w.heap.size w w6) (hcs:Cs cc xe co) (a b:Value) :
 FE w (((w6.setCell ⟨R,0,none⟩ a).setCell ⟨R,1,none⟩ (.int .i64 co)).setCell ⟨R,2,none⟩ b) R cc xe co:=by
 have h:=StarF.fnd_set hr a (.int .i64 co) b;have q1:=blk_cell h 1;simp only[zzG,zzH,zzI] at q1;exact⟨q1,lt_of_block h,hcs,((hb.setCell hR _).setCell hR _).setCell hR _⟩
theorem FE.at_ {w wx W:World} {R:Nat} {cc xe co:Int} (h:FE w wx R cc xe co) (hb:Below wx.heap.size wx W):W.cell? ⟨R,1,none⟩=some (.int .i64 co)/\R<W.heap.size:=⟨((keepAt hb h.2.1).1 1).trans h.1,Nat.lt_of_lt_of_le h.2.1 hb.size⟩
def AE (w wx:World) (R:Nat) (cc:Int):Prop:=wx.cell? ⟨R,8,none⟩=some (.int .i64 cc)/\R<wx.heap.size/\Below w.heap.size w wx
end TopU
open Go.RowKit Go.ChangeShapes Go.WideShapes Go.Joins Go.Deep
def LenD {H:Type} (d:DataW H) (n:Nat):Prop:=(d= .nil/\n=0)\/∃elems spare,d= .slice elems spare/\elems.length=n
def I64 (z:Int):Prop:= -9223372036854775808<=z/\z<=9223372036854775807
theorem lt_of_cell {w:World} {b o:Nat} {v:Value} (h:w.cell? ⟨b,o,none⟩=some v):b<w.heap.size:=by
 rcases Nat.lt_or_ge b w.heap.size with hb|hb
 ·exact hb
 ·exfalso
  unfold World.cell? at h;rw[Array.getElem?_eq_none hb] at h;cases h
section
variable {H:Type} {enc:TypeId × Value->H} {P:Program} {w:World} {base:Nat} {spare:Nat->Bool} {held:Bool}
theorem open_row {t e:TypeId} {fs:Array Field} {fuel:Nat} {v:Value} {x:DataW H × List MemPlace} (ht:P.underlying t=some (.slice e)) (he:P.underlying e=some (.struct fs))
 (hone:oneCellFields P fs=true) (hC:P.cellsOf e=fs.size) (hint:∀(j:Nat) (f:Field),fs[j]?=some f->P.underlying f.type=some (.int .i64)) (h:DataW.trod enc P w base spare held fuel t [v]=some x) :
 ∃(A:Option Addr) (len cap:Nat) (g:Nat->Nat->Int),v= .slice A len cap/\len<=cap/\cap<=maxLen/\LenD x.1 len/\(A=none->len=0/\cap=0) /\
  ∀ad,A=some ad->∀i,i<len->∀j,j<fs.size->w.cell? (ad.add (i*fs.size+j))=some (.int .i64 (g i j))/\I64 (g i j):=by
 rcases open_slice ht h with ⟨h0,h1⟩|⟨a,len,cap,m,n,D,Pl,hcs,hb,hl,hm,hmm,hx,hi⟩
 ·injection h0 with h0 _
  subst h0 h1;exact⟨none,0,0,fun _ _=>0,rfl,Nat.le_refl _,Nat.zero_le _,.inl ⟨rfl,rfl⟩,fun _=>⟨rfl,rfl⟩,fun ad hA=>by cases hA⟩
 ·injection hcs with hcs _
  subst hcs;have hlm:len<=m:=by rw[hmm];split <;> omega
  have hex:∀i,∃gi:Nat->Int,i<len->∀j,j<fs.size->w.cell? (a.add (i*fs.size+j))=some (.int .i64 (gi j))/\I64 (gi j):=by
   intro i
   by_cases hil:i<len
   ·obtain⟨cs',hc,ht'⟩:=hi i (by omega)
    rw[hC] at hc;obtain⟨ys,n',hn',hy,hlen,hyl,hf⟩:=DataW.trod_struct he ht';obtain⟨_,hcl,hat⟩:=World.cells?_some hc
    have hexj:∀j,∃z:Int,j<fs.size->w.cell? (a.add (i*fs.size+j))=some (.int .i64 z)/\I64 z:=by
     intro j
     by_cases hj:j<fs.size
     ·have hfj:fs[j]?=some fs[j]:=Array.getElem?_eq_getElem hj
      obtain⟨ho,hk⟩:=hone_of hone j _ hfj;have hcell:=hat j hj;have hv:cs'[j]?=some (cs'[j]'(by omega)):=List.getElem?_eq_getElem (by omega);have h1:=hf j _ hfj;rw[ho,hk] at h1
      have hone':(cs'.drop j).take 1=[cs'[j]'(by omega)]:=by
       rw[List.drop_eq_getElem_cons (by omega)]
       rfl
      rw[hone'] at h1;have hys:ys[j]?=some (ys[j]'(by omega)):=List.getElem?_eq_getElem (by omega);rw[hys] at h1;obtain⟨z,e0,_,wz⟩:=DataW.trod_int (hint j _ hfj) h1;injection e0 with e0 _;refine⟨z,fun _=>⟨?_,wf_bd wz⟩⟩;rw[<-Go.Deep.add_add,hcell,hv,e0]
     ·exact⟨0,fun hh=>absurd hh hj⟩
    exact⟨fun j=>(hexj j).choose,fun _ j hj=>(hexj j).choose_spec hj⟩
   ·exact⟨fun _=>0,fun hh=>absurd hh hil⟩
  refine⟨some a,len,cap,fun i=>(hex i).choose,rfl,hl,hm,?_,fun hA=>(by cases hA),fun ad hA i hil j hj=> ?_⟩
  ·rw[hx]
   exact .inr ⟨_,_,rfl,by simp⟩
  ·injection hA with hA
   subst hA;exact(hex i).choose_spec hil j hj
theorem open_rowI {t e:TypeId} {fuel:Nat} {v:Value} {x:DataW H × List MemPlace} (ht:P.underlying t=some (.slice e)) (he:P.underlying e=some (.int .i64))
 (hC:P.cellsOf e=1) (h:DataW.trod enc P w base spare held fuel t [v]=some x) :
 ∃(A:Option Addr) (len cap:Nat) (g:Nat->Int),v= .slice A len cap/\len<=cap/\cap<=maxLen/\LenD x.1 len/\(A=none->len=0/\cap=0) /\
  ∀ad,A=some ad->∀i,i<len->w.cell? (ad.add i)=some (.int .i64 (g i))/\I64 (g i):=by
 rcases open_slice ht h with ⟨h0,h1⟩|⟨a,len,cap,m,n,D,Pl,hcs,hb,hl,hm,hmm,hx,hi⟩
 ·injection h0 with h0 _
  subst h0 h1;exact⟨none,0,0,fun _=>0,rfl,Nat.le_refl _,Nat.zero_le _,.inl ⟨rfl,rfl⟩,fun _=>⟨rfl,rfl⟩,fun ad hA=>by cases hA⟩
 ·injection hcs with hcs _
  subst hcs;have hlm:len<=m:=by rw[hmm];split <;> omega
  have hex:∀i,∃z:Int,i<len->w.cell? (a.add i)=some (.int .i64 z)/\I64 z:=by
   intro i
   by_cases hil:i<len
   ·obtain⟨cs',hc,ht'⟩:=hi i (by omega)
    rw[hC,Nat.mul_one] at hc;obtain⟨_,hcl,hat⟩:=World.cells?_some hc;obtain⟨z,rfl,_,wz⟩:=DataW.trod_int he ht';have h0:=hat 0 (by omega);rw[Go.Deep.add_add,Nat.add_zero] at h0;exact⟨z,fun _=>⟨h0,wf_bd wz⟩⟩
   ·exact⟨0,fun hh=>absurd hh hil⟩
  refine⟨some a,len,cap,fun i=>(hex i).choose,rfl,hl,hm,?_,fun hA=>(by cases hA),fun ad hA i hil=> ?_⟩
  ·rw[hx]
   exact .inr ⟨_,_,rfl,by simp⟩
  ·injection hA with hA
   subst hA;exact(hex i).choose_spec hil
theorem sl_of_row {α:Type} {sz:Nat} (hsz:0<sz) {cell:α->Nat->Value} {A:Option Addr} {l:List α} (hA:A=none->l.length=0)
 (h:∀ad,A=some ad->∀i (hi:i<l.length),∀j,j<sz->w.cell? (ad.add (i*sz+j))=some (cell l[i] j)):Sl w w.heap.size sz cell A l:=by
 intro hl
 match A,hA with
 |none,hA=>have:=hA rfl;omega
 |some ad,_ =>
  have h0:=h ad rfl 0 hl 0 hsz;obtain⟨b,off,spot⟩:=ad;have hspot:spot=none:=by simpa [Addr.add] using World.cell?_spot h0
  subst hspot;refine⟨b,off,rfl,?_,fun i hi j hj=> ?_⟩
  ·rw[add_plain] at h0
   exact lt_of_cell h0
  ·rw[<-add_plain]
   exact h _ rfl i hi j hj
structure Arg {α:Type} (w:World) (sz:Nat) (cell:α->Nat->Value) (A:Option Addr) (c:Nat) (l:List α):Prop where
 cap:l.length<=c
 max:c<=9223372036854775807
 nil:A=none->l.length=0/\c=0
 sl:Sl w w.heap.size sz cell A l
theorem open_ints' {t e:TypeId} {fuel:Nat} {v:Value} {x:DataW H × List MemPlace} (ht:P.underlying t=some (.slice e)) (he:P.underlying e=some (.int .i64))
 (hC:P.cellsOf e=1) (h:DataW.trod enc P w base spare held fuel t [v]=some x) :
 ∃(A:Option Addr) (c:Nat) (l:List Int),v= .slice A l.length c/\Arg w 1 ci A c l/\LenD x.1 l.length/\∀z∈l,I64 z:=by
 obtain⟨A,len,cap,g,rfl,hl,hm,hd,hnil,hc⟩:=open_rowI ht he hC h;have hll:((List.range len).map g).length=len:=by simp
 refine⟨A,cap,(List.range len).map g,by rw[hll],⟨by omega,hm,by rw[hll];exact hnil,?_⟩,by rw[hll];exact hd,fun z hz=> ?_⟩
 ·refine sl_of_row (by omega) (fun hA=>by rw[hll];exact(hnil hA).1) fun ad hA i hi j hj=> ?_
  obtain rfl:j=0:=by omega
  rw[hll] at hi;rw[Nat.mul_one,Nat.add_zero,(hc ad hA i hi).1];simp[ci]
 ·rw[List.mem_map] at hz
  obtain⟨i,hi,rfl⟩:=hz;rw[List.mem_range] at hi
  match A,hnil with
  |none,hnil=>have:=hnil rfl;omega
  |some ad,_=>exact(hc ad rfl i hi).2
theorem open_three' {t e:TypeId} {f0 f1 f2:Field} {fuel:Nat} {v:Value} {x:DataW H × List MemPlace} (ht:P.underlying t=some (.slice e)) (he:P.underlying e=some (.struct #[f0,f1,f2]))
 (hone:oneCellFields P #[f0,f1,f2]=true) (hC:P.cellsOf e=3) (h0:P.underlying f0.type=some (.int .i64)) (h1:P.underlying f1.type=some (.int .i64)) (h2:P.underlying f2.type=some (.int .i64)) (h:DataW.trod enc P w base spare held fuel t [v]=some x) :
 ∃(A:Option Addr) (c:Nat) (l:List (Int × Int × Int)),v= .slice A l.length c/\Arg w 3 ce A c l/\LenD x.1 l.length/\∀z∈l,I64 z.1/\I64 z.2.1/\I64 z.2.2:=by
 obtain⟨A,len,cap,g,rfl,hl,hm,hd,hnil,hc⟩:=open_row ht he hone hC (fun j f hj=>by
  match j,hj with
  |0,hj=>simp at hj;subst hj;exact h0
  |1,hj=>simp at hj;subst hj;exact h1
  |2,hj=>simp at hj;subst hj;exact h2
  |j+3,hj=>simp at hj) h
 have hll:((List.range len).map fun i=>(g i 0,g i 1,g i 2)).length=len:=by simp
 refine⟨A,cap,(List.range len).map fun i=>(g i 0,g i 1,g i 2),by rw[hll],⟨by omega,hm,by rw[hll];exact hnil,?_⟩,by rw[hll];exact hd,fun z hz=> ?_⟩
 ·refine sl_of_row (by omega) (fun hA=>by rw[hll];exact(hnil hA).1) fun ad hA i hi j hj=> ?_
  rw[hll] at hi;refine(hc ad hA i hi j hj).1.trans ?_
  match j,hj with
  |0,_=>simp[ce]
  |1,_=>simp[ce]
  |2,_=>simp[ce]
 ·rw[List.mem_map] at hz
  obtain⟨i,hi,rfl⟩:=hz;rw[List.mem_range] at hi
  match A,hnil with
  |none,hnil=>have:=hnil rfl;omega
  |some ad,_=>exact⟨(hc ad rfl i hi 0 (by simp)).2,(hc ad rfl i hi 1 (by simp)).2,(hc ad rfl i hi 2 (by simp)).2⟩
theorem open_net {r:Reach} {b0:Nat} {t e:TypeId} {f0 f1 e0 e1 e2:Field} {v:Value} {d:DataW H} {p:List MemPlace}
 (hs:P.underlying t=some (.struct #[f0,f1])) (hone:oneCellFields P #[f0,f1]=true) (hC:P.cellsOf t=2) (h0:P.underlying f0.type=some (.int .i64)) (h1:P.underlying f1.type=some (.slice e))
 (he:P.underlying e=some (.struct #[e0,e1,e2])) (heo:oneCellFields P #[e0,e1,e2]=true) (heC:P.cellsOf e=3) (g0:P.underlying e0.type=some (.int .i64)) (g1:P.underlying e1.type=some (.int .i64)) (g2:P.underlying e2.type=some (.int .i64))
 (hv:Value.okWide P w r b0 t v) (h:DataW.Trod enc P w base spare held t v d p) :
 ∃(N:Int) (A:Option Addr) (c:Nat) (l:List (Int × Int × Int)) (d1:DataW H),v= .agg #[.int .i64 N,.slice A l.length c]/\I64 N/\Arg w 3 ce A c l/\(∀z∈l,I64 z.1/\I64 z.2.1/\I64 z.2.2)/\d= .agg [.lit (.int .i64 N),d1]/\LenD d1 l.length:=by
 obtain⟨c0,c1,y0,y1,m,rfl,rfl,rfl,hy0,hy1⟩:=open_agg2 hs hone hC hv h;obtain⟨N,q0,rfl,wa⟩:=DataW.trod_int h0 hy0;simp at q0;subst q0;obtain⟨A,c,l,rfl,hA,hd,hb⟩:=open_three' h1 he heo heC g0 g1 g2 hy1;exact⟨N,A,c,l,y1.1,rfl,wf_bd wa,hA,hb,rfl,hd⟩
theorem open_sl1 {r:Reach} {b0:Nat} {t e:TypeId} {v:Value} {d:DataW H} {p:List MemPlace} (ht:P.underlying t=some (.slice e)) (he:P.underlying e=some (.int .i64))
 (hC:P.cellsOf e=1) (hv:Value.okWide P w r b0 t v) (h:DataW.Trod enc P w base spare held t v d p) :
 ∃(A:Option Addr) (c:Nat) (l:List Int),v= .slice A l.length c/\Arg w 1 ci A c l/\LenD d l.length/\∀z∈l,I64 z:=by
 obtain⟨A,n,c,rfl⟩:=okWide_slice ht hv;obtain⟨fuel,hf⟩:=h;exact open_ints' ht he hC hf
end
namespace TopLaw
open Go.RowKit NetLaw BellLaw DijkLaw WayLaw WalkLaw Net Go.Proofs.YtjebckehmmbkbaaGreat.Std Dijk DijkWay DijkTwo WayUse
theorem eg_edge {l:List E} {a b:Int} (h:(eg l a b).2=true):∃e∈l,e.1=a/\e.2.1=b/\e.2.2=(eg l a b).1:=by
 obtain⟨_,_,h3⟩:=eg_fold a b l (0,false);rcases h3 with h3|⟨e,he,h1,h2,h4⟩
 ·have:eg l a b=(0,false):=h3
  rw[this] at h;cases h
 ·have:eg l a b=(e.2.2,true):=h4
  exact⟨e,he,h1,h2,by rw[this]⟩
theorem walk_wk {l:List E} (p:List Int) (x y:Int) (hx:p.head?=some x) (hy:p.getLast?=some y) (hok:okP l (prs p)=true):Wk l x y (sumP l (prs p)):=by
 induction p generalizing x with
 |nil=>simp at hx
 |cons a r ih =>
  simp at hx;subst hx;cases r with
  |nil =>
   simp at hy;subst hy;exact Wk.here
  |cons b r =>
   rw[prs_cons] at hok ⊢;have s1:okP l ((a,b)::prs (b::r))=((eg l a b).2 && okP l (prs (b::r))):=by simp[okP]
   have s2:sumP l ((a,b)::prs (b::r))=(eg l a b).1+sumP l (prs (b::r)):=by simp[sumP]
   rw[s1,Bool.and_eq_true] at hok;obtain⟨e,he,h1,h2,h3⟩:=eg_edge hok.1;have ih2:=ih b rfl (by simpa using hy) hok.2;have hs:=Wk.step (l:=l) (fr:=a) (e:=e) Wk.here he h1;rw[h2,Int.zero_add] at hs;have hj:=DijkMorePlain.wk_join hs ih2;rw[s2, <-h3];exact hj
theorem look01:Dijk.look 2 [(0,1,5)] [0,1]=0:=by decide +kernel
theorem begun_any (w:World):Calls Tryz.prog 6 #[] w fun e w'=>e= .returned (.bool true)/\Below w.heap.size w w':=by
 have hs:=sl_new (sz:=3) (cell:=ce) (by decide) w #[.int .i64 0,.int .i64 1,.int .i64 5] 70 [(0,1,5)] rfl;have key:=way_any 2 (some ⟨w.heap.size,0,none⟩) 1 [(0,1,5)] 0 1 _ hs (by decide)
 have key2:Calls Tryz.prog 23 #[.agg #[.int .i64 2,.slice (some ⟨w.heap.size,0,none⟩) 1 1],.int .i64 0,.int .i64 1] (w.alloc (.cells #[.int .i64 0,.int .i64 1,.int .i64 5] 70)) fun e w'=>∃A n c,e= .returned (.tuple #[.agg #[.slice A n c,.int .i64 5],.int .i64 0])/\Below (w.heap.size+1) (w.alloc (.cells #[.int .i64 0,.int .i64 1,.int .i64 5] 70)) w':=by
  refine key.mono ?_;rintro e w' ⟨_,k2,k3⟩;obtain⟨D,hD,_,k4⟩:=k2 look01;have e1:=sh0.unique hD two_ends two_cost;subst e1;obtain⟨A,c,p,he,_,_⟩:=k4 (by decide);exact⟨A,_,c,he,by simpa using k3⟩
 have KEY:=hid key2;have H0:Below w.heap.size w (w.alloc (.cells #[.int .i64 0,.int .i64 1,.int .i64 5] 70)):=(Below.refl _ _).alloc zzL _;clear hs key key2;go_enter Tryz.func6,Tryz.ntmps6
 go_wp2_with fail
 refine KEY.out.mono ?_;rintro e w1 ⟨A,n,c,rfl,hb⟩;have H1:=H0.trans (hb.mono (Nat.le_succ _));clear hb H0;go_wp2;go_ret;exact⟨rfl,H1.alloc H1.size _⟩
end TopLaw
namespace AraLaw
open NetLaw BellLaw StarLaw WalkLaw
structure Rnd where
 num:Int
 den:Int
 path:List Int
 cost:Int
 done:Int
structure AS where
 C:List Int
 P:List Int
 dn:List Bool
 op:Int->Bool
 lt:Int->Bool
 sp:Int
 rds:List Rnd
def db (l:List Bool) (v:Int):Bool:=l.getD v.toNat false
def up (f:Int->Bool) (v:Int) (b:Bool):Int->Bool:=fun u=>if u=v then b else f u
def reach1 (h:List Int) (v c u:Int) (s:AS):AS :=
 if c<dg s.C v/\dg h v≠far then
  { s with C:=s.C.set v.toNat c,P:=s.P.set v.toNat u,op:=if db s.dn v=true then s.op else up s.op v true,lt:=if db s.dn v=true then up s.lt v true else s.lt }
 else s
def mark (v:Int) (s:AS):AS:={ s with dn:=s.dn.set v.toNat true,op:=up s.op v false,sp:=s.sp+1 }
def expand (l:List E) (h:List Int) (v:Int) (s:AS):AS:=(oe l v).foldl (fun s e=>reach1 h e.2.1 (dg s.C v+e.2.2) v s) (mark v s)
def Op (N:Nat) (s:AS) (v:Int):Prop:=(0<=v/\v<N)/\s.op v=true
def kyA (w:Int × Int) (h:List Int) (s:AS) (v:Int):Tr:=(w.2*dg s.C v+w.1*dg h v,dg h v,v)
def NxA (N:Nat) (w:Int × Int) (h:List Int) (s:AS) (v:Int):Prop:=Op N s v/\∀u,Op N s u->StarLaw.lt3 (kyA w h s u) (kyA w h s v)=false
theorem NxA.unique {N:Nat} {w:Int × Int} {h:List Int} {s:AS} {u v:Int} (hu:NxA N w h s u) (hv:NxA N w h s v):u=v:=by
 have h1:=StarLaw.lt3_no.1 (hu.2 v hv.1);have h2:=StarLaw.lt3_no.1 (hv.2 u hu.1);simp only[kyA] at h1 h2;omega
def prevW (s:AS):List Int × Int:=match s.rds.getLast? with|some r=>(r.path,r.cost)|none=>([],far)
def BestA (N tt:Nat) (l:List E) (s:AS) (w:List Int × Int):Prop :=
 (¬dg s.C tt<far/\w=prevW s)\/(dg s.C tt<far/\∃cs,Ch s.P tt cs/\w=if (cost N l cs.reverse).1<(prevW s).2 then (cs.reverse,(cost N l cs.reverse).1) else prevW s)
theorem BestA.unique {N tt:Nat} {l:List E} {s:AS} {w w':List Int × Int} (h:BestA N tt l s w) (h':BestA N tt l s w'):w=w':=by
 rcases h with ⟨h1,h2⟩|⟨h1,cs,h2,h3⟩ <;> rcases h' with ⟨k1,k2⟩|⟨k1,cs',k2,k3⟩
 ·rw[h2,k2]
 ·exact absurd k1 h1
 ·exact absurd h1 k1
 ·rw[h3,k3,h2.unique k2]
def cwt (ws:List (Int × Int)) (s:AS):Int × Int:=ws.getD s.rds.length (1,1)
def told (ws:List (Int × Int)) (w:List Int × Int) (s:AS):AS:={ s with rds:=s.rds++[⟨(cwt ws s).1,(cwt ws s).2,w.1,w.2,s.sp⟩] }
def again (s:AS):AS:={ s with op:=fun v=>s.op v || s.lt v,lt:=fun _=>false,dn:=List.replicate s.dn.length false }
def Fin (N tt:Nat) (w:Int × Int) (h:List Int) (s:AS):Prop:=(∀v,¬Op N s v)\/∃v,NxA N w h s v/\dg s.C tt≠far/\¬(kyA w h s v).1<(kyA w h s tt).1
def Wt (N tt:Nat) (w:Int × Int) (h:List Int) (s:AS):Prop:=∃v,NxA N w h s v/\(dg s.C tt=far\/(kyA w h s v).1<(kyA w h s tt).1)
theorem fin_wt {N tt:Nat} {w:Int × Int} {h:List Int} {s:AS} (hf:Fin N tt w h s) (hw:Wt N tt w h s):False:=by
 obtain⟨v,hv,hc⟩:=hw;rcases hf with h1|⟨u,hu,h2,h3⟩
 ·exact h1 v hv.1
 ·rw[hu.unique hv] at h3
  rcases hc with h4|h4
  ·exact h2 h4
  ·exact h3 h4
section
variable (N tt:Nat) (l:List E) (h:List Int) (ws:List (Int × Int))
inductive Stl:AS->AS->Prop
 |over {s:AS}:s.rds.length=ws.length->Stl s s
 |wait {s:AS}:s.rds.length<ws.length->Wt N tt (cwt ws s) h s->Stl s s
 |last {s:AS} {w:List Int × Int}:s.rds.length+1=ws.length->Fin N tt (cwt ws s) h s->BestA N tt l s w->Stl s (told ws w s)
 |next {s s':AS} {w:List Int × Int}:s.rds.length+1<ws.length->Fin N tt (cwt ws s) h s->BestA N tt l s w->Stl (again (told ws w s)) s'->Stl s s'
def init (fr:Nat):AS:=reach1 h fr 0 (-1) ⟨List.replicate N far,List.replicate N (-1),List.replicate N false,fun _=>false,fun _=>false,0,[]⟩
inductive Rn (fr:Nat):Nat->AS->Prop
 |start {s:AS}:Stl N tt l h ws (init N h fr) s->Rn fr 0 s
 |step {k:Nat} {s s':AS} {v:Int}:Rn fr k s->s.rds.length<ws.length->NxA N (cwt ws s) h s v->Stl N tt l h ws (expand l h v s) s'->Rn fr (k+1) s'
end
section
variable {N tt fr:Nat} {l:List E} {h:List Int} {ws:List (Int × Int)}
theorem Stl.det {s a b:AS} (h1:Stl N tt l h ws s a) (h2:Stl N tt l h ws s b):a=b:=by
 induction h1 generalizing b with
 |over e =>
  cases h2 with
  |over _=>rfl
  |wait e' _=>omega
  |last e' _ _=>omega
  |next e' _ _ _=>omega
 |wait e hw =>
  cases h2 with
  |over _=>rfl
  |wait _ _=>rfl
  |last _ hf _=>exact absurd hw (fun hw=>fin_wt hf hw)
  |next _ hf _ _=>exact absurd hw (fun hw=>fin_wt hf hw)
 |last e hf hb =>
  cases h2 with
  |over e'=>omega
  |wait _ hw=>exact absurd hw (fun hw=>fin_wt hf hw)
  |last _ _ hb'=>rw[hb.unique hb']
  |next e' _ _ _=>omega
 |next e hf hb _ ih =>
  cases h2 with
  |over e'=>omega
  |wait _ hw=>exact absurd hw (fun hw=>fin_wt hf hw)
  |last e' _ _=>omega
  |next _ _ hb' h2 =>
   rw[hb.unique hb'] at ih;exact ih h2
theorem reach1_rds (h:List Int) (v c u:Int) (s:AS):(reach1 h v c u s).rds=s.rds/\(reach1 h v c u s).sp=s.sp/\(reach1 h v c u s).dn=s.dn:=by
 unfold reach1;split <;> exact⟨rfl,rfl,rfl⟩
theorem expand_rds (l:List E) (h:List Int) (v:Int) (s:AS):(expand l h v s).rds=s.rds/\(expand l h v s).sp=s.sp+1/\(expand l h v s).dn=s.dn.set v.toNat true:=by
 unfold expand
 have key:∀(es:List E) (s':AS),(es.foldl (fun s e=>reach1 h e.2.1 (dg s.C v+e.2.2) v s) s').rds=s'.rds/\(es.foldl (fun s e=>reach1 h e.2.1 (dg s.C v+e.2.2) v s) s').sp=s'.sp/\(es.foldl (fun s e=>reach1 h e.2.1 (dg s.C v+e.2.2) v s) s').dn=s'.dn:=by
  intro es
  induction es with
  |nil=>intro s';exact⟨rfl,rfl,rfl⟩
  |cons e es ih =>
   intro s';rw[List.foldl_cons];obtain⟨a,b,c⟩:=ih (reach1 h e.2.1 (dg s'.C v+e.2.2) v s');obtain⟨a',b',c'⟩:=reach1_rds h e.2.1 (dg s'.C v+e.2.2) v s';exact⟨a.trans a',b.trans b',c.trans c'⟩
 exact key _ _
theorem Rn.det {k:Nat} {s s':AS} (h1:Rn N tt l h ws fr k s) (h2:Rn N tt l h ws fr k s'):s=s':=by
 induction h1 generalizing s' with
 |start a =>
  cases h2 with
  |start b=>exact a.det b
 |step hr hl hv hs ih =>
  cases h2 with
  |step hr' hl' hv' hs' =>
   have e:=ih hr';subst e;have e:=hv.unique hv';subst e;exact hs.det hs'
theorem Rn.sp {k:Nat} {s:AS} (h1:Rn N tt l h ws fr k s):s.sp=k:=by
 have stl:∀{s a:AS},Stl N tt l h ws s a->a.sp=s.sp:=fun h=>by
  induction h with
  |over _=>rfl
  |wait _ _=>rfl
  |last _ _ _=>rfl
  |next _ _ _ _ ih=>rw[ih];rfl
 induction h1 with
 |start a =>
  rw[stl a,init,(reach1_rds ..).2.1]
  rfl
 |step hr hl hv hs ih =>
  rw[stl hs,(expand_rds ..).2.1,ih];omega
end
end AraLaw
namespace AraLaw
open NetLaw BellLaw StarLaw WalkLaw
theorem db_set {l:List Bool} {v u:Int} (v0:0<=v) (v1:v<l.length) (u0:0<=u):db (l.set v.toNat true) u=if u=v then true else db l u:=by
 unfold db;rw[List.getD_eq_getElem?_getD,List.getElem?_set]
 by_cases e:u=v
 ·subst e
  rw[if_pos rfl,if_pos rfl,if_pos (by omega)]
  rfl
 ·rw[if_neg (by omega),if_neg e,List.getD_eq_getElem?_getD]
theorem db_rep (n:Nat) (v:Int):db (List.replicate n false) v=false:=by
 unfold db;rw[List.getD_eq_getElem?_getD,List.getElem?_replicate];split <;> rfl
structure MidA (N:Nat) (l:List E) (h:List Int) (v:Int) (s0 s:AS) (seen:List E):Prop where
 lenC:s.C.length=s0.C.length
 lenP:s.P.length=s0.P.length
 dn:s.dn=s0.dn
 sp:s.sp=s0.sp
 rds:s.rds=s0.rds
 own:dg s.C v=dg s0.C v
 each:∀u:Int,0<=u->u<N->(dg s.C u=dg s0.C u/\dg s.P u=dg s0.P u/\s.op u=s0.op u/\s.lt u=s0.lt u) \/
  (∃c,(v,u,c)∈l/\dg s.C u=dg s0.C v+c/\dg s.C u<dg s0.C u/\dg s.P u=v/\dg h u≠far/\((db s0.dn u=true/\s.op u=s0.op u/\s.lt u=true)\/(db s0.dn u=false/\s.op u=true/\s.lt u=s0.lt u)))
 seen:∀e∈seen,dg h e.2.1≠far->dg s.C e.2.1<=dg s0.C v+e.2.2
section
variable {N:Nat} {l:List E} {h:List Int} {v:Int} {s0 s:AS} {seen:List E}
theorem MidA.le (hm:MidA N l h v s0 s seen) {u:Int} (u0:0<=u) (u1:u<N):dg s.C u<=dg s0.C u:=by
 rcases hm.each u u0 u1 with ⟨e,_⟩|⟨c,_,_,e,_⟩ <;> omega
theorem MidA.step (hm:MidA N l h v s0 s seen) (hC:s0.C.length=N) (hP:s0.P.length=N) (v0:0<=v) (v1:v<N) {e:E} (he:e∈l) (hev:e.1=v) (t0:0<=e.2.1) (t1:e.2.1<N) (hc:1<=e.2.2):MidA N l h v s0 (reach1 h e.2.1 (dg s.C v+e.2.2) v s) (seen++[e]):=by
 have hlc:s.C.length=N:=hm.lenC.trans hC;have hlp:s.P.length=N:=hm.lenP.trans hP;have hel:(v,e.2.1,e.2.2)∈l:=by rw[<-hev];exact he
 unfold reach1
 by_cases hcond:dg s.C v+e.2.2<dg s.C e.2.1/\dg h e.2.1≠far
 ·rw[if_pos hcond]
  have hvt:e.2.1≠v:=fun q=>by rw[q] at hcond;omega
  have hset:∀u:Int,0<=u->dg (s.C.set e.2.1.toNat (dg s.C v+e.2.2)) u=if u=e.2.1 then dg s.C v+e.2.2 else dg s.C u:=fun u u0=>dg_set t0 (by omega) u0
  have hsetP:∀u:Int,0<=u->dg (s.P.set e.2.1.toNat v) u=if u=e.2.1 then v else dg s.P u:=fun u u0=>dg_set t0 (by omega) u0
  refine⟨by simp[hm.lenC],by simp[hm.lenP],hm.dn,hm.sp,hm.rds,?_,fun u u0 u1=> ?_,fun x hx hh=> ?_⟩
  ·show dg (s.C.set e.2.1.toNat (dg s.C v+e.2.2)) v=_
   rw[hset v v0,if_neg (fun q=>hvt q.symm)];exact hm.own
  ·by_cases hu:u=e.2.1
   ·subst hu
    right
    refine⟨e.2.2,hel,?_,?_,?_,hcond.2,?_⟩
    ·show dg (s.C.set e.2.1.toNat (dg s.C v+e.2.2)) e.2.1=_
     rw[hset _ t0,if_pos rfl,hm.own]
    ·show dg (s.C.set e.2.1.toNat (dg s.C v+e.2.2)) e.2.1<_
     rw[hset _ t0,if_pos rfl];have:=hm.le t0 t1;omega
    ·show dg (s.P.set e.2.1.toNat v) e.2.1=v
     rw[hsetP _ t0,if_pos rfl]
    ·show (db s0.dn e.2.1=true/\(if db s.dn e.2.1=true then s.op else up s.op e.2.1 true) e.2.1=s0.op e.2.1/\(if db s.dn e.2.1=true then up s.lt e.2.1 true else s.lt) e.2.1=true)\/(db s0.dn e.2.1=false/\(if db s.dn e.2.1=true then s.op else up s.op e.2.1 true) e.2.1=true/\(if db s.dn e.2.1=true then up s.lt e.2.1 true else s.lt) e.2.1=s0.lt e.2.1)
     rw[hm.dn];cases hd:db s0.dn e.2.1 with
     |true =>
      left
      rw[if_pos rfl,if_pos rfl];refine⟨rfl,?_,by simp[up]⟩;rcases hm.each _ t0 t1 with ⟨_,_,a,_⟩|⟨_,_,_,_,_,_,⟨_,a,_⟩|⟨a,_,_⟩⟩
      ·exact a
      ·exact a
      ·rw[hd] at a;cases a
     |false =>
      right
      rw[if_neg (by decide),if_neg (by decide)];refine⟨rfl,by simp[up],?_⟩;rcases hm.each _ t0 t1 with ⟨_,_,_,a⟩|⟨_,_,_,_,_,_,⟨a,_,_⟩|⟨_,_,a⟩⟩
      ·exact a
      ·rw[hd] at a;cases a
      ·exact a
   ·have h1:dg (s.C.set e.2.1.toNat (dg s.C v+e.2.2)) u=dg s.C u:=by rw[hset u u0,if_neg hu]
    have h2:dg (s.P.set e.2.1.toNat v) u=dg s.P u:=by rw[hsetP u u0,if_neg hu]
    have h3:(if db s.dn e.2.1=true then s.op else up s.op e.2.1 true) u=s.op u:=by split <;> simp[up,hu]
    have h4:(if db s.dn e.2.1=true then up s.lt e.2.1 true else s.lt) u=s.lt u:=by split <;> simp[up,hu]
    have:=hm.each u u0 u1;simp only[h1,h2,h3,h4];exact this
  ·show dg (s.C.set e.2.1.toNat (dg s.C v+e.2.2)) x.2.1<=_
   rcases List.mem_append.1 hx with hx|hx
   ·have h1:=hm.seen x hx hh
    by_cases hx0:0<=x.2.1
    ·rw[hset _ hx0]
     split
     ·rename_i q;rw[q] at h1;omega
     ·exact h1
    ·have:dg (s.C.set e.2.1.toNat (dg s.C v+e.2.2)) x.2.1<=dg s.C x.2.1:=by
      have e0:x.2.1.toNat=0:=by omega
      unfold dg at hcond ⊢;rw[e0,List.getD_eq_getElem?_getD,List.getElem?_set];split
      ·rename_i q
       split
       ·have:e.2.1.toNat=0:=q
        rw[this] at hcond;simp only[Option.getD_some];omega
       ·rw[List.getD_eq_getElem?_getD];rw[List.getElem?_eq_none (by omega)];simp
      ·rw[List.getD_eq_getElem?_getD];omega
     omega
   ·rw[List.mem_singleton] at hx
    subst hx;rw[hset _ t0,if_pos rfl,hm.own];omega
 ·rw[if_neg hcond]
  refine⟨hm.lenC,hm.lenP,hm.dn,hm.sp,hm.rds,hm.own,hm.each,fun x hx hh=> ?_⟩;rcases List.mem_append.1 hx with hx|hx
  ·exact hm.seen x hx hh
  ·rw[List.mem_singleton] at hx
   subst hx;have:=hm.own
   by_cases h1:dg s.C v+x.2.2<dg s.C x.2.1
   ·exact absurd ⟨h1,hh⟩ hcond
   ·omega
theorem MidA.all (hends:∀e∈l,0<=e.1/\e.1<N/\0<=e.2.1/\e.2.1<N) (hcs:∀e∈l,1<=e.2.2/\e.2.2<=10000) (hC:s.C.length=N) (hP:s.P.length=N) (v0:0<=v) (v1:v<N):MidA N l h v (mark v s) (expand l h v s) (oe l v):=by
 have key:∀(es seen:List E) (s':AS),(∀e∈es,e∈l/\e.1=v)->MidA N l h v (mark v s) s' seen->MidA N l h v (mark v s) (es.foldl (fun s e=>reach1 h e.2.1 (dg s.C v+e.2.2) v s) s') (seen++es):=by
  intro es
  induction es with
  |nil=>intro seen s' _ hm;simpa using hm
  |cons e es ih =>
   intro seen s' hes hm;obtain⟨h1,h2⟩:=hes e (by simp);have hen:=hends e h1;have:=ih (seen++[e]) _ (fun x hx=>hes x (by simp[hx])) (hm.step hC hP v0 v1 h1 h2 hen.2.2.1 hen.2.2.2 (hcs e h1).1);rw[List.foldl_cons]
   simpa using this
 have:=key (oe l v) [] (mark v s) (fun e he=>by
  unfold oe at he;rw[List.mem_filter,decide_eq_true_eq] at he;exact he) ⟨rfl,rfl,rfl,rfl,rfl,rfl,fun u _ _=> .inl ⟨rfl,rfl,rfl,rfl⟩,fun e he=>(by cases he)⟩
 rw[List.nil_append] at this;exact this
end
structure AI (N fr:Nat) (l:List E) (h:List Int) (s:AS) (V:Int->Int):Prop where
 lenC:s.C.length=N
 lenP:s.P.length=N
 lenD:s.dn.length=N
 sp0:0<=s.sp
 lo:∀v:Int,0<=v->v<N->0<=dg s.C v/\dg s.C v<=far
 live:∀v:Int,0<=v->v<N->dg s.C v<far->dg h v≠far
 wk:∀v:Int,0<=v->v<N->dg s.C v<far->Wk l fr v (dg s.C v)
 root:dg h fr≠far->dg s.C fr=0
 rootP:dg s.P fr= -1
 tree:∀v:Int,0<=v->v<N->dg s.C v<far->v≠fr->(0<=dg s.P v/\dg s.P v<N)/\∃c,(dg s.P v,v,c)∈l/\dg s.C (dg s.P v)+c<=dg s.C v
 opn:∀v:Int,0<=v->v<N->s.op v=true->dg s.C v<far/\db s.dn v=false
 ltn:∀v:Int,0<=v->v<N->s.lt v=true->dg s.C v<far/\db s.dn v=true
 dnV:∀v:Int,0<=v->v<N->db s.dn v=true->dg s.C v<=V v/\V v<=10000*s.sp/\(∀e∈l,e.1=v->dg h e.2.1≠far->dg s.C e.2.1<=V v+e.2.2)/\(s.lt v=false->V v=dg s.C v)
 rest:∀v:Int,0<=v->v<N->dg s.C v<far->s.op v=false->db s.dn v=false->∀e∈l,e.1=v->dg h e.2.1≠far->dg s.C e.2.1<=dg s.C v+e.2.2
 bd:∀v:Int,0<=v->v<N->dg s.C v<far->dg s.C v<=10000*s.sp
def ClA (N fr:Nat) (l:List E) (h:List Int) (q p:Int) (s:AS) (V:Int->Int):Prop:=∀v:Int,0<=v->v<N->db s.dn v=true->∀d,Wk l fr v d->dg h v+d<far->q*V v<=p*d
section
variable {N fr tt:Nat} {l:List E} {h:List Int} {s:AS} {V:Int->Int} {q p:Int}
theorem AI.look_ (hI:AI N fr l h s V) (hends:∀e∈l,0<=e.1/\e.1<N/\0<=e.2.1/\e.2.1<N) (hcs:∀e∈l,1<=e.2.2/\e.2.2<=10000) (hfr:fr<N) {v:Int} (hv:Op N s v) (hsp:s.sp<=1000000):AI N fr l h (expand l h v s) (fun u=>if u=v then dg s.C v else V u):=by
 obtain⟨⟨v0,v1⟩,hop⟩:=hv;obtain⟨hvf,hvd⟩:=hI.opn v v0 v1 hop;have hm:=MidA.all (h:=h) hends hcs hI.lenC hI.lenP v0 v1;have hvb:=hI.bd v v0 v1 hvf;have hvl:=(hI.lo v v0 v1).1;have eC:(mark v s).C=s.C:=rfl;have eP:(mark v s).P=s.P:=rfl;have eL:(mark v s).lt=s.lt:=rfl;have eS:(mark v s).sp=s.sp+1:=rfl;have eO:∀u,(mark v s).op u=if u=v then false else s.op u:=fun u=>rfl
 have eD:∀u:Int,0<=u->db (mark v s).dn u=if u=v then true else db s.dn u:=fun u u0=>db_set v0 (by rw[hI.lenD];exact v1) u0
 have hseen:∀e∈l,e.1=v->dg h e.2.1≠far->dg (expand l h v s).C e.2.1<=dg s.C v+e.2.2:=fun e he hev hh=>by
  have:=hm.seen e (by unfold oe;rw[List.mem_filter,decide_eq_true_eq];exact⟨he,hev⟩) hh;exact this
 have hle:∀u:Int,0<=u->u<N->dg (expand l h v s).C u<=dg s.C u:=fun u u0 u1=>hm.le u0 u1;have hown:dg (expand l h v s).C v=dg s.C v:=hm.own;have hsp':(expand l h v s).sp=s.sp+1:=hm.sp;have hdn:∀u:Int,0<=u->db (expand l h v s).dn u=if u=v then true else db s.dn u:=fun u u0=>by rw[hm.dn];exact eD u u0
 have hcase:=hm.each;simp only[eC,eP,eL] at hcase;refine⟨hm.lenC.trans hI.lenC,hm.lenP.trans hI.lenP,by rw[hm.dn];simp[mark,hI.lenD],by rw[hsp'];have:=hI.sp0;omega,fun u u0 u1=> ?_,fun u u0 u1 hf=> ?_,fun u u0 u1 hf=> ?_,fun hh=> ?_,?_,fun u u0 u1 hf hne=> ?_,fun u u0 u1 ho=> ?_,fun u u0 u1 hl=> ?_,fun u u0 u1 hd=> ?_,fun u u0 u1 hf ho hd e he heu hh=> ?_,fun u u0 u1 hf=> ?_⟩
 ·have h0:=hI.lo u u0 u1
  rcases hcase u u0 u1 with ⟨a,_⟩|⟨c,hc,a,b,_⟩
  ·rw[a];exact h0
  ·have:=(hcs _ hc).1
   simp only at this;omega
 ·rcases hcase u u0 u1 with ⟨a,_⟩|⟨c,hc,a,b,_,hh,_⟩
  ·rw[a] at hf;exact hI.live u u0 u1 hf
  ·exact hh
 ·rcases hcase u u0 u1 with ⟨a,_⟩|⟨c,hc,a,b,_⟩
  ·rw[a] at hf ⊢;exact hI.wk u u0 u1 hf
  ·rw[a]
   exact Wk.step (e:=(v,u,c)) (hI.wk v v0 v1 hvf) hc rfl
 ·have h0:=hI.root hh
  have h1:=hle fr (by omega) (by omega);rcases hcase fr (by omega) (by omega) with ⟨a,_⟩|⟨c,hc,a,b,_⟩
  ·rw[a];exact h0
  ·have:=(hcs _ hc).1
   simp only at this;omega
 ·rcases hcase fr (by omega) (by omega) with ⟨_,a,_⟩|⟨c,hc,a,b,_,hh,_⟩
  ·rw[a];exact hI.rootP
  ·have h0:=hI.root hh
   have:=(hcs _ hc).1;simp only at this;omega
 ·rcases hcase u u0 u1 with ⟨a,b,_⟩|⟨c,hc,a,b,d,_⟩
  ·rw[a] at hf ⊢
   rw[b];obtain⟨⟨p0,p1⟩,c,hc,hle'⟩:=hI.tree u u0 u1 hf hne;have:=hle (dg s.P u) p0 p1;exact⟨⟨p0,p1⟩,c,hc,by omega⟩
  ·rw[d]
   exact⟨⟨v0,v1⟩,c,hc,by rw[hown];omega⟩
 ·rw[hdn u u0]
  rcases hcase u u0 u1 with ⟨a,_,b,_⟩|⟨c,hc,a,b,_,_,⟨k1,k2,k3⟩|⟨k1,k2,k3⟩⟩
  ·rw[b,eO] at ho
   split at ho
   ·cases ho
   ·rename_i hne
    rw[if_neg hne,a];exact hI.opn u u0 u1 ho
  ·rw[k2,eO] at ho
   split at ho
   ·cases ho
   ·rename_i hne
    rw[if_neg hne];have h0:=hI.opn u u0 u1 ho;exact⟨by omega,h0.2⟩
  ·rw[eD u u0] at k1
   have hlu:=(hI.lo u u0 u1).2;split at k1
   ·cases k1
   ·rename_i hne
    rw[if_neg hne];exact⟨by omega,k1⟩
 ·rw[hdn u u0]
  rcases hcase u u0 u1 with ⟨a,_,_,b⟩|⟨c,hc,a,b,_,_,⟨k1,k2,k3⟩|⟨k1,k2,k3⟩⟩
  ·rw[b] at hl
   have h0:=hI.ltn u u0 u1 hl;rw[a];exact⟨h0.1,by split;rfl;exact h0.2⟩
  ·rw[eD u u0] at k1
   have hlu:=(hI.lo u u0 u1).2;exact⟨by omega,k1⟩
  ·rw[k3] at hl
   have h0:=hI.ltn u u0 u1 hl;exact⟨by omega,by split;rfl;exact h0.2⟩
 ·rw[hdn u u0] at hd
  rw[hsp']
  by_cases huv:u=v
  ·subst huv
   rw[if_pos rfl];refine⟨by omega,by omega,hseen,fun _=>hown.symm⟩
  ·rw[if_neg huv] at hd
   rw[if_neg huv];obtain⟨k1,k2,k3,k4⟩:=hI.dnV u u0 u1 hd;have h1:=hle u u0 u1;refine⟨by omega,by omega,fun e he heu hh=> ?_,fun hlf=> ?_⟩
   ·have hen:=hends e he
    have:=hle e.2.1 hen.2.2.1 hen.2.2.2;have:=k3 e he heu hh;omega
   ·rcases hcase u u0 u1 with ⟨a,_,_,b⟩|⟨c,hc,a,b,_,_,⟨m1,m2,m3⟩|⟨m1,m2,m3⟩⟩
    ·rw[b] at hlf
     rw[a];exact k4 hlf
    ·rw[m3] at hlf;cases hlf
    ·rw[eD u u0,if_neg huv,hd] at m1;cases m1
 ·rw[hdn u u0] at hd
  have huv:u≠v:=fun q=>by rw[if_pos q] at hd;cases hd
  rw[if_neg huv] at hd;have hen:=hends e he;have hle2:=hle e.2.1 hen.2.2.1 hen.2.2.2;rcases hcase u u0 u1 with ⟨a,_,b,_⟩|⟨c,hc,a,b,_,_,⟨m1,m2,m3⟩|⟨m1,m2,m3⟩⟩
  ·rw[b,eO,if_neg huv] at ho
   rw[a] at hf ⊢;have:=hI.rest u u0 u1 hf ho hd e he heu hh;omega
  ·rw[eD u u0,if_neg huv,hd] at m1;cases m1
  ·rw[m2] at ho;cases ho
 ·rw[hsp']
  rcases hcase u u0 u1 with ⟨a,_⟩|⟨c,hc,a,b,_⟩
  ·rw[a] at hf ⊢
   have:=hI.bd u u0 u1 hf;omega
  ·have:=(hcs _ hc).2
   simp only at this;omega
theorem AI.front (hI:AI N fr l h s V) (hcl:ClA N fr l h q p s V) (hC:HeurLaw.Cons N tt l h) (hends:∀e∈l,0<=e.1/\e.1<N/\0<=e.2.1/\e.2.1<N) (hcs:∀e∈l,1<=e.2.2/\e.2.2<=10000) (hfr:fr<N) (hsp:s.sp<=1000000) (hq:1<=q) (hqp:q<=p) {v d:Int} (hw:Wk l fr v d) :
 dg h v+d<far->0<=d/\((dg s.C v<far/\s.op v=false/\q*(if db s.dn v=true then V v else dg s.C v)<=p*d)\/∃u,Op N s u/\∃du,0<=du/\q*dg s.C u<=p*du/\du+dg h u<=d+dg h v):=by
 induction hw with
 |here =>
  intro hlt;refine⟨Int.le_refl _,?_⟩;have hr:=hI.root (by omega);cases ho:s.op fr with
  |true=>exact .inr ⟨fr,⟨⟨by omega,by omega⟩,ho⟩,0,Int.le_refl _,by rw[hr];simp,by omega⟩
  |false =>
   refine .inl ⟨by rw[hr];decide,rfl,?_⟩;split
   ·rename_i hd
    exact hcl fr (by omega) (by omega) hd 0 Wk.here hlt
   ·rw[hr];simp
 | @step u d e hu he hfe ih =>
   intro hlt;subst hfe;have hed:=hC.edge e he;obtain⟨a0,a1,b0,b1⟩:=hends e he;have h1:=hcs e he;obtain⟨d0,ih⟩:=ih (by omega);refine⟨by omega,?_⟩;rcases ih with ⟨hcf,ho,hle⟩|⟨x,hx,dx,dx0,hx1,hx2⟩
   ·have hbd:=(hC.bd b0 b1).1
    have hhf:dg h e.2.1≠far:=by omega
    have hmul:q*((if db s.dn e.1=true then V e.1 else dg s.C e.1)+e.2.2)<=p*(d+e.2.2):=by
     have:q*e.2.2<=p*e.2.2:=Int.mul_le_mul_of_nonneg_right hqp (by omega);rw[Int.mul_add,Int.mul_add];omega
    have hrel:dg s.C e.2.1<=(if db s.dn e.1=true then V e.1 else dg s.C e.1)+e.2.2/\(if db s.dn e.1=true then V e.1 else dg s.C e.1)<=10000*s.sp:=by
     cases hd:db s.dn e.1 with
     |true =>
      rw[if_pos rfl];obtain⟨_,k2,k3,_⟩:=hI.dnV e.1 a0 a1 hd;exact⟨k3 e he rfl hhf,k2⟩
     |false =>
      rw[if_neg (by decide)];exact⟨hI.rest e.1 a0 a1 hcf ho hd e he rfl hhf,hI.bd e.1 a0 a1 hcf⟩
    have hfr2:dg s.C e.2.1<far:=by unfold far;omega
    have hq2:q*dg s.C e.2.1<=q*((if db s.dn e.1=true then V e.1 else dg s.C e.1)+e.2.2):=Int.mul_le_mul_of_nonneg_left hrel.1 (by omega);cases hoe:s.op e.2.1 with
    |true=>exact .inr ⟨e.2.1,⟨⟨b0,b1⟩,hoe⟩,d+e.2.2,by omega,by omega,Int.le_refl _⟩
    |false =>
     refine .inl ⟨hfr2,rfl,?_⟩;split
     ·rename_i hd
      exact hcl _ b0 b1 hd _ (Wk.step hu he rfl) hlt
     ·omega
   ·exact .inr ⟨x,hx,dx,dx0,hx1,by omega⟩
theorem AI.within (hI:AI N fr l h s V) (hcl:ClA N fr l h q p s V) (hC:HeurLaw.Cons N tt l h) (hends:∀e∈l,0<=e.1/\e.1<N/\0<=e.2.1/\e.2.1<N) (hcs:∀e∈l,1<=e.2.2/\e.2.2<=10000) (hfr:fr<N) (hsp:s.sp<=1000000) (hq:1<=q) (hqp:q<=p) {v:Int} (v0:0<=v) (v1:v<N)
 (hmin:∀u,Op N s u->(kyA (p,q) h s v).1<=(kyA (p,q) h s u).1):∀d,Wk l fr v d->dg h v+d<far->q*dg s.C v<=p*d:=fun d hw hlt=>by
 obtain⟨d0,h1⟩:=hI.front hcl hC hends hcs hfr hsp hq hqp hw hlt;rcases h1 with ⟨_,_,h1⟩|⟨u,hu,du,du0,h1,h2⟩
 ·cases hd:db s.dn v with
  |true =>
   rw[hd,if_pos rfl] at h1;have:=(hI.dnV v v0 v1 hd).1;have:=Int.mul_le_mul_of_nonneg_left this (show 0<=q by omega);omega
  |false =>
   rw[hd,if_neg (by decide)] at h1;exact h1
 ·have h3:=hmin u hu
  simp only[kyA] at h3;have h4:p*(du+dg h u)<=p*(d+dg h v):=Int.mul_le_mul_of_nonneg_left h2 (by omega);rw[Int.mul_add,Int.mul_add] at h4;omega
end
end AraLaw
end Go.Proofs.YtjebckehmmbkbaaGreat
