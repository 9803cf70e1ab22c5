/- The walk of john.All. The walks of package walk: what edge, Cost, Join and Cut answer. The walk of walk.Cost: what it answers. The walks of package heap at star.Place. -/
import Derived.Test.YtjebckehmmbkbaaGreatVJohnLift
set_option linter.unusedSimpArgs false
set_option linter.unusedVariables false
set_option maxRecDepth 100000
set_option maxHeartbeats 24000000
namespace Go.Proofs.YtjebckehmmbkbaaGreat
namespace John
open Go.RowKit NetLaw BellLaw DijkLaw FloydLaw JohnLaw JohnPlain Net Bell Dijk RowsInt Go.Proofs.YtjebckehmmbkbaaGreat.Std
def cr (n:Nat) (b:Nat) (_:Nat):Value:= .slice (some ⟨b,0,none⟩) n n
theorem own_apart {α β:Type} {w:World} {b1 b2 s1 s2:Nat} {e1 e2:TypeId} {c1:α->Nat->Value} {c2:β->Nat->Value} {v1 v2:Value} {l1:List α} {l2:List β} (h1:Own w b1 e1 s1 c1 v1 l1) (h2:Own w b2 e2 s2 c2 v2 l2) (hne:e1≠e2):v1.ownBlock=none\/v1.ownBlock≠v2.ownBlock:=by
 rcases h1.2 with ⟨rfl,_⟩|⟨g,cap,cur,rfl,_,hh,_⟩
 ·exact .inl rfl
 ·exact .inr fun e=>h2.ne_ hh (fun e=>hne e.symm) e.symm
structure Js (w:World) (base n k:Nat) (A:Option Addr) (c:Nat) (G:List Nat) (M:Nat->Nat->Int):Prop where
 own:Own w base 25 1 (cr n) (.slice A k c) G
 len:G.length=k
 row:∀i (hi:i<G.length),Own w base 3 1 ci (.slice (some ⟨G[i],0,none⟩) n n) ((List.range n).map (M i))
section
variable {w w':World} {base n k c:Nat} {A:Option Addr} {G:List Nat} {M:Nat->Nat->Int}
theorem Js.nil (w:World) (base n:Nat) (M:Nat->Nat->Int):Js w base n 0 none 0 [] M:=⟨Own.nil_,rfl,fun i hi=>absurd hi (Nat.not_lt_zero _)⟩
theorem Js.keep (h:Js w base n k A c G M) (hb:Below w.heap.size w w'):Js w' base n k A c G M:=⟨h.own.keep hb,h.len,fun i hi=>(h.row i hi).keep hb⟩
theorem Js.push (h:Js w base n k A c G M) {S c':Nat} {A':Option Addr} (hg:w.grownBy w' (Value.slice A k c).ownBlock) (ho:Own w' base 25 1 (cr n) (.slice A' (k+1) c') (G++[S])) (hr:Own w base 3 1 ci (.slice (some ⟨S,0,none⟩) n n) ((List.range n).map (M k))):Js w' base n (k+1) A' c' (G++[S]) M:=by
 refine⟨ho,by rw[List.length_append,h.len];rfl,fun i hi=> ?_⟩;rw[List.length_append,List.length_singleton] at hi;rcases Nat.lt_or_ge i G.length with hlt|hge
 ·rw[List.getElem_append_left hlt]
  exact(h.row i hlt).kept hg (own_apart (h.row i hlt) h.own (by decide))
 ·obtain rfl:i=G.length:=by omega
  rw[List.getElem_append_right zzL];simp only[Nat.sub_self,List.getElem_cons_zero];rw[h.len];exact hr.kept hg (own_apart hr h.own (by decide))
theorem Js.sr (h:Js w base n n A c G M):Sr w w.heap.size A (rows n M):=fun hl=>by
 rw[rows_len] at hl;obtain⟨S,c2,hv,_,hS,_,hc⟩:=h.own.some_ (by rw[h.len];exact hl);injection hv with hv _ _;subst hv;refine⟨S,0,rfl,hS,fun i hi=> ?_⟩;have hi':i<G.length:=by rw[rows_len] at hi;rw[h.len];exact hi
 have h1:=(hc i hi' 0 (by decide)).1;obtain⟨_,hsl⟩:=(h.row i hi').sl;have hrow:(rows n M)[i]=(List.range n).map (M i):=rows_get n M hi;refine⟨some ⟨G[i],0,none⟩,n,?_,by rw[hrow];exact hsl⟩;rw[hrow,List.length_map,List.length_range]
 simpa [cr] using h1
end
def mx (X D:List Int) (j:Nat):List Int:=X.take j++D.drop j
theorem mx_len {X D:List Int} {n j:Nat} (hX:X.length=n) (hD:D.length=n) (hj:j<=n):(mx X D j).length=n:=by simp[mx];omega
theorem mx_get {X D:List Int} {n j:Nat} (hX:X.length=n) (hD:D.length=n) (hj:j<n):(mx X D j).getD j 0=D.getD j 0:=by
 have e:j=(X.take j).length:=by rw[List.length_take];omega
 unfold mx;rw[List.getD_eq_getElem?_getD,List.getD_eq_getElem?_getD,List.getElem?_append_right (by omega), <-e,Nat.sub_self,List.getElem?_drop,Nat.add_zero]
theorem mx_set {X D:List Int} {n j:Nat} (hX:X.length=n) (hD:D.length=n) (hj:j<n) (x:Int) (hx:X.getD j 0=x):(mx X D j).set j x=mx X D (j+1):=by
 have e:(X.take j).length=j:=by rw[List.length_take];omega
 have hxj:X[j]'(by omega)=x:=by rw[<-hx,List.getD_eq_getElem?_getD,List.getElem?_eq_getElem (by omega)];rfl
 unfold mx;rw[List.set_append_right _ _ (by omega),e,Nat.sub_self,List.drop_eq_getElem_cons (show j<D.length by omega),List.set_cons_zero,List.take_succ_eq_append_getElem (show j<X.length by omega),hxj,List.append_assoc]
 rfl
theorem mx_same {X D:List Int} {n j:Nat} (hX:X.length=n) (hD:D.length=n) (hj:j<n) (hx:X.getD j 0=D.getD j 0):mx X D j=mx X D (j+1):=by
 have h:=mx_set hX hD hj _ hx;rw[<-h, <-mx_get hX hD hj];have hl:j<(mx X D j).length:=by rw[mx_len hX hD (by omega)];exact hj
 rw[List.getD_eq_getElem?_getD,List.getElem?_eq_getElem hl];simp
theorem jr_len (h:List Int) (u:Nat) (D:List Int):(jr h u D).length=D.length:=by simp[jr]
theorem jr_get (h:List Int) (u:Nat) (D:List Int) {j:Nat} (hj:j<D.length):(jr h u D).getD j 0=if D.getD j 0<far then D.getD j 0+(ht h j - ht h u) else D.getD j 0:=by
 unfold jr;rw[List.getD_eq_getElem?_getD,List.getElem?_map,List.getElem?_range hj]
 rfl
theorem infoSl:(Tryz.prog.info? 25).map (fun i=>(i.zero,i.size,i.bytes))=some (some (.slice none 0 0),1,24):=by kernel_rfl
theorem news1r {w:World} {e:TypeId} {n S g:Nat} (hg:w.heap.size=g):∀j,j<1->(w.alloc (.cells #[.slice (some ⟨S,0,none⟩) n n] e)).cell? ⟨g,j,none⟩=some (cr n S j):=by
 subst hg;intro j hj;obtain rfl:j=0:=by omega
 simp[go_sem,cr]
def AllSays (N:Int) (l:List E) (w:World) (e:Ending) (w':World):Prop :=
 (FloydAll.aerr N l≠0->e= .returned (.tuple #[.slice none 0 0,.int .i64 (FloydAll.aerr N l)])) /\
 (FloydAll.aerr N l=0->∃A c,e= .returned (.tuple #[.slice A N.toNat c,.int .i64 0])/\Sr w' w'.heap.size A (rows N.toNat (all N.toNat l)))/\Below w.heap.size w w'
theorem All_any (N:Int) (A:Option Addr) (c:Nat) (l:List E) (w:World) (hl:Sl w w.heap.size 3 ce A l) (hA:A=none->l.length=0/\c=0) (hlen:l.length<=9223372036854775807) :
 Calls Tryz.prog 8 #[.agg #[.int .i64 N,.slice A l.length c]] w fun e w'=>AllSays N l w e w':=by
 obtain⟨i0,hi,hz0,hz1,hz2⟩:=info_parts infoSl;have hw0:Below w.heap.size w (w.alloc (.cells #[.int .i64 N,.slice A l.length c] 24)):=(Below.refl _ _).alloc zzL _;have key:=lift_any N A c l _ ((hl.keep hw0 zzL).more (show w.heap.size<=(w.alloc (.cells #[.int .i64 N,.slice A l.length c] 24)).heap.size by simp)) hlen;have hja:=jerr_aerr (l:=l) N;simp only[AllSays, <-hja]
 by_cases hj:jerr N l=0
 ·have hc0:chk N l=0:=by
   unfold jerr at hj;split at hj
   ·rename_i h;exact absurd hj h
   ·rename_i h;exact Decidable.not_not.1 h
  have hgood:=chk_zero.1 hc0;have hN1:=hgood.lo;have hN2:=hgood.hi;obtain⟨n,rfl⟩:=Int.eq_ofNat_of_zero_le (show 0<=N by omega)
  have hlast:(hs n l).2.2<0:=by
   unfold jerr at hj;rw[if_neg (by simpa using hc0)] at hj;simp only[Int.toNat_natCast] at hj;split at hj
   ·cases hj
   ·omega
  have hneg:FloydAll.neg n (all n l)=false:=by
   rw[hja] at hj;unfold FloydAll.aerr at hj;rw[if_neg (by simpa using hc0)] at hj;simp only[Int.toNat_natCast] at hj;split at hj
   ·cases hj
   ·rename_i h;exact Bool.eq_false_iff.2 h
  have hht:=hs_ht hgood hlast;have hfl:=all_ok hgood (FloydAll.neg_false hneg);have k1:=key;have hfn:(flt (hs n l).1 l).length=l.length:=by simp[flt]
  have hwide:Net.Wide n (flt (hs n l).1 l):=⟨hgood.hi,by rw[hfn];have:=hgood.len;omega,fun e he=>(flt_bd hgood hht e he).1,fun e he=>(flt_bd hgood hht e he).2⟩
  have hlift:∀x∈(hs n l).1,-1000000000000<=x/\x<=1000000000000:=fun x hx=>by
   obtain⟨i,hi,rfl⟩:=List.mem_iff_getElem.1 hx;have:=hht.bd i (by omega) (by have:=hht.len;omega);rw[ht,Int.toNat_natCast,List.getD_eq_getElem?_getD,List.getElem?_eq_getElem hi] at this;simp only[Option.getD_some] at this;omega
  have kf:=fun W S h1 h2=>flat_any n A c l (some ⟨S,0,none⟩) n (hs n l).1 W h1 hA h2 hgood (by rw[hht.len]) hlift;rw[hht.len] at kf;have krun:=fun u (hu:u<n) A2 c2 W h1=>run_wide n u A2 c2 (flt (hs n l).1 l) W h1 hwide hu (flt_nn hht);rw[hfn] at krun;have hrow:=fun u (hu:u<n) D (hD:Sh n u (flt (hs n l).1 l) D)=>jr_all hgood hht hfl hu hD;have hbd:=fun v h0 h1=>hht.bd v h0 h1;obtain⟨H,hH⟩:∃H,(hs n l).1=H:=⟨_,rfl⟩;obtain⟨L2,hL2⟩:∃L2,flt (hs n l).1 l=L2:=⟨_,rfl⟩;have hHl:=hht.len;rw[hL2] at krun hrow hfn;rw[hH] at hL2;rw[hH] at kf hHl hbd hrow;rw[hL2] at kf
  have kf2:=fun W S h1 h2=>(kf W S h1 h2).mono (R':=fun e w'=>∃A2 c2,e= .returned (.agg #[.int .i64 n,.slice A2 l.length c2])/\Own w' W.heap.size 70 3 ce (.slice A2 l.length c2) L2/\Below W.heap.size W w') (fun e w' h=>by
   obtain⟨A2,c2,e1,e2,e3⟩:=h;rw[hfn] at e1 e2;exact⟨A2,c2,e1,e2,e3⟩)
  have k1':∀e w',LiftSays n l (w.alloc (.cells #[.int .i64 (n:Int),.slice A l.length c] 24)) e w'->∃S,e= .returned (.tuple #[.slice (some ⟨S,0,none⟩) n n,.int .i64 0])/\Sl w' w'.heap.size 1 ci (some ⟨S,0,none⟩) H/\Below (w.heap.size+1) (w.alloc (.cells #[.int .i64 (n:Int),.slice A l.length c] 24)) w':=fun e w' h=>by
   obtain⟨S,h1,h2⟩:=h.2.1 hj;rw[Int.toNat_natCast] at h1 h2;rw[hH] at h2;exact⟨S,h1,h2.sl.2,by simpa using h.2.2⟩
  have K0:=hid key;have K1:=hid k1';have KF:=hid kf2;have KRUN:=hid krun;have HROW:=hid hrow;have HBD:=hid hbd;have HHL:=hid hHl;have HLN:=hid hl;have HFN:=hid hfn;have HJ:=hid hj;have hlen6:=hgood.len;clear key k1 k1' kf kf2 krun hrow hbd hH hHl hL2 hfn hlift hwide hfl hht hneg hlast hgood hc0 hl hA hj hja;go_enter Tryz.func8,Tryz.ntmps8
  go_wp2_with fail
  refine K0.out.mono ?_;intro e w1 hsays;obtain⟨Sh',rfl,slh,hb1⟩:=K1.out _ _ hsays;have H1:=hw0.trans (hb1.mono (Nat.le_succ _));have z1:w.heap.size+1<=w1.heap.size:=by have:=hb1.size;simp at this;omega
  have hO:=blk_below (heap_alloc_new w (.cells #[.int .i64 n,.slice A l.length c] 24)) hb1 (Nat.lt_succ_self _);have q0:=blk_cell hO 0;have q1:=blk_cell hO 1;simp only[zzG,zzH,zzI] at q0 q1;have SLH:=hid slh;have HO:=hid hO;have HH1:=hid H1;clear hsays K0 K1 slh hO H1 hb1
  go_wp2_with fail
  refine(KF.out _ _ ((HLN.out.keep HH1.out zzL).more (by omega)) SLH.out).mono ?_;rintro e w2 ⟨A2,c2,rfl,own2,hb2⟩;have hO2:=blk_below HO.out hb2 (by omega);have q0':=blk_cell hO2 0;have q1':=blk_cell hO2 1;simp only[zzG,zzH,zzI] at q0' q1';have H2:=HH1.out.trans (hb2.mono (by omega));have z2:w.heap.size+1<=w2.heap.size:=by have:=hb2.size;omega
  have slh2:=(SLH.out.keep hb2 zzL).more hb2.size;have SLH2:=hid slh2;have OWN2:=hid own2.sl.2;have HH2:=hid H2;have z2':w.heap.size<w2.heap.size:=by omega
  clear HO HH1 SLH own2 hb2 hO2 q0 q1 slh2 H2 z1;go_wp2;obtain⟨w3,hw3⟩:∃w3:World,w3=w2.alloc (.cells #[.int .i64 n,.slice A2 l.length c2] 24):=⟨_,rfl⟩;have hb23:Below w2.heap.size w2 w3:=by rw[hw3];exact(Below.refl _ _).alloc zzL _
  have b6:w3.heap[w2.heap.size]?=some (.cells #[.int .i64 n,.slice A2 l.length c2] 24 (0,0)):=by rw[hw3];exact heap_alloc_new w2 _
  have z3:w2.heap.size<w3.heap.size:=lt_of_block b6;have net3:=(OWN2.out.keep hb23 zzL).more hb23.size;have H3:=HH2.out.trans (hb23.mono (by omega))
  have hc3:∀j,j<n->Sh'<w3.heap.size/\w3.cell? ⟨Sh',j,none⟩=some (.int .i64 (ht H j)):=fun j hj=>by
   have hjl:j<H.length:=by rw[HHL.out];exact hj
   obtain⟨b,off,he,hb,hc⟩:=((SLH2.out.keep hb23 zzL).more hb23.size).atI hjl;injection he with he;injection he with he1 he2;subst he1 he2;rw[Nat.zero_add] at hc;refine⟨by omega,?_⟩;rw[hc,ht,Int.toNat_natCast,List.getD_eq_getElem?_getD,List.getElem?_eq_getElem hjl]
   rfl
  rw[<-hw3];have B6:=hid b6;have NET3:=hid net3;have HC3:=hid hc3;have HH3:=hid H3;clear hw3 hb23 b6 net3 hc3 H3 HH2 OWN2 SLH2 q0' q1' HLN KF
  go_loopw [7,24] (fun s7 i wr=>∃(k:Nat) (Aj:Option Addr) (cj:Nat) (G:List Nat),k<=n/\i= .int .i64 k/\s7= .slice Aj k cj/\Hid (Js wr w3.heap.size n k Aj cj G (all n l))/\Below w3.heap.size w3 wr) (fun _ i _=>n - (intOf i).toNat)
  case atStart=>exact⟨0,none,0,[],Nat.zero_le _,rfl,rfl,hid (Js.nil _ _ _ _),Below.refl _ _⟩
  case round =>
   obtain⟨k,Aj,cj,G,hk,rfl,rfl,JS,hB⟩:=hrel;obtain⟨wo,rfl⟩:∃wo:World,wo=wr:=⟨_,rfl⟩;have zr:=hB.size
   by_cases hlt:k<n
   ·have b6:=blk_below B6.out hB z3
    have p0:=blk_cell b6 0;have p1:=blk_cell b6 1;simp only[zzG,zzH,zzI] at p0 p1;have kr:=KRUN.out k hlt A2 c2 wo ((NET3.out.keep hB zzL).more hB.size);have KR:=hid kr;have zz2:w2.heap.size<wo.heap.size:=by omega
    clear kr b6
    go_wp2_with fail
    refine KR.out.mono ?_;rintro e w5 ⟨S,D,rfl,ownD,hsh,hb5⟩;have hDl:D.length=n:=by have:=hsh.len;omega
    have hX:=HROW.out k hlt D hsh;have hXl:(jr H k D).length=n:=by rw[jr_len];exact hDl
    obtain⟨_,ck⟩:=HC3.out k hlt;obtain⟨hsh0,_⟩:=HC3.out k hlt;have bk:=HBD.out k (by omega) (by omega);have OWND:=hid ownD;have HSH:=hid hsh;have HX:=hid hX;have HDL:=hid hDl;have HXL:=hid hXl;have B5:=hB.trans (hb5.mono zr);have z5:=hb5.size
    have own0:Own w5 wo.heap.size 3 1 ci (.slice (some ⟨S,0,none⟩) n n) (mx (jr H k D) D 0):=by
     have:mx (jr H k D) D 0=D:=by simp[mx]
     rw[this];exact ownD
    have OWN0:=hid own0;have CK:=hid ck;clear p0 p1 KR ownD hsh hX hXl hDl own0 ck;obtain⟨bk0,bk1⟩:=bk;have hHk:∃x,ht H k=x:=⟨_,rfl⟩;go_wp2
    go_loopw [32] (fun i wy=>∃j:Nat,j<=n/\i= .int .i64 j/\Hid (Own wy wo.heap.size 3 1 ci (.slice (some ⟨S,0,none⟩) n n) (mx (jr H k D) D j))/\Below wo.heap.size wo wy) (fun i _=>n - (intOf i).toNat)
    case atStart=>exact⟨0,Nat.zero_le _,rfl,OWN0,hb5⟩
    case round =>
     obtain⟨j,hj,rfl,OW,hBy⟩:=hrel;clear OWN0 hb5
     by_cases hjn:j<n
     ·have hml:=mx_len HXL.out HDL.out hj
      obtain⟨pc,pf⟩:=own_at1 hml OW.out hjn;rw[mx_get HXL.out HDL.out hjn] at pc;have hS:=OW.out.base_ S rfl;obtain⟨hS0,hS1⟩:=hS;have ck:=(hBy.cell (p:=⟨Sh',k,none⟩) (by dsimp only;omega)).trans ((hB.cell (p:=⟨Sh',k,none⟩) (by dsimp only;omega)).trans CK.out);have cj:=(hBy.cell (p:=⟨Sh',j,none⟩) (by dsimp only;omega)).trans ((hB.cell (p:=⟨Sh',j,none⟩) (by dsimp only;omega)).trans (HC3.out j hjn).2);have hjr:=jr_get H k D (j:=j) (by rw[HDL.out];exact hjn);obtain⟨bj0,bj1⟩:=HBD.out j (by omega) (by omega);have hlo:=HSH.out.lo j (by omega) (by omega);rw[dg,Int.toNat_natCast] at hlo;obtain⟨d0,d1⟩:=hlo;have d2:D.getD j 0<=1099511627776:=d1;have hShS:¬Sh'=S:=by omega
      have hShw:Sh'<wo.heap.size:=by omega
      have hset:=fun x hx=>mx_set HXL.out HDL.out hjn x hx;have hsame:=fun hx=>mx_same HXL.out HDL.out hjn hx;have HSET:=hid hset;have HSAME:=hid hsame;have HML:=hid hml;have HJR:=hid hjr;clear hset hsame hml hjr d1;obtain⟨x,hx⟩:∃x,D.getD j 0=x:=⟨_,rfl⟩;obtain⟨y,hy⟩:∃y,ht H j=y:=⟨_,rfl⟩;obtain⟨z,hz⟩:∃z,ht H k=z:=⟨_,rfl⟩;rw[hx,hy,hz] at HJR;rw[hx] at pc d0 d2 HSAME;rw[hy] at cj bj0 bj1;rw[hz] at ck bk0 bk1;have HXYZ:=hid (And.intro hx (And.intro hy hz));clear hx hy hz
      by_cases hd:x<1099511627776
      ·have hjx:(jr H k D).getD j 0=x+(y - z):=by rw[HJR.out];exact if_pos hd
       have hown:=own_set1 HML.out OW.out j (x+(y - z));rw[HSET.out _ hjx] at hown;have HOWN:=hid hown;have hS2:=hBy.size;clear hown hjx;go_wp2
       go_region
       all_goals
        go_wp2
        go_roundw
        case' rel=>exact⟨j+1,by omega,by go_num,hid (HOWN.out.drewN 1),((hBy.setCell (by dsimp only;omega) _).drew)⟩
        case' measure=>simp[intOf];omega
      ·have hjx:(jr H k D).getD j 0=x:=by rw[HJR.out];exact if_neg hd
       have hown:=OW.out;rw[HSAME.out hjx] at hown;have HOWN:=hid hown;have hd1:decide (x<1099511627776)=false:=decide_eq_false hd;clear hown hjx;go_wp2
       go_roundw
       case rel=>exact⟨j+1,by omega,by go_num,HOWN,hBy⟩
       case measure=>simp[intOf];omega
     ·obtain rfl:n=j:=by omega
      have hmx:mx (jr H k D) D n=(List.range n).map (all n l k):=by
       rw[<-HX.out,mx,List.take_of_length_le (by rw[HXL.out];exact Nat.le_refl _),List.drop_eq_nil_of_le (by rw[HDL.out];exact Nat.le_refl _),List.append_nil]
      have hown:=OW.out;rw[hmx] at hown;have hJ:=JS.out.keep hBy;have hJal:=hJ.keep (w':=wr.alloc (.cells #[.slice (some ⟨S,0,none⟩) n n] 25)) ((Below.refl _ _).alloc zzL _);have hz7:=hBy.size;have hRow:=(hown.mono (show w3.heap.size<=wo.heap.size by omega)).alloc (.cells #[.slice (some ⟨S,0,none⟩) n n] 25);have HJ:=hid hJ;have HJA:=hid hJal;have HRW:=hid hRow;have GL:=hid hJ.len;have n1r:=news1r (w:=wr) (e:=25) (n:=n) (S:=S) rfl;have HN1:=hid n1r;clear hmx hown hJ hJal hRow OW n1r hjn
      go_wp2_with (at_builtin;refine wpList_push _ rfl (.tmp 56) (.tmp 58) _ rfl w3.heap.size 25 i0 _ 1 24 (cr n) Tryz.underlying31 hi hz0 hz1 hz2 rfl (by decide) _ G k GL.out rfl HJA.out.own wr.heap.size 1 S rfl HN1.out (fun _ _=>rfl) (by omega) (by omega) (by simp;omega) ?_;intro A8 c8 w8 hown8 hgrow8 hat8)
      have J8:=HJA.out.push hgrow8 hown8 HRW.out;have HJ8:=hid J8;have hB8:=((hB.trans (hBy.mono zr)).alloc (by omega) (.cells #[.slice (some ⟨S,0,none⟩) n n] 25)).grown hgrow8 (by simp;omega) HJA.out.own.lo;clear J8 hown8 hgrow8 hat8;go_wp2
      go_roundw
      case rel=>exact⟨k+1,A8,c8,G++[S],by omega,by go_num,rfl,HJ8,hB8⟩
      case measure=>simp[intOf];omega
   ·obtain rfl:n=k:=by omega
    have hsr:=JS.out.sr;have HSR:=hid hsr;have HF:=HH3.out.trans (hB.mono (by have:=HH3.out.size;omega));clear hsr JS;go_wp2;go_ret2;exact⟨fun h=>absurd HJ.out h,fun _=>⟨Aj,cj,rfl,HSR.out⟩,HF⟩
 ·have k0:∀W e w',LiftSays N l W e w'->e= .returned (.tuple #[.slice none 0 0,.int .i64 (jerr N l)])/\Below W.heap.size W w':=fun W e w' h=>⟨h.1 hj,h.2.2⟩
  have hne:(jerr N l != 0)=true:=by rw[bne_iff_ne];exact hj
  generalize jerr N l=x at *;have HJ:=hid hj;have KEY:=hid key;have K0:=hid k0;clear key hja hl hA k0 hj;go_enter Tryz.func8,Tryz.ntmps8
  go_wp2_with fail
  refine KEY.out.mono ?_;intro e w1 hsays;obtain⟨rfl,h3⟩:=K0.out _ _ _ hsays;have H1:=hw0.trans (h3.mono (by simp));clear hsays h3 KEY K0;go_wp2;go_ret2;exact⟨fun _=>rfl,fun h=>absurd h HJ.out,H1⟩
end John
namespace Walk
open Go.RowKit NetLaw WalkLaw
theorem edge_any (N a b:Int) (A:Option Addr) (c:Nat) (l:List E) (w:World) (hl:Sl w w.heap.size 3 ce A l) (hlen:l.length<=9223372036854775807) :
 Calls Tryz.prog 92 #[.agg #[.int .i64 N,.slice A l.length c],.int .i64 a,.int .i64 b] w fun e w'=>e= .returned (.tuple #[.int .i64 (eg l a b).1,.bool (eg l a b).2])/\Below w.heap.size w w':=by
 go_enter Tryz.func92,Tryz.ntmps92;go_wp2
 go_loopw [8,9,15] (fun x y i wr=>∃(k:Nat) (best:Int) (ok:Bool),k<=l.length/\i= .int .i64 k/\x= .int .i64 best/\y= .bool ok/\eg (l.take k) a b=(best,ok)/\Below (w.heap.size+1) (w.alloc (.cells #[.int .i64 N,.slice A l.length c] 24)) wr) (fun _ _ i _=>l.length - (intOf i).toNat)
 case atStart=>exact⟨0,0,false,Nat.zero_le _,rfl,rfl,rfl,rfl,Below.refl _ _⟩
 case round =>
  obtain⟨k,best,ok,hk,rfl,rfl,rfl,heg,hB⟩:=hrel;have HEG:=hid heg;clear heg
  by_cases hlt:k<l.length
  ·have hl2:=(hl.keep ((Below.refl _ _).alloc zzL _) zzL).keep hB (Nat.le_succ _)
   obtain⟨b',off,f,t,cc,rfl,hbB,he,hcf,hct,hcc⟩:=hl2.atE hlt;have hstep:=eg_succ l a b k hlt;rw[he,HEG.out] at hstep;have HS:=hid hstep;clear hstep he hl2 hl HEG;obtain⟨c1,f1⟩:=keepN hB;have hsz:w.heap.size<wr.heap.size:=by have:=hB.size;simp at this;omega
   have hB1:=hB.alloc (by omega) (.cells #[.int .i64 f,.int .i64 t,.int .i64 cc] 70)
   by_cases h1:f=a
   ·subst h1
    by_cases h2:t=b
    ·subst h2
     by_cases h3:ok=false\/cc<best
     ·have hfin:eg (l.take (k+1)) f t=(cc,true):=by rw[HS.out];unfold egS;rw[if_pos ⟨rfl,rfl,h3⟩]
      have HF:=hid hfin;clear hfin HS;rcases Bool.eq_false_or_eq_true ok with rfl|rfl
      ·have h4:cc<best:=by rcases h3 with h|h;cases h;exact h
       clear h3;go_wp2
       go_roundw
       case rel=>exact⟨k+1,cc,true,by omega,by go_num,rfl,rfl,HF.out,hB1⟩
       case measure=>simp[intOf];omega
      ·clear h3
       go_wp2
       go_roundw
       case rel=>exact⟨k+1,cc,true,by omega,by go_num,rfl,rfl,HF.out,hB1⟩
       case measure=>simp[intOf];omega
     ·have hfin:eg (l.take (k+1)) f t=(best,ok):=by rw[HS.out];unfold egS;rw[if_neg (fun h=>h3 h.2.2)]
      have HF:=hid hfin;have h4:ok=true:=by cases ok;exact absurd (.inl rfl) h3;rfl
      have h5:¬cc<best:=fun h=>h3 (.inr h);subst h4;clear hfin HS h3;go_wp2
      go_roundw
      case rel=>exact⟨k+1,best,true,by omega,by go_num,rfl,rfl,HF.out,hB1⟩
      case measure=>simp[intOf];omega
    ·have hfin:eg (l.take (k+1)) f b=(best,ok):=by rw[HS.out];unfold egS;rw[if_neg (fun h=>h2 h.2.1)]
     have HF:=hid hfin;have h4:(t == b)=false:=beq_eq_false_iff_ne.2 h2;clear hfin HS h2;go_wp2
     go_roundw
     case rel=>exact⟨k+1,best,ok,by omega,by go_num,rfl,rfl,HF.out,hB1⟩
     case measure=>simp[intOf];omega
   ·have hfin:eg (l.take (k+1)) a b=(best,ok):=by rw[HS.out];unfold egS;rw[if_neg (fun h=>h1 h.1)]
    have HF:=hid hfin;have h4:(f == a)=false:=beq_eq_false_iff_ne.2 h1;clear hfin HS h1;go_wp2
    go_roundw
    case rel=>exact⟨k+1,best,ok,by omega,by go_num,rfl,rfl,HF.out,hB1⟩
    case measure=>simp[intOf];omega
  ·obtain rfl:k=l.length:=by omega
   have hfin:eg l a b=(best,ok):=by have:=HEG.out;rwa [List.take_length] at this
   have HF:=hid hfin;clear hfin HEG hl;go_wp2;go_ret2;rw[HF.out];exact⟨rfl,((Below.refl _ _).alloc zzL _).trans (hB.mono (Nat.le_succ _))⟩
end Walk
namespace Walk
open Go.RowKit NetLaw WalkLaw
theorem cost_any (N:Int) (A:Option Addr) (c:Nat) (l:List E) (A':Option Addr) (c':Nat) (p:List Int) (w:World) (hl:Sl w w.heap.size 3 ce A l) (hp:Sl w w.heap.size 1 ci A' p) (hlen:l.length<=9223372036854775807) (hlen':p.length<=9223372036854775807) :
 Calls Tryz.prog 76 #[.agg #[.int .i64 N,.slice A l.length c],.slice A' p.length c'] w fun e w'=>e= .returned (.tuple #[.int .i64 (cost N l p).1,.int .i64 (cost N l p).2])/\Below w.heap.size w w':=by
 have hB0:Below w.heap.size w (w.alloc (.cells #[.int .i64 N,.slice A l.length c] 24)):=(Below.refl _ _).alloc zzL _
 by_cases hchk:chk N l=0
 ·have hg:=chk_zero.1 hchk
  have hco:cost N l p=if p.length=0 then (0,1) else if 100<p.length then (0,2) else if p.any (outB N) then (0,1) else if okP l (prs p) then (sumP l (prs p),0) else (0,5):=by rw[cost,if_neg (by simp[hchk])]
  have key:=fun W hs=>Net.check_any N A c l W hs hlen;rw[hchk] at key;have KEY:=hid key;clear key hchk
  by_cases hn:p.length=0
  ·have hp0:p=[]:=List.eq_nil_of_length_eq_zero hn
   subst hp0;have hfin:cost N l []=(0,1):=by rw[hco];rfl
   have HF:=hid hfin;clear hp hn hco hfin;go_enter Tryz.func76,Tryz.ntmps76
   go_wp2_with fail
   refine(KEY.out _ ((hl.keep hB0 zzL).more (by simp))).mono ?_;rintro e w1 ⟨rfl,hb⟩;have hB:=hB0.trans (hb.mono (by simp));go_wp2;go_ret2;rw[HF.out];exact⟨rfl,hB⟩
  ·have hn0:((p.length:Int) == 0)=false:=beq_eq_false_iff_ne.2 (by omega)
   rw[if_neg hn] at hco
   by_cases hn2:100<p.length
   ·rw[if_pos hn2] at hco
    have HF:=hid hco;clear hp hn hco;go_enter Tryz.func76,Tryz.ntmps76
    go_wp2_with fail
    refine(KEY.out _ ((hl.keep hB0 zzL).more (by simp))).mono ?_;rintro e w1 ⟨rfl,hb⟩;have hB:=hB0.trans (hb.mono (by simp));go_wp2;go_ret2;rw[HF.out];exact⟨rfl,hB⟩
   ·rw[if_neg hn2] at hco
    have HCO:=hid hco;clear hco;have hn3:p.length<=100:=by omega
    have hn4:1<=p.length:=by omega
    have HG:=hid hg;clear hn hn2 hg hlen hlen';go_enter Tryz.func76,Tryz.ntmps76
    go_wp2_with fail
    refine(KEY.out _ ((hl.keep hB0 zzL).more (by simp))).mono ?_;rintro e w1 ⟨rfl,hb⟩;have hB:=hB0.trans (hb.mono (by simp));have hb1:Below (w.heap.size+1) _ w1:=hb.mono (by simp);obtain⟨c1,f1⟩:=keepAt hb1 (Nat.lt_succ_self _);have hsz:w.heap.size<w1.heap.size:=by have:=hb.size;simp at this;omega
    have hp1:=hp.keep hB zzL;go_wp2
    go_loop [8,26] (fun _ i=>∃k:Nat,k<=p.length/\i= .int .i64 k/\(p.take k).any (outB N)=false) (fun _ i=>p.length - (intOf i).toNat)
    case atStart=>exact⟨0,Nat.zero_le _,rfl,by simp⟩
    case round =>
     obtain⟨k,hk,rfl,hin⟩:=hrel;have HIN:=hid hin;clear hin
     by_cases hlt:k<p.length
     ·obtain⟨b,off,rfl,hbB,hc1⟩:=hp1.atI hlt
      have hstep:(p.take (k+1)).any (outB N)=outB N p[k]:=by
       rw[List.take_succ_eq_append_getElem hlt,List.any_append,HIN.out];simp
      have hbad:outB N p[k]=true->p.any (outB N)=true:=fun h=>List.any_eq_true.2 ⟨p[k],List.getElem_mem hlt,h⟩;generalize p[k]=v at hc1 hstep hbad;have HS:=hid hstep;have HBAD:=hid hbad;clear hstep hbad hp hp1;rcases (show v<0\/(0<=v/\N<=v)\/(0<=v/\v<N) from by omega) with h|h|h
      ·have hfin:cost N l p=(0,1):=by rw[HCO.out,if_pos (HBAD.out (by simp[outB,h]))]
       have HF:=hid hfin;clear hfin;go_wp2;go_ret2;rw[HF.out];exact⟨rfl,hB⟩
      ·have hfin:cost N l p=(0,1):=by rw[HCO.out,if_pos (HBAD.out (by simp[outB,h]))]
       have HF:=hid hfin;clear hfin;go_wp2;go_ret2;rw[HF.out];exact⟨rfl,hB⟩
      ·have hfin:(p.take (k+1)).any (outB N)=false:=by rw[HS.out];simp[outB,h]
       have HF:=hid hfin;clear hfin;go_wp2
       go_round
       case rel=>exact⟨k+1,by omega,by go_num,HF.out⟩
       case measure=>simp[intOf];omega
     ·obtain rfl:k=p.length:=by omega
      have hall:p.any (outB N)=false:=by have:=HIN.out;rwa [List.take_length] at this
      have HALL:=hid hall;clear hall HIN;have h0:((p.length:Int)<2)\/¬((p.length:Int)<2):=by omega
      go_wp2
      go_loopw [9,10] (fun s i wr=>∃(k:Nat),k+1<=p.length/\i= .int .i64 ((k:Int)+1)/\s= .int .i64 (sumP l ((prs p).take k))/\okP l ((prs p).take k)=true/\Below (w.heap.size+1) (w.alloc (.cells #[.int .i64 N,.slice A l.length c] 24)) wr) (fun _ i _=>(p.length+1 - (intOf i)).toNat)
      case atStart=>exact⟨0,by omega,rfl,rfl,rfl,hb1⟩
      case round =>
       obtain⟨k,hk,rfl,rfl,hok,hBr⟩:=hrel;have hbd:=sumP_bd HG.out.cost ((prs p).take k);have hlk:((prs p).take k).length<=k:=List.length_take_le _ _;have hlo: -1000000<=sumP l ((prs p).take k):=by omega
       have hhi:sumP l ((prs p).take k)<=1000000:=by omega
       have HOK:=hid hok;clear hbd hlk hok
       by_cases hlt:k+1<p.length
       ·have hp2:=(hp.keep hB0 zzL).keep hBr (Nat.le_succ _)
        obtain⟨b,off,rfl,hbB,hca⟩:=hp2.atI (k:=k) (by omega);obtain⟨b2,off2,hA2,hbB2,hcb⟩:=hp2.atI hlt;injection hA2 with hA2;injection hA2 with hA2 hA3;subst hA2 hA3;have hpg:=prs_get hlt;have hl2:Sl wr wr.heap.size 3 ce A l:=((hl.keep hB0 zzL).keep hBr (Nat.le_succ _)).more (by have:=hBr.size;simp at this;omega)
        have hst1:(prs p).take (k+1)=(prs p).take k++[(p[k],p[k+1])]:=by
         rw[List.take_add_one,hpg];rfl
        obtain⟨c2,f2⟩:=keepAt hBr (Nat.lt_succ_self _);have hsz2:w.heap.size<wr.heap.size:=by have:=hBr.size;simp at this;omega
        have hbw:b<wr.heap.size:=by omega
        have hl6:=HG.out.len;have HST:=hid hst1;obtain⟨x,hx⟩:∃x,x=p[k]:=⟨_,rfl⟩;obtain⟨y,hy⟩:∃y,y=p[k+1]:=⟨_,rfl⟩;rw[<-hx] at hca;rw[<-hy] at hcb;have HX:=hid hx;have HY:=hid hy;clear hst1 hpg hx hy;have w1:IntKind.i64.wrap (k:Int)=(k:Int):=IntWalk.i64_in _ (by omega);have w2:(k:Int)<(p.length:Int):=by omega
        have w3:(k:Int)+1<(p.length:Int):=by omega
        have w4:0<=(k:Int)+1:=by omega
        have w5:((k:Int)+1).toNat=k+1:=by omega
        have key2:=edge_any N x y A c l wr.drew hl2 (by omega);obtain⟨cst,ok1,hec⟩:∃a b,eg l x y=(a,b):=⟨_,_,rfl⟩;rw[hec] at key2;have hcb1:=eg_bd HG.out.cost x y;rw[hec] at hcb1;obtain⟨hcb2,hcb3⟩:=hcb1;simp only at hcb2 hcb3;have HEC:=hid hec;have KEY2:=hid key2;clear key2 hec;go_wp2
        go_region_with (go_at_call 92;refine KEY2.out.mono ?_;rintro e w3 ⟨rfl,hb3⟩;obtain⟨c3,f3⟩:=keepN hb3)
        all_goals
         have hB3:Below (w.heap.size+1) (w.alloc (.cells #[.int .i64 N,.slice A l.length c] 24)) w3:=hBr.drew.trans (hb3.mono hsz2);have hB4:Below w.heap.size w w3:=hB0.trans (hB3.mono (Nat.le_succ _));clear hb3 c3 f3 c2 f2 hl2 hp2 hca hcb;rcases Bool.eq_false_or_eq_true ok1 with rfl|rfl
         ·go_wp2
          go_roundw
          case' rel=>exact⟨k+1,by omega,by go_num,by rw[HST.out,sumP_snoc, <-HX.out, <-HY.out,HEC.out],by rw[HST.out,okP_snoc,HOK.out, <-HX.out, <-HY.out,HEC.out,Bool.and_true],hB3⟩
          case' measure=>simp[intOf];omega
         ·have hbad:okP l (prs p)=false:=by
           have h1:okP l ((prs p).take (k+1))=false:=by rw[HST.out,okP_snoc, <-HX.out, <-HY.out,HEC.out,Bool.and_false]
           cases h2:okP l (prs p) with
           |false=>rfl
           |true =>
            have h3:okP l ((prs p).take (k+1))=true:=List.all_eq_true.2 fun q hq=>List.all_eq_true.1 h2 q (List.mem_of_mem_take hq);rw[h1] at h3;cases h3
          have hfin:cost N l p=(0,5):=by rw[HCO.out,HALL.out,hbad];rfl
          have HF:=hid hfin;clear hbad hfin;go_wp2;go_ret2;rw[HF.out];exact⟨rfl,hB4⟩
       ·have hkl:k+1=p.length:=by omega
        have hta:(prs p).take k=prs p:=List.take_of_length_le (by rw[prs_len];omega);have hok2:okP l (prs p)=true:=by have:=HOK.out;rwa [hta] at this
        have hfin:cost N l p=(sumP l ((prs p).take k),0):=by rw[HCO.out,HALL.out,hok2,hta];rfl
        have HF:=hid hfin;have hB4:Below w.heap.size w wr:=hB0.trans (hBr.mono (Nat.le_succ _));have hk2:¬((k:Int)+1<p.length):=by omega
        clear hkl hta hok2 hfin hlt;go_wp2;go_ret2;rw[HF.out];exact⟨rfl,hB4⟩
 ·have hfin:cost N l p=(0,chk N l):=by rw[cost,if_pos hchk]
  have h1:(chk N l != 0)=true:=by rw[bne_iff_ne];exact hchk
  have key:=fun W hs=>Net.check_any N A c l W hs hlen;have KEY:=hid key;have HF:=hid hfin;clear key hchk hfin;generalize chk N l=er at *;clear hp;go_enter Tryz.func76,Tryz.ntmps76
  go_wp2_with fail
  refine(KEY.out _ ((hl.keep hB0 zzL).more (by simp))).mono ?_;rintro e w1 ⟨rfl,hb⟩;have hB:=hB0.trans (hb.mono (by simp));go_wp2;go_ret2;rw[HF.out];exact⟨rfl,hB⟩
end Walk
namespace HeapP
open Go.RowKit HeapLaw Net
open Heap (Kp Kp.refl Kp.below Kp.alloc Kp.drew Kp.setCell Kp.grown Kp.to fnOf)
abbrev Pop:=Int × Int × Int
abbrev d0:Pop:=(0,0,0)
theorem infoPop:(Tryz.prog.info? 129).map (fun i=>(i.zero,i.size,i.bytes))=some (some (.agg #[.int .i64 0,.int .i64 0,.int .i64 0]),3,24):=by kernel_rfl
structure HeapAt (w:World) (base H:Nat) (fn:Value) (A:Option Addr) (n c:Nat) (L:List Pop):Prop where
 hb:base<=H
 blk:w.heap[H]?=some (.cells #[fn,.slice A n c] 159 (0,0))
 own:Own w base 129 3 ce (.slice A n c) L
 len:L.length=n
section
variable {w w':World} {base H:Nat} {fn:Value} {A:Option Addr} {n c:Nat} {L:List Pop}
theorem HeapAt.lt (h:HeapAt w base H fn A n c L):H<w.heap.size:=lt_of_block h.blk
theorem HeapAt.ne (h:HeapAt w base H fn A n c L):(Value.slice A n c).ownBlock≠some H:=h.own.ne_ h.blk (by decide)
theorem HeapAt.alloc (h:HeapAt w base H fn A n c L) (o:Obj):HeapAt (w.alloc o) base H fn A n c L:=⟨h.hb,blk_alloc h.blk o,h.own.alloc o,h.len⟩
theorem HeapAt.drewN (h:HeapAt w base H fn A n c L) (k:Nat):HeapAt (w.drewN k) base H fn A n c L:=⟨h.hb,h.blk,h.own.drewN k,h.len⟩
theorem HeapAt.keep (h:HeapAt w base H fn A n c L) (hb:Below w.heap.size w w'):HeapAt w' base H fn A n c L:=⟨h.hb,blk_below h.blk hb h.lt,h.own.keep hb,h.len⟩
theorem HeapAt.at_ (h:HeapAt w base H fn A n c L) {i:Nat} (hi:i<n):∃S a am b,A=some ⟨S,0,none⟩/\base<=S/\S<w.heap.size/\S≠H/\L.getD i d0=(a,am,b) /\
 w.cell? ⟨S,i*3,none⟩=some (.int .i64 a)/\w.cell? ⟨S,i*3+1,none⟩=some (.int .i64 am)/\w.cell? ⟨S,i*3+2,none⟩=some (.int .i64 b)/\w.frozen? ⟨S,i*3,none⟩=false/\w.frozen? ⟨S,i*3+1,none⟩=false/\w.frozen? ⟨S,i*3+2,none⟩=false:=by
 have hl:=h.len;have hne:=h.ne;have hown:=h.own;obtain⟨S,c',hv,hb,hS,_,hc⟩:=hown.some_ (by omega);injection hv with hv _ _;subst hv;have e:L.getD i d0=L[i]'(by omega):=by rw[List.getD_eq_getElem?_getD,List.getElem?_eq_getElem (by omega)];rfl
 exact⟨S,_,_,_,rfl,hb,hS,fun e=>hne (by rw[e];rfl),e,(hc i (by omega) 0 (by omega)).1,(hc i (by omega) 1 (by omega)).1,(hc i (by omega) 2 (by omega)).1,(hc i (by omega) 0 (by omega)).2,(hc i (by omega) 1 (by omega)).2,(hc i (by omega) 2 (by omega)).2⟩
end
theorem own_set3 {w:World} {base:Nat} {e:TypeId} {S c n:Nat} {l:List Pop} (hn:l.length=n) (h:Own w base e 3 ce (.slice (some ⟨S,0,none⟩) n c) l) (k:Nat) (hk:k<n) (a am b:Int) :
 Own (((w.setCell ⟨S,k*3,none⟩ (.int .i64 a)).setCell ⟨S,k*3+1,none⟩ (.int .i64 am)).setCell ⟨S,k*3+2,none⟩ (.int .i64 b)) base e 3 ce (.slice (some ⟨S,0,none⟩) n c) (l.set k (a,am,b)):=by
 have h1:=own_setj hn h k 0 (a,(l[k]'(by omega)).2) (by omega) (by decide) (fun j hj hne=>by
  match j,hj,hne with
  |0,_,hne=>exact absurd rfl hne
  |1,_,_=>rfl
  |2,_,_=>rfl)
 have h2:=own_setj (by simpa using hn) h1 k 1 (a,am,(l[k]'(by omega)).2.2) (by simpa using (show k<l.length by omega)) (by decide) (fun j hj hne=>by
  rw[List.getElem_set_self]
  match j,hj,hne with
  |0,_,_=>rfl
  |1,_,hne=>exact absurd rfl hne
  |2,_,_=>rfl)
 rw[List.set_set] at h2
 have h3:=own_setj (by simpa using hn) h2 k 2 (a,am,b) (by simpa using (show k<l.length by omega)) (by decide) (fun j hj hne=>by
  rw[List.getElem_set_self]
  match j,hj,hne with
  |0,_,_=>rfl
  |1,_,_=>rfl
  |2,_,hne=>exact absurd rfl hne)
 rw[List.set_set] at h3;exact h3
theorem HeapAt.swap {w:World} {base H:Nat} {fn:Value} {S n c:Nat} {L:List Pop} (h:HeapAt w base H fn (some ⟨S,0,none⟩) n c L) {i k:Nat} (hi:i<n) (hk:k<n) {a am b x xm y:Int} (hxi:L.getD i d0=(x,xm,y)) (hxk:L.getD k d0=(a,am,b)) (hS:S≠H) :
 HeapAt ((((((w.setCell ⟨S,i*3,none⟩ (.int .i64 a)).setCell ⟨S,i*3+1,none⟩ (.int .i64 am)).setCell ⟨S,i*3+2,none⟩ (.int .i64 b)).setCell ⟨S,k*3,none⟩ (.int .i64 x)).setCell ⟨S,k*3+1,none⟩ (.int .i64 xm)).setCell ⟨S,k*3+2,none⟩ (.int .i64 y)) base H fn (some ⟨S,0,none⟩) n c (swp d0 L i k):=by
 have hS':H≠S:=fun e=>hS e.symm;refine⟨h.hb,blk_far (blk_far (blk_far (blk_far (blk_far (blk_far h.blk hS' _) hS' _) hS' _) hS' _) hS' _) hS' _,?_,by rw[swp_len];exact h.len⟩;have h1:=own_set3 h.len h.own i hi a am b;have h2:=own_set3 (by simpa using h.len) h1 k hk x xm y;unfold swp;rw[hxi,hxk];exact h2
def LessOk (k:FuncId) (lt:Pop->Pop->Bool):Prop:=∀(W:World) (a am b x xm y:Int),Calls Tryz.prog k #[.agg #[.int .i64 a,.int .i64 am,.int .i64 b],.agg #[.int .i64 x,.int .i64 xm,.int .i64 y]] W fun e w'=>e= .returned (.bool (lt (a,am,b) (x,xm,y)))/\Below W.heap.size W w'
theorem push_any (lt:Pop->Pop->Bool) (o:Ord lt) (hless:LessOk 67 lt) (base H:Nat) (A:Option Addr) (n c:Nat) (L:List Pop) (x xm y:Int) (w:World) (h:HeapAt w base H (fnOf 67) A n c L) (hp:Hp d0 lt L) (hn:(n+1)*24<=140737488355328) (hb:base<=w.heap.size) :
 Calls Tryz.prog 90 #[.pointer (some ⟨H,0,none⟩),.agg #[.int .i64 x,.int .i64 xm,.int .i64 y]] w fun e w'=>(∃v,e= .returned v)/\∃A' c' L',HeapAt w' base H (fnOf 67) A' (n+1) c' L'/\L'.Perm ((x,xm,y)::L)/\Hp d0 lt L'/\Kp w w' H (Value.slice A n c).ownBlock/\∀S,(Value.slice A' (n+1) c').ownBlock=some S->(Value.slice A n c).ownBlock=some S\/w.heap.size<=S:=by
 obtain⟨i0,hi,hz0,hz1,hz2⟩:=info_parts infoPop;have hc0:=blk_cell h.blk 0;have hc1:=blk_cell h.blk 1;have hlt:=h.lt;have hne:=h.ne;simp only[zzG,zzH,zzI] at hc0 hc1;unfold fnOf at hc0;have hb0:=blk_alloc (blk_alloc h.blk (.cells #[.int .i64 x,.int .i64 xm,.int .i64 y] 129)) (.cells #[.int .i64 x,.int .i64 xm,.int .i64 y] 129);go_enter Tryz.func90,Tryz.ntmps90;go_upto_region 1 with fail
 go_cut [13] from 6 to 15 (fun s13 wx=>∃A3 c3,HeapAt wx base H (fnOf 67) A3 (n+1) c3 (L++[(x,xm,y)])/\Kp w wx H (Value.slice A n c).ownBlock/\∀S,(Value.slice A3 (n+1) c3).ownBlock=some S->(Value.slice A n c).ownBlock=some S\/w.heap.size<=S)
 case first =>
  go_region_law (refine step_push _ rfl (.tmp 10) (.tmp 12) _ rfl base 129 i0 _ 3 24 ce Tryz.underlying157 hi hz0 hz1 hz2 rfl (by decide) _ L n h.len rfl ((h.own.alloc _).alloc _) (w.heap.size+1) 1 (x,xm,y) rfl (news3' (by simp)) (fun _ _=>one_ce _ _) (by omega) (by omega) (by simp;omega) ?_;intro A3 c3 w4 hown3 hgrow3 hat3;have hH4:w4.heap[H]?=some (.cells #[fnOf 67,.slice A n c] 159 (0,0)):=(hgrow3.block H (by simp;omega) (fun e=>hne e.symm)).trans hb0;have c41:w4.cell? ⟨H,1,none⟩=some (.slice A n c):=blk_cell hH4 1;have f41:w4.frozen? ⟨H,1,none⟩=false:=blk_free hH4 1)
  all_goals
   have hB4:Kp w w4 H (Value.slice A n c).ownBlock:=by first|exact(((Kp.refl _ _ _).alloc _).alloc _).drew.grown hgrow3|exact(((Kp.refl _ _ _).alloc _).alloc _).grown hgrow3
   have hat4:∀S,(Value.slice A3 (n+1) c3).ownBlock=some S->(Value.slice A n c).ownBlock=some S\/w.heap.size<=S:=fun S hS=>by
    rcases hat3 with h1|h1
    ·exact .inl (h1.symm.trans hS)
    ·rw[h1] at hS
     injection hS with hS;simp at hS;exact .inr (by omega)
   go_wp2_with fail
   go_meet
   exact⟨A3,c3,⟨h.hb,blk_set hH4 1 _,hown3.setCell (hown3.ne_ hH4 (by decide)) _,by simp[h.len]⟩,hB4.setCell (.inl rfl) _,hat4⟩
 case rest =>
  obtain⟨A3,c3,h3,hB3,hat4⟩:=hcut;have HAT:=hid hat4;clear hat4;have e0:=blk_cell h3.blk 1;simp only[zzG,zzH,zzI] at e0;have hup:=Hp.snoc hp (x,xm,y);rw[h.len] at hup;have HUP:=hid hup;have H3:=hid h3;have HO:=hid o;have HL:=hid hless;clear h hp hup h3 hc0 hc1 hne hb0 o hless;have hn1:(n:Int)+1 - 1=n:=by omega
  go_wp2
  go_loopw [4] (fun s4 wr=>∃(i:Nat) (L':List Pop),i<n+1/\s4= .int .i64 i/\HeapAt wr base H (fnOf 67) A3 (n+1) c3 L'/\L'.Perm ((x,xm,y)::L)/\Up d0 lt L' i/\Kp w wr H (Value.slice A n c).ownBlock) (fun s4 _=>(intOf s4).toNat)
  case atStart=>exact⟨n,L++[(x,xm,y)],by omega,rfl,H3.out,List.perm_append_comm,HUP.out,hB3⟩
  case round =>
   obtain⟨i,L',hi1,rfl,hh,hpm,hu,hB⟩:=hrel;have HPM:=hid hpm;have HU:=hid hu;have c0:=blk_cell hh.blk 0;have c1:=blk_cell hh.blk 1;simp only[zzG,zzH,zzI] at c0 c1;unfold fnOf at c0;clear hpm hu e0 H3 HUP
   by_cases hi0:0<i
   ·obtain⟨j,rfl⟩:∃j,i=j+1:=⟨i - 1,by omega⟩
    have hq:(j:Int).tdiv 2=((j / 2:Nat):Int):=by rw[Int.ofNat_tdiv];rfl
    have hj2:j / 2<j+1:=by omega
    obtain⟨S,a,am,b,rfl,hS0,hS1,hSH,hgi,ci0,ci1,ci2,fi0,fi1,fi2⟩:=hh.at_ hi1;obtain⟨S',a',am',b',hSe,_,_,_,hgk,ck0,ck1,ck2,fk0,fk1,fk2⟩:=hh.at_ (show j / 2<n+1 by omega);injection hSe with hSe;injection hSe with hSe _ _;subst hSe;have hj0:(0:Int)<=((j / 2:Nat):Int):=by omega
    generalize hk2:j / 2=m at *;have HK2:=hid hk2;have HGI:=hid hgi;have HGK:=hid hgk;have HH:=hid hh;have hl:=fun W=>HL.out W a am b a' am' b';have hHs:=hh.lt;have b1:(j:Int)+1<(n:Int)+1:=by omega
    have b2:(0:Int)<=(j:Int)+1:=by omega
    have b3:(m:Int)<(n:Int)+1:=by omega
    have b4:(j:Int)<n:=by omega
    have b5:j<n:=by omega
    have b6:m<n+1:=by omega
    have b7:(m:Int)<=n:=by omega
    have b8:¬((m:Int)<0):=by omega
    have b9:¬((j:Int)+1<0):=by omega
    clear hk2 hgi hgk;cases hlt2:lt (a,am,b) (a',am',b') with
    |false =>
     simp only[hlt2] at hl;have KL:=hid hl;have HLT:=hid hlt2;clear hl hlt2;go_wp2
     go_region_held3 (fun w'=>w'.cell? ⟨H,0,none⟩=some (.func (.func 67) #[] #[])/\w'.cell? ⟨H,1,none⟩=some (.slice (some ⟨S,0,none⟩) (n+1) c3)/\w'.cell? ⟨S,(j+1)*3,none⟩=some (.int .i64 a)/\w'.cell? ⟨S,(j+1)*3+1,none⟩=some (.int .i64 am)/\w'.cell? ⟨S,(j+1)*3+2,none⟩=some (.int .i64 b)/\w'.cell? ⟨S,m*3,none⟩=some (.int .i64 a')/\w'.cell? ⟨S,m*3+1,none⟩=some (.int .i64 am')/\w'.cell? ⟨S,m*3+2,none⟩=some (.int .i64 b'))
      (first
        |go_keep
        |(go_split_ands
          refine⟨?_,?_,?_,?_,?_,?_,?_,?_⟩
          ·(rw[cH];assumption)
          ·(rw[cH];assumption)
          ·(rw[cS];assumption)
          ·(rw[cS];assumption)
          ·(rw[cS];assumption)
          ·(rw[cS];assumption)
          ·(rw[cS];assumption)
          ·(rw[cS];assumption)))
      (first
        |(go_at_call 67;refine(KL.out _).mono ?_;rintro e w5 ⟨rfl,hb5⟩;have cH:=(keepAt hb5 (b:=H) hHs).1;have cS:=(keepAt hb5 (b:=S) hS1).1))
     all_goals
      clear cH cS;have hb6:Below wr.heap.size wr w5:=by first|exact hb5|exact(Below.refl _ _).drew.trans hb5
      have hfin:=HU.out.done (fun _=>by
       have e1:par (j+1)=m:=by have:=HK2.out;unfold par;omega
       rw[e1,HGI.out,HGK.out];exact HLT.out)
      have hh5:=HH.out.keep hb6;have hB5:=hB.below hb6;clear hb5 hb6;go_wp2;refine bodyPost_end (v:= .tuple #[]) (by simp[results,Tryz.results90,go_sem]) rfl ?_;exact⟨⟨_,rfl⟩,_,c3,L',hh5,HPM.out,hfin,hB5,HAT.out⟩
    |true =>
     simp only[hlt2] at hl;have KL:=hid hl;have HLT:=hid hlt2;clear hl hlt2;go_wp2
     go_region_held3 (fun w'=>w'.cell? ⟨H,0,none⟩=some (.func (.func 67) #[] #[])/\w'.cell? ⟨H,1,none⟩=some (.slice (some ⟨S,0,none⟩) (n+1) c3)/\w'.cell? ⟨S,(j+1)*3,none⟩=some (.int .i64 a)/\w'.cell? ⟨S,(j+1)*3+1,none⟩=some (.int .i64 am)/\w'.cell? ⟨S,(j+1)*3+2,none⟩=some (.int .i64 b)/\w'.cell? ⟨S,m*3,none⟩=some (.int .i64 a')/\w'.cell? ⟨S,m*3+1,none⟩=some (.int .i64 am')/\w'.cell? ⟨S,m*3+2,none⟩=some (.int .i64 b'))
      (first
        |go_keep
        |(go_split_ands
          refine⟨?_,?_,?_,?_,?_,?_,?_,?_⟩
          ·(rw[cH];assumption)
          ·(rw[cH];assumption)
          ·(rw[cS];assumption)
          ·(rw[cS];assumption)
          ·(rw[cS];assumption)
          ·(rw[cS];assumption)
          ·(rw[cS];assumption)
          ·(rw[cS];assumption)))
      (first
        |(go_at_call 67;refine(KL.out _).mono ?_;rintro e w5 ⟨rfl,hb5⟩;have cH:=(keepAt hb5 (b:=H) hHs).1;have cS:=(keepAt hb5 (b:=S) hS1).1))
     all_goals
      clear cH cS;have hb6:Below wr.heap.size wr w5:=by first|exact hb5|exact(Below.refl _ _).drew.trans hb5
      have hh5:=HH.out.keep hb6;have hB5:=hB.below hb6;obtain⟨cH,fH⟩:=keepAt hb6 (b:=H) hHs;obtain⟨cS,fS⟩:=keepAt hb6 (b:=S) hS1;have u0:=(cH 1).trans c1;have u1:=(cS _).trans ci0;have u2:=(cS _).trans ci1;have u3:=(cS _).trans ck0;have u4:=(cS _).trans ck1;have v1:=(cS _).trans ci2;have v2:=(cS _).trans ck2;have v3:=(fS _).trans fi2;have v4:=(fS _).trans fk2;have u5:=(fS _).trans fi0;have u6':=(fS _).trans fi1;have u7':=(fS _).trans fk0;have u8':=(fS _).trans fk1;have HH5:=hid hh5;have hm2:¬(j+1)*3=m*3:=by omega
      have hm3:¬(j+1)*3=m*3+1:=by omega
      have hm4:¬(j+1)*3=m*3+2:=by omega
      have hm5:¬(j+1)*3+1=m*3:=by omega
      have hm6:¬(j+1)*3+1=m*3+1:=by omega
      have hm7:¬(j+1)*3+1=m*3+2:=by omega
      have hm8:¬(j+1)*3+2=m*3:=by omega
      have hm9:¬(j+1)*3+2=m*3+1:=by omega
      have hm10:¬(j+1)*3+2=m*3+2:=by omega
      clear hb5 hb6 cH fH cS fS c0 c1 ci0 ci1 ci2 ck0 ck1 ck2 fi0 fi1 fi2 fk0 fk1 fk2 hh5 hh;go_wp2
      go_region
      all_goals
       go_wp2
       go_roundw
       case' rel =>
        have e1:par (j+1)=m:=by have:=HK2.out;unfold par;omega
        have hln:L'.length=n+1:=HH5.out.len;have hSr:=HAT.out S rfl;have hst:=HU.out.step HO.out (Nat.succ_pos j) (by omega) (by rw[e1,HGI.out,HGK.out];exact HLT.out);rw[e1] at hst;exact⟨m,swp d0 L' (j+1) m,by omega,rfl,(HH5.out.swap hi1 b6 HGI.out HGK.out hSH).drewN 1,(swp_perm (by omega) (by omega) (by omega)).trans HPM.out,hst,((((((hB5.setCell (.inr hSr) _).setCell (.inr hSr) _).setCell (.inr hSr) _).setCell (.inr hSr) _).setCell (.inr hSr) _).setCell (.inr hSr) _).drew⟩
       case' measure=>simp[intOf];omega
   ·obtain rfl:i=0:=by omega
    have hfin:=HU.out.done (fun h=>absurd h (Nat.lt_irrefl 0));have HH:=hid hh;have HFIN:=hid hfin;clear hh hfin;go_wp2;refine bodyPost_end (v:= .tuple #[]) (by simp[results,Tryz.results90,go_sem]) rfl ?_;exact⟨⟨_,rfl⟩,A3,c3,L',HH.out,HPM.out,HFIN.out,hB,HAT.out⟩
theorem new_any (k:FuncId) (w:World):Calls Tryz.prog 66 #[fnOf k] w fun e w'=>∃H,e= .returned (.pointer (some ⟨H,0,none⟩))/\HeapAt w' w.heap.size H (fnOf k) none 0 0 []/\Below w.heap.size w w':=by
 unfold fnOf;go_enter Tryz.func66,Tryz.ntmps66;go_wp2;refine bodyPost_ret (v:= .pointer (some ⟨w.heap.size,0,none⟩)) (by simp[results,Tryz.results66,go_sem]) rfl ?_;exact⟨w.heap.size,rfl,⟨Nat.le_refl _,heap_alloc_new _ _,Own.nil_,rfl⟩,(Below.refl _ _).alloc zzL _⟩
theorem len_any {base H:Nat} {fn:Value} {A:Option Addr} {n c:Nat} {L:List Pop} (w:World) (h:HeapAt w base H fn A n c L):Calls Tryz.prog 69 #[.pointer (some ⟨H,0,none⟩)] w fun e w'=>e= .returned (.int .i64 n)/\w'=w:=by
 have c1:=blk_cell h.blk 1;simp only[zzG,zzH,zzI] at c1;clear h;go_enter Tryz.func69,Tryz.ntmps69;go_wp2;exact bodyPost_ret (v:= .int .i64 n) (by simp[results,Tryz.results69,go_sem]) rfl ⟨rfl,rfl⟩
def ltP (a b:Pop):Bool:=decide (a.1<b.1\/a.1=b.1/\(a.2.1<b.2.1\/a.2.1=b.2.1/\a.2.2<b.2.2))
theorem ltP_ord:HeapLaw.Ord ltP:=⟨fun {a b} h=>by simp only[ltP,decide_eq_true_eq,decide_eq_false_iff_not] at h ⊢;omega,fun {a b c} h1 h2=>by simp only[ltP,decide_eq_false_iff_not] at h1 h2 ⊢;omega⟩
theorem less_any:LessOk 67 ltP:=by
 intro W a am b x xm y;have hB:Below W.heap.size W ((W.alloc (.cells #[.int .i64 a,.int .i64 am,.int .i64 b] 129)).alloc (.cells #[.int .i64 x,.int .i64 xm,.int .i64 y] 129)):=((Below.refl _ _).alloc zzL _).alloc (by simp) _
 by_cases h1:a=x
 ·subst h1
  by_cases h2:am<xm
  ·have hf:ltP (a,am,b) (a,xm,y)=true:=by simp only[ltP,decide_eq_true_eq];exact .inr ⟨trivial,.inl h2⟩
   rw[hf];go_enter Tryz.func67,Tryz.ntmps67;go_wp2;go_ret;exact⟨by first|trivial|rfl,hB⟩
  ·have hd:decide (am<xm)=false:=by simp;omega
   by_cases h3:am=xm
   ·subst h3
    have hf:ltP (a,am,b) (a,am,y)=decide (b<y):=by simp[ltP]
    rw[hf];clear h2;go_enter Tryz.func67,Tryz.ntmps67;go_wp2;go_ret;exact⟨by first|trivial|simp,hB⟩
   ·have hd2:(am == xm)=false:=by rw[beq_eq_false_iff_ne];exact h3
    have hf:ltP (a,am,b) (a,xm,y)=false:=by simp only[ltP,decide_eq_false_iff_not];omega
    rw[hf];clear h2 h3;go_enter Tryz.func67,Tryz.ntmps67;go_wp2;go_ret;exact⟨by first|trivial|rfl,hB⟩
 ·have hd:(a != x)=true:=by rw[bne_iff_ne];exact h1
  have hf:ltP (a,am,b) (x,xm,y)=decide (a<x):=by
   rw[Bool.eq_iff_iff];simp only[ltP,decide_eq_true_eq];omega
  rw[hf];clear h1;go_enter Tryz.func67,Tryz.ntmps67;go_wp2;go_ret;exact⟨by first|trivial|simp,hB⟩
end HeapP
end Go.Proofs.YtjebckehmmbkbaaGreat
