/- The walk of (*ara.Search).again. The walk of star.Walked. The walk of (*ara.Search).best. -/
import Derived.BigFrame
import Derived.Test.YtjebckehmmbkbaaGreatVAraAll
set_option linter.unusedSimpArgs false
set_option linter.unusedVariables false
set_option maxRecDepth 100000
set_option maxHeartbeats 24000000
namespace Go.Proofs.YtjebckehmmbkbaaGreat
namespace Ara
open Go.RowKit NetLaw BellLaw StarLaw AraLaw Net Go.Proofs.YtjebckehmmbkbaaGreat.Std Flow
open HeapP (HeapAt d0 ltP ltP_ord)
structure G1 (F:Fix) (s:AS) (L:List HeapP.Pop) (B:List Bool):Prop where
 len:B.length=F.n
 sub:∀v:Int,0<=v->v<F.n->db B v=true->s.op v=true
 cov:∀v,AraLaw.Op F.n s v->db B v=true\/∃x∈L,x.2.2=v
 ids:∀x∈L,(0<=x.2.2/\x.2.2<F.n)/\(db s.dn x.2.2=false->s.op x.2.2=true)
 od:∀v,AraLaw.Op F.n s v->db s.dn v=false
section
variable {F:Fix} {Y:Var} {s:AS} {L L':List HeapP.Pop} {B:List Bool} {u:Int × Int} {K:Nat}
theorem db_setN {l:List Bool} {k:Nat} {x:Bool} (hk:k<l.length) {v:Int} (v0:0<=v):db (l.set k x) v=if v=(k:Int) then x else db l v:=by
 obtain⟨j,rfl⟩:=Int.eq_ofNat_of_zero_le v0;unfold db;rw[Int.toNat_natCast,List.getD_eq_getElem?_getD,List.getD_eq_getElem?_getD,List.getElem?_set]
 by_cases e:k=j
 ·subst e
  simp[hk]
 ·have:¬((j:Int)=(k:Int)):=by omega
  rw[if_neg e,if_neg this]
theorem G1.start (h:HR F Y s u K):G1 F s Y.L (List.replicate F.n false) :=
 ⟨by simp,fun v v0 v1 hb=>(by rw[db_rep] at hb;cases hb),fun v hv=> .inr ⟨_,h.mem v hv,rfl⟩,fun x hx=>⟨(h.ids x hx).1,(h.ids x hx).2.2⟩,h.od⟩
theorem G1.skip (h:G1 F s L B) {x:HeapP.Pop} (hp:(x::L').Perm L) (hd:db s.dn x.2.2=true):G1 F s L' B:=by
 refine⟨h.len,h.sub,fun v hv=> ?_,fun y hy=>h.ids y (hp.mem_iff.1 (List.mem_cons_of_mem _ hy)),h.od⟩;rcases h.cov v hv with h1|⟨y,hy,rfl⟩
 ·exact .inl h1
 ·rcases List.mem_cons.1 (hp.mem_iff.2 hy) with rfl|hy
  ·have:=h.od _ hv
   rw[hd] at this;cases this
  ·exact .inr ⟨y,hy,rfl⟩
theorem G1.mark (h:G1 F s L B) {x:HeapP.Pop} (hp:(x::L').Perm L) (hd:db s.dn x.2.2=false) {k:Nat} (hk:x.2.2=(k:Int)):G1 F s L' (B.set k true):=by
 obtain⟨⟨x0,x1⟩,x2⟩:=h.ids x (hp.mem_iff.1 (by simp));have hkl:k<B.length:=by rw[h.len];omega
 refine⟨by rw[List.length_set];exact h.len,fun v v0 v1 hb=> ?_,fun v hv=> ?_,fun y hy=>h.ids y (hp.mem_iff.1 (List.mem_cons_of_mem _ hy)),h.od⟩
 ·rw[db_setN hkl v0] at hb
  by_cases e:v=(k:Int)
  ·rw[e, <-hk];exact x2 hd
  ·rw[if_neg e] at hb;exact h.sub v v0 v1 hb
 ·rw[db_setN hkl hv.1.1]
  by_cases e:v=(k:Int)
  ·rw[if_pos e];exact .inl rfl
  ·rw[if_neg e]
   rcases h.cov v hv with h1|⟨y,hy,rfl⟩
   ·exact .inl h1
   ·rcases List.mem_cons.1 (hp.mem_iff.2 hy) with rfl|hy
    ·exact absurd hk e
    ·exact .inr ⟨y,hy,rfl⟩
structure G2 (F:Fix) (s:AS) (LT:List Int) (B:List Bool) (j:Nat):Prop where
 len:B.length=F.n
 iff:∀v:Int,0<=v->v<F.n->(db B v=true ↔ s.op v=true\/v∈LT.take j)
theorem G2.start (h:G1 F s [] B) {LT:List Int}:G2 F s LT B 0 :=
 ⟨h.len,fun v v0 v1=>by
   rw[List.take_zero];refine⟨fun hb=> .inl (h.sub v v0 v1 hb),fun ho=> ?_⟩;rcases ho with ho|ho
   ·rcases h.cov v ⟨⟨v0,v1⟩,ho⟩ with h1|⟨y,hy,_⟩
    ·exact h1
    ·cases hy
   ·cases ho⟩
theorem G2.next {LT:List Int} {j:Nat} (h:G2 F s LT B j) (hj:j<LT.length) {k:Nat} (hk:LT[j]=(k:Int)) (hkn:k<F.n):G2 F s LT (B.set k true) (j+1):=by
 have hkl:k<B.length:=by rw[h.len];exact hkn
 refine⟨by rw[List.length_set];exact h.len,fun v v0 v1=> ?_⟩;rw[db_setN hkl v0,List.take_succ_eq_append_getElem hj,List.mem_append,List.mem_singleton,hk]
 by_cases e:v=(k:Int)
 ·rw[if_pos e];simp[e]
 ·rw[if_neg e,h.iff v v0 v1];simp[e]
def s3 (s:AS) (B:List Bool) (j:Nat):AS:={ s with dn:=List.replicate s.dn.length false,lt:=fun _=>false,op:=fun v=>decide (v<(j:Int)) && db B v }
theorem hr_zero (hl:Y.L.length=Y.m) (hm:Y.m=0) (hk:Y.kl=0) (hLT:Y.LT=[]):HR F Y (s3 s B 0) u 0:=by
 have hno:∀v,¬AraLaw.Op F.n (s3 s B 0) v:=fun v hv=>by
  have h1:(decide (v<((0:Nat):Int)) && db B v)=true:=hv.2;rw[Bool.and_eq_true,decide_eq_true_eq] at h1;have:=hv.1.1;omega
 have hL:Y.L=[]:=List.eq_nil_of_length_eq_zero (by omega);exact⟨fun v hv=>absurd hv (hno v),fun x hx=>(by rw[hL] at hx;cases hx),fun v hv=>absurd hv (hno v),fun v _ _=>(by rw[hLT];exact⟨fun h=>(nomatch h),fun h=>(nomatch h)⟩),fun v hv=>(by rw[hLT] at hv;cases hv),by omega,by omega⟩
theorem op_s3 {j:Nat} {v:Int}:(s3 s B (j+1)).op v=if v=(j:Int) then db B j else (s3 s B j).op v:=by
 show (decide (v<((j+1:Nat):Int)) && db B v)=_
 by_cases e:v=(j:Int)
 ·subst e
  rw[if_pos rfl];have:decide ((j:Int)<((j+1:Nat):Int))=true:=decide_eq_true (by omega);rw[this,Bool.true_and]
 ·rw[if_neg e]
  show _=(decide (v<((j:Nat):Int)) && db B v)
  have:decide (v<((j+1:Nat):Int))=decide (v<(j:Int)):=by rw[decide_eq_decide];omega
  rw[this]
theorem hr_skip {j:Nat} (h:HR F Y (s3 s B j) u K) (hb:db B j=false):HR F Y (s3 s B (j+1)) u (K+1):=by
 refine HR.more (K:=K) (HR.congr (s:=s3 s B j) h rfl rfl (fun v _ _=> ?_) (fun _ _ _=>rfl)) (Nat.le_succ _);rw[op_s3];split
 ·rename_i e
  show _=(decide (v<((j:Nat):Int)) && db B v)
  rw[hb,e,hb,Bool.and_false]
 ·rfl
theorem set_same {l:List Int} {v:Nat} (hv:v<l.length):l.set v (dg l v)=l:=by
 unfold dg;rw[Int.toNat_natCast,List.getD_eq_getElem?_getD,List.getElem?_eq_getElem hv];exact List.set_getElem_self hv
theorem hr_put {j:Nat} (h:HR F Y (s3 s B j) u K) (hb:db B j=true) (hl:s.C.length=F.n) (hj:j<F.n) {A:Option Addr} {c':Nat} (hp:L'.Perm ((u.2*dg s.C j+u.1*dg F.h j,dg F.h j,(j:Int))::Y.L)):HR F (Y.heap' A (Y.m+1) c' L') (s3 s B (j+1)) u (K+1):=by
 have h1:=h.put (P:=s.P) (A:=A) (c':=c') hl hj (c:=dg s.C j) (db_rep _ _) hp;refine h1.congr ?_ rfl (fun v _ _=> ?_) (fun _ _ _=>rfl)
 ·show s.C=s.C.set j (dg s.C j)
  rw[set_same (by rw[hl];exact hj)]
 ·rw[op_s3]
  show _=up (s3 s B j).op (j:Int) true v
  by_cases e:v=(j:Int)
  ·rw[if_pos e,e,up_eq];exact hb
  ·rw[if_neg e,up_ne e]
theorem hr_end {LT:List Int} (h:HR F Y (s3 s B F.n) u K) (hg:G2 F s LT B LT.length) (hlt:∀v:Int,0<=v->v<F.n->(s.lt v=true ↔ v∈LT)):HR F Y (AraLaw.again s) u K:=by
 refine h.congr rfl rfl (fun v v0 v1=> ?_) (fun _ _ _=>rfl)
 show (s.op v || s.lt v)=(decide (v<(F.n:Int)) && db B v)
 have h1:=hg.iff v v0 v1;rw[List.take_length, <-hlt v v0 v1] at h1;have:decide (v<(F.n:Int))=true:=decide_eq_true v1;rw[this,Bool.true_and];cases hb:db B v with
 |true=>rw[hb] at h1;have:=h1.1 rfl;rcases this with h2|h2 <;> rw[h2] <;> simp
 |false =>
  rw[hb] at h1;cases ho:s.op v with
  |true=>exact absurd (h1.2 (.inl ho)) (by decide)
  |false =>
   cases hl:s.lt v with
   |true=>exact absurd (h1.2 (.inr hl)) (by decide)
   |false=>rfl
end
theorem zero_bool (w:World):(zeroValue 4).run Tryz.prog w= .ok (.bool false) w:=by kernel_rfl
section
variable {b:Nat} {w w' w0:World} {P:Nat} {F:Fix} {Y Y':Var} {s:AS} {K:Nat}
theorem AM.clr (m:Nat):∀(o:Nat) (w:World) (s:AS),AM b w P F Y s->o+m=F.n->AM b (w.setCells F.SD o (List.replicate m (.bool false))) P F Y { s with dn:=s.dn.take o++List.replicate m false }:=by
 induction m with
 |zero =>
  intro o w s h ho;refine h.congr rfl rfl ?_ rfl rfl
  show s.dn.take o++[]=s.dn
  rw[List.append_nil,List.take_of_length_le (by rw[h.lenD];omega)]
 |succ m ih =>
  intro o w s h ho;rw[List.replicate_succ];have h1:=ih (o+1) _ _ (h.setD (k:=o) (by omega) false) (by omega);refine h1.congr rfl rfl ?_ rfl rfl
  show s.dn.take o++List.replicate (m+1) false=(s.dn.set o false).take (o+1)++List.replicate m false
  have hol:o<s.dn.length:=by rw[h.lenD];omega
  have hol2:o<(s.dn.set o false).length:=by rw[List.length_set];exact hol
  rw[List.take_succ_eq_append_getElem hol2,List.getElem_set_self,List.take_set_of_le zzL,List.append_assoc,List.replicate_succ]
  rfl
theorem Fr.clr (vs:List Value):∀(o:Nat) (w:World),Fr P F Y Y' w0 w->Mut P F Y F.SD->Fr P F Y Y' w0 (w.setCells F.SD o vs):=by
 induction vs with
 |nil=>intro o w h _;exact h
 |cons v vs ih=>intro o w h hm;exact ih (o+1) _ (h.set (p:=⟨F.SD,o,none⟩) (.inl hm) v) hm
theorem AM.clearD (h:AM b w P F Y s):AM b (w.setCells F.SD 0 (List.replicate F.n (.bool false))) P F Y { s with dn:=List.replicate s.dn.length false }/\Fr P F Y Y w (w.setCells F.SD 0 (List.replicate F.n (.bool false))):=by
 refine⟨(AM.clr F.n 0 w s h (Nat.zero_add _)).congr rfl rfl ?_ rfl rfl,Fr.clr _ _ _ (Fr.refl _ _ _ _) (.inr (.inr (.inr (.inl rfl))))⟩
 show List.replicate s.dn.length false=s.dn.take 0++List.replicate F.n false
 rw[h.lenD]
 rfl
structure Is (w:World) (bi g:Nat) (P:Nat) (F:Fix) (Y:Var) (B:List Bool):Prop where
 own:Own w bi 4 1 cb (.slice (some ⟨g,0,none⟩) F.n F.n) B
 no:¬All P F Y g
theorem Is.lt {bi g:Nat} {B:List Bool} (h:Is w bi g P F Y B):g<w.heap.size:=(h.own.base_ g rfl).2
theorem Is.fr {bi g:Nat} {B:List Bool} (h:Is w bi g P F Y B) (hf:Fr P F Y Y' w w'):Is w' bi g P F Y' B :=
 ⟨own_keepB h.own (fun g' e=>by injection e with e;subst e;exact hf.stays h.no h.lt),hf.notall h.no h.lt⟩
theorem Is.keep {bi g:Nat} {B:List Bool} (h:Is w bi g P F Y B) (hb:Below w.heap.size w w'):Is w' bi g P F Y B:=⟨h.own.keep hb,h.no⟩
def AgainSays (b:Nat) (w:World) (P:Nat) (F:Fix) (Y:Var) (s:AS) (e:Ending) (w':World):Prop :=
 (∃r,e= .returned r)/\∃Y',SM b w' P F Y' (AraLaw.again s) 64/\Fr P F Y Y' w w'
theorem again_any (hO:FO F) (h:AM b w P F Y s) {u:Int × Int} (hh:HR F Y s u K) (hcb:CB F s) (hr:s.rds.length<F.ws.length) (hK:K<=100000000) :
 Calls Tryz.prog 98 #[.pointer (some ⟨P,0,none⟩)] w fun e w'=>AgainSays b w P F Y s e w':=by
 have hz64:F.n<=64:=hO.nb;have htt:=hO.tt;have hb0:Below w.heap.size w (w.alloc (.cells (madeCells #[.bool false] F.n) 4)):=(Below.refl _ _).alloc zzL _;have is0:Is (w.alloc (.cells (madeCells #[.bool false] F.n) 4)) w.heap.size w.heap.size P F Y (List.replicate F.n false):=⟨own_madeB F.n w.heap.size w zzL (by omega) rfl,fun ha=>by have:=(h.all ha).2;omega⟩;have am0:=h.keep hb0;have fr0:Fr P F Y Y w (w.alloc (.cells (madeCells #[.bool false] F.n) 4)):=Fr.of hb0;have IS0:=hid is0;have AM0:=hid am0;have FR0:=hid fr0;have HOO:=hid hO;have HHR:=hid hh;have HCB:=hid hcb;have HRR:=hid hr;have HG0:=hid (G1.start hh);have HKK:Hid (Y.kl<=100000000/\Y.m<=100000000):=hid ⟨Nat.le_trans hh.bl hK,Nat.le_trans hh.bm hK⟩;obtain⟨⟨z0,_⟩,_,zp⟩:=h.zs
 have hmb:∀w,(Instr.makeSlice 86 (.int .i64 (F.n:Int)) (.int .i64 (F.n:Int))).run Tryz.prog w= .ok (.slice (some ⟨w.heap.size,0,none⟩) F.n F.n) (w.alloc (.cells (madeCells #[.bool false] F.n) 4)) :=
  run_make_row' (P:=Tryz.prog) 86 4 (.bool false) 1 Tryz.underlying86 (by kernel_rfl) rfl .i64 .i64 F.n (by omega) (by omega)
 have HNN:=hid (And.intro hz64 htt);clear is0 am0 fr0 hO hh hcb hr hK h hb0 hz64 htt;go_enter Tryz.func98,Tryz.ntmps98
 go_wp2_with (simp only[hmb])
 generalize w.alloc (.cells (madeCells #[.bool false] F.n) 4)=w1 at IS0 AM0 FR0 ⊢;clear z0 zp hmb
 go_loopw [3] (fun v3 wr=>∃Y' B,Hid (AM b wr P F Y' s)/\Hid (Fr P F Y Y' w wr)/\Hid (Is wr w.heap.size w.heap.size P F Y' B)/\Hid (G1 F s Y'.L B)/\Hid (Y'.LT=Y.LT/\Y'.kl=Y.kl/\Y'.m<=100000000)) (fun _ wr=>hlen wr F.H)
 case atStart=>exact⟨Y,_,AM0,FR0,IS0,HG0,hid ⟨rfl,rfl,HKK.out.2⟩⟩
 case round =>
  obtain⟨Y',B,HM,HFR,HIS,HG,HY⟩:=hrel;clear AM0 FR0 IS0 HG0;obtain⟨_,⟨_,_,_,_,z10,_,_⟩,zp⟩:=HM.out.zs;have hml:=HM.out.heap.len;have klen:=HeapP.len_any wr HM.out.heap;have KLEN:=hid klen;obtain⟨m',hm'⟩:∃m',Y'.m=m':=⟨_,rfl⟩;have HMM:=hid hm';rw[hm'] at KLEN hml;clear klen hm'
  go_wp2_with fail
  refine KLEN.out.mono ?_;rintro e w2 ⟨rfl,hw2⟩;have hw2':=hw2.symm;clear hw2;subst hw2';rcases Nat.eq_zero_or_pos m' with hm0|hm0
  ·subst hm0
   have hL0:Y'.L=[]:=List.eq_nil_of_length_eq_zero hml;have hg0:=HG.out;rw[hL0] at hg0;have hg2:G2 F s Y'.LT B 0:=G2.start hg0;have HG2:=hid hg2;obtain⟨_,⟨_,_,_,z9,_,_,_⟩,_⟩:=HM.out.zs;have hkl:Y'.kl<=100000000:=by rw[HY.out.2.1];exact HKK.out.1
   have hlr:∀v∈Y'.LT,0<=v/\v<F.n:=by rw[HY.out.1];exact HHR.out.lr
   have HLR:=hid hlr;have HLL:=hid HM.out.lenL;have HL0:=hid hL0;clear hL0 hg0 hg2 hlr z10 KLEN HG hml;go_wp2;rename World=>wo
   go_loopw [43] (fun i wq=>∃(j:Nat) (B2:List Bool),i= .int .i64 j/\j<=Y'.kl/\Hid (AM b wq P F Y' s)/\Hid (Fr P F Y Y' w wq)/\Hid (Is wq w.heap.size w.heap.size P F Y' B2)/\Hid (G2 F s Y'.LT B2 j)) (fun i _=>Y'.kl - (intOf i).toNat)
   case atStart=>exact⟨0,B,rfl,Nat.zero_le _,HM,HFR,HIS,HG2⟩
   case round =>
    obtain⟨j,B2,rfl,hj,HM2,HF2,HI2,HGG⟩:=hrel;clear HM HFR HIS HG2
    by_cases hlt:j<Y'.kl
    ·have hjl:j<Y'.LT.length:=by rw[HLL.out];exact hlt
     obtain⟨bq,oq,hA,hbq,hcj⟩:=HM2.out.late.sl.2.atI hjl;obtain⟨x0,x1⟩:=HLR.out _ (List.getElem_mem hjl);obtain⟨x,hx⟩:=Int.eq_ofNat_of_zero_le x0;rw[hx] at hcj x1;have hxn:x<F.n:=by omega
     have hgn:=HGG.out.next hjl hx hxn;have HGN:=hid hgn;have zx:(x:Int)<(F.n:Int):=x1;have zj:(j:Int)<(Y'.kl:Int):=by omega
     obtain⟨i1,i2⟩:=own_atG false HGG.out.len HI2.out.own hxn;have zgi:=HI2.out.lt;have am5:=HM2.out.far (p:=⟨w.heap.size,x,none⟩) HI2.out.no (.bool true);have is5:Is (wr.setCell ⟨w.heap.size,x,none⟩ (.bool true)) w.heap.size w.heap.size P F Y' (B2.set x true):=⟨own_setG HGG.out.len HI2.out.own x hxn true,HI2.out.no⟩;have fr5:=HF2.out.set (p:=⟨w.heap.size,x,none⟩) (.inr zzL) (.bool true);have HM5:=hid am5;have HI5:=hid is5;have HF5:=hid fr5;clear am5 is5 fr5 hx x0 x1 hgn hjl;go_wp2
     go_roundw
     case rel=>exact⟨j+1,_,by simp,hlt,HM5,HF5,HI5,HGN⟩
     case measure=>simp[intOf];omega
    ·have hjk:j=Y'.kl:=by omega
     subst hjk;obtain⟨nm,nf⟩:=HM2.out.nolate;have nfr:=HF2.out.trans nf;have nis:=HI2.out.fr nf;obtain⟨_,⟨_,_,_,z9,_,_,_⟩,zp⟩:=HM2.out.zs;obtain⟨f9,_,_⟩:=HM2.out.free;have zj:¬((Y'.kl:Int)<(Y'.kl:Int)):=by omega
     have NM:=hid nm;have NF:=hid nfr;have NI:=hid nis;clear nm nf nfr nis;go_upto_region 11 with fail;generalize wr.setCell ⟨P,9,none⟩ (.slice none 0 0)=w5 at NM NF NI ⊢;clear z9 zp f9 HM2 HF2 HI2;obtain⟨_,⟨_,_,z8,_,_,_,_⟩,zp⟩:=NM.out.zs
     have hcl:∀ty,(Builtin.clear_ #[86] ty #[.slice (some ⟨F.SD,0,none⟩) F.n F.n]).run Tryz.prog w5= .ok (.tuple #[]) (w5.setCells F.SD 0 (List.replicate F.n (.bool false))) :=
      fun ty=>Lib.run_clear_slice w5 86 4 ty (.bool false) Tryz.underlying86 zero_bool rfl rfl F.SD 0 F.n F.n (by have:=HNN.out.2;omega) (fun j hj=>by rw[Nat.zero_add,(NM.out.cellD hj).1];rfl) (fun j hj=>by rw[Nat.zero_add];exact(NM.out.cellD hj).2)
     obtain⟨cm,cf⟩:=NM.out.clearD;have am0:AM b (w5.setCells F.SD 0 (List.replicate F.n (.bool false))) P F (Y'.late' none 0 0 []) (s3 s B2 0):=cm.congr rfl rfl rfl rfl rfl;have fr0:=NF.out.trans cf;have is0:=NI.out.fr cf;have hr0:HR F (Y'.late' none 0 0 []) (s3 s B2 0) (cwt F.ws s) 0:=hr_zero NM.out.heap.len HMM.out rfl rfl;have AM0:=hid am0;have FR0:=hid fr0;have IS0:=hid is0;have HR0:=hid hr0;have hgl:G2 F s Y'.LT B2 Y'.LT.length:=by rw[HLL.out];exact HGG.out
     have HGL:=hid hgl;clear am0 fr0 is0 hr0 cm cf hgl
     go_wp2_with (simp only[hcl])
     generalize w5.setCells F.SD 0 (List.replicate F.n (.bool false))=w6 at AM0 FR0 IS0 ⊢;clear hcl NM NF NI z8 zp;rename World=>wo2
     go_loopw [60] (fun i wq=>∃(k:Nat) (Y3:Var),i= .int .i64 k/\k<=F.n/\Hid (AM b wq P F Y3 (s3 s B2 k))/\Hid (Fr P F Y Y3 w wq)/\Hid (Is wq w.heap.size w.heap.size P F Y3 B2)/\Hid (HR F Y3 (s3 s B2 k) (cwt F.ws s) k)) (fun i _=>F.n - (intOf i).toNat)
     case atStart=>exact⟨0,_,rfl,Nat.zero_le _,AM0,FR0,IS0,HR0⟩
     case round =>
      obtain⟨k,Y3,rfl,hk,HM3,HF3,HI3,HH3⟩:=hrel;clear AM0 FR0 IS0 HR0
      by_cases hlt2:k<F.n
      ·have zk:(k:Int)<(F.n:Int):=by omega
       have zk64:k<64:=by have:=HNN.out.1;omega
       obtain⟨i1,_⟩:=own_atG false HGL.out.len HI3.out.own hlt2;have zgi:=HI3.out.lt;have hdb:B2.getD k false=db B2 k:=by unfold db;rw[Int.toNat_natCast]
       rw[hdb] at i1;cases hb:db B2 (k:Int) with
       |false =>
        rw[hb] at i1;have hh4:=hr_skip HH3.out hb;have HH4:=hid hh4;have HM4:=hid (HM3.out.congr (s':=s3 s B2 (k+1)) rfl rfl rfl rfl rfl);clear hh4 hdb hb;go_wp2
        go_roundw
        case rel=>exact⟨k+1,Y3,by simp,hlt2,HM4,HF3,HI3,HH4⟩
        case measure=>simp[intOf];omega
       |true =>
        rw[hb] at i1;have kput:=put_any HM3.out HRR.out (HOO.out.wt HRR.out) hlt2 (HCB.out k (by omega) (by omega)) (HOO.out.hh k (by omega) (by omega)) (by have:=HH3.out.bm;have:=HNN.out.1;omega);have KPUT:=hid kput;have HB2:=hid hb;clear kput hdb hb
        go_wp2_with fail
        refine KPUT.out.mono ?_;rintro e w7 ⟨⟨r7,rfl⟩,A7,c7,L7,am7,hpm7,fr7⟩;have hh4:=hr_put HH3.out HB2.out am7.lenC hlt2 (A:=A7) (c':=c7) hpm7;have HH4:=hid hh4;have HM4:=hid (am7.congr (s':=s3 s B2 (k+1)) rfl rfl rfl rfl rfl);have HF4:=hid (HF3.out.trans fr7);have HI4:=hid (HI3.out.fr fr7);clear hh4 am7 hpm7 fr7;go_wp2
        go_roundw
        case rel=>exact⟨k+1,_,by simp,hlt2,HM4,HF4,HI4,HH4⟩
        case measure=>simp[intOf];omega
      ·have hkn:k=F.n:=by omega
       subst hkn;have zk:¬((F.n:Int)<(F.n:Int)):=by omega
       have hfin:AgainSays b w P F Y s (.returned (.tuple #[])) wr:=⟨⟨_,rfl⟩,Y3,⟨HM3.out.congr (s':=AraLaw.again s) rfl rfl rfl rfl rfl,fun _=>(hr_end HH3.out HGL.out (by rw[HY.out.1];exact HHR.out.late)).more HNN.out.1,HCB.out⟩,HF3.out⟩;have HFIN:=hid hfin;clear hfin;go_wp2;exact bodyPost_end (v:= .tuple #[]) (by simp[results,Tryz.results98,go_sem]) rfl HFIN.out
  ·obtain⟨k,rfl⟩:∃k,m'=k+1:=⟨m' - 1,by omega⟩
   have kpop:=HM.out.pop HMM.out (by have:=HY.out.2.2;omega);have KPOP:=hid kpop;have zk:(k:Int)+1 > 0:=by omega
   have hl1:=hlen_eq HM.out.heap;have HL1:=hid hl1;clear kpop hl1 KLEN
   go_wp2_with fail
   refine KPOP.out.mono ?_;rintro e w3 ⟨a,g,x,L2,rfl,hg0,hpm,am3,fr3⟩;obtain⟨hx0,hx1⟩:=(HG.out.ids (a,g,x) (hpm.mem_iff.1 (by simp))).1;simp only at hx0 hx1;obtain⟨x,rfl⟩:=Int.eq_ofNat_of_zero_le hx0;have hxn:x<F.n:=by omega
   have is3:=HIS.out.fr fr3;have frr:=HFR.out.trans fr3;have HPM:=hid hpm;clear hpm hg0 fr3 hx0 hx1 KPOP z10 zp;go_upto_region 3 with fail;have bA:Below w3.heap.size w3 (w3.alloc (.cells #[.int .i64 a,.int .i64 g,.int .i64 x] 129)):=(Below.refl _ _).alloc zzL _;have am4:=am3.keep bA;have is4:=is3.keep bA;have fr4:=frr.below bA;have hbx:=heap_alloc_new w3 (.cells #[.int .i64 a,.int .i64 g,.int .i64 x] 129);clear bA am3 is3 frr;generalize w3.alloc (.cells #[.int .i64 a,.int .i64 g,.int .i64 x] 129)=w4 at am4 is4 fr4 hbx ⊢;generalize w3.heap.size=X at hbx ⊢;obtain⟨_,⟨_,_,z8,_,_,_,_⟩,zp⟩:=am4.zs;obtain⟨c1,_⟩:=am4.cellD hxn;obtain⟨i1,i2⟩:=own_atG false HG.out.len is4.own hxn;have x2:=blk_cell hbx 2;simp only[zzG,zzH,zzI] at x2;have zx:(x:Int)<(F.n:Int):=by omega
   have HM4:=hid am4;have HI4:=hid is4;have HF4:=hid fr4;clear am4 is4 fr4 hbx;generalize hdd:db s.dn (x:Int)=dd at *;have HDD:=hid hdd;clear hdd;cases dd with
   |true =>
    have hg5:=HG.out.skip HPM.out HDD.out;have HG5:=hid hg5;clear hg5;go_quiet (fail);have am5:=HM4.out.keep (below_drewN (Below.refl _ _) nq);have is5:=HI4.out.keep (below_drewN (Below.refl _ _) nq);have fr5:=HF4.out.drewN nq;have hl9:=hlen_eq am5.heap;have HM5:=hid am5;have HI5:=hid is5;have HF5:=hid fr5;have HL9:=hid hl9;clear am5 is5 fr5 hl9;go_wp2
    go_roundw
    case rel=>exact⟨_,B,HM5,HF5,HI5,HG5,hid ⟨HY.out.1,HY.out.2.1,by show k<=100000000;have:=HY.out.2.2;rw[HMM.out] at this;omega⟩⟩
    case measure=>rw[HL9.out,HL1.out,HMM.out];exact Nat.lt_succ_self _
   |false =>
    have hg5:=HG.out.mark HPM.out HDD.out rfl;have HG5:=hid hg5;clear hg5;go_quiet (fail);have am5:=(HM4.out.keep (below_drewN (Below.refl _ _) nq)).far (p:=⟨w.heap.size,x,none⟩) HI4.out.no (.bool true);have is5:Is ((w4.drewN nq).setCell ⟨w.heap.size,x,none⟩ (.bool true)) w.heap.size w.heap.size P F (Y'.heap' Y'.Ah k Y'.ch L2) (B.set x true):=⟨own_setG HG.out.len (HI4.out.keep (below_drewN (Below.refl _ _) nq)).own x hxn true,HI4.out.no⟩;have fr5:=(HF4.out.drewN nq).set (p:=⟨w.heap.size,x,none⟩) (.inr zzL) (.bool true);have hl9:=hlen_eq am5.heap;have HM5:=hid am5;have HI5:=hid is5;have HF5:=hid fr5;have HL9:=hid hl9;have zgi:=HI4.out.lt;clear am5 is5 fr5 hl9;go_wp2
    go_roundw
    case rel=>exact⟨_,_,HM5,HF5,HI5,HG5,hid ⟨HY.out.1,HY.out.2.1,by show k<=100000000;have:=HY.out.2.2;rw[HMM.out] at this;omega⟩⟩
    case measure=>rw[HL9.out,HL1.out,HMM.out];exact Nat.lt_succ_self _
end
end Ara
namespace Focal
open Go.RowKit NetLaw BellLaw StarLaw Net Go.Proofs.YtjebckehmmbkbaaGreat.Std Star
theorem walked_any (N:Int) (A:Option Addr) (c:Nat) (l:List E) (A':Option Addr) (n c':Nat) (P:List Int) (v:Int) (cs:List Int) (w:World) (hl:Sl w w.heap.size 3 ce A l) (hp:Sl w w.heap.size 1 ci A' P) (hlen:l.length<=9223372036854775807) (hn:P.length=n) (hch:Ch P v cs) (hin:∀x∈cs,0<=x/\x<n) (h64:cs.length<=64) (hn64:n<=64) :
 Calls Tryz.prog 39 #[.agg #[.int .i64 N,.slice A l.length c],.slice A' n c',.int .i64 v] w fun e w'=>SomeWay cs.reverse (WalkLaw.cost N l cs.reverse).1 w e w':=by
 have hw0:Below w.heap.size w ((w.alloc (.cells #[.int .i64 N,.slice A l.length c] 24)).alloc (.cells #[.slice none 0 0,.int .i64 0] 36)):=((Below.refl _ _).alloc zzL _).alloc (by simp) _;have hz0:w.heap.size<=((w.alloc (.cells #[.int .i64 N,.slice A l.length c] 24)).alloc (.cells #[.slice none 0 0,.int .i64 0] 36)).heap.size:=hw0.size;have hbox:=blk_alloc (heap_alloc_new w (.cells #[.int .i64 N,.slice A l.length c] 24)) (.cells #[.slice none 0 0,.int .i64 0] 36)
 have hres:((w.alloc (.cells #[.int .i64 N,.slice A l.length c] 24)).alloc (.cells #[.slice none 0 0,.int .i64 0] 36)).heap[w.heap.size+1]?=some (.cells #[.slice none 0 0,.int .i64 0] 36 (0,0)):=by
  have h:=heap_alloc_new (w.alloc (.cells #[.int .i64 N,.slice A l.length c] 24)) (.cells #[.slice none 0 0,.int .i64 0] 36)
  simpa using h
 have kb:=back_any A' n c' P v 0 cs _ ((hp.keep hw0 zzL).more hz0) hn hch hin h64 hn64;have kc:=fun W A2 c2 (hb:Below w.heap.size w W) h2=>Walk.cost_any N A c l A2 c2 cs.reverse W ((hl.keep hb zzL).more hb.size) h2 hlen (by rw[List.length_reverse];omega);obtain⟨pa,hpa⟩:∃pa,cs.reverse=pa:=⟨_,rfl⟩;rw[hpa] at kb kc ⊢;obtain⟨m,hm⟩:∃m,pa.length=m:=⟨_,rfl⟩;unfold SomeWay at kb ⊢;rw[hm] at kb kc ⊢;obtain⟨x,hx⟩:∃x,(WalkLaw.cost N l pa).1=x:=⟨_,rfl⟩;obtain⟨y,hy⟩:∃y,(WalkLaw.cost N l pa).2=y:=⟨_,rfl⟩;rw[hx,hy] at kc;rw[hx];have KB:=hid kb;have KC:=hid kc;have HBOX:=hid hbox;have HRES:=hid hres;clear kb kc hbox hres hpa hm hx hy hl hp hn hch hin h64;go_enter Tryz.func39,Tryz.ntmps39
 go_wp2_with fail
 refine KB.out.mono ?_;rintro e w1 ⟨A2,c2,rfl,own1,hb1⟩;have B1:=hw0.trans (hb1.mono hz0);have hbx1:=blk_alloc (blk_below HBOX.out hb1 (by simp;omega)) (.cells #[.slice A2 m c2,.int .i64 0] 36);have hrs1:=blk_alloc (blk_below HRES.out hb1 (by simp)) (.cells #[.slice A2 m c2,.int .i64 0] 36);have how1:=heap_alloc_new w1 (.cells #[.slice A2 m c2,.int .i64 0] 36);have own2:=(own1.alloc (.cells #[.slice A2 m c2,.int .i64 0] 36)).mono hz0;have B2:=B1.alloc B1.size (.cells #[.slice A2 m c2,.int .i64 0] 36);have hz1:w.heap.size+2<=w1.heap.size:=by have:=hb1.size;simp at this;omega
 have q0:=blk_cell hbx1 0;have q1:=blk_cell hbx1 1;simp only[zzG,zzH,zzI] at q0 q1;have HR1:=hid hrs1;have HO1:=hid how1;have OW2:=hid own2;clear hb1 hbx1 hrs1 how1 own1 own2 B1
 go_wp2_with fail
 refine(KC.out _ A2 c2 B2 OW2.out.sl.2).mono ?_;rintro e w3 ⟨rfl,hb3⟩;have B3:=B2.trans (hb3.mono B2.size);have hrs3:=blk_below HR1.out hb3 (by simp;omega);have how3:=blk_below HO1.out hb3 (by simp);have own3:=OW2.out.keep hb3;have r0:=blk_cell hrs3 0;have r1:=blk_cell hrs3 1;have rf0:=blk_free hrs3 0;have rf1:=blk_free hrs3 1;have s0:=blk_cell how3 0;have s1:=blk_cell how3 1;have sf1:=blk_free how3 1;simp only[zzG,zzH,zzI] at r0 r1 s0 s1;have hz3:w1.heap.size<w3.heap.size:=lt_of_block how3;have hz4:w.heap.size+1<w3.heap.size:=by omega
 have hn1:=own3.ne_ how3 (by decide);have hn2:=own3.ne_ hrs3 (by decide);have hd1:¬w.heap.size+1=w1.heap.size:=by omega
 have hd2:¬w1.heap.size=w.heap.size+1:=by omega
 have OW3:=hid own3;have HN1:=hid hn1;have HN2:=hid hn2;clear q0 q1 hb3 B2 hrs3 how3 own3 hn1 hn2;go_wp2;refine bodyPost_ret (v:= .agg #[.slice A2 m c2,.int .i64 x]) (by simp[results,Tryz.results39,go_sem,r0,r1,rf0,rf1,s0,s1,sf1,hd1,hd2]) rfl ?_;refine⟨A2,c2,rfl,?_,?_⟩
 ·exact((OW3.out.setCell HN1.out _).setCell HN2.out _).setCell HN2.out _
 ·exact((B3.setCell (by dsimp only;omega) _).setCell (by dsimp only;omega) _).setCell (by dsimp only;omega) _
end Focal
namespace Ara
open Go.RowKit NetLaw BellLaw StarLaw AraLaw Net Go.Proofs.YtjebckehmmbkbaaGreat.Std Flow
open HeapP (HeapAt d0 ltP ltP_ord)
def BestSays (w:World) (F:Fix) (s:AS) (e:Ending) (w':World):Prop :=
 ∃A k c path co,e= .returned (.agg #[.slice A k c,.int .i64 co])/\Own w' w.heap.size 3 1 ci (.slice A k c) path/\path.length=k/\k<=64/\BestA F.n F.tt F.l s (path,co)/\Below w.heap.size w w'
theorem way_cells {W:World} {R:Nat} {v0 v1:Value} (hr:W.heap[R]?=some (.cells #[v0,v1] 36 (0,0))):W.cell? ⟨R,0,none⟩=some v0/\W.cell? ⟨R,1,none⟩=some v1/\W.frozen? ⟨R,0,none⟩=false/\W.frozen? ⟨R,1,none⟩=false:=by
 have c0:=blk_cell hr 0;have c1:=blk_cell hr 1;simp only[zzG,zzH,zzI] at c0 c1;exact⟨c0,c1,blk_free hr 0,blk_free hr 1⟩
theorem way_set {W:World} {R:Nat} {v0 v1:Value} (hr:W.heap[R]?=some (.cells #[v0,v1] 36 (0,0))) (x y:Value):((W.setCell ⟨R,0,none⟩ x).setCell ⟨R,1,none⟩ y).heap[R]?=some (.cells #[x,y] 36 (0,0)):=by
 have h1:=blk_set hr 0 x;have h2:=blk_set h1 1 y
 simpa using h2
section
variable {b:Nat} {w w':World} {P:Nat} {F:Fix} {Y:Var} {s:AS} {K:Nat}
theorem AM.lastR (h:AM b w P F Y s) {m:Nat} (hm:Y.kr=m+1):∃x S,Y.AR=some ⟨S,0,none⟩/\S<w.heap.size/\x∈Y.RS/\s.rds.getLast?=some x.rnd/\w.cell? ⟨S,m*5+2,none⟩=some (.slice x.A x.k x.c)/\w.cell? ⟨S,m*5+3,none⟩=some (.int .i64 x.cost):=by
 have hl:=h.lenR;obtain⟨S,c,hv,_,hS,_,hc⟩:=h.rows.some_ (by omega);have hi:m<Y.RS.length:=by omega
 refine⟨Y.RS[m],S,?_,hS,List.getElem_mem hi,?_,(hc m hi 2 (by omega)).1,(hc m hi 3 (by omega)).1⟩
 ·injection hv with hv
 ·rw[<-h.rds,List.getLast?_map,List.getLast?_eq_getElem?,hl,hm,Nat.add_sub_cancel,List.getElem?_eq_getElem hi]
  rfl
theorem AM.prev (h:AM b w P F Y s) (hpl:∀r∈s.rds,r.path.length<=64):∃Ao ko co po path,Own w b 3 1 ci (.slice Ao ko co) path/\path.length=ko/\ko<=64/\(path,po)=prevW s /\
 ((Y.kr=0/\Ao=none/\ko=0/\co=0/\po=BellLaw.far)\/∃m S,Y.kr=m+1/\Y.AR=some ⟨S,0,none⟩/\S<w.heap.size/\w.cell? ⟨S,m*5+2,none⟩=some (.slice Ao ko co)/\w.cell? ⟨S,m*5+3,none⟩=some (.int .i64 po)):=by
 rcases Nat.eq_zero_or_pos Y.kr with h0|h0
 ·have hr:s.rds=[]:=by
   have:=h.kr_;exact List.eq_nil_of_length_eq_zero (by omega)
  exact⟨none,0,0,BellLaw.far,[],Own.nil_,rfl,by omega,by unfold prevW;rw[hr];rfl,.inl ⟨h0,rfl,rfl,rfl,rfl⟩⟩
 ·obtain⟨m,hm⟩:∃m,Y.kr=m+1:=⟨Y.kr - 1,by omega⟩
  obtain⟨x,S,h1,h2,h3,h4,h5,h6⟩:=h.lastR hm;have hw:=h.ways x h3;have hmem:x.rnd∈s.rds:=by rw[<-h.rds];exact List.mem_map_of_mem h3
  have hlx:x.path.length=x.k:=hw.sl.1.symm;refine⟨x.A,x.k,x.c,x.cost,x.path,hw,hlx,by rw[<-hlx];exact hpl _ hmem,by unfold prevW;rw[h4];rfl,.inr ⟨m,S,hm,h1,h2,h5,h6⟩⟩
theorem best_any (hO:FO F) (h:AM b w P F Y s) (hch:dg s.C F.tt<BellLaw.far->∃cs,Ch s.P F.tt cs/\(∀x∈cs,0<=x/\x<F.n)/\cs.length<=64) (hpl:∀r∈s.rds,r.path.length<=64) (hrl:s.rds.length<=F.ws.length) :
 Calls Tryz.prog 97 #[.pointer (some ⟨P,0,none⟩)] w fun e w'=>BestSays w F s e w':=by
 obtain⟨i0,hi,hz0,hz1,hz2⟩:=info_parts infoIntO;obtain⟨Ao,ko,co,po,pth,ho,hlo,hko,hpw,hcase⟩:=h.prev hpl;have hX2:=blk_alloc (heap_alloc_new w (.cells #[.slice none 0 0,.int .i64 0] 36)) (.cells #[.slice none 0 0,.int .i64 1099511627776] 36)
 have hX3:((w.alloc (.cells #[.slice none 0 0,.int .i64 0] 36)).alloc (.cells #[.slice none 0 0,.int .i64 1099511627776] 36)).heap[w.heap.size+1]?=some (.cells #[.slice none 0 0,.int .i64 1099511627776] 36 (0,0)):=by
  have h:=heap_alloc_new (w.alloc (.cells #[.slice none 0 0,.int .i64 0] 36)) (.cells #[.slice none 0 0,.int .i64 1099511627776] 36)
  simpa using h
 have hb1:Below w.heap.size w ((w.alloc (.cells #[.slice none 0 0,.int .i64 0] 36)).alloc (.cells #[.slice none 0 0,.int .i64 1099511627776] 36)):=((Below.refl _ _).alloc zzL _).alloc (by simp) _;have am1:=h.keep hb1;have hsz1:w.heap.size+1<((w.alloc (.cells #[.slice none 0 0,.int .i64 0] 36)).alloc (.cells #[.slice none 0 0,.int .i64 1099511627776] 36)).heap.size:=by simp
 have HX2:=hid hX2;have HX3:=hid hX3;have HB1:=hid hb1;have AM0:=hid h;have AM1:=hid am1;have HOO:=hid hO;have HCH:=hid hch;have HOWN:=hid ho;have HLO:=hid hlo;have HPW:=hid hpw;have HSZ1:=hid hsz1
 have hcase1:(Y.kr=0/\Ao=none/\ko=0/\co=0/\po=BellLaw.far)\/∃m S,Y.kr=m+1/\Y.AR=some ⟨S,0,none⟩/\S<w.heap.size/\((w.alloc (.cells #[.slice none 0 0,.int .i64 0] 36)).alloc (.cells #[.slice none 0 0,.int .i64 1099511627776] 36)).cell? ⟨S,m*5+2,none⟩=some (.slice Ao ko co)/\((w.alloc (.cells #[.slice none 0 0,.int .i64 0] 36)).alloc (.cells #[.slice none 0 0,.int .i64 1099511627776] 36)).cell? ⟨S,m*5+3,none⟩=some (.int .i64 po):=by
  rcases hcase with h1|⟨m,S,h1,h2,h3,h4,h5⟩
  ·exact .inl h1
  ·exact .inr ⟨m,S,h1,h2,h3,below_cells hb1 h3 h4,below_cells hb1 h3 h5⟩
 have HCASE:=hid hcase1;have hk8:Y.kr<=8:=by have:=h.kr_;have:=hO.wl;omega
 clear hX2 hX3 hb1 am1 h hO hch hpl ho hlo hpw hcase hcase1 hsz1;go_enter Tryz.func97,Tryz.ntmps97;go_upto_region 2 with fail;generalize (w.alloc (.cells #[.slice none 0 0,.int .i64 0] 36)).alloc (.cells #[.slice none 0 0,.int .i64 1099511627776] 36)=w1 at HX2 HX3 HB1 AM1 HCASE HSZ1 ⊢;obtain⟨_,⟨_,_,_,_,_,_,z12⟩,zp⟩:=AM1.out.zs;have hsz:=HSZ1.out
 go_upto_if 13 with fail
 go_cut [4] from 7 to 23 (fun s4 wx=>Hid (wx.heap[w.heap.size]?=some (.cells #[.slice none 0 0,.int .i64 0] 36 (0,0)))/\Hid (wx.heap[w.heap.size+1]?=some (.cells #[.slice Ao ko co,.int .i64 po] 36 (0,0)))/\Hid (Below w.heap.size w wx)/\Hid (AM b wx P F Y s)/\Hid (w.heap.size+1<wx.heap.size))
 case first =>
  obtain⟨c0,c1,f0,f1⟩:=way_cells HX3.out;rcases HCASE.out with ⟨h1,rfl,rfl,rfl,rfl⟩|⟨m,S,h1,h2,h3,h4,h5⟩
  ·rw[h1] at z12 ⊢
   clear h1 HCASE
   go_wp2_with fail
   go_meet
   exact⟨HX2,HX3,HB1,AM1,HSZ1⟩
  ·have zm:(m:Int)+1 > 0:=by omega
   have hx2:=HX2.out;have hxx:w.heap.size≠w.heap.size+1:=by omega
   have e3:(((w1.setCell ⟨w.heap.size+1,0,none⟩ (.slice Ao ko co)).setCell ⟨w.heap.size+1,1,none⟩ (.int .i64 po))).heap[w.heap.size+1]?=some (.cells #[.slice Ao ko co,.int .i64 po] 36 (0,0)):=way_set HX3.out _ _;have E3:=hid e3;have X2:=hid (blk_far (blk_far hx2 (p:=⟨w.heap.size+1,0,none⟩) hxx (.slice Ao ko co)) (p:=⟨w.heap.size+1,1,none⟩) hxx (.int .i64 po));have hbb:=(HB1.out.setCell (p:=⟨w.heap.size+1,0,none⟩) (by dsimp only;omega) (.slice Ao ko co)).setCell (p:=⟨w.heap.size+1,1,none⟩) (by dsimp only;omega) (.int .i64 po);have BB:=hid hbb;have AA:=hid (AM0.out.keep hbb);have SS:Hid (w.heap.size+1<((w1.setCell ⟨w.heap.size+1,0,none⟩ (.slice Ao ko co)).setCell ⟨w.heap.size+1,1,none⟩ (.int .i64 po)).heap.size):=hid (lt_of_block e3);have hwm:IntKind.i64.wrap (m:Int)=m:=IntWalk.i64_in _ (by omega);rw[h1,h2] at z12;rw[h1];clear h1 h2 HCASE hbb e3 hx2
   go_wp2_with fail
   go_meet
   exact⟨X2,E3,BB,AA,SS⟩
 case rest =>
  obtain⟨HX2a,HX3a,HBa,HAa,HSa⟩:=hcut;clear HX2 HX3 HB1 AM1 HCASE HSZ1 zp z12 hsz;obtain⟨⟨_,_,_,z3,_,_⟩,⟨z6,_,_,_,_,_,_⟩,zp⟩:=HAa.out.zs;obtain⟨cc,_⟩:=HAa.out.cellC HOO.out.tt;obtain⟨ct,hct⟩:∃ct,dg s.C (F.tt:Int)=ct:=⟨_,rfl⟩;rw[hct] at cc;have HCT:=hid hct;have ztt:(F.tt:Int)<(F.n:Int):=by have:=HOO.out.tt;omega
  clear hct;go_upto_region 5 with fail;go_quiet (fail);have x2:(wc.drewN nq).heap[w.heap.size]?=_:=HX2a.out;have x3:(wc.drewN nq).heap[w.heap.size+1]?=_:=HX3a.out;have hb5:=below_drewN HBa.out nq;have am5:=HAa.out.keep (below_drewN (Below.refl _ _) nq);have sz5:w.heap.size+1<(wc.drewN nq).heap.size:=HSa.out;have X2:=hid x2;have X3:=hid x3;have B5:=hid hb5;have A5:=hid am5;have S5:=hid sz5;clear HX2a HX3a HBa HAa HSa x2 x3 hb5 am5 sz5 z3 z6 zp cc;generalize wc.drewN nq=w5 at X2 X3 B5 A5 S5 ⊢
  go_upto_if 33 with fail
  go_cut [] from 23 to 53 (fun wx=>Hid (wx.heap[w.heap.size]?=some (.cells #[.slice none 0 0,.int .i64 0] 36 (0,0)))/\Hid (wx.heap[w.heap.size+1]?=some (.cells #[.slice Ao ko co,.int .i64 po] 36 (0,0)))/\Hid (Below w.heap.size w wx)/\Hid (AM b wx P F Y s)/\Hid (w.heap.size+1<wx.heap.size)/\Hid (BestA F.n F.tt F.l s (pth,po)))
  case first =>
   by_cases hlt:ct<BellLaw.far
   ·have hlt':ct<1099511627776:=hlt
    obtain⟨cs,hcs,hin,h64⟩:=HCH.out (by rw[HCT.out];exact hlt);obtain⟨⟨z0,z1,_,z3,_,_⟩,⟨_,z7,_,_,_,_,_⟩,zp⟩:=A5.out.zs;obtain⟨q2,q3,g2,g3⟩:=way_cells X2.out;obtain⟨q0,q1,g0,g1⟩:=way_cells X3.out;have sz5:=S5.out;have kw:=fun (W:World) (hW:Below w5.heap.size w5 W)=>Focal.walked_any F.n F.AE F.cE F.l (some ⟨F.SP,0,none⟩) F.n F.n s.P F.tt cs W (A5.out.keep hW).net.sl.2 (A5.out.keep hW).pred.sl.2 (by have:=HOO.out.gd.len;omega) A5.out.lenP hcs hin h64 HOO.out.nb;have hcl:∀wd:World,Below w5.heap.size w5 wd->wd.cell? ⟨P,0,none⟩=some (.int .i64 F.n)/\wd.cell? ⟨P,1,none⟩=some (.slice F.AE F.l.length F.cE)/\wd.cell? ⟨P,3,none⟩=some (.int .i64 F.tt)/\wd.cell? ⟨P,7,none⟩=some (.slice (some ⟨F.SP,0,none⟩) F.n F.n):=fun wd hbd=>⟨below_cells hbd zp z0,below_cells hbd zp z1,below_cells hbd zp z3,below_cells hbd zp z7⟩;obtain⟨x9,hx9⟩:∃x9,(WalkLaw.cost F.n F.l cs.reverse).1=x9:=⟨_,rfl⟩;rw[hx9] at kw;unfold Star.SomeWay at kw;obtain⟨mm,hmm⟩:∃mm,cs.reverse.length=mm:=⟨_,rfl⟩;rw[hmm] at kw;have hmm64:mm<=64:=by rw[<-hmm,List.length_reverse];exact h64
    have KW:=hid kw;have HCL:=hid hcl;have HX9:=hid hx9;have HMM:=hid hmm;have HCS:=hid hcs;have BA:=hid ((Below.refl w5.heap.size w5).alloc zzL (.cells #[.slice none 0 0,.int .i64 0] 36)).drew;have RA:=hid (show ((w5.alloc (.cells #[.slice none 0 0,.int .i64 0] 36)).drew).heap[w5.heap.size]?=_ from heap_alloc_new w5 (.cells #[.slice none 0 0,.int .i64 0] 36));have hca:=HCL.out _ BA.out;clear kw hcl hx9 hmm hcs hin h64;go_upto_region 6 with fail
    go_cut [5] from 23 to 47 (fun s5 wx=>∃(X5:Nat) (A9:Option Addr) (c9:Nat),s5= .pointer (some ⟨X5,0,none⟩)/\w5.heap.size<=X5/\Hid (wx.heap[X5]?=some (.cells #[.slice A9 mm c9,.int .i64 x9] 36 (0,0)))/\Hid (Own wx w5.heap.size 3 1 ci (.slice A9 mm c9) cs.reverse)/\Hid (Below w5.heap.size w5 wx))
    case first =>
     go_region_held3 (fun wd=>wd.cell? ⟨P,0,none⟩=some (.int .i64 F.n)/\wd.cell? ⟨P,1,none⟩=some (.slice F.AE F.l.length F.cE)/\wd.cell? ⟨P,3,none⟩=some (.int .i64 F.tt)/\wd.cell? ⟨P,7,none⟩=some (.slice (some ⟨F.SP,0,none⟩) F.n F.n))
      (first
        |go_keep
        |exact hca
        |exact p8
        |exact p7)
      (first
        |(go_at_call 39;refine(KW.out _ (by with_reducible exact(Below.refl _ _).drew)).mono ?_;rintro e w6 ⟨A9,c9,rfl,own6,hb6⟩;have hb7:=(Below.refl w5.heap.size w5).drew.trans (hb6.mono zzL);have p8:=HCL.out _ hb7;have HOW:=hid (own6.mono zzL);have HB7:=hid hb7;clear own6 hb6 hb7)
        |(go_at_call 39;refine(KW.out _ (by with_reducible exact BA.out)).mono ?_;rintro e w6 ⟨A9,c9,rfl,own6,hb6⟩;have hb7:=BA.out.trans (hb6.mono (by simp));have p8:=HCL.out _ hb7;have hr6:=blk_below RA.out hb6 (by simp);obtain⟨d0,d1,e0,e1⟩:=way_cells hr6;have hR6:=lt_of_block hr6;have HOW:=hid (own6.mono (base':=w5.heap.size) (by simp));have HB7:=hid hb7;have p7:=HCL.out _ ((hb7.setCell (p:=⟨w5.heap.size,0,none⟩) zzL (.slice A9 mm c9)).setCell (p:=⟨w5.heap.size,1,none⟩) zzL (.int .i64 x9));have HR6:=hid hr6;clear own6 hb6 hb7 hr6))
     all_goals
      try simp only[Act.put,zzA,zzB,zzC,zzD,zzE,zzF]
      go_wp2_with fail
      go_meet
      first
       |exact⟨_,A9,c9,rfl,HB7.out.size,hid (heap_alloc_new _ _),hid (HOW.out.alloc _),hid (HB7.out.alloc HB7.out.size _)⟩
       |exact⟨_,A9,c9,rfl,Nat.le_refl _,hid (way_set HR6.out _ _),hid ((HOW.out.setCell (HOW.out.ne_ HR6.out (by decide)) _).setCell (HOW.out.ne_ HR6.out (by decide)) _),hid ((HB7.out.setCell (p:=⟨w5.heap.size,0,none⟩) zzL _).setCell (p:=⟨w5.heap.size,1,none⟩) zzL _)⟩
    case rest =>
     obtain⟨X5,A9,c9,rfl,hX5,HR9,HO9,HB9⟩:=hcut;have sz6:=S5.out;have hx2:=blk_below X2.out HB9.out (by omega);have hx3:=blk_below X3.out HB9.out (by omega);obtain⟨q2,q3,g2,g3⟩:=way_cells hx2;obtain⟨q0,q1,g0,g1⟩:=way_cells hx3;obtain⟨r0,r1,_,_⟩:=way_cells HR9.out;have zx5:=lt_of_block HR9.out;have zx2:=lt_of_block hx2;have zx3:=lt_of_block hx3;have HX2:=hid hx2;have HX3:=hid hx3;have hn2:=HO9.out.ne_ hx2 (by decide);have hbb:=B5.out.trans (HB9.out.mono B5.out.size);have hx52:¬X5=w.heap.size:=by omega
     clear hx2 hx3 hca KW HCL BA RA z0 z1 z3 z7
     by_cases hx:x9<po
     ·have hbest:BestA F.n F.tt F.l s (cs.reverse,x9):= .inr ⟨by rw[HCT.out];exact hlt,cs,HCS.out,by rw[<-HPW.out,HX9.out,if_pos hx]⟩
      have hpost:∀W,Own W w5.heap.size 3 1 ci (.slice A9 mm c9) cs.reverse->Below w.heap.size w W->BestSays w F s (.returned (.agg #[.slice A9 mm c9,.int .i64 x9])) W:=fun W h1 h2=>⟨A9,mm,c9,cs.reverse,x9,rfl,h1.mono B5.out.size,HMM.out,hmm64,hbest,h2⟩;have hpost2:=hpost _ ((HO9.out.setCell hn2 (.slice A9 mm c9) (p:=⟨w.heap.size,0,none⟩)).setCell hn2 (.int .i64 x9) (p:=⟨w.heap.size,1,none⟩)) ((hbb.setCell (p:=⟨w.heap.size,0,none⟩) zzL _).setCell (p:=⟨w.heap.size,1,none⟩) zzL _);have HPOST:=hid hpost2;clear hpost hpost2 hbest hn2 hbb
      go_wp2_with fail
      refine bodyPost_ret (v:= .agg #[.slice A9 mm c9,.int .i64 x9]) (by simp[results,Tryz.results97,go_sem,q2,q3,g2,g3]) rfl ?_;exact HPOST.out
     ·have hbest:BestA F.n F.tt F.l s (pth,po):= .inr ⟨by rw[HCT.out];exact hlt,cs,HCS.out,by rw[<-HPW.out,HX9.out,if_neg hx]⟩
      have HBEST:=hid hbest;have HAM:=hid (A5.out.keep HB9.out);have HBB:=hid hbb;clear hbest hn2 hbb
      go_wp2_with fail
      go_meet
      exact⟨HX2,HX3,HBB,HAM,hid zx3,HBEST⟩
   ·have hlt':¬ct<1099511627776:=hlt
    have hbest:BestA F.n F.tt F.l s (pth,po):= .inl ⟨by rw[HCT.out];exact hlt,HPW.out⟩;have HBEST:=hid hbest;clear hbest
    go_wp2_with fail
    go_meet
    exact⟨X2,X3,B5,A5,S5,HBEST⟩
  case rest =>
   obtain⟨HX2,HX3,HB,HA,HS,HBEST⟩:=hcut;clear X2 X3 B5 A5 S5;obtain⟨q2,q3,g2,g3⟩:=way_cells HX2.out;obtain⟨q0,q1,g0,g1⟩:=way_cells HX3.out;have sz:=HS.out;have hsl:=(HOWN.out.keep HB.out).sl.2
   have hnil:Ao=none->ko=0/\co=0:=fun e=>by
    obtain⟨A',c',hv,_,hn⟩:=(HOWN.out.keep HB.out).form;injection hv with h1 h2 h3;rw[<-h1] at hn;obtain⟨k1,k2⟩:=hn e;exact⟨by rw[h2];exact k1,by rw[h3];exact k2⟩
   have hsz:w.heap.size<=wc.heap.size:=HB.out.size;have hcl:∀wd:World,Below wc.heap.size wc wd->wd.cell? ⟨w.heap.size+1,0,none⟩=some (.slice Ao ko co)/\wd.cell? ⟨w.heap.size+1,1,none⟩=some (.int .i64 po):=fun wd hbd=>⟨below_cells hbd sz q0,below_cells hbd sz q1⟩;have HCL:=hid hcl;have HSL:=hid hsl;have HNIL:=hid hnil
   have hpost:∀(W W2:World) (A9:Option Addr) (c9:Nat),Own W wc.heap.size 3 1 ci (.slice A9 ko c9) pth->Below wc.heap.size wc W->(w.heap.size<W.heap.size/\W.cell? ⟨w.heap.size,0,none⟩=some (.slice none 0 0)/\W.cell? ⟨w.heap.size,1,none⟩=some (.int .i64 0)/\W.frozen? ⟨w.heap.size,0,none⟩=false/\W.frozen? ⟨w.heap.size,1,none⟩=false)/\BestSays w F s (.returned (.agg #[.slice A9 ko c9,.int .i64 po])) ((W.setCell ⟨w.heap.size,0,none⟩ (.slice A9 ko c9)).setCell ⟨w.heap.size,1,none⟩ (.int .i64 po)):=fun W W2 A9 c9 h1 h2=>by
    have hx2:=blk_below HX2.out h2 (by omega);obtain⟨k1,k2,k3,k4⟩:=way_cells hx2;have hn:=h1.ne_ hx2 (by decide);exact⟨⟨lt_of_block hx2,k1,k2,k3,k4⟩,A9,ko,c9,pth,po,rfl,((h1.setCell hn (.slice A9 ko c9) (p:=⟨w.heap.size,0,none⟩)).setCell hn (.int .i64 po) (p:=⟨w.heap.size,1,none⟩)).mono hsz,HLO.out,hko,HBEST.out,((HB.out.trans (h2.mono hsz)).setCell (p:=⟨w.heap.size,0,none⟩) zzL _).setCell (p:=⟨w.heap.size,1,none⟩) zzL _⟩
   have HPOST:=hid hpost;clear hsl hnil hcl hpost hsz q2 q3 g2 g3 g0 g1;go_upto_region 9 with fail
   go_region_held3 (fun wd=>wd.cell? ⟨w.heap.size+1,0,none⟩=some (.slice Ao ko co)/\wd.cell? ⟨w.heap.size+1,1,none⟩=some (.int .i64 po))
    (first
      |go_keep
      |exact p8)
    (first
      |(refine step_pushAll _ rfl (.const (.slice none 0 0)) (.tmp 54) _ rfl wc.heap.size 3 i0 (.int .i64 0) 1 8 ci Tryz.underlying25 hi hz0 hz1 hz2 rfl (by decide) _ [] 0 rfl rfl Own.nil_ wc.heap.size Ao ko co pth HLO.out rfl HNIL.out (HSL.out.keep (below_drewN (Below.refl _ _) 1) zzL) one_ci (by omega) (by omega) zzL ?_;intro A9 c9 w9 hown9 hgrow9 hat9;simp only[Nat.zero_add,List.nil_append] at hown9;have hb9:Below wc.heap.size wc w9:=(below_drewN (Below.refl _ _) 1).grown hgrow9 zzL (fun k hk=>by cases hk);have p8:=HCL.out _ hb9;obtain⟨⟨d1,d2,d3,d4,d5⟩,d6⟩:=HPOST.out w9 w9 A9 c9 hown9 hb9;have D6:=hid d6;clear d6 hown9 hgrow9 hat9 hb9))
   all_goals
    try simp only[Act.put,zzA,zzB,zzC,zzD,zzE,zzF]
    go_wp2;refine bodyPost_ret (v:= .agg #[.slice A9 ko c9,.int .i64 po]) (by simp[results,Tryz.results97,go_sem,d1,d2,d3,d4,d5]) rfl ?_;exact D6.out
end
end Ara
end Go.Proofs.YtjebckehmmbkbaaGreat
