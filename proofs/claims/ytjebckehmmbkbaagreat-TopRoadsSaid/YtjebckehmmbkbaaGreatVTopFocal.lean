/- The walk of focal.Run. focal.Run of weight one, with steps enough: the cost, or that there is no way. -/
import Derived.Test.YtjebckehmmbkbaaGreatVFocalMem
set_option linter.unusedSimpArgs false
set_option linter.unusedVariables false
set_option maxRecDepth 100000
set_option maxHeartbeats 24000000
namespace Go.Proofs.YtjebckehmmbkbaaGreat
namespace Focal
open Go.RowKit NetLaw BellLaw DijkLaw HeurLaw StarLaw FocalLaw Net Go.Proofs.YtjebckehmmbkbaaGreat.Std Heur Flow StarF
open Makers (wpAnyH_makers putsF mnum mdst lists)
open Dijk (td ol_mem ol_count)
theorem td_ol (l:List E) (v:Nat):td l (ol l l.length v)=oe l v:=by
 have h:=oe_take (l:=l) (v:=(v:Int)) l.length;rw[if_pos zzL,List.take_length] at h;rw[<-h];unfold td ol;rw[List.map_map];refine List.map_congr_left fun i _=> ?_;simp
theorem td_take {l:List E} {r:List Int} {j i:Nat} (hj:j<r.length) (hi:r[j]=(i:Int)) (hil:i<l.length):td l (r.take (j+1))=td l (r.take j)++[l[i]]:=by
 rw[List.take_add_one,List.getElem?_eq_getElem hj,td,List.map_append,hi];simp[td,List.getD_eq_getElem?_getD,List.getElem?_eq_getElem hil]
theorem fxs_snoc (h:List Int) (v:Int) (es:List E) (e:E) (s:List Int × List Int × List Bool):fxs h v (es++[e]) s=fx1 h v (fxs h v es s) e:=by
 unfold fxs;rw[List.foldl_append]
 rfl
def Mk3 (n:Nat) (i:Nat) (v:Value) (lo hi:Nat) (w':World):Prop :=
 if i=10 then ∃g,v= .slice (some ⟨g,0,none⟩) n n/\g<hi/\Own w' lo 4 1 cb (.slice (some ⟨g,0,none⟩) n n) (List.replicate n false)
 else ∃g,v= .slice (some ⟨g,0,none⟩) n n/\g<hi/\Own w' lo 3 1 ci (.slice (some ⟨g,0,none⟩) n n) (List.replicate n 0)
theorem Mk3.keep {n:Nat} {i:Nat} {v:Value} {lo hi:Nat} {w1 w2:World} (h:Mk3 n i v lo hi w1) (hb:Below w1.heap.size w1 w2):Mk3 n i v lo hi w2:=by
 unfold Mk3 at *;split at h
 ·rename_i hi2
  rw[if_pos hi2];obtain⟨g,h1,h2,h3⟩:=h;exact⟨g,h1,h2,h3.keep hb⟩
 ·rename_i hi2
  rw[if_neg hi2];obtain⟨g,h1,h2,h3⟩:=h;exact⟨g,h1,h2,h3.keep hb⟩
def Made (w0:World) (n:Nat) (A:Option Addr) (m c:Nat) (l:List E) (Ah:Option Addr) (ch:Nat) (At:Option Addr) (ct:Nat) (p q:Int) (Z:Nat) (w:World):Prop :=
 ∃SC SP SB,FM w0 w n A m c l Ah ch At ct Z SC SP SB 0 (fun _=>(none,0)) False p q (List.replicate n 0) (List.replicate n 0) (List.replicate n false) w.heap.size
def FSays (n f t:Nat) (l:List E) (hs ta:List Int) (p q:Int) (st:Nat) (w:World) (e:Ending) (w':World):Prop :=
 ∃s ord,Fr n f t l hs ta p q s ord/\ord.length<=st /\
  ((pick n hs ta s.1 s.2.2 p q<0/\e= .returned (.tuple #[.agg #[.slice none 0 0,.int .i64 0,.slice none 0 0],.int .i64 5]))
   \/ (ord.length=st/\0<=pick n hs ta s.1 s.2.2 p q/\e= .returned (.tuple #[.agg #[.slice none 0 0,.int .i64 0,.slice none 0 0],.int .i64 8]))
   \/ (ord.length<st/\pick n hs ta s.1 s.2.2 p q=(t:Int)/\∃cs A1 c1 A2 c2,Ch s.2.1 t cs/\e= .returned (.tuple #[.agg #[.slice A1 cs.reverse.length c1,.int .i64 (WalkLaw.cost n l cs.reverse).1,.slice A2 (ord.length+1) c2],.int .i64 0])/\Own w' w.heap.size 3 1 ci (.slice A1 cs.reverse.length c1) cs.reverse/\Own w' w.heap.size 3 1 ci (.slice A2 (ord.length+1) c2) (ord++[(t:Int)])))/\Below w.heap.size w w'
theorem pick_fm {w0 w:World} {n m c ch ct Z SC SP SB T top f:Nat} {A Ah At:Option Addr} {l:List E} {F:Nat->Option Addr × Nat} {on:Prop} {p q:Int} {C P hs ta:List Int} {B:List Bool} {tt:Int} (h:FM w0 w n A m c l Ah ch At ct Z SC SP SB T F on p q C P B top) (hi:Fi n f l hs C P B) (hC:Cons n tt l hs) (hh:Sl w0 w0.heap.size 1 ci Ah hs) (ht:Sl w0 w0.heap.size 1 ci At ta) (hl:hs.length=n) (tl:ta.length=n) (hn:n<=64) (hp:1<=p/\p<=1000000) (hq:1<=q/\q<=1000000) :
 Calls Tryz.prog 38 #[.pointer (some ⟨Z,0,none⟩)] w fun e w'=>e= .returned (.int .i64 (pick n hs ta C B p q))/\∃k,w'=w.drewN k :=
 pick_any (h.rf hh ht hl tl (fun v hv=>⟨hi.lo v (by omega) (by omega),hC.bd (by omega) (by omega)⟩) hn) hp hq
theorem infoIntF:(Tryz.prog.info? 3).map (fun i=>(i.zero,i.size,i.bytes))=some (some (.int .i64 0),1,8):=by kernel_rfl
theorem frun_main (n f t:Nat) (A:Option Addr) (c:Nat) (l:List E) (Ah:Option Addr) (ch:Nat) (hs:List Int) (At:Option Addr) (ct:Nat) (ta:List Int) (p q:Int) (st:Nat) (w:World) (hl:Sl w w.heap.size 3 ce A l) (hh:Sl w w.heap.size 1 ci Ah hs) (ht:Sl w w.heap.size 1 ci At ta) (hx:slook n f t l hs=0) (hy:wgt p q=0) (htl:ta.length=n) (hst:st<=100000) :
 Calls Tryz.prog 14 #[.agg #[.int .i64 n,.slice A l.length c],.int .i64 f,.int .i64 t,.slice Ah n ch,.agg #[.int .i64 p,.int .i64 q],.slice At n ct,.int .i64 st] w fun e w'=>FSays n f t l hs ta p q st w e w':=by
 obtain⟨⟨q1',q2,q3,q4,hq5⟩,q5⟩:=wgt_zero.1 hy;obtain⟨hlk,hC⟩:=slook_zero.1 hx;obtain⟨hg,hc,⟨f0,f1⟩,t0,t1⟩:=DijkWay.looks_zero hlk;have hn1:=hg.lo;have hn64:=hg.hi;have hl6:=hg.len;have hhl:hs.length=n:=by have:=hC.len;omega
 have hll:l.length<=9223372036854775807:=by omega
 obtain⟨w9,hw9⟩:∃w9,w9=((w.alloc (.cells #[.int .i64 n,.slice A l.length c] 24)).alloc (.cells #[.int .i64 p,.int .i64 q] 43)).alloc (.cells #[.slice none 0 0,.int .i64 0,.slice none 0 0] 38):=⟨_,rfl⟩;have hw0:Below w.heap.size w w9:=by rw[hw9];exact(((Below.refl _ _).alloc zzL _).alloc (by simp) _).alloc (by simp;omega) _
 have hz0:w.heap.size+3=w9.heap.size:=by rw[hw9];simp
 have hbox:w9.heap[w.heap.size]?=some (.cells #[.int .i64 n,.slice A l.length c] 24 (0,0)):=by rw[hw9];exact blk_alloc (blk_alloc (heap_alloc_new w _) _) _
 have hrat:w9.heap[w.heap.size+1]?=some (.cells #[.int .i64 p,.int .i64 q] 43 (0,0)):=by
  have h:=blk_alloc (heap_alloc_new (w.alloc (.cells #[.int .i64 n,.slice A l.length c] 24)) (.cells #[.int .i64 p,.int .i64 q] 43)) (.cells #[.slice none 0 0,.int .i64 0,.slice none 0 0] 38);rw[hw9];simpa using h
 have hres:w9.heap[w.heap.size+1+1]?=some (.cells #[.slice none 0 0,.int .i64 0,.slice none 0 0] 38 (0,0)):=by
  have h:=heap_alloc_new ((w.alloc (.cells #[.int .i64 n,.slice A l.length c] 24)).alloc (.cells #[.int .i64 p,.int .i64 q] 43)) (.cells #[.slice none 0 0,.int .i64 0,.slice none 0 0] 38);rw[hw9];simpa using h
 have HK:=hid (fun W hW=>wbox hbox hrat hres hw0 hz0 (W:=W) hW);have klook:=fun W (hb:Below w.heap.size w W)=>slook_any n f t A c l Ah ch hs W ((hl.keep hb zzL).more hb.size) ((hh.keep hb zzL).more hb.size) hll (by omega);rw[hx,hhl] at klook;have kwgt:=fun W=>weight_any p q W;rw[hy] at kwgt
 have hmk:∀w,(Instr.makeSlice 25 (.int .i64 (n:Int)) (.int .i64 (n:Int))).run Tryz.prog w= .ok (.slice (some ⟨w.heap.size,0,none⟩) n n) (w.alloc (.cells (madeCells #[.int .i64 0] n) 3)) :=
  run_make_row' (P:=Tryz.prog) 25 3 (.int .i64 0) 8 Tryz.underlying25 (by kernel_rfl) rfl .i64 .i64 n (by omega) (by omega)
 have hmb:∀w,(Instr.makeSlice 86 (.int .i64 (n:Int)) (.int .i64 (n:Int))).run Tryz.prog w= .ok (.slice (some ⟨w.heap.size,0,none⟩) n n) (w.alloc (.cells (madeCells #[.bool false] n) 4)) :=
  run_make_row' (P:=Tryz.prog) 86 4 (.bool false) 1 Tryz.underlying86 (by kernel_rfl) rfl .i64 .i64 n (by omega) (by omega)
 have ko:=fun W h=>outs_wide n A c l W h (Wide.of hg);have hfi:=fun s ord (h:Fr n f t l hs ta p q s ord)=>h.fi hg.ends hc (show f<n by omega);have KO:=hid ko;have HFI:=hid hfi;clear ko hfi;have BB:=hid (Below.refl w9.heap.size w9);have HW0:=hid hw0;have HBOX:=hid hbox;have HRES:=hid hres;have KL:=hid klook;have KW:=hid kwgt;have HMK:=hid hmk;have HMB:=hid hmb;have HG:=hid hg;have HC:=hid hc;have HCO:=hid hC;have HL:=hid hl;have HH:=hid hh;have HT:=hid ht;have HHL:=hid hhl;have HTL:=hid htl;have hnn:((n:Int) != (n:Int))=false:=by simp
 have hs1:decide ((st:Int)<0)=false:=decide_eq_false (by omega);have hs2:decide ((st:Int) > 100000)=false:=decide_eq_false (by omega);have hs1':¬((st:Int)<0):=by omega
 have hs2':¬((100000:Int)<(st:Int)):=by omega
 clear klook kwgt hmk hmb hg hc hC hl hh ht hhl htl hlk hx hy hbox hrat hres hw0 hq5;go_enter Tryz.func14,Tryz.ntmps14
 go_wp2_with fail
 rw[<-hw9];refine(KL.out _ HW0.out).mono ?_;rintro e w1 ⟨rfl,hb1⟩;have B1:=BB.out.trans (hb1.mono zzL);obtain⟨⟨n0,n1,r0,r1⟩,_,_,z1,H1⟩:=HK.out _ B1;have z10:w.heap.size<w1.heap.size:=by omega
 have z11:w.heap.size+1<w1.heap.size:=by omega
 clear hb1
 go_wp2_with fail
 refine(KW.out _).mono ?_;rintro e w2 ⟨rfl,hb2⟩;have B2:=B1.trans (hb2.mono B1.size);clear hb2 n0 n1 r0 r1 z10 z11 z1 H1 B1;obtain⟨⟨n0,n1,r0,r1⟩,_,hres2,z2,H2⟩:=HK.out _ B2;have z20:w.heap.size<w2.heap.size:=by omega
 have z21:w.heap.size+1<w2.heap.size:=by omega
 have hbox2:=blk_below HBOX.out B2 (by omega);have HR2:=hid hres2;have HX2:=hid hbox2;clear hres2 hbox2 hw9;go_upto_region 9 with fail
 go_cut [18] from 56 to 69 (fun s18 wx=>∃Z:Nat,s18= .pointer (some ⟨Z,0,none⟩)/\Hid (Made w n A l.length c l Ah ch At ct p q Z wx))
 case first =>
  refine Go.wp_region_held_drew (S:=fun w'=>w'.cell? ⟨w.heap.size,0,none⟩=some (.int .i64 n)/\w'.cell? ⟨w.heap.size+1,0,none⟩=some (.int .i64 p)/\w'.cell? ⟨w.heap.size+1,1,none⟩=some (.int .i64 q)) (by kernel_rfl) ?_ (fun hHeld=> ?_)
  ·exact⟨n0,r0,r1⟩
  ·skip
   refine zzT 14 0 ?_ rfl (by kernel_rfl) (fun _ _ _ h=>h) (.inl ⟨by rfl,?_⟩) ‹_› ?_;rotate_left;(intro w hSw;(try dsimp only at hSw);go_simp;try with_reducible rfl);try simp only[Act.put,zzA,zzB,zzC,zzD,zzE,zzF];refine zzT 13 1 ?_ rfl (by kernel_rfl) (fun _ _ _ h=>h) (.inl ⟨by rfl,?_⟩) ‹_› ?_;rotate_left;(intro w hSw;(try dsimp only at hSw);go_simp;try with_reducible rfl);try simp only[Act.put,zzA,zzB,zzC,zzD,zzE,zzF];refine zzT 12 2 ?_ rfl (by kernel_rfl) (fun _ _ _ h=>h) (.inl ⟨by rfl,?_⟩) ‹_› ?_;rotate_left;(intro w hSw;(try dsimp only at hSw);go_simp;try with_reducible rfl);try simp only[Act.put,zzA,zzB,zzC,zzD,zzE,zzF];refine zzT 11 3 ?_ rfl (by kernel_rfl) (fun _ _ _ h=>h) (.inl ⟨by rfl,?_⟩) ‹_› ?_;rotate_left;(intro w hSw;(try dsimp only at hSw);go_simp;try with_reducible rfl);try simp only[Act.put,zzA,zzB,zzC,zzD,zzE,zzF];refine zzT 10 5 ?_ rfl (by kernel_rfl) (fun _ _ _ h=>h) (.inl ⟨by rfl,?_⟩) ‹_› ?_;rotate_left;(intro w hSw;(try dsimp only at hSw);go_simp;try with_reducible rfl);try simp only[Act.put,zzA,zzB,zzC,zzD,zzE,zzF];refine zzT 9 6 ?_ rfl (by kernel_rfl) (fun _ _ _ h=>h) (.inl ⟨by rfl,?_⟩) ‹_› ?_;rotate_left;(intro w hSw;(try dsimp only at hSw);go_simp;try with_reducible rfl);try simp only[Act.put,zzA,zzB,zzC,zzD,zzE,zzF];refine zzT 8 8 ?_ rfl (by kernel_rfl) (fun _ _ _ h=>h) (.inl ⟨by rfl,?_⟩) ‹_› ?_;rotate_left;(intro w hSw;(try dsimp only at hSw);go_simp;try with_reducible rfl);try simp only[Act.put,zzA,zzB,zzC,zzD,zzE,zzF];refine zzT 7 9 ?_ rfl (by kernel_rfl) (fun _ _ _ h=>h) (.inl ⟨by rfl,?_⟩) ‹_› ?_;rotate_left;(intro w hSw;(try dsimp only at hSw);go_simp;try with_reducible rfl);try simp only[Act.put,zzA,zzB,zzC,zzD,zzE,zzF];refine zzT 6 11 ?_ rfl (by kernel_rfl) (fun _ _ _ h=>h) (.inl ⟨by rfl,?_⟩) ‹_› ?_;rotate_left;(intro w hSw;(try dsimp only at hSw);go_simp;try with_reducible rfl);try simp only[Act.put,zzA,zzB,zzC,zzD,zzE,zzF];refine wpAnyH_makers (fuel:=3) (ms:=[(4,60),(7,63),(10,66)]) (φ:=Mk3 n) (by kernel_rfl) (by kernel_rfl) (by decide) (by decide) hHeld ?_ ?_ ?_
   ·exact fun p _ v a b w1 w2 h hb=>h.keep hb
   ·intro p hp o ho f w1 hS hB K hK
    have hz0:w.heap.size+1<w1.heap.size:=by have:=hB.size;simp at this;omega
    have hs2:∀w2,Below w1.heap.size w1 w2->w2.cell? ⟨w.heap.size,0,none⟩=some (.int .i64 n)/\w2.cell? ⟨w.heap.size+1,0,none⟩=some (.int .i64 _)/\w2.cell? ⟨w.heap.size+1,1,none⟩=some (.int .i64 q):=fun w2 hb=>⟨(hb.cell (p:=⟨w.heap.size,0,none⟩) (by show w.heap.size<w1.heap.size;omega)).trans hS.1,(hb.cell (p:=⟨w.heap.size+1,0,none⟩) hz0).trans hS.2.1,(hb.cell (p:=⟨w.heap.size+1,1,none⟩) hz0).trans hS.2.2⟩;have hmk:=HMK.out;have hmb:=HMB.out;have HS2:=hid hs2;clear hS hB hs2 hHeld;simp only[List.mem_cons,List.not_mem_nil,or_false] at hp;rcases hp with rfl|rfl|rfl
    all_goals
     simp only[zzG,zzI,zzH,Option.some.injEq] at ho;subst ho;simp only[putsF,mdst,List.map_cons,List.map_nil,List.foldl_cons,List.foldl_nil,Act.put,List.setIfInBounds_toArray,List.set_cons_zero,List.set_cons_succ] at hK ⊢;have HKX:=hid hK;clear hK;go_simp
    ·exact HKX.out _ _ (by unfold Mk3;rw[if_neg (by decide)];exact⟨w1.heap.size,rfl,by simp,own_madeI n w1.heap.size w1 zzL (by omega) rfl⟩) (HS2.out _ ((Below.refl _ _).alloc zzL _)) ((Below.refl _ _).alloc zzL _)
    ·exact HKX.out _ _ (by unfold Mk3;rw[if_neg (by decide)];exact⟨w1.heap.size,rfl,by simp,own_madeI n w1.heap.size w1 zzL (by omega) rfl⟩) (HS2.out _ ((Below.refl _ _).alloc zzL _)) ((Below.refl _ _).alloc zzL _)
    ·exact HKX.out _ _ (by unfold Mk3;rw[if_pos rfl];exact⟨w1.heap.size,rfl,by simp,own_madeB n w1.heap.size w1 zzL (by omega) rfl⟩) (HS2.out _ ((Below.refl _ _).alloc zzL _)) ((Below.refl _ _).alloc zzL _)
   ·intro f lo hi w1 hS hB hφ hdj
    have B01:=H2.drew.trans (hB.mono H2.size);have hz0:w.heap.size+3<=w1.heap.size:=by have:=hB.size;simp at this;omega
    have hbx1:=blk_below (w:=(World.drew _)) HX2.out hB (by simp;omega);have hrs1:=blk_below (w:=(World.drew _)) HR2.out hB (by simp;omega);obtain⟨m4,l4,k4⟩:=hφ (4,60) (by simp);obtain⟨m7,l7,k7⟩:=hφ (7,63) (by simp);obtain⟨m10,l10,k10⟩:=hφ (10,66) (by simp);have d47:=hdj (4,60) (by simp) (7,63) (by simp) (by decide);simp only at m4 l4 k4 m7 l7 k7 m10 l10 k10 d47;unfold Mk3 at m4 m7 m10;rw[if_neg (by decide)] at m4 m7;rw[if_pos rfl] at m10;obtain⟨SC,e60,hSC,oC⟩:=m4;obtain⟨SP,e63,hSP,oP⟩:=m7;obtain⟨SB,e66,hSB,oB⟩:=m10;clear hφ;simp only[putsF,mdst,List.map_cons,List.map_nil,List.foldl_cons,List.foldl_nil,Act.put,List.setIfInBounds_toArray,List.set_cons_zero,List.set_cons_succ,e60,e63,e66];clear e60 e63 e66;have bz:w.heap.size<=w2.heap.size:=H2.size;have hne:SC≠SP:=fun e=>by have h1:=(oC.base_ SC rfl).1;have h2:=(oP.base_ SP rfl).1;omega
    have hsm:FM w (w1.alloc (.cells #[.slice Ah n ch,.slice At n ct,.slice (some ⟨SC,0,none⟩) n n,.slice (some ⟨SP,0,none⟩) n n,.slice (some ⟨SB,0,none⟩) n n,.int .i64 p,.int .i64 q] 88)) n A l.length c l Ah ch At ct w1.heap.size SC SP SB 0 (fun _=>(none,0)) False p q (List.replicate n 0) (List.replicate n 0) (List.replicate n false) (w1.alloc (.cells #[.slice Ah n ch,.slice At n ct,.slice (some ⟨SC,0,none⟩) n n,.slice (some ⟨SP,0,none⟩) n n,.slice (some ⟨SB,0,none⟩) n n,.int .i64 p,.int .i64 q] 88)).heap.size :=
     ⟨blk_alloc hbx1 _,blk_alloc hrs1 _,heap_alloc_new _ _,(oC.mono (Nat.le_trans bz l4)).alloc _,(oP.mono (Nat.le_trans bz l7)).alloc _,(oB.mono (Nat.le_trans bz l10)).alloc _,fun o=>o.elim,hne,fun o=>o.elim,B01.alloc B01.size _,by simp,by simp,by simp,⟨by simp;omega,by simp;omega,fun o=>o.elim⟩,Nat.le_refl _,by simp;omega⟩
    have HSM:=hid hsm;clear hdj hsm oC oP oB hbx1 hrs1 d47 hB B01;refine zzT 2 12 ?_ rfl (by kernel_rfl) (fun _ _ _ h=>h) (.inl ⟨by rfl,?_⟩) ‹_› ?_;rotate_left;(intro w hSw;(try dsimp only at hSw);go_simp;try with_reducible rfl);try simp only[Act.put,zzA,zzB,zzC,zzD,zzE,zzF];refine Go.wpAnyH_ready (fuel:=1) (rs:=[13]) (by kernel_rfl) (by simp) ?_;refine Go.AllReadyH.cons (o:=_) rfl (fun K hK=> ?_) Go.AllReadyH.nil;have HKX:=hid hK;clear hK;go_simp;refine HKX.out.out _ _ ?_ (fun hHeld2=> ?_)
    ·exact⟨((Below.refl w1.heap.size w1).alloc zzL _).cell (p:=⟨w.heap.size,0,none⟩) (by show w.heap.size<w1.heap.size;omega) |>.trans hS.1,((Below.refl w1.heap.size w1).alloc zzL _).cell (p:=⟨w.heap.size+1,0,none⟩) (by show w.heap.size+1<w1.heap.size;omega) |>.trans hS.2.1,((Below.refl w1.heap.size w1).alloc zzL _).cell (p:=⟨w.heap.size+1,1,none⟩) (by show w.heap.size+1<w1.heap.size;omega) |>.trans hS.2.2⟩
    ·try simp only[Act.put,zzA,zzB,zzC,zzD,zzE,zzF]
     refine zzT 0 14 ?_ rfl (by kernel_rfl) (fun _ _ _ h=>h) (.inl ⟨by rfl,?_⟩) (by exact hHeld2) ?_;rotate_left;(intro w hSw;(try dsimp only at hSw);go_simp;try with_reducible rfl);try simp only[Act.put,zzA,zzB,zzC,zzD,zzE,zzF];refine Go.wpAnyH_done (by kernel_rfl) ?_ _;go_wp2
     go_meet
     exact⟨w1.heap.size,rfl,hid ⟨SC,SP,SB,HSM.out⟩⟩
 case rest =>
  obtain⟨Z,rfl,hmd⟩:=hcut;obtain⟨SC,SP,SB,fm⟩:=hmd.out;clear hmd;obtain⟨tp,htp⟩:∃tp,tp=wc.heap.size:=⟨_,rfl⟩;rw[<-htp] at fm;have FM0:=hid fm;have zc:=blk_cell fm.z 2;simp only[zzG,zzH,zzI] at zc;clear fm htp n0 n1 r0 r1 HR2 HX2 HMK HMB KL KW B2 H2 z2 z20 z21 HBOX HRES BB HK;have hfn:f<n:=by omega
  go_wp2_with fail
  go_loopw [75] (fun s75 wr=>∃(k:Nat),k<=n/\s75= .int .i64 k/\FM w wr n A l.length c l Ah ch At ct Z SC SP SB 0 (fun _=>(none,0)) False p q (List.replicate k far++List.replicate (n - k) 0) (List.replicate k (-1)++List.replicate (n - k) 0) (List.replicate n false) tp) (fun i _=>n - (intOf i).toNat)
  case atStart=>exact⟨0,Nat.zero_le _,rfl,by simpa using FM0.out⟩
  case round =>
   obtain⟨k,hk,rfl,fm⟩:=hrel;clear FM0 zc
   by_cases hlt:k<n
   ·have z1:=blk_cell fm.z 2
    have z2:=blk_cell fm.z 3;simp only[zzG,zzH,zzI] at z1 z2;obtain⟨c0,c1⟩:=own_at1 fm.cl fm.cost hlt;obtain⟨p0,p1⟩:=own_at1 fm.pl fm.pred hlt;have hcp:=fm.ne;have hpc:SP≠SC:=fun e=>hcp e.symm;have HS:=hid fm;clear fm
    go_wp2_with fail
    go_region
    all_goals
     go_wp2
     go_roundw
     case' rel=>exact⟨k+1,by omega,by go_num,by rw[<-Bell.fill_step n k far 0 hlt, <-Bell.fill_step n k (-1) 0 hlt];first|exact((HS.out.setC k far).setP k (-1)).drewN 1|exact((HS.out.setP k (-1)).setC k far).drewN 1⟩
     case' measure=>simp[intOf];omega
   ·obtain rfl:n=k:=by omega
    rw[Nat.sub_self,List.replicate_zero,List.append_nil,List.append_nil] at fm;have z1:=blk_cell fm.z 2;simp only[zzG,zzH,zzI] at z1;obtain⟨c0,c1⟩:=own_at1 fm.cl fm.cost hfn;have fm1:=fm.setC f 0;have FM1:=hid fm1;clear fm fm1;go_upto_region 16 with fail;have fm1:=FM1.out;generalize wr.setCell ⟨SC,f,none⟩ (.int .i64 0)=w3 at fm1 ⊢;clear FM1 z1 c0 c1;have z4:=blk_cell fm1.z 4;simp only[zzG,zzH,zzI] at z4;obtain⟨b0,b1⟩:=own_atG false fm1.bl fm1.wait hfn;obtain⟨bh,oh,rfl,hbh,hcf⟩:=atD (HH.out.keep fm1.lo zzL) (show f<hs.length by rw[HHL.out];exact hfn);obtain⟨x,hx⟩:∃x,dg hs (f:Int)=x:=⟨_,rfl⟩;rw[hx] at hcf;have HX:=hid hx;have FM1:=hid fm1;clear fm1 hx
    go_region
    all_goals
     go_upto_region 17 with fail;have fm2:=(FM1.out.setB f hfn (decide (x<1099511627776))).drewN 1
     have fm3:FM w ((w3.setCell ⟨SB,f,none⟩ (.bool (decide (x<1099511627776)))).drew) n A l.length c l (some ⟨bh,oh,none⟩) ch At ct Z SC SP SB 0 (fun _=>(none,0)) False p q (F0 n f hs).1 (F0 n f hs).2.1 (F0 n f hs).2.2 tp:=by
      have e:F0 n f hs=((List.replicate n far).set f 0,List.replicate n (-1),(List.replicate n false).set f (decide (x<1099511627776))):=by unfold F0;rw[HX.out];rfl
      rw[e];exact fm2
     generalize (w3.setCell ⟨SB,f,none⟩ (.bool (decide (x<1099511627776)))).drew=w4 at fm3 ⊢;have q0:=blk_cell fm3.box 0;have q1:=blk_cell fm3.box 1;simp only[zzG,zzH,zzI] at q0 q1;have hzb:=lt_of_block fm3.box;have ko:=KO.out w4 ((HL.out.keep fm3.lo zzL).more fm3.lo.size);have KO4:=hid ko;have FM3:=hid fm3;clear fm2 fm3 FM1 ko z4 b0 b1 hcf HX
     go_wp2_with fail
     refine KO4.out.mono ?_;rintro e w5 ⟨T,F,rfl,htab,hb5⟩;have fm4:=FM3.out.turn hb5 htab;clear q0 q1 hzb KO4 FM3 hb5 htab;obtain⟨tp2,htp2⟩:∃x,x=w5.heap.size:=⟨_,rfl⟩;rw[<-htp2] at fm4;have hfr0:Fr n f t l hs ta p q (F0 n f hs) []:=Fr.start;have kp:=pick_fm fm4 (HFI.out _ _ hfr0) HCO.out HH.out HT.out HHL.out HTL.out (by omega) ⟨by omega,q4⟩ ⟨q1',q2⟩;have KP:=hid kp;have HFR0:=hid hfr0;have FM4:=hid fm4;clear kp hfr0 fm4 htp2;obtain⟨pv,hpv⟩:∃pv,pick n hs ta (F0 n f hs).1 (F0 n f hs).2.2 p q=pv:=⟨_,rfl⟩;rw[hpv] at KP;have HPV:=hid hpv;clear hpv
     go_wp2_with fail
     refine KP.out.mono ?_;rintro e w6 ⟨rfl,k6,rfl⟩;have fm5:=FM4.out.drewN k6;generalize w5.drewN k6=w6 at fm5 ⊢;have FM5:=hid fm5;clear fm5 FM4 KP
     go_wp2_with fail
     go_loopg [21,22] (st+1) (fun g s21 s22 wr=>∃(s:List Int × List Int × List Bool) (ord:List Int) (Ao:Option Addr) (mo co:Nat),s21= .slice Ao mo co/\s22= .int .i64 (pick n hs ta s.1 s.2.2 p q)/\FM w wr n A l.length c l (some ⟨bh,oh,none⟩) ch At ct Z SC SP SB T F True p q s.1 s.2.1 s.2.2 tp2/\Hid (Fr n f t l hs ta p q s ord)/\Own wr tp2 3 1 ci (.slice Ao mo co) ord/\ord.length<=st/\st+1 - ord.length<=g/\g<=st+1)
     case atStart=>exact⟨F0 n f hs,[],none,0,0,rfl,by rw[HPV.out],FM5.out,HFR0,Own.nil_,Nat.zero_le _,by simp,Nat.le_refl _⟩
     case round =>
      clear FM5 HPV;obtain⟨s,ord,Ao,mo,co,rfl,rfl,fm,HFR,hown,hole,hgh,hgb⟩:=hrel
      have hmo:ord.length=mo:=by
       obtain⟨A',c',hv,_⟩:=hown.form;injection hv with _ hv _;exact hv.symm
      have hres:=fm.res;have hrz:=lt_of_block hres;have g0:=blk_cell hres 0;have g1:=blk_cell hres 1;have g2:=blk_cell hres 2;have e0:=blk_free hres 0;have e1:=blk_free hres 1;have e2:=blk_free hres 2;simp only[zzG,zzH,zzI] at g0 g1 g2;obtain⟨pv,hpv⟩:∃pv,pick n hs ta s.1 s.2.2 p q=pv:=⟨_,rfl⟩;rw[hpv];have hlo:=fm.lo;have HPV:=hid hpv
      by_cases hneg:pv<0
      ·have hn1:¬(pv ≥ 0):=by omega
       have hd:decide (pv ≥ 0)=false:=decide_eq_false hn1;have hd':decide (0<=pv)=false:=decide_eq_false hn1;have HNEG:=hid hneg;clear fm hown hmo hres hpv hgh hgb hneg;go_wp2;refine bodyPost_ret (v:= .tuple #[.agg #[.slice none 0 0,.int .i64 0,.slice none 0 0],.int .i64 5]) (by simp[results,Tryz.results14,go_sem,hrz,g0,g1,g2,e0,e1,e2]) rfl ?_;exact⟨s,ord,HFR.out,hole,.inl ⟨by rw[HPV.out];exact HNEG.out,rfl⟩,((hlo.setCell (by dsimp only;omega) _).setCell (by dsimp only;omega) _).setCell (by dsimp only;omega) _⟩
      ·have hn1:pv ≥ 0:=by omega
       have hd:decide (pv ≥ 0)=true:=decide_eq_true hn1;have hd':decide (0<=pv)=true:=decide_eq_true hn1
       by_cases hms:mo=st
       ·have heq:((mo:Int) == (st:Int))=true:=by simp[hms]
        have HMS:=hid (show ord.length=st by rw[hmo];exact hms);clear fm hown hmo hres hpv hgh hgb hms;go_wp2;refine bodyPost_ret (v:= .tuple #[.agg #[.slice none 0 0,.int .i64 0,.slice none 0 0],.int .i64 8]) (by simp[results,Tryz.results14,go_sem,hrz,g0,g1,g2,e0,e1,e2]) rfl ?_;exact⟨s,ord,HFR.out,hole,.inr (.inl ⟨HMS.out,by rw[HPV.out];exact hn1,rfl⟩),((hlo.setCell (by dsimp only;omega) _).setCell (by dsimp only;omega) _).setCell (by dsimp only;omega) _⟩
       ·have heq:((mo:Int) == (st:Int))=false:=beq_eq_false_iff_ne.2 (by omega)
        obtain⟨v,hvn,hpe,hbv,_⟩:=pick_some (h:=hs) (ta:=ta) (C:=s.1) (B:=s.2.2) (p:=p) (q:=q) (n:=n) (by rw[hpv];omega);rw[hpv] at hpe;subst hpe;have hmst:mo<st:=by omega
        obtain⟨i0,hi,hzi0,hzi1,hzi2⟩:=info_parts infoIntF;have htw:=fm.tw;have hown1:=hown.alloc (.cells #[.int .i64 v] 3);have HMO:=hid hmo;have FMH:=hid fm;have HOWN1:=hid hown1;clear fm hown hmo hres hown1 hlo g0 g1 g2 e0 e1 e2 hrz hpv hneg hms;go_upto_region 25 with (at_builtin;refine wpList_push _ rfl (.tmp 121) (.tmp 123) _ rfl tp2 3 i0 (.int .i64 0) 1 8 ci Tryz.underlying25 hi hzi0 hzi1 hzi2 rfl (by decide) _ ord mo HMO.out rfl HOWN1.out wr.heap.size 1 (v:Int) rfl news1 (fun _ _=>one_ci _ _) (by omega) (by omega) (by simp;omega) ?_;intro A9 c9 w9 hown9 hgrow9 hat9);have fm9:=(FMH.out.alloc (.cells #[.int .i64 v] 3)).grown (row:=none) HOWN1.out zzL hgrow9;have HOWN9:=hid hown9;have hfi:=HFI.out s ord HFR.out;have hwt:=hfi.wt v hvn hbv;clear hgrow9 hat9 hown9 hzi0 hzi1 hzi2 hi HOWN1 FMH htw
        by_cases hvt:v=t
        ·subst hvt
         obtain⟨cs,hch,hcin,hc64,_,_,_,_⟩:=hfi.way HG.out HC.out (v:=(v:Int)) (by omega) (by omega) hwt.1
         have kb:∀k,Calls Tryz.prog 39 #[.agg #[.int .i64 n,.slice A l.length c],.slice (some ⟨SP,0,none⟩) n n,.int .i64 v] (w9.drewN k) fun e w'=>Star.SomeWay cs.reverse (WalkLaw.cost n l cs.reverse).1 (w9.drewN k) e w':=fun k=>by
          have h9:=fm9.drewN k;exact walked_any n A c l (some ⟨SP,0,none⟩) n n s.2.1 v cs (w9.drewN k) ((HL.out.keep h9.lo zzL).more h9.lo.size) h9.pred.sl.2 hll fm9.pl hch hcin hc64 (by omega)
         have q0:=blk_cell fm9.box 0;have q1:=blk_cell fm9.box 1;have z3:=blk_cell fm9.z 3;simp only[zzG,zzH,zzI] at q0 q1 z3;have hzb:=lt_of_block fm9.box;have hzz:=lt_of_block fm9.z;obtain⟨x9,hx9⟩:∃x9,(WalkLaw.cost n l cs.reverse).1=x9:=⟨_,rfl⟩;rw[hx9] at kb;have KB:=hid kb;have FM9:=hid fm9;have HX9:=hid hx9;have HCH:=hid hch;have hee:((v:Int) == (v:Int))=true:=by simp
         clear kb fm9 hx9 hch hcin hc64 hfi hwt;go_wp2
         go_region_with (go_at_call 39;refine(KB.out _).mono ?_;rintro e w10 ⟨A10,c10,rfl,own10,hb10⟩;have hrs:=blk_below (w:=World.drewN _ _) FM9.out.res hb10 (lt_of_block FM9.out.res);have hrl:=lt_of_block hrs;have r0:=blk_cell hrs 0;have r1:=blk_cell hrs 1;have r2:=blk_cell hrs 2;have f0:=blk_free hrs 0;have f1:=blk_free hrs 1;have f2:=blk_free hrs 2;simp only[zzG,zzH,zzI] at r0 r1 r2;have HRS:=hid hrs;have OWN10:=hid own10;have HB10:=hid hb10;clear hrs own10 hb10)
         all_goals
          try simp only[Act.put,zzA,zzB,zzC,zzD,zzE,zzF]
          go_wp2
          (try simp only[Exit.inBlock,Exit.then])
          refine bodyPost_ret (v:= .tuple #[.agg #[.slice A10 cs.reverse.length c10,.int .i64 x9,.slice A9 (mo+1) c9],.int .i64 0]) (by simp[results,Tryz.results14,go_sem,hrl,r0,r1,r2,f0,f1,f2]) rfl ?_;have hzt:=FM9.out.zt;have hlo:=FM9.out.lo;have hsz9:=hlo.size;refine⟨s,ord,HFR.out,hole,.inr (.inr ⟨by rw[HMO.out];omega,by rw[HPV.out],cs,A10,c10,A9,c9,HCH.out,by rw[HX9.out,HMO.out],?_,?_⟩),?_⟩
          ·exact StarS.res_kept (OWN10.out.mono hsz9) HRS.out _ _ _
          ·rw[HMO.out]
           exact StarS.res_kept (((HOWN9.out.drewN 1).keep HB10.out).mono (by omega)) HRS.out _ _ _
          ·have hb:=(below_drewN hlo 1).trans (HB10.out.mono hsz9)
           exact((hb.setCell (by dsimp only;omega) _).setCell (by dsimp only;omega) _).setCell (by dsimp only;omega) _
        ·have hvt':¬(v:Int)=(t:Int):=fun e=>hvt (by omega)
         have hee:((v:Int) == (t:Int))=false:=beq_eq_false_iff_ne.2 hvt';have z4:=blk_cell fm9.z 4;simp only[zzG,zzH,zzI] at z4;obtain⟨b0,b1⟩:=own_atG false fm9.bl fm9.wait hvn;have FM9:=hid fm9;have HFI9:=hid hfi;have HWT9:=hid hwt;have HBV:=hid hbv;clear fm9 hfi hwt hbv;go_upto_region 28 with fail;have fm10:=FM9.out.setB v hvn false
         have own10:=HOWN9.out.setCell (p:=⟨SB,v,none⟩) (by
          obtain⟨cur,hb⟩:=Star.own_blk FM9.out.wait;exact HOWN9.out.ne_ hb (by decide)) (.bool false)
         generalize w9.setCell ⟨SB,v,none⟩ (.bool false)=w10 at fm10 own10 ⊢;obtain⟨tc,_⟩:=(fm10.tab trivial).cell hvn;have hrow:∀(wx:World) (s6:List Int × List Int × List Bool),FM w wx n A l.length c l (some ⟨bh,oh,none⟩) ch At ct Z SC SP SB T F True p q s6.1 s6.2.1 s6.2.2 tp2->Own wx w.heap.size 3 1 ci (.slice (F v).1 (ol l l.length v).length (F v).2) (ol l l.length v):=fun _ _ hx=>(hx.tab trivial).own v hvn;obtain⟨K,hK⟩:∃K,(ol l l.length v).length=K:=⟨_,rfl⟩;obtain⟨Aq,hAq⟩:∃Aq,(F v).1=Aq:=⟨_,rfl⟩;obtain⟨cq,hcq⟩:∃cq,(F v).2=cq:=⟨_,rfl⟩;rw[hK] at tc hrow;rw[hAq,hcq] at tc hrow;have HROW:=hid hrow;have FM10:=hid fm10;have OW10:=hid own10;have HK:=hid hK;have HVT:=hid hvt;have hK6:K<=600:=by have:=ol_len l l.length v;omega
         clear hrow fm10 own10 hK hAq hcq hvt hvt' FM9 HOWN9 z4 b0 b1;go_wp2
         go_loopw [148] (fun i wy=>∃(j:Nat) (s6:List Int × List Int × List Bool),j<=K/\i= .int .i64 j/\FM w wy n A l.length c l (some ⟨bh,oh,none⟩) ch At ct Z SC SP SB T F True p q s6.1 s6.2.1 s6.2.2 tp2/\Hid (fxs hs v (td l ((ol l l.length v).take j)) (s.1,s.2.1,s.2.2.set v false)=s6)/\Hid (Own wy tp2 3 1 ci (.slice A9 (mo+1) c9) (ord++[(v:Int)]))/\Hid (Fi n f l hs s6.1 s6.2.1 s6.2.2)/\Hid (dg s6.1 v=dg s.1 v)) (fun i _=>K - (intOf i).toNat)
         case atStart=>exact⟨0,(s.1,s.2.1,s.2.2.set v false),Nat.zero_le _,rfl,FM10.out,hid (by simp[td,fxs]),OW10,hid (HFI9.out.off v hvn),hid rfl⟩
         case round =>
          clear FM10 tc OW10;obtain⟨j,s6,hj,rfl,fm6,HFX,HOW6,HF6,HCV⟩:=hrel
          by_cases hjk:j<K
          ·have hjl:j<(ol l l.length v).length:=by rw[HK.out];exact hjk
           obtain⟨bq,offq,rfl,hbq,hcj⟩:=(HROW.out _ _ fm6).sl.2.atI hjl;obtain⟨i,hi,hil,hiq⟩:=ol_mem (List.getElem_mem hjl);rw[hi] at hcj;obtain⟨b,off,fe,te,co,rfl,hbB,he,hcf,hct,hcc⟩:=(HL.out.keep fm6.lo zzL).atE hil;have hmem:=List.getElem_mem hil;have hen:=HG.out.ends _ hmem;have hco:=HG.out.cost _ hmem;have hco0:=HC.out _ hmem;have htk:=td_take hjl hi hil;have hev:l[i].1=(v:Int):=by rw[List.getD_eq_getElem?_getD,List.getElem?_eq_getElem hil] at hiq;exact hiq
           have hvf:dg s6.1 v<far:=by rw[HCV.out];exact HWT9.out.1
           have hone:=HF6.out.one HG.out.ends HC.out hfn hvn hvf hmem hev;rw[he] at hen hco hco0 htk hone;obtain⟨_,_,t0,t1⟩:=hen;simp only at t0 t1 hco hco0;obtain⟨te,rfl⟩:=Int.eq_ofNat_of_zero_le t0;have htn':te<n:=by omega
           have hsn:=fxs_snoc hs v (td l ((ol l l.length v).take j)) (fe,(te:Int),co) (s.1,s.2.1,s.2.2.set v false);rw[<-htk,HFX.out] at hsn;obtain⟨hone1,hone2⟩:=hone;have hrv:=HF6.out.lo v (by omega) (by omega);have hrt:=HF6.out.lo te (by omega) (by omega);have z0:=blk_cell fm6.box 1;have zz2:=blk_cell fm6.z 2;have zz3:=blk_cell fm6.z 3;have zz4:=blk_cell fm6.z 4;simp only[zzG,zzH,zzI] at z0 zz2 zz3 zz4;have zj:(j:Int)<(K:Int):=by omega
           have zi:(i:Int)<(l.length:Int):=by omega
           have zl1:w.heap.size<wr.heap.size:=lt_of_block fm6.box;have zl3:Z<wr.heap.size:=lt_of_block fm6.z;have zl5:b<wr.heap.size:=by omega
           have hfx1:fx1 hs v s6 (fe,(te:Int),co)=if dg s6.1 v+co<dg s6.1 te/\dg hs te<far then (s6.1.set te (dg s6.1 v+co),s6.2.1.set te v,s6.2.2.set te true) else s6:=by
            unfold fx1;simp only[Int.toNat_natCast]
           have ha1:=fm6.alloc (.cells #[.int .i64 fe,.int .i64 te,.int .i64 co] 70);have ha2:=HOW6.out.alloc (.cells #[.int .i64 fe,.int .i64 te,.int .i64 co] 70);have hgb:=heap_alloc_new wr (.cells #[.int .i64 fe,.int .i64 te,.int .i64 co] 70);have FM6:=hid ha1;have OW6:=hid ha2;have HGB:=hid hgb;have HSN:=hid hsn;have HFX1:=hid hfx1;have HON1:=hid hone1;have HON2:=hid hone2;have HRV:=hid hrv;have HRT:=hid hrt;clear hsn hfx1 hone1 hone2 hrv hrt ha1 ha2 hgb fm6 HFX HOW6 htk he hi hev hiq hmem hvf HROW;go_upto_region 32 with fail;have fmb:=FM6.out;have owb:=OW6.out;have hgb:=HGB.out;have hgz:wr.heap.size<(wr.alloc (.cells #[.int .i64 fe,.int .i64 te,.int .i64 co] 70)).heap.size:=by simp
           obtain⟨gB,hgB⟩:∃gB,gB=wr.heap.size:=⟨_,rfl⟩;rw[<-hgB] at hgb hgz ⊢;generalize wr.alloc (.cells #[.int .i64 fe,.int .i64 te,.int .i64 co] 70)=w8b at fmb owb hgb hgz ⊢;clear FM6 OW6 HGB z0 zz2 zz3 zz4 hcf hct hcc hcj;have b1:=blk_cell hgb 1;have b2:=blk_cell hgb 2;have zz2:=blk_cell fmb.z 2;have zz3:=blk_cell fmb.z 3;have zz4:=blk_cell fmb.z 4;simp only[zzG,zzH,zzI] at b1 b2 zz2 zz3 zz4;obtain⟨cv,_⟩:=own_at1 fmb.cl fmb.cost hvn;obtain⟨ce',cf'⟩:=own_at1 fmb.cl fmb.cost htn';obtain⟨pe',pf'⟩:=own_at1 fmb.pl fmb.pred htn';obtain⟨be',bf'⟩:=own_atG false fmb.bl fmb.wait htn';rw[getD_dg] at cv ce';obtain⟨b',o',hae,_,hce⟩:=atD (HH.out.keep fmb.lo zzL) (show te<hs.length by rw[HHL.out];exact htn');injection hae with hae;injection hae with hae1 hae2;subst hae1 hae2;obtain⟨y9,hy9⟩:∃y9,dg s6.1 (v:Int)=y9:=⟨_,rfl⟩;obtain⟨x9,hx9⟩:∃x9,dg s6.1 (te:Int)=x9:=⟨_,rfl⟩;obtain⟨g9,hg9⟩:∃g9,dg hs (te:Int)=g9:=⟨_,rfl⟩;have hyb:=HRV.out;have hxb:=HRT.out;rw[hy9] at cv hyb;rw[hx9] at ce' hxb;rw[hg9] at hce;have HF1:=hid (show fx1 hs v s6 (fe,(te:Int),co)=if y9+co<x9/\g9<far then (s6.1.set te (y9+co),s6.2.1.set te v,s6.2.2.set te true) else s6 by rw[HFX1.out,hy9,hx9,hg9]);unfold far at hyb hxb;have hwrp:IntKind.i64.wrap (y9+co)=y9+co:=IntWalk.i64_in _ (by omega);have htn2:(te:Int)<(n:Int):=by omega
           have hvn2:(v:Int)<(n:Int):=by omega
           have hcp:=fmb.ne;have hpc:SP≠SC:=fun e=>hcp e.symm
           have hbc:SB≠SC/\SB≠SP:=by
            obtain⟨cu1,hb1⟩:=Star.own_blk fmb.cost;obtain⟨cu2,hb2⟩:=Star.own_blk fmb.pred;obtain⟨cu3,hb3⟩:=Star.own_blk fmb.wait;exact⟨Star.blk_ne hb3 hb1 (by decide),Star.blk_ne hb3 hb2 (by decide)⟩
           obtain⟨hbc1,hbc2⟩:=hbc
           have hgz6:(gB≠SC/\gB≠SP/\gB≠SB)/\Z≠SC/\Z≠SP/\Z≠SB:=by
            obtain⟨cu1,hb1⟩:=Star.own_blk fmb.cost;obtain⟨cu2,hb2⟩:=Star.own_blk fmb.pred;obtain⟨cu3,hb3⟩:=Star.own_blk fmb.wait;exact⟨⟨Star.blk_ne hgb hb1 (by decide),Star.blk_ne hgb hb2 (by decide),Star.blk_ne hgb hb3 (by decide)⟩,Star.blk_ne fmb.z hb1 (by decide),Star.blk_ne fmb.z hb2 (by decide),Star.blk_ne fmb.z hb3 (by decide)⟩
           obtain⟨⟨hg1,hg2,hg3⟩,hg4,hg5,hg6⟩:=hgz6;have hg1':SC≠gB:=fun e=>hg1 e.symm;have hg2':SP≠gB:=fun e=>hg2 e.symm;have hg3':SB≠gB:=fun e=>hg3 e.symm;have hg4':SC≠Z:=fun e=>hg4 e.symm;have hg5':SP≠Z:=fun e=>hg5 e.symm;have hg6':SB≠Z:=fun e=>hg6 e.symm;have hcb1:SC≠SB:=fun e=>hbc1 e.symm;have hcb2:SP≠SB:=fun e=>hbc2 e.symm;have FMB:=hid fmb;have OWB:=hid owb;have HY9:=hid hy9;have HX9:=hid hx9;have HG9:=hid hg9;have HGBx:=hid hgb;clear fmb owb hgb hy9 hx9 hg9 HFX1 HRV HRT hgB;go_quiet (fail);have fmq:=FMB.out.drewN nq;have owq:=OWB.out.drewN nq;have hgq:(w8b.drewN nq).heap[gB]?=some (.cells #[.int .i64 fe,.int .i64 te,.int .i64 co] 70 (0,0)):=HGBx.out;generalize w8b.drewN nq=w8c at fmq owq hgq ⊢;clear FMB OWB HGBx b1 b2 zz2 zz3 zz4 cv ce' cf' pe' pf' be' bf' hce;have FMB:=hid fmq;have OWB:=hid owq;have HGBx:=hid hgq;have b1:=blk_cell hgq 1;have b2:=blk_cell hgq 2;have zz2:=blk_cell fmq.z 2;have zz3:=blk_cell fmq.z 3;have zz4:=blk_cell fmq.z 4;simp only[zzG,zzH,zzI] at b1 b2 zz2 zz3 zz4;obtain⟨cv,_⟩:=own_at1 fmq.cl fmq.cost hvn;obtain⟨ce',cf'⟩:=own_at1 fmq.cl fmq.cost htn';obtain⟨pe',pf'⟩:=own_at1 fmq.pl fmq.pred htn';obtain⟨be',bf'⟩:=own_atG false fmq.bl fmq.wait htn';rw[getD_dg,HY9.out] at cv;rw[getD_dg,HX9.out] at ce';obtain⟨b',o',hae,_,hce⟩:=atD (HH.out.keep fmq.lo zzL) (show te<hs.length by rw[HHL.out];exact htn');injection hae with hae;injection hae with hae1 hae2;subst hae1 hae2;rw[HG9.out] at hce;clear fmq owq hgq;go_wp2
           by_cases h1:y9+co<x9
           ·have d1:decide (y9+co<x9)=true:=decide_eq_true h1
            by_cases h2:g9<1099511627776
            ·have d2:decide (g9<1099511627776)=true:=decide_eq_true h2
             have HN:=hid (show fx1 hs v s6 (fe,(te:Int),co)=(s6.1.set te (y9+co),s6.2.1.set te v,s6.2.2.set te true) by rw[HF1.out,if_pos ⟨h1,h2⟩]);clear h1 h2 HF1;go_quiet (fail);have fmq:=FMB.out.drewN nq;have owq:=OWB.out.drewN nq;have hgq:(w8c.drewN nq).heap[gB]?=some (.cells #[.int .i64 fe,.int .i64 te,.int .i64 co] 70 (0,0)):=HGBx.out;generalize w8c.drewN nq=w8d at fmq owq hgq ⊢;clear FMB OWB HGBx b1 b2 zz2 zz3 zz4 cv ce' cf' pe' pf' be' bf' hce;have FMB:=hid fmq;have OWB:=hid owq;have HGBx:=hid hgq;have b1:=blk_cell hgq 1;have b2:=blk_cell hgq 2;have zz2:=blk_cell fmq.z 2;have zz3:=blk_cell fmq.z 3;have zz4:=blk_cell fmq.z 4;simp only[zzG,zzH,zzI] at b1 b2 zz2 zz3 zz4;obtain⟨cv,_⟩:=own_at1 fmq.cl fmq.cost hvn;obtain⟨ce',cf'⟩:=own_at1 fmq.cl fmq.cost htn';obtain⟨pe',pf'⟩:=own_at1 fmq.pl fmq.pred htn';obtain⟨be',bf'⟩:=own_atG false fmq.bl fmq.wait htn';rw[getD_dg,HY9.out] at cv;rw[getD_dg,HX9.out] at ce';obtain⟨b',o',hae,_,hce⟩:=atD (HH.out.keep fmq.lo zzL) (show te<hs.length by rw[HHL.out];exact htn');injection hae with hae;injection hae with hae1 hae2;subst hae1 hae2;rw[HG9.out] at hce;clear fmq owq hgq;go_wp2;have hbSC:=hid (Star.own_blk FMB.out.cost);have HNC:Hid ((Value.slice A9 (mo+1) c9).ownBlock≠some SC):=hid (fun e=>by have h1:=(OWB.out.base_ SC e).1;have h2:=FMB.out.tops.1;omega);have HNP:Hid ((Value.slice A9 (mo+1) c9).ownBlock≠some SP):=hid (fun e=>by have h1:=(OWB.out.base_ SP e).1;have h2:=FMB.out.tops.2.1;omega);have HNB:Hid ((Value.slice A9 (mo+1) c9).ownBlock≠some SB):=hid (by obtain⟨cur,hb⟩:=Star.own_blk FMB.out.wait;exact OWB.out.ne_ hb (by decide));have s0:=hid (⟨(((FMB.out.setC te (y9+co)).setP te v).setB te htn' true).drew1,own_drew (((OWB.out.setCell HNC.out _).setCell HNP.out _).setCell HNB.out _)⟩:FM w (((w8d.setCell ⟨SC,te,none⟩ (.int .i64 (y9+co))).setCell ⟨SP,te,none⟩ (.int .i64 v)).setCell ⟨SB,te,none⟩ (.bool true)).drew n _ l.length c l (some ⟨bh,oh,none⟩) ch At ct Z SC SP SB T F True p q (s6.1.set te (y9+co)) (s6.2.1.set te v) (s6.2.2.set te true) tp2/\Own (((w8d.setCell ⟨SC,te,none⟩ (.int .i64 (y9+co))).setCell ⟨SP,te,none⟩ (.int .i64 v)).setCell ⟨SB,te,none⟩ (.bool true)).drew tp2 3 1 ci (.slice A9 (mo+1) c9) (ord++[(v:Int)]));have s1:=hid (⟨(((FMB.out.setC te (y9+co)).setB te htn' true).setP te v).drew1,own_drew (((OWB.out.setCell HNC.out _).setCell HNB.out _).setCell HNP.out _)⟩:FM w (((w8d.setCell ⟨SC,te,none⟩ (.int .i64 (y9+co))).setCell ⟨SB,te,none⟩ (.bool true)).setCell ⟨SP,te,none⟩ (.int .i64 v)).drew n _ l.length c l (some ⟨bh,oh,none⟩) ch At ct Z SC SP SB T F True p q (s6.1.set te (y9+co)) (s6.2.1.set te v) (s6.2.2.set te true) tp2/\Own (((w8d.setCell ⟨SC,te,none⟩ (.int .i64 (y9+co))).setCell ⟨SB,te,none⟩ (.bool true)).setCell ⟨SP,te,none⟩ (.int .i64 v)).drew tp2 3 1 ci (.slice A9 (mo+1) c9) (ord++[(v:Int)]));have s2:=hid (⟨(((FMB.out.setP te v).setC te (y9+co)).setB te htn' true).drew1,own_drew (((OWB.out.setCell HNP.out _).setCell HNC.out _).setCell HNB.out _)⟩:FM w (((w8d.setCell ⟨SP,te,none⟩ (.int .i64 v)).setCell ⟨SC,te,none⟩ (.int .i64 (y9+co))).setCell ⟨SB,te,none⟩ (.bool true)).drew n _ l.length c l (some ⟨bh,oh,none⟩) ch At ct Z SC SP SB T F True p q (s6.1.set te (y9+co)) (s6.2.1.set te v) (s6.2.2.set te true) tp2/\Own (((w8d.setCell ⟨SP,te,none⟩ (.int .i64 v)).setCell ⟨SC,te,none⟩ (.int .i64 (y9+co))).setCell ⟨SB,te,none⟩ (.bool true)).drew tp2 3 1 ci (.slice A9 (mo+1) c9) (ord++[(v:Int)]));have s3:=hid (⟨(((FMB.out.setP te v).setB te htn' true).setC te (y9+co)).drew1,own_drew (((OWB.out.setCell HNP.out _).setCell HNB.out _).setCell HNC.out _)⟩:FM w (((w8d.setCell ⟨SP,te,none⟩ (.int .i64 v)).setCell ⟨SB,te,none⟩ (.bool true)).setCell ⟨SC,te,none⟩ (.int .i64 (y9+co))).drew n _ l.length c l (some ⟨bh,oh,none⟩) ch At ct Z SC SP SB T F True p q (s6.1.set te (y9+co)) (s6.2.1.set te v) (s6.2.2.set te true) tp2/\Own (((w8d.setCell ⟨SP,te,none⟩ (.int .i64 v)).setCell ⟨SB,te,none⟩ (.bool true)).setCell ⟨SC,te,none⟩ (.int .i64 (y9+co))).drew tp2 3 1 ci (.slice A9 (mo+1) c9) (ord++[(v:Int)]));have s4:=hid (⟨(((FMB.out.setB te htn' true).setC te (y9+co)).setP te v).drew1,own_drew (((OWB.out.setCell HNB.out _).setCell HNC.out _).setCell HNP.out _)⟩:FM w (((w8d.setCell ⟨SB,te,none⟩ (.bool true)).setCell ⟨SC,te,none⟩ (.int .i64 (y9+co))).setCell ⟨SP,te,none⟩ (.int .i64 v)).drew n _ l.length c l (some ⟨bh,oh,none⟩) ch At ct Z SC SP SB T F True p q (s6.1.set te (y9+co)) (s6.2.1.set te v) (s6.2.2.set te true) tp2/\Own (((w8d.setCell ⟨SB,te,none⟩ (.bool true)).setCell ⟨SC,te,none⟩ (.int .i64 (y9+co))).setCell ⟨SP,te,none⟩ (.int .i64 v)).drew tp2 3 1 ci (.slice A9 (mo+1) c9) (ord++[(v:Int)]));have s5:=hid (⟨(((FMB.out.setB te htn' true).setP te v).setC te (y9+co)).drew1,own_drew (((OWB.out.setCell HNB.out _).setCell HNP.out _).setCell HNC.out _)⟩:FM w (((w8d.setCell ⟨SB,te,none⟩ (.bool true)).setCell ⟨SP,te,none⟩ (.int .i64 v)).setCell ⟨SC,te,none⟩ (.int .i64 (y9+co))).drew n _ l.length c l (some ⟨bh,oh,none⟩) ch At ct Z SC SP SB T F True p q (s6.1.set te (y9+co)) (s6.2.1.set te v) (s6.2.2.set te true) tp2/\Own (((w8d.setCell ⟨SB,te,none⟩ (.bool true)).setCell ⟨SP,te,none⟩ (.int .i64 v)).setCell ⟨SC,te,none⟩ (.int .i64 (y9+co))).drew tp2 3 1 ci (.slice A9 (mo+1) c9) (ord++[(v:Int)]))
             go_region_held3 (fun w'=>w'.cell? ⟨Z,2,none⟩=some (.slice (some ⟨SC,0,none⟩) n n)/\w'.cell? ⟨Z,3,none⟩=some (.slice (some ⟨SP,0,none⟩) n n)/\w'.cell? ⟨Z,4,none⟩=some (.slice (some ⟨SB,0,none⟩) n n)/\w'.cell? ⟨gB,1,none⟩=some (.int .i64 te))
              (go_keep)
              (fail)
             all_goals
              go_wp2
              go_roundw
              case' rel =>
               first
                |exact⟨j+1,fx1 hs v s6 (fe,(te:Int),co),by omega,by go_num,by rw[HN.out];(with_reducible exact s0.out.1),HSN,hid (by with_reducible exact s0.out.2),HON1,hid (HON2.out.trans HCV.out)⟩
                |exact⟨j+1,fx1 hs v s6 (fe,(te:Int),co),by omega,by go_num,by rw[HN.out];(with_reducible exact s1.out.1),HSN,hid (by with_reducible exact s1.out.2),HON1,hid (HON2.out.trans HCV.out)⟩
                |exact⟨j+1,fx1 hs v s6 (fe,(te:Int),co),by omega,by go_num,by rw[HN.out];(with_reducible exact s2.out.1),HSN,hid (by with_reducible exact s2.out.2),HON1,hid (HON2.out.trans HCV.out)⟩
                |exact⟨j+1,fx1 hs v s6 (fe,(te:Int),co),by omega,by go_num,by rw[HN.out];(with_reducible exact s3.out.1),HSN,hid (by with_reducible exact s3.out.2),HON1,hid (HON2.out.trans HCV.out)⟩
                |exact⟨j+1,fx1 hs v s6 (fe,(te:Int),co),by omega,by go_num,by rw[HN.out];(with_reducible exact s4.out.1),HSN,hid (by with_reducible exact s4.out.2),HON1,hid (HON2.out.trans HCV.out)⟩
                |exact⟨j+1,fx1 hs v s6 (fe,(te:Int),co),by omega,by go_num,by rw[HN.out];(with_reducible exact s5.out.1),HSN,hid (by with_reducible exact s5.out.2),HON1,hid (HON2.out.trans HCV.out)⟩
              case' measure=>simp[intOf];omega
            ·have HN:=hid (show fx1 hs v s6 (fe,(te:Int),co)=s6 by rw[HF1.out,if_neg (fun h=>h2 h.2)])
             have d2:decide (g9<1099511627776)=false:=decide_eq_false h2;clear h1 h2 HF1;go_quiet (fail);go_wp2
             go_roundw
             case rel=>exact⟨j+1,fx1 hs v s6 (fe,(te:Int),co),by omega,by go_num,by rw[HN.out];exact FMB.out.drewN _,HSN,hid (OWB.out.drewN _),HON1,hid (HON2.out.trans HCV.out)⟩
             case measure=>simp[intOf];omega
           ·have d1:decide (y9+co<x9)=false:=decide_eq_false h1
            have HN:=hid (show fx1 hs v s6 (fe,(te:Int),co)=s6 by rw[HF1.out,if_neg (fun h=>h1 h.1)]);clear h1 HF1;go_quiet (fail);go_wp2
            go_roundw
            case rel=>exact⟨j+1,fx1 hs v s6 (fe,(te:Int),co),by omega,by go_num,by rw[HN.out];exact FMB.out.drewN _,HSN,hid (OWB.out.drewN _),HON1,hid (HON2.out.trans HCV.out)⟩
            case measure=>simp[intOf];omega
          ·obtain rfl:K=j:=by omega
           have hfx:=HFX.out;rw[List.take_of_length_le (by rw[HK.out];exact Nat.le_refl _),td_ol] at hfx;have hfr:=Fr.step HFR.out HPV.out HVT.out;rw[hfx] at hfr;have kp:=pick_fm fm6 HF6.out HCO.out HH.out HT.out HHL.out HTL.out (by omega) ⟨by omega,q4⟩ ⟨q1',q2⟩;obtain⟨pw,hpw⟩:∃pw,pick n hs ta s6.1 s6.2.2 p q=pw:=⟨_,rfl⟩;rw[hpw] at kp;have KP:=hid kp;have HPW:=hid hpw;have HFRN:=hid hfr;have FM6:=hid fm6;have hln:(ord++[(v:Int)]).length=mo+1:=by rw[List.length_append,List.length_singleton,HMO.out]
           have HLN:=hid hln;have hgh':=hgh;rw[HMO.out] at hgh';clear kp hpw hfr fm6 hfx hln hgh
           go_wp2_with fail
           refine KP.out.mono ?_;rintro e w11 ⟨rfl,k11,rfl⟩;go_wp2
           go_roundg (st+1 - (mo+1))
           case measure=>omega
           case rel=>exact⟨s6,ord++[(v:Int)],A9,mo+1,c9,rfl,by rw[HPW.out],FM6.out.drewN _,HFRN,HOW6.out.drewN _,by rw[HLN.out];omega,by rw[HLN.out];exact Nat.le_refl _,by omega⟩
end Focal
namespace TopC
open Go.RowKit NetLaw BellLaw DijkLaw HeurLaw StarLaw FocalLaw Net Go.Proofs.YtjebckehmmbkbaaGreat.Std StarF
theorem focal_c (n f t:Nat) (A:Option Addr) (c:Nat) (l:List E) (Ah:Option Addr) (ch:Nat) (hs:List Int) (At:Option Addr) (ct:Nat) (ta:List Int) (w:World) (hl:Sl w w.heap.size 3 ce A l) (hh:Sl w w.heap.size 1 ci Ah hs) (ht:Sl w w.heap.size 1 ci At ta) (hx:slook n f t l hs=0) (htl:ta.length=n) {M:List Int} (hM:Sh n f l M)
 (hmb:∀v:Nat,v<n->dg M v<far->dg hs v<far->dg M v+dg hs v<far) :
 Calls Tryz.prog 14 #[.agg #[.int .i64 n,.slice A l.length c],.int .i64 f,.int .i64 t,.slice Ah n ch,.agg #[.int .i64 1,.int .i64 1],.slice At n ct,.int .i64 100000] w fun e w'=>FC (dg M t) w e w':=by
 obtain⟨hlk,hC⟩:=slook_zero.1 hx;obtain⟨hg,hc,⟨f0,f1⟩,t0,t1⟩:=DijkWay.looks_zero hlk;have hn:=hg.hi;have hf:f<n:=by omega
 have htn:t<n:=by omega
 refine(Focal.frun_main n f t A c l Ah ch hs At ct ta 1 1 100000 w hl hh ht hx (by decide +kernel) htl (by decide)).mono ?_;rintro e w' ⟨s,ord,hr,hle,hcs,hb⟩;have hst:=hr.steps hC hg.ends hc hf hM hmb;rcases hcs with ⟨h1,rfl⟩|⟨h1,h2,rfl⟩|⟨h1,h2,cs,A1,c1,A2,c2,hch,rfl,o1,o2⟩
 ·exact⟨none,0,0,0,none,0,0,5,rfl,.inr ⟨rfl,rfl,hr.none hC hg.ends hc hf htn (by decide) (by decide) h1 hM⟩,hb⟩
 ·omega
 ·obtain⟨k1,k2⟩:=TopP.focal_end hC hg hc hf htn hM hr h2 hch
  exact⟨A1,cs.reverse.length,c1,_,A2,ord.length+1,c2,0,rfl,.inl ⟨rfl,k1,k2⟩,hb⟩
end TopC
end Go.Proofs.YtjebckehmmbkbaaGreat
