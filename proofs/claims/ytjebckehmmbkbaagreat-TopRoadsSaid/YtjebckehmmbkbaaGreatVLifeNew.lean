/- The walk of life.New. -/
import Derived.Test.YtjebckehmmbkbaaGreatVLifeSettle
set_option linter.unusedSimpArgs false
set_option linter.unusedVariables false
set_option maxRecDepth 100000
set_option maxHeartbeats 24000000
namespace Go.Proofs.YtjebckehmmbkbaaGreat
namespace Life
open Go.RowKit NetLaw BellLaw FlowLaw LifeLaw Net Go.Proofs.YtjebckehmmbkbaaGreat.Std Flow
open Heap (Kp Kp.refl Kp.below Kp.alloc Kp.drew Kp.setCell Kp.grown Kp.to fnOf)
open HeapS (HeapAt d0 ltP ltP_ord)
theorem kp_grown_far {w w' w'':World} {P:Nat} {row:Option Nat} (h:Kp w w' P none) (hg:w'.grownBy w'' row) (hr:∀g,row=some g->w.heap.size<=g):Kp w w'' P none :=
 ⟨hg.os.trans h.os,hg.tape.trans h.tape,hg.output.trans h.output,Nat.le_trans h.size hg.size,fun g hlt h1 h2=>(hg.block g (Nat.lt_of_lt_of_le hlt h.size) (fun e=>by have:=hr g e.symm;omega)).trans (h.block g hlt h1 h2)⟩
theorem heap_mono3 {w:World} {base base' H n c:Nat} {fn:Value} {A:Option Addr} {L:List Sp} (h:HeapAt w base H fn A n c L) (hb:base'<=base):HeapAt w base' H fn A n c L:=⟨Nat.le_trans hb h.hb,h.blk,h.own.mono hb,h.len⟩
theorem info_intN:(Tryz.prog.info? 3).map (fun i=>(i.zero,i.size,i.bytes))=some (some (.int .i64 0),1,8):=by kernel_rfl
def NewSays (n s t:Nat) (l:List E) (w:World) (e:Ending) (w':World):Prop :=
 ∃P AE cE TI TO FI FO SC cC SL cL H R Aw mw cw L,e= .returned (.tuple #[.pointer (some ⟨P,0,none⟩),.int .i64 0])/\Hid (LM w w' n s t P l.length AE cE TI TO FI FO SC cC SL cL H l (List.replicate n far) R Aw mw cw L 0)/\Hid (PI n l s (List.replicate n far) R L (fun _=>False))/\mw<=1
structure NW (w w5 W:World) (n s t P M:Nat) (AE:Option Addr) (cE TI TO H:Nat) (p1 p2:Value) (A1:Option Addr) (j1 c1:Nat) (A2:Option Addr) (j2 c2:Nat):Prop where
 z:W.heap[P]?=some (.cells #[.int .i64 n,.slice AE M cE,.slice (some ⟨TI,0,none⟩) n n,.slice (some ⟨TO,0,none⟩) n n,.int .i64 s,.int .i64 t,p1,p2,.pointer (some ⟨H,0,none⟩),.int .i64 0] 106 (0,0))
 o1:Own W w5.heap.size 3 1 ci (.slice A1 j1 c1) (List.replicate j1 far)
 o2:Own W w5.heap.size 3 1 ci (.slice A2 j2 c2) (List.replicate j2 far)
 sep:∀g,(Value.slice A1 0 0).ownBlock=some g->(Value.slice A2 0 0).ownBlock≠some g
 kp:Kp w5 W P none
 lo:Below w.heap.size w W
 pl:w.heap.size<=P
 ps:w.heap.size<=w5.heap.size
section
variable {w w5 W W':World} {n s t P M cE TI TO H j1 c1 j2 c2 c1' c2':Nat} {AE A1 A2 A1' A2':Option Addr} {p1 p2:Value}
theorem NW.keep (h:NW w w5 W n s t P M AE cE TI TO H p1 p2 A1 j1 c1 A2 j2 c2) (hb:Below W.heap.size W W'):NW w w5 W' n s t P M AE cE TI TO H p1 p2 A1 j1 c1 A2 j2 c2 :=
 ⟨blk_below h.z hb (lt_of_block h.z),h.o1.keep hb,h.o2.keep hb,h.sep,h.kp.below hb,h.lo.trans (hb.mono h.lo.size),h.pl,h.ps⟩
theorem rep_snoc (j:Nat):List.replicate j far++[far]=List.replicate (j+1) far:=by rw[List.replicate_succ']
theorem NW.push1 (h:NW w w5 W n s t P M AE cE TI TO H p1 p2 A1 j1 c1 A2 j2 c2) (hg:W.grownBy W' (Value.slice A1 j1 c1).ownBlock) (ho:Own W' w5.heap.size 3 1 ci (.slice A1' (j1+1) c1') (List.replicate j1 far++[far]))
 (hat:(Value.slice A1' (j1+1) c1').ownBlock=(Value.slice A1 j1 c1).ownBlock\/(Value.slice A1' (j1+1) c1').ownBlock=some W.heap.size):NW w w5 W' n s t P M AE cE TI TO H p1 p2 A1' (j1+1) c1' A2 j2 c2:=by
 refine⟨blk_grown h.z hg (h.o1.ne_ h.z (by decide)),by rw[<-rep_snoc];exact ho,h.o2.kept hg ?_,fun g hgk=> ?_,kp_grown_far h.kp hg h.o1.lo,h.lo.grown hg h.lo.size (fun k hk=>Nat.le_trans h.ps (h.o1.lo k hk)),h.pl,h.ps⟩
 ·cases hx:(Value.slice A2 j2 c2).ownBlock with
  |none=>exact .inl rfl
  |some g=>exact .inr fun e=>h.sep g ((obs ..).trans e.symm) ((obs ..).trans hx)
 ·rcases hat with h1|h1
  ·exact h.sep g ((obs ..).trans (h1.symm.trans ((obs ..).trans hgk)))
  ·intro h2
   have h3:(Value.slice A1' (j1+1) c1').ownBlock=some g:=(obs ..).trans hgk;rw[h1] at h3;injection h3 with h3;have:=(h.o2.base_ g ((obs ..).trans h2)).2;omega
theorem NW.push2 (h:NW w w5 W n s t P M AE cE TI TO H p1 p2 A1 j1 c1 A2 j2 c2) (hg:W.grownBy W' (Value.slice A2 j2 c2).ownBlock) (ho:Own W' w5.heap.size 3 1 ci (.slice A2' (j2+1) c2') (List.replicate j2 far++[far]))
 (hat:(Value.slice A2' (j2+1) c2').ownBlock=(Value.slice A2 j2 c2).ownBlock\/(Value.slice A2' (j2+1) c2').ownBlock=some W.heap.size):NW w w5 W' n s t P M AE cE TI TO H p1 p2 A1 j1 c1 A2' (j2+1) c2':=by
 refine⟨blk_grown h.z hg (h.o2.ne_ h.z (by decide)),h.o1.kept hg ?_,by rw[<-rep_snoc];exact ho,fun g hgk hg2=> ?_,kp_grown_far h.kp hg h.o2.lo,h.lo.grown hg h.lo.size (fun k hk=>Nat.le_trans h.ps (h.o2.lo k hk)),h.pl,h.ps⟩
 ·cases hx:(Value.slice A1 j1 c1).ownBlock with
  |none=>exact .inl rfl
  |some g=>exact .inr fun e=>h.sep g ((obs ..).trans hx) ((obs ..).trans e.symm)
 ·rcases hat with h1|h1
  ·exact h.sep g hgk ((obs ..).trans (h1.symm.trans ((obs ..).trans hg2)))
  ·have h3:(Value.slice A2' (j2+1) c2').ownBlock=some g:=(obs ..).trans hg2
   rw[h1] at h3;injection h3 with h3;have:=(h.o1.base_ g ((obs ..).trans hgk)).2;omega
theorem NW.set1 (h:NW w w5 W n s t P M AE cE TI TO H p1 p2 A1 j1 c1 A2 j2 c2) (v:Value):NW w w5 (W.setCell ⟨P,6,none⟩ v) n s t P M AE cE TI TO H v p2 A1 j1 c1 A2 j2 c2 :=
 ⟨blk_set h.z 6 v,h.o1.setCell (h.o1.ne_ h.z (by decide)) _,h.o2.setCell (h.o2.ne_ h.z (by decide)) _,h.sep,h.kp.setCell (.inl rfl) _,h.lo.setCell h.pl _,h.pl,h.ps⟩
theorem NW.set2 (h:NW w w5 W n s t P M AE cE TI TO H p1 p2 A1 j1 c1 A2 j2 c2) (v:Value):NW w w5 (W.setCell ⟨P,7,none⟩ v) n s t P M AE cE TI TO H p1 v A1 j1 c1 A2 j2 c2 :=
 ⟨blk_set h.z 7 v,h.o1.setCell (h.o1.ne_ h.z (by decide)) _,h.o2.setCell (h.o2.ne_ h.z (by decide)) _,h.sep,h.kp.setCell (.inl rfl) _,h.lo.setCell h.pl _,h.pl,h.ps⟩
theorem NW.cells (h:NW w w5 W n s t P M AE cE TI TO H p1 p2 A1 j1 c1 A2 j2 c2):(W.cell? ⟨P,6,none⟩=some p1/\W.cell? ⟨P,7,none⟩=some p2)/\W.frozen? ⟨P,6,none⟩=false/\W.frozen? ⟨P,7,none⟩=false/\P<W.heap.size :=
 ⟨⟨blk_cell h.z 6,blk_cell h.z 7⟩,blk_free h.z 6,blk_free h.z 7,lt_of_block h.z⟩
end
section
variable {w w':World} {P:Nat} {cs0:Array Value} {fr0:Nat × Nat}
theorem blk_P (hk:Kp w w' P none) (hP:w.heap[P]?=some (.cells cs0 106 fr0)) {g:Nat} {cs:Array Value} {t:TypeId} {fr:Nat × Nat} (hg:w.heap[g]?=some (.cells cs t fr)) (ht:t≠106):w'.heap[g]?=some (.cells cs t fr) :=
 (hk.block g (lt_of_block hg) (blk_ne hg hP ht) (by simp)).trans hg
theorem own_P (hk:Kp w w' P none) (hP:w.heap[P]?=some (.cells cs0 106 fr0)) {α:Type} {base sz:Nat} {cell:α->Nat->Value} {e:TypeId} {v:Value} {r:List α} (ho:Own w base e sz cell v r) (ht:e≠106):Own w' base e sz cell v r:=by
 refine⟨ho.1,?_⟩;rcases ho.2 with h3|⟨g,cap,cur,rfl,hg,hh,rest⟩
 ·exact .inl h3
 ·exact .inr ⟨g,cap,cur,rfl,hg,blk_P hk hP hh ht,rest⟩
theorem tab_kP (hk:Kp w w' P none) (hP:w.heap[P]?=some (.cells cs0 106 fr0)) {base S m:Nat} {F:Nat->Option Addr × Nat} {Ls:Nat->List Int} (ht:Tab w base S m F Ls):Tab w' base S m F Ls:=by
 obtain⟨cs,hb,hs,hc⟩:=ht.blk;exact⟨ht.lo,⟨cs,blk_P hk hP hb (by decide),hs,hc⟩,fun v hv=>own_P hk hP (ht.own v hv) (by decide),ht.sep⟩
theorem heap_kP (hk:Kp w w' P none) (hP:w.heap[P]?=some (.cells cs0 106 fr0)) {base H n c:Nat} {fn:Value} {A:Option Addr} {L:List Sp} (h:HeapAt w base H fn A n c L):HeapAt w' base H fn A n c L :=
 ⟨h.hb,blk_P hk hP h.blk (by decide),own_P hk hP h.own (by decide),h.len⟩
end
theorem tab_P {w:World} {base S m:Nat} {F:Nat->Option Addr × Nat} {Ls:Nat->List Int} {P:Nat} {cs:Array Value} {fr:Nat × Nat} (h:Tab w base S m F Ls) (hP:w.heap[P]?=some (.cells cs 106 fr)) (i:Nat) (u:Value):Tab (w.setCell ⟨P,i,none⟩ u) base S m F Ls:=by
 obtain⟨cs',hb,_⟩:=h.blk;exact tab_far h (blk_ne hP hb (by decide)) (fun v hv e=>(h.own v hv).ne_ hP (by decide) ((obs ..).trans e)) u
theorem tab_mono {w:World} {base base' S m:Nat} {F:Nat->Option Addr × Nat} {Ls:Nat->List Int} (h:Tab w base S m F Ls) (hb:base'<=base):Tab w base' S m F Ls:=⟨Nat.le_trans hb h.lo,h.blk,fun v hv=>(h.own v hv).mono hb,h.sep⟩
theorem new_yes (n s t:Nat) (A:Option Addr) (c:Nat) (l:List E) (w:World) (hl:Sl w w.heap.size 3 ce A l) (hnil:A=none->l.length=0/\c=0) (hx:Dijk.look n l [(s:Int),(t:Int)]=0) :
 Calls Tryz.prog 16 #[.agg #[.int .i64 n,.slice A l.length c],.int .i64 s,.int .i64 t] w fun e w'=>NewSays n s t l w e w':=by
 obtain⟨hg,hc,⟨s0,s1⟩,t0,t1⟩:=DijkWay.looks_zero hx;have n64:(n:Int)<=64:=hg.hi;have l600:l.length<=600:=hg.len;have hsn:s<n:=by omega
 have htn:t<n:=by omega
 obtain⟨i0,hi,hz0i,hz1i,hz2i⟩:=info_parts info_intN
 have hgd:Gd n l s:=⟨fun i hi=>by
  have:=hg.ends _ (ed_mem hi);exact⟨⟨this.1,this.2.1⟩,this.2.2.1,this.2.2.2⟩,fun i hi=>⟨hc _ (ed_mem hi),(hg.cost _ (ed_mem hi)).2⟩,s0,s1,l600,by omega⟩
 have hw0:Below w.heap.size w ((w.alloc (.cells #[.int .i64 n,.slice A l.length c] 24)).alloc (.cells #[.int .i64 s,.int .i64 t] 3)):=((Below.refl _ _).alloc zzL _).alloc (by simp) _;have hz0:w.heap.size<=((w.alloc (.cells #[.int .i64 n,.slice A l.length c] 24)).alloc (.cells #[.int .i64 s,.int .i64 t] 3)).heap.size:=by simp;omega
 have hbox:=blk_alloc (heap_alloc_new w (.cells #[.int .i64 n,.slice A l.length c] 24)) (.cells #[.int .i64 s,.int .i64 t] 3);have key:=Dijk.look_any n A c l (some ⟨w.heap.size+1,0,none⟩) 2 2 [(s:Int),(t:Int)] _ ((hl.keep hw0 zzL).more hz0) (sl_new' (by decide) (w.alloc (.cells #[.int .i64 n,.slice A l.length c] 24)) #[.int .i64 s,.int .i64 t] 3 [(s:Int),(t:Int)] (by simp) rfl) rfl (by omega) (by decide);rw[hx] at key;have kcp:=fun (W:World) (h:Sl W W.heap.size 3 ce A l)=>John.copy_any n A c l W h hnil l600;have kho:=fun (W:World) (B:Option Addr) (cB:Nat) (h:Sl W W.heap.size 3 ce B l)=>outs_any n B cB l W h hg
 have htlg:NetLaw.Good n (tl l):=⟨hg.lo,hg.hi,by rw[tl_len];exact hg.len,fun e he=>by
  unfold tl at he;rw[List.mem_map] at he;obtain⟨x,hx,rfl⟩:=he;have:=hg.ends x hx;exact⟨this.2.2.1,this.2.2.2,this.1,this.2.1⟩,fun e he=>by
  unfold tl at he;rw[List.mem_map] at he;obtain⟨x,hx,rfl⟩:=he;exact hg.cost x hx⟩
 have khi:=fun (W:World) (B:Option Addr) (cB:Nat) (h:Sl W W.heap.size 3 ce B (tl l))=>outs_any n B cB (tl l) W h htlg;have ktu:=fun (W:World) (B:Option Addr) (cB:Nat) (h:Sl W W.heap.size 3 ce B l)=>turned_any n B cB l W h (by omega);have KEY:=hid key;have KCP:=hid kcp;have KHO:=hid kho;have KHI:=hid khi;have KTU:=hid ktu;have HBOX:=hid hbox;have HGD:=hid hgd;clear key kcp kho khi ktu hbox hx hg hc htlg hgd hnil s0 s1 t0 t1;go_enter Tryz.func16,Tryz.ntmps16
 go_wp2_with fail
 refine KEY.out.mono ?_;rintro e w1 ⟨rfl,hb1⟩;have H1:=hw0.trans (hb1.mono hz0);have hb:=blk_below HBOX.out hb1 (by simp;omega);have q0:=blk_cell hb 0;have q1:=blk_cell hb 1;simp only[zzG,zzH,zzI] at q0 q1;have zq:=lt_of_block hb;have HB:=hid hb;clear hb hb1 KEY HBOX hw0 hz0
 go_wp2_with fail
 refine(KCP.out _ ((hl.keep H1 zzL).more H1.size)).mono ?_;rintro e w2 ⟨AE,cE,rfl,own2,hb2⟩;have H2:=H1.trans (hb2.mono H1.size);have hbx2:=blk_below HB.out hb2 zq;have zq2:=lt_of_block hbx2;have HB2:=hid hbx2;have HO2:=hid own2;have hown2:=own2.mono H1.size;clear HB hbx2 q0 q1 zq own2 hb2 KCP HO2
 go_wp2_with fail
 refine(HeapS.new_any 45 w2).mono ?_;rintro e w3 ⟨H,rfl,hh3,hb3⟩;have H3:=H2.trans (hb3.mono H2.size);have hbx3:=blk_below HB2.out hb3 zq2;have hown3:=hown2.keep hb3;have hHt:=lt_of_block hh3.blk;have hHb:w.heap.size<=H:=Nat.le_trans H2.size hh3.hb;have hm4:=heap_mono3 hh3 H2.size;have HB3:=hid hbx3;have HO3:=hid hown3;have HH3:=hid hm4;clear HB2 hbx3 hown2 hown3 hh3 hm4 hb3 zq2 H1;go_upto_region 5 with fail;have hP4:=heap_alloc_new w3 (.cells #[.int .i64 n,.slice AE l.length cE,.slice none 0 0,.slice none 0 0,.int .i64 s,.int .i64 t,.slice none 0 0,.slice none 0 0,.pointer (some ⟨H,0,none⟩),.int .i64 0] 106);have hbx4:=blk_alloc HB3.out (.cells #[.int .i64 n,.slice AE l.length cE,.slice none 0 0,.slice none 0 0,.int .i64 s,.int .i64 t,.slice none 0 0,.slice none 0 0,.pointer (some ⟨H,0,none⟩),.int .i64 0] 106);have ho4:=HO3.out.alloc (.cells #[.int .i64 n,.slice AE l.length cE,.slice none 0 0,.slice none 0 0,.int .i64 s,.int .i64 t,.slice none 0 0,.slice none 0 0,.pointer (some ⟨H,0,none⟩),.int .i64 0] 106);have hh4:=HH3.out.alloc (.cells #[.int .i64 n,.slice AE l.length cE,.slice none 0 0,.slice none 0 0,.int .i64 s,.int .i64 t,.slice none 0 0,.slice none 0 0,.pointer (some ⟨H,0,none⟩),.int .i64 0] 106);have H4:=H3.alloc H3.size (.cells #[.int .i64 n,.slice AE l.length cE,.slice none 0 0,.slice none 0 0,.int .i64 s,.int .i64 t,.slice none 0 0,.slice none 0 0,.pointer (some ⟨H,0,none⟩),.int .i64 0] 106);generalize w3.alloc (.cells #[.int .i64 n,.slice AE l.length cE,.slice none 0 0,.slice none 0 0,.int .i64 s,.int .i64 t,.slice none 0 0,.slice none 0 0,.pointer (some ⟨H,0,none⟩),.int .i64 0] 106)=w4 at hP4 hbx4 ho4 hh4 H4 ⊢;have hPw:w.heap.size<=w3.heap.size:=H3.size;generalize w3.heap.size=P at hP4 hPw ⊢;clear HB3 HO3 HH3 H3 H2;have zP4:=lt_of_block hP4;have zB4:=lt_of_block hbx4;have hsl4:Sl w4.drew w4.drew.heap.size 3 ce AE l:=ho4.sl.2;have z0:=blk_cell hP4 0;have z1:=blk_cell hP4 1;simp only[zzG,zzH,zzI] at z0 z1;have HP4:=hid hP4;have HX4:=hid hbx4;have HO4:=hid ho4;have HH4:=hid hh4;clear hP4 hbx4 ho4 hh4;have hs0:w4.drew.cell? ⟨P,0,none⟩=some (.int .i64 n)/\w4.drew.cell? ⟨P,1,none⟩=some (.slice AE l.length cE):=⟨z0,z1⟩;refine Go.wp_region_held_drew (S:=(fun w'=>w'.cell? ⟨P,0,none⟩=some (.int .i64 n)/\w'.cell? ⟨P,1,none⟩=some (.slice AE l.length cE))) (by kernel_rfl) hs0 (fun hHeld=> ?_);refine zzT 18 0 ?_ rfl (by kernel_rfl) (fun _ _ _ h=>h) (.inl ⟨by rfl,?_⟩) ‹_› ?_;rotate_left;(intro w hSw;(try dsimp only at hSw);go_simp;try with_reducible rfl);try simp only[Act.put,zzA,zzB,zzC,zzD,zzE,zzF];refine zzT 17 1 ?_ rfl (by kernel_rfl) (fun _ _ _ h=>h) (.inl ⟨by rfl,?_⟩) ‹_› ?_;rotate_left;(intro w hSw;(try dsimp only at hSw);go_simp;try with_reducible rfl);try simp only[Act.put,zzA,zzB,zzC,zzD,zzE,zzF];refine zzT 16 2 ?_ rfl (by kernel_rfl) (fun _ _ _ h=>h) (.inl ⟨by rfl,?_⟩) ‹_› ?_;rotate_left;(intro w hSw;(try dsimp only at hSw);go_simp;try with_reducible rfl);try simp only[Act.put,zzA,zzB,zzC,zzD,zzE,zzF];refine zzT 15 3 ?_ rfl (by kernel_rfl) (fun _ _ _ h=>h) (.inl ⟨by rfl,?_⟩) ‹_› ?_;rotate_left;(intro w hSw;(try dsimp only at hSw);go_simp;try with_reducible rfl);try simp only[Act.put,zzA,zzB,zzC,zzD,zzE,zzF];refine zzT 14 4 ?_ rfl (by kernel_rfl) (fun _ _ _ h=>h) (.inl ⟨by rfl,?_⟩) ‹_› ?_;rotate_left;(intro w hSw;(try dsimp only at hSw);go_simp;try with_reducible rfl);try simp only[Act.put,zzA,zzB,zzC,zzD,zzE,zzF];refine zzT 13 5 ?_ rfl (by kernel_rfl) (fun _ _ _ h=>h) (.inl ⟨by rfl,?_⟩) ‹_› ?_;rotate_left;(intro w hSw;(try dsimp only at hSw);go_simp;try with_reducible rfl);try simp only[Act.put,zzA,zzB,zzC,zzD,zzE,zzF];refine zzT 12 7 ?_ rfl (by kernel_rfl) (fun _ _ _ h=>h) (.inl ⟨by rfl,?_⟩) ‹_› ?_;rotate_left;(intro w hSw;(try dsimp only at hSw);go_simp;try with_reducible rfl);try simp only[Act.put,zzA,zzB,zzC,zzD,zzE,zzF];refine zzT 11 8 ?_ rfl (by kernel_rfl) (fun _ _ _ h=>h) (.inl ⟨by rfl,?_⟩) ‹_› ?_;rotate_left;(intro w hSw;(try dsimp only at hSw);go_simp;try with_reducible rfl);try simp only[Act.put,zzA,zzB,zzC,zzD,zzE,zzF];refine zzT 10 9 ?_ rfl (by kernel_rfl) (fun _ _ _ h=>h) (.inl ⟨by rfl,?_⟩) ‹_› ?_;rotate_left;(intro w hSw;(try dsimp only at hSw);go_simp;try with_reducible rfl);try simp only[Act.put,zzA,zzB,zzC,zzD,zzE,zzF];refine zzT 9 10 ?_ rfl (by kernel_rfl) (fun _ _ _ h=>h) (.inl ⟨by rfl,?_⟩) ‹_› ?_;rotate_left;(intro w hSw;(try dsimp only at hSw);go_simp;try with_reducible rfl);try simp only[Act.put,zzA,zzB,zzC,zzD,zzE,zzF];refine Go.wpAnyH_ready (fuel:=8) (rs:=[6]) (by kernel_rfl) (by simp) ?_;refine Go.AllReadyH.cons (o:=_) rfl (fun K hK=> ?_) Go.AllReadyH.nil;have HKX:=hid hK;clear hK;go_simp;go_at_call 37;refine(KHO.out _ AE cE hsl4).mono ?_;rintro e w5 ⟨TO,FO,rfl,tab5,hb5⟩;have hb5':Below w4.heap.size w4 w5:=(Below.refl _ _).drew.trans (hb5.mono zzL);have hP5:=blk_below HP4.out hb5' zP4;have ho5:=HO4.out.keep hb5';refine HKX.out.out _ _ ⟨by simpa using blk_cell hP5 0,by simpa using blk_cell hP5 1⟩ (fun hHeld=> ?_);clear HKX
 try simp only[Act.put,zzA,zzB,zzC,zzD,zzE,zzF]
 refine Go.wpAnyH_ready (fuel:=7) (rs:=[11]) (by kernel_rfl) (by simp) ?_;refine Go.AllReadyH.cons (o:=_) rfl (fun K hK=> ?_) Go.AllReadyH.nil;have HKX:=hid hK;clear hK;go_simp;go_at_call 46;refine(KTU.out _ AE cE ho5.sl.2).mono ?_;rintro e w6 ⟨AT,cT,rfl,ownT,hb6⟩;have hP6:=blk_below hP5 hb6 (lt_of_block hP5);have ho6:=ho5.keep hb6;refine HKX.out.out _ _ ⟨by simpa using blk_cell hP6 0,by simpa using blk_cell hP6 1⟩ (fun hHeld=> ?_);clear HKX
 try simp only[Act.put,zzA,zzB,zzC,zzD,zzE,zzF]
 refine Go.wpAnyH_ready (fuel:=6) (rs:=[12]) (by kernel_rfl) (by simp) ?_;refine Go.AllReadyH.cons (o:=_) rfl (fun K hK=> ?_) Go.AllReadyH.nil;have HKX:=hid hK;clear hK;go_simp;go_at_call 37;refine(KHI.out _ AT cT ownT.sl.2).mono ?_;rintro e w7 ⟨TI,FI,rfl,tab7,hb7⟩;have hP7:=blk_below hP6 hb7 (lt_of_block hP6);have zP7:=lt_of_block hP7;have zf2:=blk_free hP7 2;have zf3:=blk_free hP7 3;have zc2:=blk_cell hP7 2;have zc3:=blk_cell hP7 3;simp only[zzG,zzH,zzI] at zc2 zc3;have hP8:=blk_set hP7 3 (.slice (some ⟨TO,0,none⟩) n n);have hP9:=blk_set hP8 2 (.slice (some ⟨TI,0,none⟩) n n);refine HKX.out.out _ _ ⟨by simpa using blk_cell hP7 0,by simpa using blk_cell hP7 1⟩ (fun hHeld=> ?_);clear HKX
 try simp only[Act.put,zzA,zzB,zzC,zzD,zzE,zzF]
 refine zzT 5 13 ?_ rfl (by kernel_rfl) (fun _ _ _ h=>h) (.inl ⟨by rfl,?_⟩) ‹_› ?_;rotate_left;(intro w hSw;(try dsimp only at hSw);go_simp;try with_reducible rfl);try simp only[Act.put,zzA,zzB,zzC,zzD,zzE,zzF];refine zzT 4 14 ?_ rfl (by kernel_rfl) (fun _ _ _ h=>h) (.inl ⟨by rfl,?_⟩) ‹_› ?_;rotate_left;(intro w hSw;(try dsimp only at hSw);go_simp;try with_reducible rfl);try simp only[Act.put,zzA,zzB,zzC,zzD,zzE,zzF];refine Go.wpAnyH_ready (fuel:=3) (rs:=[15]) (by kernel_rfl) (by simp) ?_;refine Go.AllReadyH.cons (o:=_) rfl (fun K hK=> ?_) Go.AllReadyH.nil;have HKX:=hid hK;clear hK;go_simp;refine HKX.out.out _ _ ⟨by simpa using blk_cell hP8 0,by simpa using blk_cell hP8 1⟩ (fun hHeld=> ?_);clear HKX
 try simp only[Act.put,zzA,zzB,zzC,zzD,zzE,zzF]
 refine zzT 2 16 ?_ rfl (by kernel_rfl) (fun _ _ _ h=>h) (.inl ⟨by rfl,?_⟩) ‹_› ?_;rotate_left;(intro w hSw;(try dsimp only at hSw);go_simp;try with_reducible rfl);try simp only[Act.put,zzA,zzB,zzC,zzD,zzE,zzF];refine zzT 1 17 ?_ rfl (by kernel_rfl) (fun _ _ _ h=>h) (.inl ⟨by rfl,?_⟩) ‹_› ?_;rotate_left;(intro w hSw;(try dsimp only at hSw);go_simp;try with_reducible rfl);try simp only[Act.put,zzA,zzB,zzC,zzD,zzE,zzF];refine Go.wpAnyH_ready (fuel:=0) (rs:=[18]) (by kernel_rfl) (by simp) ?_;refine Go.AllReadyH.cons (o:=_) rfl (fun K hK=> ?_) Go.AllReadyH.nil;have HKX:=hid hK;clear hK;go_simp;refine HKX.out.out _ _ ⟨by simpa using blk_cell hP9 0,by simpa using blk_cell hP9 1⟩ (fun hHeld=> ?_);clear HKX
 try simp only[Act.put,zzA,zzB,zzC,zzD,zzE,zzF]
 refine Go.wpAnyH_done (by kernel_rfl) ?_ _;have hP10:((w7.setCell ⟨P,3,none⟩ (.slice (some ⟨TO,0,none⟩) n n)).setCell ⟨P,2,none⟩ (.slice (some ⟨TI,0,none⟩) n n)).heap[P]?=some (.cells #[.int .i64 n,.slice AE l.length cE,.slice (some ⟨TI,0,none⟩) n n,.slice (some ⟨TO,0,none⟩) n n,.int .i64 s,.int .i64 t,.slice none 0 0,.slice none 0 0,.pointer (some ⟨H,0,none⟩),.int .i64 0] 106 (0,0)):=hP9;have hz45:w.heap.size<=w4.drew.heap.size:=H4.size;have hb57:Below w4.heap.size w4 w7:=hb5'.trans ((hb6.mono hb5'.size).trans (hb7.mono (Nat.le_trans hb5'.size hb6.size)));have tO:=tab_P ((tab5.keep hb6).keep hb7) hP7 3 (.slice (some ⟨TO,0,none⟩) n n);have tO2:=tab_mono (tab_P tO hP8 2 (.slice (some ⟨TI,0,none⟩) n n)) hz45;have tI:=tab_P tab7 hP7 3 (.slice (some ⟨TO,0,none⟩) n n);have tI2:=tab_mono (tab_P tI hP8 2 (.slice (some ⟨TI,0,none⟩) n n)) (show w.heap.size<=w6.heap.size by have:=hb5'.size;have:=hb6.size;have:w4.drew.heap.size=w4.heap.size:=rfl;omega);rw[tl_len] at tI2;have ho7:=(ho6.keep hb7);have ho8:=(ho7.setCell (p:=⟨P,3,none⟩) (ho7.ne_ hP7 (by decide)) (.slice (some ⟨TO,0,none⟩) n n));have ho9:=ho8.setCell (p:=⟨P,2,none⟩) (ho8.ne_ hP8 (by decide)) (.slice (some ⟨TI,0,none⟩) n n);have hh7:=HH4.out.keep hb57;have hh8:=heap_far hh7 (p:=⟨P,3,none⟩) hP7 (by decide) (by decide) (.slice (some ⟨TO,0,none⟩) n n);have hh9:=heap_far hh8 (p:=⟨P,2,none⟩) hP8 (by decide) (by decide) (.slice (some ⟨TI,0,none⟩) n n);have hx7:=blk_below HX4.out hb57 zB4;have hx9:=blk_far (blk_far hx7 (p:=⟨P,3,none⟩) (blk_ne hx7 hP7 (by decide)) (.slice (some ⟨TO,0,none⟩) n n)) (p:=⟨P,2,none⟩) (blk_ne hx7 hP7 (by decide)) (.slice (some ⟨TI,0,none⟩) n n);have H9:=((H4.trans (hb57.mono H4.size)).setCell (p:=⟨P,3,none⟩) hPw (.slice (some ⟨TO,0,none⟩) n n)).setCell (p:=⟨P,2,none⟩) hPw (.slice (some ⟨TI,0,none⟩) n n);clear hP9 hP8 hP7 hP6 hP5 ho5 ho6 ho7 ho8 hh7 hh8 tab5 tab7 tO tI ownT hb5 hb5' hb6 hb7 hb57 hz45 zf2 zf3 zc2 zc3 zP7 hx7 HX4 HO4 HH4 HP4 hsl4 z0 z1 hs0 zP4 zB4 KHO KHI KTU;generalize (w7.setCell ⟨P,3,none⟩ (.slice (some ⟨TO,0,none⟩) n n)).setCell ⟨P,2,none⟩ (.slice (some ⟨TI,0,none⟩) n n)=w8 at hP10 tO2 tI2 ho9 hh9 hx9 H9 ⊢;have nw0:NW w w8 w8 n s t P l.length AE cE TI TO H (.slice none 0 0) (.slice none 0 0) none 0 0 none 0 0:=⟨hP10,Own.nil_,Own.nil_,fun g h=>(nomatch h),Kp.refl _ _ _,H9,hPw,H9.size⟩;have q0:=blk_cell hx9 0;simp only[zzG,zzH,zzI] at q0;have zq:=lt_of_block hx9;have NW0:=hid nw0;have HZ8:=hid hP10;have TO8:=hid tO2;have TI8:=hid tI2;have HO8:=hid ho9;have HH8:=hid hh9;clear hP10 tO2 tI2 ho9 hh9 hx9 nw0;go_wp2;clear q0 zq
 go_loopw [44] (fun i W=>∃(k:Nat) (A1:Option Addr) (c1:Nat) (A2:Option Addr) (c2:Nat),k<=n/\i= .int .i64 k/\Hid (NW w w8 W n s t P l.length AE cE TI TO H (.slice A1 k c1) (.slice A2 k c2) A1 k c1 A2 k c2)) (fun i _=>n - (intOf i).toNat)
 case atStart=>exact⟨0,none,0,none,0,Nat.zero_le _,rfl,NW0⟩
 case round =>
  clear NW0;obtain⟨k,A1,c1,A2,c2,hk,rfl,HN⟩:=hrel
  by_cases hlt:k<n
  ·have zk:(k:Int)<(n:Int):=by omega
   have nwa:=HN.out.keep (Below.refl _ _).drew;have hs0:=nwa.cells.1;have HNA:=hid nwa;clear nwa;go_upto_region 8 with fail;refine SinkN.start 16 [1] (fun w'=>w'.cell? ⟨P,6,none⟩=some (.slice A1 k c1)/\w'.cell? ⟨P,7,none⟩=some (.slice A2 k c2)) (by kernel_rfl) ?_;refine SinkN.AnyN.takeFree (fuel:=19) (i:=1) (oi:=_) (v:= ?_) rfl (by kernel_rfl) (fun _ _ _ h=>h) (.inl ⟨by rfl,?_⟩) ?_;rotate_left
   ·(intro w hSw;go_simp)
    try with_reducible rfl
   try simp only[Act.put,zzA,zzB,zzC,zzD,zzE,zzF]
   refine SinkN.AnyN.take (fuel:=18) (i:=0) (oi:=_) (v:= ?_) rfl (by kernel_rfl) (fun _ _ _ h=>h) (.inl ⟨by rfl,?_⟩) ‹_› ?_;rotate_left;(intro w hSw;(try dsimp only at hSw);go_simp;try with_reducible rfl);try simp only[Act.put,zzA,zzB,zzC,zzD,zzE,zzF];refine SinkN.AnyN.take (fuel:=17) (i:=2) (oi:=_) (v:= ?_) rfl (by kernel_rfl) (fun _ _ _ h=>h) (.inl ⟨by rfl,?_⟩) ‹_› ?_;rotate_left;(intro w hSw;(try dsimp only at hSw);go_simp;try with_reducible rfl);try simp only[Act.put,zzA,zzB,zzC,zzD,zzE,zzF];refine SinkN.AnyN.take (fuel:=16) (i:=3) (oi:=_) (v:= ?_) rfl (by kernel_rfl) (fun _ _ _ h=>h) (.inl ⟨by rfl,?_⟩) ‹_› ?_;rotate_left;(intro w hSw;(try dsimp only at hSw);go_simp;try with_reducible rfl);try simp only[Act.put,zzA,zzB,zzC,zzD,zzE,zzF];refine SinkN.AnyN.take (fuel:=15) (i:=4) (oi:=_) (v:= ?_) rfl (by kernel_rfl) (fun _ _ _ h=>h) (.inl ⟨by rfl,?_⟩) ‹_› ?_;rotate_left;(intro w hSw;(try dsimp only at hSw);go_simp;try with_reducible rfl);try simp only[Act.put,zzA,zzB,zzC,zzD,zzE,zzF];refine SinkN.AnyN.take (fuel:=14) (i:=5) (oi:=_) (v:= ?_) rfl (by kernel_rfl) (fun _ _ _ h=>h) (.inl ⟨by rfl,?_⟩) ‹_› ?_;rotate_left;(intro w hSw;(try dsimp only at hSw);go_simp;try with_reducible rfl);try simp only[Act.put,zzA,zzB,zzC,zzD,zzE,zzF];refine SinkN.AnyN.take (fuel:=13) (i:=8) (oi:=_) (v:= ?_) rfl (by kernel_rfl) (fun _ _ _ h=>h) (.inl ⟨by rfl,?_⟩) ‹_› ?_;rotate_left;(intro w hSw;(try dsimp only at hSw);go_simp;try with_reducible rfl);try simp only[Act.put,zzA,zzB,zzC,zzD,zzE,zzF];refine SinkN.AnyN.take (fuel:=12) (i:=9) (oi:=_) (v:= ?_) rfl (by kernel_rfl) (fun _ _ _ h=>h) (.inl ⟨by rfl,?_⟩) ‹_› ?_;rotate_left;(intro w hSw;(try dsimp only at hSw);go_simp;try with_reducible rfl);try simp only[Act.put,zzA,zzB,zzC,zzD,zzE,zzF];refine SinkN.AnyN.take (fuel:=11) (i:=10) (oi:=_) (v:= ?_) rfl (by kernel_rfl) (fun _ _ _ h=>h) (.inl ⟨by rfl,?_⟩) ‹_› ?_;rotate_left;(intro w hSw;(try dsimp only at hSw);go_simp;try with_reducible rfl);try simp only[Act.put,zzA,zzB,zzC,zzD,zzE,zzF];refine SinkN.AnyN.take (fuel:=10) (i:=11) (oi:=_) (v:= ?_) rfl (by kernel_rfl) (fun _ _ _ h=>h) (.inl ⟨by rfl,?_⟩) ‹_› ?_;rotate_left;(intro w hSw;(try dsimp only at hSw);go_simp;try with_reducible rfl);try simp only[Act.put,zzA,zzB,zzC,zzD,zzE,zzF];have nw_a:=HNA.out;generalize wr.drew=W_a at nw_a ⊢;clear HNA hs0;have hS_a:=nw_a.cells.1;refine SinkN.AnyN.ready_ (fuel:=9) (rs:=[6,12]) (by kernel_rfl) (by simp) ?_;refine SinkN.AllN.cons (o:=_) rfl (fun K hK=> ?_) (SinkN.AllN.cons (o:=_) rfl (fun K hK=> ?_) (SinkN.AllN.nil))
   ·have HKX:=hid hK
    clear hK;go_simp;have nw_a6:=nw_a.keep ((Below.refl _ _).alloc zzL (.cells #[.int .i64 1099511627776] 3));have hb_a6:=heap_alloc_new W_a (.cells #[.int .i64 1099511627776] 3);have hn1_a6:(Value.slice A1 k c1).ownBlock≠some W_a.heap.size:=fun e=>Nat.lt_irrefl _ (nw_a.o1.base_ _ e).2;generalize W_a.alloc (.cells #[.int .i64 1099511627776] 3)=W_a6 at nw_a6 hb_a6 ⊢;generalize W_a.heap.size=g_a6 at hb_a6 hn1_a6 ⊢;refine HKX.out.out _ _ (.inr nw_a6.cells.1) ?_;clear HKX
    try simp only[Act.put,zzA,zzB,zzC,zzD,zzE,zzF]
    have hS_a6:=nw_a6.cells.1;refine SinkN.AnyN.ready_ (fuel:=8) (rs:=[7,12]) (by kernel_rfl) (by simp) ?_;refine SinkN.AllN.cons (o:=_) rfl (fun K hK=> ?_) (SinkN.AllN.cons (o:=_) rfl (fun K hK=> ?_) (SinkN.AllN.nil))
    ·have HKX:=hid hK
     clear hK;refine step_push _ rfl (.tmp 51) (.tmp 52) _ rfl w8.heap.size 3 i0 _ 1 8 ci Tryz.underlying25 hi hz0i hz1i hz2i rfl (by decide) _ (List.replicate k far) k (by simp) rfl nw_a6.o1 g_a6 1 far rfl (fun j hj=>by (obtain rfl:j=0:=by omega);exact blk_cell hb_a6 0) (fun _ _=>one_ci _ _) (by omega) (by omega) nw_a6.kp.size ?_;intro A3 c3 W_a67 hown hgrow hat;have nw_a67:=nw_a6.push1 hgrow hown hat;clear hgrow hown hat;refine HKX.out.out _ _ (.inr nw_a67.cells.1) ?_;clear HKX
     try simp only[Act.put,zzA,zzB,zzC,zzD,zzE,zzF]
     have hS_a67:=nw_a67.cells.1;refine SinkN.AnyN.ready_ (fuel:=7) (rs:=[12]) (by kernel_rfl) (by simp) ?_;refine SinkN.AllN.cons (o:=_) rfl (fun K hK=> ?_) (SinkN.AllN.nil)
     ·have HKX:=hid hK
      clear hK;go_simp;have nw_a6712:=nw_a67.keep ((Below.refl _ _).alloc zzL (.cells #[.int .i64 1099511627776] 3));have hb_a6712:=heap_alloc_new W_a67 (.cells #[.int .i64 1099511627776] 3);have hb_a6_a6712:=blk_alloc hb_a6 (.cells #[.int .i64 1099511627776] 3);generalize W_a67.alloc (.cells #[.int .i64 1099511627776] 3)=W_a6712 at nw_a6712 hb_a6712 hb_a6_a6712 ⊢;generalize W_a67.heap.size=g_a6712 at hb_a6712 ⊢;refine HKX.out.out _ _ (.inr nw_a6712.cells.1) ?_;clear HKX
      try simp only[Act.put,zzA,zzB,zzC,zzD,zzE,zzF]
      have hS_a6712:=nw_a6712.cells.1;refine SinkN.AnyN.ready_ (fuel:=6) (rs:=[13]) (by kernel_rfl) (by simp) ?_;refine SinkN.AllN.cons (o:=_) rfl (fun K hK=> ?_) (SinkN.AllN.nil)
      ·have HKX:=hid hK
       clear hK;refine step_push _ rfl (.tmp 57) (.tmp 58) _ rfl w8.heap.size 3 i0 _ 1 8 ci Tryz.underlying25 hi hz0i hz1i hz2i rfl (by decide) _ (List.replicate k far) k (by simp) rfl nw_a6712.o2 g_a6712 1 far rfl (fun j hj=>by (obtain rfl:j=0:=by omega);exact blk_cell hb_a6712 0) (fun _ _=>one_ci _ _) (by omega) (by omega) nw_a6712.kp.size ?_;intro A4 c4 W_a671213 hown hgrow hat;have nw_a671213:=nw_a6712.push2 hgrow hown hat;clear hgrow hown hat;refine HKX.out.out _ _ (.inr nw_a671213.cells.1) ?_;clear HKX
       try simp only[Act.put,zzA,zzB,zzC,zzD,zzE,zzF]
       have hS_a671213:=nw_a671213.cells.1;refine SinkN.AnyN.take (fuel:=5) (i:=14) (oi:=_) (v:= ?_) rfl (by kernel_rfl) (fun _ _ _ h=>h) (.inl ⟨by rfl,?_⟩) ‹_› ?_;rotate_left;(intro w hSw;(try dsimp only at hSw);go_simp;try with_reducible rfl);try simp only[Act.put,zzA,zzB,zzC,zzD,zzE,zzF];refine SinkN.AnyN.take (fuel:=4) (i:=15) (oi:=_) (v:= ?_) rfl (by kernel_rfl) (fun _ _ _ h=>h) (.inl ⟨by rfl,?_⟩) ‹_› ?_;rotate_left;(intro w hSw;(try dsimp only at hSw);go_simp;try with_reducible rfl);try simp only[Act.put,zzA,zzB,zzC,zzD,zzE,zzF];obtain⟨⟨hc6,hc7⟩,hf6,hf7,hPz⟩:=nw_a671213.cells;refine SinkN.AnyN.ready_ (fuel:=3) (rs:=[16]) (by kernel_rfl) (by simp) ?_;refine SinkN.AllN.cons (o:=_) rfl (fun K hK=> ?_) SinkN.AllN.nil;have HKX:=hid hK;clear hK;go_simp;refine HKX.out.out _ _ (.inl (by decide)) ?_;clear HKX
       try simp only[Act.put,zzA,zzB,zzC,zzD,zzE,zzF]
       have nw_s:=nw_a671213.set1 (.slice A3 (k+1) c3);obtain⟨⟨_,hc7s⟩,_,hf7s,hPzs⟩:=nw_s.cells;refine SinkN.AnyN.ready_ (fuel:=2) (rs:=[17]) (by kernel_rfl) (by simp) ?_;refine SinkN.AllN.cons (o:=_) rfl (fun K hK=> ?_) SinkN.AllN.nil;have HKX:=hid hK;clear hK;go_simp;refine HKX.out.out _ _ (.inl (by decide)) ?_;clear HKX
       try simp only[Act.put,zzA,zzB,zzC,zzD,zzE,zzF]
       refine SinkN.AnyN.ready_ (fuel:=1) (rs:=[18]) (by kernel_rfl) (by simp) ?_;refine SinkN.AllN.cons (o:=_) rfl (fun K hK=> ?_) SinkN.AllN.nil;have HKX:=hid hK;clear hK;go_simp;refine HKX.out.out _ _ (.inl (by decide)) ?_;clear HKX
       try simp only[Act.put,zzA,zzB,zzC,zzD,zzE,zzF]
       refine SinkN.AnyN.ready_ (fuel:=0) (rs:=[19]) (by kernel_rfl) (by simp) ?_;refine SinkN.AllN.cons (o:=_) rfl (fun K hK=> ?_) SinkN.AllN.nil;have HKX:=hid hK;clear hK;go_simp;refine HKX.out.out _ _ (.inl (by decide)) ?_;clear HKX
       try simp only[Act.put,zzA,zzB,zzC,zzD,zzE,zzF]
       have nw_f:=nw_s.set2 (.slice A4 (k+1) c4);have HNF:=hid nw_f;clear nw_f nw_s nw_a671213 hc6 hc7 hf6 hf7 hPz hc7s hf7s hPzs hS_a671213;refine SinkN.AnyN.done (by kernel_rfl) ?_;go_wp2
       go_roundw
       case rel=>exact⟨k+1,A3,c3,A4,c4,by omega,by go_num,HNF⟩
       case measure=>simp[intOf];omega
    ·have HKX:=hid hK
     clear hK;go_simp;have nw_a612:=nw_a6.keep ((Below.refl _ _).alloc zzL (.cells #[.int .i64 1099511627776] 3));have hb_a612:=heap_alloc_new W_a6 (.cells #[.int .i64 1099511627776] 3);have hb_a6_a612:=blk_alloc hb_a6 (.cells #[.int .i64 1099511627776] 3);have hn1_a612:(Value.slice A1 k c1).ownBlock≠some W_a6.heap.size:=fun e=>Nat.lt_irrefl _ (nw_a6.o1.base_ _ e).2;generalize W_a6.alloc (.cells #[.int .i64 1099511627776] 3)=W_a612 at nw_a612 hb_a612 hb_a6_a612 ⊢;generalize W_a6.heap.size=g_a612 at hb_a612 hn1_a612 ⊢;refine HKX.out.out _ _ (.inr nw_a612.cells.1) ?_;clear HKX
     try simp only[Act.put,zzA,zzB,zzC,zzD,zzE,zzF]
     have hS_a612:=nw_a612.cells.1;refine SinkN.AnyN.ready_ (fuel:=7) (rs:=[7]) (by kernel_rfl) (by simp) ?_;refine SinkN.AllN.cons (o:=_) rfl (fun K hK=> ?_) (SinkN.AllN.nil)
     ·have HKX:=hid hK
      clear hK;refine step_push _ rfl (.tmp 51) (.tmp 52) _ rfl w8.heap.size 3 i0 _ 1 8 ci Tryz.underlying25 hi hz0i hz1i hz2i rfl (by decide) _ (List.replicate k far) k (by simp) rfl nw_a612.o1 g_a6 1 far rfl (fun j hj=>by (obtain rfl:j=0:=by omega);exact blk_cell hb_a6_a612 0) (fun _ _=>one_ci _ _) (by omega) (by omega) nw_a612.kp.size ?_;intro A3 c3 W_a6127 hown hgrow hat;have nw_a6127:=nw_a612.push1 hgrow hown hat;have hb_a612_a6127:=blk_grown hb_a612 hgrow hn1_a612;clear hgrow hown hat;refine HKX.out.out _ _ (.inr nw_a6127.cells.1) ?_;clear HKX
      try simp only[Act.put,zzA,zzB,zzC,zzD,zzE,zzF]
      have hS_a6127:=nw_a6127.cells.1;refine SinkN.AnyN.ready_ (fuel:=6) (rs:=[13]) (by kernel_rfl) (by simp) ?_;refine SinkN.AllN.cons (o:=_) rfl (fun K hK=> ?_) (SinkN.AllN.nil)
      ·have HKX:=hid hK
       clear hK;refine step_push _ rfl (.tmp 57) (.tmp 58) _ rfl w8.heap.size 3 i0 _ 1 8 ci Tryz.underlying25 hi hz0i hz1i hz2i rfl (by decide) _ (List.replicate k far) k (by simp) rfl nw_a6127.o2 g_a612 1 far rfl (fun j hj=>by (obtain rfl:j=0:=by omega);exact blk_cell hb_a612_a6127 0) (fun _ _=>one_ci _ _) (by omega) (by omega) nw_a6127.kp.size ?_;intro A4 c4 W_a612713 hown hgrow hat;have nw_a612713:=nw_a6127.push2 hgrow hown hat;clear hgrow hown hat;refine HKX.out.out _ _ (.inr nw_a612713.cells.1) ?_;clear HKX
       try simp only[Act.put,zzA,zzB,zzC,zzD,zzE,zzF]
       have hS_a612713:=nw_a612713.cells.1;refine SinkN.AnyN.take (fuel:=5) (i:=14) (oi:=_) (v:= ?_) rfl (by kernel_rfl) (fun _ _ _ h=>h) (.inl ⟨by rfl,?_⟩) ‹_› ?_;rotate_left;(intro w hSw;(try dsimp only at hSw);go_simp;try with_reducible rfl);try simp only[Act.put,zzA,zzB,zzC,zzD,zzE,zzF];refine SinkN.AnyN.take (fuel:=4) (i:=15) (oi:=_) (v:= ?_) rfl (by kernel_rfl) (fun _ _ _ h=>h) (.inl ⟨by rfl,?_⟩) ‹_› ?_;rotate_left;(intro w hSw;(try dsimp only at hSw);go_simp;try with_reducible rfl);try simp only[Act.put,zzA,zzB,zzC,zzD,zzE,zzF];obtain⟨⟨hc6,hc7⟩,hf6,hf7,hPz⟩:=nw_a612713.cells;refine SinkN.AnyN.ready_ (fuel:=3) (rs:=[16]) (by kernel_rfl) (by simp) ?_;refine SinkN.AllN.cons (o:=_) rfl (fun K hK=> ?_) SinkN.AllN.nil;have HKX:=hid hK;clear hK;go_simp;refine HKX.out.out _ _ (.inl (by decide)) ?_;clear HKX
       try simp only[Act.put,zzA,zzB,zzC,zzD,zzE,zzF]
       have nw_s:=nw_a612713.set1 (.slice A3 (k+1) c3);obtain⟨⟨_,hc7s⟩,_,hf7s,hPzs⟩:=nw_s.cells;refine SinkN.AnyN.ready_ (fuel:=2) (rs:=[17]) (by kernel_rfl) (by simp) ?_;refine SinkN.AllN.cons (o:=_) rfl (fun K hK=> ?_) SinkN.AllN.nil;have HKX:=hid hK;clear hK;go_simp;refine HKX.out.out _ _ (.inl (by decide)) ?_;clear HKX
       try simp only[Act.put,zzA,zzB,zzC,zzD,zzE,zzF]
       refine SinkN.AnyN.ready_ (fuel:=1) (rs:=[18]) (by kernel_rfl) (by simp) ?_;refine SinkN.AllN.cons (o:=_) rfl (fun K hK=> ?_) SinkN.AllN.nil;have HKX:=hid hK;clear hK;go_simp;refine HKX.out.out _ _ (.inl (by decide)) ?_;clear HKX
       try simp only[Act.put,zzA,zzB,zzC,zzD,zzE,zzF]
       refine SinkN.AnyN.ready_ (fuel:=0) (rs:=[19]) (by kernel_rfl) (by simp) ?_;refine SinkN.AllN.cons (o:=_) rfl (fun K hK=> ?_) SinkN.AllN.nil;have HKX:=hid hK;clear hK;go_simp;refine HKX.out.out _ _ (.inl (by decide)) ?_;clear HKX
       try simp only[Act.put,zzA,zzB,zzC,zzD,zzE,zzF]
       have nw_f:=nw_s.set2 (.slice A4 (k+1) c4);have HNF:=hid nw_f;clear nw_f nw_s nw_a612713 hc6 hc7 hf6 hf7 hPz hc7s hf7s hPzs hS_a612713;refine SinkN.AnyN.done (by kernel_rfl) ?_;go_wp2
       go_roundw
       case rel=>exact⟨k+1,A3,c3,A4,c4,by omega,by go_num,HNF⟩
       case measure=>simp[intOf];omega
   ·have HKX:=hid hK
    clear hK;go_simp;have nw_a12:=nw_a.keep ((Below.refl _ _).alloc zzL (.cells #[.int .i64 1099511627776] 3));have hb_a12:=heap_alloc_new W_a (.cells #[.int .i64 1099511627776] 3);have hn1_a12:(Value.slice A1 k c1).ownBlock≠some W_a.heap.size:=fun e=>Nat.lt_irrefl _ (nw_a.o1.base_ _ e).2;generalize W_a.alloc (.cells #[.int .i64 1099511627776] 3)=W_a12 at nw_a12 hb_a12 ⊢;generalize W_a.heap.size=g_a12 at hb_a12 hn1_a12 ⊢;refine HKX.out.out _ _ (.inr nw_a12.cells.1) ?_;clear HKX
    try simp only[Act.put,zzA,zzB,zzC,zzD,zzE,zzF]
    have hS_a12:=nw_a12.cells.1;refine SinkN.AnyN.ready_ (fuel:=8) (rs:=[6]) (by kernel_rfl) (by simp) ?_;refine SinkN.AllN.cons (o:=_) rfl (fun K hK=> ?_) (SinkN.AllN.nil)
    ·have HKX:=hid hK
     clear hK;go_simp;have nw_a126:=nw_a12.keep ((Below.refl _ _).alloc zzL (.cells #[.int .i64 1099511627776] 3));have hb_a126:=heap_alloc_new W_a12 (.cells #[.int .i64 1099511627776] 3);have hb_a12_a126:=blk_alloc hb_a12 (.cells #[.int .i64 1099511627776] 3);have hn1_a126:(Value.slice A1 k c1).ownBlock≠some W_a12.heap.size:=fun e=>Nat.lt_irrefl _ (nw_a12.o1.base_ _ e).2;generalize W_a12.alloc (.cells #[.int .i64 1099511627776] 3)=W_a126 at nw_a126 hb_a126 hb_a12_a126 ⊢;generalize W_a12.heap.size=g_a126 at hb_a126 hn1_a126 ⊢;refine HKX.out.out _ _ (.inr nw_a126.cells.1) ?_;clear HKX
     try simp only[Act.put,zzA,zzB,zzC,zzD,zzE,zzF]
     have hS_a126:=nw_a126.cells.1;refine SinkN.AnyN.ready_ (fuel:=7) (rs:=[7]) (by kernel_rfl) (by simp) ?_;refine SinkN.AllN.cons (o:=_) rfl (fun K hK=> ?_) (SinkN.AllN.nil)
     ·have HKX:=hid hK
      clear hK;refine step_push _ rfl (.tmp 51) (.tmp 52) _ rfl w8.heap.size 3 i0 _ 1 8 ci Tryz.underlying25 hi hz0i hz1i hz2i rfl (by decide) _ (List.replicate k far) k (by simp) rfl nw_a126.o1 g_a126 1 far rfl (fun j hj=>by (obtain rfl:j=0:=by omega);exact blk_cell hb_a126 0) (fun _ _=>one_ci _ _) (by omega) (by omega) nw_a126.kp.size ?_;intro A3 c3 W_a1267 hown hgrow hat;have nw_a1267:=nw_a126.push1 hgrow hown hat;have hb_a12_a126_a1267:=blk_grown hb_a12_a126 hgrow hn1_a12;clear hgrow hown hat;refine HKX.out.out _ _ (.inr nw_a1267.cells.1) ?_;clear HKX
      try simp only[Act.put,zzA,zzB,zzC,zzD,zzE,zzF]
      have hS_a1267:=nw_a1267.cells.1;refine SinkN.AnyN.ready_ (fuel:=6) (rs:=[13]) (by kernel_rfl) (by simp) ?_;refine SinkN.AllN.cons (o:=_) rfl (fun K hK=> ?_) (SinkN.AllN.nil)
      ·have HKX:=hid hK
       clear hK;refine step_push _ rfl (.tmp 57) (.tmp 58) _ rfl w8.heap.size 3 i0 _ 1 8 ci Tryz.underlying25 hi hz0i hz1i hz2i rfl (by decide) _ (List.replicate k far) k (by simp) rfl nw_a1267.o2 g_a12 1 far rfl (fun j hj=>by (obtain rfl:j=0:=by omega);exact blk_cell hb_a12_a126_a1267 0) (fun _ _=>one_ci _ _) (by omega) (by omega) nw_a1267.kp.size ?_;intro A4 c4 W_a126713 hown hgrow hat;have nw_a126713:=nw_a1267.push2 hgrow hown hat;clear hgrow hown hat;refine HKX.out.out _ _ (.inr nw_a126713.cells.1) ?_;clear HKX
       try simp only[Act.put,zzA,zzB,zzC,zzD,zzE,zzF]
       have hS_a126713:=nw_a126713.cells.1;refine SinkN.AnyN.take (fuel:=5) (i:=14) (oi:=_) (v:= ?_) rfl (by kernel_rfl) (fun _ _ _ h=>h) (.inl ⟨by rfl,?_⟩) ‹_› ?_;rotate_left;(intro w hSw;(try dsimp only at hSw);go_simp;try with_reducible rfl);try simp only[Act.put,zzA,zzB,zzC,zzD,zzE,zzF];refine SinkN.AnyN.take (fuel:=4) (i:=15) (oi:=_) (v:= ?_) rfl (by kernel_rfl) (fun _ _ _ h=>h) (.inl ⟨by rfl,?_⟩) ‹_› ?_;rotate_left;(intro w hSw;(try dsimp only at hSw);go_simp;try with_reducible rfl);try simp only[Act.put,zzA,zzB,zzC,zzD,zzE,zzF];obtain⟨⟨hc6,hc7⟩,hf6,hf7,hPz⟩:=nw_a126713.cells;refine SinkN.AnyN.ready_ (fuel:=3) (rs:=[16]) (by kernel_rfl) (by simp) ?_;refine SinkN.AllN.cons (o:=_) rfl (fun K hK=> ?_) SinkN.AllN.nil;have HKX:=hid hK;clear hK;go_simp;refine HKX.out.out _ _ (.inl (by decide)) ?_;clear HKX
       try simp only[Act.put,zzA,zzB,zzC,zzD,zzE,zzF]
       have nw_s:=nw_a126713.set1 (.slice A3 (k+1) c3);obtain⟨⟨_,hc7s⟩,_,hf7s,hPzs⟩:=nw_s.cells;refine SinkN.AnyN.ready_ (fuel:=2) (rs:=[17]) (by kernel_rfl) (by simp) ?_;refine SinkN.AllN.cons (o:=_) rfl (fun K hK=> ?_) SinkN.AllN.nil;have HKX:=hid hK;clear hK;go_simp;refine HKX.out.out _ _ (.inl (by decide)) ?_;clear HKX
       try simp only[Act.put,zzA,zzB,zzC,zzD,zzE,zzF]
       refine SinkN.AnyN.ready_ (fuel:=1) (rs:=[18]) (by kernel_rfl) (by simp) ?_;refine SinkN.AllN.cons (o:=_) rfl (fun K hK=> ?_) SinkN.AllN.nil;have HKX:=hid hK;clear hK;go_simp;refine HKX.out.out _ _ (.inl (by decide)) ?_;clear HKX
       try simp only[Act.put,zzA,zzB,zzC,zzD,zzE,zzF]
       refine SinkN.AnyN.ready_ (fuel:=0) (rs:=[19]) (by kernel_rfl) (by simp) ?_;refine SinkN.AllN.cons (o:=_) rfl (fun K hK=> ?_) SinkN.AllN.nil;have HKX:=hid hK;clear hK;go_simp;refine HKX.out.out _ _ (.inl (by decide)) ?_;clear HKX
       try simp only[Act.put,zzA,zzB,zzC,zzD,zzE,zzF]
       have nw_f:=nw_s.set2 (.slice A4 (k+1) c4);have HNF:=hid nw_f;clear nw_f nw_s nw_a126713 hc6 hc7 hf6 hf7 hPz hc7s hf7s hPzs hS_a126713;refine SinkN.AnyN.done (by kernel_rfl) ?_;go_wp2
       go_roundw
       case rel=>exact⟨k+1,A3,c3,A4,c4,by omega,by go_num,HNF⟩
       case measure=>simp[intOf];omega
  ·have hkn:n=k:=by omega
   subst hkn;have hnw:=HN.out;obtain⟨SC,cC,e1,hSC0,hSC1,_,_⟩:=hnw.o1.some_ (by rw[List.length_replicate];omega);obtain⟨SL,cL,e2,hSL0,hSL1,_,_⟩:=hnw.o2.some_ (by rw[List.length_replicate];omega);injection e1 with e1a e1b e1c;injection e2 with e2a e2b e2c;subst e1a e1c e2a e2c;clear e1b e2b;have hz8:=hnw.ps;have hrowI:∀v,v<n->∀g,(Value.slice (FI v).1 0 0).ownBlock=some g->g<w8.heap.size:=fun v hv g hg=>((TI8.out.own v hv).base_ g ((obs ..).trans hg)).2;have hrowO:∀v,v<n->∀g,(Value.slice (FO v).1 0 0).ownBlock=some g->g<w8.heap.size:=fun v hv g hg=>((TO8.out.own v hv).base_ g ((obs ..).trans hg)).2
   have hm:LM w wr n s t P l.length AE cE TI TO FI FO SC c1 SL c2 H l (List.replicate n far) (List.replicate n far) none 0 0 [] 0 :=
    ⟨hnw.z,hnw.pl,own_P hnw.kp HZ8.out HO8.out (by decide),hnw.o1.mono hz8,hnw.o2.mono hz8,tab_kP hnw.kp HZ8.out TI8.out,tab_kP hnw.kp HZ8.out TO8.out,heap_kP hnw.kp HZ8.out HH8.out,HeapLaw.Hp.nil,fun e=>hnw.sep SC rfl (by rw[e];rfl),
      fun v hv=>⟨fun e=>by have:=hrowI v hv _ e;omega,fun e=>by have:=hrowI v hv _ e;omega⟩,fun v hv=>⟨fun e=>by have:=hrowO v hv _ e;omega,fun e=>by have:=hrowO v hv _ e;omega⟩,hnw.lo,rfl,by simp,by simp⟩
   obtain⟨_,_,_,_,_,_,_,z7,_,_,_,zp⟩:=hm.zs;obtain⟨_,c2v,_,f2v,_,zl⟩:=hm.cells hsn;have hms:=hm.setL s 0;have kput:=put_any hms hsn (by omega);have zs:(s:Int)<(n:Int):=by omega
   have KPUT:=hid kput;clear hm hms kput hnw hrowI hrowO HN HZ8 TI8 TO8 HO8 HH8 hSC0 hSC1 hSL0 hSL1;generalize dg (List.replicate n far) (s:Int)=ds at c2v
   go_wp2_with fail
   refine KPUT.out.mono ?_;rintro e w9 ⟨⟨r9,rfl⟩,Aw',mw',cw',L',h1,h2,h3,h4,h5,h6,h7⟩
   have hdR:dg ((List.replicate n far).set s 0) (s:Int)=0:=by
    have:=dg_set (D:=List.replicate n far) (t:=(s:Int)) (v:=s) (x:=0) (by omega) (by simp;omega) (by omega)
    rwa [if_pos rfl,Int.toNat_natCast] at this
   have hdD:dg (List.replicate n far) (s:Int)=far:=rep_dg (by omega) (by omega)
   have hky:ky (List.replicate n far) ((List.replicate n far).set s 0) (s:Int)=(0,0,(s:Int)):=by
    unfold ky;rw[hdR,hdD]
    rfl
   have hin:=h4 (by rw[hdR,hdD];decide);rw[hky] at hin h3
   have hpi:PI n l s (List.replicate n far) ((List.replicate n far).set s 0) L' (fun _=>False):=by
    have:=PI.start (L:=L') HGD.out hin (fun x hx=>by
     rcases h3 x hx with h|h
     ·simp at h
     ·rw[h];exact⟨by simp,by simp;omega⟩)
    rwa [Int.toNat_natCast] at this
   have HPI:=hid hpi;have H1:=hid h1;clear hdR hdD hky hin hpi h1 h2 h3 h4 h6 h7;go_wp2;refine bodyPost_ret (v:= .tuple #[.pointer (some ⟨P,0,none⟩),.int .i64 0]) (by simp[results,Tryz.results16,go_sem]) rfl ?_;exact⟨P,AE,cE,TI,TO,FI,FO,SC,c1,SL,c2,H,_,Aw',mw',cw',L',rfl,H1,HPI,h5⟩
end Life
end Go.Proofs.YtjebckehmmbkbaaGreat
