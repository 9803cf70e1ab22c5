/- The walks of package heap at api.Pop. The walk of Heap[api.Pop].Pop. Plain facts on Bellman and Ford's relaxing: no Go in sight. Go's slices.Reverse at []int, on a row of the caller's own. The walk of GridTurns' closure: a place turned over. -/
import Derived.BigRegion
import Derived.Deep.CutRange
import Derived.Deep.OwnRows
import Derived.Test.YtjebckehmmbkbaaGreatVRowSet
set_option linter.unusedSimpArgs false
set_option linter.unusedVariables false
set_option maxRecDepth 100000
set_option maxHeartbeats 24000000
namespace Go.Proofs.YtjebckehmmbkbaaGreat
namespace Heap
open Go.RowKit HeapLaw Net
abbrev Pop:=Int × Int
theorem news2' {w:World} {e:TypeId} {x y:Int} {g:Nat} (hg:w.heap.size=g):∀j,j<2->(w.alloc (.cells #[.int .i64 x,.int .i64 y] e)).cell? ⟨g,j,none⟩=some (cp (x,y) j):=by
 subst hg;exact news2
abbrev d0:Pop:=(0,0)
theorem infoPop:(Tryz.prog.info? 121).map (fun i=>(i.zero,i.size,i.bytes))=some (some (.agg #[.int .i64 0,.int .i64 0]),2,16):=by kernel_rfl
structure Kp (w w':World) (H:Nat) (row:Option Nat):Prop where
 os:w'.os=w.os
 tape:w'.tape=w.tape
 output:w'.output=w.output
 size:w.heap.size<=w'.heap.size
 block:∀g,g<w.heap.size->g≠H->some g≠row->w'.heap[g]?=w.heap[g]?
section
variable {w w' w'':World} {H:Nat} {row:Option Nat}
theorem Kp.refl (w:World) (H:Nat) (row:Option Nat):Kp w w H row:=⟨rfl,rfl,rfl,Nat.le_refl _,fun _ _ _ _=>rfl⟩
theorem Kp.below (h:Kp w w' H row) (hb:Below w'.heap.size w' w''):Kp w w'' H row :=
 ⟨hb.os.trans h.os,hb.tape.trans h.tape,hb.output.trans h.output,Nat.le_trans h.size hb.size,fun g hg h1 h2=>(hb.block g (Nat.lt_of_lt_of_le hg h.size)).trans (h.block g hg h1 h2)⟩
theorem Kp.alloc (h:Kp w w' H row) (o:Obj):Kp w (w'.alloc o) H row:=h.below ((Below.refl _ _).alloc zzL o)
theorem Kp.drew (h:Kp w w' H row):Kp w w'.drew H row:=⟨h.os,h.tape,h.output,h.size,h.block⟩
theorem Kp.setCell (h:Kp w w' H row) {p:Addr} (hp:p.block=H\/row=some p.block\/w.heap.size<=p.block) (u:Value):Kp w (w'.setCell p u) H row :=
 ⟨h.os,h.tape,h.output,by have:=h.size;simpa [World.setCell] using this,fun g hg h1 h2=>(Below.heap_setCell _ _ _ _ (fun e=>by
   rcases hp with hp|hp|hp
   ·exact h1 (by rw[e];exact hp)
   ·exact h2 (by rw[e];exact hp.symm)
   ·omega)).trans (h.block g hg h1 h2)⟩
theorem Kp.grown (h:Kp w w' H row) (hg:w'.grownBy w'' row):Kp w w'' H row :=
 ⟨hg.os.trans h.os,hg.tape.trans h.tape,hg.output.trans h.output,Nat.le_trans h.size hg.size,fun g hlt h1 h2=>(hg.block g (Nat.lt_of_lt_of_le hlt h.size) h2).trans (h.block g hlt h1 h2)⟩
theorem Kp.to {base:Nat} (h:Kp w w' H row) (hb:base<=w.heap.size) (hH:base<=H) (hr:∀S,row=some S->base<=S):Below base w w' :=
 ⟨h.os,h.tape,h.output,h.size,fun g hg=>h.block g (by omega) (by omega) (fun e=>by have:=hr g e.symm;omega)⟩
end
structure HeapAt (w:World) (base H:Nat) (fn:Value) (A:Option Addr) (n c:Nat) (L:List Pop):Prop where
 hb:base<=H
 blk:w.heap[H]?=some (.cells #[fn,.slice A n c] 156 (0,0))
 own:Own w base 121 2 cp (.slice A n c) L
 len:L.length=n
section
variable {w w':World} {base H:Nat} {fn:Value} {A:Option Addr} {n c:Nat} {L:List Pop}
theorem HeapAt.lt (h:HeapAt w base H fn A n c L):H<w.heap.size:=lt_of_block h.blk
theorem HeapAt.ne (h:HeapAt w base H fn A n c L):(Value.slice A n c).ownBlock≠some H:=h.own.ne_ h.blk (by decide)
theorem HeapAt.alloc (h:HeapAt w base H fn A n c L) (o:Obj):HeapAt (w.alloc o) base H fn A n c L:=⟨h.hb,blk_alloc h.blk o,h.own.alloc o,h.len⟩
theorem HeapAt.drewN (h:HeapAt w base H fn A n c L) (k:Nat):HeapAt (w.drewN k) base H fn A n c L:=⟨h.hb,h.blk,h.own.drewN k,h.len⟩
theorem HeapAt.keep (h:HeapAt w base H fn A n c L) (hb:Below w.heap.size w w'):HeapAt w' base H fn A n c L:=⟨h.hb,blk_below h.blk hb h.lt,h.own.keep hb,h.len⟩
theorem HeapAt.at_ (h:HeapAt w base H fn A n c L) {i:Nat} (hi:i<n):∃S a b,A=some ⟨S,0,none⟩/\base<=S/\S<w.heap.size/\S≠H/\L.getD i d0=(a,b) /\
 w.cell? ⟨S,i*2,none⟩=some (.int .i64 a)/\w.cell? ⟨S,i*2+1,none⟩=some (.int .i64 b)/\w.frozen? ⟨S,i*2,none⟩=false/\w.frozen? ⟨S,i*2+1,none⟩=false:=by
 have hl:=h.len;have hne:=h.ne;have hown:=h.own;obtain⟨S,c',hv,hb,hS,_,hc⟩:=hown.some_ (by omega);injection hv with hv _ _;subst hv;have e:L.getD i d0=L[i]'(by omega):=by rw[List.getD_eq_getElem?_getD,List.getElem?_eq_getElem (by omega)];rfl
 exact⟨S,_,_,rfl,hb,hS,fun e=>hne (by rw[e];rfl),e,(hc i (by omega) 0 (by omega)).1,(hc i (by omega) 1 (by omega)).1,(hc i (by omega) 0 (by omega)).2,(hc i (by omega) 1 (by omega)).2⟩
end
theorem own_set2 {w:World} {base:Nat} {e:TypeId} {S c n:Nat} {l:List Pop} (hn:l.length=n) (h:Own w base e 2 cp (.slice (some ⟨S,0,none⟩) n c) l) (k:Nat) (hk:k<n) (a b:Int) :
 Own ((w.setCell ⟨S,k*2,none⟩ (.int .i64 a)).setCell ⟨S,k*2+1,none⟩ (.int .i64 b)) base e 2 cp (.slice (some ⟨S,0,none⟩) n c) (l.set k (a,b)):=by
 have h1:=own_setj hn h k 0 (a,(l[k]'(by omega)).2) (by omega) (by decide) (fun j hj hne=>by
  match j,hj,hne with
  |0,_,hne=>exact absurd rfl hne
  |1,_,_=>rfl)
 have h2:=own_setj (by simpa using hn) h1 k 1 (a,b) (by simpa using (show k<l.length by omega)) (by decide) (fun j hj hne=>by
  rw[List.getElem_set_self]
  match j,hj,hne with
  |0,_,_=>rfl
  |1,_,hne=>exact absurd rfl hne)
 rw[List.set_set] at h2;exact h2
theorem HeapAt.swap {w:World} {base H:Nat} {fn:Value} {S n c:Nat} {L:List Pop} (h:HeapAt w base H fn (some ⟨S,0,none⟩) n c L) {i k:Nat} (hi:i<n) (hk:k<n) {a b x y:Int} (hxi:L.getD i d0=(x,y)) (hxk:L.getD k d0=(a,b)) (hS:S≠H) :
 HeapAt ((((w.setCell ⟨S,i*2,none⟩ (.int .i64 a)).setCell ⟨S,i*2+1,none⟩ (.int .i64 b)).setCell ⟨S,k*2,none⟩ (.int .i64 x)).setCell ⟨S,k*2+1,none⟩ (.int .i64 y)) base H fn (some ⟨S,0,none⟩) n c (swp d0 L i k):=by
 have hS':H≠S:=fun e=>hS e.symm;refine⟨h.hb,blk_far (blk_far (blk_far (blk_far h.blk hS' _) hS' _) hS' _) hS' _,?_,by rw[swp_len];exact h.len⟩;have h1:=own_set2 h.len h.own i hi a b;have h2:=own_set2 (by simpa using h.len) h1 k hk x y;unfold swp;rw[hxi,hxk];exact h2
def LessOk (k:FuncId) (lt:Pop->Pop->Bool):Prop:=∀(W:World) (a b x y:Int),Calls Tryz.prog k #[.agg #[.int .i64 a,.int .i64 b],.agg #[.int .i64 x,.int .i64 y]] W fun e w'=>e= .returned (.bool (lt (a,b) (x,y)))/\Below W.heap.size W w'
def fnOf (k:FuncId):Value:= .func (.func k) #[] #[]
theorem push_any (lt:Pop->Pop->Bool) (o:Ord lt) (hless:LessOk 60 lt) (base H:Nat) (A:Option Addr) (n c:Nat) (L:List Pop) (x y:Int) (w:World) (h:HeapAt w base H (fnOf 60) A n c L) (hp:Hp d0 lt L) (hn:(n+1)*16<=140737488355328) (hb:base<=w.heap.size) :
 Calls Tryz.prog 61 #[.pointer (some ⟨H,0,none⟩),.agg #[.int .i64 x,.int .i64 y]] w fun e w'=>(∃v,e= .returned v)/\∃A' c' L',HeapAt w' base H (fnOf 60) A' (n+1) c' L'/\L'.Perm ((x,y)::L)/\Hp d0 lt L'/\Kp w w' H (Value.slice A n c).ownBlock/\∀S,(Value.slice A' (n+1) c').ownBlock=some S->(Value.slice A n c).ownBlock=some S\/w.heap.size<=S:=by
 obtain⟨i0,hi,hz0,hz1,hz2⟩:=info_parts infoPop;have hc0:=blk_cell h.blk 0;have hc1:=blk_cell h.blk 1;have hlt:=h.lt;have hne:=h.ne;simp only[zzG,zzH,zzI] at hc0 hc1;unfold fnOf at hc0;have hb0:=blk_alloc (blk_alloc h.blk (.cells #[.int .i64 x,.int .i64 y] 121)) (.cells #[.int .i64 x,.int .i64 y] 121);go_enter Tryz.func61,Tryz.ntmps61;go_upto_region 1 with fail
 go_cut [13] from 6 to 15 (fun s13 wx=>∃A3 c3,HeapAt wx base H (fnOf 60) A3 (n+1) c3 (L++[(x,y)])/\Kp w wx H (Value.slice A n c).ownBlock/\∀S,(Value.slice A3 (n+1) c3).ownBlock=some S->(Value.slice A n c).ownBlock=some S\/w.heap.size<=S)
 case first =>
  go_region_law (refine step_push _ rfl (.tmp 10) (.tmp 12) _ rfl base 121 i0 _ 2 16 cp Tryz.underlying154 hi hz0 hz1 hz2 rfl (by decide) _ L n h.len rfl ((h.own.alloc _).alloc _) (w.heap.size+1) 1 (x,y) rfl (news2' (by simp)) (fun _ _=>one_cp _ _) (by omega) (by omega) (by simp;omega) ?_;intro A3 c3 w4 hown3 hgrow3 hat3;have hH4:w4.heap[H]?=some (.cells #[fnOf 60,.slice A n c] 156 (0,0)):=(hgrow3.block H (by simp;omega) (fun e=>hne e.symm)).trans hb0;have c41:w4.cell? ⟨H,1,none⟩=some (.slice A n c):=blk_cell hH4 1;have f41:w4.frozen? ⟨H,1,none⟩=false:=blk_free hH4 1)
  all_goals
   have hB4:Kp w w4 H (Value.slice A n c).ownBlock:=by first|exact(((Kp.refl _ _ _).alloc _).alloc _).drew.grown hgrow3|exact(((Kp.refl _ _ _).alloc _).alloc _).grown hgrow3
   have hat4:∀S,(Value.slice A3 (n+1) c3).ownBlock=some S->(Value.slice A n c).ownBlock=some S\/w.heap.size<=S:=fun S hS=>by
    rcases hat3 with h1|h1
    ·exact .inl (h1.symm.trans hS)
    ·rw[h1] at hS
     injection hS with hS;simp at hS;exact .inr (by omega)
   go_wp2_with fail
   go_meet
   exact⟨A3,c3,⟨h.hb,blk_set hH4 1 _,hown3.setCell (hown3.ne_ hH4 (by decide)) _,by simp[h.len]⟩,hB4.setCell (.inl rfl) _,hat4⟩
 case rest =>
  obtain⟨A3,c3,h3,hB3,hat4⟩:=hcut;have HAT:=hid hat4;clear hat4;have e0:=blk_cell h3.blk 1;simp only[zzG,zzH,zzI] at e0;have hup:=Hp.snoc hp (x,y);rw[h.len] at hup;have HUP:=hid hup;have H3:=hid h3;have HO:=hid o;have HL:=hid hless;clear h hp hup h3 hc0 hc1 hne hb0 o hless;have hn1:(n:Int)+1 - 1=n:=by omega
  go_wp2
  go_loopw [4] (fun s4 wr=>∃(i:Nat) (L':List Pop),i<n+1/\s4= .int .i64 i/\HeapAt wr base H (fnOf 60) A3 (n+1) c3 L'/\L'.Perm ((x,y)::L)/\Up d0 lt L' i/\Kp w wr H (Value.slice A n c).ownBlock) (fun s4 _=>(intOf s4).toNat)
  case atStart=>exact⟨n,L++[(x,y)],by omega,rfl,H3.out,List.perm_append_comm,HUP.out,hB3⟩
  case round =>
   obtain⟨i,L',hi1,rfl,hh,hpm,hu,hB⟩:=hrel;have HPM:=hid hpm;have HU:=hid hu;have c0:=blk_cell hh.blk 0;have c1:=blk_cell hh.blk 1;simp only[zzG,zzH,zzI] at c0 c1;unfold fnOf at c0;clear hpm hu e0 H3 HUP
   by_cases hi0:0<i
   ·obtain⟨j,rfl⟩:∃j,i=j+1:=⟨i - 1,by omega⟩
    have hq:(j:Int).tdiv 2=((j / 2:Nat):Int):=by rw[Int.ofNat_tdiv];rfl
    have hj2:j / 2<j+1:=by omega
    obtain⟨S,a,b,rfl,hS0,hS1,hSH,hgi,ci0,ci1,fi0,fi1⟩:=hh.at_ hi1;obtain⟨S',a',b',hSe,_,_,_,hgk,ck0,ck1,fk0,fk1⟩:=hh.at_ (show j / 2<n+1 by omega);injection hSe with hSe;injection hSe with hSe _ _;subst hSe;have hj0:(0:Int)<=((j / 2:Nat):Int):=by omega
    generalize hk2:j / 2=m at *;have HK2:=hid hk2;have HGI:=hid hgi;have HGK:=hid hgk;have HH:=hid hh;have hl:=fun W=>HL.out W a b a' b';have hHs:=hh.lt;have b1:(j:Int)+1<(n:Int)+1:=by omega
    have b2:(0:Int)<=(j:Int)+1:=by omega
    have b3:(m:Int)<(n:Int)+1:=by omega
    have b4:(j:Int)<n:=by omega
    have b5:j<n:=by omega
    have b6:m<n+1:=by omega
    have b7:(m:Int)<=n:=by omega
    have b8:¬((m:Int)<0):=by omega
    have b9:¬((j:Int)+1<0):=by omega
    clear hk2 hgi hgk;cases hlt2:lt (a,b) (a',b') with
    |false =>
     simp only[hlt2] at hl;have KL:=hid hl;have HLT:=hid hlt2;clear hl hlt2;go_wp2
     go_region_held3 (fun w'=>w'.cell? ⟨H,0,none⟩=some (.func (.func 60) #[] #[])/\w'.cell? ⟨H,1,none⟩=some (.slice (some ⟨S,0,none⟩) (n+1) c3)/\w'.cell? ⟨S,(j+1)*2,none⟩=some (.int .i64 a)/\w'.cell? ⟨S,(j+1)*2+1,none⟩=some (.int .i64 b)/\w'.cell? ⟨S,m*2,none⟩=some (.int .i64 a')/\w'.cell? ⟨S,m*2+1,none⟩=some (.int .i64 b'))
      (first
        |go_keep
        |(go_split_ands
          refine⟨?_,?_,?_,?_,?_,?_⟩
          ·(rw[cH];assumption)
          ·(rw[cH];assumption)
          ·(rw[cS];assumption)
          ·(rw[cS];assumption)
          ·(rw[cS];assumption)
          ·(rw[cS];assumption)))
      (first
        |(go_at_call 60;refine(KL.out _).mono ?_;rintro e w5 ⟨rfl,hb5⟩;have cH:=(keepAt hb5 (b:=H) hHs).1;have cS:=(keepAt hb5 (b:=S) hS1).1))
     all_goals
      clear cH cS;have hb6:Below wr.heap.size wr w5:=by first|exact hb5|exact(Below.refl _ _).drew.trans hb5
      have hfin:=HU.out.done (fun _=>by
       have e1:par (j+1)=m:=by have:=HK2.out;unfold par;omega
       rw[e1,HGI.out,HGK.out];exact HLT.out)
      have hh5:=HH.out.keep hb6;have hB5:=hB.below hb6;clear hb5 hb6;go_wp2;refine bodyPost_end (v:= .tuple #[]) (by simp[results,Tryz.results61,go_sem]) rfl ?_;exact⟨⟨_,rfl⟩,_,c3,L',hh5,HPM.out,hfin,hB5,HAT.out⟩
    |true =>
     simp only[hlt2] at hl;have KL:=hid hl;have HLT:=hid hlt2;clear hl hlt2;go_wp2
     go_region_held3 (fun w'=>w'.cell? ⟨H,0,none⟩=some (.func (.func 60) #[] #[])/\w'.cell? ⟨H,1,none⟩=some (.slice (some ⟨S,0,none⟩) (n+1) c3)/\w'.cell? ⟨S,(j+1)*2,none⟩=some (.int .i64 a)/\w'.cell? ⟨S,(j+1)*2+1,none⟩=some (.int .i64 b)/\w'.cell? ⟨S,m*2,none⟩=some (.int .i64 a')/\w'.cell? ⟨S,m*2+1,none⟩=some (.int .i64 b'))
      (first
        |go_keep
        |(go_split_ands
          refine⟨?_,?_,?_,?_,?_,?_⟩
          ·(rw[cH];assumption)
          ·(rw[cH];assumption)
          ·(rw[cS];assumption)
          ·(rw[cS];assumption)
          ·(rw[cS];assumption)
          ·(rw[cS];assumption)))
      (first
        |(go_at_call 60;refine(KL.out _).mono ?_;rintro e w5 ⟨rfl,hb5⟩;have cH:=(keepAt hb5 (b:=H) hHs).1;have cS:=(keepAt hb5 (b:=S) hS1).1))
     all_goals
      clear cH cS;have hb6:Below wr.heap.size wr w5:=by first|exact hb5|exact(Below.refl _ _).drew.trans hb5
      have hh5:=HH.out.keep hb6;have hB5:=hB.below hb6;obtain⟨cH,fH⟩:=keepAt hb6 (b:=H) hHs;obtain⟨cS,fS⟩:=keepAt hb6 (b:=S) hS1;have u0:=(cH 1).trans c1;have u1:=(cS _).trans ci0;have u2:=(cS _).trans ci1;have u3:=(cS _).trans ck0;have u4:=(cS _).trans ck1;have u5:=(fS _).trans fi0;have u6':=(fS _).trans fi1;have u7':=(fS _).trans fk0;have u8':=(fS _).trans fk1;have HH5:=hid hh5;have hm2:¬(j+1)*2=m*2:=by omega
      have hm3:¬(j+1)*2+1=m*2+1:=by omega
      have hm4:¬(j+1)*2+1=m*2:=by omega
      have hm5:¬(j+1)*2=m*2+1:=by omega
      clear hb5 hb6 cH fH cS fS c0 c1 ci0 ci1 ck0 ck1 fi0 fi1 fk0 fk1 hh5 hh;go_wp2
      go_region
      all_goals
       go_wp2
       go_roundw
       case' rel =>
        have e1:par (j+1)=m:=by have:=HK2.out;unfold par;omega
        have hln:L'.length=n+1:=HH5.out.len;have hSr:=HAT.out S rfl;have hst:=HU.out.step HO.out (Nat.succ_pos j) (by omega) (by rw[e1,HGI.out,HGK.out];exact HLT.out);rw[e1] at hst;exact⟨m,swp d0 L' (j+1) m,by omega,rfl,(HH5.out.swap hi1 b6 HGI.out HGK.out hSH).drewN 1,(swp_perm (by omega) (by omega) (by omega)).trans HPM.out,hst,((((hB5.setCell (.inr hSr) _).setCell (.inr hSr) _).setCell (.inr hSr) _).setCell (.inr hSr) _).drew⟩
       case' measure=>simp[intOf];omega
   ·obtain rfl:i=0:=by omega
    have hfin:=HU.out.done (fun h=>absurd h (Nat.lt_irrefl 0));have HH:=hid hh;have HFIN:=hid hfin;clear hh hfin;go_wp2;refine bodyPost_end (v:= .tuple #[]) (by simp[results,Tryz.results61,go_sem]) rfl ?_;exact⟨⟨_,rfl⟩,A3,c3,L',HH.out,HPM.out,HFIN.out,hB,HAT.out⟩
end Heap
namespace Heap
open Go.RowKit HeapLaw Net
theorem fl_take {α:Type} {sz:Nat} {cell:α->Nat->Value} (l:List α) (m:Nat):fl sz cell (l.take m)=(fl sz cell l).take (m*sz):=by
 induction l generalizing m with
 |nil=>simp[fl]
 |cons a r ih =>
  have e1:fl sz cell (a::r)=(List.range sz).map (cell a)++fl sz cell r:=rfl;cases m with
  |zero=>rw[Nat.zero_mul];rfl
  |succ m =>
   have e2:fl sz cell ((a::r).take (m+1))=(List.range sz).map (cell a)++fl sz cell (r.take m):=rfl;have e3:((List.range sz).map (cell a)).length=sz:=by simp
   have e4:(m+1)*sz - sz=m*sz:=by rw[Nat.succ_mul];omega
   have e5:((List.range sz).map (cell a)).take ((m+1)*sz)=(List.range sz).map (cell a):=List.take_of_length_le (by rw[e3,Nat.succ_mul];omega);rw[e2,e1,List.take_append,e5,e3,e4,ih]
theorem own_short {α:Type} {sz:Nat} {cell:α->Nat->Value} {w:World} {base:Nat} {e:TypeId} {S c n m:Nat} {l:List α} (hn:l.length=n) (h:Own w base e sz cell (.slice (some ⟨S,0,none⟩) n c) l) (hm:m<=n) :
 Own w base e sz cell (.slice (some ⟨S,0,none⟩) m c) (l.take m):=by
 subst hn;have hl:(l.take m).length=m:=by rw[List.length_take];omega
 unfold Own at h ⊢;rw[hl,fl_take];refine⟨?_,?_⟩
 ·rw[List.length_take,fl_len]
  have:=Nat.mul_le_mul_right sz hm;omega
 ·rcases h.2 with ⟨h1,_⟩|⟨g,cap,cur,hv,hg,hh,hc,hc2,hsz,ht⟩
  ·cases h1
  ·injection hv with h1 h2 h3
   injection h1 with h1;injection h1 with h1 _ _;subst h1 h3;refine .inr ⟨S,c,cur,rfl,hg,hh,by omega,hc2,hsz,?_⟩;rw[<-ht,List.take_take,Nat.min_eq_left (Nat.mul_le_mul_right sz hm)]
theorem HeapAt.cut {w:World} {base H:Nat} {fn:Value} {S m c:Nat} {L:List Pop} (h:HeapAt w base H fn (some ⟨S,0,none⟩) (m+1) c L) {a b:Int} (hx:L.getD m d0=(a,b)) (hS:S≠H) :
 HeapAt (((w.setCell ⟨S,0,none⟩ (.int .i64 a)).setCell ⟨S,1,none⟩ (.int .i64 b)).setCell ⟨H,1,none⟩ (.slice (some ⟨S,0,none⟩) m c)) base H fn (some ⟨S,0,none⟩) m c (cutTop d0 L):=by
 have hS':H≠S:=fun e=>hS e.symm;have h1:=own_set2 h.len h.own 0 (by omega) a b;rw[Nat.zero_mul,Nat.zero_add] at h1;have h2:=own_short (m:=m) (by rw[List.length_set];exact h.len) h1 (by omega);have hb:=blk_far (blk_far h.blk hS' (.int .i64 a) (p:=⟨S,0,none⟩)) hS' (.int .i64 b) (p:=⟨S,1,none⟩);have e:cutTop d0 L=(L.set 0 (a,b)).take m:=by unfold cutTop;rw[h.len,Nat.add_sub_cancel,hx]
 refine⟨h.hb,?_,?_,?_⟩
 ·exact blk_set hb 1 _
 ·rw[e];exact h2.setCell (h2.ne_ hb (by decide)) _
 ·rw[cutTop_len,h.len];omega
structure Pick (lt:Pop->Pop->Bool) (L:List Pop) (i:Nat) (bb:Bool):Prop where
 l:bb=false->Least d0 lt L i (2*i+1)
 r:bb=true->Least d0 lt L i (2*i+1+1)
def PopSays (lt:Pop->Pop->Bool) (base H:Nat) (fn:Value) (A:Option Addr) (m c:Nat) (L:List Pop) (w:World) (e:Ending) (w':World):Prop :=
 ∃p q L',e= .returned (.agg #[.int .i64 p,.int .i64 q])/\L.getD 0 d0=(p,q)/\HeapAt w' base H fn A m c L'/\((p,q)::L').Perm L/\Hp d0 lt L'/\Kp w w' H (Value.slice A (m+1) c).ownBlock
theorem pop_any (lt:Pop->Pop->Bool) (o:Ord lt) (hless:LessOk 60 lt) (base H:Nat) (A:Option Addr) (m c:Nat) (L:List Pop) (w:World) (h:HeapAt w base H (fnOf 60) A (m+1) c L) (hp:Hp d0 lt L) (hn:(m+1)*16<=140737488355328) (hb:base<=w.heap.size) :
 Calls Tryz.prog 63 #[.pointer (some ⟨H,0,none⟩)] w fun e w'=>PopSays lt base H (fnOf 60) A m c L w e w':=by
 obtain⟨S,p,q,rfl,hS0,hS1,hSH,hg0,c00,c01,f00,f01⟩:=h.at_ (show 0<m+1 by omega);obtain⟨S',a,b,hSe,_,_,_,hgm,cm0,cm1,_,_⟩:=h.at_ (show m<m+1 by omega);injection hSe with hSe;injection hSe with hSe _ _;subst hSe;have hc0:=blk_cell h.blk 0;have hc1:=blk_cell h.blk 1;have hf1:=blk_free h.blk 1;have hlt:=h.lt;have hne:=h.ne;obtain⟨_,hcap⟩:True/\m+1<=c:=⟨trivial,by obtain⟨A',c',hv,hc,_⟩:=h.own.form;injection hv with _ _ hv;have:=h.len;omega⟩;simp only[zzG,zzH,zzI] at hc0 hc1;rw[Nat.zero_mul] at c00 c01 f00 f01;rw[Nat.zero_add] at c01 f01;unfold fnOf at hc0;have b1:(0:Int)<(m:Int)+1:=by omega
 have b2:(m:Int)<(m:Int)+1:=by omega
 have b3:(m:Int)<=(c:Int):=by omega
 have b4:m<=c:=by omega
 have b5:(0:Int)<=(m:Int):=by omega
 have HH:=hid h;have HP:=hid hp;have HG0:=hid hg0;have HGM:=hid hgm;have hSw:=hS1;clear h hp hg0 hgm hne;go_enter Tryz.func63,Tryz.ntmps63;go_wp2
 go_region
 all_goals
  go_wp2;have hcut:=(HH.out.cut HGM.out hSH);have hWs:(((w.setCell ⟨S,0,none⟩ (.int .i64 a)).setCell ⟨S,1,none⟩ (.int .i64 b)).setCell ⟨H,1,none⟩ (.slice (some ⟨S,0,none⟩) m c)).heap.size=w.heap.size:=by simp[World.setCell]
  have hBs:Kp w (((w.setCell ⟨S,0,none⟩ (.int .i64 a)).setCell ⟨S,1,none⟩ (.int .i64 b)).setCell ⟨H,1,none⟩ (.slice (some ⟨S,0,none⟩) m c)) H (some S):=(((Kp.refl _ _ _).setCell (by exact .inr (.inl rfl)) _).setCell (by exact .inr (.inl rfl)) _).setCell (by exact .inl rfl) _;have hdn:=cutTop_dn HP.out;have hpc:=cutTop_perm (d:=d0) (L:=L) (fun e=>by have:=HH.out.len;rw[e] at this;simp at this);rw[HG0.out] at hpc;have HCUT:=hid hcut;have HDN0:=hid hdn;have HPC:=hid hpc;have HO:=hid o;have HL:=hid hless;generalize (((w.setCell ⟨S,0,none⟩ (.int .i64 a)).setCell ⟨S,1,none⟩ (.int .i64 b)).setCell ⟨H,1,none⟩ (.slice (some ⟨S,0,none⟩) m c))=W0 at *;have hR0:=blk_alloc (heap_alloc_new W0 (.cells #[.int .i64 0,.int .i64 0] 121)) (.cells #[.int .i64 p,.int .i64 q] 121);have hR1:=heap_alloc_new (W0.alloc (.cells #[.int .i64 0,.int .i64 0] 121)) (.cells #[.int .i64 p,.int .i64 q] 121);have hz1:(W0.alloc (.cells #[.int .i64 0,.int .i64 0] 121)).heap.size=w.heap.size+1:=by simp[hWs]
  rw[hWs] at hR0;rw[hz1] at hR1;have hBx:Kp w ((W0.alloc (.cells #[.int .i64 0,.int .i64 0] 121)).alloc (.cells #[.int .i64 p,.int .i64 q] 121)) H (some S):=(hBs.alloc _).alloc _;have HR0:=hid hR0;have HR1:=hid hR1;clear hcut hdn hpc o hless hR0 hR1 hz1 hBs c00 c01 f00 f01 cm0 cm1 hc0 hc1 hf1 hWs
  go_loopw [5] (fun s5 wr=>∃(i:Nat) (L':List Pop),i<=m/\s5= .int .i64 i/\HeapAt wr base H (fnOf 60) (some ⟨S,0,none⟩) m c L'/\L'.Perm (cutTop d0 L)/\Dn d0 lt L' i/\wr.heap[w.heap.size]?=some (.cells #[.int .i64 0,.int .i64 0] 121 (0,0))/\wr.heap[w.heap.size+1]?=some (.cells #[.int .i64 p,.int .i64 q] 121 (0,0))/\Kp w wr H (some S)) (fun s5 _=>m - (intOf s5).toNat)
  case atStart=>exact⟨0,cutTop d0 L,Nat.zero_le _,rfl,((HCUT.out.alloc _).alloc _).drewN 1,List.Perm.refl _,HDN0.out,HR0.out,HR1.out,hBx.drew⟩
  case round =>
   obtain⟨i,L2,him0,rfl,hh,hpm,hdn,hR2,hR3,hB⟩:=hrel;have HPM:=hid hpm;have HDN:=hid hdn;clear HCUT HDN0 HR0 HR1 hBx hpm hdn
   by_cases hk:2*i+1<m
   ·have HR2:=hid hR2
    have HR3:=hid hR3;have HHr:=hid hh;have c0:=blk_cell hh.blk 0;have c1:=blk_cell hh.blk 1;simp only[zzG,zzH,zzI] at c0 c1;unfold fnOf at c0;have hHs:=hh.lt;have hSs:S<wr.heap.size:=by have:=lt_of_block hR2;omega
    have hi2:2*(i:Int)+1<m:=by omega
    clear hR2 hR3;go_upto_region 8 with fail;obtain⟨k1,hk1⟩:∃k1:Nat,k1=2*i+1:=⟨_,rfl⟩;have hk1e:2*(i:Int)+1=(k1:Int):=by omega
    rw[hk1e] at *;have HK1:=hid hk1;have hk1m:k1<m:=by omega
    clear hk hk1 hk1e
    go_cut [73] from 48 to 73 (fun s73 wx=>∃bb,s73= .bool bb/\Pick lt L2 i bb/\HeapAt wx base H (fnOf 60) (some ⟨S,0,none⟩) m c L2/\wx.heap[w.heap.size]?=some (.cells #[.int .i64 0,.int .i64 0] 121 (0,0))/\wx.heap[w.heap.size+1]?=some (.cells #[.int .i64 p,.int .i64 q] 121 (0,0))/\Kp w wx H (some S))
    case first =>
     by_cases hg:k1+1<m
     ·have hk2m:(k1:Int)+1<m:=by omega
      have hwr:IntKind.i64.wrap ((k1:Int)+1)=(k1:Int)+1:=IntWalk.i64_in _ (by omega);obtain⟨T,a1,e1,hTe,_,_,_,hg1,c10,c11,_,_⟩:=hh.at_ hg;injection hTe with hTe;injection hTe with hTe _ _;subst hTe;obtain⟨T,a0,e0,hTe,_,_,_,hg0',c00,c01,_,_⟩:=hh.at_ hk1m;injection hTe with hTe;injection hTe with hTe _ _;subst hTe;have y1:(k1:Int)<m:=by omega
      have y2:¬((k1:Int)<0):=by omega
      have y3:¬((k1:Int)+1<0):=by omega
      have y4:(0:Int)<=(k1:Int)+1:=by omega
      have hl:=fun W=>HL.out W a1 e1 a0 e0;have hlen:=hh.len;have HG1:=hid hg1;have HGZ:=hid hg0';have HLEN:=hid hlen;generalize hbb:lt (a1,e1) (a0,e0)=bb at hl;have KL:=hid hl;have HBB:=hid hbb;clear hg1 hg0' hl hbb hh hlen
      go_region_held3 (fun w'=>w'.cell? ⟨H,0,none⟩=some (.func (.func 60) #[] #[])/\w'.cell? ⟨H,1,none⟩=some (.slice (some ⟨S,0,none⟩) m c)/\w'.cell? ⟨S,(k1+1)*2,none⟩=some (.int .i64 a1)/\w'.cell? ⟨S,(k1+1)*2+1,none⟩=some (.int .i64 e1)/\w'.cell? ⟨S,k1*2,none⟩=some (.int .i64 a0)/\w'.cell? ⟨S,k1*2+1,none⟩=some (.int .i64 e0))
       (first
         |go_keep
         |(go_split_ands
           refine⟨?_,?_,?_,?_,?_,?_⟩
           ·(rw[cH];assumption)
           ·(rw[cH];assumption)
           ·(rw[cS];assumption)
           ·(rw[cS];assumption)
           ·(rw[cS];assumption)
           ·(rw[cS];assumption)))
       (first
         |(go_at_call 60;refine(KL.out _).mono ?_;rintro e w5 ⟨rfl,hb5⟩;have cH:=(keepAt hb5 (b:=H) hHs).1;have cS:=(keepAt hb5 (b:=S) hSs).1))
      all_goals
       clear cH cS;have hb6:Below wr.heap.size wr w5:=by first|exact hb5|exact(Below.refl _ _).drew.trans hb5
       have hl0:bb=false->Least d0 lt L2 i (2*i+1):=fun hf=>by
        refine least_left HO.out (by have:=HLEN.out;have:=HK1.out;omega) (fun _=> ?_);have q1:=HG1.out;have q0:=HGZ.out;rw[HK1.out] at q1 q0;rw[show 2*i+2=2*i+1+1 from rfl,q1,q0,HBB.out];exact hf
       have hl1:bb=true->Least d0 lt L2 i (2*i+1+1):=fun ht=>by
        refine least_right HO.out (by have:=HLEN.out;have:=HK1.out;omega) ?_;have q1:=HG1.out;have q0:=HGZ.out;rw[HK1.out] at q1 q0;rw[show 2*i+2=2*i+1+1 from rfl,q1,q0,HBB.out];exact ht
       have hh5:=HHr.out.keep hb6;have hB5:=hB.below hb6;have hR5:=blk_below HR2.out hb6 (lt_of_block HR2.out);have hR6:=blk_below HR3.out hb6 (lt_of_block HR3.out);have HL0:=hid hl0;have HL1:=hid hl1;clear hb5 hb6 hl0 hl1
       go_wp2_with fail
       go_meet
       first|exact⟨bb,rfl,⟨HL0.out,HL1.out⟩,hh5,hR5,hR6,hB5⟩|exact⟨⟨HL0.out,HL1.out⟩,hh5,hR5,hR6,hB5⟩|exact⟨bb,by simp,⟨HL0.out,HL1.out⟩,hh5,hR5,hR6,hB5⟩
     ·have hd:decide ((k1:Int)+1<m)=false:=by simp;omega
      have hwr:IntKind.i64.wrap ((k1:Int)+1)=(k1:Int)+1:=IntWalk.i64_in _ (by omega);have hlen:=hh.len;have hl0:Least d0 lt L2 i (2*i+1):=least_left HO.out (by have:=HK1.out;omega) (fun h=>absurd h (by have:=HK1.out;omega));have HL0:=hid hl0;clear hl0 hlen hh;go_quiet (fail)
      go_wp2_with fail
      go_meet
      first|exact⟨false,rfl,⟨fun _=>HL0.out,fun h=>by cases h⟩,HHr.out.drewN _,HR2.out,HR3.out,⟨hB.os,hB.tape,hB.output,hB.size,hB.block⟩⟩|exact⟨⟨fun _=>HL0.out,fun h=>by cases h⟩,HHr.out.drewN _,HR2.out,HR3.out,⟨hB.os,hB.tape,hB.output,hB.size,hB.block⟩⟩
    case rest =>
     obtain⟨bb,rfl,⟨hl0,hl1⟩,hh2,hR2,hR3,hB2⟩:=hcut;clear c0 c1 hHs hSs hB hh HHr HR2 HR3;have hwr:IntKind.i64.wrap ((k1:Int)+1)=(k1:Int)+1:=IntWalk.i64_in _ (by omega);cases bb with
     |false =>
      have hL0:=hl0 rfl;have HL0:=hid hL0;clear hl0 hl1 hL0;go_upto_region 10 with fail;have hL:Least d0 lt L2 i k1:=by rw[HK1.out];exact HL0.out
      obtain⟨kk,hkk⟩:∃kk:Nat,k1=kk:=⟨_,rfl⟩;rw[hkk] at hL ⊢;have hkm:kk<m:=by have:=hL.kl;rw[hh2.len] at this;exact this
      have him:i<m:=by omega
      have hik:i<kk:=by have h0:=hL.k0;have h1:=par_lt h0;have h2:=hL.kp;omega
      obtain⟨T,a2,e2,hTe,_,_,_,hg2,c20,c21,f20,f21⟩:=hh2.at_ hkm;injection hTe with hTe;injection hTe with hTe _ _;subst hTe;obtain⟨T,a3,e3,hTe,_,_,_,hg3,c30,c31,f30,f31⟩:=hh2.at_ him;injection hTe with hTe;injection hTe with hTe _ _;subst hTe;have d0':=blk_cell hh2.blk 0;have d1':=blk_cell hh2.blk 1;simp only[zzG,zzH,zzI] at d0' d1';unfold fnOf at d0';have hHs:=hh2.lt;have hSs:S<wc.heap.size:=by have:=hR2;have:=lt_of_block this;omega
      have y1:(kk:Int)<m:=by omega
      have y2:(i:Int)<m:=by omega
      have y3:¬((kk:Int)<0):=by omega
      have y4:¬((i:Int)<0):=by omega
      have hne1:¬i*2=kk*2:=by have:=hL.k0;have:=par_lt this;have:=hL.kp;omega
      have hne2:¬i*2+1=kk*2+1:=by omega
      have hne3:¬i*2+1=kk*2:=by omega
      have hne4:¬i*2=kk*2+1:=by omega
      have hl:=fun W=>HL.out W a2 e2 a3 e3;have HH2:=hid hh2;have HG2:=hid hg2;have HG3:=hid hg3;have HLS:=hid hL;have HR2:=hid hR2;have HR3:=hid hR3;clear hg2 hg3 hh2 hL hkk hwr hR2 hR3;cases hlt2:lt (a2,e2) (a3,e3) with
      |false =>
       simp only[hlt2] at hl;have KL:=hid hl;have HLT:=hid hlt2;clear hl hlt2;go_wp2
       go_region_held3 (fun w'=>w'.cell? ⟨H,0,none⟩=some (.func (.func 60) #[] #[])/\w'.cell? ⟨H,1,none⟩=some (.slice (some ⟨S,0,none⟩) m c)/\w'.cell? ⟨S,kk*2,none⟩=some (.int .i64 a2)/\w'.cell? ⟨S,kk*2+1,none⟩=some (.int .i64 e2)/\w'.cell? ⟨S,i*2,none⟩=some (.int .i64 a3)/\w'.cell? ⟨S,i*2+1,none⟩=some (.int .i64 e3))
        (first
          |go_keep
          |(go_split_ands
            refine⟨?_,?_,?_,?_,?_,?_⟩
            ·(rw[cH];assumption)
            ·(rw[cH];assumption)
            ·(rw[cS];assumption)
            ·(rw[cS];assumption)
            ·(rw[cS];assumption)
            ·(rw[cS];assumption)))
        (first
          |(go_at_call 60;refine(KL.out _).mono ?_;rintro e w5 ⟨rfl,hb5⟩;have cH:=(keepAt hb5 (b:=H) hHs).1;have cS:=(keepAt hb5 (b:=S) hSs).1))
       all_goals
        clear cH cS;have hb6:Below wc.heap.size wc w5:=by first|exact hb5|exact(Below.refl _ _).drew.trans hb5
        have hfin:=HDN.out.done HO.out HLS.out (by rw[HG2.out,HG3.out];exact HLT.out);have hh5:=HH2.out.keep hb6;have hB5:=hB2.below hb6;have hR5:=blk_below HR2.out hb6 (lt_of_block HR2.out);have hR6:=blk_below HR3.out hb6 (lt_of_block HR3.out);have r0:=blk_cell hR5 0;have r1:=blk_cell hR5 1;have r2:=blk_cell hR6 0;have r3:=blk_cell hR6 1;have g0:=blk_free hR5 0;have g1:=blk_free hR5 1;simp only[zzG,zzH,zzI] at r0 r1 r2 r3;clear hb5 hb6 hR6;go_wp2;refine bodyPost_ret (v:= .agg #[.int .i64 p,.int .i64 q]) (by simp[results,Tryz.results63,go_sem,r0,r1,r2,r3,g0,g1]) rfl ?_;exact⟨p,q,L2,rfl,HG0.out,⟨hh5.hb,blk_far (blk_far hh5.blk (by dsimp only;omega) _) (by dsimp only;omega) _,(hh5.own.setCell (by simp[Value.ownBlock];omega) _).setCell (by simp[Value.ownBlock];omega) _,hh5.len⟩,(List.Perm.cons _ HPM.out).trans HPC.out,hfin,(hB5.setCell (by exact .inr (.inr zzL)) _).setCell (by exact .inr (.inr zzL)) _⟩
      |true =>
       simp only[hlt2] at hl;have KL:=hid hl;have HLT:=hid hlt2;clear hl hlt2;go_wp2
       go_region_held3 (fun w'=>w'.cell? ⟨H,0,none⟩=some (.func (.func 60) #[] #[])/\w'.cell? ⟨H,1,none⟩=some (.slice (some ⟨S,0,none⟩) m c)/\w'.cell? ⟨S,kk*2,none⟩=some (.int .i64 a2)/\w'.cell? ⟨S,kk*2+1,none⟩=some (.int .i64 e2)/\w'.cell? ⟨S,i*2,none⟩=some (.int .i64 a3)/\w'.cell? ⟨S,i*2+1,none⟩=some (.int .i64 e3))
        (first
          |go_keep
          |(go_split_ands
            refine⟨?_,?_,?_,?_,?_,?_⟩
            ·(rw[cH];assumption)
            ·(rw[cH];assumption)
            ·(rw[cS];assumption)
            ·(rw[cS];assumption)
            ·(rw[cS];assumption)
            ·(rw[cS];assumption)))
        (first
          |(go_at_call 60;refine(KL.out _).mono ?_;rintro e w5 ⟨rfl,hb5⟩;have cH:=(keepAt hb5 (b:=H) hHs).1;have cS:=(keepAt hb5 (b:=S) hSs).1))
       all_goals
        clear cH cS;have hb6:Below wc.heap.size wc w5:=by first|exact hb5|exact(Below.refl _ _).drew.trans hb5
        have hh5:=HH2.out.keep hb6;have hB5:=hB2.below hb6;have hR5:=blk_below HR2.out hb6 (lt_of_block HR2.out);have hR6:=blk_below HR3.out hb6 (lt_of_block HR3.out);obtain⟨cH,fH⟩:=keepAt hb6 (b:=H) hHs;obtain⟨cS,fS⟩:=keepAt hb6 (b:=S) hSs;have u0:=(cH 1).trans d1';have u1:=(cS _).trans c20;have u2:=(cS _).trans c21;have u3:=(cS _).trans c30;have u4:=(cS _).trans c31;have u5:=(fS _).trans f20;have u6':=(fS _).trans f21;have u7':=(fS _).trans f30;have u8':=(fS _).trans f31;have HH5:=hid hh5;have HR5:=hid hR5;have HR6:=hid hR6;clear hb5 hb6 cH fH cS fS d0' d1' c20 c21 c30 c31 f20 f21 f30 f31 hh5 hR5 hR6;go_wp2
        go_region
        all_goals
         go_wp2
         go_roundw
         case' rel =>
          have hln:L2.length=m:=HH5.out.len;have hst:=HDN.out.step HO.out HLS.out (by rw[HG2.out,HG3.out];exact HLT.out);exact⟨kk,swp d0 L2 i kk,by omega,rfl,(HH5.out.swap him hkm HG3.out HG2.out hSH).drewN 1,(swp_perm (by omega) (by omega) (by omega)).trans HPM.out,hst,blk_far (blk_far (blk_far (blk_far HR5.out (by dsimp only;omega) _) (by dsimp only;omega) _) (by dsimp only;omega) _) (by dsimp only;omega) _,blk_far (blk_far (blk_far (blk_far HR6.out (by dsimp only;omega) _) (by dsimp only;omega) _) (by dsimp only;omega) _) (by dsimp only;omega) _,((((hB5.setCell (by exact .inr (.inl rfl)) _).setCell (by exact .inr (.inl rfl)) _).setCell (by exact .inr (.inl rfl)) _).setCell (by exact .inr (.inl rfl)) _).drew⟩
         case' measure=>simp[intOf];omega
     |true =>
      have hL0:=hl1 rfl;have HL0:=hid hL0;clear hl0 hl1 hL0;go_upto_region 10 with fail;obtain⟨kk,hkk⟩:∃kk:Nat,kk=k1+1:=⟨_,rfl⟩;have hke:(k1:Int)+1=(kk:Int):=by omega
      have hL:Least d0 lt L2 i kk:=by rw[hkk,HK1.out];exact HL0.out
      rw[hke];have hkm:kk<m:=by have:=hL.kl;rw[hh2.len] at this;exact this
      have him:i<m:=by omega
      have hik:i<kk:=by have h0:=hL.k0;have h1:=par_lt h0;have h2:=hL.kp;omega
      obtain⟨T,a2,e2,hTe,_,_,_,hg2,c20,c21,f20,f21⟩:=hh2.at_ hkm;injection hTe with hTe;injection hTe with hTe _ _;subst hTe;obtain⟨T,a3,e3,hTe,_,_,_,hg3,c30,c31,f30,f31⟩:=hh2.at_ him;injection hTe with hTe;injection hTe with hTe _ _;subst hTe;have d0':=blk_cell hh2.blk 0;have d1':=blk_cell hh2.blk 1;simp only[zzG,zzH,zzI] at d0' d1';unfold fnOf at d0';have hHs:=hh2.lt;have hSs:S<wc.heap.size:=by have:=hR2;have:=lt_of_block this;omega
      have y1:(kk:Int)<m:=by omega
      have y2:(i:Int)<m:=by omega
      have y3:¬((kk:Int)<0):=by omega
      have y4:¬((i:Int)<0):=by omega
      have hne1:¬i*2=kk*2:=by have:=hL.k0;have:=par_lt this;have:=hL.kp;omega
      have hne2:¬i*2+1=kk*2+1:=by omega
      have hne3:¬i*2+1=kk*2:=by omega
      have hne4:¬i*2=kk*2+1:=by omega
      have hl:=fun W=>HL.out W a2 e2 a3 e3;have HH2:=hid hh2;have HG2:=hid hg2;have HG3:=hid hg3;have HLS:=hid hL;have HR2:=hid hR2;have HR3:=hid hR3;clear hg2 hg3 hh2 hL hkk hke hwr hR2 hR3;cases hlt2:lt (a2,e2) (a3,e3) with
      |false =>
       simp only[hlt2] at hl;have KL:=hid hl;have HLT:=hid hlt2;clear hl hlt2;go_wp2
       go_region_held3 (fun w'=>w'.cell? ⟨H,0,none⟩=some (.func (.func 60) #[] #[])/\w'.cell? ⟨H,1,none⟩=some (.slice (some ⟨S,0,none⟩) m c)/\w'.cell? ⟨S,kk*2,none⟩=some (.int .i64 a2)/\w'.cell? ⟨S,kk*2+1,none⟩=some (.int .i64 e2)/\w'.cell? ⟨S,i*2,none⟩=some (.int .i64 a3)/\w'.cell? ⟨S,i*2+1,none⟩=some (.int .i64 e3))
        (first
          |go_keep
          |(go_split_ands
            refine⟨?_,?_,?_,?_,?_,?_⟩
            ·(rw[cH];assumption)
            ·(rw[cH];assumption)
            ·(rw[cS];assumption)
            ·(rw[cS];assumption)
            ·(rw[cS];assumption)
            ·(rw[cS];assumption)))
        (first
          |(go_at_call 60;refine(KL.out _).mono ?_;rintro e w5 ⟨rfl,hb5⟩;have cH:=(keepAt hb5 (b:=H) hHs).1;have cS:=(keepAt hb5 (b:=S) hSs).1))
       all_goals
        clear cH cS;have hb6:Below wc.heap.size wc w5:=by first|exact hb5|exact(Below.refl _ _).drew.trans hb5
        have hfin:=HDN.out.done HO.out HLS.out (by rw[HG2.out,HG3.out];exact HLT.out);have hh5:=HH2.out.keep hb6;have hB5:=hB2.below hb6;have hR5:=blk_below HR2.out hb6 (lt_of_block HR2.out);have hR6:=blk_below HR3.out hb6 (lt_of_block HR3.out);have r0:=blk_cell hR5 0;have r1:=blk_cell hR5 1;have r2:=blk_cell hR6 0;have r3:=blk_cell hR6 1;have g0:=blk_free hR5 0;have g1:=blk_free hR5 1;simp only[zzG,zzH,zzI] at r0 r1 r2 r3;clear hb5 hb6 hR6;go_wp2;refine bodyPost_ret (v:= .agg #[.int .i64 p,.int .i64 q]) (by simp[results,Tryz.results63,go_sem,r0,r1,r2,r3,g0,g1]) rfl ?_;exact⟨p,q,L2,rfl,HG0.out,⟨hh5.hb,blk_far (blk_far hh5.blk (by dsimp only;omega) _) (by dsimp only;omega) _,(hh5.own.setCell (by simp[Value.ownBlock];omega) _).setCell (by simp[Value.ownBlock];omega) _,hh5.len⟩,(List.Perm.cons _ HPM.out).trans HPC.out,hfin,(hB5.setCell (by exact .inr (.inr zzL)) _).setCell (by exact .inr (.inr zzL)) _⟩
      |true =>
       simp only[hlt2] at hl;have KL:=hid hl;have HLT:=hid hlt2;clear hl hlt2;go_wp2
       go_region_held3 (fun w'=>w'.cell? ⟨H,0,none⟩=some (.func (.func 60) #[] #[])/\w'.cell? ⟨H,1,none⟩=some (.slice (some ⟨S,0,none⟩) m c)/\w'.cell? ⟨S,kk*2,none⟩=some (.int .i64 a2)/\w'.cell? ⟨S,kk*2+1,none⟩=some (.int .i64 e2)/\w'.cell? ⟨S,i*2,none⟩=some (.int .i64 a3)/\w'.cell? ⟨S,i*2+1,none⟩=some (.int .i64 e3))
        (first
          |go_keep
          |(go_split_ands
            refine⟨?_,?_,?_,?_,?_,?_⟩
            ·(rw[cH];assumption)
            ·(rw[cH];assumption)
            ·(rw[cS];assumption)
            ·(rw[cS];assumption)
            ·(rw[cS];assumption)
            ·(rw[cS];assumption)))
        (first
          |(go_at_call 60;refine(KL.out _).mono ?_;rintro e w5 ⟨rfl,hb5⟩;have cH:=(keepAt hb5 (b:=H) hHs).1;have cS:=(keepAt hb5 (b:=S) hSs).1))
       all_goals
        clear cH cS;have hb6:Below wc.heap.size wc w5:=by first|exact hb5|exact(Below.refl _ _).drew.trans hb5
        have hh5:=HH2.out.keep hb6;have hB5:=hB2.below hb6;have hR5:=blk_below HR2.out hb6 (lt_of_block HR2.out);have hR6:=blk_below HR3.out hb6 (lt_of_block HR3.out);obtain⟨cH,fH⟩:=keepAt hb6 (b:=H) hHs;obtain⟨cS,fS⟩:=keepAt hb6 (b:=S) hSs;have u0:=(cH 1).trans d1';have u1:=(cS _).trans c20;have u2:=(cS _).trans c21;have u3:=(cS _).trans c30;have u4:=(cS _).trans c31;have u5:=(fS _).trans f20;have u6':=(fS _).trans f21;have u7':=(fS _).trans f30;have u8':=(fS _).trans f31;have HH5:=hid hh5;have HR5:=hid hR5;have HR6:=hid hR6;clear hb5 hb6 cH fH cS fS d0' d1' c20 c21 c30 c31 f20 f21 f30 f31 hh5 hR5 hR6;go_wp2
        go_region
        all_goals
         go_wp2
         go_roundw
         case' rel =>
          have hln:L2.length=m:=HH5.out.len;have hst:=HDN.out.step HO.out HLS.out (by rw[HG2.out,HG3.out];exact HLT.out);exact⟨kk,swp d0 L2 i kk,by omega,rfl,(HH5.out.swap him hkm HG3.out HG2.out hSH).drewN 1,(swp_perm (by omega) (by omega) (by omega)).trans HPM.out,hst,blk_far (blk_far (blk_far (blk_far HR5.out (by dsimp only;omega) _) (by dsimp only;omega) _) (by dsimp only;omega) _) (by dsimp only;omega) _,blk_far (blk_far (blk_far (blk_far HR6.out (by dsimp only;omega) _) (by dsimp only;omega) _) (by dsimp only;omega) _) (by dsimp only;omega) _,((((hB5.setCell (by exact .inr (.inl rfl)) _).setCell (by exact .inr (.inl rfl)) _).setCell (by exact .inr (.inl rfl)) _).setCell (by exact .inr (.inl rfl)) _).drew⟩
         case' measure=>simp[intOf];omega
   ·have hln:=hh.len
    have hfin:=HDN.out.leaf (by omega);have r0:=blk_cell hR2 0;have r1:=blk_cell hR2 1;have r2:=blk_cell hR3 0;have r3:=blk_cell hR3 1;have g0:=blk_free hR2 0;have g1:=blk_free hR2 1;simp only[zzG,zzH,zzI] at r0 r1 r2 r3;have hd:¬(2*(i:Int)+1<m):=by omega
    have HHr:=hid hh;have hHl:=hh.lt;have hwl:=lt_of_block hR2;clear hh hln hR2 hR3;go_wp2;refine bodyPost_ret (v:= .agg #[.int .i64 p,.int .i64 q]) (by simp[results,Tryz.results63,go_sem,r0,r1,r2,r3,g0,g1]) rfl ?_;exact⟨p,q,L2,rfl,HG0.out,⟨HHr.out.hb,blk_far (blk_far HHr.out.blk (by dsimp only;omega) _) (by dsimp only;omega) _,(HHr.out.own.setCell (by simp[Value.ownBlock];omega) _).setCell (by simp[Value.ownBlock];omega) _,HHr.out.len⟩,(List.Perm.cons _ HPM.out).trans HPC.out,hfin,(hB.setCell (by exact .inr (.inr zzL)) _).setCell (by exact .inr (.inr zzL)) _⟩
end Heap
namespace BellLaw
open NetLaw
def far:Int:=1099511627776
abbrev St:=List Int × List Int × Int
def dg (D:List Int) (v:Int):Int:=D.getD v.toNat 0
def rx (s:St) (e:Int × Int × Int):St :=
 if dg s.1 e.1<far/\dg s.1 e.1+e.2.2<dg s.1 e.2.1 then (s.1.set e.2.1.toNat (dg s.1 e.1+e.2.2),s.2.1.set e.2.1.toNat e.1,e.2.1) else s
def pass (l:List (Int × Int × Int)) (s:St):St:=l.foldl rx (s.1,s.2.1,-1)
def relax (l:List (Int × Int × Int)):Nat->St->St
 |0,s=>s
 |k+1,s=>if (pass l s).2.2<0 then pass l s else relax l k (pass l s)
theorem fold_still {l:List (Int × Int × Int)} (ht:∀e∈l,0<=e.2.1) (s:St) (h:(l.foldl rx s).2.2<0):l.foldl rx s=s/\∀e∈l,¬(dg s.1 e.1<far/\dg s.1 e.1+e.2.2<dg s.1 e.2.1):=by
 induction l generalizing s with
 |nil=>exact⟨rfl,by simp⟩
 |cons e r ih =>
  rw[List.foldl_cons] at h ⊢;obtain⟨h1,h2⟩:=ih (fun x hx=>ht x (List.mem_cons_of_mem _ hx)) _ h;rw[h1] at h ⊢;have he:=ht e (List.mem_cons_self ..)
  by_cases hc:dg s.1 e.1<far/\dg s.1 e.1+e.2.2<dg s.1 e.2.1
  ·rw[rx,if_pos hc] at h
   simp only at h;omega
  ·have hs:rx s e=s:=by rw[rx,if_neg hc]
   rw[hs] at h2 ⊢;refine⟨rfl,fun x hx=> ?_⟩;rcases List.mem_cons.1 hx with rfl|hx
   ·exact hc
   ·exact h2 x hx
inductive Wk (l:List (Int × Int × Int)) (fr:Int):Int->Int->Prop
 |here:Wk l fr fr 0
 |step {u d:Int} {e:Int × Int × Int}:Wk l fr u d->e∈l->e.1=u->Wk l fr e.2.1 (d+e.2.2)
theorem dg_set {D:List Int} {t v x:Int} (ht:0<=t) (htl:t<D.length) (hv:0<=v):dg (D.set t.toNat x) v=if v=t then x else dg D v:=by
 unfold dg;rw[List.getD_eq_getElem?_getD,List.getD_eq_getElem?_getD]
 by_cases e:v=t
 ·subst e
  rw[if_pos rfl,List.getElem?_set_self (by omega)]
  rfl
 ·rw[if_neg e,List.getElem?_set_ne (by omega)]
structure J (N:Int) (l:List (Int × Int × Int)) (fr:Int) (D:List Int):Prop where
 len:(D.length:Int)=N
 hi:∀v,0<=v->v<N->dg D v<=far
 start:dg D fr<=0
 wk:∀v,0<=v->v<N->dg D v<far->Wk l fr v (dg D v)
 back:∀v,0<=v->v<N->v≠fr->dg D v<far->∃e∈l,e.2.1=v/\dg D e.1<far/\dg D e.1+e.2.2<=dg D v
theorem J.rx_ {N fr:Int} {l:List (Int × Int × Int)} {s:St} {e:Int × Int × Int} (h:J N l fr s.1) (he:e∈l) (hends:∀e∈l,0<=e.1/\e.1<N/\0<=e.2.1/\e.2.1<N) (hfr:0<=fr):J N l fr (rx s e).1:=by
 unfold rx
 by_cases hc:dg s.1 e.1<far/\dg s.1 e.1+e.2.2<dg s.1 e.2.1
 ·rw[if_pos hc]
  show J N l fr (s.1.set e.2.1.toNat (dg s.1 e.1+e.2.2))
  obtain⟨a0,a1,a2,a3⟩:=hends e he;have hl:=h.len;have hs:=fun v hv=>dg_set (D:=s.1) (t:=e.2.1) (v:=v) (x:=dg s.1 e.1+e.2.2) a2 (by omega) hv
  have hle:∀v,0<=v->dg (s.1.set e.2.1.toNat (dg s.1 e.1+e.2.2)) v<=dg s.1 v:=fun v hv=>by
   rw[hs v hv];split
   ·rename_i h;subst h;omega
   ·exact Int.le_refl _
  refine⟨by rw[List.length_set];exact hl,fun v v0 v1=>Int.le_trans (hle v v0) (h.hi v v0 v1),Int.le_trans (hle fr hfr) h.start,fun v v0 v1 hv=> ?_,fun v v0 v1 hvf hv=> ?_⟩
  ·rw[hs v v0]
   split
   ·rename_i hvt
    subst hvt;exact Wk.step (h.wk e.1 a0 a1 hc.1) he rfl
   ·rename_i hvt
    rw[hs v v0,if_neg hvt] at hv;exact h.wk v v0 v1 hv
  ·by_cases hvt:v=e.2.1
   ·refine⟨e,he,hvt.symm,Int.lt_of_le_of_lt (hle _ a0) hc.1,?_⟩
    have:=hle e.1 a0;rw[hs v v0,if_pos hvt];omega
   ·rw[hs v v0,if_neg hvt] at hv ⊢
    obtain⟨x,hx,x1,x2,x3⟩:=h.back v v0 v1 hvf hv;have:=hle x.1 (hends x hx).1;exact⟨x,hx,x1,by omega,by omega⟩
 ·rw[if_neg hc];exact h
theorem J.fold {N fr:Int} {l:List (Int × Int × Int)} (hends:∀e∈l,0<=e.1/\e.1<N/\0<=e.2.1/\e.2.1<N) (hfr:0<=fr) (r:List (Int × Int × Int)) (hr:∀e∈r,e∈l) (s:St) (h:J N l fr s.1):J N l fr (r.foldl rx s).1:=by
 induction r generalizing s with
 |nil=>exact h
 |cons e r ih =>
  rw[List.foldl_cons];exact ih (fun x hx=>hr x (List.mem_cons_of_mem _ hx)) _ (h.rx_ (hr e (List.mem_cons_self ..)) hends hfr)
theorem J.relax_ {N fr:Int} {l:List (Int × Int × Int)} (hends:∀e∈l,0<=e.1/\e.1<N/\0<=e.2.1/\e.2.1<N) (hfr:0<=fr) (k:Nat) (s:St) (h:J N l fr s.1):J N l fr (relax l k s).1:=by
 induction k generalizing s with
 |zero=>exact h
 |succ k ih =>
  have hp:J N l fr (pass l s).1:=J.fold hends hfr l (fun _ he=>he) _ h;rw[relax];split
  ·exact hp
  ·exact ih _ hp
theorem relax_still {l:List (Int × Int × Int)} (ht:∀e∈l,0<=e.2.1) (k:Nat) (hk:0<k) (s:St) (h:(relax l k s).2.2<0):∀e∈l,¬(dg (relax l k s).1 e.1<far/\dg (relax l k s).1 e.1+e.2.2<dg (relax l k s).1 e.2.1):=by
 induction k generalizing s with
 |zero=>omega
 |succ k ih =>
  rw[relax] at h ⊢;split at h
  ·rename_i hp
   rw[if_pos hp];obtain⟨h1,h2⟩:=fold_still ht (s.1,s.2.1,-1) hp;have:pass l s=(s.1,s.2.1,-1):=h1;rw[this];exact h2
  ·rename_i hp
   rw[if_neg hp];rcases Nat.eq_zero_or_pos k with rfl|hk'
   ·rw[relax] at h;exact absurd h hp
   ·exact ih hk' _ h
def Bd (N:Int) (D:List Int) (C:Int):Prop:=∀v,0<=v->v<N->dg D v<far-> -C<=dg D v/\dg D v<=C
theorem walk_le {N fr C:Int} {l:List (Int × Int × Int)} {D:List Int} (h:J N l fr D) (hends:∀e∈l,0<=e.1/\e.1<N/\0<=e.2.1/\e.2.1<N) (hcost:∀e∈l,-10000<=e.2.2/\e.2.2<=10000) (hb:Bd N D C) (hC:C+10000<far) (hfr:0<=fr) (hfr2:fr<N)
 (hst:∀e∈l,¬(dg D e.1<far/\dg D e.1+e.2.2<dg D e.2.1)) {v d:Int} (hw:Wk l fr v d):(0<=v/\v<N)/\dg D v<far/\dg D v<=dg D fr+d:=by
 induction hw with
 |here=>exact⟨⟨hfr,hfr2⟩,by have:=h.start;unfold far;omega,by omega⟩
 |step hu he hf ih =>
  subst hf;obtain⟨⟨u0,u1⟩,u2,u3⟩:=ih;have a:=hends _ he;have b:=hcost _ he;have c:=hb _ u0 u1 u2;have s:=hst _ he;exact⟨⟨a.2.2.1,a.2.2.2⟩,by omega,by omega⟩
theorem tight {N fr C:Int} {l:List (Int × Int × Int)} {D:List Int} (h:J N l fr D) (hends:∀e∈l,0<=e.1/\e.1<N/\0<=e.2.1/\e.2.1<N) (hcost:∀e∈l,-10000<=e.2.2/\e.2.2<=10000) (hb:Bd N D C) (hC:C+10000<far) (hfr:0<=fr) (hfr2:fr<N)
 (hst:∀e∈l,¬(dg D e.1<far/\dg D e.1+e.2.2<dg D e.2.1)) :
 dg D fr=0/\∀v,0<=v->v<N->v≠fr->dg D v<far->∃e∈l,e.2.1=v/\dg D e.1<far/\dg D e.1+e.2.2=dg D v:=by
 have hs:=h.start;have hw:=h.wk fr hfr hfr2 (by unfold far;omega);have hz:=(walk_le h hends hcost hb hC hfr hfr2 hst hw).2.2;refine⟨by omega,fun v v0 v1 hv hd=> ?_⟩;obtain⟨e,he,e1,e2,e3⟩:=h.back v v0 v1 hv hd;have:=hst e he;subst e1;exact⟨e,he,rfl,e2,by omega⟩
theorem Bd.more {N C C':Int} {D:List Int} (h:Bd N D C) (hC:C<=C'):Bd N D C':=fun v v0 v1 hv=>by have:=h v v0 v1 hv;omega
theorem Bd.rx_ {N C:Int} {s:St} {e:Int × Int × Int} (h:Bd N s.1 C) (hl:(s.1.length:Int)=N) (he:0<=e.1/\e.1<N/\0<=e.2.1/\e.2.1<N) (hc: -10000<=e.2.2/\e.2.2<=10000):Bd N (rx s e).1 (C+10000)/\((rx s e).1.length:Int)=N/\(rx s e).2.1.length=s.2.1.length:=by
 unfold rx
 by_cases hh:dg s.1 e.1<far/\dg s.1 e.1+e.2.2<dg s.1 e.2.1
 ·rw[if_pos hh]
  refine⟨fun v v0 v1 hv=> ?_,by simpa using hl,by simp⟩;have hs:=dg_set (D:=s.1) (t:=e.2.1) (v:=v) (x:=dg s.1 e.1+e.2.2) he.2.2.1 (by omega) v0;simp only at hv ⊢;rw[hs] at hv ⊢;split at hv
  ·rename_i hvt
   rw[if_pos hvt];have:=h e.1 he.1 he.2.1 hh.1;omega
  ·rename_i hvt
   rw[if_neg hvt];have:=h v v0 v1 hv;omega
 ·rw[if_neg hh]
  exact⟨h.more (by omega),hl,rfl⟩
theorem Bd.fold {N:Int} {l:List (Int × Int × Int)} (hends:∀e∈l,0<=e.1/\e.1<N/\0<=e.2.1/\e.2.1<N) (hcost:∀e∈l,-10000<=e.2.2/\e.2.2<=10000) (r:List (Int × Int × Int)) (hr:∀e∈r,e∈l) (C:Int) (s:St) (h:Bd N s.1 C) (hl:(s.1.length:Int)=N) :
 Bd N (r.foldl rx s).1 (C+r.length*10000)/\((r.foldl rx s).1.length:Int)=N/\(r.foldl rx s).2.1.length=s.2.1.length:=by
 induction r generalizing s C with
 |nil=>exact⟨h.more (by simp),hl,rfl⟩
 |cons e r ih =>
  rw[List.foldl_cons];obtain⟨b1,b2,b3⟩:=h.rx_ hl (hends e (hr e (List.mem_cons_self ..))) (hcost e (hr e (List.mem_cons_self ..)));obtain⟨c1,c2,c3⟩:=ih (fun x hx=>hr x (List.mem_cons_of_mem _ hx)) _ _ b1 b2;exact⟨c1.more (by rw[List.length_cons];omega),c2,c3.trans b3⟩
end BellLaw
namespace Std
open Go.RowKit
theorem own_set1 {w:World} {base:Nat} {e:TypeId} {S c n:Nat} {l:List Int} (hn:l.length=n) (h:Own w base e 1 ci (.slice (some ⟨S,0,none⟩) n c) l) (k:Nat) (u:Int) :
 Own (w.setCell ⟨S,k,none⟩ (.int .i64 u)) base e 1 ci (.slice (some ⟨S,0,none⟩) n c) (l.set k u):=by
 subst hn;have hs:=World.ownsRow.stored h k (.int .i64 u);unfold Own;rw[List.length_set]
 have e:fl 1 ci (l.set k u)=(fl 1 ci l).set k (.int .i64 u):=by
  rw[fl_map,fl_map,List.map_set]
  rfl
 rw[e];exact hs.1
theorem own_at1 {w:World} {base:Nat} {e:TypeId} {S c n:Nat} {l:List Int} (hn:l.length=n) (h:Own w base e 1 ci (.slice (some ⟨S,0,none⟩) n c) l) {k:Nat} (hk:k<n) :
 w.cell? ⟨S,k,none⟩=some (.int .i64 (l.getD k 0))/\w.frozen? ⟨S,k,none⟩=false:=by
 subst hn;refine⟨(World.ownsRow.cellAt h k (by omega)).trans ?_,World.ownsRow.frozenAt h k⟩;rw[fl_map,List.getElem?_map,List.getElem?_eq_getElem hk,List.getD_eq_getElem?_getD,List.getElem?_eq_getElem hk]
 rfl
theorem own_form1 {w:World} {base:Nat} {e:TypeId} {A:Option Addr} {c n:Nat} {l:List Int} (hn:l.length=n) (h0:0<n) (h:Own w base e 1 ci (.slice A n c) l):∃S,A=some ⟨S,0,none⟩/\base<=S/\S<w.heap.size:=by
 rcases h.2 with ⟨hv,h1⟩|⟨g',cap,cur,hv,hg,hh,hc,_⟩
 ·omega
 ·injection hv with hv _ _
  exact⟨g',hv,hg,lt_of_block hh⟩
def sw (l:List Int) (k:Nat):List Int:=(List.range l.length).map fun x=>if x<k\/l.length<=x+k then l.getD (l.length - 1 - x) 0 else l.getD x 0
theorem sw_len (l:List Int) (k:Nat):(sw l k).length=l.length:=by simp[sw]
theorem sw_get {l:List Int} {k x:Nat} (h:x<(sw l k).length):(sw l k)[x]=if x<k\/l.length<=x+k then l.getD (l.length - 1 - x) 0 else l.getD x 0:=by simp[sw]
theorem sw_zero (l:List Int):sw l 0=l:=by
 refine List.ext_getElem (sw_len l 0) fun i h1 h2=> ?_;rw[sw_get,if_neg (by omega)];simp[h2]
theorem sw_end {l:List Int} {k:Nat} (h:l.length<=2*k+1) (h2:2*k<=l.length+1):sw l k=l.reverse:=by
 refine List.ext_getElem (by rw[sw_len,List.length_reverse]) fun i h1 h2=> ?_;rw[sw_len] at h1;rw[sw_get,List.getElem_reverse];split
 ·rw[List.getD_eq_getElem?_getD,List.getElem?_eq_getElem (by omega)];rfl
 ·have:i=l.length - 1 - i:=by omega
  rw[List.getD_eq_getElem?_getD,List.getElem?_eq_getElem (by omega)];simp only[Option.getD_some]
  congr 1
theorem sw_step {l:List Int} {k:Nat} (h:2*k+1<l.length) {x y:Int} (hx:x=l.getD k 0) (hy:y=l.getD (l.length - 1 - k) 0):((sw l k).set k y).set (l.length - 1 - k) x=sw l (k+1):=by
 refine List.ext_getElem (by simp[sw_len]) fun i h1 h2=> ?_;simp only[List.length_set,sw_len] at h1;rw[sw_get,List.getElem_set,List.getElem_set]
 by_cases e1:l.length - 1 - k=i
 ·rw[if_pos e1,if_pos (by omega),hx]
  congr 1
  omega
 ·rw[if_neg e1]
  by_cases e2:k=i
  ·rw[if_pos e2,if_pos (by omega),hy]
   congr 1
   omega
  ·rw[if_neg e2,sw_get]
   by_cases e3:i<k\/l.length<=i+k
   ·rw[if_pos e3,if_pos (by omega)]
   ·rw[if_neg e3,if_neg (by omega)]
end Std
namespace Grid
open Go.RowKit
theorem made_list (n:Nat):(madeCells #[.int .i64 0] n).toList=fl 1 ci (List.replicate n 0):=by
 rw[fl_map];refine List.ext_getElem (by simp[madeCells]) fun i h1 h2=> ?_;simp[madeCells,ci,Nat.mod_one]
theorem own_made (n base:Nat) (w:World) (hb:base<=w.heap.size) (hn:n<=64) {g:Nat} (hg:w.heap.size=g):Own (w.alloc (.cells (madeCells #[.int .i64 0] n) 3)) base 3 1 ci (.slice (some ⟨g,0,none⟩) n n) (List.replicate n 0):=by
 subst hg;obtain⟨i,hi,hzz⟩:=Option.map_eq_some_iff.1 (show (Tryz.prog.info? 3).map (fun i=>(i.zero,i.size,i.bytes))=some (some (.int .i64 0),1,8) by kernel_rfl);simp only[Prod.mk.injEq] at hzz;obtain⟨hz,hs,hby⟩:=hzz;obtain⟨w',hr,ho,_⟩:=run_make_full (P:=Tryz.prog) w base 25 3 i (.int .i64 0) 1 Tryz.underlying25 hi hz hs .i64 .i64 n (by rw[hby];omega) (by unfold maxLen;omega) hb;rw[run_make_row' (P:=Tryz.prog) 25 3 (.int .i64 0) 8 Tryz.underlying25 (by kernel_rfl) rfl .i64 .i64 n (by omega) (by omega)] at hr;injection hr with _ hw;subst hw;unfold Own;rw[List.length_replicate, <-made_list];have e:n*1=n:=Nat.mul_one n;rw[e] at ho;exact ho
end Grid
end Go.Proofs.YtjebckehmmbkbaaGreat
