/- The walks of package ratio: what each function answers. The walk of weigh.Weight; three boxes. The walks of weigh.Weight, weigh.Key and weigh.Run. What a law wants of weigh.Run: the answers, one by one. star.Run and weigh.Run (of weight one): the cost, or that there is no way. Plain: with costs above 0 what lies between tells the same as Dijkstra. Plain facts on the net turned round: no Go in sigh -/
import Derived.Test.YtjebckehmmbkbaaGreatVRatioLaw
import Derived.Test.YtjebckehmmbkbaaGreatVStarUse
set_option linter.unusedSimpArgs false
set_option linter.unusedVariables false
set_option maxRecDepth 100000
set_option maxHeartbeats 24000000
namespace Go.Proofs.YtjebckehmmbkbaaGreat
namespace Ratio
open Go.RowKit RatioLaw
theorem tdiv_of {a b:Int} {g:Nat} (h:g=Int.gcd a b):a.tdiv (g:Int)=a / (g:Int):=by
 subst h;exact Int.tdiv_eq_ediv_of_dvd (Int.gcd_dvd_left a b)
theorem gcd_any (a b:Int) (w:World) (ha: -4000000000000<=a) (ha':a<=4000000000000) (hb: -4000000000000<=b) (hb':b<=4000000000000) :
 Calls Tryz.prog 105 #[.int .i64 a,.int .i64 b] w fun e w'=>e= .returned (.int .i64 (Int.gcd a b))/\∃n,w'=w.drewN n:=by
 go_enter Tryz.func105,Tryz.ntmps105;go_wp2
 go_loopw [0,1] (fun x y wr=>∃a' b':Int,x= .int .i64 a'/\y= .int .i64 b'/\ -4000000000000<=a'/\a'<=4000000000000/\ -4000000000000<=b'/\b'<=4000000000000/\Int.gcd a' b'=Int.gcd a b/\∃n,wr=w.drewN n) (fun _ y _=>(intOf y).natAbs)
 case atStart=>exact⟨a,b,rfl,rfl,ha,ha',hb,hb',rfl,0,rfl⟩
 case round =>
  obtain⟨a',b',rfl,rfl,h1,h2,h3,h4,hg,n,rfl⟩:=hrel;have HG:=hid hg;clear hg
  by_cases hz:b'=0
  ·subst hz
   go_wp2
   all_goals
    go_ret;exact⟨ret_int (by have:=HG.out;rw[Int.gcd_zero_right] at this;omega),n,rfl⟩
  ·go_wp2
   go_quiet (fail);go_wp2
   go_roundw
   case rel =>
    have ht:=tmod_lt a' hz;exact⟨b',a'.tmod b',rfl,rfl,h3,h4,by omega,by omega,by rw[gcd_tmod];exact HG.out,n+nq,World.drewN_drewN _ _ _⟩
   case measure=>exact tmod_lt a' hz
theorem within_any (a:Int) (r:Bool) (w:World) (hr:decide (-1000000<=a/\a<=1000000)=r) :
 Calls Tryz.prog 102 #[.int .i64 a] w fun e w'=>e= .returned (.bool r)/\w=w':=by
 subst hr
 by_cases h1: -1000000<=a
 ·by_cases h2:a<=1000000
  ·go_enter Tryz.func102,Tryz.ntmps102
   go_wp2;go_ret;exact⟨by simp[h1,h2],rfl⟩
  ·go_enter Tryz.func102,Tryz.ntmps102
   go_wp2;go_ret;exact⟨by simp;omega,rfl⟩
 ·go_enter Tryz.func102,Tryz.ntmps102
  go_wp2;go_ret;exact⟨by simp;omega,rfl⟩
theorem least_any (a b:Int) (w:World) (ha: -2000000000000<=a) (ha':a<=2000000000000) (hb:1<=b) (hb':b<=1000000000000) :
 Calls Tryz.prog 103 #[.int .i64 a,.int .i64 b] w fun e w'=>e= .returned (.agg #[.int .i64 (a / (Int.gcd a b:Int)),.int .i64 (b / (Int.gcd a b:Int))])/\Below w.heap.size w w':=by
 have hp:=gcd_pos (n:=a) hb;have hl:=gcd_le (n:=a) hb;have hnn:(0:Int)<=(Int.gcd a b:Int):=by omega
 obtain⟨g,hg⟩:∃g:Nat,g=Int.gcd a b:=⟨_,rfl⟩;rw[<-hg] at hp hl hnn ⊢;have HG:=hid hg;clear hg;go_enter Tryz.func103,Tryz.ntmps103
 go_wp2_with (go_at_call 105;refine(gcd_any _ _ _ (by omega) (by omega) (by omega) (by omega)).mono ?_;rintro e w' ⟨rfl,n,rfl⟩;rw[<-HG.out])
 go_region
 go_wp2;refine bodyPost_ret (v:= .agg #[.int .i64 (a / (g:Int)),.int .i64 (b / (g:Int))]) (by simp[results,Tryz.results103,go_sem,tdiv_of HG.out]) rfl ⟨rfl,?_⟩;exact((below_drewN ((Below.refl _ _).alloc zzL _) _).setCell (by simp) _).setCell (by simp) _
theorem make_yes (a b:Int) (w:World) (h1: -1000000<=a) (h2:a<=1000000) (h3:1<=b) (h4:b<=1000000) :
 Calls Tryz.prog 91 #[.int .i64 a,.int .i64 b] w fun e w'=>e= .returned (.tuple #[.agg #[.int .i64 (a / (Int.gcd a b:Int)),.int .i64 (b / (Int.gcd a b:Int))],.int .i64 0])/\Below w.heap.size w w':=by
 go_enter Tryz.func91,Tryz.ntmps91
 go_wp2_with (first
  |(go_at_call 102;refine(within_any _ true _ (by simp;omega)).mono ?_;rintro e w' ⟨rfl,rfl⟩)
  |(go_at_call 103;refine(least_any _ _ _ (by omega) (by omega) (by omega) (by omega)).mono ?_;rintro e w1 ⟨rfl,hb⟩;obtain⟨hc,hf⟩:=bcell hb;have hz:w.heap.size<w1.heap.size:=by have:=hb.size;simp at this;omega))
 refine bodyPost_ret (v:= .tuple #[.agg #[.int .i64 (a / (Int.gcd a b:Int)),.int .i64 (b / (Int.gcd a b:Int))],.int .i64 0]) (by simp[results,Tryz.results91,go_sem,hc,hf,hz]) rfl ⟨rfl,?_⟩;exact((((Below.refl _ _).alloc zzL _).trans (hb.mono (by simp))).setCell (by simp) _).setCell (by simp) _
theorem make_no (a b:Int) (w:World) (h:¬(-1000000<=a/\a<=1000000/\1<=b/\b<=1000000)) :
 Calls Tryz.prog 91 #[.int .i64 a,.int .i64 b] w fun e w'=>e= .returned (.tuple #[.agg #[.int .i64 0,.int .i64 0],.int .i64 1])/\Below w.heap.size w w':=by
 by_cases h1:b<1
 ·clear h
  go_enter Tryz.func91,Tryz.ntmps91;go_wp2;refine bodyPost_ret (v:= .tuple #[.agg #[.int .i64 0,.int .i64 0],.int .i64 1]) (by simp[results,Tryz.results91,go_sem]) rfl ⟨rfl,?_⟩;exact((Below.refl _ _).alloc zzL _)
 ·by_cases h2: -1000000<=a/\a<=1000000
  ·have h3:¬(b<=1000000):=by omega
   clear h;go_enter Tryz.func91,Tryz.ntmps91
   go_wp2_with fail
   refine(within_any _ true _ (by simp;omega)).mono ?_;rintro e w' ⟨rfl,rfl⟩
   go_wp2_with fail
   refine(within_any _ false _ (by simp;omega)).mono ?_;rintro e w' ⟨rfl,rfl⟩;go_wp2;refine bodyPost_ret (v:= .tuple #[.agg #[.int .i64 0,.int .i64 0],.int .i64 1]) (by simp[results,Tryz.results91,go_sem]) rfl ⟨rfl,?_⟩;exact((Below.refl _ _).alloc zzL _)
  ·clear h
   go_enter Tryz.func91,Tryz.ntmps91
   go_wp2_with (go_at_call 102;refine(within_any _ false _ (by simp;omega)).mono ?_;rintro e w' ⟨rfl,rfl⟩)
   refine bodyPost_ret (v:= .tuple #[.agg #[.int .i64 0,.int .i64 0],.int .i64 1]) (by simp[results,Tryz.results91,go_sem]) rfl ⟨rfl,?_⟩;exact((Below.refl _ _).alloc zzL _)
theorem check_yes (a b:Int) (w:World) (h:Ok a b) :
 Calls Tryz.prog 72 #[.agg #[.int .i64 a,.int .i64 b]] w fun e w'=>e= .returned (.int .i64 0)/\Below w.heap.size w w':=by
 obtain⟨h1,h2,h3,h4,h5⟩:=h;have key:=fun W=>make_yes a b W h3 h4 h1 h2;rw[h5] at key;simp only[Int.natCast_one,Int.ediv_one] at key;have KEY:=hid key;clear key h5;go_enter Tryz.func72,Tryz.ntmps72
 go_wp2_with fail
 refine(KEY.out _).mono ?_;rintro e w1 ⟨rfl,hb⟩;obtain⟨hc,hf,_⟩:=bafter hb;have hz:w.heap.size<w1.heap.size:=by have:=hb.size;simp at this;omega
 have hB:Below w.heap.size w w1:=((Below.refl _ _).alloc zzL _).trans (hb.mono (by simp));go_wp2;go_ret;exact⟨rfl,hB.alloc hB.size _⟩
theorem check_no (a b:Int) (w:World) (h:¬Ok a b) :
 Calls Tryz.prog 72 #[.agg #[.int .i64 a,.int .i64 b]] w fun e w'=>e= .returned (.int .i64 3)/\Below w.heap.size w w':=by
 by_cases h': -1000000<=a/\a<=1000000/\1<=b/\b<=1000000
 ·have hg:Int.gcd a b≠1:=fun hg=>h ⟨h'.2.2.1,h'.2.2.2,h'.1,h'.2.1,hg⟩
  have hp:=gcd_pos (n:=a) h'.2.2.1;have key:=fun W=>make_yes a b W h'.1 h'.2.1 h'.2.2.1 h'.2.2.2
  have hne:(b / (Int.gcd a b:Int) == b)=false:=by
   rw[beq_eq_false_iff_ne];intro he;have hl:=(lowest (n:=a) h'.2.2.1).2.2.2;rw[he] at hl;have:b*(Int.gcd a b:Int)=b*1:=by omega
   have:=Int.eq_of_mul_eq_mul_left (by omega) this;omega
  have KEY:=hid key;clear key h hg;generalize a / (Int.gcd a b:Int)=a1 at KEY;generalize b / (Int.gcd a b:Int)=b1 at KEY hne;clear hp;go_enter Tryz.func72,Tryz.ntmps72
  go_wp2_with fail
  refine(KEY.out _).mono ?_;rintro e w1 ⟨rfl,hb⟩;obtain⟨hc,hf,_⟩:=bafter hb;have hz:w.heap.size<w1.heap.size:=by have:=hb.size;simp at this;omega
  have hB:Below w.heap.size w w1:=((Below.refl _ _).alloc zzL _).trans (hb.mono (by simp));go_wp2;go_ret;exact⟨rfl,hB.alloc hB.size _⟩
 ·go_enter Tryz.func72,Tryz.ntmps72
  go_wp2_with fail
  refine(make_no _ _ _ h').mono ?_;rintro e w1 ⟨rfl,hb⟩;obtain⟨hc,hf,_⟩:=bafter hb;have hz:w.heap.size<w1.heap.size:=by have:=hb.size;simp at this;omega
  have hB:Below w.heap.size w w1:=((Below.refl _ _).alloc zzL _).trans (hb.mono (by simp));clear h h';go_wp2;go_ret;exact⟨rfl,hB.alloc hB.size _⟩
end Ratio
namespace StarF
open Go.RowKit NetLaw BellLaw DijkLaw HeurLaw RatioLaw Net Dijk Go.Proofs.YtjebckehmmbkbaaGreat.Std Heur
def wgt (a b:Int):Int:=if 1<=b/\b<=1000000/\ -1000000<=a/\a<=1000000/\Int.gcd a b=1 then (if a<b then 1 else 0) else 3
theorem wgt_zero {a b:Int}:wgt a b=0 ↔ Ok a b/\b<=a:=by
 unfold wgt;split
 ·rename_i h
  obtain⟨h1,h2,h3,h4,h5⟩:=h;split
  ·exact⟨fun x=>by omega,fun x=>by omega⟩
  ·exact⟨fun _=>⟨⟨h1,h2,h3,h4,h5⟩,by omega⟩,fun _=>rfl⟩
 ·rename_i h
  exact⟨fun x=>by omega,fun x=>absurd x.1 h⟩
theorem weight_any (a b:Int) (w:World) :
 Calls Tryz.prog 35 #[.agg #[.int .i64 a,.int .i64 b]] w fun e w'=>e= .returned (.int .i64 (wgt a b))/\Below w.heap.size w w':=by
 have hw0:Below w.heap.size w (w.alloc (.cells #[.int .i64 a,.int .i64 b] 43)):=(Below.refl _ _).alloc zzL _;have hbox:=heap_alloc_new w (.cells #[.int .i64 a,.int .i64 b] 43);have HBOX:=hid hbox;clear hbox
 by_cases hok:1<=b/\b<=1000000/\ -1000000<=a/\a<=1000000/\Int.gcd a b=1
 ·have hp:wgt a b=if a<b then 1 else 0:=by unfold wgt;rw[if_pos hok]
  have key:=fun W=>Ratio.check_yes a b W hok;have KEY:=hid key;clear key hok
  by_cases hlt:a<b
  ·rw[if_pos hlt] at hp
   rw[hp];have hd:decide (a<b)=true:=decide_eq_true hlt;clear hp;go_enter Tryz.func35,Tryz.ntmps35
   go_wp2_with fail
   refine(KEY.out _).mono ?_;rintro e w1 ⟨rfl,hb1⟩;have H1:=hw0.trans (hb1.mono (by simp));have hb:=blk_below HBOX.out hb1 (by simp);have q0:=blk_cell hb 0;have q1:=blk_cell hb 1;simp only[zzG,zzH,zzI] at q0 q1;have hz:w.heap.size<w1.heap.size:=lt_of_block hb;clear hb hb1;go_wp2;go_ret;exact⟨rfl,H1⟩
  ·rw[if_neg hlt] at hp
   rw[hp];have hd:decide (a<b)=false:=decide_eq_false hlt;clear hp;go_enter Tryz.func35,Tryz.ntmps35
   go_wp2_with fail
   refine(KEY.out _).mono ?_;rintro e w1 ⟨rfl,hb1⟩;have H1:=hw0.trans (hb1.mono (by simp));have hb:=blk_below HBOX.out hb1 (by simp);have q0:=blk_cell hb 0;have q1:=blk_cell hb 1;simp only[zzG,zzH,zzI] at q0 q1;have hz:w.heap.size<w1.heap.size:=lt_of_block hb;clear hb hb1;go_wp2;go_ret;exact⟨rfl,H1⟩
 ·have hp:wgt a b=3:=by unfold wgt;rw[if_neg hok]
  have key:=fun W=>Ratio.check_no a b W hok;have KEY:=hid key;rw[hp];clear key hok hp;go_enter Tryz.func35,Tryz.ntmps35
  go_wp2_with fail
  refine(KEY.out _).mono ?_;rintro e w1 ⟨rfl,hb1⟩;have H1:=hw0.trans (hb1.mono (by simp));clear hb1;go_wp2;go_ret;exact⟨rfl,H1⟩
theorem wbox {w w9 W:World} {v0 v1 v2 v3 v4 v5 v6:Value} {k0 k1 k2:TypeId} (hbox:w9.heap[w.heap.size]?=some (.cells #[v0,v1] k0 (0,0))) (hrat:w9.heap[w.heap.size+1]?=some (.cells #[v2,v3] k1 (0,0))) (hres:w9.heap[w.heap.size+1+1]?=some (.cells #[v4,v5,v6] k2 (0,0))) (hw0:Below w.heap.size w w9) (hz0:w.heap.size+3=w9.heap.size) (hW:Below w9.heap.size w9 W) :
 (W.cell? ⟨w.heap.size,0,none⟩=some v0/\W.cell? ⟨w.heap.size,1,none⟩=some v1/\W.cell? ⟨w.heap.size+1,0,none⟩=some v2/\W.cell? ⟨w.heap.size+1,1,none⟩=some v3) /\
 (W.cell? ⟨w.heap.size+1+1,0,none⟩=some v4/\W.cell? ⟨w.heap.size+1+1,1,none⟩=some v5/\W.cell? ⟨w.heap.size+1+1,2,none⟩=some v6/\W.frozen? ⟨w.heap.size+1+1,0,none⟩=false/\W.frozen? ⟨w.heap.size+1+1,1,none⟩=false/\W.frozen? ⟨w.heap.size+1+1,2,none⟩=false) /\
 W.heap[w.heap.size+1+1]?=some (.cells #[v4,v5,v6] k2 (0,0))/\w.heap.size+3<=W.heap.size/\Below w.heap.size w W:=by
 have b0:=blk_below hbox hW (by omega);have b1:=blk_below hrat hW (by omega);have b2:=blk_below hres hW (by omega);have c0:=blk_cell b0 0;have c1:=blk_cell b0 1;have c2:=blk_cell b1 0;have c3:=blk_cell b1 1;have c4:=blk_cell b2 0;have c5:=blk_cell b2 1;have c6:=blk_cell b2 2;simp only[zzG,zzH,zzI] at c0 c1 c2 c3 c4 c5 c6;exact⟨⟨c0,c1,c2,c3⟩,⟨c4,c5,c6,blk_free b2 0,blk_free b2 1,blk_free b2 2⟩,b2,Nat.le_trans (Nat.le_of_eq hz0) hW.size,hw0.trans (hW.mono (by omega))⟩
end StarF
namespace StarF
open Go.RowKit NetLaw BellLaw DijkLaw HeurLaw StarLaw RatioLaw Net Dijk Go.Proofs.YtjebckehmmbkbaaGreat.Std Heur
theorem key_new (p q:Int) (w:World) :
 Calls Tryz.prog 36 #[.agg #[.int .i64 p,.int .i64 q]] w fun e w'=>∃Bw,e= .returned (StarW.FN Bw)/\StarW.KOk w' w'.heap.size Bw q p/\Below w.heap.size w w':=by
 go_enter Tryz.func36,Tryz.ntmps36;go_wp2;go_ret;refine⟨w.heap.size,rfl,⟨by simp,by simp,by simp⟩,(Below.refl _ _).alloc zzL _⟩
theorem says_form {n f t:Nat} {l:List E} {hs:List Int} {q p:Int} {w w':World} {e:Ending} (h:StarW.SearchSays n f t l hs q p w e w'):∃A1 cl c1 dt A2 ol c2 x,e= .returned (.tuple #[.agg #[.slice A1 cl c1,.int .i64 dt,.slice A2 ol c2],.int .i64 x])/\Below w.heap.size w w':=by
 obtain⟨D,P,ord,_,hc,hb⟩:=h;rcases hc with ⟨_,cs,A1,c1,A2,c2,_,rfl,_,_⟩|⟨_,rfl⟩
 ·exact⟨_,_,_,_,_,_,_,_,rfl,hb⟩
 ·exact⟨_,_,_,_,_,_,_,_,rfl,hb⟩
theorem says_kept {n f t:Nat} {l:List E} {hs:List Int} {q p:Int} {w W w4:World} {e:Ending} {R:Nat} {cs:Array Value} (h:StarW.SearchSays n f t l hs q p W e w4) (hr:w4.heap[R]?=some (.cells cs 38 (0,0))) (hz:w.heap.size<=W.heap.size) {x y z:Value} (hB:Below w.heap.size w (((w4.setCell ⟨R,0,none⟩ x).setCell ⟨R,1,none⟩ y).setCell ⟨R,2,none⟩ z)) :
 StarW.SearchSays n f t l hs q p w e (((w4.setCell ⟨R,0,none⟩ x).setCell ⟨R,1,none⟩ y).setCell ⟨R,2,none⟩ z):=by
 obtain⟨D,P,ord,hr',hc,hb⟩:=h;refine⟨D,P,ord,hr',?_,hB⟩;rcases hc with ⟨hn,cs',A1,c1,A2,c2,hch,he,o1,o2⟩|⟨hn,he⟩
 ·exact .inl ⟨hn,cs',A1,c1,A2,c2,hch,he,StarW.res_kept (o1.mono hz) hr _ _ _,StarW.res_kept (o2.mono hz) hr _ _ _⟩
 ·exact .inr ⟨hn,he⟩
def WRunSays (N fr tt:Int) (l:List E) (hs:List Int) (p q:Int) (w:World) (e:Ending) (w':World):Prop :=
 (slook N fr tt l hs≠0->e= .returned (.tuple #[.agg #[.slice none 0 0,.int .i64 0,.slice none 0 0],.int .i64 (slook N fr tt l hs)])) /\
 (slook N fr tt l hs=0->wgt p q≠0->e= .returned (.tuple #[.agg #[.slice none 0 0,.int .i64 0,.slice none 0 0],.int .i64 (wgt p q)])) /\
 (slook N fr tt l hs=0->wgt p q=0->∃n f t:Nat,N=n/\fr=f/\tt=t/\StarW.SearchSays n f t l hs q p w e w')/\Below w.heap.size w w'
theorem wrun_any (N fr tt:Int) (A:Option Addr) (c:Nat) (l:List E) (Ah:Option Addr) (ch:Nat) (hs:List Int) (p q:Int) (w:World) (hl:Sl w w.heap.size 3 ce A l) (hh:Sl w w.heap.size 1 ci Ah hs) (hlen:l.length<=9223372036854775807) (hlen':hs.length<=9223372036854775807) :
 Calls Tryz.prog 12 #[.agg #[.int .i64 N,.slice A l.length c],.int .i64 fr,.int .i64 tt,.slice Ah hs.length ch,.agg #[.int .i64 p,.int .i64 q]] w fun e w'=>WRunSays N fr tt l hs p q w e w':=by
 obtain⟨w9,hw9⟩:∃w9,w9=((w.alloc (.cells #[.int .i64 N,.slice A l.length c] 24)).alloc (.cells #[.int .i64 p,.int .i64 q] 43)).alloc (.cells #[.slice none 0 0,.int .i64 0,.slice none 0 0] 38):=⟨_,rfl⟩;have hw0:Below w.heap.size w w9:=by rw[hw9];exact(((Below.refl _ _).alloc zzL _).alloc (by simp) _).alloc (by simp;omega) _
 have hz0:w.heap.size+3=w9.heap.size:=by rw[hw9];simp
 have hbox:w9.heap[w.heap.size]?=some (.cells #[.int .i64 N,.slice A l.length c] 24 (0,0)):=by rw[hw9];exact blk_alloc (blk_alloc (heap_alloc_new w _) _) _
 have hrat:w9.heap[w.heap.size+1]?=some (.cells #[.int .i64 p,.int .i64 q] 43 (0,0)):=by
  have h:=blk_alloc (heap_alloc_new (w.alloc (.cells #[.int .i64 N,.slice A l.length c] 24)) (.cells #[.int .i64 p,.int .i64 q] 43)) (.cells #[.slice none 0 0,.int .i64 0,.slice none 0 0] 38);rw[hw9];simpa using h
 have hres:w9.heap[w.heap.size+1+1]?=some (.cells #[.slice none 0 0,.int .i64 0,.slice none 0 0] 38 (0,0)):=by
  have h:=heap_alloc_new ((w.alloc (.cells #[.int .i64 N,.slice A l.length c] 24)).alloc (.cells #[.int .i64 p,.int .i64 q] 43)) (.cells #[.slice none 0 0,.int .i64 0,.slice none 0 0] 38);rw[hw9];simpa using h
 have hk:=fun W hW=>wbox hbox hrat hres hw0 hz0 (W:=W) hW;have HK:=hid hk;clear hk hbox hrat hres;have klook:=fun W (hb:Below w.heap.size w W)=>slook_any N fr tt A c l Ah ch hs W ((hl.keep hb zzL).more hb.size) ((hh.keep hb zzL).more hb.size) hlen hlen';have kwgt:=fun W=>weight_any p q W;have BB:=hid (Below.refl w9.heap.size w9);have HW0:=hid hw0;unfold WRunSays
 by_cases hx:slook N fr tt l hs=0
 ·rw[hx] at klook
  by_cases hy:wgt p q=0
  ·rw[hy] at kwgt
   obtain⟨⟨q1,q2,q3,q4,_⟩,q5⟩:=wgt_zero.1 hy;obtain⟨hlk,hC⟩:=slook_zero.1 hx;obtain⟨hg,hc,⟨f0,f1⟩,t0,t1⟩:=DijkWay.looks_zero hlk;have h1:=hg.lo;obtain⟨n,rfl⟩:=Int.eq_ofNat_of_zero_le (show 0<=N by omega);obtain⟨f,rfl⟩:=Int.eq_ofNat_of_zero_le f0;obtain⟨t,rfl⟩:=Int.eq_ofNat_of_zero_le t0;have hhl:hs.length=n:=by have:=hC.len;omega
   have ksrch:=fun W Bw (hb:Below w.heap.size w W) hK=>StarW.search_any n f t A l.length c l Ah ch hs q p Bw W rfl ((hl.keep hb zzL).more hb.size) hg hc ((hh.keep hb zzL).more hb.size) hhl hC.lo (by omega) (by omega) ⟨q1,q2⟩ ⟨by omega,q4⟩ hK;rw[hhl] at klook ⊢;have KS:=hid ksrch;have KN:=hid (fun W=>key_new p q W);have HHL:=hid hhl;have HX:=hid hx;have HY:=hid hy;have KL:=hid klook;have KW:=hid kwgt;clear klook kwgt ksrch hhl hg hc hC hlk hx hy q1 q2 q3 q4 q5 hw0 hl hh;go_enter Tryz.func12,Tryz.ntmps12
   go_wp2_with fail
   rw[<-hw9];refine(KL.out _ HW0.out).mono ?_;rintro e w1 ⟨rfl,hb1⟩;have B1:=BB.out.trans (hb1.mono zzL);obtain⟨⟨n0,n1,r0,r1⟩,_,_,z1,H1⟩:=HK.out _ B1;have z10:w.heap.size<w1.heap.size:=by omega
   have z11:w.heap.size+1<w1.heap.size:=by omega
   clear hb1
   go_wp2_with fail
   refine(KW.out _).mono ?_;rintro e w2 ⟨rfl,hb2⟩;have B2:=B1.trans (hb2.mono B1.size);clear hb2 n0 n1 r0 r1 z10 z11 z1 H1 B1;obtain⟨⟨n0,n1,r0,r1⟩,_,_,z2,H2⟩:=HK.out _ B2;have z20:w.heap.size<w2.heap.size:=by omega
   have z21:w.heap.size+1<w2.heap.size:=by omega
   have z22:w.heap.size+1+1<w2.heap.size:=by omega
   go_upto_region 7 with fail
   go_region_with (first
    |(go_at_call 36;refine(KN.out _).mono ?_;rintro e w3 ⟨Bw,rfl,kk3,hb3⟩;have B3:Below w9.heap.size w9 w3:=(by first|exact B2.trans (hb3.mono B2.size)|exact B2.drew.trans (hb3.mono B2.size)|exact(below_drewN B2 _).trans (hb3.mono B2.size));obtain⟨⟨n0,n1,r0,r1⟩,_,_,z3,H3⟩:=HK.out _ B3;have z30:w.heap.size<w3.heap.size:=(by omega))
    |(go_at_call 33;go_must (refine(KS.out _ Bw (by first|exact H3|exact H3.drew|exact below_drewN H3 _) (by first|exact kk3|exact kk3.keep (Below.refl _ _).drew|exact kk3.keep (below_drewN (Below.refl _ _) _))).mono ?_;rintro e w4 hsays;obtain⟨A1,cl,c1,dt,A2,ol,c2,xe,rfl,hb4⟩:=says_form hsays;have HSAYS:=hid hsays;clear hsays;have B4:Below w9.heap.size w9 w4:=(by first|exact B3.trans (hb4.mono B3.size)|exact B3.drew.trans (hb4.mono B3.size)|exact(below_drewN B3 _).trans (hb4.mono B3.size));obtain⟨_,⟨s0,s1,s2,s3,s4,s5⟩,hres4,z4,H4⟩:=HK.out _ B4;have z40:w.heap.size+1+1<w4.heap.size:=(by omega);have o4:=(show w.heap.size<=w3.heap.size by exact H3.size))))
   all_goals
    simp only[Act.put,zzA,zzB,zzC,zzD,zzE,zzF];have s0':=s0;clear n0 n1 r0 r1 s0';go_wp2;refine bodyPost_ret (v:= .tuple #[.agg #[.slice A1 cl c1,.int .i64 dt,.slice A2 ol c2],.int .i64 xe]) (by simp[results,Tryz.results12,go_sem,z40,s0,s1,s2,s3,s4,s5]) rfl ?_;have HB:Below w.heap.size w (((w4.setCell ⟨w.heap.size+1+1,0,none⟩ (.slice A1 cl c1)).setCell ⟨w.heap.size+1+1,1,none⟩ (.int .i64 dt)).setCell ⟨w.heap.size+1+1,2,none⟩ (.slice A2 ol c2)):=((H4.setCell (by dsimp only;omega) _).setCell (by dsimp only;omega) _).setCell (by dsimp only;omega) _;refine⟨fun h=>absurd HX.out h,fun _ h=>absurd HY.out h,fun _ _=>⟨n,f,t,rfl,rfl,rfl,?_⟩,HB⟩
    first
     |exact says_kept HSAYS.out hres4 (by simp;omega) HB
     |exact says_kept HSAYS.out hres4 (by omega) HB
  ·rw[show wgt p q=wgt p q from rfl] at kwgt
   have hne:(wgt p q != 0)=true:=by rw[bne_iff_ne];exact hy
   have HX:=hid hx;have HY:=hid hy;clear hx hy hl hh hw0;generalize wgt p q=er at *;have KL:=hid klook;have KW:=hid kwgt;clear klook kwgt;go_enter Tryz.func12,Tryz.ntmps12
   go_wp2_with fail
   rw[<-hw9];refine(KL.out _ HW0.out).mono ?_;rintro e w1 ⟨rfl,hb1⟩;have B1:=BB.out.trans (hb1.mono zzL);obtain⟨⟨n0,n1,r0,r1⟩,_,_,z1,H1⟩:=HK.out _ B1;have z10:w.heap.size<w1.heap.size:=by omega
   have z11:w.heap.size+1<w1.heap.size:=by omega
   clear hb1
   go_wp2_with fail
   refine(KW.out _).mono ?_;rintro e w2 ⟨rfl,hb2⟩;have B2:=B1.trans (hb2.mono B1.size);clear hb2 n0 n1 r0 r1 z10 z11 z1 H1 B1;obtain⟨_,⟨s0,s1,s2,s3,s4,s5⟩,_,z2,H2⟩:=HK.out _ B2;have z22:w.heap.size+1+1<w2.heap.size:=by omega
   clear hw9;go_wp2;refine bodyPost_ret (v:= .tuple #[.agg #[.slice none 0 0,.int .i64 0,.slice none 0 0],.int .i64 er]) (by simp[results,Tryz.results12,go_sem,z22,s0,s1,s2,s3,s4,s5]) rfl ?_;exact⟨fun h=>absurd HX.out h,fun _ _=>rfl,fun _ h=>absurd h HY.out,((H2.setCell (by dsimp only;omega) _).setCell (by dsimp only;omega) _).setCell (by dsimp only;omega) _⟩
 ·have hne:(slook N fr tt l hs != 0)=true:=by rw[bne_iff_ne];exact hx
  have HX:=hid hx;clear hx hl hh hw0;generalize slook N fr tt l hs=er at *;have KL:=hid klook;clear klook kwgt;go_enter Tryz.func12,Tryz.ntmps12
  go_wp2_with fail
  rw[<-hw9];refine(KL.out _ HW0.out).mono ?_;rintro e w1 ⟨rfl,hb1⟩;have B1:=BB.out.trans (hb1.mono zzL);obtain⟨_,⟨s0,s1,s2,s3,s4,s5⟩,_,z2,H2⟩:=HK.out _ B1;have z22:w.heap.size+1+1<w1.heap.size:=by omega
  clear hw9 hb1;go_wp2;refine bodyPost_ret (v:= .tuple #[.agg #[.slice none 0 0,.int .i64 0,.slice none 0 0],.int .i64 er]) (by simp[results,Tryz.results12,go_sem,z22,s0,s1,s2,s3,s4,s5]) rfl ?_;exact⟨fun _=>rfl,fun h=>absurd h HX.out,fun h=>absurd h HX.out,((H2.setCell (by dsimp only;omega) _).setCell (by dsimp only;omega) _).setCell (by dsimp only;omega) _⟩
end StarF
namespace StarF
open Go.RowKit NetLaw BellLaw DijkLaw HeurLaw StarLaw RatioLaw Net Dijk Go.Proofs.YtjebckehmmbkbaaGreat.Std Heur
def WFound (n f t:Nat) (l:List E) (hs:List Int) (p q:Int) (w:World) (e:Ending) (w':World):Prop :=
 ∃D P ord,Hid (Rch (StarW.KK q p) n f t l hs D P ord) /\
  ((∃(pa:List Int) (m:Nat) (A1:Option Addr) (c1 k:Nat) (A2:Option Addr) (c2:Nat) (co:Int),e= .returned (.tuple #[.agg #[.slice A1 m c1,.int .i64 co,.slice A2 k c2],.int .i64 0])/\Own w' w.heap.size 3 1 ci (.slice A1 m c1) pa/\Own w' w.heap.size 3 1 ci (.slice A2 k c2) (ord++[(t:Int)])/\Hid (Nx (StarW.KK q p) n hs D ord t)/\Hid (Fnd n f t l pa co (ord++[(t:Int)]))/\Hid (pa.length=m)/\Hid ((ord++[(t:Int)]).length=k)/\Hid (dg D t=co)/\Hid (Ch P t pa.reverse))
   \/ (e= .returned (.tuple #[.agg #[.slice none 0 0,.int .i64 0,.slice none 0 0],.int .i64 5])/\Hid (∀u,¬Opn n D ord u)))/\Below w.heap.size w w'
theorem wrun_good (n f t:Nat) (A:Option Addr) (c:Nat) (l:List E) (Ah:Option Addr) (ch:Nat) (hs:List Int) (p q:Int) (w:World) (hl:Sl w w.heap.size 3 ce A l) (hh:Sl w w.heap.size 1 ci Ah hs) (hlen:l.length<=9223372036854775807) (hlen':hs.length<=9223372036854775807) (hx:slook n f t l hs=0) (hy:wgt p q=0) :
 Calls Tryz.prog 12 #[.agg #[.int .i64 n,.slice A l.length c],.int .i64 f,.int .i64 t,.slice Ah hs.length ch,.agg #[.int .i64 p,.int .i64 q]] w fun e w'=>WFound n f t l hs p q w e w':=by
 refine(wrun_any n f t A c l Ah ch hs p q w hl hh hlen hlen').mono ?_;rintro e w' ⟨_,_,k2,k3⟩;obtain⟨n',f',t',hn,hf,ht,D,P,ord,hr,hc,_⟩:=k2 hx hy;obtain rfl:n=n':=by omega
 obtain rfl:f=f':=by omega
 obtain rfl:t=t':=by omega
 obtain⟨hlk,_⟩:=slook_zero.1 hx;obtain⟨hg,hcc,⟨f0,f1⟩,t0,t1⟩:=DijkWay.looks_zero hlk;refine⟨D,P,ord,hid hr,?_,k3⟩;rcases hc with ⟨hnx,cs,A1,c1,A2,c2,hch,he,o1,o2⟩|⟨hno,he⟩
 ·refine .inl ⟨cs.reverse,cs.reverse.length,A1,c1,ord.length+1,A2,c2,dg D t,he,o1,o2,hid hnx,hid (fnd hr hnx hch hg hcc (by omega) (by omega)),hid rfl,hid (by simp),hid rfl,hid (by rw[List.reverse_reverse];exact hch)⟩
 ·exact .inr ⟨he,hid hno⟩
end StarF
namespace TopC
open Go.RowKit NetLaw BellLaw DijkLaw HeurLaw StarLaw Net Go.Proofs.YtjebckehmmbkbaaGreat.Std StarF
def Cs (c er co:Int):Prop:=(er=0/\co=c/\c<far)\/(er=5/\co=0/\c=far)
def FC (c:Int) (w:World) (e:Ending) (w':World):Prop :=
 ∃(A1:Option Addr) (m c1:Nat) (co:Int) (A2:Option Addr) (k c2:Nat) (er:Int),e= .returned (.tuple #[.agg #[.slice A1 m c1,.int .i64 co,.slice A2 k c2],.int .i64 er])/\Cs c er co/\Below w.heap.size w w'
theorem star_c (n f t:Nat) (A:Option Addr) (c:Nat) (l:List E) (Ah:Option Addr) (ch:Nat) (hs:List Int) (w:World) (hl:Sl w w.heap.size 3 ce A l) (hh:Sl w w.heap.size 1 ci Ah hs) (hlen:l.length<=9223372036854775807) (hlen':hs.length<=9223372036854775807) (hx:slook n f t l hs=0) {M:List Int} (hM:Sh n f l M) :
 Calls Tryz.prog 11 #[.agg #[.int .i64 n,.slice A l.length c],.int .i64 f,.int .i64 t,.slice Ah hs.length ch] w fun e w'=>FC (dg M t) w e w':=by
 obtain⟨hlk,hC⟩:=slook_zero.1 hx;obtain⟨hg,hc,⟨f0,f1⟩,t0,t1⟩:=DijkWay.looks_zero hlk;have hn:=hg.hi;have hcc:∀e∈l,1<=e.2.2/\e.2.2<=10000:=fun e he=>⟨hc e he,(hg.cost e he).2⟩;refine(run_good n f t A c l Ah ch hs w hl hh hlen hlen' hx).mono ?_;rintro e w' ⟨D,P,ord,hr,hcs,hb⟩;rcases hcs with ⟨p,m,A1,c1,k,A2,c2,co,rfl,_,_,hnx,_,_,_,hco,_⟩|⟨rfl,hno⟩
 ·have h1:=Rch.star (K:=StarS.KK 1 1) (fun c g=>rfl) hC hg.ends hcc (by omega) (by omega) (by omega) hr.out hnx.out hM
  exact⟨A1,m,c1,co,A2,k,c2,0,rfl,.inl ⟨rfl,by rw[<-hco.out];exact h1.1,h1.2.1⟩,hb⟩
 ·have h1:=Rch.none (q:=1) (p:=1) (fun c g=>by unfold StarS.KK;omega) hC hg.ends hcc (by omega) (by omega) (by omega) (by decide) (by decide) hr.out hno.out hM
  exact⟨none,0,0,0,none,0,0,5,rfl,.inr ⟨rfl,rfl,h1⟩,hb⟩
theorem weigh_c (n f t:Nat) (A:Option Addr) (c:Nat) (l:List E) (Ah:Option Addr) (ch:Nat) (hs:List Int) (w:World) (hl:Sl w w.heap.size 3 ce A l) (hh:Sl w w.heap.size 1 ci Ah hs) (hlen:l.length<=9223372036854775807) (hlen':hs.length<=9223372036854775807) (hx:slook n f t l hs=0) {M:List Int} (hM:Sh n f l M) :
 Calls Tryz.prog 12 #[.agg #[.int .i64 n,.slice A l.length c],.int .i64 f,.int .i64 t,.slice Ah hs.length ch,.agg #[.int .i64 1,.int .i64 1]] w fun e w'=>FC (dg M t) w e w':=by
 obtain⟨hlk,hC⟩:=slook_zero.1 hx;obtain⟨hg,hc,⟨f0,f1⟩,t0,t1⟩:=DijkWay.looks_zero hlk;have hn:=hg.hi;have hcc:∀e∈l,1<=e.2.2/\e.2.2<=10000:=fun e he=>⟨hc e he,(hg.cost e he).2⟩;refine(wrun_good n f t A c l Ah ch hs 1 1 w hl hh hlen hlen' hx (by decide +kernel)).mono ?_;rintro e w' ⟨D,P,ord,hr,hcs,hb⟩;rcases hcs with ⟨p,m,A1,c1,k,A2,c2,co,rfl,_,_,hnx,_,_,_,hco,_⟩|⟨rfl,hno⟩
 ·have h1:=Rch.star (K:=StarW.KK 1 1) (fun c g=>by unfold StarW.KK;omega) hC hg.ends hcc (by omega) (by omega) (by omega) hr.out hnx.out hM
  exact⟨A1,m,c1,co,A2,k,c2,0,rfl,.inl ⟨rfl,by rw[<-hco.out];exact h1.1,h1.2.1⟩,hb⟩
 ·have h1:=Rch.none (q:=1) (p:=1) (fun c g=>by unfold StarW.KK;omega) hC hg.ends hcc (by omega) (by omega) (by omega) (by decide) (by decide) hr.out hno.out hM
  exact⟨none,0,0,0,none,0,0,5,rfl,.inr ⟨rfl,rfl,h1⟩,hb⟩
end TopC
namespace TopD
open NetLaw BellLaw DijkLaw FloydLaw
def Nn (M:Mx Int):Prop:=∀a b,0<=M a b
theorem set2_nn {M:Mx Int} (h:Nn M) {i j:Nat} {x:Int} (hx:0<=x):Nn (set2 M i j x):=fun a b=>by
 unfold set2;split
 ·exact hx
 ·exact h a b
theorem all_nn {n:Nat} {l:List E} (hc:∀e∈l,0<=e.2.2):Nn (all n l):=by
 have h0:Nn (ini far (0:Int)):=fun a b=>by unfold ini;split <;> decide
 have h1:∀(r:List E) (M:Mx Int),(∀e∈r,0<=e.2.2)->Nn M->Nn (eds min cst r M):=by
  intro r
  induction r with
  |nil=>intro M _ hM;exact hM
  |cons e r ih =>
   intro M hr hM;refine ih _ (fun x hx=>hr x (List.mem_cons_of_mem _ hx)) ?_;have he:=hr e (by simp);exact set2_nn hM (by have:=hM e.1.toNat e.2.1.toNat;unfold cst;omega)
 refine out_ind min th (P:=Nn) (fun k M i j hM=> ?_) (h1 l _ hc h0) n;unfold stp;refine set2_nn hM ?_;have a:=hM i j;have b:=hM i k;have c:=hM k j;unfold th far;split <;> omega
theorem all_fl {n:Nat} {l:List E} (hg:NetLaw.Good n l) (hc:∀e∈l,1<=e.2.2):Fl n l (all n l):=all_ok hg (fun m _=>all_nn (fun e he=>by have:=hc e he;omega) m m)
theorem all_sh {n f:Nat} {l:List E} (hg:NetLaw.Good n l) (hc:∀e∈l,1<=e.2.2) (hf:f<n):Sh n f l ((List.range n).map (all n l f)):=by
 obtain⟨h1,h2⟩:=JohnPlain.bell_all hg (all_fl hg hc) hf;rw[<-h2];exact BellSh.bell_sh hg hf h1 (fun e he=>by have:=hc e he;omega)
theorem all_at {n f t:Nat} {l:List E} {M:List Int} (hg:NetLaw.Good n l) (hc:∀e∈l,1<=e.2.2) (hf:f<n) (ht:t<n) (hM:Sh n f l M):all n l f t=dg M t:=by
 rw[hM.unique (all_sh hg hc hf) hg.ends (fun e he=>by have:=hc e he;omega)];unfold dg;simp[ht]
theorem aerr_ok {n:Nat} {l:List E} (hg:NetLaw.Good n l) (hc:∀e∈l,1<=e.2.2):FloydAll.aerr n l=0:=by
 have h1:chk (n:Int) l=0:=chk_zero.2 hg
 have h2:FloydAll.neg n (all n l)=false:=by
  rw[FloydAll.neg,List.any_eq_false];intro i _;have:=all_nn (n:=n) (l:=l) (fun e he=>by have:=hc e he;omega) i i;simp;omega
 unfold FloydAll.aerr;rw[if_neg (by simpa using h1),Int.toNat_natCast,h2]
 rfl
end TopD
namespace DijkTurnsPlain
open NetLaw BellLaw DijkLaw DijkMorePlain
def turned (l:List E):List E:=l.map fun e=>(e.2.1,e.1,e.2.2)
end DijkTurnsPlain
namespace Heur
open Go.RowKit NetLaw BellLaw DijkLaw HeurLaw Net Dijk Go.Proofs.YtjebckehmmbkbaaGreat.Std
def ob (A:Option Addr):Option Nat:=(Value.slice A 0 0).ownBlock
theorem ob_eq (A:Option Addr) (n c:Nat):(Value.slice A n c).ownBlock=ob A:=by cases A <;> rfl
def cr (n:Nat) (S:Nat) (_:Nat):Value:= .slice (some ⟨S,0,none⟩) n n
theorem one_cr (n S j:Nat):(cr n S j).oneCell'=true:=rfl
theorem infoRow:(Tryz.prog.info? 25).map (fun i=>(i.zero,i.size,i.bytes))=some (some (.slice none 0 0),1,24):=by kernel_rfl
structure Tb (w:World) (base n:Nat) (A:Option Addr) (m c:Nat) (R:List Nat) (Ds:List (List Int)):Prop where
 own:Own w base 25 1 (cr n) (.slice A m c) R
 len:R.length=m
 dlen:Ds.length=m
 row:∀i,i<m->Own w base 3 1 ci (.slice (some ⟨R.getD i 0,0,none⟩) n n) (Ds.getD i [])/\(Ds.getD i []).length=n
section
variable {w w':World} {base n m c c':Nat} {A A':Option Addr} {R:List Nat} {Ds:List (List Int)}
theorem Tb.nil (w:World) (base n:Nat):Tb w base n none 0 0 [] []:=⟨Own.nil_,rfl,rfl,fun i h=>absurd h (Nat.not_lt_zero _)⟩
theorem Tb.keep (h:Tb w base n A m c R Ds) (hb:Below w.heap.size w w'):Tb w' base n A m c R Ds:=⟨h.own.keep hb,h.len,h.dlen,fun i hi=>⟨(h.row i hi).1.keep hb,(h.row i hi).2⟩⟩
theorem Tb.mono {base':Nat} (h:Tb w base n A m c R Ds) (hb:base'<=base):Tb w base' n A m c R Ds:=⟨h.own.mono hb,h.len,h.dlen,fun i hi=>⟨(h.row i hi).1.mono hb,(h.row i hi).2⟩⟩
theorem int_kept {base2:Nat} {v v':Value} {D:List Int} {α:Type} {sz:Nat} {cell:α->Nat->Value} {r:List α} (h:Own w base 3 1 ci v D) (hv:Own w base2 25 sz cell v' r) (hg:w.grownBy w' v'.ownBlock):Own w' base 3 1 ci v D:=by
 refine h.kept hg ?_;rcases h.2 with ⟨e,_⟩|⟨g,cap,cur,e,hg0,hh,_⟩
 ·left;rw[e];rfl
 ·right
  rw[e];exact fun x=>hv.ne_ hh (by decide) x.symm
theorem Tb.other {base2:Nat} {A2:Option Addr} {m2 c2:Nat} {R2:List Nat} (h:Tb w base n A m c R Ds) (hv:Own w base2 25 1 (cr n) (.slice A2 m2 c2) R2) (hg:w.grownBy w' (Value.slice A2 m2 c2).ownBlock) (hs:∀g,ob A=some g->ob A2≠some g):Tb w' base n A m c R Ds:=by
 refine⟨h.own.kept hg ?_,h.len,h.dlen,fun i hi=>⟨int_kept (h.row i hi).1 hv hg,(h.row i hi).2⟩⟩;rw[ob_eq,ob_eq];cases hx:ob A with
 |none=>exact .inl rfl
 |some g=>exact .inr (fun e=>hs g hx e.symm)
theorem Tb.more {S:Nat} {D:List Int} (h:Tb w base n A m c R Ds) (hg:w.grownBy w' (Value.slice A m c).ownBlock) (ho:Own w' base 25 1 (cr n) (.slice A' (m+1) c') (R++[S])) (hD:Own w base 3 1 ci (.slice (some ⟨S,0,none⟩) n n) D) (hl:D.length=n):Tb w' base n A' (m+1) c' (R++[S]) (Ds++[D]):=by
 refine⟨ho,by simp[h.len],by simp[h.dlen],fun i hi=> ?_⟩
 by_cases e:i<m
 ·have e1:(R++[S]).getD i 0=R.getD i 0:=by rw[List.getD_eq_getElem?_getD,List.getElem?_append_left (by rw[h.len];exact e),List.getD_eq_getElem?_getD]
  have e2:(Ds++[D]).getD i []=Ds.getD i []:=by rw[List.getD_eq_getElem?_getD,List.getElem?_append_left (by rw[h.dlen];exact e),List.getD_eq_getElem?_getD]
  rw[e1,e2];exact⟨int_kept (h.row i e).1 h.own hg,(h.row i e).2⟩
 ·have e1:(R++[S]).getD i 0=S:=by rw[List.getD_eq_getElem?_getD,List.getElem?_append_right (by rw[h.len];omega),h.len,show i - m=0 by omega];rfl
  have e2:(Ds++[D]).getD i []=D:=by rw[List.getD_eq_getElem?_getD,List.getElem?_append_right (by rw[h.dlen];omega),h.dlen,show i - m=0 by omega];rfl
  rw[e1,e2];exact⟨int_kept hD h.own hg,hl⟩
theorem Tb.setCell (h:Tb w base n A m c R Ds) {p:Addr} {cs:Array Value} {t:TypeId} (hb:w.heap[p.block]?=some (.cells cs t (0,0))) (h1:25≠t) (h2:3≠t) (u:Value):Tb (w.setCell p u) base n A m c R Ds :=
 ⟨h.own.setCell (h.own.ne_ hb h1) u,h.len,h.dlen,fun i hi=>⟨(h.row i hi).1.setCell ((h.row i hi).1.ne_ hb h2) u,(h.row i hi).2⟩⟩
theorem Tb.lt (h:Tb w base n A m c R Ds) {g:Nat} (hg:ob A=some g):g<w.heap.size:=(h.own.base_ g ((ob_eq ..).trans hg)).2
theorem Tb.at_ (h:Tb w base n A m c R Ds) {i v:Nat} (hi:i<m) (hv:v<n):∃g S,A=some ⟨g,0,none⟩/\g<w.heap.size/\S<w.heap.size/\w.cell? ⟨g,i,none⟩=some (.slice (some ⟨S,0,none⟩) n n)/\∀v,v<n->w.cell? ⟨S,v,none⟩=some (.int .i64 (dg (Ds.getD i []) (v:Int))):=by
 have hl:=h.len;obtain⟨g,c',hv',_,hg,_,hc⟩:=h.own.some_ (by omega);injection hv' with hv' _ _;subst hv';have h0:=(hc i (by omega) 0 (by omega)).1;rw[Nat.mul_one,Nat.add_zero] at h0;obtain⟨hr,hdl⟩:=h.row i hi;have e:R.getD i 0=R[i]'(by omega):=by rw[List.getD_eq_getElem?_getD,List.getElem?_eq_getElem (by omega)];rfl
 refine⟨g,R.getD i 0,rfl,hg,(hr.base_ _ rfl).2,by rw[h0,e];rfl,fun v hv=> ?_⟩;obtain⟨d,_⟩:=own_at1 hdl hr hv;rw[d,getD_dg]
end
structure Mk (w0 w:World) (n:Nat) (A:Option Addr) (c:Nat) (l:List E) (X T:Nat) (Ab:Option Addr) (cb:Nat) (A1:Option Addr) (m1 c1:Nat) (R1:List Nat) (D1:List (List Int)) (A2:Option Addr) (m2 c2:Nat) (R2:List Nat) (D2:List (List Int)):Prop where
 box:w.heap[w0.heap.size]?=some (.cells #[.int .i64 n,.slice A l.length c] 24 (0,0))
 res:w.heap[w0.heap.size+1]?=some (.cells #[.slice none 0 0,.slice none 0 0] 64 (0,0))
 bk:w.heap[X]?=some (.cells #[.int .i64 n,.slice Ab l.length cb] 24 (0,0))
 back:Own w w0.heap.size 70 3 ce (.slice Ab l.length cb) (tl l)
 tbl:w.heap[T]?=some (.cells #[.slice A1 m1 c1,.slice A2 m2 c2] 64 (0,0))
 t1:Tb w w0.heap.size n A1 m1 c1 R1 D1
 t2:Tb w w0.heap.size n A2 m2 c2 R2 D2
 sep:∀g,ob A1=some g->ob A2≠some g
 tl_:w0.heap.size+1<T
 lo:Below w0.heap.size w0 w
section
variable {w0 w w':World} {n c X T cb m1 c1 m2 c2:Nat} {A Ab A1 A2:Option Addr} {l:List E} {R1 R2:List Nat} {D1 D2:List (List Int)}
theorem Mk.keep (h:Mk w0 w n A c l X T Ab cb A1 m1 c1 R1 D1 A2 m2 c2 R2 D2) (hb:Below w.heap.size w w'):Mk w0 w' n A c l X T Ab cb A1 m1 c1 R1 D1 A2 m2 c2 R2 D2 :=
 ⟨blk_below h.box hb (lt_of_block h.box),blk_below h.res hb (lt_of_block h.res),blk_below h.bk hb (lt_of_block h.bk),h.back.keep hb,blk_below h.tbl hb (lt_of_block h.tbl),h.t1.keep hb,h.t2.keep hb,h.sep,h.tl_,h.lo.trans (hb.mono h.lo.size)⟩
theorem edge_kept {base base2:Nat} {v v':Value} {L:List E} {R:List Nat} (h:Own w base 70 3 ce v L) (hv:Own w base2 25 1 (cr n) v' R) (hg:w.grownBy w' v'.ownBlock):Own w' base 70 3 ce v L:=by
 refine h.kept hg ?_;rcases h.2 with ⟨e,_⟩|⟨g,cap,cur,e,hg0,hh,_⟩
 ·left;rw[e];rfl
 ·right
  rw[e];exact fun x=>hv.ne_ hh (by decide) x.symm
theorem Mk.first {S c':Nat} {A':Option Addr} {D:List Int} (h:Mk w0 w n A c l X T Ab cb A1 m1 c1 R1 D1 A2 m2 c2 R2 D2) (hg:w.grownBy w' (Value.slice A1 m1 c1).ownBlock) (ho:Own w' w0.heap.size 25 1 (cr n) (.slice A' (m1+1) c') (R1++[S])) (hD:Own w w0.heap.size 3 1 ci (.slice (some ⟨S,0,none⟩) n n) D) (hl:D.length=n) (hat:ob A'=ob A1\/∃g,ob A'=some g/\w.heap.size<=g) :
 w'.heap[T]?=some (.cells #[.slice A1 m1 c1,.slice A2 m2 c2] 64 (0,0))/\Mk w0 (w'.setCell ⟨T,0,none⟩ (.slice A' (m1+1) c')) n A c l X T Ab cb A' (m1+1) c' (R1++[S]) (D1++[D]) A2 m2 c2 R2 D2:=by
 have ht:=blk_grown h.tbl hg (h.t1.own.ne_ h.tbl (by decide));have ht2:=h.t2.other h.t1.own hg (fun g h1 h2=>h.sep g h2 h1);have ht1:=h.t1.more hg ho hD hl;have hX:X≠T:=fun e=>by have:=h.bk;rw[e,h.tbl] at this;injection this with this;injection this with _ hh _;exact absurd hh (by decide)
 have hbx:w0.heap.size≠T:=by have:=h.tl_;omega
 have hrs:w0.heap.size+1≠T:=by have:=h.tl_;omega
 have hbk:=edge_kept h.back h.t1.own hg;refine⟨ht,blk_far (blk_grown h.box hg (h.t1.own.ne_ h.box (by decide))) hbx _,blk_far (blk_grown h.res hg (h.t1.own.ne_ h.res (by decide))) hrs _,blk_far (blk_grown h.bk hg (h.t1.own.ne_ h.bk (by decide))) hX _,hbk.setCell (hbk.ne_ ht (by decide)) _,blk_set ht 0 _,ht1.setCell ht (by decide) (by decide) _,ht2.setCell ht (by decide) (by decide) _,fun g hg1 hg2=> ?_,h.tl_,(h.lo.grown hg h.lo.size h.t1.own.lo).setCell (by have:=h.tl_;show w0.heap.size<=T;omega) _⟩;rcases hat with h1|⟨g',h1,h2⟩
 ·exact h.sep g (h1.symm.trans hg1) hg2
 ·rw[h1] at hg1;injection hg1 with hg1
  have:=h.t2.lt hg2;omega
theorem Mk.second {S c':Nat} {A':Option Addr} {D:List Int} (h:Mk w0 w n A c l X T Ab cb A1 m1 c1 R1 D1 A2 m2 c2 R2 D2) (hg:w.grownBy w' (Value.slice A2 m2 c2).ownBlock) (ho:Own w' w0.heap.size 25 1 (cr n) (.slice A' (m2+1) c') (R2++[S])) (hD:Own w w0.heap.size 3 1 ci (.slice (some ⟨S,0,none⟩) n n) D) (hl:D.length=n) (hat:ob A'=ob A2\/∃g,ob A'=some g/\w.heap.size<=g) :
 w'.heap[T]?=some (.cells #[.slice A1 m1 c1,.slice A2 m2 c2] 64 (0,0))/\Mk w0 (w'.setCell ⟨T,1,none⟩ (.slice A' (m2+1) c')) n A c l X T Ab cb A1 m1 c1 R1 D1 A' (m2+1) c' (R2++[S]) (D2++[D]):=by
 have ht:=blk_grown h.tbl hg (h.t2.own.ne_ h.tbl (by decide));have ht1:=h.t1.other h.t2.own hg h.sep;have ht2:=h.t2.more hg ho hD hl;have hX:X≠T:=fun e=>by have:=h.bk;rw[e,h.tbl] at this;injection this with this;injection this with _ hh _;exact absurd hh (by decide)
 have hbx:w0.heap.size≠T:=by have:=h.tl_;omega
 have hrs:w0.heap.size+1≠T:=by have:=h.tl_;omega
 have hbk:=edge_kept h.back h.t2.own hg;refine⟨ht,blk_far (blk_grown h.box hg (h.t2.own.ne_ h.box (by decide))) hbx _,blk_far (blk_grown h.res hg (h.t2.own.ne_ h.res (by decide))) hrs _,blk_far (blk_grown h.bk hg (h.t2.own.ne_ h.bk (by decide))) hX _,hbk.setCell (hbk.ne_ ht (by decide)) _,blk_set ht 1 _,ht1.setCell ht (by decide) (by decide) _,ht2.setCell ht (by decide) (by decide) _,fun g hg1 hg2=> ?_,h.tl_,(h.lo.grown hg h.lo.size h.t2.own.lo).setCell (by have:=h.tl_;show w0.heap.size<=T;omega) _⟩;rcases hat with h1|⟨g',h1,h2⟩
 ·exact h.sep g hg1 (h1.symm.trans hg2)
 ·rw[h1] at hg2;injection hg2 with hg2
  have:=h.t1.lt hg1;omega
end
end Heur
end Go.Proofs.YtjebckehmmbkbaaGreat
