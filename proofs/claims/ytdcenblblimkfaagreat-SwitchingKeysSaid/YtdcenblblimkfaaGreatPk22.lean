/- The moduli of a level, one after the other.
The program's ring, by data: places, moduli, each.
Searching slices, by data; which element is valid.
The program's ring, by data: what fills the rows.
The program's ring, by data: rows of products and of integers.
The program's ring, by data: which parameters and elements are valid.
The program's ring, by data: Check.
The program's ring, by data: elements of integers.
Small numbers modulo others, by data: of both sides.
Inverses, by data; the reference's small numbers.
A slice of nil slices, as rows that are put in. No walk.
A slot, said otherwise, within a region. No walk. -/
import Derived.Test.YtdcenblblimkfaaGreatPk21
import Derived.RangeFuncBox
import Derived.RangeFuncNested
import Derived.RangeFuncBound
import Derived.RangeFuncCalls
import Derived.RangeFuncLeaves
import Derived.RangeFuncWrites
import Derived.Shelf.Abstract
import Derived.Shelf.RegionOpen
import Derived.WalkKit
import Derived.OwnWalkIn
import Derived.TacticsInMore
import Derived.LoopNIn
import Derived.LoopIn
import Derived.Sort.QuietIn
import Derived.Lib.Hide
set_option linter.unusedSimpArgs false
set_option linter.unusedVariables false
set_option linter.unnecessarySimpa false
set_option linter.unusedSectionVars false
namespace Go.Proofs.YtdcenblblimkfaaGreat
open Go.RowKit Go.Shelf
attribute [local go_sem] Oper.semAt_some
structure PD where
 n:Int
 prime:Nat
 power:Int
 chain:List Nat
 special:Nat
 weight:Int
 err:Nat
def u32sD (o:Bool) (l:List Nat):D:=.fz o l.length 1 (fun i=>[.val (.int .u32 (l.getD i 0))])
def parL (o:Bool) (p:PD):List D:=[.val (.int .i64 p.n),.val (.int .u32 p.prime),.val (.int .i64 p.power),u32sD o p.chain,.val (.int .u32 p.special),.val (.int .i64 p.weight),.val (.int .u32 p.err)]
def modN (p:PD) (lv:Nat) (sp:Bool):Nat:=if sp then lv+1 else lv
def modQ (p:PD) (lv:Nat) (k:Nat):Nat:=if k<lv then p.chain.getD k 0 else p.special
def modL (p:PD) (lv:Nat) (sp:Bool):List (List D):=(List.range (modN p lv sp)).map fun k:Nat=>[.val (.int .i64 (k:Int)),.val (.int .u32 ((modQ p lv k:Nat):Int))]
theorem rep_fptr {Z:Zn} {w:World} {i:Nm} {v:Value} {o:Bool} {l:List D} (h:Rep Z w i v (.fptr o l)):∃ b p,v = .pointer (some ⟨b,p,none⟩)∧∀ c,c<l.length→∃ u,w.cell? ⟨b,p+c,none⟩=some u∧Z o b∧Rep Z w noN u (dl l c):=by
 cases h with | fptr _ _ b p _ vs ha hr=>exact ⟨b,p,rfl,fun c hc=>⟨vs c,(ha c hc).2.1,(ha c hc).1,hr c hc⟩⟩
theorem rep_val {Z:Zn} {w:World} {i:Nm} {v u:Value} (h:Rep Z w i v (.val u)):v=u:=by cases h;rfl
def KZ (Z0:Nat→Prop) (A B:World):Prop:=∀ b,Z0 b→B.heap[b]? = A.heap[b]?
theorem KZ.cell {Z0:Nat→Prop} {A B:World} (h:KZ Z0 A B) {a:Addr} {v:Value} (hc:A.cell? a=some v) (hz:Z0 a.block):B.cell? a=some v:=(World.cell?_of_block (h a.block hz)).trans hc
theorem modN_le (p:PD) (lv:Nat) (sp:Bool):lv≤modN p lv sp:=by unfold modN;split<;>omega
theorem modL_len (p:PD) (lv:Nat) (sp:Bool):(modL p lv sp).length=modN p lv sp:=by simp [modL]
theorem modL_at (p:PD) (lv:Nat) (sp:Bool) {k:Nat} (h:k<modN p lv sp):(modL p lv sp)[k]? = some [.val (.int .i64 (k:Int)),.val (.int .u32 ((modQ p lv k:Nat):Int))]:=by simp [modL,h]

set_option maxRecDepth 100000 in
set_option maxHeartbeats 2000000 in
theorem moduli1_itr (p:PD) (lv:Nat) (sp:Bool) (h1:1≤lv) (h2:lv≤p.chain.length):ItrD Tryz.prog 278 [.fptr true [.fptr true (parL true p)],.fptr true [.val (.int .i64 (lv:Int))],.fptr true [.val (.bool sp)]] (modL p lv sp):=fun l C0 Z0 W0 vs J Jx hJ hJx hJ0 hvs hY=>by
 obtain ⟨v1,v2,v3,rfl⟩:∃ v1 v2 v3,vs=[v1,v2,v3]:=by
  have:=hvs.1
  match vs,this with
  | [a,b,c],_=>exact ⟨a,b,c,rfl⟩
 obtain ⟨bp,op,rfl,hp⟩:=rep_fptr (hvs.2 0 (by simp))
 obtain ⟨bl,ol,rfl,hl⟩:=rep_fptr (hvs.2 1 (by simp))
 obtain ⟨bs,os,rfl,hs⟩:=rep_fptr (hvs.2 2 (by simp))
 obtain ⟨u1,c1,z1,r1⟩:=hp 0 (by simp)
 obtain ⟨u2,c2,z2,r2⟩:=hl 0 (by simp)
 obtain ⟨u3,c3,z3,r3⟩:=hs 0 (by simp)
 obtain rfl:=rep_val r2
 obtain rfl:=rep_val r3
 obtain ⟨pb,po,rfl,hpar⟩:=rep_fptr r1
 obtain ⟨u4,c4,z4,r4⟩:=hpar 3 (by simp [parL])
 obtain ⟨u5,c5,_,r5⟩:=hpar 4 (by simp [parL])
 obtain rfl:=rep_val r5
 obtain ⟨b,off,cc,rfl,hmc,hcc,zb,hc⟩:∃ b off cc,u4 = .slice (some ⟨b,off,none⟩) p.chain.length cc∧p.chain.length≤cc∧cc≤9223372036854775807∧Z0 b∧∀ j,j<p.chain.length→W0.cell? ⟨b,off+j,none⟩=some (.int .u32 ((p.chain.getD j 0:Nat):Int)):=by
  change Rep _ _ _ u4 (.fz true p.chain.length 1 fun i=>[.val (.int .u32 (p.chain.getD i 0))]) at r4
  cases r4 with | fz _ _ ao _ cap _ _ us g1 g2 _ ha hr=>
  obtain ⟨b,off,e,hz,_⟩:=ha 0 0 (by omega) (by omega)
  refine ⟨b,off,cap,by rw [e],g1,g2,hz.2,fun j hj=>?_⟩
  obtain ⟨b',off',e',_,hcell,_⟩:=ha j 0 hj (by omega)
  rw [e] at e';cases e'
  have:=rep_val (hr j 0 hj (by omega))
  rw [this] at hcell
  simpa using hcell
 simp only [Nat.add_zero] at c1 c2 c3
 replace z1:=z1.2
 replace z2:=z2.2
 replace z3:=z3.2
 replace z4:=z4.2
 have HJ:=Lib.hid hJ
 have HY:=Lib.hid hY
 have hN:=modN_le p lv sp
 have hNs:sp=true→modN p lv sp=lv+1:=fun e=>by simp [modN,e]
 have hNf:sp=false→modN p lv sp=lv:=fun e=>by simp [modN,e]
 have HNs:=Lib.hid hNs
 have HNf:=Lib.hid hNf
 have round:∀ k C Z W (wm:KZ Z0 W0 W) (hz:∀ b,Z0 b→Z b),k<modN p lv sp→J k C Z W→W0.heap.size≤W.heap.size→YieldAt (Fw none) 0 Tryz.prog l #[.int .i64 (k:Int),.int .u32 ((modQ p lv k:Nat):Int)] W fun e W'=>
   (e = .returned (.bool true)∧∃ C' Z',J (k+1) C' Z' W'∧KZ Z0 W0 W'∧(∀ b,Z0 b→Z' b)∧W0.heap.size≤W'.heap.size)∨(e = .returned (.bool false)∧∃ k' C' Z',Jx k' C' Z' W'):=fun k C Z W wm hz hk hJk hsz=>by
  refine (hY k C Z W _ [.int .i64 (k:Int),.int .u32 ((modQ p lv k:Nat):Int)] (fun _=>False) (modL_at p lv sp hk) hJk (fun _ h=>h.elim) ⟨rfl,fun j hj=>?_⟩ hsz).mono ?_
  ·match j,hj with
   | 0,_=>exact .val _ _
   | 1,_=>exact .val _ _
  ·rintro e W' (⟨rfl,C',Z',q1,q2,q3,q4⟩ | q)
   ·exact .inl ⟨rfl,C',Z',q1,fun b hb=>(q2.block b ((hJ.lt hJk).2 b (hz b hb)) (fun hc=>((hJ.lt hJk).1 b hc).2 (hz b hb))).trans (wm b hb),fun b hb=>q4 b (.inl (hz b hb)),Nat.le_trans hsz q2.size⟩
   ·exact .inr q
 have HR:=Lib.hid round
 clear hJ hY hNs hNf round hvs hp hl hs hpar r1 r2 r3 r4 r5
 refine callsIn_of_wp Tryz.func278 rfl trivial ?_ rfl
 simp only [Tryz.ntmps278,List.size_toArray,List.length_cons,List.length_nil,Nat.reduceAdd,Nat.reduceSub,Array.replicate_succ,Array.replicate_zero,List.push_toArray,List.append_toArray,List.nil_append,List.cons_append]
 have i0:(0:Int)≤(lv:Int):=Int.natCast_nonneg _
 have i1:(lv:Int)≤(cc:Int):=by omega
 gi_wp2
 refine wpIn_region_quiet_lit rfl (by kernel_rfl) (by kernel_rfl) ?_
 repeat (gi_big_quiet_step (fail))
 refine wpQuietIn_nil ?_
 intro _ hw'
 obtain ⟨nq,hw''⟩:=hw'
 subst hw''
 gi_wp2
 gi_loopw [14] (fun i wr=>∃ (k:Nat) (C Z:Nat→Prop),k≤lv∧i = .int .i64 k∧J k C Z wr∧KZ Z0 W0 wr∧(∀ b,Z0 b→Z b)∧W0.heap.size≤wr.heap.size)
  (fun i _=>lv - (intOf i).toNat)
 case atStart=>exact ⟨0,C0,Z0,Nat.zero_le _,rfl,HJ.out.stable hJ0 ⟨rfl,rfl,rfl,Nat.le_refl _⟩ (fun _ _ _=>rfl),fun _ _=>rfl,fun _ h=>h,Nat.le_refl _⟩
 case round=>
  obtain ⟨k,C,Z,hk,rfl,hJs,hnx,hzz,hsz⟩:=hrel
  by_cases hlt:k<lv
  ·obtain ⟨fn,tmps,assign,body,hy,hR⟩:=HR.out k C Z wr hnx hzz (by omega) hJs hsz
   rw [show modQ p lv k=p.chain.getD k 0 by unfold modQ;rw [if_pos hlt],List.getD_eq_getElem?_getD] at hy
   have hcx:=hnx.cell (hc k (by omega)) zb
   rw [List.getD_eq_getElem?_getD] at hcx
   gi_wp2
   refine ⟨rfl,hR.mono ?_⟩
   rintro e W3 (⟨rfl,C',Z',hJ3,hk3,hz3,hs3⟩ | ⟨rfl,hJx3⟩)
   ·gi_wp2
    go_roundw
    case rel=>exact ⟨k+1,C',Z',by omega,by simp,hJ3,hk3,hz3,hs3⟩
    case measure=>simp [intOf];omega
   ·gi_wp2
    refine bodyPost_ret (results_none rfl _ _ _) rfl ?_
    exact ⟨⟨_,rfl⟩,.inr hJx3⟩
  ·obtain rfl:k=lv:=by omega
   have d3:=hnx.cell c3 z3
   have d2:=hnx.cell c2 z2
   have d1:=hnx.cell c1 z1
   have d5:=hnx.cell c5 z4
   cases sp with
   | false=>
    have hN:=HNf.out rfl
    gi_wp2
    go_end0
    exact ⟨⟨_,rfl⟩,.inl ⟨C,Z,by rw [modL_len,hN];exact hJs⟩⟩
   | true=>
    have hN:=HNs.out rfl
    have hJd:J k C Z wr.drew:=HJ.out.stable hJs ⟨rfl,rfl,rfl,Nat.le_refl _⟩ (fun _ _ _=>rfl)
    obtain ⟨fn,tmps,assign,body,hy,hR⟩:=HR.out k C Z wr.drew hnx hzz (by omega) hJd hsz
    rw [show modQ p k k=p.special by unfold modQ;rw [if_neg (by omega)]] at hy
    have hR2:=hR.mono (R':=fun e W'=>∃ v,e = .returned (.bool v)∧((∃ C Z,J (k+1) C Z W')∨∃ k' C' Z',Jx k' C' Z' W')) (fun e W' h=>by
     rcases h with ⟨h1,C',Z',h2,_⟩ | ⟨h1,h2⟩
     ·exact ⟨true,h1,.inl ⟨C',Z',h2⟩⟩
     ·exact ⟨false,h1,.inr h2⟩)
    gi_wp2
    gi_region_with (refine ⟨rfl,?_⟩;refine hR2.mono ?_;rintro e W3 ⟨v,rfl,hv⟩)
    all_goals (
     gi_wp2
     refine bodyPost_end (results_none rfl _ _ _) rfl ?_
     exact ⟨⟨_,rfl⟩,by rw [modL_len,hN];exact hv⟩)

open Go.RowKit
set_option maxRecDepth 20000
instance (p:PD):OldDL (parL true p):=by unfold parL u32sD;infer_instance
instance (p:PD):CvtLI (parL false p) (parL true p):=by unfold parL u32sD;infer_instance
theorem rgmodulus_den (q:Nat):Den Tryz.prog 265 [.val (.int .u32 q)] (.val (.bool ((decide (3≤q) && decide (q≤2147483647)) && decide (q % 2=1)))):=by
 refine den_intro (fn:=Tryz.f265) rfl rfl rfl rfl rfl ?_
 refine go ?_
 refine fin ?_
 exact CvV.id rfl
theorem rgplace_den (p:PD) (lv:Int) (sp:Bool):Den Tryz.prog 204 [.fptr true (parL true p),.val (.int .i64 lv),.val (.bool sp)] (.val (.bool ((decide (1≤lv) && decide (lv≤p.chain.length)) && (!sp || decide (p.special≠0))))):=by
 refine den_intro (fn:=Tryz.f204) rfl rfl rfl rfl rfl ?_
 refine go ?_
 refine fin ?_
 exact CvV.id rfl
theorem rgmoduli_den (p:PD) (lv:Nat) (sp:Bool):Den Tryz.prog 227 [.fptr true (parL true p),.val (.int .i64 (lv:Int)),.val (.bool sp)] (.clo 278 [.fptr false [.fptr true (parL true p)],.fptr false [.val (.int .i64 (lv:Int))],.fptr false [.val (.bool sp)]]):=by
 refine den_intro (fn:=Tryz.f227) rfl rfl rfl rfl rfl ?_
 refine go ?_
 refine fin_frz 1003 ?_
 refine fin_frz 1004 ?_
 refine fin_frz 1005 ?_
 refine fin ?_
 exact cv
abbrev rowB (n:Nat) (h:Nat→Nat):Box:=.arr 22 n 1 (fun j=>[.val (.int .u32 ((h j:Nat):Int))])
abbrev rowsD (o:Bool) (M n:Nat) (g:Nat→Nat→Nat):D:=.fz o M 1 (fun k=>[.fz o n 1 (fun j=>[.val (.int .u32 ((g k j:Nat):Int))])])
abbrev elL (o:Bool) (lv:Nat) (sp:Bool) (M n:Nat) (g:Nat→Nat→Nat):List D:=[.val (.int .i64 (lv:Int)),.val (.bool sp),rowsD o M n g]
theorem rgeach1_den (p:PD) (n lv:Nat) (sp:Bool) (hn:p.n=(n:Int)) (h32:n≤32) (h1:1≤lv) (h2:lv≤p.chain.length) (h24:p.chain.length≤1000) (hq:∀ k,modQ p lv k<4294967296) {fl:FuncId} {fn:Func} [FI Tryz.prog fl fn] (l1:List D) [OldDL l1] (g:Nat→Nat→Nat)
  (hfill:∀ k,k<modN p lv sp→DenH Tryz.prog fl [.val (.int .i64 (k:Int)),.val (.int .u64 ((modQ p lv k:Nat):Int)),.sl 0 1 n,.fptr true l1] [(0,rowB n fun _=>0)] (.tup []) [(0,rowB n (g k))] []) :
  Den Tryz.prog 205 [.fptr true (parL true p),.val (.int .i64 (lv:Int)),.val (.bool sp),.clo fl [.fptr true l1]] (.agg (elL false lv sp (modN p lv sp) n g)):=by
 have hN:NatIs p.n n:=hn▸NatIs.cast n
 refine den_intro (fn:=Tryz.f205) rfl rfl rfl rfl rfl ?_
 refine go ?_
 refine r_callO (rgmoduli_den _ lv sp) ?_
 refine go ?_
 refine c_nilcell 1009 2 1937 23 1 (fun k=>[.fz false n 1 (fun j=>[.val (.int .u32 ((g k j:Nat):Int))])]) ?_
 refine c_range (α:=Empty) [1004,1007,1008,1009] (moduli1_itr _ lv sp h1 h2) _ (modL_len _ lv sp) (fun k=>[.val (.int .i64 (k:Nat)),.val (.int .u32 ((modQ p lv k:Nat):Int))]) (fun k hk=>modL_at _ lv sp hk)
  (fun k=>[(109,some (.lit 93 [.val (.int .i64 (lv:Int)),.val (.bool sp),.sl 1937 1 k])),(1937,some (.arr 23 k 1 fun k=>[.fz false n 1 (fun j=>[.val (.int .u32 ((g k j:Nat):Int))])])),(108,some (.lit 93 [.val (.int .i64 0),.val (.bool false),.val (.slice none 0 0)])),(107,some (.lit 220 [.clo fl [.fptr true l1]])),(104,some (.lit 217 [.fptr true (parL true p)]))])
  (fun _=>[]) (fun _=>False) (fun _=>.ret) (fun _=>True) trivial (fun k l hk _=>?_) (fun _=>?_) (fun y=>y.elim)
 ·have hq1:=hq k
  have hM:modN p lv sp≤1001:=by unfold modN;split<;>omega
  refine go ?_
  refine r_callM (1000+26) (hfill k hk) ?_
  refine c_end (by kernel_rfl) ?_
  refine c_freeze (1000+26) ?_
  refine c_slot 12 (.fz false n 1 (fun j=>[.val (.int .u32 ((g k j:Nat):Int))])) ?_
  refine go ?_
  refine ⟨trivial,?_⟩
  refine sub_arr (1000+37) (fun k=>[.fz false n 1 (fun j=>[.val (.int .u32 ((g k j:Nat):Int))])]) (appF_snoc rfl) (fun _=>rfl) ?_
  refine sub_toE (1000+37) 1937 ?_
  exact sub
 ·refine go ?_
  refine fin_freeze 1937 ?_
  refine fin ?_
  exact cv
theorem rgeach2_den (p:PD) (n lv:Nat) (sp:Bool) (hn:p.n=(n:Int)) (h32:n≤32) (h1:1≤lv) (h2:lv≤p.chain.length) (h24:p.chain.length≤1000) (hq:∀ k,modQ p lv k<4294967296) {fl:FuncId} {fn:Func} [FI Tryz.prog fl fn] (l1 l2:List D) [OldDL l1] [OldDL l2] (g:Nat→Nat→Nat)
  (hfill:∀ k,k<modN p lv sp→DenH Tryz.prog fl [.val (.int .i64 (k:Int)),.val (.int .u64 ((modQ p lv k:Nat):Int)),.sl 0 1 n,.fptr true l1,.fptr true l2] [(0,rowB n fun _=>0)] (.tup []) [(0,rowB n (g k))] []) :
  Den Tryz.prog 205 [.fptr true (parL true p),.val (.int .i64 (lv:Int)),.val (.bool sp),.clo fl [.fptr true l1,.fptr true l2]] (.agg (elL false lv sp (modN p lv sp) n g)):=by
 have hN:NatIs p.n n:=hn▸NatIs.cast n
 refine den_intro (fn:=Tryz.f205) rfl rfl rfl rfl rfl ?_
 refine go ?_
 refine r_callO (rgmoduli_den _ lv sp) ?_
 refine go ?_
 refine c_nilcell 1009 2 1937 23 1 (fun k=>[.fz false n 1 (fun j=>[.val (.int .u32 ((g k j:Nat):Int))])]) ?_
 refine c_range (α:=Empty) [1004,1007,1008,1009] (moduli1_itr _ lv sp h1 h2) _ (modL_len _ lv sp) (fun k=>[.val (.int .i64 (k:Nat)),.val (.int .u32 ((modQ p lv k:Nat):Int))]) (fun k hk=>modL_at _ lv sp hk)
  (fun k=>[(109,some (.lit 93 [.val (.int .i64 (lv:Int)),.val (.bool sp),.sl 1937 1 k])),(1937,some (.arr 23 k 1 fun k=>[.fz false n 1 (fun j=>[.val (.int .u32 ((g k j:Nat):Int))])])),(108,some (.lit 93 [.val (.int .i64 0),.val (.bool false),.val (.slice none 0 0)])),(107,some (.lit 220 [.clo fl [.fptr true l1,.fptr true l2]])),(104,some (.lit 217 [.fptr true (parL true p)]))])
  (fun _=>[]) (fun _=>False) (fun _=>.ret) (fun _=>True) trivial (fun k l hk _=>?_) (fun _=>?_) (fun y=>y.elim)
 ·have hq1:=hq k
  have hM:modN p lv sp≤1001:=by unfold modN;split<;>omega
  refine go ?_
  refine r_callM (1000+26) (hfill k hk) ?_
  refine c_end (by kernel_rfl) ?_
  refine c_freeze (1000+26) ?_
  refine c_slot 12 (.fz false n 1 (fun j=>[.val (.int .u32 ((g k j:Nat):Int))])) ?_
  refine go ?_
  refine ⟨trivial,?_⟩
  refine sub_arr (1000+37) (fun k=>[.fz false n 1 (fun j=>[.val (.int .u32 ((g k j:Nat):Int))])]) (appF_snoc rfl) (fun _=>rfl) ?_
  refine sub_toE (1000+37) 1937 ?_
  exact sub
 ·refine go ?_
  refine fin_freeze 1937 ?_
  refine fin ?_
  exact cv

set_option maxHeartbeats 4000000
def firstI (p:Nat→Bool):Nat→Int
 | 0=> -1
 | n+1=>if 0≤firstI p n then firstI p n else if p n then (n:Int) else -1
theorem firstI_none {p:Nat→Bool} {n:Nat} (h:∀ e,e<n→p e=false):firstI p n = -1:=by
 induction n with
 | zero=>rfl
 | succ n ih=>
  have:=ih (fun e he=>h e (by omega))
  unfold firstI
  rw [this,if_neg (by omega),h n (by omega)];rfl
theorem firstI_at {p:Nat→Bool} {n j:Nat} (h:∀ e,e<j→p e=false) (hj:p j=true) (hn:j<n):firstI p n=(j:Int):=by
 induction n with
 | zero=>omega
 | succ n ih=>
  unfold firstI
  by_cases q:j<n
  ·rw [ih q,if_pos (by omega)]
  ·obtain rfl:j=n:=by omega
   rw [firstI_none h,if_neg (by omega),if_pos hj]
def hasI (p:Nat→Bool) (n:Nat):Bool:=decide (0≤firstI p n)
theorem hasI_spec {p:Nat→Bool} {n:Nat}:hasI p n=true↔∃ e,e<n∧p e=true:=by
 unfold hasI
 rw [decide_eq_true_eq]
 induction n with
 | zero=>exact ⟨fun h=>absurd h (by unfold firstI;omega),fun ⟨e,h,_⟩=>by omega⟩
 | succ n ih=>
  unfold firstI
  by_cases q:0≤firstI p n
  ·rw [if_pos q]
   exact ⟨fun _=>by obtain ⟨e,h1,h2⟩:=ih.1 q;exact ⟨e,by omega,h2⟩,fun _=>q⟩
  ·rw [if_neg q]
   by_cases q2:p n=true
   ·rw [if_pos q2];exact ⟨fun _=>⟨n,by omega,q2⟩,fun _=>by omega⟩
   ·rw [if_neg q2]
    refine ⟨fun h=>absurd h (by omega),fun ⟨e,h1,h2⟩=>?_⟩
    by_cases q3:e<n
    ·exact absurd (ih.2 ⟨e,q3,h2⟩) q
    ·obtain rfl:e=n:=by omega
     exact absurd h2 q2
abbrev u32sF (o:Bool) (n:Nat) (l:Nat→Nat):D:=.fz o n 1 (fun j=>[.val (.int .u32 ((l j:Nat):Int))])
theorem indexw_den (n x:Nat) (l:Nat→Nat) (hn:n≤1000000):Den Tryz.prog 294 [u32sF true n l,.val (.int .u32 (x:Int))] (.val (.int .i64 (firstI (fun j=>decide (x=l j)) n))):=by
 refine den_intro (fn:=Tryz.f294) rfl rfl rfl rfl rfl ?_
 refine go ?_
 refine c_down (fun j=>n - j) (fun j=>j≤n∧∀ e,e<j→decide (x=l e)=false) (fun j:Nat=>[(8,.val (.int .i64 (j:Int)))]) (fun _=>[]) 0 (fun j ⟨hj,hp⟩=>?_) ⟨by omega,fun e he=>by omega⟩
 refine go ?_
 refine c_if (fun h3=>?_) (fun h3=>?_)
 ·refine go ?_
  refine c_if (fun h4=>?_) (fun h4=>?_)
  ·refine go ?_
   refine fin ?_
   rw [firstI_at hp (by simpa using h4) h3]
   exact cv
  ·refine go ?_
   refine ⟨j+1,⟨by omega,fun e he=>?_⟩,by omega,?_⟩
   ·by_cases q:e<j
    ·exact hp e q
    ·obtain rfl:e=j:=by omega
     simpa using h4
   ·exact sub
 ·refine go ?_
  obtain rfl:j=n:=by omega
  refine fin ?_
  rw [firstI_none hp]
  exact cv
theorem containsw_den (n x:Nat) (l:Nat→Nat) (hn:n≤1000000):Den Tryz.prog 266 [u32sF true n l,.val (.int .u32 (x:Int))] (.val (.bool (hasI (fun j=>decide (x=l j)) n))):=by
 refine den_intro (fn:=Tryz.f266) rfl rfl rfl rfl rfl ?_
 refine go ?_
 refine r_callO (indexw_den n x l hn) ?_
 refine go ?_
 refine fin ?_
 exact cv
theorem indexF_den (n:Nat) (l:Nat→Nat) (hn:n≤1000000) (p:Nat→Bool) {fl:FuncId} {fn:Func} [FI Tryz.prog fl fn] (lc:List D) [OldDL lc] (hf:∀ j,j<n→Den Tryz.prog fl [.val (.int .u32 ((l j:Nat):Int)),.fptr true lc] (.val (.bool (p j)))) :
  Den Tryz.prog 279 [u32sF true n l,.clo fl [.fptr true lc]] (.val (.int .i64 (firstI p n))):=by
 refine den_intro (fn:=Tryz.f279) rfl rfl rfl rfl rfl ?_
 refine go ?_
 refine c_down (fun j=>n - j) (fun j=>j≤n∧∀ e,e<j→p e=false) (fun j:Nat=>[(8,.val (.int .i64 (j:Int)))]) (fun _=>[]) 0 (fun j ⟨hj,hp⟩=>?_) ⟨by omega,fun e he=>by omega⟩
 refine go ?_
 refine c_if (fun h3=>?_) (fun h3=>?_)
 ·refine go ?_
  refine r_callO (hf j h3) ?_
  refine go ?_
  refine c_ifB (fun h4=>?_) (fun h4=>?_)
  ·refine go ?_
   refine fin ?_
   rw [firstI_at hp h4 h3]
   exact cv
  ·refine go ?_
   refine ⟨j+1,⟨by omega,fun e he=>?_⟩,by omega,?_⟩
   ·by_cases q:e<j
    ·exact hp e q
    ·obtain rfl:e=j:=by omega
     exact h4
   ·exact sub
 ·refine go ?_
  obtain rfl:j=n:=by omega
  refine fin ?_
  rw [firstI_none hp]
  exact cv
theorem containsF_den (n:Nat) (l:Nat→Nat) (hn:n≤1000000) (p:Nat→Bool) {fl:FuncId} {fn:Func} [FI Tryz.prog fl fn] (lc:List D) [OldDL lc] (hf:∀ j,j<n→Den Tryz.prog fl [.val (.int .u32 ((l j:Nat):Int)),.fptr true lc] (.val (.bool (p j)))) :
  Den Tryz.prog 228 [u32sF true n l,.clo fl [.fptr true lc]] (.val (.bool (hasI p n))):=by
 refine den_intro (fn:=Tryz.f228) rfl rfl rfl rfl rfl ?_
 refine go ?_
 refine r_callO (indexF_den n l hn p lc hf) ?_
 refine go ?_
 refine fin ?_
 exact cv
theorem rgCheck1_den (x q:Nat):Den Tryz.prog 229 [.val (.int .u32 (x:Int)),.fptr true [.val (.int .u32 (q:Int))]] (.val (.bool (decide (q≤x)))):=by
 refine den_intro (fn:=Tryz.f229) rfl rfl rfl rfl rfl ?_
 refine go ?_
 refine fin ?_
 exact cv

def fillTo (h:Nat→Nat) (j e:Nat):Nat:=if e<j then h e else 0
theorem fillTo_zero (h:Nat→Nat) (e:Nat):fillTo h 0 e=0:=by simp [fillTo]
theorem fillTo_all (h:Nat→Nat) {n e:Nat} (he:e<n):fillTo h n e=h e:=by simp [fillTo,he]
theorem setE_fill {h:Nat→Nat} {j v:Nat} (hv:v=h j) (e:Nat):setE (fun e=>[.val (.int .u32 ((fillTo h j e:Nat):Int))]) j 0 [.val (.int .u32 ((v:Nat):Int))] e=[.val (.int .u32 ((fillTo h (j+1) e:Nat):Int))]:=by
 subst hv
 unfold setE
 by_cases q:e=j
 ·subst q;simp [fillTo,setL,takeL,dropL]
 ·have:fillTo h (j+1) e=fillTo h j e:=by unfold fillTo;by_cases q2:e<j<;>simp [q2]<;>omega
  simp [q,this]
section
variable {P:Program} {fn:Func} {r:D} {hs rs:Hs} {ro:Option Nat} {N:Nat} {Q:Post} {c:Code} {env:List (Nat × D)} {box:List (Nat × Option Box)} {E2:Nat→D} {H2:Nat→Option Box}
theorem row_end (k:Nat) {n:Nat} (h:Nat→Nat) (g:FinS P fn r hs rs (lk env) (hk ((k,some (rowB n h))::box))) (hb:autoParam (Bl box k (rowB n (fillTo h n))) aq6._auto_1):FinS P fn r hs rs (lk env) (hk box):=fin_arr k (t:=22) (n:=n) (m:=1) (f:=fun e=>[.val (.int .u32 ((fillTo h n e:Nat):Int))]) (fun e=>[.val (.int .u32 ((h e:Nat):Int))]) (fun e he=>by rw [fillTo_all h he]) (fun _=>rfl) g hb
theorem row_zero (k:Nat) {n:Nat} (h:Nat→Nat) (g:AWp ro P N c (lk env) (hk ((k,some (rowB n (fillTo h 0)))::box)) Q) (hb:autoParam (Bl box k (rowB n (fun _=>0))) aq6._auto_1):AWp ro P N c (lk env) (hk box) Q:=c_arr k (t:=22) (n:=n) (m:=1) (f:=fun e=>[.val (.int .u32 ((0:Nat):Int))]) (fun e=>[.val (.int .u32 ((fillTo h 0 e:Nat):Int))]) (fun e _=>by rw [fillTo_zero]) (fun _=>rfl) g hb
theorem row_next (k:Nat) {n j v:Nat} {h:Nat→Nat} (hv:v=h j) (g:Sub (lk env) (hk ((k,some (rowB n (fillTo h (j+1))))::box)) E2 H2) (hb:autoParam (Bl box k (.arr 22 n 1 (setE (fun e=>[.val (.int .u32 ((fillTo h j e:Nat):Int))]) j 0 [.val (.int .u32 ((v:Nat):Int))]))) aq6._auto_1):Sub (lk env) (hk box) E2 H2:=sub_arr k _ (fun e _=>setE_fill hv e) (fun _=>rfl) g hb
end
theorem rgSub1_den (i q n lv M:Nat) (sp:Bool) (ga gb:Nat→Nat→Nat) (hi:i<M) (hM:M≤1001) (hn:n≤32) (hq0:0<q) (hq:q<4294967296) (ha:∀ i j,ga i j<4294967296) (hb:∀ i j,gb i j<4294967296) (hbq:∀ j,gb i j≤q) :
  DenH Tryz.prog 215 [.val (.int .i64 (i:Int)),.val (.int .u64 (q:Int)),.sl 0 1 n,.fptr true (elL true lv sp M n ga),.fptr true (elL true lv sp M n gb)] [(0,rowB n fun _=>0)] (.tup []) [(0,rowB n fun j=>(ga i j+q - gb i j) % q)] []:=by
 refine den_intro (fn:=Tryz.f215) rfl rfl rfl rfl rfl ?_
 refine go ?_
 refine row_zero 0 (fun j=>(ga i j+q - gb i j) % q) ?_
 refine c_up n (fun j=>[(11,.val (.int .i64 (j:Nat)))]) (fun j=>[(0,rowB n (fillTo (fun j=>(ga i j+q - gb i j) % q) j))]) (fun j hj=>?_)
 refine go ?_
 have ha':=ha i j
 have hb':=hb i j
 have hbq':=hbq j
 have hm:=Nat.mod_lt (ga i j+q - gb i j) hq0
 refine c_if (fun h3=>?_) (fun h3=>?_)
 ·refine go ?_
  refine ⟨h3,?_⟩
  refine row_next 0 rfl ?_
  exact sub
 ·refine go ?_
  obtain rfl:j=n:=by omega
  refine row_end 0 _ ?_
  refine finH ?_
  exact cv
theorem rgMulInt1_den (i q n lv M:Nat) (sp:Bool) (m:Int) (ga:Nat→Nat→Nat) (hi:i<M) (hM:M≤1001) (hn:n≤32) (hq0:0<q) (hq:q<4294967296) (ha:∀ i j,ga i j<4294967296) (h64 : -9223372036854775808≤m∧m≤9223372036854775807) (c:Nat) (hc:((m.tmod q+q).tmod q)=(c:Int)) (hcq:c<q) :
  DenH Tryz.prog 207 [.val (.int .i64 (i:Int)),.val (.int .u64 (q:Int)),.sl 0 1 n,.fptr true [.val (.int .i64 m)],.fptr true (elL true lv sp M n ga)] [(0,rowB n fun _=>0)] (.tup []) [(0,rowB n fun j=>(ga i j*c) % q)] []:=by
 refine den_intro (fn:=Tryz.f207) rfl rfl rfl rfl rfl ?_
 have h1:m.tmod q<q:=Int.tmod_lt_of_pos _ (by omega)
 have h2 : -(q:Int)<m.tmod q:=by have:=Int.tmod_lt_of_pos (-m) (show (0:Int)<q by omega);rw [Int.neg_tmod] at this;omega
 refine go ?_
 refine row_zero 0 (fun j=>(ga i j*c) % q) ?_
 refine c_up n (fun j=>[(23,.val (.int .i64 (j:Nat)))]) (fun j=>[(0,rowB n (fillTo (fun j=>(ga i j*c) % q) j))]) (fun j hj=>?_)
 refine go ?_
 have hm:=Nat.mod_lt (ga i j*c) hq0
 have hp:ga i j*c<4294967296*4294967296:=Nat.mul_lt_mul'' (ha i j) (by omega)
 have ha':=ha i j
 refine c_if (fun h3=>?_) (fun h3=>?_)
 ·refine go ?_
  refine ⟨h3,?_⟩
  refine row_next 0 rfl ?_
  exact sub
 ·refine go ?_
  obtain rfl:j=n:=by omega
  refine row_end 0 _ ?_
  refine finH ?_
  exact cv

abbrev intsD (o:Bool) (n:Nat) (f:Nat→Int):D:=.fz o n 1 (fun j=>[.val (.int .i64 (f j))])
theorem rgFromInts1_den (i q n:Nat) (f:Nat→Int) (hn:n≤32) (hq0:0<q) (hq:q<4294967296) (hf:∀ j, -9223372036854775808≤f j∧f j≤9223372036854775807) (h:Nat→Nat) (hh:∀ j,(if (f j).tmod q<0 then (f j).tmod q+q else (f j).tmod q)=(h j:Int)) :
  DenH Tryz.prog 206 [.val (.int .i64 (i:Int)),.val (.int .u64 (q:Int)),.sl 0 1 n,.fptr true [intsD true n f]] [(0,rowB n fun _=>0)] (.tup []) [(0,rowB n h)] []:=by
 refine den_intro (fn:=Tryz.f206) rfl rfl rfl rfl rfl ?_
 refine go ?_
 refine row_zero 0 h ?_
 refine c_up n (fun j=>[(12,.val (.int .i64 (j:Nat)))]) (fun j=>[(0,rowB n (fillTo h j))]) (fun j hj=>?_)
 refine go ?_
 have hj1:=hh j
 have hj2:=hf j
 have h1:(f j).tmod q<q:=Int.tmod_lt_of_pos _ (by omega)
 have h2 : -(q:Int)<(f j).tmod q:=by have:=Int.tmod_lt_of_pos (-(f j)) (show (0:Int)<q by omega);rw [Int.neg_tmod] at this;omega
 refine c_if (fun h3=>?_) (fun h3=>?_)
 ·refine go ?_
  refine c_if (fun h4=>?_) (fun h4=>?_)
  ·have hv:NatIs ((f j).tmod q+q) (h j):=by rw [if_pos h4] at hj1;exact hj1
   have hlt:h j<q:=by unfold NatIs at hv;omega
   refine go ?_
   refine ⟨h3,?_⟩
   refine row_next 0 rfl ?_
   exact sub
  ·have hv:NatIs ((f j).tmod q) (h j):=by rw [if_neg h4] at hj1;exact hj1
   have hlt:h j<q:=by unfold NatIs at hv;omega
   refine go ?_
   refine ⟨h3,?_⟩
   refine row_next 0 rfl ?_
   exact sub
 ·refine go ?_
  obtain rfl:j=n:=by omega
  refine row_end 0 _ ?_
  refine finH ?_
  exact cv
def mulA (a b:Nat→Nat) (q k:Nat):Nat→Nat
 | 0=>0
 | j+1=>if j≤k then (mulA a b q k j+a j*b (k - j)) % q else mulA a b q k j
def mulS (a b:Nat→Nat) (q n k:Nat):Nat→Nat
 | 0=>0
 | j+1=>if j≤k then mulS a b q n k j else (mulS a b q n k j+a j*b (k+n - j)) % q
def mulR (a b:Nat→Nat) (q n k:Nat):Nat:=(mulA a b q k n+q - mulS a b q n k n) % q
theorem mulA_lt (a b:Nat→Nat) {q:Nat} (hq:0<q) (k j:Nat):mulA a b q k j<q:=by
 induction j with
 | zero=>exact hq
 | succ j ih=>unfold mulA;split;exact Nat.mod_lt _ hq;exact ih
theorem mulS_lt (a b:Nat→Nat) {q:Nat} (hq:0<q) (n k j:Nat):mulS a b q n k j<q:=by
 induction j with
 | zero=>exact hq
 | succ j ih=>unfold mulS;split;exact ih;exact Nat.mod_lt _ hq
theorem rgMul1_den (i q n lv M:Nat) (sp:Bool) (ga gb:Nat→Nat→Nat) (hi:i<M) (hM:M≤1001) (hn:n≤32) (hq0:0<q) (hq:q<2147483648) (ha:∀ i j,ga i j<2147483648) (hb:∀ i j,gb i j<2147483648) :
  DenH Tryz.prog 214 [.val (.int .i64 (i:Int)),.val (.int .u64 (q:Int)),.sl 0 1 n,.fptr true (elL true lv sp M n ga),.fptr true (elL true lv sp M n gb)] [(0,rowB n fun _=>0)] (.tup []) [(0,rowB n fun k=>mulR (ga i) (gb i) q n k)] []:=by
 refine den_intro (fn:=Tryz.f214) rfl rfl rfl rfl rfl ?_
 refine go ?_
 refine row_zero 0 (mulR (ga i) (gb i) q n) ?_
 refine c_up n (fun k=>[(27,.val (.int .i64 (k:Nat)))]) (fun k=>[(0,rowB n (fillTo (mulR (ga i) (gb i) q n) k))]) (fun k hk=>?_)
 refine go ?_
 refine c_if (fun h3=>?_) (fun h3=>?_)
 ·refine go ?_
  refine c_up n (fun j=>[(32,.val (.int .i64 (j:Nat))),(11,.val (.int .u64 ((mulA (ga i) (gb i) q k j:Nat):Int))),(12,.val (.int .u64 ((mulS (ga i) (gb i) q n k j:Nat):Int)))]) (fun _=>[]) (fun j hj=>?_)
  refine go ?_
  have hA:=mulA_lt (ga i) (gb i) hq0 k j
  have hS:=mulS_lt (ga i) (gb i) hq0 n k j
  have ha':=ha i j
  refine c_if (fun h4=>?_) (fun h4=>?_)
  ·refine go ?_
   refine c_if (fun h5=>?_) (fun h5=>?_)
   ·have hp:ga i j*gb i (k - j)<2147483648*2147483648:=Nat.mul_lt_mul'' (ha i j) (hb i _)
    have hm:=Nat.mod_lt (mulA (ga i) (gb i) q k j+ga i j*gb i (k - j)) hq0
    have hb':=hb i (k - j)
    refine go ?_
    have e1:mulA (ga i) (gb i) q k (j+1)=(mulA (ga i) (gb i) q k j+ga i j*gb i (k - j)) % q:=if_pos h5
    have e2:mulS (ga i) (gb i) q n k (j+1)=mulS (ga i) (gb i) q n k j:=if_pos h5
    refine ⟨h4,?_⟩
    rw [e1,e2]
    exact sub
   ·have hp:ga i j*gb i (k+n - j)<2147483648*2147483648:=Nat.mul_lt_mul'' (ha i j) (hb i _)
    have hm:=Nat.mod_lt (mulS (ga i) (gb i) q n k j+ga i j*gb i (k+n - j)) hq0
    have hb':=hb i (k+n - j)
    refine go ?_
    have e1:mulA (ga i) (gb i) q k (j+1)=mulA (ga i) (gb i) q k j:=if_neg h5
    have e2:mulS (ga i) (gb i) q n k (j+1)=(mulS (ga i) (gb i) q n k j+ga i j*gb i (k+n - j)) % q:=if_neg h5
    refine ⟨h4,?_⟩
    rw [e1,e2]
    exact sub
  ·obtain rfl:j=n:=by omega
   have hm:=Nat.mod_lt (mulA (ga i) (gb i) q k j+q - mulS (ga i) (gb i) q j k j) hq0
   refine go ?_
   refine ⟨h3,?_⟩
   refine row_next 0 rfl ?_
   exact sub
 ·refine go ?_
  obtain rfl:k=n:=by omega
  refine row_end 0 _ ?_
  refine finH ?_
  exact cv

def modOk (q:Nat):Bool:=(decide (3≤q) && decide (q≤2147483647)) && decide (q % 2=1)
structure VP (p:PD):Prop where
 n:p.n=4∨p.n=8∨p.n=16∨p.n=32
 len1:1≤p.chain.length
 len2:p.chain.length≤24
 mods:∀ j,j<p.chain.length→modOk (p.chain.getD j 0)=true
 apart:∀ j,j<p.chain.length→hasI (fun e=>decide (p.chain.getD j 0=p.chain.getD e 0)) j=false
 special:p.special=0∨(modOk p.special=true∧hasI (fun e=>decide (p.special=p.chain.getD e 0)) p.chain.length=false)
theorem rgvalid_den (p:PD) (h:VP p):Den Tryz.prog 203 [.fptr true (parL true p)] (.val (.bool true)):=by
 refine den_intro (fn:=Tryz.f203) rfl rfl rfl rfl rfl ?_
 refine go ?_
 refine c_cut0 [(9,.val (.bool true))] ?_ ?_
 ·refine c_if (fun h1=>?_) (fun h1=>?_)
  ·refine go ?_
   exact sub
  ·refine go ?_
   refine c_if (fun h2=>?_) (fun h2=>?_)
   ·refine go ?_
    exact sub
   ·refine go ?_
    refine c_if (fun h3=>?_) (fun h3=>?_)
    ·refine go ?_
     exact sub
    ·have h4:p.n=32:=by have:=h.n;omega
     refine go ?_
     exact sub
 ·refine go ?_
  refine g_call (hl:=fun hb=>r_callO (rgmodulus_den _) (run_fin rfl)) (h:=?_)
  refine go ?_
  refine g_call (hl:=fun hb=>r_callO (containsw_den p.chain.length p.special (fun e=>p.chain.getD e 0) (by have:=h.len2;omega)) (run_fin rfl)) (h:=?_)
  refine go ?_
  refine c_ifB (fun h1=>absurd h1 ?_) (fun _=>?_)
  ·have l1:=h.len1
   have l2:=h.len2
   have e1:decide (p.chain.length<1)=false:=decide_eq_false (by omega)
   have e2:decide (24<p.chain.length)=false:=decide_eq_false (by omega)
   rcases h.special with e | ⟨e3,e4⟩
   ·rw [e1,e2,e];simp
   ·unfold modOk at e3
    rw [e1,e2,e3,e4];simp
  ·refine go ?_
   refine c_up p.chain.length (fun k=>[(59,.val (.int .i64 (k:Nat)))]) (fun _=>[]) (fun k hk=>?_)
   have l2:=h.len2
   refine go ?_
   refine c_if (fun h3=>?_) (fun h3=>?_)
   ·refine go ?_
    refine r_callO (rgmodulus_den (p.chain.getD k 0)) ?_
    refine go ?_
    refine g_callM (hl:=fun hb=>r_callO (containsw_den (k - 0) (p.chain.getD k 0) (fun e=>p.chain.getD (0+e) 0) (by omega)) (run_fin rfl)) (h:=?_)
    refine go ?_
    refine c_ifB (fun h1=>absurd h1 ?_) (fun _=>?_)
    ·have e1:=h.mods k h3
     have e2:=h.apart k h3
     unfold modOk at e1
     simp only [Nat.sub_zero,Nat.zero_add]
     rw [e1,e2];decide
    ·refine go ?_
     exact ⟨h3,sub⟩
   ·refine go ?_
    refine fin ?_
    exact cv

def evry (f:Nat→Bool):Nat→Bool
 | 0=>true
 | n+1=>evry f n && f n
theorem evry_iff {f:Nat→Bool} {n:Nat}:evry f n=true↔∀ k,k<n→f k=true:=by
 induction n with
 | zero=>exact ⟨fun _ k h=>by omega,fun _=>rfl⟩
 | succ n ih=>
  unfold evry
  rw [Bool.and_eq_true,ih]
  exact ⟨fun ⟨h1,h2⟩ k hk=>by
   by_cases q:k<n
   ·exact h1 k q
   ·obtain rfl:k=n:=by omega
    exact h2,fun h=>⟨fun k hk=>h k (by omega),h n (by omega)⟩⟩
theorem evry_no {f:Nat→Bool} {n k:Nat} (hk:k<n) (h:f k=false):evry f n=false:=by
 cases q:evry f n with
 | false=>rfl
 | true=>rw [evry_iff.1 q k hk] at h;cases h
abbrev elG (o:Bool) (lv:Int) (sp:Bool) (m:Nat) (ln:Nat→Nat) (g:Nat→Nat→Nat):List D:=[.val (.int .i64 lv),.val (.bool sp),.fz o m 1 (fun k=>[.fz o (ln k) 1 (fun j=>[.val (.int .u32 ((g k j:Nat):Int))])])]
def rowOk (p:PD) (lv:Nat) (ln:Nat→Nat) (g:Nat→Nat→Nat) (k:Nat):Bool:=decide ((ln k:Int)=p.n) && !hasI (fun j=>decide (modQ p lv k≤g k j)) (ln k)
def placeB (p:PD) (lv:Int) (sp:Bool):Bool:=decide (1≤lv) && decide (lv≤(p.chain.length:Int)) && (!sp || decide (p.special≠0))
def elOk (p:PD) (lv:Int) (sp:Bool) (m:Nat) (ln:Nat→Nat) (g:Nat→Nat→Nat):Bool:=placeB p lv sp && decide (m=modN p lv.toNat sp) && evry (rowOk p lv.toNat ln g) m
theorem elOk_1 {p:PD} {lv:Int} {sp:Bool} {m:Nat} {ln:Nat→Nat} {g:Nat→Nat→Nat} (h:placeB p lv sp=false):elOk p lv sp m ln g=false:=by unfold elOk;rw [h];rfl
theorem elOk_2 {p:PD} {lv:Int} {sp:Bool} {m:Nat} {ln:Nat→Nat} {g:Nat→Nat→Nat} (h:m≠modN p lv.toNat sp):elOk p lv sp m ln g=false:=by unfold elOk;rw [decide_eq_false h];simp
theorem elOk_3 {p:PD} {lv:Int} {sp:Bool} {m k:Nat} {ln:Nat→Nat} {g:Nat→Nat→Nat} (hk:k<m) (h:rowOk p lv.toNat ln g k=false):elOk p lv sp m ln g=false:=by unfold elOk;rw [evry_no hk h];simp
theorem elOk_4 {p:PD} {lv:Nat} {sp:Bool} {m:Nat} {ln:Nat→Nat} {g:Nat→Nat→Nat} (h:placeB p (lv:Int) sp=true) (h2:m=modN p lv sp) (h3:∀ k,k<m→rowOk p lv ln g k=true):elOk p (lv:Int) sp m ln g=true:=by unfold elOk;rw [h,Int.toNat_natCast,decide_eq_true h2,evry_iff.2 h3];rfl
instance (p:PD):CvtLI (parL true p) (parL true p):=⟨CvtL.refl _⟩
abbrev errI (b:Bool):Int:=if b then 0 else 2
theorem b_ok {x:Bool} (h:(!true || !x)=false):x=true:=by cases x<;>simp_all
theorem b_no {x:Bool} (h:(!true || !x)=true):x=false:=by cases x<;>simp_all
theorem rgCheck_den (p:PD) (h:VP p) (lv:Int) (sp:Bool) (m:Nat) (ln:Nat→Nat) (g:Nat→Nat→Nat) (hln:∀ k,ln k≤1000000) (hm:m≤1000000):Den Tryz.prog 154 [.agg (parL true p),.agg (elG true lv sp m ln g)] (.val (.int .i64 (errI (elOk p lv sp m ln g)))):=by
 refine den_intro (fn:=Tryz.f154) rfl rfl rfl rfl rfl ?_
 refine go ?_
 refine r_call (rgvalid_den p h) ?_
 refine go ?_
 refine g_callM (hl:=fun hb=>r_call (rgplace_den p lv sp) (run_fin rfl)) (h:=?_)
 refine go ?_
 refine c_ifB (fun h1=>?_) (fun h1=>?_)
 ·refine go ?_
  refine fin ?_
  rw [elOk_1 (show placeB p lv sp=false from b_no h1)]
  exact cv
 ·have hp:placeB p lv sp=true:=b_ok h1
  have l2:=h.len2
  have hlv:1≤lv∧lv≤(p.chain.length:Int):=by
   simp only [placeB,Bool.and_eq_true,decide_eq_true_eq] at hp
   exact hp.1
  obtain ⟨lv,rfl⟩:=Int.eq_ofNat_of_zero_le (show 0≤lv by omega)
  refine go ?_
  refine c_cut0 [(5,.val (.int .i64 ((modN p lv sp:Nat):Int)))] ?_ ?_
  ·refine c_ifB (fun h2=>?_) (fun h2=>?_)
   ·subst h2
    refine go ?_
    exact sub
   ·subst h2
    refine go ?_
    exact sub
  ·have hM:modN p lv sp≤1001:=by unfold modN;split<;>omega
   refine go ?_
   refine c_if (fun h3=>?_) (fun h3=>?_)
   ·refine go ?_
    refine fin ?_
    rw [elOk_2 (show m≠modN p (lv:Int).toNat sp from fun e=>h3 (by rw [e];simp))]
    exact cv
   ·obtain rfl:m=modN p lv sp:=by omega
    refine c_frz (1000+2) ?_
    refine c_slot 2 (.fptr false (parL true p)) ?_
    refine go ?_
    refine r_callO (rgmoduli_den p lv sp) ?_
    refine go ?_
    refine c_range (α:=Unit) [1003,1004] (moduli1_itr p lv sp (by omega) (by omega)) _ (modL_len _ lv sp) (fun k=>[.val (.int .i64 (k:Nat)),.val (.int .u32 ((modQ p lv k:Nat):Int))]) (fun k hk=>modL_at _ lv sp hk)
     (fun k=>[(104,some (.lit 34 [.val (.int .i64 0)])),(103,some (.lit 93 (elG true (lv:Int) sp (modN p lv sp) ln g)))]) (fun _=>[(104,some (.lit 34 [.val (.int .i64 2)])),(103,some (.lit 93 (elG true (lv:Int) sp (modN p lv sp) ln g)))]) (fun _=>elOk p (lv:Int) sp (modN p lv sp) ln g=false) (fun _=>.ret) (fun k=>∀ j,j<k→rowOk p lv ln g j=true) (fun j hj=>by omega) (fun k l hk hF=>?_) (fun hF=>?_) (fun y hy=>?_)
    ·refine go ?_
     refine g_callM (hl:=fun hb=>r_call (containsF_den (ln k) (g k) (hln k) (fun j=>decide (modQ p lv k≤g k j)) [.val (.int .u32 ((modQ p lv k:Nat):Int))] (fun j _=>rgCheck1_den (g k j) (modQ p lv k))) (run_fin rfl)) (h:=?_)
     refine go ?_
     have hrow:rowOk p lv ln g k = !(decide ((ln k:Int)≠p.n) || hasI (fun j=>decide (modQ p lv k≤g k j)) (ln k)):=by unfold rowOk;by_cases q:(ln k:Int)=p.n<;>simp [q]
     refine c_ifB (fun h4=>?_) (fun h4=>?_)
     ·refine go ?_
      refine ⟨(),elOk_3 hk (by rw [Int.toNat_natCast,hrow,h4];rfl),rfl,?_⟩
      exact sub
     ·refine go ?_
      refine ⟨fun j hj=>?_,?_⟩
      ·by_cases q:j<k
       ·exact hF j q
       ·obtain rfl:j=k:=by omega
        rw [hrow,h4];rfl
      ·exact sub
    ·refine go ?_
     refine fin ?_
     rw [show elOk p (lv:Int) sp (modN p lv sp) ln g=true from elOk_4 hp rfl hF]
     exact cv
    ·refine go ?_
     refine fin ?_
     rw [hy]
     exact cv

theorem sub_toL (L:List Nat) (a b:Nat) {env env1 env':List (Nat × D)} {box box1 box':List (Nat × Option Box)} {E2:Nat→D} {H2:Nat→Option Box} (h:Sub (lk env') (hk box') E2 H2)
  (he:autoParam (KeepE L env env1) aq10._auto_1) (hE:RenEL (toN a b) env1 env':=by (repeat (first | exact RenEL.nil | (apply RenEL.cons;(focus ((first | exact D.ren_free _ rfl | exact ren_eptr (by first | exact to_y rfl | exact to_n rfl) | exact ren_sl (by first | exact to_y rfl | exact to_n rfl) | exact ren_clo (by (repeat (first | exact RenLL.nil | (apply RenLL.cons;(focus ((first | exact D.ren_free _ rfl | exact ren_eptr (by first | exact to_y rfl | exact to_n rfl) | exact ren_sl (by first | exact to_y rfl | exact to_n rfl));done)))))) | exact ren_agg (by (repeat (first | exact RenLL.nil | (apply RenLL.cons;(focus ((first | exact D.ren_free _ rfl | exact ren_eptr (by first | exact to_y rfl | exact to_n rfl) | exact ren_sl (by first | exact to_y rfl | exact to_n rfl));done)))))) | exact ren_tup (by (repeat (first | exact RenLL.nil | (apply RenLL.cons;(focus ((first | exact D.ren_free _ rfl | exact ren_eptr (by first | exact to_y rfl | exact to_n rfl) | exact ren_sl (by first | exact to_y rfl | exact to_n rfl));done)))))));done)))))) (hbk:autoParam (KeepB [b] box box1) aq11._auto_1) (hB:autoParam (RenBL (toN a b) box1 box') aq9._auto_1) (h1:Nat.ble 1000 a=true:=by rfl) (h2:(box1.all fun x=>Nat.beq (toN b a (toN a b x.1)) x.1)=true:=by kernel_rfl) (h3:Nat.ble 1000 b=true:=by rfl)
  (hs:Sub (lk env) (hk box) (lk env1) (hk box1):=by exact sub):Sub (lk env) (hk box) E2 H2:=by
 refine hs.trans (Sub.trans ?_ h)
 have:=sub_ren (env:=env1) (two_of (r:=toN a b) (s:=toN b a) (box:=box1) (fun k hk=>to_n (beq_ne (by have:=Nat.le_of_ble_eq_true h1;omega))) h2) (fun k hk=>to_n (beq_ne (by have:=Nat.le_of_ble_eq_true h3;omega)))
 rw [hE.eq,hB.eq] at this
 exact this
def resI (x:Int) (q:Nat):Nat:=(x % (q:Int)).toNat
theorem resI_cast {x:Int} {q:Nat} (h:0<q):((resI x q:Nat):Int)=x % (q:Int):=Int.toNat_of_nonneg (Int.emod_nonneg x (by omega))
theorem resI_lt {x:Int} {q:Nat} (h:0<q):resI x q<q:=by
 have h1:=resI_cast (x:=x) h
 have h2:=Int.emod_lt_of_pos x (show (0:Int)<q by omega)
 omega
theorem resI_tmod {x:Int} {q:Nat} (h:0<q):(if x.tmod q<0 then x.tmod q+q else x.tmod q)=((resI x q:Nat):Int):=by
 rw [resI_cast h,Int.tmod_eq_emod]
 have h1:=Int.emod_nonneg x (show (q:Int)≠0 by omega)
 have h2:=Int.emod_lt_of_pos x (show (0:Int)<q by omega)
 by_cases c:0≤x∨(q:Int)∣x
 ·rw [if_pos c,if_neg (by omega)];omega
 ·rw [if_neg c]
  have h3:x % (q:Int)≠0:=fun e=>c (.inr (Int.dvd_of_emod_eq_zero e))
  rw [if_pos (by omega)];omega
theorem modQ_in {p:PD} (h:VP p) (hs:p.special≠0) {lv:Nat} (hl:lv≤p.chain.length) (k:Nat):3≤modQ p lv k∧modQ p lv k≤2147483647∧modQ p lv k % 2=1:=by
 have q:modOk (modQ p lv k)=true:=by
  unfold modQ
  split
  ·exact h.mods k (by omega)
  ·rcases h.special with q | q
   ·exact absurd q hs
   ·exact q.1
 unfold modOk at q
 simp only [Bool.and_eq_true,decide_eq_true_eq] at q
 exact ⟨q.1.1,q.1.2,q.2⟩
structure Lv (p:PD) (n lv:Nat):Prop where
 vp:VP p
 sp:p.special≠0
 n:p.n=(n:Int)
 l1:1≤lv
 l2:lv≤p.chain.length
theorem Lv.n32 {p:PD} {n lv:Nat} (h:Lv p n lv):n≤32:=by have:=h.vp.n;have:=h.n;omega
theorem Lv.n4 {p:PD} {n lv:Nat} (h:Lv p n lv):4≤n:=by have:=h.vp.n;have:=h.n;omega
theorem Lv.place {p:PD} {n lv:Nat} (h:Lv p n lv) (sp:Bool):(decide (1≤(lv:Int)) && decide ((lv:Int)≤(p.chain.length:Int)) && (!sp || decide (p.special≠0)))=true:=by
 have h1:=h.l1
 have h2:=h.l2
 rw [decide_eq_true (show 1≤(lv:Int) by omega),decide_eq_true (show (lv:Int)≤(p.chain.length:Int) by omega),decide_eq_true h.sp]
 cases sp<;>rfl
theorem rgFromInts_den (p:PD) (n lv:Nat) (sp:Bool) (h:Lv p n lv) (x:Nat→Int) (hx:∀ j, -9223372036854775808≤x j∧x j≤9223372036854775807):Den Tryz.prog 132 [.agg (parL true p),.val (.int .i64 (lv:Int)),.val (.bool sp),intsD true n x] (.tup [.agg (elL false lv sp (modN p lv sp) n (fun k j=>resI (x j) (modQ p lv k))),.val (.int .i64 0)]):=by
 refine den_intro (fn:=Tryz.f132) rfl rfl rfl rfl rfl ?_
 have hN:NatIs p.n n:=h.n
 have h32:=h.n32
 have l2:=h.vp.len2
 have hpl:=h.place sp
 refine go ?_
 refine r_call (rgvalid_den p h.vp) ?_
 refine go ?_
 refine g_callM (hl:=fun hb=>r_call (rgplace_den p lv sp) (run_fin rfl)) (h:=?_)
 refine go ?_
 refine c_ifB (fun h1=>?_) (fun h1=>?_)
 ·rw [hpl] at h1
  exfalso
  simp at h1
 ·refine go ?_
  have hm:=modQ_in h.vp h.sp h.l2
  have hm':∀ k,0<modQ p lv k:=fun k=>by have:=hm k;omega
  refine r_call (rgeach1_den p n lv sp h.n h32 h.l1 h.l2 (by omega) (fun k=>by have:=hm k;omega) [intsD true n x] (fun k j=>resI (x j) (modQ p lv k)) (fun k hk=>rgFromInts1_den k (modQ p lv k) n x h32 (hm' k) (by have:=hm k;omega) hx (fun j=>resI (x j) (modQ p lv k)) (fun j=>resI_tmod (hm' k)))) ?_
  refine go ?_
  refine fin ?_
  exact cv

instance fi216:FI Tryz.prog 216 Tryz.f216:=⟨Tryz.func216,Tryz.call216⟩
instance fi325:FI Tryz.prog 325 Tryz.f325:=⟨Tryz.func325,Tryz.call325⟩
instance fi290:FI Tryz.prog 290 Tryz.f290:=⟨Tryz.func290,Tryz.call290⟩
theorem mfits_den (n k:Nat) (l:Nat→Nat) (h2:2≤n) (hn:n≤2147483647) (hk:k≤1000000) (hl:∀ j,j<k→l j<n):Den Tryz.prog 216 [.val (.int .u32 (n:Int)),u32sF true k l] (.val (.bool true)):=by
 refine den_intro (fn:=Tryz.f216) rfl rfl rfl rfl rfl ?_
 refine go ?_
 refine c_up k (fun i=>[(9,.val (.int .i64 (i:Int)))]) (fun _=>[]) (fun i hi=>?_)
 refine go ?_
 refine c_if (fun h3=>?_) (fun h3=>?_)
 ·have:=hl i h3
  refine go ?_
  refine ⟨h3,?_⟩
  exact sub
 ·refine go ?_
  refine fin ?_
  rw [decide_eq_true h2,decide_eq_true hn]
  exact cv
theorem mfits1_den (n a:Nat) (h2:2≤n) (hn:n≤2147483647) (ha:a<n):Den Tryz.prog 216 [.val (.int .u32 (n:Int)),litA Tryz.t22.size 1 [.val (.int .u32 (a:Int))]] (.val (.bool true)):=
 (mfits_den n 1 (fun _=>a) h2 hn (by omega) (fun _ _=>ha)).arg (.cons (.of_eq rfl) (.cons (Cvt.litA (fun e he=>by
  match e,he with
  | 0,_=>rfl) (fun _ _=>rfl)) .nil))
theorem mfits2_den (n a b:Nat) (h2:2≤n) (hn:n≤2147483647) (ha:a<n) (hb:b<n):Den Tryz.prog 216 [.val (.int .u32 (n:Int)),litA Tryz.t22.size 2 [.val (.int .u32 (a:Int)),.val (.int .u32 (b:Int))]] (.val (.bool true)):=
 (mfits_den n 2 (fun j=>if j=0 then a else b) h2 hn (by omega) (fun j _=>by split<;>assumption)).arg (.cons (.of_eq rfl) (.cons (Cvt.litA (fun e he=>by
  match e,he with
  | 0,_=>rfl
  | 1,_=>rfl) (fun _ _=>rfl)) .nil))
def balI (a n:Nat):Int:=if (n:Int)<2*(a:Int) then (a:Int) - (n:Int) else (a:Int)
/-! ### Euclid's algorithm, as both sides run it -/
def eu:Nat→Nat→Nat→Int→Int→Nat × Int
 | 0,x,_,u,_=>(x,u)
 | f+1,x,y,u,v=>if y=0 then (x,u) else eu f y (x % y) v (u - ((x / y:Nat):Int)*v)
theorem eu_fuel:∀ (y f g x:Nat) (u v:Int),y<f→y<g→eu f x y u v=eu g x y u v:=by
 intro y
 induction y using Nat.strongRecOn with
 | _ y ih=>
  intro f g x u v hf hg
  obtain ⟨f,rfl⟩:∃ k,f=k+1:=⟨f - 1,by omega⟩
  obtain ⟨g,rfl⟩:∃ k,g=k+1:=⟨g - 1,by omega⟩
  unfold eu
  by_cases q:y=0
  ·rw [if_pos q,if_pos q]
  ·rw [if_neg q,if_neg q]
   have:=Nat.mod_lt x (show 0<y by omega)
   exact ih (x % y) this f g y v _ (by omega) (by omega)
theorem eu_step {x y:Nat} {u v:Int} (hy:0<y):eu (y+1) x y u v=eu (x % y+1) y (x % y) v (u - ((x / y:Nat):Int)*v):=by
 rw [eu,if_neg (by omega)]
 have:=Nat.mod_lt x hy
 exact eu_fuel _ _ _ _ _ _ (by omega) (by omega)
theorem eu_end {x:Nat} {u v:Int}:eu (0+1) x 0 u v=(x,u):=by rw [eu,if_pos rfl]
def invE (a n:Nat):Nat × Int:=eu (a+1) n a 0 1
def invB (a n:Nat):Bool:=decide ((invE a n).1=1)
def invV (a n:Nat):Nat:=if (invE a n).1=1 then resI (invE a n).2 n else 0
structure EuOk (n x y:Nat) (u v:Int):Prop where
 lt:y<x
 le:x≤n
 sg:(0≤u∧v≤0∧u*y+(-v)*x=n∧2*u≤n)∨(u≤0∧0≤v∧(-u)*y+v*x=n ∧ -(2*u)≤n)
theorem EuOk.start {a n:Nat} (h:a<n):EuOk n n a 0 1:=⟨h,Nat.le_refl _,.inr ⟨by omega,by omega,by simp,by omega⟩⟩
theorem EuOk.next {n x y:Nat} {u v:Int} (h:EuOk n x y u v) (hy:0<y):EuOk n y (x % y) v (u - ((x / y:Nat):Int)*v):=by
 have hd:((x:Nat):Int)=(y:Int)*((x / y:Nat):Int)+((x % y:Nat):Int):=by
  have:=Nat.div_add_mod x y
  exact_mod_cast this.symm
 have hlt:=h.lt
 refine ⟨Nat.mod_lt _ hy,by have:=h.le;omega,?_⟩
 generalize hq:((x / y:Nat):Int)=q at hd ⊢
 generalize hr:((x % y:Nat):Int)=r at hd ⊢
 have hq0:0≤q:=by rw [← hq];exact Int.natCast_nonneg _
 have hr0:0≤r:=by rw [← hr];exact Int.natCast_nonneg _
 have hx2:(2:Int)≤x:=by omega
 have key:∀ {U V:Int},0≤U→0≤V→U*y+V*x=n→V*r+(U+q*V)*y=n∧2*V≤n:=by
  intro U V hU hV e
  have e1:V*(x:Int)=V*((y:Int)*q+r):=by rw [← hd]
  have e2:V*((y:Int)*q+r)=V*r+q*V*y:=by rw [Int.mul_add,Int.add_comm,Int.mul_comm (y:Int) q,← Int.mul_assoc,Int.mul_comm V q]
  refine ⟨by rw [Int.add_mul];omega,?_⟩
  have h1:0≤U*(y:Int):=Int.mul_nonneg hU (by omega)
  have h2:V*2≤V*(x:Int):=Int.mul_le_mul_of_nonneg_left hx2 hV
  omega
 rcases h.sg with ⟨a1,a2,a3,_⟩ | ⟨a1,a2,a3,_⟩
 ·obtain ⟨k1,k2⟩:=key a1 (show 0 ≤ -v by omega) a3
  have hqv:0≤q*(-v):=Int.mul_nonneg hq0 (by omega)
  rw [Int.mul_neg] at hqv k1
  exact .inr ⟨a2,by omega,by rw [show u - q*v=u + -(q*v) by omega];exact k1,by omega⟩
 ·obtain ⟨k1,k2⟩:=key (show 0 ≤ -u by omega) a2 a3
  have hqv:0≤q*v:=Int.mul_nonneg hq0 a2
  exact .inl ⟨a2,by omega,by rw [show -(u - q*v) = -u+q*v by omega];exact k1,by omega⟩
theorem EuOk.bnd {n x y:Nat} {u v:Int} (h:EuOk n x y u v) : -(n:Int)≤u∧u≤n ∧ -(n:Int)≤v∧v≤n:=by
 have hlt:=h.lt
 have key:∀ {U V:Int},0≤U→0≤V→U*y+V*x=n→V≤n:=by
  intro U V hU hV e
  have h1:0≤U*(y:Int):=Int.mul_nonneg hU (by omega)
  have h2:V*1≤V*(x:Int):=Int.mul_le_mul_of_nonneg_left (by omega) hV
  omega
 rcases h.sg with ⟨a1,a2,a3,a4⟩ | ⟨a1,a2,a3,a4⟩
 ·have:=key a1 (show 0 ≤ -v by omega) a3;omega
 ·have:=key (show 0 ≤ -u by omega) a2 a3;omega
theorem EuOk.prod {n x y:Nat} {u v:Int} (h:EuOk n x y u v) (hy:0<y) : -(2*n:Int)≤((x / y:Nat):Int)*v∧((x / y:Nat):Int)*v≤2*n:=by
 have h1:=h.bnd
 have h2:=(h.next hy).bnd
 omega

theorem resI_of {u:Int} {n:Nat} (h : -(2*u)≤n∧2*u≤n) (hn:2≤n):((resI u n:Nat):Int)=(if u<0 then u+n else u)∧resI u n<n:=by
 refine ⟨?_,resI_lt (by omega)⟩
 rw [resI_cast (by omega)]
 split
 ·rw [← Int.add_emod_right,Int.emod_eq_of_lt (by omega) (by omega)]
 ·rw [Int.emod_eq_of_lt (by omega) (by omega)]
theorem mInverse_den (a n:Nat) (h2:2≤n) (hn:n≤2147483647) (ha:a<n):Den Tryz.prog 325 [.val (.int .u32 (a:Int)),.val (.int .u32 (n:Int))] (.tup [.val (.int .u32 ((invV a n:Nat):Int)),.val (.int .i64 (if invB a n then 0 else 4))]):=by
 refine den_intro (fn:=Tryz.f325) rfl rfl rfl rfl rfl ?_
 refine go ?_
 refine r_call (mfits1_den n a h2 hn ha) ?_
 refine go ?_
 refine c_no ?_
 refine go ?_
 refine c_down (fun s:Nat × Nat × Int × Int=>s.2.1) (fun s=>EuOk n s.1 s.2.1 s.2.2.1 s.2.2.2∧eu (s.2.1+1) s.1 s.2.1 s.2.2.1 s.2.2.2=invE a n) (fun s=>[(6,.val (.int .i64 (s.1:Int))),(7,.val (.int .i64 (s.2.1:Int))),(8,.val (.int .i64 s.2.2.1)),(9,.val (.int .i64 s.2.2.2))]) (fun _=>[]) (n,a,0,1) (fun s hs=>?_) ⟨.start ha,rfl⟩
 obtain ⟨x,y,u,v⟩:=s
 dsimp only at hs ⊢
 obtain ⟨hk,he⟩:=hs
 have hb:=hk.bnd
 have hle:=hk.le
 have hlt:=hk.lt
 refine go ?_
 refine c_if (fun h3=>?_) (fun h3=>?_)
 ·have hy:0<y:=by omega
  have hp:=hk.prod hy
  have hm:=Nat.mod_lt x hy
  have hd:x - x / y*y=x % y:=by have:=Nat.div_add_mod x y;rw [Nat.mul_comm] at this;omega
  have hdm:x / y*y≤x:=Nat.div_mul_le_self x y
  have hq:=Nat.div_le_self x y
  have hnx:=hk.next hy
  have hnb:=hnx.bnd
  refine go ?_
  refine ⟨(y,x % y,v,u - ((x / y:Nat):Int)*v),⟨hnx,(eu_step hy).symm.trans he⟩,hm,?_⟩
  dsimp only
  rw [hd]
  exact sub
 ·obtain rfl:y=0:=by omega
  rw [eu_end] at he
  have hu : -(2*u)≤n∧2*u≤n:=by rcases hk.sg with ⟨_,_,_,_⟩ | ⟨_,_,_,_⟩<;>omega
  obtain ⟨r,hr⟩:∃ r,resI u n=r:=⟨_,rfl⟩
  obtain ⟨hru,hrn⟩:=resI_of hu h2
  rw [hr] at hru hrn
  have hV:invV a n=if x=1 then r else 0:=by unfold invV;rw [← he,hr]
  have hB:invB a n=decide (x=1):=by unfold invB;rw [← he]
  rw [hV,hB]
  refine go ?_
  refine c_if (fun h4=>?_) (fun h4=>?_)
  ·refine go ?_
   rw [if_neg (show ¬ x=1 by omega),decide_eq_false (show ¬ x=1 by omega)]
   refine fin ?_
   exact cv
  ·refine go ?_
   rw [if_pos (show x=1 by omega),decide_eq_true (show x=1 by omega)]
   refine c_cut0 [(8,.val (.int .i64 (r:Int)))] ?_ ?_
   ·refine c_if (fun h5=>?_) (fun h5=>?_)
    ·rw [if_pos h5] at hru
     refine go ?_
     exact sub
    ·rw [if_neg h5] at hru
     refine go ?_
     exact sub
   ·refine go ?_
    refine fin ?_
    exact cv

def D.rf (k:Nat):D→Bool
 | .slr k' _ _ _=> !(Nat.beq k' k)
 | .eptrr k' _ _ _ _=> !(Nat.beq k' k)
 | .clo _ l=>rfL k l
 | .agg l=>rfL k l
 | .tup l=>rfL k l
 | _=>true
where rfL (k:Nat):List D→Bool
 | []=>true
 | d::l=>D.rf k d && rfL k l
theorem rfL_at {k:Nat}:∀ {l:List D},D.rf.rfL k l=true→∀ j,(dl l j).rf k=true
 | [],_,j=>rfl
 | d::l,h,0=>by simp only [D.rf.rfL,Bool.and_eq_true] at h;exact h.1
 | d::l,h,j+1=>by simp only [D.rf.rfL,Bool.and_eq_true] at h;exact rfL_at h.2 j
def norow (k:Nat) (i:Nm):Nm:=fun x=>if x=k then (match i k with | some (some (b,cp))=>some (some (b,⟨cp.c,noR⟩)) | o=>o) else i x
theorem norow_other {k x:Nat} {i:Nm} (h:x≠k):norow k i x=i x:=if_neg h
theorem norow_some {k b:Nat} {cp:Cp} {i:Nm} (h:i k=some (some (b,cp))):norow k i k=some (some (b,⟨cp.c,noR⟩)):=by unfold norow;rw [if_pos rfl,h]
theorem norow_nil {k:Nat} {i:Nm} (h:i k=some none):norow k i k=some none:=by unfold norow;rw [if_pos rfl,h]
theorem norow_get {k x b:Nat} {cp:Cp} {i:Nm} (h:i x=some (some (b,cp))):∃ cp',norow k i x=some (some (b,cp'))∧cp'.c=cp.c:=by
 by_cases q:x=k
 ·subst q;exact ⟨_,norow_some h,rfl⟩
 ·exact ⟨cp,(norow_other q).trans h,rfl⟩
theorem norow_back {k x b:Nat} {cp:Cp} {i:Nm} (h:norow k i x=some (some (b,cp))):∃ cp',i x=some (some (b,cp')):=by
 by_cases q:x=k
 ·subst q
  unfold norow at h
  rw [if_pos rfl] at h
  cases e:i x with
  | none=>rw [e] at h;cases h
  | some o=>
   cases o with
   | none=>rw [e] at h;cases h
   | some bc=>obtain ⟨b',c'⟩:=bc;rw [e] at h;cases h;exact ⟨_,rfl⟩
 ·rw [norow_other q] at h;exact ⟨cp,h⟩
section
variable {Z:Zn} {w:World} {i:Nm} {v:Value} {d:D} {k:Nat}
theorem Rep.norow (h:Rep Z w i v d):d.rf k=true→Rep Z w (Go.Proofs.YtdcenblblimkfaaGreat.norow k i) v d:=by
 induction h with
 | any i v=>intro _;exact .any _ _
 | val i v=>intro _;exact .val _ _
 | eptr i k' m e c h=>intro _;obtain ⟨cp',e1,_⟩:=norow_get (k:=k) h;exact .eptr _ _ _ _ _ e1
 | sl i k' m len cap h h1 h2=>intro _;obtain ⟨cp',e1,e2⟩:=norow_get (k:=k) h;rw [← e2] at h1 h2 ⊢;exact .sl _ _ _ _ _ e1 h1 h2
 | sl0 i k' m h=>
  intro _
  refine .sl0 _ _ _ ?_
  by_cases q:k'=k
  ·subst q;exact norow_nil h
  ·rw [norow_other q];exact h
 | slr i k' e m len b cap h hr h1 h2=>
  intro hf
  have q:k'≠k:=fun e=>by subst e;simp [D.rf] at hf
  exact .slr _ _ _ _ _ _ _ ((norow_other q).trans h) hr h1 h2
 | eptrr i k' e m x c h hr=>
  intro hf
  have q:k'≠k:=fun e=>by subst e;simp [D.rf] at hf
  exact .eptrr _ _ _ _ _ _ ((norow_other q).trans h) hr
 | fz i o ao n cap m f vs h1 h2 hl ha hr ih=>intro _;exact .fz _ o ao n cap m f vs h1 h2 hl ha hr
 | fptr i o b q l vs ha hr ih=>intro _;exact .fptr _ o b q l vs ha hr
 | clo i fn vs l hl hr ih=>intro hf;exact .clo _ fn vs l hl (fun j hj=>ih j hj (rfL_at hf j))
 | agg i vs l hl h1 hr ih=>intro hf;exact .agg _ vs l hl h1 (fun j hj=>ih j hj (rfL_at hf j))
 | tup i vs l hl hr ih=>intro hf;exact .tup _ vs l hl (fun j hj=>ih j hj (rfL_at hf j))
end
def envRf (k:Nat) (env:List (Nat × D)):Bool:=env.all fun x=>x.2.rf k
def Box.rf (k:Nat):Box→Bool
 | .lit _ ds=>D.rf.rfL k ds
 | _=>true
def boxRf (k:Nat) (box:List (Nat × Option Box)):Bool:=box.all fun x=>match x.2 with | some B=>B.rf k | none=>true
theorem envRf_at {k:Nat}:∀ {env:List (Nat × D)},envRf k env=true→∀ t,(lk env t).rf k=true
 | [],_,t=>rfl
 | (s,d)::l,h,t=>by
  simp only [envRf,List.all_cons,Bool.and_eq_true] at h
  simp only [lk]
  cases Nat.beq s t with
  | true=>exact h.1
  | false=>exact envRf_at h.2 t
theorem boxRf_at {k:Nat}:∀ {box:List (Nat × Option Box)},boxRf k box=true→∀ x B,hk box x=some B→B.rf k=true
 | [],_,x,B,h=>by cases h
 | (s,o)::l,h,x,B,hB=>by
  simp only [boxRf,List.all_cons,Bool.and_eq_true] at h
  simp only [hk] at hB
  cases q:Nat.beq s x with
  | true=>rw [q] at hB;simp only at hB;subst hB;exact h.1
  | false=>rw [q] at hB;exact boxRf_at h.2 x B hB
theorem sub_mat0 {env:List (Nat × D)} {box:List (Nat × Option Box)} (k:Nat) (t2:TypeId) (m2 n2:Nat) (g:Nat→Nat→List D) {t:TypeId} {n:Nat} {f:Nat→List D} (hb:hk box k=some (.arr t n 1 f)) (h100:Nat.ble 1000 k=true) (he:envRf k env=true) (hx:boxRf k box=true) :
  Sub (lk env) (hk box) (lk env) (hk ((k,some (.mat t t2 n 0 m2 n2 g))::box)):=fun S a w hR=>by
 obtain ⟨Z,i,hF⟩:=hR
 replace h100:=Nat.le_of_ble_eq_true h100
 have hs:∀ x,hk ((k,some (.mat t t2 n 0 m2 n2 g))::box) x=if k=x then some (.mat t t2 n 0 m2 n2 g) else hk box x:=fun x=>by
  simp only [hk]
  by_cases q:k=x
  ·subst q;simp
  ·rw [beq_ne q,if_neg q]
 have foot:∀ x C b,hk ((k,some (.mat t t2 n 0 m2 n2 g))::box) x=some C→C.mut=true→Foot C (norow k i x) b→∃ C0,hk box x=some C0∧C0.mut=true∧Foot C0 (i x) b:=fun x C b hC hm hf=>by
  rw [hs] at hC
  by_cases q:k=x
  ·subst q;rw [if_pos rfl] at hC;cases hC
   obtain ⟨cp,e⟩:=hf.flat rfl
   obtain ⟨cp',e'⟩:=norow_back e
   exact ⟨_,hb,rfl,.root e'⟩
  ·rw [if_neg q] at hC
   rw [norow_other (Ne.symm q)] at hf
   exact ⟨C,hC,hm,hf⟩
 refine ⟨Z,norow k i,{ hF with env:=fun s=>(hF.env s).norow (envRf_at he s),box:=fun x C hC=>?_,foot:=fun x C b hC hm hf=>?_,nil:=fun x hC=>?_,low:=fun x hl=>?_,inj:=fun x x' C C' b h1 h2 m1 m2 f1 f2=>?_ }⟩
 ·rw [hs] at hC
  by_cases q:k=x
  ·subst q;rw [if_pos rfl] at hC;cases hC
   rcases hF.box k _ hb with ⟨b,cap,e1,e2,e3,e4,cs,f1,f2,f3,f4,f5⟩ | ⟨e1,e2⟩
   ·exact .inl ⟨b,_,norow_some e1,e2,fun _=>e3 rfl,fun h=>(by cases h),cs,f1,by rw [f2,Nat.mul_one],f3,Nat.zero_le _,fun e he=>absurd he (Nat.not_lt_zero _),fun _ _ _ _ _ h=>absurd h (Nat.not_lt_zero _),fun _ _=>rfl⟩
   ·refine .inr ⟨norow_nil e1,?_⟩
    rcases e2 with e2 | ⟨t',m',f2,e2 | e2⟩ | ⟨_,_,_,_,_,e2⟩
    ·cases e2
    ·cases e2;exact .inr (.inr ⟨_,_,_,_,_,rfl⟩)
    ·cases e2
    ·cases e2
  ·rw [if_neg q] at hC
   rcases hF.box x C hC with ⟨b,cap,e1,e2,e3,e4,e5⟩ | ⟨e1,e2⟩
   ·refine .inl ⟨b,cap,(norow_other (Ne.symm q)).trans e1,e2,e3,e4,?_⟩
    cases C with
    | lit t ds=>
     obtain ⟨cs,g1,g2,g3⟩:=e5
     have hr:=boxRf_at hx x _ hC
     exact ⟨cs,g1,g2,fun j hj=>⟨(g3 j hj).1,(g3 j hj).2.norow (rfL_at hr j)⟩⟩
    | _=>exact e5
   ·exact .inr ⟨(norow_other (Ne.symm q)).trans e1,e2⟩
 ·obtain ⟨C0,g1,g2,g3⟩:=foot x C b hC hm hf
  have r:=hF.foot x C0 b g1 g2 g3
  exact ⟨r.1,r.2.1.imp id (fun ⟨p1,p2,c,p3⟩=>⟨p1,p2,by rw [norow_other (by omega)];exact ⟨c,p3⟩⟩),r.2.2⟩
 ·rw [hs] at hC
  by_cases q:k=x
  ·rw [if_pos q] at hC;cases hC
  ·rw [if_neg q] at hC;rw [norow_other (Ne.symm q)];exact hF.nil x hC
 ·rw [norow_other (by omega)];exact hF.low x hl
 ·obtain ⟨C0,g1,g2,g3⟩:=foot x C b h1 m1 f1
  obtain ⟨C0',g1',g2',g3'⟩:=foot x' C' b h2 m2 f2
  exact hF.inj x x' C0 C0' b g1 g1' g2 g2' g3 g3'
section
variable {ro:Option Nat} {P:Program} {N:Nat} {Q:Post} {c:Code} {env:List (Nat × D)} {box:List (Nat × Option Box)}
theorem c_mat0 (k:Nat) (t2:TypeId) (m2 n2:Nat) (g:Nat→Nat→List D) {t:TypeId} {n:Nat} {f:Nat→List D} (h:AWp ro P N c (lk env) (hk ((k,some (.mat t t2 n 0 m2 n2 g))::box)) Q) (hb:autoParam (Bl box k (.arr t n 1 f)) aq6._auto_1) (h100:Nat.ble 1000 k=true:=by rfl) (he:envRf k env=true:=by kernel_rfl) (hx:boxRf k box=true:=by kernel_rfl):AWp ro P N c (lk env) (hk box) Q:=awp_sub (sub_mat0 k t2 m2 n2 g hb.eq h100 he hx) h
end

section
variable {P:Program} {N:Nat} {ops:Array Oper} {rest:List Oper} {env:List (Nat × D)} {box:List (Nat × Option Box)} {done:List Rec} {K:List Rec→List (Nat × D)→List (Nat × Option Box)→Prop}
theorem r_eqS (t:Nat) (d':D) {d:D} (he:d=d') (h:RunK P N ops rest ((t,d')::env) box done K) (ht:autoParam (Lk env t d) aq15._auto_1):RunK P N ops rest env box done K:=by
 have e:lk ((t,d')::env)=lk env:=by
  funext s
  simp only [lk]
  by_cases q:t=s
  ·subst q;simp;rw [← he];exact ht.eq.symm
  ·rw [beq_ne q]
 obtain ⟨Rs,env',box',h1,h2,h3,h4⟩:=h
 rw [e] at h1 h2
 exact ⟨Rs,env',box',h1,h2,h3,h4⟩
end
end Go.Proofs.YtdcenblblimkfaaGreat
