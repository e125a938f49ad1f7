/- The digits of an element, one by one: what the iterator yields. -/
import Derived.Test.YtdcenblblimkfaaGreatPk38
set_option linter.unusedSimpArgs false
set_option linter.unusedVariables false
set_option linter.unnecessarySimpa false
set_option linter.unusedSectionVars false
namespace Go.Proofs.YtdcenblblimkfaaGreat
open Go.RowKit Go.Shelf
attribute [local go_sem] Oper.semAt_some
instance fi198:FI Tryz.prog 198 Tryz.f198:=⟨Tryz.func198,Tryz.call198⟩
instance fi262:FI Tryz.prog 262 Tryz.f262:=⟨Tryz.func262,Tryz.call262⟩
instance fi128:FI Tryz.prog 128 Tryz.f128:=⟨Tryz.func128,Tryz.call128⟩
instance fi59:FI Tryz.prog 59 Tryz.f59:=⟨Tryz.func59,Tryz.call59⟩
instance fi153:FI Tryz.prog 153 Tryz.f153:=⟨Tryz.func153,Tryz.call153⟩
instance fi156:FI Tryz.prog 156 Tryz.f156:=⟨Tryz.func156,Tryz.call156⟩
instance fi157:FI Tryz.prog 157 Tryz.f157:=⟨Tryz.func157,Tryz.call157⟩
abbrev digR (p:PD) (n lv:Nat) (g:Nat→Nat→Nat) (i:Nat):D:=.fz false n 1 (fun j=>[.val (.int .i64 (balR p lv g i j))])
theorem rep_cells {Z0:Nat→Prop} {W0:World} {v:Value} {l:List D} (h:Rep (fun o b=>o=true∧Z0 b) W0 noN v (.fptr true l)):∃ (b o:Nat) (us:List Value),v = .pointer (some ⟨b,o,none⟩)∧us.length=l.length∧∀ c,c<l.length→W0.cell? ⟨b,o+c,none⟩=some (us.getD c undef)∧(us.getD c undef).oneCell'=true∧Rep (fun o b=>o=true∧Z0 b) W0 noN (us.getD c undef) (dl l c):=by
 cases h with | fptr _ _ b p _ vs ha hr=>
 refine ⟨b,p,(List.range l.length).map vs,rfl,by simp,fun c hc=>?_⟩
 have e:((List.range l.length).map vs).getD c undef=vs c:=by rw [List.getD_eq_getElem?_getD];simp [hc]
 rw [e]
 exact ⟨(ha c hc).2.1,(ha c hc).2.2,hr c hc⟩
set_option maxRecDepth 100000 in
set_option maxHeartbeats 2000000 in
theorem swdigits1_itr (p:PD) (n lv:Nat) (hp:PFit p) (hg:Good p.par) (h:Lv p n lv) (g:Nat→Nat→Nat) (hv:Vg p lv g):ItrD Tryz.prog 262 [.fptr true (parL true p),.fptr true (elL true lv false lv n g)] ((List.range lv).map fun i=>[digR p n lv g i]):=fun l C0 Z0 W0 vs J Jx hJ hJx hJ0 hvs hY=>by
 obtain ⟨v1,v2,rfl⟩:∃ v1 v2,vs=[v1,v2]:=by
  have:=hvs.1
  match vs,this with
  | [a,b],_=>exact ⟨a,b,rfl⟩
 obtain ⟨b1,o1,us,rfl,hl1,h1⟩:=rep_cells (hvs.2 0 (by simp))
 obtain ⟨b2,o2,ws,rfl,hl2,h2⟩:=rep_cells (hvs.2 1 (by simp))
 match us,hl1,ws,hl2 with
 | [a0,a1,a2,a3,a4,a5,a6],_,[e0,e1,e2],_=>
 have ra:=fun c (hc:c<7)=>h1 c hc
 have rb:=fun c (hc:c<3)=>h2 c hc
 have c0:=(ra 0 (by omega)).1
 have c1:=(ra 1 (by omega)).1
 have c2:=(ra 2 (by omega)).1
 have c3:=(ra 3 (by omega)).1
 have c4:=(ra 4 (by omega)).1
 have c5:=(ra 5 (by omega)).1
 have c6:=(ra 6 (by omega)).1
 have d0:=(rb 0 (by omega)).1
 have d1:=(rb 1 (by omega)).1
 have d2:=(rb 2 (by omega)).1
 simp only [Nat.add_zero,List.getD_cons_zero,List.getD_cons_succ] at c0 c1 c2 c3 c4 c5 c6 d0 d1 d2
 have hlt:=(hJ.lt hJ0)
 have HD:=Lib.hid (gdDigits_den p n lv hp hg h g hv Z0 W0 noN [.agg #[a0,a1,a2,a3,a4,a5,a6],.int .i64 31,.agg #[e0,e1,e2]] hlt.2 (fun _ _=>rfl) ⟨fun k B hm=>by simp at hm,fun k k' B B' b hm=>by simp at hm⟩
  ⟨rfl,fun j hj=>match j,hj with
   | 0,_=>.agg _ [a0,a1,a2,a3,a4,a5,a6] _ rfl (fun j hj=>(ra j hj).2.1) (fun j hj=>(ra j hj).2.2)
   | 1,_=>.val _ _
   | 2,_=>.agg _ [e0,e1,e2] _ rfl (fun j hj=>(rb j hj).2.1) (fun j hj=>(rb j hj).2.2)⟩)
 have HJ:=Lib.hid hJ
 have HY:=Lib.hid hY
 clear hJ hY ra rb h1 h2 hvs
 refine callsIn_of_wp Tryz.func262 rfl trivial ?_ rfl
 simp only [Tryz.ntmps262,List.size_toArray,List.length_cons,List.length_nil,Nat.reduceAdd,Nat.reduceSub,Array.replicate_succ,Array.replicate_zero,List.push_toArray,List.append_toArray,List.nil_append,List.cons_append]
 gi_wp2
 refine ⟨trivial,rfl,(callsIn_wide.2 HD.out).mono ?_⟩
 rintro e W1 ⟨v,i1,Zn,rfl,hkept,hzn,_,_,_,_,_,hrep⟩
 clear HD c0 c1 c2 c3 c4 c5 c6 d0 d1 d2
 have l1:=h.l1
 obtain ⟨ao,cap,rv,rfl,hcap,hcap2,hcells⟩:∃ (ao:Addr) (cap:Nat) (rv:Nat→Value),v = .tuple #[.slice (some ao) lv cap,.int .i64 0]∧lv≤cap∧cap≤9223372036854775807∧∀ e,e<lv→ao=⟨ao.block,ao.off,none⟩∧Zn ao.block∧W1.cell? ⟨ao.block,ao.off+e,none⟩=some (rv e)∧Rep (Z2 Z0 Zn) W1 noN (rv e) (digR p n lv g e):=by
  cases hrep with | tup _ vs _ hl hr=>
  match vs,hl with
  | [s,t],_=>
   have r0:Rep (Z2 Z0 Zn) W1 i1 s (.fz false lv 1 (fun i=>[digR p n lv g i])):=hr 0 (by simp)
   have r1:Rep (Z2 Z0 Zn) W1 i1 t (.val (.int .i64 0)):=hr 1 (by simp)
   obtain rfl:=rep_val r1
   cases r0 with | fz _ _ ao _ cap _ _ us q1 q2 _ ha hb=>
   obtain ⟨b,o,e1,e2,_⟩:=ha 0 0 (by omega) (by omega)
   subst e1
   refine ⟨⟨b,o,none⟩,cap,fun e=>us e 0,rfl,q1,q2,fun e he=>⟨rfl,e2,?_,hb e 0 he (by omega)⟩⟩
   obtain ⟨b',o',e1',_,e3',_⟩:=ha e 0 he (by omega)
   cases e1'
   simpa using e3'
 obtain ⟨ab,aof,asp⟩:=ao
 obtain rfl:asp=none:=by have:=(hcells 0 (by omega)).1;cases this;rfl
 have hzb:Zn ab:=(hcells 0 (by omega)).2.1
 have hkb:∀ b,b<W0.heap.size→W1.heap[b]? = W0.heap[b]?:=fun b hb=>hkept.block b hb (fun ⟨_,_,hk,_⟩=>by simp [Hs.keys] at hk)
 have hJ1:J 0 C0 Z0 W1:=HJ.out.stable hJ0 ⟨hkept.os,hkept.tape,hkept.output,hkept.size⟩ (fun b hb _=>hkb b hb)
 have hs1:=hkept.size
 have round:∀ k C Z W,k<lv→J k C Z W→(∀ b,Z0 b∨Zn b→W.heap[b]? = W1.heap[b]?)→(∀ b,Z0 b→Z b)→(∀ b,Zn b→¬ C b)→W1.heap.size≤W.heap.size→YieldAt (Fw none) 0 Tryz.prog l #[rv k] W fun e W'=>
   (e = .returned (.bool true)∧∃ C' Z',J (k+1) C' Z' W'∧(∀ b,Z0 b∨Zn b→W'.heap[b]? = W1.heap[b]?)∧(∀ b,Z0 b→Z' b)∧(∀ b,Zn b→¬ C' b)∧W1.heap.size≤W'.heap.size)∨(e = .returned (.bool false)∧∃ k' C' Z',Jx k' C' Z' W'):=fun k C Z W hk hJk hm hz hc hsz=>by
  have hJ:=HJ.out
  have hlk:=hJ.lt hJk
  refine (HY.out k C Z W [digR p n lv g k] [rv k] Zn (by simp [hk]) hJk (fun b hb=>⟨(hzn b hb).1,by have:=(hzn b hb).2;omega,hc b hb⟩) ⟨rfl,fun j hj=>?_⟩ (by omega)).mono ?_
  ·obtain rfl:j=0:=by simpa using hj
   refine (hcells k hk).2.2.2.mem (fun o b hb=>?_)
   cases o with
   | false=>exact ⟨hb,hm b (.inr hb)⟩
   | true=>
    rcases hb with q | q
    ·exact ⟨.inl (hz b q),hm b (.inl q)⟩
    ·exact ⟨.inr q,hm b (.inr q)⟩
  ·rintro e W' (⟨rfl,C',Z',q1,q2,q3,q4⟩ | q)
   ·refine .inl ⟨rfl,C',Z',q1,fun b hb=>?_,fun b hb=>q4 b (.inl (hz b hb)),fun b hb hcb=>?_,Nat.le_trans hsz q2.size⟩
    ·have hlt:b<W.heap.size:=by
      rcases hb with q | q
      ·exact hlk.2 b (hz b q)
      ·have:=(hzn b q).2;omega
     refine (q2.block b hlt (fun hcb=>?_)).trans (hm b hb)
     rcases hb with q | q
     ·exact (hlk.1 b hcb).2 (hz b q)
     ·exact hc b q hcb
    ·rcases q3 b hcb with q | q
     ·exact hc b hb q
     ·have:=(hzn b hb).2;omega
   ·exact .inr q
 have HR:=Lib.hid round
 clear round hrep HY
 gi_wp2
 gi_loopw [18] (fun i wr=>∃ (k:Nat) (C Z:Nat→Prop),k≤lv∧i = .int .i64 k∧J k C Z wr∧(∀ b,Z0 b∨Zn b→wr.heap[b]? = W1.heap[b]?)∧(∀ b,Z0 b→Z b)∧(∀ b,Zn b→¬ C b)∧W1.heap.size≤wr.heap.size)
  (fun i _=>lv - (intOf i).toNat)
 case atStart=>exact ⟨0,C0,Z0,Nat.zero_le _,rfl,hJ1,fun _ _=>rfl,fun _ h=>h,fun b hb hc=>by have:=(hlt.1 b hc).1;have:=(hzn b hb).1;omega,Nat.le_refl _⟩
 case round=>
  obtain ⟨k,C,Z,hk,rfl,hJs,hm,hzz,hnc,hsz⟩:=hrel
  by_cases hlt:k<lv
  ·obtain ⟨fn,tmps,assign,body,hy,hR⟩:=HR.out k C Z wr hlt hJs hm hzz hnc hsz
   have hcx:wr.cell? ⟨ab,aof+k,none⟩=some (rv k):=(World.cell?_of_block (hm ab (.inr hzb))).trans (hcells k hlt).2.2.1
   gi_wp2
   refine ⟨rfl,hR.mono ?_⟩
   rintro e W3 (⟨rfl,C',Z',hJ3,q1,q2,q3,q4⟩ | ⟨rfl,hJx3⟩)
   ·gi_wp2
    go_roundw
    case rel=>exact ⟨k+1,C',Z',by omega,by simp,hJ3,q1,q2,q3,q4⟩
    case measure=>simp [intOf];omega
   ·gi_wp2
    refine bodyPost_ret (results_none rfl _ _ _) rfl ?_
    exact ⟨⟨_,rfl⟩,.inr hJx3⟩
  ·obtain rfl:k=lv:=by omega
   gi_wp2
   go_end0
   exact ⟨⟨_,rfl⟩,.inl ⟨C,Z,by simpa using hJs⟩⟩
end Go.Proofs.YtdcenblblimkfaaGreat
