/- The digits of an element, by data.
The digits of an element, one by one: what the iterator yields. -/
import Derived.Test.YtmjildbdkecolaaGreatPg36
import Derived.Test.YtmjildbdkecolaaGreatPg20
import Derived.Test.YtmjildbdkecolaaGreatPg18
import Derived.Test.YtmjildbdkecolaaGreatPg19
set_option linter.unusedSimpArgs false
set_option linter.unusedVariables false
set_option linter.unnecessarySimpa false
set_option linter.unusedSectionVars false
namespace Go.Proofs.YtmjildbdkecolaaGreat
open Go.RowKit
set_option maxRecDepth 20000
set_option maxHeartbeats 4000000
instance ti193:TI Tryz.prog 193 Tryz.t193 (.slice 92):=⟨by kernel_rfl,by kernel_rfl⟩
instance sz193:SZ Tryz.prog 193 1:=SZ.of ti193 rfl
instance zr193:ZR Tryz.prog 193 [.slice none 0 0]:=ZR.of ti193 rfl rfl rfl
instance et193:ET Tryz.prog 193 1:=ET.of ti193 ti92 rfl
theorem rgCheckV_den (p:PD) (n lv:Nat) (sp:Bool) (h:Lv p n lv) (g:Nat→Nat→Nat) (hg:Vg p lv g):Den Tryz.prog 44 [.agg (parL true p),.agg (elL true lv sp (modN p lv sp) n g)] (.val (.int .i64 0)):=by
 have h32:=h.n32
 have l2:=h.l2
 have l24:=h.vp.len2
 have hM:modN p lv sp≤1000000:=by unfold modN;split<;>omega
 have:=rgCheck_den p h.vp (lv:Int) sp (modN p lv sp) (fun _=>n) g (fun _=>by show n≤_;omega) hM
 rw [elOk_valid h hg] at this
 exact this
abbrev balR (p:PD) (lv:Nat) (g:Nat→Nat→Nat) (i j:Nat):Int:=balI (g i j) (modQ p lv i)
abbrev putI (V:Nat→Nat→Int) (i j e x:Nat):Int:=if e<i∨e=i∧x<j then V e x else 0
theorem putI_step {V:Nat→Nat→Int} {i i' j:Nat} {v:Int} (hi:i'=i) (hv:v=V i j) (e x:Nat):setG (fun e x=>[.val (.int .i64 (putI V i j e x))]) i' (setE (fun x=>[.val (.int .i64 (putI V i j i' x))]) j 0 [.val (.int .i64 v)]) e x=[.val (.int .i64 (putI V i (j+1) e x))]:=by
 subst hi hv
 unfold setG
 by_cases q:e=i'
 ·subst q
  rw [if_pos rfl]
  unfold setE
  by_cases q2:x=j
  ·subst q2;simp [putI,setL,takeL,dropL]
  ·have:putI V e (j+1) e x=putI V e j e x:=by unfold putI;by_cases q3:x<j<;>simp [q3]<;>omega
   simp only [q2,if_false,this]
 ·rw [if_neg q]
  simp [putI,q]
theorem putI_row {V:Nat→Nat→Int} {i n e x:Nat} (hx:x<n):putI V i n e x=putI V (i+1) 0 e x:=by
 unfold putI
 by_cases q:e<i∨e=i
 ·rw [if_pos (by omega),if_pos (by omega)]
 ·rw [if_neg (by omega),if_neg (by omega)]
theorem putI_zero {V:Nat→Nat→Int} (e x:Nat):putI V 0 0 e x=0:=if_neg (by omega)
theorem putI_all {V:Nat→Nat→Int} {m e x:Nat} (h:e<m):putI V m 0 e x=V e x:=if_pos (.inl h)
theorem gdasked_ok (p:PD) (n lv:Nat) (hp:PFit p) (hg:Good p.par) (h:Lv p n lv):Den Tryz.prog 197 [.fptr true (parL true p),.val (.int .i64 31),.val (.int .i64 (lv:Int)),.val (.func (.func 198) #[] #[])] (.tup [.fptr false [.fptr true (parL true p),.val (.int .i64 31),.val (.int .i64 1)],.val (.bool true)]):=by
 have l1:=h.l1
 have l2:=h.l2
 have:=gdasked_den p n hp hg h.n (lv:Int)
 rw [decide_eq_true (show (1:Int)≤(lv:Int) by omega),decide_eq_true (show (lv:Int)≤(p.chain.length:Int) by omega)] at this
 exact this
theorem gdDigits0_den (p:PD) (n lv:Nat) (hp:PFit p) (hg:Good p.par) (h:Lv p n lv) (g:Nat→Nat→Nat) (hv:Vg p lv g):Den Tryz.prog 174 [.agg (parL true p),.val (.int .i64 31),.agg (elL true lv false lv n g)]
  (.tup [.fz false (lv*1) 1 (fun i=>[.fz false n 1 (fun j=>[.val (.int .i64 (balR p lv g i j))])]),.val (.int .i64 0)]):=by
 refine den_intro (fn:=Tryz.f174) rfl rfl rfl rfl rfl ?_
 have h32:=h.n32
 have hN:NatIs p.n n:=h.n
 have l1:=h.l1
 have l2:=h.l2
 have l24:=h.vp.len2
 have n4:=h.n4
 refine c_sreg ?_
 refine gor ?_
 refine c_frz 1003 ?_
 refine c_frz 1005 ?_
 refine c_slot 3 (.fptr false (parL true p)) ?_
 refine c_slot 5 (.fptr false (elL true lv false lv n g)) ?_
 refine go ?_
 refine r_callO (gdasked_ok p n lv hp hg h) ?_
 refine go ?_
 refine r_eqS 33 (.val (.bool false)) rfl ?_
 refine r_eqS 34 (.agg (parL true p)) rfl ?_
 refine r_eqS 35 (.agg (elL true lv false lv n g)) rfl ?_
 refine go ?_
 refine r_call (rgCheckV_den p n lv false h g hv) ?_
 refine go ?_
 refine c_no ?_
 refine go ?_
 refine c_mat0 1046 2 Tryz.t2.size n (fun _ _=>[.val (.int .i64 0)]) ?_
 refine c_up (lv*1) (fun i=>[(49,.val (.int .i64 (i:Nat)))]) (fun i=>[(1046,some (.mat 92 2 (lv*1) i Tryz.t2.size n (fun _ _=>[.val (.int .i64 0)])))]) (fun i hi=>?_)
 refine go ?_
 refine c_if (fun h3=>?_) (fun h3=>?_)
 ·refine go ?_
  refine ⟨h3,?_⟩
  refine sub_mat 1046 (fun _ _=>[.val (.int .i64 0)]) (putG_snoc (fun _ _=>rfl)) (fun _ _=>rfl) ?_
  exact sub
 ·obtain rfl:i=lv*1:=by omega
  refine go ?_
  refine c_mat 1046 (fun e x=>[.val (.int .i64 (putI (balR p lv g) 0 0 e x))]) (fun e x _ _=>by rw [putI_zero]) (fun _ _=>rfl) ?_
  refine c_up lv (fun i=>[(62,.val (.int .i64 (i:Nat)))]) (fun i=>[(1046,some (.mat 92 2 (lv*1) (lv*1) Tryz.t2.size n (fun e x=>[.val (.int .i64 (putI (balR p lv g) i 0 e x))])))]) (fun i hi=>?_)
  refine go ?_
  refine c_if (fun h4=>?_) (fun h4=>?_)
  ·refine go ?_
   refine c_up n (fun j=>[(69,.val (.int .i64 (j:Nat)))]) (fun j=>[(1046,some (.mat 92 2 (lv*1) (lv*1) Tryz.t2.size n (fun e x=>[.val (.int .i64 (putI (balR p lv g) i j e x))])))]) (fun j hj=>?_)
   refine go ?_
   refine c_if (fun h5=>?_) (fun h5=>?_)
   ·have hq:=hv i j
    have hqe:modQ p lv i=p.chain.getD i 0:=if_pos h4
    have hm:=h.vp.mods i (by omega)
    simp only [modOk,Bool.and_eq_true,decide_eq_true_eq] at hm
    have hbx:balR p lv g i j=balI (g i j) (p.chain.getD i 0):=by unfold balR;rw [hqe]
    rw [hqe] at hq
    refine go ?_
    refine c_cut0 [(16,.val (.int .i64 (balI (g i j) (p.chain.getD i 0))))] ?_ ?_
    ·refine c_if (fun h6=>?_) (fun h6=>?_)
     ·unfold balI
      rw [if_pos (by omega)]
      refine go ?_
      exact sub
     ·unfold balI
      rw [if_neg (by omega)]
      refine go ?_
      exact sub
    ·have hb : -1073741824≤balI (g i j) (p.chain.getD i 0)∧balI (g i j) (p.chain.getD i 0)≤1073741824:=by unfold balI;split<;>omega
     generalize balI (g i j) (p.chain.getD i 0)=X at *
     refine go ?_
     refine r_callL (gddigits_den p X) (r':=.clo 215 [.fptr false [.fptr true (cutL p)],.eptr 1091 0 0 0]) rfl rfl ?_
     refine go ?_
     refine c_rangeM (α:=Empty) [1008,1010,1012,1014,1046,1091] 1091 (gddigits1_itr p X hb.1 hb.2) 1 rfl (fun _=>[.val (.int .i64 0),.val (.int .i64 X)]) (fun k hk=>match k,hk with | 0,_=>rfl)
      (fun k y=>[(191,some (.lit 2 [.val (.int .i64 y)])),(146,some (.mat 92 2 (lv*1) (lv*1) Tryz.t2.size n (fun e x=>[.val (.int .i64 (putI (balR p lv g) i (j+k) e x))]))),(110,some (.lit 193 [.sl 146 Tryz.t92.size (lv*1)])),(112,some (.lit 3 [.val (.int .i64 (i:Int))])),(114,some (.lit 3 [.val (.int .i64 (j:Int))])),(108,some (.lit 212 [.fptr false [.fptr true (parL true p),.val (.int .i64 31),.val (.int .i64 1)]])),(1005,some (.ice 35 1 3 (fun _=>elL true lv false lv n g))),(1003,some (.ice 25 1 7 (fun _=>parL true p)))])
      (fun _=>[]) (fun _=>False) (fun _=>.ret) (fun _=>True) trivial (fun k y l hk _=>?_) (fun y _=>?_) (fun y=>y.elim)
     ·obtain rfl:k=0:=by omega
      refine go ?_
      refine ⟨trivial,?_⟩
      refine sub_mat 146 (fun e x=>[.val (.int .i64 (putI (balR p lv g) i (j+(0+1)) e x))]) (fun e x _ _=>?_) (fun _ _=>rfl) ?_
      ·exact putI_step (by omega) hbx.symm e x
      ·exact sub
     ·refine go ?_
      refine ⟨h5,?_⟩
      exact sub
   ·obtain rfl:j=n:=by omega
    refine go ?_
    refine ⟨h4,?_⟩
    refine sub_mat 1046 (fun e x=>[.val (.int .i64 (putI (balR p lv g) (i+1) 0 e x))]) (fun e x _ hx=>?_) (fun _ _=>rfl) ?_
    ·rw [putI_row hx]
    ·exact sub
  ·obtain rfl:i=lv:=by omega
   refine go ?_
   refine fin_mat 1046 (fun e x=>[.val (.int .i64 (balR p i g e x))]) (fun e x he _=>?_) (fun _ _=>rfl) ?_
   ·rw [putI_all (by omega)]
   ·refine fin_freezeM 1046 ?_
    refine fin ?_
    exact cv
theorem gdDigits_den (p:PD) (n lv:Nat) (hp:PFit p) (hg:Good p.par) (h:Lv p n lv) (g:Nat→Nat→Nat) (hv:Vg p lv g):Den Tryz.prog 174 [.agg (parL true p),.val (.int .i64 31),.agg (elL true lv false lv n g)]
  (.tup [.fz false lv 1 (fun i=>[.fz false n 1 (fun j=>[.val (.int .i64 (balR p lv g i j))])]),.val (.int .i64 0)]):=by
 have:=gdDigits0_den p n lv hp hg h g hv
 rw [Nat.mul_one] at this
 exact this

open Go.RowKit Go.Shelf
attribute [local go_sem] Oper.semAt_some
instance fi103:FI Tryz.prog 103 Tryz.f103:=⟨Tryz.func103,Tryz.call103⟩
instance fi173:FI Tryz.prog 173 Tryz.f173:=⟨Tryz.func173,Tryz.call173⟩
instance fi42:FI Tryz.prog 42 Tryz.f42:=⟨Tryz.func42,Tryz.call42⟩
instance fi34:FI Tryz.prog 34 Tryz.f34:=⟨Tryz.func34,Tryz.call34⟩
instance fi92:FI Tryz.prog 92 Tryz.f92:=⟨Tryz.func92,Tryz.call92⟩
instance fi94:FI Tryz.prog 94 Tryz.f94:=⟨Tryz.func94,Tryz.call94⟩
instance fi45:FI Tryz.prog 45 Tryz.f45:=⟨Tryz.func45,Tryz.call45⟩
abbrev digR (p:PD) (n lv:Nat) (g:Nat→Nat→Nat) (i:Nat):D:=.fz false n 1 (fun j=>[.val (.int .i64 (balR p lv g i j))])
theorem rep_cells {Z0:Nat→Prop} {W0:World} {v:Value} {l:List D} (h:Rep (fun o b=>o=true∧Z0 b) W0 noN v (.fptr true l)):∃ (b o:Nat) (us:List Value),v = .pointer (some ⟨b,o,none⟩)∧us.length=l.length∧∀ c,c<l.length→W0.cell? ⟨b,o+c,none⟩=some (us.getD c undef)∧(us.getD c undef).oneCell'=true∧Rep (fun o b=>o=true∧Z0 b) W0 noN (us.getD c undef) (dl l c):=by
 cases h with | fptr _ _ b p _ vs ha hr=>
 refine ⟨b,p,(List.range l.length).map vs,rfl,by simp,fun c hc=>?_⟩
 have e:((List.range l.length).map vs).getD c undef=vs c:=by rw [List.getD_eq_getElem?_getD];simp [hc]
 rw [e]
 exact ⟨(ha c hc).2.1,(ha c hc).2.2,hr c hc⟩
set_option maxRecDepth 100000 in
set_option maxHeartbeats 2000000 in
theorem swdigits1_itr (p:PD) (n lv:Nat) (hp:PFit p) (hg:Good p.par) (h:Lv p n lv) (g:Nat→Nat→Nat) (hv:Vg p lv g):ItrD Tryz.prog 173 [.fptr true (parL true p),.fptr true (elL true lv false lv n g)] ((List.range lv).map fun i=>[digR p n lv g i]):=fun l C0 Z0 W0 vs J Jx hJ hJx hJ0 hvs hY=>by
 obtain ⟨v1,v2,rfl⟩:∃ v1 v2,vs=[v1,v2]:=by
  have:=hvs.1
  match vs,this with
  | [a,b],_=>exact ⟨a,b,rfl⟩
 obtain ⟨b1,o1,us,rfl,hl1,h1⟩:=rep_cells (hvs.2 0 (by simp))
 obtain ⟨b2,o2,ws,rfl,hl2,h2⟩:=rep_cells (hvs.2 1 (by simp))
 match us,hl1,ws,hl2 with
 | [a0,a1,a2,a3,a4,a5,a6],_,[e0,e1,e2],_=>
 have ra:=fun c (hc:c<7)=>h1 c hc
 have rb:=fun c (hc:c<3)=>h2 c hc
 have c0:=(ra 0 (by omega)).1
 have c1:=(ra 1 (by omega)).1
 have c2:=(ra 2 (by omega)).1
 have c3:=(ra 3 (by omega)).1
 have c4:=(ra 4 (by omega)).1
 have c5:=(ra 5 (by omega)).1
 have c6:=(ra 6 (by omega)).1
 have d0:=(rb 0 (by omega)).1
 have d1:=(rb 1 (by omega)).1
 have d2:=(rb 2 (by omega)).1
 simp only [Nat.add_zero,List.getD_cons_zero,List.getD_cons_succ] at c0 c1 c2 c3 c4 c5 c6 d0 d1 d2
 have hlt:=(hJ.lt hJ0)
 have HD:=Lib.hid (gdDigits_den p n lv hp hg h g hv Z0 W0 noN [.agg #[a0,a1,a2,a3,a4,a5,a6],.int .i64 31,.agg #[e0,e1,e2]] hlt.2 (fun _ _=>rfl) ⟨fun k B hm=>by simp at hm,fun k k' B B' b hm=>by simp at hm⟩
  ⟨rfl,fun j hj=>match j,hj with
   | 0,_=>.agg _ [a0,a1,a2,a3,a4,a5,a6] _ rfl (fun j hj=>(ra j hj).2.1) (fun j hj=>(ra j hj).2.2)
   | 1,_=>.val _ _
   | 2,_=>.agg _ [e0,e1,e2] _ rfl (fun j hj=>(rb j hj).2.1) (fun j hj=>(rb j hj).2.2)⟩)
 have HJ:=Lib.hid hJ
 have HY:=Lib.hid hY
 clear hJ hY ra rb h1 h2 hvs
 refine callsIn_of_wp Tryz.func173 rfl trivial ?_ rfl
 simp only [Tryz.ntmps173,List.size_toArray,List.length_cons,List.length_nil,Nat.reduceAdd,Nat.reduceSub,Array.replicate_succ,Array.replicate_zero,List.push_toArray,List.append_toArray,List.nil_append,List.cons_append]
 gi_wp2
 refine ⟨trivial,rfl,(callsIn_wide.2 HD.out).mono ?_⟩
 rintro e W1 ⟨v,i1,Zn,rfl,hkept,hzn,_,_,_,_,_,hrep⟩
 clear HD c0 c1 c2 c3 c4 c5 c6 d0 d1 d2
 have l1:=h.l1
 obtain ⟨ao,cap,rv,rfl,hcap,hcap2,hcells⟩:∃ (ao:Addr) (cap:Nat) (rv:Nat→Value),v = .tuple #[.slice (some ao) lv cap,.int .i64 0]∧lv≤cap∧cap≤9223372036854775807∧∀ e,e<lv→ao=⟨ao.block,ao.off,none⟩∧Zn ao.block∧W1.cell? ⟨ao.block,ao.off+e,none⟩=some (rv e)∧Rep (Z2 Z0 Zn) W1 noN (rv e) (digR p n lv g e):=by
  cases hrep with | tup _ vs _ hl hr=>
  match vs,hl with
  | [s,t],_=>
   have r0:Rep (Z2 Z0 Zn) W1 i1 s (.fz false lv 1 (fun i=>[digR p n lv g i])):=hr 0 (by simp)
   have r1:Rep (Z2 Z0 Zn) W1 i1 t (.val (.int .i64 0)):=hr 1 (by simp)
   obtain rfl:=rep_val r1
   cases r0 with | fz _ _ ao _ cap _ _ us q1 q2 _ ha hb=>
   obtain ⟨b,o,e1,e2,_⟩:=ha 0 0 (by omega) (by omega)
   subst e1
   refine ⟨⟨b,o,none⟩,cap,fun e=>us e 0,rfl,q1,q2,fun e he=>⟨rfl,e2,?_,hb e 0 he (by omega)⟩⟩
   obtain ⟨b',o',e1',_,e3',_⟩:=ha e 0 he (by omega)
   cases e1'
   simpa using e3'
 obtain ⟨ab,aof,asp⟩:=ao
 obtain rfl:asp=none:=by have:=(hcells 0 (by omega)).1;cases this;rfl
 have hzb:Zn ab:=(hcells 0 (by omega)).2.1
 have hkb:∀ b,b<W0.heap.size→W1.heap[b]? = W0.heap[b]?:=fun b hb=>hkept.block b hb (fun ⟨_,_,hk,_⟩=>by simp [Hs.keys] at hk)
 have hJ1:J 0 C0 Z0 W1:=HJ.out.stable hJ0 ⟨hkept.os,hkept.tape,hkept.output,hkept.size⟩ (fun b hb _=>hkb b hb)
 have hs1:=hkept.size
 have round:∀ k C Z W,k<lv→J k C Z W→(∀ b,Z0 b∨Zn b→W.heap[b]? = W1.heap[b]?)→(∀ b,Z0 b→Z b)→(∀ b,Zn b→¬ C b)→W1.heap.size≤W.heap.size→YieldAt (Fw none) 0 Tryz.prog l #[rv k] W fun e W'=>
   (e = .returned (.bool true)∧∃ C' Z',J (k+1) C' Z' W'∧(∀ b,Z0 b∨Zn b→W'.heap[b]? = W1.heap[b]?)∧(∀ b,Z0 b→Z' b)∧(∀ b,Zn b→¬ C' b)∧W1.heap.size≤W'.heap.size)∨(e = .returned (.bool false)∧∃ k' C' Z',Jx k' C' Z' W'):=fun k C Z W hk hJk hm hz hc hsz=>by
  have hJ:=HJ.out
  have hlk:=hJ.lt hJk
  refine (HY.out k C Z W [digR p n lv g k] [rv k] Zn (by simp [hk]) hJk (fun b hb=>⟨(hzn b hb).1,by have:=(hzn b hb).2;omega,hc b hb⟩) ⟨rfl,fun j hj=>?_⟩ (by omega)).mono ?_
  ·obtain rfl:j=0:=by simpa using hj
   refine (hcells k hk).2.2.2.mem (fun o b hb=>?_)
   cases o with
   | false=>exact ⟨hb,hm b (.inr hb)⟩
   | true=>
    rcases hb with q | q
    ·exact ⟨.inl (hz b q),hm b (.inl q)⟩
    ·exact ⟨.inr q,hm b (.inr q)⟩
  ·rintro e W' (⟨rfl,C',Z',q1,q2,q3,q4⟩ | q)
   ·refine .inl ⟨rfl,C',Z',q1,fun b hb=>?_,fun b hb=>q4 b (.inl (hz b hb)),fun b hb hcb=>?_,Nat.le_trans hsz q2.size⟩
    ·have hlt:b<W.heap.size:=by
      rcases hb with q | q
      ·exact hlk.2 b (hz b q)
      ·have:=(hzn b q).2;omega
     refine (q2.block b hlt (fun hcb=>?_)).trans (hm b hb)
     rcases hb with q | q
     ·exact (hlk.1 b hcb).2 (hz b q)
     ·exact hc b q hcb
    ·rcases q3 b hcb with q | q
     ·exact hc b hb q
     ·have:=(hzn b hb).2;omega
   ·exact .inr q
 have HR:=Lib.hid round
 clear round hrep HY
 gi_wp2
 gi_loopw [18] (fun i wr=>∃ (k:Nat) (C Z:Nat→Prop),k≤lv∧i = .int .i64 k∧J k C Z wr∧(∀ b,Z0 b∨Zn b→wr.heap[b]? = W1.heap[b]?)∧(∀ b,Z0 b→Z b)∧(∀ b,Zn b→¬ C b)∧W1.heap.size≤wr.heap.size)
  (fun i _=>lv - (intOf i).toNat)
 case atStart=>exact ⟨0,C0,Z0,Nat.zero_le _,rfl,hJ1,fun _ _=>rfl,fun _ h=>h,fun b hb hc=>by have:=(hlt.1 b hc).1;have:=(hzn b hb).1;omega,Nat.le_refl _⟩
 case round=>
  obtain ⟨k,C,Z,hk,rfl,hJs,hm,hzz,hnc,hsz⟩:=hrel
  by_cases hlt:k<lv
  ·obtain ⟨fn,tmps,assign,body,hy,hR⟩:=HR.out k C Z wr hlt hJs hm hzz hnc hsz
   have hcx:wr.cell? ⟨ab,aof+k,none⟩=some (rv k):=(World.cell?_of_block (hm ab (.inr hzb))).trans (hcells k hlt).2.2.1
   gi_wp2
   refine ⟨rfl,hR.mono ?_⟩
   rintro e W3 (⟨rfl,C',Z',hJ3,q1,q2,q3,q4⟩ | ⟨rfl,hJx3⟩)
   ·gi_wp2
    go_roundw
    case rel=>exact ⟨k+1,C',Z',by omega,by simp,hJ3,q1,q2,q3,q4⟩
    case measure=>simp [intOf];omega
   ·gi_wp2
    refine bodyPost_ret (results_none rfl _ _ _) rfl ?_
    exact ⟨⟨_,rfl⟩,.inr hJx3⟩
  ·obtain rfl:k=lv:=by omega
   gi_wp2
   go_end0
   exact ⟨⟨_,rfl⟩,.inl ⟨C,Z,by simpa using hJs⟩⟩
end Go.Proofs.YtmjildbdkecolaaGreat
