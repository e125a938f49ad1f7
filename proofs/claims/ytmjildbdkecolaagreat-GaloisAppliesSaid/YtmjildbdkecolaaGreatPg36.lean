/- Parameters by data: what the elder walks say of Check and Default.
Which levels, exponents, elements and ciphertexts are valid; what is too large: by data.
Equal lists, elements, ciphertexts: by data.
The reference's ring, by data: which elements are valid.
The reference's ring, by data: Check.
Which ciphertexts are valid: by data.
The reference's ring, by data: elements of integers.
The program's ring, by data: alike, products, multiples of valid elements.
The primes of good parameters are primes, and prime to one another.
The program's ring, by data: sums.
The program's ring, by data: differences, products, multiples.
The plain modulus: by data.
Ciphertexts without a key: by data.
Ciphertexts without a key: by data.
Digits of elements, by data: which parameters have them.
The digits of a number, by data: the iterator's making.
The digits of a number: what the iterator yields.
Arithmetic with ciphertexts, by data: valid ones, parts made one by one.
Arithmetic with ciphertexts, by data: multiples, plain polynomials, products. -/
import Derived.Test.YtmjildbdkecolaaGreatPg20
import Derived.Test.YtmjildbdkecolaaGreatPg35
import Derived.Test.YtmjildbdkecolaaGreatPg34
import Derived.Test.YtmjildbdkecolaaGreatPg12
import Derived.Test.YtmjildbdkecolaaGreatPg09
import Derived.Test.YtmjildbdkecolaaGreatPg18
import Derived.Test.YtmjildbdkecolaaGreatPg08
import Derived.Test.YtmjildbdkecolaaGreatPg19
import Derived.RangeFuncBox
import Derived.RangeFuncNested
import Derived.RangeFuncBound
import Derived.RangeFuncCalls
import Derived.RangeFuncLeaves
import Derived.RangeFuncWrites
import Derived.Shelf.Abstract
import Derived.Shelf.RegionOpen
import Derived.WalkKit
import Derived.OwnWalkIn
import Derived.TacticsInMore
import Derived.LoopNIn
import Derived.LoopIn
import Derived.Sort.QuietIn
import Derived.Lib.Hide
set_option linter.unusedSimpArgs false
set_option linter.unusedVariables false
set_option linter.unnecessarySimpa false
set_option linter.unusedSectionVars false
namespace Go.Proofs.YtmjildbdkecolaaGreat
open Go.RowKit
set_option maxRecDepth 20000
set_option maxHeartbeats 4000000
def PD.par (p:PD):Par:=⟨p.n,p.prime,p.power,p.chain,p.special,p.weight,p.err⟩
structure PFit (p:PD):Prop where
 n1 : -9223372036854775808≤p.n
 n2:p.n≤9223372036854775807
 prime:p.prime≤4294967295
 power1 : -9223372036854775808≤p.power
 power2:p.power≤9223372036854775807
 chain:∀ i,i<p.chain.length→p.chain.getD i 0≤4294967295
 special:p.special≤4294967295
 weight1 : -9223372036854775808≤p.weight
 weight2:p.weight≤9223372036854775807
 err:p.err≤4294967295
theorem rep_agg {Z:Zn} {w:World} {i:Nm} {v:Value} {l:List D} (h:Rep Z w i v (.agg l)):∃ vs:List Value,v = .agg vs.toArray∧vs.length=l.length∧∀ j,j<l.length→Rep Z w i (vs.getD j undef) (dl l j):=by
 cases h with | agg _ vs _ hl h1 hr=>exact ⟨vs,rfl,hl,hr⟩
theorem rep_u32s {Z:Zn} {w:World} {i:Nm} {v:Value} {l:List Nat} (h:Rep Z w i v (u32sD true l)):∃ ao cc,v = .slice ao l.length cc∧l.length≤cc∧cc≤9223372036854775807∧Rd w ao l:=by
 unfold u32sD at h
 cases h with | fz _ _ ao _ cap _ _ vs h1 h2 hl ha hr=>
 refine ⟨ao,cap,rfl,h1,h2,fun k hk=>?_⟩
 obtain ⟨b,p,e,_,_,_⟩:=ha k 0 hk (by omega)
 refine ⟨b,p,e,fun j hj=>?_⟩
 obtain ⟨b',p',e',_,hc,_⟩:=ha j 0 hj (by omega)
 rw [e] at e';cases e'
 have:=rep_val (hr j 0 hj (by omega))
 rw [this] at hc
 simpa using hc
theorem rep_par {Z:Zn} {w:World} {i:Nm} {v:Value} {p:PD} (hp:PFit p) (h:Rep Z w i v (.agg (parL true p))):∃ ca cc,v = .agg (p.par.cells ca cc)∧ParIn w p.par ca cc:=by
 obtain ⟨vs,rfl,hl,hr⟩:=rep_agg h
 match vs,hl with
 | [v0,v1,v2,v3,v4,v5,v6],_=>
  have r0:=rep_val (hr 0 (by simp [parL]))
  have r1:=rep_val (hr 1 (by simp [parL]))
  have r2:=rep_val (hr 2 (by simp [parL]))
  obtain ⟨ca,cc,r3,h1,h2,h3⟩:=rep_u32s (hr 3 (by simp [parL]))
  have r4:=rep_val (hr 4 (by simp [parL]))
  have r5:=rep_val (hr 5 (by simp [parL]))
  have r6:=rep_val (hr 6 (by simp [parL]))
  change v0=_ at r0
  change v1=_ at r1
  change v2=_ at r2
  change v3=_ at r3
  change v4=_ at r4
  change v5=_ at r5
  change v6=_ at r6
  subst r0 r1 r2 r3 r4 r5 r6
  exact ⟨ca,cc,rfl,{ rd:=h3,n1:=hp.n1,n2:=hp.n2,prime:=hp.prime,power1:=hp.power1,power2:=hp.power2,len:=by show p.chain.length≤_;omega,room:=h1,room2:=h2,chain:=hp.chain,special:=hp.special,weight1:=hp.weight1,weight2:=hp.weight2,err:=hp.err }⟩
theorem den_elder1 {P:Program} {f:FuncId} {d:D} {u:Value} (h:∀ Z w i v,Rep Z w i v d→Calls P f #[v] w fun e w'=>e = .returned u∧Below w.heap.size w w'):Den P f [d] (.val u):=fun Zc w i args hZ hi hH ha=>by
 obtain ⟨hl,hr⟩:=ha
 match args,hl with
 | [v],_=>
  refine (h _ w i v (hr 0 (by simp))).mono fun e w' ⟨he,hb⟩=>?_
  have hi':∀ k,i k=none:=fun k=>hi k (by simp [Hs.keys])
  exact ⟨u,i,fun _=>False,he,Kept.of_below hb _,fun b hb=>hb.elim,fun k hk=>by simp [Hs.keys] at hk,fun k _ _=>hi' k,fun k B b hm=>by simp at hm,fun k B hm=>by simp at hm,⟨fun k B hm=>by simp at hm,fun k k' B B' b hm=>by simp at hm⟩,.val _ _⟩
open Classical in
noncomputable def goodB (p:PD):Bool:=tr (Good p.par)
theorem goodB_iff {p:PD}:goodB p=true↔Good p.par:=by
 unfold goodB
 by_cases h:Good p.par
 ·rw [tr_pos h];simp [h]
 ·rw [tr_neg h];simp [h]
theorem pcheck_den (p:PD) (hp:PFit p):Den Tryz.prog 93 [.agg (parL true p)] (.val (.int .i64 (errI (goodB p)))):=den_elder1 fun Z w i v hv=>by
 obtain ⟨ca,cc,rfl,hin⟩:=rep_par hp hv
 exact pcheck_walk p.par ca cc w hin
theorem r12check_den (p:PD) (hp:PFit p):Den Tryz.prog 95 [.agg (parL true p)] (.val (.int .i64 (errI (goodB p)))):=den_elder1 fun Z w i v hv=>by
 obtain ⟨ca,cc,rfl,hin⟩:=rep_par hp hv
 exact r12check_walk p.par ca cc w hin
theorem goodQ_mod {step q:Nat} (he:step % 2=0) (h:GoodQ step q):modOk q=true:=by
 obtain ⟨h1,h2,h3,_⟩:=h
 have h4:q % 2=1:=by
  have:=Nat.mod_mod_of_dvd q (Nat.dvd_of_mod_eq_zero he)
  rw [h3] at this
  omega
 unfold modOk
 rw [decide_eq_true h4,decide_eq_true h2,decide_eq_true (show 3≤q by omega)];rfl
theorem hasI_no {p:Nat→Bool} {n:Nat} (h:∀ e,e<n→p e=false):hasI p n=false:=by
 cases q:hasI p n with
 | false=>rfl
 | true=>obtain ⟨e,h1,h2⟩:=hasI_spec.1 q;rw [h e h1] at h2;cases h2
theorem good_VP {p:PD} (h:Good p.par):VP p:=by
 obtain ⟨h1,h2,h3,_,_,_,_,h8,h9,h10⟩:=h
 have he:(2*p.par.n.toNat*plainV p.par.n.toNat p.par.prime p.par.power) % 2=0:=by rw [Nat.mul_assoc];exact Nat.mul_mod_right _ _
 exact { n:=h1,len1:=h2,len2:=h3,mods:=fun j hj=>goodQ_mod he (h9 j hj).1,apart:=fun j hj=>hasI_no fun e he=>decide_eq_false fun q=>h10 e j he hj q.symm,special:=.inr ⟨goodQ_mod he h8,hasI_no fun e he=>decide_eq_false fun q=>by have:=(h9 e he).2;simp only [PD.par] at this;omega⟩ }

instance fi59:FI Tryz.prog 59 Tryz.f59:=⟨Tryz.func59,Tryz.call59⟩
instance fi93:FI Tryz.prog 93 Tryz.f93:=⟨Tryz.func93,Tryz.call93⟩
instance fi95:FI Tryz.prog 95 Tryz.f95:=⟨Tryz.func95,Tryz.call95⟩
instance fi49:FI Tryz.prog 49 Tryz.f49:=⟨Tryz.func49,Tryz.call49⟩
instance fi61:FI Tryz.prog 61 Tryz.f61:=⟨Tryz.func61,Tryz.call61⟩
instance fi55:FI Tryz.prog 55 Tryz.f55:=⟨Tryz.func55,Tryz.call55⟩
instance fi99:FI Tryz.prog 99 Tryz.f99:=⟨Tryz.func99,Tryz.call99⟩
instance fi100:FI Tryz.prog 100 Tryz.f100:=⟨Tryz.func100,Tryz.call100⟩
instance fi101:FI Tryz.prog 101 Tryz.f101:=⟨Tryz.func101,Tryz.call101⟩
instance fi37:FI Tryz.prog 37 Tryz.f37:=⟨Tryz.func37,Tryz.call37⟩
instance fi40:FI Tryz.prog 40 Tryz.f40:=⟨Tryz.func40,Tryz.call40⟩
instance fi16:FI Tryz.prog 16 Tryz.f16:=⟨Tryz.func16,Tryz.call16⟩
structure EG where
 lv:Int
 sp:Bool
 m:Nat
 ln:Nat→Nat
 g:Nat→Nat→Nat
abbrev elD (o:Bool) (e:EG):List D:=elG o e.lv e.sp e.m e.ln e.g
structure CG where
 lv:Int
 ex:Int
 k:Nat
 P:Nat→EG
abbrev ciD (o:Bool) (c:CG):List D:=[.val (.int .i64 c.lv),.val (.int .i64 c.ex),.fz o c.k 3 (fun i=>elD o (c.P i))]
def eOk (p:PD) (e:EG):Bool:=elOk p e.lv e.sp e.m e.ln e.g
noncomputable def stB (p:PD) (lv ex:Int):Bool:=decide (errI (goodB p)=0) && decide (1≤lv) && decide (lv≤(p.chain.length:Int)) && decide (1≤ex) && decide (ex≤p.power)
instance (p:PD):CvtLI (parL false p) (parL true p):=by unfold parL u32sD;infer_instance
theorem errI_0 (b:Bool):decide (errI b=0)=b:=by cases b<;>rfl
theorem ciState_den (p:PD) (hp:PFit p) (lv ex:Int):Den Tryz.prog 123 [.agg (parL true p),.val (.int .i64 lv),.val (.int .i64 ex)] (.val (.bool (stB p lv ex))):=by
 refine den_intro (fn:=Tryz.f123) rfl rfl rfl rfl rfl ?_
 refine go ?_
 refine r_call (pcheck_den p hp) ?_
 refine go ?_
 refine fin ?_
 exact cv
theorem r14State_den (p:PD) (hp:PFit p) (lv ex:Int):Den Tryz.prog 49 [.agg (parL true p),.val (.int .i64 lv),.val (.int .i64 ex)] (.val (.bool (stB p lv ex))):=by
 refine den_intro (fn:=Tryz.f49) rfl rfl rfl rfl rfl ?_
 refine go ?_
 refine r_call (r12check_den p hp) ?_
 refine go ?_
 refine fin ?_
 exact cv
def smallE (e:EG):Bool:=decide (e.m≤40) && evry (fun k=>decide (e.ln k≤80)) e.m
def smallC (c:CG):Bool:=decide (c.k≤5) && evry (fun i=>smallE (c.P i)) c.k
theorem large13_den (e:EG) (hm:e.m≤9223372036854775807) (hl:∀ k,e.ln k≤9223372036854775807):Den Tryz.prog 40 [.agg (elD true e)] (.val (.bool (!smallE e))):=by
 refine den_intro (fn:=Tryz.f40) rfl rfl rfl rfl rfl ?_
 refine go ?_
 refine c_if (fun h1=>?_) (fun h1=>?_)
 ·refine go ?_
  refine fin ?_
  rw [show smallE e=false by unfold smallE;rw [decide_eq_false (Nat.not_le_of_lt h1)];rfl]
  exact cv
 ·replace h1:e.m≤40:=Nat.le_of_not_lt h1
  refine go ?_
  refine c_down (fun j=>e.m - j) (fun j=>j≤e.m∧∀ k,k<j→decide (e.ln k≤80)=true) (fun j:Nat=>[(3,.val (.int .i64 (j:Int)))]) (fun _=>[]) 0 (fun j ⟨hj,hp⟩=>?_) ⟨by omega,fun e he=>by omega⟩
  refine go ?_
  refine c_if (fun h3=>?_) (fun h3=>?_)
  ·refine go ?_
   refine c_if (fun h4=>?_) (fun h4=>?_)
   ·refine go ?_
    refine fin ?_
    rw [show smallE e=false by unfold smallE;rw [evry_no h3 (decide_eq_false (Nat.not_le_of_lt h4))];simp]
    exact cv
   ·refine go ?_
    refine ⟨j+1,⟨by omega,fun k hk=>?_⟩,by omega,?_⟩
    ·by_cases q:k<j
     ·exact hp k q
     ·obtain rfl:k=j:=by omega
      exact decide_eq_true (Nat.le_of_not_lt h4)
    ·exact sub
  ·refine go ?_
   obtain rfl:j=e.m:=by omega
   refine fin ?_
   rw [show smallE e=true by unfold smallE;rw [decide_eq_true h1,evry_iff.2 hp];rfl]
   exact cv
theorem large14_den (c:CG) (hk:c.k≤9223372036854775807) (hm:∀ i,(c.P i).m≤9223372036854775807) (hl:∀ i k,(c.P i).ln k≤9223372036854775807):Den Tryz.prog 16 [.agg (ciD true c)] (.val (.bool (!smallC c))):=by
 refine den_intro (fn:=Tryz.f16) rfl rfl rfl rfl rfl ?_
 refine go ?_
 refine c_if (fun h1=>?_) (fun h1=>?_)
 ·refine go ?_
  refine fin ?_
  rw [show smallC c=false by unfold smallC;rw [decide_eq_false (Nat.not_le_of_lt h1)];rfl]
  exact cv
 ·replace h1:c.k≤5:=Nat.le_of_not_lt h1
  refine go ?_
  refine c_down (fun j=>c.k - j) (fun j=>j≤c.k∧∀ k,k<j→smallE (c.P k)=true) (fun j:Nat=>[(3,.val (.int .i64 (j:Int)))]) (fun _=>[]) 0 (fun j ⟨hj,hp⟩=>?_) ⟨by omega,fun e he=>by omega⟩
  refine go ?_
  refine c_if (fun h3=>?_) (fun h3=>?_)
  ·refine go ?_
   refine r_call (large13_den (c.P j) (hm j) (hl j)) ?_
   refine go ?_
   refine c_ifB (fun h4=>?_) (fun h4=>?_)
   ·refine go ?_
    refine fin ?_
    rw [show smallC c=false by unfold smallC;rw [evry_no h3 (by simpa using h4)];simp]
    exact cv
   ·refine go ?_
    refine ⟨j+1,⟨by omega,fun k hk=>?_⟩,by omega,?_⟩
    ·by_cases q:k<j
     ·exact hp k q
     ·obtain rfl:k=j:=by omega
      simpa using h4
    ·exact sub
  ·refine go ?_
   obtain rfl:j=c.k:=by omega
   refine fin ?_
   rw [show smallC c=true by unfold smallC;rw [decide_eq_true h1,evry_iff.2 hp];rfl]
   exact cv

instance ti138:TI Tryz.prog 138 Tryz.t138 Tryz.t137.desc:=⟨by kernel_rfl,by kernel_rfl⟩
instance sz138:SZ Tryz.prog 138 3:=SZ.of ti138 rfl
instance zr138:ZR Tryz.prog 138 [.int .i64 0,.int .i64 0,.int .i64 0]:=ZR.of ti138 rfl rfl rfl
instance bt138:BT Tryz.prog 138 [(0,1),(1,1),(2,1)] [.int .i64 0,.int .i64 0,.int .i64 0]:=BT.of (ns:=[1,1,1]) ti138 rfl zr138.zr ⟨sz3.sz,⟨sz3.sz,⟨sz3.sz,trivial⟩⟩⟩ (by intro j;repeat (first | rfl | cases j with | zero=>rfl | succ j=>?_))
instance fi171:FI Tryz.prog 171 Tryz.f171:=⟨Tryz.func171,Tryz.call171⟩
instance fi169:FI Tryz.prog 169 Tryz.f169:=⟨Tryz.func169,Tryz.call169⟩
instance fi36:FI Tryz.prog 36 Tryz.f36:=⟨Tryz.func36,Tryz.call36⟩
instance fi97:FI Tryz.prog 97 Tryz.f97:=⟨Tryz.func97,Tryz.call97⟩
instance fi57:FI Tryz.prog 57 Tryz.f57:=⟨Tryz.func57,Tryz.call57⟩
instance fi13:FI Tryz.prog 13 Tryz.f13:=⟨Tryz.func13,Tryz.call13⟩
instance fi19:FI Tryz.prog 19 Tryz.f19:=⟨Tryz.func19,Tryz.call19⟩
def sameW (n m:Nat) (x y:Nat→Nat):Bool:=decide (n=m) && evry (fun j=>decide (x j=y j)) n
theorem sameW_1 {n m:Nat} {x y:Nat→Nat} (h:n≠m):sameW n m x y=false:=by unfold sameW;rw [decide_eq_false h];rfl
theorem sameW_2 {n j:Nat} {x y:Nat→Nat} (hj:j<n) (h:x j≠y j):sameW n n x y=false:=by unfold sameW;rw [evry_no hj (decide_eq_false h)];simp
theorem sameW_3 {n:Nat} {x y:Nat→Nat} (h:∀ j,j<n→x j=y j):sameW n n x y=true:=by unfold sameW;rw [evry_iff.2 (fun j hj=>decide_eq_true (h j hj))];simp
def sameR (m m':Nat) (ln ln':Nat→Nat) (g g':Nat→Nat→Nat):Bool:=decide (m=m') && evry (fun k=>sameW (ln k) (ln' k) (g k) (g' k)) m
theorem sameR_1 {m m':Nat} {ln ln':Nat→Nat} {g g':Nat→Nat→Nat} (h:m≠m'):sameR m m' ln ln' g g'=false:=by unfold sameR;rw [decide_eq_false h];rfl
theorem sameR_2 {m j:Nat} {ln ln':Nat→Nat} {g g':Nat→Nat→Nat} (hj:j<m) (h:sameW (ln j) (ln' j) (g j) (g' j)=false):sameR m m ln ln' g g'=false:=by unfold sameR;rw [evry_no hj h];simp
theorem sameR_3 {m:Nat} {ln ln':Nat→Nat} {g g':Nat→Nat→Nat} (h:∀ j,j<m→sameW (ln j) (ln' j) (g j) (g' j)=true):sameR m m ln ln' g g'=true:=by unfold sameR;rw [evry_iff.2 h];simp
def sameE (a b:EG):Bool:=decide (a.lv=b.lv) && (a.sp == b.sp) && sameR a.m b.m a.ln b.ln a.g b.g
def sameC (a b:CG):Bool:=decide (a.lv=b.lv) && decide (a.ex=b.ex) && decide (a.k=b.k) && evry (fun i=>sameE (a.P i) (b.P i)) a.k
abbrev rowsG (o:Bool) (m:Nat) (ln:Nat→Nat) (g:Nat→Nat→Nat):D:=.fz o m 1 (fun k=>[.fz o (ln k) 1 (fun j=>[.val (.int .u32 ((g k j:Nat):Int))])])
theorem eqw_den (n m:Nat) (x y:Nat→Nat) (hn:n≤1000000) (hm:m≤1000000):Den Tryz.prog 171 [u32sF true n x,u32sF true m y] (.val (.bool (sameW n m x y))):=by
 refine den_intro (fn:=Tryz.f171) rfl rfl rfl rfl rfl ?_
 refine go ?_
 refine c_if (fun h1=>?_) (fun h1=>?_)
 ·refine go ?_
  refine fin ?_
  rw [sameW_1 h1]
  exact cv
 ·obtain rfl:n=m:=by omega
  refine go ?_
  refine c_down (fun j=>n - j) (fun j=>j≤n∧∀ k,k<j→x k=y k) (fun j:Nat=>[(13,.val (.int .i64 (j:Int)))]) (fun _=>[]) 0 (fun j ⟨hj,hp⟩=>?_) ⟨by omega,fun e he=>by omega⟩
  refine go ?_
  refine c_if (fun h3=>?_) (fun h3=>?_)
  ·refine go ?_
   refine c_if (fun h4=>?_) (fun h4=>?_)
   ·refine go ?_
    refine fin ?_
    rw [sameW_2 h3 h4]
    exact cv
   ·refine go ?_
    refine ⟨j+1,⟨by omega,fun k hk=>?_⟩,by omega,?_⟩
    ·by_cases q:k<j
     ·exact hp k q
     ·obtain rfl:k=j:=by omega
      omega
    ·exact sub
  ·refine go ?_
   obtain rfl:j=n:=by omega
   refine fin ?_
   rw [sameW_3 hp]
   exact cv
theorem r05Same_den (n m:Nat) (x y:Nat→Nat) (hn:n≤1000000) (hm:m≤1000000):Den Tryz.prog 57 [u32sF true n x,u32sF true m y] (.val (.bool (sameW n m x y))):=by
 refine den_intro (fn:=Tryz.f57) rfl rfl rfl rfl rfl ?_
 refine go ?_
 refine c_if (fun h1=>?_) (fun h1=>?_)
 ·refine go ?_
  refine fin ?_
  rw [sameW_1 h1]
  exact cv
 ·obtain rfl:n=m:=by omega
  refine go ?_
  refine c_down (fun j=>n - j) (fun j=>j≤n∧∀ k,k<j→x k=y k) (fun j:Nat=>[(5,.val (.int .i64 (j:Int)))]) (fun _=>[]) 0 (fun j ⟨hj,hp⟩=>?_) ⟨by omega,fun e he=>by omega⟩
  refine go ?_
  refine c_if (fun h3=>?_) (fun h3=>?_)
  ·refine go ?_
   refine c_if (fun h4=>?_) (fun h4=>?_)
   ·refine go ?_
    refine fin ?_
    rw [sameW_2 h3 h4]
    exact cv
   ·refine go ?_
    refine ⟨j+1,⟨by omega,fun k hk=>?_⟩,by omega,?_⟩
    ·by_cases q:k<j
     ·exact hp k q
     ·obtain rfl:k=j:=by omega
      omega
    ·exact sub
  ·refine go ?_
   obtain rfl:j=n:=by omega
   refine fin ?_
   rw [sameW_3 hp]
   exact cv
theorem rgSame1_den (n m:Nat) (x y:Nat→Nat) (hn:n≤1000000) (hm:m≤1000000):Den Tryz.prog 170 [u32sF true n x,u32sF true m y] (.val (.bool (sameW n m x y))):=by
 refine den_intro (fn:=Tryz.f170) rfl rfl rfl rfl rfl ?_
 refine go ?_
 refine r_callO (eqw_den n m x y hn hm) ?_
 refine go ?_
 refine fin ?_
 exact cv
theorem eqF_den (m m':Nat) (ln ln':Nat→Nat) (g g':Nat→Nat→Nat) (hm:m≤1000000) (hm':m'≤1000000) (hl:∀ k,ln k≤1000000) (hl':∀ k,ln' k≤1000000):Den Tryz.prog 169 [rowsG true m ln g,rowsG true m' ln' g',.val (.func (.func 170) #[] #[])] (.val (.bool (sameR m m' ln ln' g g'))):=by
 refine den_intro (fn:=Tryz.f169) rfl rfl rfl rfl rfl ?_
 refine go ?_
 refine c_if (fun h1=>?_) (fun h1=>?_)
 ·refine go ?_
  refine fin ?_
  rw [sameR_1 h1]
  exact cv
 ·obtain rfl:m=m':=by omega
  refine go ?_
  refine c_down (fun j=>m - j) (fun j=>j≤m∧∀ k,k<j→sameW (ln k) (ln' k) (g k) (g' k)=true) (fun j:Nat=>[(17,.val (.int .i64 (j:Int)))]) (fun _=>[]) 0 (fun j ⟨hj,hp⟩=>?_) ⟨by omega,fun e he=>by omega⟩
  refine go ?_
  refine c_if (fun h3=>?_) (fun h3=>?_)
  ·refine go ?_
   refine r_callO (rgSame1_den (ln j) (ln' j) (g j) (g' j) (hl j) (hl' j)) ?_
   refine go ?_
   refine c_ifB (fun h4=>?_) (fun h4=>?_)
   ·refine go ?_
    refine fin ?_
    rw [sameR_2 h3 (by simpa using h4)]
    exact cv
   ·refine go ?_
    refine ⟨j+1,⟨by omega,fun k hk=>?_⟩,by omega,?_⟩
    ·by_cases q:k<j
     ·exact hp k q
     ·obtain rfl:k=j:=by omega
      simpa using h4
    ·exact sub
  ·refine go ?_
   obtain rfl:j=m:=by omega
   refine fin ?_
   rw [sameR_3 hp]
   exact cv
theorem rgSame_den (a b:EG) (hm:a.m≤1000000) (hm':b.m≤1000000) (hl:∀ k,a.ln k≤1000000) (hl':∀ k,b.ln k≤1000000):Den Tryz.prog 98 [.agg (elD true a),.agg (elD true b)] (.val (.bool (sameE a b))):=by
 refine den_intro (fn:=Tryz.f98) rfl rfl rfl rfl rfl ?_
 refine go ?_
 refine g_callM (hl:=fun hb=>r_callO (eqF_den a.m b.m a.ln b.ln a.g b.g hm hm' hl hl') (run_fin rfl)) (h:=?_)
 refine go ?_
 refine fin ?_
 exact cv
theorem r09Same_den (a b:EG) (hm:a.m≤1000000) (hm':b.m≤1000000) (hl:∀ k,a.ln k≤1000000) (hl':∀ k,b.ln k≤1000000):Den Tryz.prog 13 [.agg (elD true a),.agg (elD true b)] (.val (.bool (sameE a b))):=by
 refine den_intro (fn:=Tryz.f13) rfl rfl rfl rfl rfl ?_
 refine go ?_
 refine c_ifB (fun h1=>?_) (fun h1=>?_)
 ·refine go ?_
  refine fin ?_
  rw [show sameE a b=false by
   unfold sameE
   by_cases q1:a.lv=b.lv
   ·by_cases q2:a.sp=b.sp
    ·by_cases q3:a.m=b.m
     ·exfalso
      simp [q1,q2,q3] at h1
     ·rw [sameR_1 q3];simp
    ·simp [q2]
   ·simp [q1]]
  exact cv
 ·have q:a.lv=b.lv∧a.sp=b.sp∧a.m=b.m:=by
   simp at h1
   exact ⟨h1.1.1,h1.1.2,h1.2⟩
  have hE:sameE a b=sameR a.m a.m a.ln b.ln a.g b.g:=by unfold sameE;rw [q.1,q.2.1,← q.2.2];simp
  refine go ?_
  refine c_down (fun j=>a.m - j) (fun j=>j≤a.m∧∀ k,k<j→sameW (a.ln k) (b.ln k) (a.g k) (b.g k)=true) (fun j:Nat=>[(5,.val (.int .i64 (j:Int)))]) (fun _=>[]) 0 (fun j ⟨hj,hp⟩=>?_) ⟨by omega,fun e he=>by omega⟩
  refine go ?_
  refine c_if (fun h3=>?_) (fun h3=>?_)
  ·have h3':j<b.m:=by omega
   refine go ?_
   refine r_callO (r05Same_den (a.ln j) (b.ln j) (a.g j) (b.g j) (hl j) (hl' j)) ?_
   refine go ?_
   refine c_ifB (fun h4=>?_) (fun h4=>?_)
   ·refine go ?_
    refine fin ?_
    rw [hE,sameR_2 h3 (by simpa using h4)]
    exact cv
   ·refine go ?_
    refine ⟨j+1,⟨by omega,fun k hk=>?_⟩,by omega,?_⟩
    ·by_cases q:k<j
     ·exact hp k q
     ·obtain rfl:k=j:=by omega
      simpa using h4
    ·exact sub
  ·refine go ?_
   obtain rfl:j=a.m:=by omega
   refine fin ?_
   rw [hE,sameR_3 hp]
   exact cv

theorem appF_lt {n e:Nat} {f g:Nat→List D} (h:e<n):appF n f g e=f e:=by
 unfold appF
 rw [show e.blt n=true by rw [Nat.blt_eq];exact h]
theorem appF_ge {n e:Nat} {f g:Nat→List D} (h:n≤e):appF n f g e=g (e - n):=by
 unfold appF
 rw [show e.blt n=false by cases q:e.blt n with
  | false=>rfl
  | true=>rw [Nat.blt_eq] at q;omega]
theorem r09place_den (p:PD) (lv:Int) (sp:Bool):Den Tryz.prog 100 [.agg (parL true p),.val (.int .i64 lv),.val (.bool sp)] (.val (.bool (placeB p lv sp))):=by
 refine den_intro (fn:=Tryz.f100) rfl rfl rfl rfl rfl ?_
 refine go ?_
 refine fin ?_
 exact cv
theorem r09Moduli_den (p:PD) (lv:Nat) (sp:Bool) (h1:lv≤p.chain.length) (h2:p.chain.length≤1000):Den Tryz.prog 101 [.agg (parL true p),.val (.int .i64 (lv:Int)),.val (.bool sp)] (.fz false (modN p lv sp) 1 (fun k=>[.val (.int .u32 ((modQ p lv k:Nat):Int))])):=by
 refine den_intro (fn:=Tryz.f101) rfl rfl rfl rfl rfl ?_
 refine go ?_
 refine c_ifB (fun h3=>?_) (fun h3=>?_)
 ·subst h3
  refine go ?_
  refine fin_arr (1000+19) (fun k=>[.val (.int .u32 ((modQ p lv k:Nat):Int))]) (fun e he=>?_) (fun _=>rfl) ?_
  ·unfold modQ
   by_cases q:e<lv
   ·rw [appF_lt (by omega),if_pos q,Nat.zero_add]
   ·rw [appF_ge (by omega),if_neg q,show e - (lv - 0)=0 by omega];rfl
  refine fin_freeze (1000+19) ?_
  refine fin ?_
  exact cv
 ·subst h3
  refine go ?_
  refine fin_arr (1000+13) (fun k=>[.val (.int .u32 ((modQ p lv k:Nat):Int))]) (fun e he=>?_) (fun _=>rfl) ?_
  ·unfold modQ
   rw [if_pos (by omega),Nat.zero_add]
  refine fin_freeze (1000+13) ?_
  refine fin ?_
  exact cv
theorem VP.all {p:PD} (h:VP p) (hs:p.special≠0):∃ a:Nat→Nat,a=modQ p p.chain.length∧(∀ i,i<p.chain.length+1→3≤a i∧a i≤2147483647∧a i % 2=1)∧∀ k i,k<i→i<p.chain.length+1→a k≠a i:=by
 refine ⟨_,rfl,fun i hi=>?_,fun k i hk hi e=>?_⟩
 ·have q:modOk (modQ p p.chain.length i)=true:=by
   unfold modQ
   split
   ·exact h.mods i ‹_›
   ·rcases h.special with q | q
    ·exact absurd q hs
    ·exact q.1
  unfold modOk at q
  simp only [Bool.and_eq_true,decide_eq_true_eq] at q
  exact ⟨q.1.1,q.1.2,q.2⟩
 ·unfold modQ at e
  rw [if_pos (by omega)] at e
  by_cases q:i<p.chain.length
  ·rw [if_pos q] at e
   have:=h.apart i q
   have h2:=hasI_spec (p:=fun e=>decide (p.chain.getD i 0=p.chain.getD e 0)) |>.2 ⟨k,hk,decide_eq_true e.symm⟩
   rw [this] at h2;cases h2
  ·rw [if_neg q] at e
   rcases h.special with q2 | q2
   ·exact absurd q2 hs
   ·have h2:=hasI_spec (p:=fun e=>decide (p.special=p.chain.getD e 0)) |>.2 ⟨k,(by omega:k<p.chain.length),decide_eq_true e.symm⟩
    rw [q2.2] at h2;cases h2
theorem r09Valid_den (p:PD) (h:VP p) (hs:p.special≠0):Den Tryz.prog 99 [.agg (parL true p)] (.val (.bool true)):=by
 refine den_intro (fn:=Tryz.f99) rfl rfl rfl rfl rfl ?_
 have l2:=h.len2
 refine go ?_
 refine c_ifB (fun h1=>absurd h1 ?_) (fun _=>?_)
 ·rcases h.n with q | q | q | q<;>rw [q]<;>decide
 ·refine go ?_
  refine c_ifB (fun h1=>absurd h1 ?_) (fun _=>?_)
  ·have l1:=h.len1
   rw [decide_eq_false (show ¬ p.chain.length<1 by omega),decide_eq_false (show ¬ 24<p.chain.length by omega)];decide
  ·refine go ?_
   obtain ⟨a,ha,hA1,hA2⟩:=h.all hs
   refine c_arr (1000+45) (fun k=>[.val (.int .u32 ((a k:Nat):Int))]) (fun e he=>?_) (fun _=>rfl) ?_
   ·rw [ha];unfold modQ
    by_cases q:e<p.chain.length
    ·rw [appF_lt q,if_pos q]
    ·rw [appF_ge (by omega),if_neg q,show e - p.chain.length=0 by omega];rfl
   obtain ⟨M,hM⟩:∃ M,M=p.chain.length+1:=⟨_,rfl⟩
   rw [← hM] at hA1 hA2 ⊢
   refine c_freeze (1000+45) ?_
   refine c_slot 3 (.fz false M 1 (fun k=>[.val (.int .u32 ((a k:Nat):Int))])) ?_
   refine c_up M (fun j=>[(4,.val (.int .i64 (j:Nat)))]) (fun _=>[]) (fun i hi=>?_)
   refine go ?_
   refine c_if (fun h3=>?_) (fun h3=>?_)
   ·obtain ⟨b1,b2,b3⟩:=hA1 i h3
    refine go ?_
    refine c_ifB (fun h4=>absurd h4 ?_) (fun _=>?_)
    ·rw [decide_eq_false (show ¬ a i<3 by omega),decide_eq_false (show ¬ 2147483647<a i by omega),decide_eq_false (show ¬ a i % 2=0 by omega)];decide
    ·refine go ?_
     refine c_up i (fun j=>[(5,.val (.int .i64 (j:Nat)))]) (fun _=>[]) (fun k hk=>?_)
     refine go ?_
     refine c_if (fun h5=>?_) (fun h5=>?_)
     ·refine go ?_
      refine c_if (fun h6=>absurd h6 (hA2 k i h5 h3)) (fun _=>?_)
      refine go ?_
      exact ⟨h5,sub⟩
     ·refine go ?_
      exact ⟨h3,sub⟩
   ·refine go ?_
    refine fin ?_
    exact cv

theorem rowOk_eq {p:PD} {n:Nat} {lv k:Nat} {ln:Nat→Nat} {g:Nat→Nat→Nat} (hn:p.n=n):rowOk p lv ln g k = !(decide (ln k≠n) || hasI (fun j=>decide (modQ p lv k≤g k j)) (ln k)):=by
 unfold rowOk
 rw [hn]
 by_cases q:ln k=n
 ·simp [q]
 ·have q2:¬ ((ln k:Nat):Int)=(n:Int):=fun e=>q (by omega)
  simp [q,q2]
theorem r09Check_den0 (p:PD) (h:VP p) (hs:p.special≠0) (lv:Int) (sp:Bool) (m:Nat) (ln:Nat→Nat) (g:Nat→Nat→Nat) (hln:∀ k,ln k≤1000000) (hm:m≤1000000):Den Tryz.prog 37 [.agg (parL true p),.agg (elG true lv sp m ln g)] (.val (.int .i64 (errI (elOk p lv sp m ln g)))):=by
 refine den_intro (fn:=Tryz.f37) rfl rfl rfl rfl rfl ?_
 have l2:=h.len2
 refine go ?_
 refine r_call (r09Valid_den p h hs) ?_
 refine go ?_
 refine g_callM (hl:=fun hb=>r_call (r09place_den p lv sp) (run_fin rfl)) (h:=?_)
 refine go ?_
 refine c_ifB (fun h1=>?_) (fun h1=>?_)
 ·refine go ?_
  refine fin ?_
  rw [elOk_1 (show placeB p lv sp=false from b_no h1)]
  exact cv
 ·have hp:placeB p lv sp=true:=b_ok h1
  have hlv:1≤lv∧lv≤(p.chain.length:Int):=by
   simp only [placeB,Bool.and_eq_true,decide_eq_true_eq] at hp
   exact hp.1
  obtain ⟨lv,rfl⟩:=Int.eq_ofNat_of_zero_le (show 0≤lv by omega)
  have hM:modN p lv sp≤1001:=by unfold modN;split<;>omega
  refine go ?_
  refine r_call (r09Moduli_den p lv sp (by omega) (by omega)) ?_
  refine go ?_
  refine c_if (fun h3=>?_) (fun h3=>?_)
  ·refine go ?_
   refine fin ?_
   rw [elOk_2 (show m≠modN p (lv:Int).toNat sp from fun e=>h3 (by rw [e];simp))]
   exact cv
  ·obtain rfl:m=modN p lv sp:=by omega
   obtain ⟨n,hn,hn32⟩:∃ n:Nat,p.n=n∧n≤32:=by
    rcases h.n with q | q | q | q
    ·exact ⟨4,by rw [q];rfl,by omega⟩
    ·exact ⟨8,by rw [q];rfl,by omega⟩
    ·exact ⟨16,by rw [q];rfl,by omega⟩
    ·exact ⟨32,by rw [q];rfl,by omega⟩
   obtain ⟨M,hMM⟩:∃ M,M=modN p lv sp:=⟨_,rfl⟩
   rw [← hMM] at hM h3 ⊢
   refine go ?_
   refine c_down (fun j=>M - j) (fun j=>j≤M∧∀ k,k<j→rowOk p lv ln g k=true) (fun j:Nat=>[(6,.val (.int .i64 (j:Int)))]) (fun _=>[]) 0 (fun k ⟨hk,hF⟩=>?_) ⟨by omega,fun e he=>by omega⟩
   refine go ?_
   refine c_if (fun h4=>?_) (fun h4=>?_)
   ·have hrow:=rowOk_eq (lv:=lv) (ln:=ln) (g:=g) (k:=k) hn
    refine go ?_
    refine c_if (fun h5=>?_) (fun h5=>?_)
    ·refine go ?_
     refine fin ?_
     rw [elOk_3 h4 (by rw [Int.toNat_natCast,hrow,decide_eq_true h5];rfl)]
     exact cv
    ·have hlk:ln k=n:=by omega
     refine go ?_
     refine c_down (fun j=>n - j) (fun j=>j≤n∧∀ e,e<j→decide (modQ p lv k≤g k e)=false) (fun j:Nat=>[(7,.val (.int .i64 (j:Int)))]) (fun _=>[]) 0 (fun j ⟨hj,hG⟩=>?_) ⟨by omega,fun e he=>by omega⟩
     refine go ?_
     refine c_if (fun h6=>?_) (fun h6=>?_)
     ·have h6':j<n:=by omega
      refine go ?_
      refine c_if (fun h7=>?_) (fun h7=>?_)
      ·refine go ?_
       refine fin ?_
       rw [elOk_3 h4 (by rw [Int.toNat_natCast,hrow,hasI_spec.2 ⟨j,by omega,decide_eq_true h7⟩];simp)]
       exact cv
      ·refine go ?_
       refine ⟨j+1,⟨by omega,fun e he=>?_⟩,by omega,?_⟩
       ·by_cases q:e<j
        ·exact hG e q
        ·obtain rfl:e=j:=by omega
         exact decide_eq_false h7
       ·exact sub
     ·obtain rfl:j=n:=by omega
      refine go ?_
      refine ⟨k+1,⟨by omega,fun e he=>?_⟩,by omega,?_⟩
      ·by_cases q:e<k
       ·exact hF e q
       ·obtain rfl:e=k:=by omega
        rw [hrow,hasI_no (by rw [hlk];exact hG),decide_eq_false h5];rfl
      ·exact sub
   ·obtain rfl:k=M:=by omega
    refine go ?_
    refine fin ?_
    rw [elOk_4 hp hMM hF]
    exact cv
theorem r09Check_den (p:PD) (h:VP p) (hs:p.special≠0) (e:EG) (hln:∀ k,e.ln k≤1000000) (hm:e.m≤1000000):Den Tryz.prog 37 [.agg (parL true p),.agg (elD true e)] (.val (.int .i64 (errI (eOk p e)))):=r09Check_den0 p h hs e.lv e.sp e.m e.ln e.g hln hm

structure St (p:PD) (lv ex:Int):Prop where
 good:Good p.par
 l1:1≤lv
 l2:lv≤(p.chain.length:Int)
 e1:1≤ex
 e2:ex≤p.power
theorem stB_iff {p:PD} {lv ex:Int}:stB p lv ex=true↔St p lv ex:=by
 unfold stB
 simp only [errI_0,Bool.and_eq_true,decide_eq_true_eq,goodB_iff]
 exact ⟨fun ⟨⟨⟨⟨a,b⟩,c⟩,d⟩,e⟩=>⟨a,b,c,d,e⟩,fun h=>⟨⟨⟨⟨h.good,h.l1⟩,h.l2⟩,h.e1⟩,h.e2⟩⟩
theorem good_special {p:PD} (h:Good p.par):p.special≠0:=fun e=>by
 have:=h.2.2.2.2.2.2.2.1.1
 simp only [PD.par] at this
 omega
def partOk (p:PD) (lv:Int) (e:EG):Bool:= !(decide (e.lv≠lv) || e.sp || decide (errI (eOk p e)≠0))
noncomputable def ciOk (p:PD) (c:CG):Bool:=stB p c.lv c.ex && (decide (c.k=2) || decide (c.k=3)) && evry (fun i=>partOk p c.lv (c.P i)) c.k
theorem ciOk_1 {p:PD} {c:CG} (h:stB p c.lv c.ex=false):ciOk p c=false:=by unfold ciOk;rw [h];rfl
theorem ciOk_2 {p:PD} {c:CG} (h:c.k≠2) (h2:c.k≠3):ciOk p c=false:=by unfold ciOk;rw [decide_eq_false h,decide_eq_false h2];simp
theorem ciOk_3 {p:PD} {c:CG} {i:Nat} (hi:i<c.k) (h:partOk p c.lv (c.P i)=false):ciOk p c=false:=by unfold ciOk;rw [evry_no (f:=fun i=>partOk p c.lv (c.P i)) hi h];simp
theorem ciOk_4 {p:PD} {c:CG} (h:stB p c.lv c.ex=true) (h2:c.k=2∨c.k=3) (h3:∀ i,i<c.k→partOk p c.lv (c.P i)=true):ciOk p c=true:=by
 unfold ciOk;rw [h,(evry_iff (f:=fun i=>partOk p c.lv (c.P i))).2 h3]
 rcases h2 with e | e<;>rw [e]<;>rfl
theorem partOk_eq {p:PD} {lv:Int} {e:EG}:partOk p lv e = !(decide (errI (eOk p e)≠0) || decide (e.lv≠lv) || e.sp):=by
 unfold partOk
 rw [Bool.or_comm,← Bool.or_assoc]
theorem ciCheck_den (p:PD) (hp:PFit p) (c:CG) (hk:c.k≤1000000) (hln:∀ i k,(c.P i).ln k≤1000000) (hm:∀ i,(c.P i).m≤1000000):Den Tryz.prog 59 [.agg (parL true p),.agg (ciD true c)] (.val (.int .i64 (errI (ciOk p c)))):=by
 refine den_intro (fn:=Tryz.f59) rfl rfl rfl rfl rfl ?_
 refine go ?_
 refine r_call (ciState_den p hp c.lv c.ex) ?_
 refine go ?_
 refine c_ifB (fun h1=>?_) (fun h1=>?_)
 ·refine go ?_
  refine fin ?_
  rw [show ciOk p c=false by
   by_cases q:stB p c.lv c.ex=true
   ·rw [q] at h1
    exact ciOk_2 (fun e=>by rw [e] at h1;simp at h1) (fun e=>by rw [e] at h1;simp at h1)
   ·exact ciOk_1 (by simpa using q)]
  exact cv
 ·have hs:stB p c.lv c.ex=true:=by
   by_cases q:stB p c.lv c.ex=true
   ·exact q
   ·rw [show stB p c.lv c.ex=false by simpa using q] at h1;simp at h1
  have h23:c.k=2∨c.k=3:=by
   rw [hs] at h1
   by_cases q:c.k=2
   ·exact .inl q
   ·by_cases q2:c.k=3
    ·exact .inr q2
    ·simp [q,q2] at h1
  have hst:=stB_iff.1 hs
  have hvp:=good_VP hst.good
  refine go ?_
  refine c_down (fun j=>c.k - j) (fun j=>j≤c.k∧∀ i,i<j→partOk p c.lv (c.P i)=true) (fun j:Nat=>[(29,.val (.int .i64 (j:Int)))]) (fun _=>[]) 0 (fun j ⟨hj,hF⟩=>?_) ⟨by omega,fun e he=>by omega⟩
  refine go ?_
  refine c_if (fun h3=>?_) (fun h3=>?_)
  ·refine go ?_
   refine g_callM (hl:=fun hb=>r_call (rgCheck_den p hvp (c.P j).lv (c.P j).sp (c.P j).m (c.P j).ln (c.P j).g (hln j) (hm j)) (run_fin rfl)) (h:=?_)
   refine go ?_
   refine c_ifB (fun h4=>?_) (fun h4=>?_)
   ·refine go ?_
    refine fin ?_
    rw [ciOk_3 h3 (congrArg not h4)]
    exact cv
   ·refine go ?_
    refine ⟨j+1,⟨by omega,fun i hi=>?_⟩,by omega,?_⟩
    ·by_cases q:i<j
     ·exact hF i q
     ·obtain rfl:i=j:=by omega
      exact congrArg not h4
    ·exact sub
  ·refine go ?_
   obtain rfl:j=c.k:=by omega
   refine fin ?_
   rw [ciOk_4 hs h23 hF]
   exact cv
theorem r14Check_den (p:PD) (hp:PFit p) (c:CG) (hk:c.k≤1000000) (hln:∀ i k,(c.P i).ln k≤1000000) (hm:∀ i,(c.P i).m≤1000000):Den Tryz.prog 61 [.agg (parL true p),.agg (ciD true c)] (.val (.int .i64 (errI (ciOk p c)))):=by
 refine den_intro (fn:=Tryz.f61) rfl rfl rfl rfl rfl ?_
 refine go ?_
 refine r_call (r14State_den p hp c.lv c.ex) ?_
 refine go ?_
 refine c_ifB (fun h1=>?_) (fun h1=>?_)
 ·refine go ?_
  refine fin ?_
  rw [show ciOk p c=false by
   by_cases q:stB p c.lv c.ex=true
   ·rw [q] at h1
    exact ciOk_2 (fun e=>by rw [e] at h1;simp at h1) (fun e=>by rw [e] at h1;simp at h1)
   ·exact ciOk_1 (by simpa using q)]
  exact cv
 ·have hs:stB p c.lv c.ex=true:=by
   by_cases q:stB p c.lv c.ex=true
   ·exact q
   ·rw [show stB p c.lv c.ex=false by simpa using q] at h1;simp at h1
  have h23:c.k=2∨c.k=3:=by
   rw [hs] at h1
   simp at h1
   omega
  have hst:=stB_iff.1 hs
  have hvp:=good_VP hst.good
  have hsp:=good_special hst.good
  refine go ?_
  refine c_down (fun j=>c.k - j) (fun j=>j≤c.k∧∀ i,i<j→partOk p c.lv (c.P i)=true) (fun j:Nat=>[(5,.val (.int .i64 (j:Int)))]) (fun _=>[]) 0 (fun j ⟨hj,hF⟩=>?_) ⟨by omega,fun e he=>by omega⟩
  refine go ?_
  refine c_if (fun h3=>?_) (fun h3=>?_)
  ·refine go ?_
   refine r_call (r09Check_den p hvp hsp (c.P j) (hln j) (hm j)) ?_
   refine go ?_
   refine c_ifB (fun h4=>?_) (fun h4=>?_)
   ·refine go ?_
    refine fin ?_
    rw [ciOk_3 h3 (partOk_eq.trans (congrArg not h4))]
    exact cv
   ·refine go ?_
    refine ⟨j+1,⟨by omega,fun i hi=>?_⟩,by omega,?_⟩
    ·by_cases q:i<j
     ·exact hF i q
     ·obtain rfl:i=j:=by omega
      exact partOk_eq.trans (congrArg not h4)
    ·exact sub
  ·refine go ?_
   obtain rfl:j=c.k:=by omega
   refine fin ?_
   rw [ciOk_4 hs h23 hF]
   exact cv

instance fi116:FI Tryz.prog 116 Tryz.f116:=⟨Tryz.func116,Tryz.call116⟩
instance fi180:FI Tryz.prog 180 Tryz.f180:=⟨Tryz.func180,Tryz.call180⟩
instance fi51:FI Tryz.prog 51 Tryz.f51:=⟨Tryz.func51,Tryz.call51⟩
theorem r09residue_den (x:Int) (q:Nat) (hq:0<q) (hq2:q≤2147483647) (hx : -9223372036854775808≤x∧x≤9223372036854775807):Den Tryz.prog 180 [.val (.int .i64 x),.val (.int .u32 (q:Int))] (.val (.int .u64 ((resI x q:Nat):Int))):=by
 refine den_intro (fn:=Tryz.f180) rfl rfl rfl rfl rfl ?_
 have h1:x.tmod q<q:=Int.tmod_lt_of_pos _ (by omega)
 have h2 : -(q:Int)<x.tmod q:=by have:=Int.tmod_lt_of_pos (-x) (show (0:Int)<q by omega);rw [Int.neg_tmod] at this;omega
 have h3:=resI_tmod (x:=x) hq
 have h4:=resI_lt (x:=x) hq
 refine go ?_
 refine c_cut0 [(5,.val (.int .i64 ((resI x q:Nat):Int)))] ?_ ?_
 ·refine c_if (fun h5=>?_) (fun h5=>?_)
  ·rw [if_pos h5] at h3
   refine go ?_
   exact sub
  ·rw [if_neg h5] at h3
   refine go ?_
   exact sub
 ·refine go ?_
  refine fin ?_
  exact cv
theorem r09FromInts_den (p:PD) (n lv:Nat) (sp:Bool) (h:Lv p n lv) (x:Nat→Int) (hx:∀ j, -9223372036854775808≤x j∧x j≤9223372036854775807):Den Tryz.prog 116 [.agg (parL true p),.val (.int .i64 (lv:Int)),.val (.bool sp),intsD true n x] (.tup [.agg (elL false lv sp (modN p lv sp) n (fun k j=>resI (x j) (modQ p lv k))),.val (.int .i64 0)]):=by
 refine den_intro (fn:=Tryz.f116) rfl rfl rfl rfl rfl ?_
 have hN:NatIs p.n n:=h.n
 have h32:=h.n32
 have l1:=h.l1
 have l2:=h.l2
 have l24:=h.vp.len2
 have hpl:placeB p (lv:Int) sp=true:=h.place sp
 have hm:=modQ_in h.vp h.sp h.l2
 have hm':∀ k,0<modQ p lv k:=fun k=>by have:=hm k;omega
 have hM:modN p lv sp≤1001:=by unfold modN;split<;>omega
 obtain ⟨M,hMM⟩:∃ M,M=modN p lv sp:=⟨_,rfl⟩
 refine go ?_
 refine r_call (r09Valid_den p h.vp h.sp) ?_
 refine go ?_
 refine g_callM (hl:=fun hb=>r_call (r09place_den p lv sp) (run_fin rfl)) (h:=?_)
 rw [hpl]
 refine go ?_
 refine r_call (r09Moduli_den p lv sp h.l2 (by omega)) ?_
 rw [← hMM] at hM ⊢
 refine go ?_
 refine c_nilcell 1010 2 1900 23 1 (fun k=>[.fz false n 1 (fun j=>[.val (.int .u32 ((resI (x j) (modQ p lv k):Nat):Int))])]) ?_
 refine c_up M (fun i=>[(12,.val (.int .i64 (i:Nat)))]) (fun i=>[(1010,some (.lit 35 [.val (.int .i64 (lv:Int)),.val (.bool sp),.sl 1900 1 i])),(1900,some (.arr 23 i 1 (fun k=>[.fz false n 1 (fun j=>[.val (.int .u32 ((resI (x j) (modQ p lv k):Nat):Int))])])))]) (fun i hi=>?_)
 refine go ?_
 have hq:=hm i
 refine c_if (fun h3=>?_) (fun h3=>?_)
 ·refine go ?_
  refine c_nil 13 1901 22 1 (fun j=>[.val (.int .u32 ((resI (x j) (modQ p lv i):Nat):Int))]) ?_
  refine c_up n (fun j=>[(13,.sl 1901 1 j),(14,.val (.int .i64 (j:Nat)))]) (fun j=>[(1901,some (.arr 22 j 1 (fun j=>[.val (.int .u32 ((resI (x j) (modQ p lv i):Nat):Int))])))]) (fun j hj=>?_)
  have hr:=resI_lt (x:=x j) (hm' i)
  refine go ?_
  refine c_if (fun h4=>?_) (fun h4=>?_)
  ·refine go ?_
   refine r_callO (r09residue_den (x j) (modQ p lv i) (hm' i) (by omega) (hx j)) ?_
   refine go ?_
   refine ⟨h4,?_⟩
   refine sub_arr (1000+64) (fun j=>[.val (.int .u32 ((resI (x j) (modQ p lv i):Nat):Int))]) (appF_snoc rfl) (fun _=>rfl) ?_
   refine sub_toL [52] (1000+64) 1901 ?_
   exact sub
  ·obtain rfl:j=n:=by omega
   refine c_freeze 1901 ?_
   refine c_slot 13 (.fz false j 1 (fun j=>[.val (.int .u32 ((resI (x j) (modQ p lv i):Nat):Int))])) ?_
   refine go ?_
   refine ⟨h3,?_⟩
   refine sub_arr (1000+69) (fun k=>[.fz false j 1 (fun j=>[.val (.int .u32 ((resI (x j) (modQ p lv k):Nat):Int))])]) (appF_snoc rfl) (fun _=>rfl) ?_
   refine sub_toL [66] (1000+69) 1900 ?_
   exact sub
 ·obtain rfl:i=M:=by omega
  refine go ?_
  refine fin_freeze 1900 ?_
  refine fin ?_
  exact cv

def Vg (p:PD) (lv:Nat) (g:Nat→Nat→Nat):Prop:=∀ i j,g i j<modQ p lv i
theorem tmod2 {m:Int} {q:Nat} (h:0<q):(m.tmod q+q).tmod q=((resI m q:Nat):Int):=by
 have h1:=Int.tmod_lt_of_pos m (show (0:Int)<q by omega)
 have h2 : -(q:Int)<m.tmod q:=by have:=Int.tmod_lt_of_pos (-m) (show (0:Int)<q by omega);rw [Int.neg_tmod] at this;omega
 have h3:=resI_tmod (x:=m) h
 have h4:=resI_lt (x:=m) h
 rw [Int.tmod_eq_emod_of_nonneg (by omega)]
 by_cases c:m.tmod q<0
 ·rw [if_pos c] at h3
  rw [Int.emod_eq_of_lt (by omega) (by omega),h3]
 ·rw [if_neg c] at h3
  rw [Int.add_emod_right,Int.emod_eq_of_lt (by omega) (by omega),h3]
theorem elOk_valid {p:PD} {n lv:Nat} {sp:Bool} {g:Nat→Nat→Nat} (h:Lv p n lv) (hg:Vg p lv g):elOk p (lv:Int) sp (modN p lv sp) (fun _=>n) g=true:=
 elOk_4 (h.place sp) rfl fun k hk=>by
  unfold rowOk
  rw [decide_eq_true h.n.symm,hasI_no (fun e he=>decide_eq_false (Nat.not_le_of_lt (hg k e)))];rfl
theorem rgalike_den (p:PD) (n lv:Nat) (sp:Bool) (h:Lv p n lv) (ga gb:Nat→Nat→Nat) (ha:Vg p lv ga) (hb:Vg p lv gb):Den Tryz.prog 124 [.agg (parL true p),.agg (elL true lv sp (modN p lv sp) n ga),.agg (elL true lv sp (modN p lv sp) n gb)] (.val (.bool true)):=by
 refine den_intro (fn:=Tryz.f124) rfl rfl rfl rfl rfl ?_
 have h32:=h.n32
 have l1:=h.l2
 have l2:=h.vp.len2
 have hM:modN p lv sp≤1000000:=by unfold modN;split<;>omega
 have e1:=elOk_valid (sp:=sp) h ha
 have e2:=elOk_valid (sp:=sp) h hb
 refine go ?_
 refine r_call (rgCheck_den p h.vp (lv:Int) sp (modN p lv sp) (fun _=>n) ga (fun _=>by omega) hM) ?_
 rw [e1]
 refine go ?_
 refine g_callM (hl:=fun hb=>r_call (rgCheck_den p h.vp (lv:Int) sp (modN p lv sp) (fun _=>n) gb (fun _=>by omega) hM) (run_fin rfl)) (h:=?_)
 rw [e2]
 refine go ?_
 refine fin ?_
 rw [show (decide ((0:Nat)=0) && decide ((0:Nat)=0) && decide (lv=lv) && sp == sp)=true by simp]
 exact cv

theorem goodQ_pr {s q:Nat} (h8:s % 8=0) (h:GoodQ s q):Pr q:=by
 obtain ⟨h1,h2,h3,h4⟩:=h
 have hq:q % 8=1:=by rw [← Nat.mod_mod_of_dvd q (Nat.dvd_of_mod_eq_zero h8),h3]
 rcases h4 with e | e | e | ⟨_,_,d7,d61,u,k,e,hu,s2,s7,s61⟩
 ·omega
 ·omega
 ·omega
 ·exact strong_prime (by omega) hq (.inr ⟨h1,by omega⟩) e hu s2 s7 s61 (by omega) (by omega)
theorem good_8 {p:Par} (h:Good p):(2*p.n.toNat*plainV p.n.toNat p.prime p.power) % 8=0:=by
 have h4:p.n.toNat % 4=0:=by rcases h.1 with e | e | e | e<;>rw [e]<;>rfl
 obtain ⟨m,hm⟩:∃ m,p.n.toNat=4*m:=⟨p.n.toNat / 4,by omega⟩
 rw [hm,show 2*(4*m)*plainV (4*m) p.prime p.power=8*(m*plainV (4*m) p.prime p.power) from by rw [← Nat.mul_assoc,← Nat.mul_assoc]]
 exact Nat.mul_mod_right _ _
theorem Good.pr {p:Par} (h:Good p) {i:Nat} (hi:i<p.chain.length):Pr (p.chain.getD i 0):=goodQ_pr (good_8 h) (h.2.2.2.2.2.2.2.2.1 i hi).1
theorem eu_gcd:∀ (f x y:Nat) (u v:Int),y<f→(eu f x y u v).1=Nat.gcd x y
 | 0,x,y,u,v,h=>by omega
 | f+1,x,y,u,v,h=>by
  unfold eu
  by_cases q:y=0
  ·rw [if_pos q,q,Nat.gcd_zero_right]
  ·rw [if_neg q]
   have:=Nat.mod_lt x (show 0<y by omega)
   rw [eu_gcd f y (x % y) v _ (by omega),Nat.gcd_comm x y,Nat.gcd_rec y x,Nat.gcd_comm]
theorem inv_pr {a b:Nat} (ha:Pr a) (hb:Pr b) (h:a≠b):invB (a % b) b=true:=by
 unfold invB invE
 refine decide_eq_true ?_
 rw [eu_gcd _ _ _ _ _ (by omega),Nat.gcd_comm,← Nat.gcd_rec]
 refine hb.coprime (fun hd=>?_)
 rcases ha.2 b hd with e | e
 ·have:=hb.1;omega
 ·exact h e.symm
theorem good_apart {p:Par} (h:Good p) {i j:Nat} (hij:j<i) (hi:i<p.chain.length):invB (p.chain.getD i 0 % p.chain.getD j 0) (p.chain.getD j 0)=true:=
 inv_pr (h.pr hi) (h.pr (by omega)) (fun e=>h.2.2.2.2.2.2.2.2.2 j i hij hi e.symm)

theorem rgAdd_den (p:PD) (n lv:Nat) (sp:Bool) (h:Lv p n lv) (ga gb:Nat→Nat→Nat) (ha:Vg p lv ga) (hb:Vg p lv gb):Den Tryz.prog 60 [.agg (parL true p),.agg (elL true lv sp (modN p lv sp) n ga),.agg (elL true lv sp (modN p lv sp) n gb)] (.tup [.agg (elL false lv sp (modN p lv sp) n (fun i j=>(ga i j+gb i j) % modQ p lv i)),.val (.int .i64 0)]):=by
 refine den_intro (fn:=Tryz.f60) rfl rfl rfl rfl rfl ?_
 have h32:=h.n32
 have l2:=h.vp.len2
 have hm:=modQ_in h.vp h.sp h.l2
 have hM:modN p lv sp≤1001:=by have:=h.l2;unfold modN;split<;>omega
 refine go ?_
 refine r_call (rgalike_den p n lv sp h ga gb ha hb) ?_
 refine go ?_
 refine c_no ?_
 refine go ?_
 refine r_call (rgeach2_den p n lv sp h.n h32 h.l1 h.l2 (by omega) (fun k=>by have:=hm k;omega) (elL true lv sp (modN p lv sp) n ga) (elL true lv sp (modN p lv sp) n gb) (fun i j=>(ga i j+gb i j) % modQ p lv i) (fun k hk=>rgAdd1_den k (modQ p lv k) n lv (modN p lv sp) sp ga gb hk hM h32 (by have:=hm k;omega) (by have:=hm k;omega) (fun i j=>by have:=ha i j;have:=hm i;omega) (fun i j=>by have:=hb i j;have:=hm i;omega))) ?_
 refine go ?_
 refine fin ?_
 exact cv

theorem rgSub_den (p:PD) (n lv:Nat) (sp:Bool) (h:Lv p n lv) (ga gb:Nat→Nat→Nat) (ha:Vg p lv ga) (hb:Vg p lv gb):Den Tryz.prog 80 [.agg (parL true p),.agg (elL true lv sp (modN p lv sp) n ga),.agg (elL true lv sp (modN p lv sp) n gb)] (.tup [.agg (elL false lv sp (modN p lv sp) n (fun i j=>(ga i j+modQ p lv i - gb i j) % modQ p lv i)),.val (.int .i64 0)]):=by
 refine den_intro (fn:=Tryz.f80) rfl rfl rfl rfl rfl ?_
 have h32:=h.n32
 have l2:=h.vp.len2
 have hm:=modQ_in h.vp h.sp h.l2
 have hM:modN p lv sp≤1001:=by have:=h.l2;unfold modN;split<;>omega
 refine go ?_
 refine r_call (rgalike_den p n lv sp h ga gb ha hb) ?_
 refine go ?_
 refine c_no ?_
 refine go ?_
 refine r_call (rgeach2_den p n lv sp h.n h32 h.l1 h.l2 (by omega) (fun k=>by have:=hm k;omega) (elL true lv sp (modN p lv sp) n ga) (elL true lv sp (modN p lv sp) n gb) (fun i j=>(ga i j+modQ p lv i - gb i j) % modQ p lv i) (fun k hk=>rgSub1_den k (modQ p lv k) n lv (modN p lv sp) sp ga gb hk hM h32 (by have:=hm k;omega) (by have:=hm k;omega) (fun i j=>by have:=ha i j;have:=hm i;omega) (fun i j=>by have:=hb i j;have:=hm i;omega) (fun j=>by have:=hb k j;omega))) ?_
 refine go ?_
 refine fin ?_
 exact cv
theorem rgMul_den (p:PD) (n lv:Nat) (sp:Bool) (h:Lv p n lv) (ga gb:Nat→Nat→Nat) (ha:Vg p lv ga) (hb:Vg p lv gb):Den Tryz.prog 79 [.agg (parL true p),.agg (elL true lv sp (modN p lv sp) n ga),.agg (elL true lv sp (modN p lv sp) n gb)] (.tup [.agg (elL false lv sp (modN p lv sp) n (fun i k=>mulR (ga i) (gb i) (modQ p lv i) n k)),.val (.int .i64 0)]):=by
 refine den_intro (fn:=Tryz.f79) rfl rfl rfl rfl rfl ?_
 have h32:=h.n32
 have l2:=h.vp.len2
 have hm:=modQ_in h.vp h.sp h.l2
 have hM:modN p lv sp≤1001:=by have:=h.l2;unfold modN;split<;>omega
 refine go ?_
 refine r_call (rgalike_den p n lv sp h ga gb ha hb) ?_
 refine go ?_
 refine c_no ?_
 refine go ?_
 refine r_call (rgeach2_den p n lv sp h.n h32 h.l1 h.l2 (by omega) (fun k=>by have:=hm k;omega) (elL true lv sp (modN p lv sp) n ga) (elL true lv sp (modN p lv sp) n gb) (fun i k=>mulR (ga i) (gb i) (modQ p lv i) n k) (fun k hk=>rgMul1_den k (modQ p lv k) n lv (modN p lv sp) sp ga gb hk hM h32 (by have:=hm k;omega) (by have:=hm k;omega) (fun i j=>by have:=ha i j;have:=hm i;omega) (fun i j=>by have:=hb i j;have:=hm i;omega))) ?_
 refine go ?_
 refine fin ?_
 exact cv
theorem rgMulInt_den (p:PD) (n lv:Nat) (sp:Bool) (h:Lv p n lv) (m:Int) (h64 : -9223372036854775808≤m∧m≤9223372036854775807) (ga:Nat→Nat→Nat) (ha:Vg p lv ga):Den Tryz.prog 76 [.agg (parL true p),.agg (elL true lv sp (modN p lv sp) n ga),.val (.int .i64 m)] (.tup [.agg (elL false lv sp (modN p lv sp) n (fun i j=>(ga i j*resI m (modQ p lv i)) % modQ p lv i)),.val (.int .i64 0)]):=by
 refine den_intro (fn:=Tryz.f76) rfl rfl rfl rfl rfl ?_
 have h32:=h.n32
 have l2:=h.vp.len2
 have hm:=modQ_in h.vp h.sp h.l2
 have hM:modN p lv sp≤1001:=by have:=h.l2;unfold modN;split<;>omega
 refine go ?_
 refine r_call (rgCheck_den p h.vp (lv:Int) sp (modN p lv sp) (fun _=>n) ga (fun _=>by omega) (by omega)) ?_
 rw [elOk_valid (sp:=sp) h ha]
 refine go ?_
 refine r_call (rgeach2_den p n lv sp h.n h32 h.l1 h.l2 (by omega) (fun k=>by have:=hm k;omega) [.val (.int .i64 m)] (elL true lv sp (modN p lv sp) n ga) (fun i j=>(ga i j*resI m (modQ p lv i)) % modQ p lv i) (fun k hk=>rgMulInt1_den k (modQ p lv k) n lv (modN p lv sp) sp m ga hk hM h32 (by have:=hm k;omega) (by have:=hm k;omega) (fun i j=>by have:=ha i j;have:=hm i;omega) h64 (resI m (modQ p lv k)) (tmod2 (by have:=hm k;omega)) (resI_lt (by have:=hm k;omega)))) ?_
 refine go ?_
 refine fin ?_
 exact cv

theorem r13Plain_den (p:PD) (ex:Nat) (hb:∀ i,i≤ex→p.prime ^ i≤2147483647) (hx:ex≤1000000):Den Tryz.prog 55 [.agg (parL true p),.val (.int .i64 (ex:Int))] (.val (.int .i64 ((p.prime ^ ex:Nat):Int))):=by
 refine den_intro (fn:=Tryz.f55) rfl rfl rfl rfl rfl ?_
 refine go ?_
 obtain ⟨pw,h0,hs,he,hbw⟩:∃ pw:Nat→Nat,pw 0=1∧(∀ j,pw (j+1)=pw j*p.prime)∧pw ex=p.prime ^ ex∧∀ i,i≤ex→pw i≤2147483647:=⟨fun j=>p.prime ^ j,rfl,fun j=>Nat.pow_succ ..,rfl,hb⟩
 rw [← he]
 refine c_up ex (fun j=>[(6,.val (.int .i64 (j:Nat))),(5,.val (.int .i64 ((pw j:Nat):Int)))]) (fun _=>[]) (fun j hj=>?_)
 refine go ?_
 refine c_if (fun h3=>?_) (fun h3=>?_)
 ·have hq:=hbw (j+1) (by omega)
  rw [hs j] at hq
  have hp1:=hb 1 (by omega)
  rw [Nat.pow_one] at hp1
  refine go ?_
  exact ⟨h3,sub⟩
 ·obtain rfl:j=ex:=by omega
  refine go ?_
  refine fin ?_
  exact cv

theorem st_Lv {p:PD} {lv ex:Int} (h:St p lv ex) {n l:Nat} (hn:p.n=(n:Int)) (hl:lv=(l:Int)):Lv p n l:=⟨good_VP h.good,good_special h.good,hn,by have:=h.l1;omega,by have:=h.l2;omega⟩
theorem good_n {p:PD} (h:Good p.par):∃ n:Nat,p.n=(n:Int)∧4≤n∧n≤32:=by
 rcases h.1 with q | q | q | q
 ·exact ⟨4,q,by omega,by omega⟩
 ·exact ⟨8,q,by omega,by omega⟩
 ·exact ⟨16,q,by omega,by omega⟩
 ·exact ⟨32,q,by omega,by omega⟩
theorem good_pow {p:PD} (h:Good p.par) {ex:Nat} (he:(ex:Int)≤p.power):(∀ i,i≤ex→p.prime ^ i≤2147483647)∧3≤p.prime∧1≤p.prime ^ ex:=by
 have h7:=h.2.2.2.2.2.2.1
 obtain ⟨a,b,c,d,e,f⟩:=h7
 simp only [PD.par] at a f
 refine ⟨fun i hi=>Nat.le_trans (Nat.pow_le_pow_right (by omega) (by omega)) f,a,Nat.pow_pos (by omega)⟩
theorem r13Of_den (p:PD) (n lv:Nat) (sp:Bool) (h:Lv p n lv) (r0:D) [OldD r0] (hr0:r0.one=true) (x:Nat→Int) (hx:∀ j, -9223372036854775808≤x j∧x j≤9223372036854775807):Den Tryz.prog 51 [.agg (parL true p),.agg [.val (.int .i64 (lv:Int)),.val (.bool sp),r0],intsD true n x] (.agg (elL false lv sp (modN p lv sp) n (fun k j=>resI (x j) (modQ p lv k)))):=by
 refine den_intro (fn:=Tryz.f51) rfl rfl rfl rfl rfl ?_
 refine go ?_
 refine r_call (r09FromInts_den p n lv sp h x hx) ?_
 refine go ?_
 refine fin ?_
 exact cv

noncomputable abbrev zerosD (n:Nat):D:=.fz true n Tryz.t2.size (fun _=>valL (Value.int .i64 0).cells.toList)
instance (n:Nat):OldD (zerosD n):=(inferInstance:OldD (intsD true n (fun _=>0)))
theorem resI_0 (q:Nat):resI 0 q=0:=by unfold resI;simp
theorem resI_f (q:Nat→Nat):(fun k (j:Nat)=>resI ((fun _:Nat=>(0:Int)) j) (q k))=fun _ _=>0:=by funext k j;exact resI_0 _
theorem rgZero_den (p:PD) (n lv:Nat) (sp:Bool) (h:Lv p n lv):Den Tryz.prog 75 [.agg (parL true p),.val (.int .i64 (lv:Int)),.val (.bool sp),zerosD n] (.tup [.agg (elL false lv sp (modN p lv sp) n (fun _ _=>0)),.val (.int .i64 0)]):=by
 have:=rgFromInts_den p n lv sp h (fun _=>0) (fun _=>by omega)
 rw [resI_f] at this
 exact this
theorem r13Zero_den (p:PD) (n lv:Nat) (sp:Bool) (h:Lv p n lv) (r0:D) [OldD r0] (hr0:r0.one=true):Den Tryz.prog 51 [.agg (parL true p),.agg [.val (.int .i64 (lv:Int)),.val (.bool sp),r0],zerosD n] (.agg (elL false lv sp (modN p lv sp) n (fun _ _=>0))):=by
 have:=r13Of_den p n lv sp h r0 hr0 (fun _=>0) (fun _=>by omega)
 rw [resI_f] at this
 exact this
theorem good_ex {b ex:Nat} (h:∀ i,i≤ex→b ^ i≤2147483647) (hb:3≤b):ex≤1000000:=by
 by_cases q:ex≤1000000
 ·exact q
 ·have h1:=h 32 (by omega)
  have h2:=Nat.pow_le_pow_left hb 32
  omega

instance fi224:FI Tryz.prog 224 Tryz.f224:=⟨Tryz.func224,Tryz.call224⟩
instance fi214:FI Tryz.prog 214 Tryz.f214:=⟨Tryz.func214,Tryz.call214⟩
instance fi197:FI Tryz.prog 197 Tryz.f197:=⟨Tryz.func197,Tryz.call197⟩
instance fi198:FI Tryz.prog 198 Tryz.f198:=⟨Tryz.func198,Tryz.call198⟩
instance fi174:FI Tryz.prog 174 Tryz.f174:=⟨Tryz.func174,Tryz.call174⟩
instance fi199:FI Tryz.prog 199 Tryz.f199:=⟨Tryz.func199,Tryz.call199⟩
instance fi215:FI Tryz.prog 215 Tryz.f215:=⟨Tryz.func215,Tryz.call215⟩
instance ti212:TI Tryz.prog 212 Tryz.t212 (.pointer 217):=⟨by kernel_rfl,by kernel_rfl⟩
instance ti217:TI Tryz.prog 217 Tryz.t217 Tryz.t216.desc:=⟨by kernel_rfl,by kernel_rfl⟩
instance sz212:SZ Tryz.prog 212 1:=SZ.of ti212 rfl
instance zr212:ZR Tryz.prog 212 [.pointer none]:=ZR.of ti212 rfl rfl rfl
instance zr217:ZR Tryz.prog 217 [.pointer none,.int .i64 0,.int .i64 0]:=ZR.of ti217 rfl rfl rfl
instance bt217:BT Tryz.prog 217 [(0,1),(1,1),(2,1)] [.pointer none,.int .i64 0,.int .i64 0]:=BT.of (ns:=[1,1,1]) ti217 rfl zr217.zr ⟨sz147.sz,⟨sz3.sz,⟨sz3.sz,trivial⟩⟩⟩ (by intro j;repeat (first | rfl | cases j with | zero=>rfl | succ j=>?_))
instance ft217_0:FT Tryz.prog 217 0 0:=FT.of ti217 rfl ti147 rfl rfl
instance ft217_2:FT Tryz.prog 217 2 2:=FT.of ti217 rfl ti3 rfl rfl
theorem gdapart_den (a b:Nat) (ha:a≤4294967295) (h2:2≤b) (hb:b≤2147483647) (h:invB (a % b) b=true):Den Tryz.prog 224 [.val (.int .u32 (a:Int)),.val (.int .u32 (b:Int))] (.val (.bool true)):=by
 refine den_intro (fn:=Tryz.f224) rfl rfl rfl rfl rfl ?_
 have hm:=Nat.mod_lt a (show 0<b by omega)
 have hi:=mInverse_den (a % b) b h2 hb hm
 rw [h] at hi
 refine go ?_
 refine r_call hi ?_
 refine go ?_
 refine fin ?_
 exact cv
theorem gdmade_den (p:PD) (n:Nat) (hp:PFit p) (hg:Good p.par) (hn:p.n=(n:Int)):Den Tryz.prog 214 [.fptr true (parL true p),.val (.int .i64 31)] (.tup [.fptr false [.fptr true (parL true p),.val (.int .i64 31),.val (.int .i64 1)],.val (.bool true)]):=by
 refine den_intro (fn:=Tryz.f214) rfl rfl rfl rfl rfl ?_
 have hL:Lv p n 1:=⟨good_VP hg,good_special hg,hn,by omega,hg.2.1⟩
 have h32:=hL.n32
 have hN:NatIs p.n n:=hn
 have hM:NatIs (max 0 (min p.n 32)) n:=by show _=_;omega
 have hv:p.chain.length≤24:=hg.2.2.1
 have hch:=hp.chain
 refine go ?_
 refine c_no ?_
 refine go ?_
 refine r_call (rgZero_den p n 1 false hL) ?_
 refine go ?_
 refine c_up p.chain.length (fun i=>[(39,.val (.int .i64 (i:Nat)))]) (fun i=>[]) (fun i hi=>?_)
 refine go ?_
 refine c_if (fun h3=>?_) (fun h3=>?_)
 ·have hci:=hch i h3
  refine go ?_
  refine c_up i (fun j=>[(51,.val (.int .i64 (j:Nat)))]) (fun j=>[]) (fun j hj=>?_)
  refine go ?_
  refine c_if (fun h4=>?_) (fun h4=>?_)
  ·have h5:=hL.vp.mods j (by omega)
   simp only [modOk,Bool.and_eq_true,decide_eq_true_eq] at h5
   refine go ?_
   refine r_call (gdapart_den (p.chain.getD i 0) (p.chain.getD (0+j) 0) hci (by rw [Nat.zero_add];omega) (by rw [Nat.zero_add];omega) (by rw [Nat.zero_add];exact good_apart hg (by omega) h3)) ?_
   refine go ?_
   refine c_no ?_
   refine go ?_
   refine ⟨by omega,?_⟩
   exact sub
  ·refine go ?_
   refine ⟨h3,?_⟩
   exact sub
 ·refine go ?_
  refine fin_frz 1069 ?_
  refine fin ?_
  exact cv
theorem gdlevel_den (p:PD) (lv:Int):Den Tryz.prog 198 [.fptr true [.fptr true (parL true p),.val (.int .i64 31),.val (.int .i64 1)],.val (.int .i64 lv)] (.val (.bool (decide (1≤lv) && decide (lv≤(p.chain.length:Int))))):=by
 refine den_intro (fn:=Tryz.f198) rfl rfl rfl rfl rfl ?_
 refine go ?_
 refine fin ?_
 exact cv
theorem gdasked_den (p:PD) (n:Nat) (hp:PFit p) (hg:Good p.par) (hn:p.n=(n:Int)) (lv:Int):Den Tryz.prog 197 [.fptr true (parL true p),.val (.int .i64 31),.val (.int .i64 lv),.val (.func (.func 198) #[] #[])] (.tup [.fptr false [.fptr true (parL true p),.val (.int .i64 31),.val (.int .i64 1)],.val (.bool (decide (1≤lv) && decide (lv≤(p.chain.length:Int))))]):=by
 refine den_intro (fn:=Tryz.f197) rfl rfl rfl rfl rfl ?_
 refine go ?_
 refine r_callO (gdmade_den p n hp hg hn) ?_
 refine go ?_
 refine r_callO (gdlevel_den p lv) ?_
 refine go ?_
 refine fin ?_
 exact cv

abbrev cutL (p:PD):List D:=[.fptr true (parL true p),.val (.int .i64 31),.val (.int .i64 1)]
theorem SlotCv.clo {H:Nat→Option Box} {fn:FuncId} {l l':List D} (h:SlotCvL H l l'):SlotCv H (.clo fn l) (.clo fn l'):=fun S E a w Z i v hF hv=>by
 cases hv with | clo _ _ vs _ hl hr=>exact .clo _ fn vs _ (hl.trans h.len) (fun j hj=>h.at j S E a w Z i _ hF (hr j (by rw [h.len];exact hj)))
section
variable {P:Program} {fn:Func} {r:D} {hs rs:Hs} {env:List (Nat × D)} {box:List (Nat × Option Box)}
theorem fin_slot (t:Nat) (d:D) {d0:D} (hc:SlotCv (hk box) d0 d) (h:FinS P fn r hs rs (lk ((t,d)::env)) (hk box)) (ht:autoParam (Lk env t d0) aq13._auto_1):FinS P fn r hs rs (lk env) (hk box):=h.sub (sub_conv t d ht.eq hc)
end
theorem gddigits_den (p:PD) (x:Int):DenH Tryz.prog 199 [.fptr true (cutL p),.val (.int .i64 x)] [] (.clo 215 [.fptr false [.fptr true (cutL p)],.eptr 1003 0 0 0]) [] [(1003,.lit 2 [.val (.int .i64 x)])]:=by
 refine den_intro (fn:=Tryz.f199) rfl rfl rfl rfl rfl ?_
 refine go ?_
 refine fin_frz 1002 ?_
 refine fin_slot 4 (.clo 215 [.fptr false [.fptr true (cutL p)],.eptr 1003 0 0 0]) (.clo (.cons (.ice (ns:=[1002]) (CvV.icel (t:=212) (n:=1) rfl rfl rfl rfl)) (.cons (.refl _) .nil))) ?_
 exact finN

open Go.RowKit Go.Shelf
attribute [local go_sem] Oper.semAt_some
set_option maxRecDepth 100000 in
set_option maxHeartbeats 2000000 in
theorem gddigits1_itr (p:PD) (x:Int) (hx1 : -1073741824≤x) (hx2:x≤1073741824):ItrDM Tryz.prog 215 (.fptr true [.fptr true (cutL p)]) 2 (fun z:Int=>.int .i64 z) x [[.val (.int .i64 0),.val (.int .i64 x)]]:=fun l C0 Z0 W0 v0 bx J Jx hJ hJx hJ0 hv hY=>by
 obtain ⟨b1,o1,rfl,h1⟩:=rep_fptr hv
 obtain ⟨u1,c1,z1,r1⟩:=h1 0 (by simp)
 obtain ⟨bc,oc,rfl,hc⟩:=rep_fptr r1
 obtain ⟨u2,c2,z2,r2⟩:=hc 1 (by simp)
 obtain ⟨u3,c3,z3,r3⟩:=hc 2 (by simp)
 obtain rfl:=rep_val r2
 obtain rfl:=rep_val r3
 simp only [Nat.add_zero] at c1 c2 c3
 replace z1:=z1.2
 replace z2:=z2.2
 have HJ:=Lib.hid hJ
 have round:∀ C Z W (wm:KZ Z0 W0 W) (hz:∀ b,Z0 b→Z b),J 0 x C Z W→W0.heap.size≤W.heap.size→YieldAt (Fw none) 0 Tryz.prog l #[.int .i64 0,.int .i64 x] W fun e W'=>
   (e = .returned (.bool true)∧∃ C' Z',J 1 x C' Z' W'∧KZ Z0 W0 W'∧(∀ b,Z0 b→Z' b)∧W0.heap.size≤W'.heap.size)∨(e = .returned (.bool false)∧∃ k' C' Z',Jx k' C' Z' W'):=fun C Z W wm hz hJk hsz=>by
  refine (hY 0 x C Z W _ [.int .i64 0,.int .i64 x] (fun _=>False) rfl hJk (fun _ h=>h.elim) ⟨rfl,fun j hj=>?_⟩ hsz).mono ?_
  ·match j,hj with
   | 0,_=>exact .val _ _
   | 1,_=>exact .val _ _
  ·rintro e W' (⟨rfl,C',Z',q1,q2,q3,q4⟩ | q)
   ·exact .inl ⟨rfl,C',Z',q1,fun b hb=>(q2.block b ((hJ.lt hJk).2 b (hz b hb)) (fun hc=>((hJ.lt hJk).1 b hc).2 (hz b hb))).trans (wm b hb),fun b hb=>q4 b (.inl (hz b hb)),Nat.le_trans hsz q2.size⟩
   ·exact .inr q
 have HR:=Lib.hid round
 clear hJ hY round hv h1 hc r1 r2 r3
 refine callsIn_of_wp Tryz.func215 rfl trivial ?_ rfl
 simp only [Tryz.ntmps215,List.size_toArray,List.length_cons,List.length_nil,Nat.reduceAdd,Nat.reduceSub,Array.replicate_succ,Array.replicate_zero,List.push_toArray,List.append_toArray,List.nil_append,List.cons_append]
 gi_wp2
 gi_loopw [17] (fun i wr=>∃ (k:Nat) (y:Int) (C Z:Nat→Prop),k≤1∧(k=0→y=x)∧i = .int .i64 k∧J k y C Z wr∧KZ Z0 W0 wr∧(∀ b,Z0 b→Z b)∧W0.heap.size≤wr.heap.size)
  (fun i _=>1 - (intOf i).toNat)
 case atStart=>exact ⟨0,x,C0,Z0,Nat.zero_le _,fun _=>rfl,rfl,HJ.out.stable hJ0 ⟨rfl,rfl,rfl,Nat.le_refl _⟩ (fun _ _ _=>rfl),fun _ _=>rfl,fun _ h=>h,Nat.le_refl _⟩
 case round=>
  obtain ⟨k,y,C,Z,hk,hy0,rfl,hJs,hnx,hzz,hsz⟩:=hrel
  by_cases hlt:k<1
  ·obtain rfl:k=0:=by omega
   obtain rfl:=hy0 rfl
   obtain ⟨fn,tmps,assign,body,hy,hR⟩:=HR.out C Z wr hnx hzz hJs hsz
   have d1:=hnx.cell c1 z1
   have d2:=hnx.cell c2 z2
   have d3:=hnx.cell c3 z2
   have dx:wr.cell? ⟨bx,0,none⟩=some (.int .i64 y):=(HJ.out.peek hJs).1.cell 0 (by simp)
   gi_wp2
   refine ⟨rfl,hR.mono ?_⟩
   rintro e W3 (⟨rfl,C',Z',hJ3,hk3,hz3,hs3⟩ | ⟨rfl,hJx3⟩)
   ·clear d1 d2 d3 dx
    have d1:=hk3.cell c1 z1
    have d2:=hk3.cell c2 z2
    have d3:=hk3.cell c3 z2
    have dx:W3.cell? ⟨bx,0,none⟩=some (.int .i64 y):=(HJ.out.peek hJ3).1.cell 0 (by simp)
    have fx:W3.frozen? ⟨bx,0,none⟩=false:=by
     have:=(HJ.out.peek hJ3).1
     unfold Bk at this
     simp [World.frozen?,this]
    gi_wp2
    gi_region
    gi_wp2
    go_roundw
    case rel=>
     have hb:=(HJ.out.peek hJ3).1
     have hX:∀ b,b≠bx→(W3.setCell ⟨bx,0,none⟩ (.int .i64 0)).drew.heap[b]? = W3.heap[b]?:=fun b hb=>by
      show (W3.setCell ⟨bx,0,none⟩ (.int .i64 0)).heap[b]? = _
      simp [World.setCell,Array.getElem?_modify,Ne.symm hb]
     have hsz3:(W3.setCell ⟨bx,0,none⟩ (.int .i64 0)).drew.heap.size=W3.heap.size:=by show (W3.setCell ⟨bx,0,none⟩ (.int .i64 0)).heap.size=_;simp
     refine ⟨1,0,C',Z',Nat.le_refl _,fun h=>absurd h (by omega),rfl,HJ.out.poke (W':=(W3.setCell ⟨bx,0,none⟩ (.int .i64 0)).drew) hJ3 ⟨rfl,rfl,rfl,hsz3⟩ hX ?_,fun b hzb=>(hX b (fun e=>?_)).trans (hk3 b hzb),hz3,by rw [hsz3];exact hs3⟩
     ·unfold Bk at hb ⊢
      show (W3.setCell ⟨bx,0,none⟩ (.int .i64 0)).heap[bx]? = _
      simp [World.setCell,Array.getElem?_modify,hb]
     ·subst e
      exact (HJ.out.peek hJ3).2.1 (hz3 _ hzb)
    case measure=>simp [intOf]
   ·gi_wp2
    refine bodyPost_ret (results_none rfl _ _ _) rfl ?_
    exact ⟨⟨_,rfl⟩,.inr hJx3⟩
  ·obtain rfl:k=1:=by omega
   gi_wp2
   go_end0
   exact ⟨⟨_,rfl⟩,.inl ⟨y,C,Z,hJs⟩⟩

abbrev ciV (o:Bool) (lv ex k n:Nat) (G:Nat→Nat→Nat→Nat):List D:=[.val (.int .i64 (lv:Int)),.val (.int .i64 (ex:Int)),.fz o k 3 (fun i=>elL o lv false lv n (G i))]
structure Cv (p:PD) (n lv ex:Nat):Prop where
 fit:PFit p
 st:St p (lv:Int) (ex:Int)
 n:p.n=(n:Int)
theorem Cv.lv {p:PD} {n lv ex:Nat} (h:Cv p n lv ex):Lv p n lv:=st_Lv h.st h.n rfl
def Vc (p:PD) (lv:Nat) (G:Nat→Nat→Nat→Nat):Prop:=∀ i,Vg p lv (G i)
theorem ciCheckV_den (p:PD) (n lv ex k:Nat) (h:Cv p n lv ex) (hk:k=2∨k=3) (G:Nat→Nat→Nat→Nat) (hG:Vc p lv G):Den Tryz.prog 59 [.agg (parL true p),.agg (ciV true lv ex k n G)] (.val (.int .i64 0)):=by
 have h32:=h.lv.n32
 have l2:=h.lv.l2
 have l24:=h.lv.vp.len2
 have:=ciCheck_den p h.fit ⟨lv,ex,k,fun i=>⟨lv,false,lv,fun _=>n,G i⟩⟩ (by show k≤_;omega) (fun _ _=>by show n≤_;omega) (fun _=>by show lv≤_;omega)
 rw [ciOk_4 (stB_iff.2 h.st) hk (fun i _=>?_)] at this
 ·exact this
 ·unfold partOk eOk
  rw [show elOk p (lv:Int) false lv (fun _=>n) (G i)=true from elOk_valid h.lv (hG i)]
  simp
abbrev zeroEl:List D:=[.val (.int .i64 0),.val (.bool false),.val (.slice none 0 0)]

def mulIntV (p:PD) (lv:Nat) (m:Int) (A:Nat→Nat→Nat) (r j:Nat):Nat:=(A r j*resI m (modQ p lv r)) % modQ p lv r
def addV (p:PD) (lv:Nat) (A B:Nat→Nat→Nat) (r j:Nat):Nat:=(A r j+B r j) % modQ p lv r
def subV (p:PD) (lv:Nat) (A B:Nat→Nat→Nat) (r j:Nat):Nat:=(A r j+modQ p lv r - B r j) % modQ p lv r
def intV (p:PD) (lv:Nat) (x:Nat→Int) (r j:Nat):Nat:=resI (x j) (modQ p lv r)
section
variable {p:PD} {n lv:Nat}
theorem Lv.q0 (h:Lv p n lv) (r:Nat):0<modQ p lv r:=by have:=modQ_in h.vp h.sp h.l2 r;omega
theorem vg_mulInt (h:Lv p n lv) (m:Int) (A:Nat→Nat→Nat):Vg p lv (mulIntV p lv m A):=fun r j=>Nat.mod_lt _ (h.q0 r)
theorem vg_add (h:Lv p n lv) (A B:Nat→Nat→Nat):Vg p lv (addV p lv A B):=fun r j=>Nat.mod_lt _ (h.q0 r)
theorem vg_sub (h:Lv p n lv) (A B:Nat→Nat→Nat):Vg p lv (subV p lv A B):=fun r j=>Nat.mod_lt _ (h.q0 r)
theorem vg_int (h:Lv p n lv) (x:Nat→Int):Vg p lv (intV p lv x):=fun r j=>resI_lt (h.q0 r)
end
end Go.Proofs.YtmjildbdkecolaaGreat
