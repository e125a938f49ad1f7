/- Parameters by data: what the elder walks say of Check and Default.
The program's ring, by data: alike, products, multiples of valid elements.
The program's ring, by data: differences, products, multiples.
Which levels, exponents, elements and ciphertexts are valid; what is too large: by data.
The reference's ring, by data: which elements are valid.
Equal lists, elements, ciphertexts: by data.
The reference's ring, by data: Check.
The reference's ring, by data: elements of integers.
The primes of good parameters are primes, and prime to one another.
The plain modulus: by data.
Which ciphertexts are valid: by data.
Ciphertexts without a key: by data.
Ciphertexts without a key: by data.
Digits of elements, by data: which parameters have them.
Arithmetic with ciphertexts, by data: valid ones, parts made one by one.
The digits of a number, by data: the iterator's making.
The digits of a number: what the iterator yields.
The digits of an element, by data.
Arithmetic with ciphertexts, by data: multiples, plain polynomials, products.
Arithmetic with ciphertexts, by data: sums and differences.
Arithmetic with ciphertexts, by data: combine, Add, Sub.
Laws of the rings: plain. No walk.
The reference's ring, by data: elements of integers, rows of the call's own.
Rescaling, by data: the parts that all its functions share.
Rescaling, by data: the plain modulus's exponent. -/
import Derived.Test.YtdcenblblimkfaaGreatPk22
import Derived.Test.YtdcenblblimkfaaGreatPk37
import Derived.Test.YtdcenblblimkfaaGreatPk34
import Derived.Test.YtdcenblblimkfaaGreatPk14
import Derived.Test.YtdcenblblimkfaaGreatPk10
import Derived.Test.YtdcenblblimkfaaGreatPk20
import Derived.Test.YtdcenblblimkfaaGreatPk11
import Derived.Test.YtdcenblblimkfaaGreatPk23
import Derived.Test.YtdcenblblimkfaaGreatPk21
import Derived.RangeFuncBox
import Derived.RangeFuncNested
import Derived.RangeFuncBound
import Derived.RangeFuncCalls
import Derived.RangeFuncLeaves
import Derived.RangeFuncWrites
import Derived.Shelf.Abstract
import Derived.Shelf.RegionOpen
import Derived.WalkKit
import Derived.OwnWalkIn
import Derived.TacticsInMore
import Derived.LoopNIn
import Derived.LoopIn
import Derived.Sort.QuietIn
import Derived.Lib.Hide
set_option linter.unusedSimpArgs false
set_option linter.unusedVariables false
set_option linter.unnecessarySimpa false
set_option linter.unusedSectionVars false
namespace Go.Proofs.YtdcenblblimkfaaGreat
open Go.RowKit
set_option maxRecDepth 20000
set_option maxHeartbeats 4000000
def PD.par (p:PD):Par:=⟨p.n,p.prime,p.power,p.chain,p.special,p.weight,p.err⟩
structure PFit (p:PD):Prop where
 n1 : -9223372036854775808≤p.n
 n2:p.n≤9223372036854775807
 prime:p.prime≤4294967295
 power1 : -9223372036854775808≤p.power
 power2:p.power≤9223372036854775807
 chain:∀ i,i<p.chain.length→p.chain.getD i 0≤4294967295
 special:p.special≤4294967295
 weight1 : -9223372036854775808≤p.weight
 weight2:p.weight≤9223372036854775807
 err:p.err≤4294967295
theorem rep_agg {Z:Zn} {w:World} {i:Nm} {v:Value} {l:List D} (h:Rep Z w i v (.agg l)):∃ vs:List Value,v = .agg vs.toArray∧vs.length=l.length∧∀ j,j<l.length→Rep Z w i (vs.getD j undef) (dl l j):=by
 cases h with | agg _ vs _ hl h1 hr=>exact ⟨vs,rfl,hl,hr⟩
theorem rep_u32s {Z:Zn} {w:World} {i:Nm} {v:Value} {l:List Nat} (h:Rep Z w i v (u32sD true l)):∃ ao cc,v = .slice ao l.length cc∧l.length≤cc∧cc≤9223372036854775807∧Rd w ao l:=by
 unfold u32sD at h
 cases h with | fz _ _ ao _ cap _ _ vs h1 h2 hl ha hr=>
 refine ⟨ao,cap,rfl,h1,h2,fun k hk=>?_⟩
 obtain ⟨b,p,e,_,_,_⟩:=ha k 0 hk (by omega)
 refine ⟨b,p,e,fun j hj=>?_⟩
 obtain ⟨b',p',e',_,hc,_⟩:=ha j 0 hj (by omega)
 rw [e] at e';cases e'
 have:=rep_val (hr j 0 hj (by omega))
 rw [this] at hc
 simpa using hc
theorem rep_par {Z:Zn} {w:World} {i:Nm} {v:Value} {p:PD} (hp:PFit p) (h:Rep Z w i v (.agg (parL true p))):∃ ca cc,v = .agg (p.par.cells ca cc)∧ParIn w p.par ca cc:=by
 obtain ⟨vs,rfl,hl,hr⟩:=rep_agg h
 match vs,hl with
 | [v0,v1,v2,v3,v4,v5,v6],_=>
  have r0:=rep_val (hr 0 (by simp [parL]))
  have r1:=rep_val (hr 1 (by simp [parL]))
  have r2:=rep_val (hr 2 (by simp [parL]))
  obtain ⟨ca,cc,r3,h1,h2,h3⟩:=rep_u32s (hr 3 (by simp [parL]))
  have r4:=rep_val (hr 4 (by simp [parL]))
  have r5:=rep_val (hr 5 (by simp [parL]))
  have r6:=rep_val (hr 6 (by simp [parL]))
  change v0=_ at r0
  change v1=_ at r1
  change v2=_ at r2
  change v3=_ at r3
  change v4=_ at r4
  change v5=_ at r5
  change v6=_ at r6
  subst r0 r1 r2 r3 r4 r5 r6
  exact ⟨ca,cc,rfl,{ rd:=h3,n1:=hp.n1,n2:=hp.n2,prime:=hp.prime,power1:=hp.power1,power2:=hp.power2,len:=by show p.chain.length≤_;omega,room:=h1,room2:=h2,chain:=hp.chain,special:=hp.special,weight1:=hp.weight1,weight2:=hp.weight2,err:=hp.err }⟩
theorem den_elder1 {P:Program} {f:FuncId} {d:D} {u:Value} (h:∀ Z w i v,Rep Z w i v d→Calls P f #[v] w fun e w'=>e = .returned u∧Below w.heap.size w w'):Den P f [d] (.val u):=fun Zc w i args hZ hi hH ha=>by
 obtain ⟨hl,hr⟩:=ha
 match args,hl with
 | [v],_=>
  refine (h _ w i v (hr 0 (by simp))).mono fun e w' ⟨he,hb⟩=>?_
  have hi':∀ k,i k=none:=fun k=>hi k (by simp [Hs.keys])
  exact ⟨u,i,fun _=>False,he,Kept.of_below hb _,fun b hb=>hb.elim,fun k hk=>by simp [Hs.keys] at hk,fun k _ _=>hi' k,fun k B b hm=>by simp at hm,fun k B hm=>by simp at hm,⟨fun k B hm=>by simp at hm,fun k k' B B' b hm=>by simp at hm⟩,.val _ _⟩
open Classical in
noncomputable def goodB (p:PD):Bool:=tr (Good p.par)
theorem goodB_iff {p:PD}:goodB p=true↔Good p.par:=by
 unfold goodB
 by_cases h:Good p.par
 ·rw [tr_pos h];simp [h]
 ·rw [tr_neg h];simp [h]
theorem pcheck_den (p:PD) (hp:PFit p):Den Tryz.prog 155 [.agg (parL true p)] (.val (.int .i64 (errI (goodB p)))):=den_elder1 fun Z w i v hv=>by
 obtain ⟨ca,cc,rfl,hin⟩:=rep_par hp hv
 exact pcheck_walk p.par ca cc w hin
theorem r12check_den (p:PD) (hp:PFit p):Den Tryz.prog 41 [.agg (parL true p)] (.val (.int .i64 (errI (goodB p)))):=den_elder1 fun Z w i v hv=>by
 obtain ⟨ca,cc,rfl,hin⟩:=rep_par hp hv
 exact r12check_walk p.par ca cc w hin
theorem goodQ_mod {step q:Nat} (he:step % 2=0) (h:GoodQ step q):modOk q=true:=by
 obtain ⟨h1,h2,h3,_⟩:=h
 have h4:q % 2=1:=by
  have:=Nat.mod_mod_of_dvd q (Nat.dvd_of_mod_eq_zero he)
  rw [h3] at this
  omega
 unfold modOk
 rw [decide_eq_true h4,decide_eq_true h2,decide_eq_true (show 3≤q by omega)];rfl
theorem hasI_no {p:Nat→Bool} {n:Nat} (h:∀ e,e<n→p e=false):hasI p n=false:=by
 cases q:hasI p n with
 | false=>rfl
 | true=>obtain ⟨e,h1,h2⟩:=hasI_spec.1 q;rw [h e h1] at h2;cases h2
theorem good_VP {p:PD} (h:Good p.par):VP p:=by
 obtain ⟨h1,h2,h3,_,_,_,_,h8,h9,h10⟩:=h
 have he:(2*p.par.n.toNat*plainV p.par.n.toNat p.par.prime p.par.power) % 2=0:=by rw [Nat.mul_assoc];exact Nat.mul_mod_right _ _
 exact { n:=h1,len1:=h2,len2:=h3,mods:=fun j hj=>goodQ_mod he (h9 j hj).1,apart:=fun j hj=>hasI_no fun e he=>decide_eq_false fun q=>h10 e j he hj q.symm,special:=.inr ⟨goodQ_mod he h8,hasI_no fun e he=>decide_eq_false fun q=>by have:=(h9 e he).2;simp only [PD.par] at this;omega⟩ }
theorem r12default_den (n prime lv t q0:Nat) (power:Int) (qs:List Nat) (hn:n=4∨n=8∨n=16∨n=32) (hp:prime≤4294967295) (hw1 : -9223372036854775808≤power) (hw2:power≤9223372036854775807) (hl1:1≤lv) (hl2:lv≤24)
  (hT:plainV n prime power=t) (ht:3≤t) (ht2:t≤2147483647) (hto:t % 2=1) (hst:2*n*t≤2147483647) (hch:chainOf n t (lv+1)=q0::qs) (hqs:qs.length=lv) :
  Den Tryz.prog 159 [.val (.int .i64 (n:Int)),.val (.int .u32 (prime:Int)),.val (.int .i64 power),.val (.int .i64 (lv:Int))] (.tup [.agg (parL false ⟨n,prime,power,qs,q0,4,2⟩),.val (.int .i64 0)]):=fun Zc w i args hZ hi hH ha=>by
 obtain ⟨hl,hr⟩:=ha
 match args,hl with
 | [v0,v1,v2,v3],_=>
  have r0:=rep_val (hr 0 (by simp))
  have r1:=rep_val (hr 1 (by simp))
  have r2:=rep_val (hr 2 (by simp))
  have r3:=rep_val (hr 3 (by simp))
  change v0=_ at r0
  change v1=_ at r1
  change v2=_ at r2
  change v3=_ at r3
  subst r0 r1 r2 r3
  refine (r12default_own n prime lv t q0 power qs w hn hp hw1 hw2 hl1 hl2 hT ht ht2 hto hst hch hqs).mono fun e w' ⟨ca,cc,he,hin,hown,hb⟩=>?_
  have hi':∀ k,i k=none:=fun k=>hi k (by simp [Hs.keys])
  obtain ⟨b,o,rfl,hcell⟩:=hin.rd 0 (by show 0<qs.length;omega)
  have hge:w.heap.size≤b:=by
   by_cases hlt:b<w.heap.size
   ·have hq:=(hown (w'.setCell ⟨b,o,none⟩ (.bool true)) [b] ((Turn.refl w' [b]).setCell (p:=⟨b,o,none⟩) (.inl (by simp)) (.bool true)) (fun x hx=>by simp at hx;omega)).rd 0 (by show 0<qs.length;omega)
    obtain ⟨b',o',e',hc'⟩:=hq
    cases e'
    have h2:=hc' 0 (by show 0<qs.length;omega)
    have h3:=hcell 0 (by show 0<qs.length;omega)
    rw [Nat.add_zero] at h2 h3
    have h4:=World.cell?_setCell_same w' ⟨b,o,none⟩ (.bool true) h3
    rw [h4] at h2;cases h2
   ·omega
  have hlt:b<w'.heap.size:=by
   have h3:=hcell 0 (by show 0<qs.length;omega)
   unfold World.cell? at h3
   by_cases q:b<w'.heap.size
   ·exact q
   ·rw [Array.getElem?_eq_none (by show w'.heap.size≤b;omega)] at h3;cases h3
  refine ⟨_,i,fun x=>x=b,he,Kept.of_below hb _,fun x hx=>by subst hx;exact ⟨hge,hlt⟩,fun k hk=>by simp [Hs.keys] at hk,fun k _ _=>hi' k,fun k B b hm=>by simp at hm,fun k B hm=>by simp at hm,⟨fun k B hm=>by simp at hm,fun k k' B B' b hm=>by simp at hm⟩,?_⟩
  refine .tup i [_,_] _ rfl fun j hj=>?_
  match j,hj with
  | 1,_=>exact .val _ _
  | 0,_=>
   refine .agg i [_,_,_,_,_,_,_] _ rfl (fun j hj=>?_) fun j hj=>?_
   ·match j,hj with
    | 0,_ | 1,_ | 2,_ | 3,_ | 4,_ | 5,_ | 6,_=>rfl
   ·match j,hj with
    | 0,_=>exact .val _ _
    | 1,_=>exact .val _ _
    | 2,_=>exact .val _ _
    | 4,_=>exact .val _ _
    | 5,_=>exact .val _ _
    | 6,_=>exact .val _ _
    | 3,_=>
     refine .fz i false (some ⟨b,o,none⟩) qs.length cc 1 _ (fun e _=>.int .u32 (qs.getD e 0)) hin.room hin.room2 (fun _ _=>rfl) (fun e c he hc=>?_) (fun e c he hc=>?_)
     ·obtain rfl:c=0:=by omega
      exact ⟨b,o,rfl,rfl,by rw [Nat.mul_one,Nat.add_zero];exact hcell e he,rfl⟩
     ·obtain rfl:c=0:=by omega
      exact .val _ _

def Vg (p:PD) (lv:Nat) (g:Nat→Nat→Nat):Prop:=∀ i j,g i j<modQ p lv i
theorem tmod2 {m:Int} {q:Nat} (h:0<q):(m.tmod q+q).tmod q=((resI m q:Nat):Int):=by
 have h1:=Int.tmod_lt_of_pos m (show (0:Int)<q by omega)
 have h2 : -(q:Int)<m.tmod q:=by have:=Int.tmod_lt_of_pos (-m) (show (0:Int)<q by omega);rw [Int.neg_tmod] at this;omega
 have h3:=resI_tmod (x:=m) h
 have h4:=resI_lt (x:=m) h
 rw [Int.tmod_eq_emod_of_nonneg (by omega)]
 by_cases c:m.tmod q<0
 ·rw [if_pos c] at h3
  rw [Int.emod_eq_of_lt (by omega) (by omega),h3]
 ·rw [if_neg c] at h3
  rw [Int.add_emod_right,Int.emod_eq_of_lt (by omega) (by omega),h3]
theorem elOk_valid {p:PD} {n lv:Nat} {sp:Bool} {g:Nat→Nat→Nat} (h:Lv p n lv) (hg:Vg p lv g):elOk p (lv:Int) sp (modN p lv sp) (fun _=>n) g=true:=
 elOk_4 (h.place sp) rfl fun k hk=>by
  unfold rowOk
  rw [decide_eq_true h.n.symm,hasI_no (fun e he=>decide_eq_false (Nat.not_le_of_lt (hg k e)))];rfl
theorem rgalike_den (p:PD) (n lv:Nat) (sp:Bool) (h:Lv p n lv) (ga gb:Nat→Nat→Nat) (ha:Vg p lv ga) (hb:Vg p lv gb):Den Tryz.prog 213 [.agg (parL true p),.agg (elL true lv sp (modN p lv sp) n ga),.agg (elL true lv sp (modN p lv sp) n gb)] (.val (.bool true)):=by
 refine den_intro (fn:=Tryz.f213) rfl rfl rfl rfl rfl ?_
 have h32:=h.n32
 have l1:=h.l2
 have l2:=h.vp.len2
 have hM:modN p lv sp≤1000000:=by unfold modN;split<;>omega
 have e1:=elOk_valid (sp:=sp) h ha
 have e2:=elOk_valid (sp:=sp) h hb
 refine go ?_
 refine r_call (rgCheck_den p h.vp (lv:Int) sp (modN p lv sp) (fun _=>n) ga (fun _=>by omega) hM) ?_
 rw [e1]
 refine go ?_
 refine g_callM (hl:=fun hb=>r_call (rgCheck_den p h.vp (lv:Int) sp (modN p lv sp) (fun _=>n) gb (fun _=>by omega) hM) (run_fin rfl)) (h:=?_)
 rw [e2]
 refine go ?_
 refine fin ?_
 rw [show (decide ((0:Nat)=0) && decide ((0:Nat)=0) && decide (lv=lv) && sp == sp)=true by simp]
 exact cv

theorem rgMul_den (p:PD) (n lv:Nat) (sp:Bool) (h:Lv p n lv) (ga gb:Nat→Nat→Nat) (ha:Vg p lv ga) (hb:Vg p lv gb):Den Tryz.prog 137 [.agg (parL true p),.agg (elL true lv sp (modN p lv sp) n ga),.agg (elL true lv sp (modN p lv sp) n gb)] (.tup [.agg (elL false lv sp (modN p lv sp) n (fun i k=>mulR (ga i) (gb i) (modQ p lv i) n k)),.val (.int .i64 0)]):=by
 refine den_intro (fn:=Tryz.f137) rfl rfl rfl rfl rfl ?_
 have h32:=h.n32
 have l2:=h.vp.len2
 have hm:=modQ_in h.vp h.sp h.l2
 have hM:modN p lv sp≤1001:=by have:=h.l2;unfold modN;split<;>omega
 refine go ?_
 refine r_call (rgalike_den p n lv sp h ga gb ha hb) ?_
 refine go ?_
 refine c_no ?_
 refine go ?_
 refine r_call (rgeach2_den p n lv sp h.n h32 h.l1 h.l2 (by omega) (fun k=>by have:=hm k;omega) (elL true lv sp (modN p lv sp) n ga) (elL true lv sp (modN p lv sp) n gb) (fun i k=>mulR (ga i) (gb i) (modQ p lv i) n k) (fun k hk=>rgMul1_den k (modQ p lv k) n lv (modN p lv sp) sp ga gb hk hM h32 (by have:=hm k;omega) (by have:=hm k;omega) (fun i j=>by have:=ha i j;have:=hm i;omega) (fun i j=>by have:=hb i j;have:=hm i;omega))) ?_
 refine go ?_
 refine fin ?_
 exact cv
theorem rgMulInt_den (p:PD) (n lv:Nat) (sp:Bool) (h:Lv p n lv) (m:Int) (h64 : -9223372036854775808≤m∧m≤9223372036854775807) (ga:Nat→Nat→Nat) (ha:Vg p lv ga):Den Tryz.prog 133 [.agg (parL true p),.agg (elL true lv sp (modN p lv sp) n ga),.val (.int .i64 m)] (.tup [.agg (elL false lv sp (modN p lv sp) n (fun i j=>(ga i j*resI m (modQ p lv i)) % modQ p lv i)),.val (.int .i64 0)]):=by
 refine den_intro (fn:=Tryz.f133) rfl rfl rfl rfl rfl ?_
 have h32:=h.n32
 have l2:=h.vp.len2
 have hm:=modQ_in h.vp h.sp h.l2
 have hM:modN p lv sp≤1001:=by have:=h.l2;unfold modN;split<;>omega
 refine go ?_
 refine r_call (rgCheck_den p h.vp (lv:Int) sp (modN p lv sp) (fun _=>n) ga (fun _=>by omega) (by omega)) ?_
 rw [elOk_valid (sp:=sp) h ha]
 refine go ?_
 refine r_call (rgeach2_den p n lv sp h.n h32 h.l1 h.l2 (by omega) (fun k=>by have:=hm k;omega) [.val (.int .i64 m)] (elL true lv sp (modN p lv sp) n ga) (fun i j=>(ga i j*resI m (modQ p lv i)) % modQ p lv i) (fun k hk=>rgMulInt1_den k (modQ p lv k) n lv (modN p lv sp) sp m ga hk hM h32 (by have:=hm k;omega) (by have:=hm k;omega) (fun i j=>by have:=ha i j;have:=hm i;omega) h64 (resI m (modQ p lv k)) (tmod2 (by have:=hm k;omega)) (resI_lt (by have:=hm k;omega)))) ?_
 refine go ?_
 refine fin ?_
 exact cv

instance fi167:FI Tryz.prog 167 Tryz.f167:=⟨Tryz.func167,Tryz.call167⟩
instance fi284:FI Tryz.prog 284 Tryz.f284:=⟨Tryz.func284,Tryz.call284⟩
instance fi155:FI Tryz.prog 155 Tryz.f155:=⟨Tryz.func155,Tryz.call155⟩
instance fi41:FI Tryz.prog 41 Tryz.f41:=⟨Tryz.func41,Tryz.call41⟩
instance fi159:FI Tryz.prog 159 Tryz.f159:=⟨Tryz.func159,Tryz.call159⟩
instance fi62:FI Tryz.prog 62 Tryz.f62:=⟨Tryz.func62,Tryz.call62⟩
instance fi28:FI Tryz.prog 28 Tryz.f28:=⟨Tryz.func28,Tryz.call28⟩
instance fi172:FI Tryz.prog 172 Tryz.f172:=⟨Tryz.func172,Tryz.call172⟩
instance fi173:FI Tryz.prog 173 Tryz.f173:=⟨Tryz.func173,Tryz.call173⟩
instance fi34:FI Tryz.prog 34 Tryz.f34:=⟨Tryz.func34,Tryz.call34⟩
instance fi272:FI Tryz.prog 272 Tryz.f272:=⟨Tryz.func272,Tryz.call272⟩
instance fi273:FI Tryz.prog 273 Tryz.f273:=⟨Tryz.func273,Tryz.call273⟩
instance fi274:FI Tryz.prog 274 Tryz.f274:=⟨Tryz.func274,Tryz.call274⟩
instance fi243:FI Tryz.prog 243 Tryz.f243:=⟨Tryz.func243,Tryz.call243⟩
instance fi61:FI Tryz.prog 61 Tryz.f61:=⟨Tryz.func61,Tryz.call61⟩
instance fi11:FI Tryz.prog 11 Tryz.f11:=⟨Tryz.func11,Tryz.call11⟩
structure EG where
 lv:Int
 sp:Bool
 m:Nat
 ln:Nat→Nat
 g:Nat→Nat→Nat
abbrev elD (o:Bool) (e:EG):List D:=elG o e.lv e.sp e.m e.ln e.g
structure CG where
 lv:Int
 ex:Int
 k:Nat
 P:Nat→EG
def eOk (p:PD) (e:EG):Bool:=elOk p e.lv e.sp e.m e.ln e.g
noncomputable def stB (p:PD) (lv ex:Int):Bool:=decide (errI (goodB p)=0) && decide (1≤lv) && decide (lv≤(p.chain.length:Int)) && decide (1≤ex) && decide (ex≤p.power)
instance (p:PD):CvtLI (parL false p) (parL true p):=by unfold parL u32sD;infer_instance
theorem errI_0 (b:Bool):decide (errI b=0)=b:=by cases b<;>rfl
def smallE (e:EG):Bool:=decide (e.m≤40) && evry (fun k=>decide (e.ln k≤80)) e.m
def smallC (c:CG):Bool:=decide (c.k≤5) && evry (fun i=>smallE (c.P i)) c.k

theorem appF_lt {n e:Nat} {f g:Nat→List D} (h:e<n):appF n f g e=f e:=by
 unfold appF
 rw [show e.blt n=true by rw [Nat.blt_eq];exact h]
theorem appF_ge {n e:Nat} {f g:Nat→List D} (h:n≤e):appF n f g e=g (e - n):=by
 unfold appF
 rw [show e.blt n=false by cases q:e.blt n with
  | false=>rfl
  | true=>rw [Nat.blt_eq] at q;omega]
theorem r09place_den (p:PD) (lv:Int) (sp:Bool):Den Tryz.prog 273 [.agg (parL true p),.val (.int .i64 lv),.val (.bool sp)] (.val (.bool (placeB p lv sp))):=by
 refine den_intro (fn:=Tryz.f273) rfl rfl rfl rfl rfl ?_
 refine go ?_
 refine fin ?_
 exact cv
theorem r09Moduli_den (p:PD) (lv:Nat) (sp:Bool) (h1:lv≤p.chain.length) (h2:p.chain.length≤1000):Den Tryz.prog 274 [.agg (parL true p),.val (.int .i64 (lv:Int)),.val (.bool sp)] (.fz false (modN p lv sp) 1 (fun k=>[.val (.int .u32 ((modQ p lv k:Nat):Int))])):=by
 refine den_intro (fn:=Tryz.f274) rfl rfl rfl rfl rfl ?_
 refine go ?_
 refine c_ifB (fun h3=>?_) (fun h3=>?_)
 ·subst h3
  refine go ?_
  refine fin_arr (1000+19) (fun k=>[.val (.int .u32 ((modQ p lv k:Nat):Int))]) (fun e he=>?_) (fun _=>rfl) ?_
  ·unfold modQ
   by_cases q:e<lv
   ·rw [appF_lt (by omega),if_pos q,Nat.zero_add]
   ·rw [appF_ge (by omega),if_neg q,show e - (lv - 0)=0 by omega];rfl
  refine fin_freeze (1000+19) ?_
  refine fin ?_
  exact cv
 ·subst h3
  refine go ?_
  refine fin_arr (1000+13) (fun k=>[.val (.int .u32 ((modQ p lv k:Nat):Int))]) (fun e he=>?_) (fun _=>rfl) ?_
  ·unfold modQ
   rw [if_pos (by omega),Nat.zero_add]
  refine fin_freeze (1000+13) ?_
  refine fin ?_
  exact cv
theorem VP.all {p:PD} (h:VP p) (hs:p.special≠0):∃ a:Nat→Nat,a=modQ p p.chain.length∧(∀ i,i<p.chain.length+1→3≤a i∧a i≤2147483647∧a i % 2=1)∧∀ k i,k<i→i<p.chain.length+1→a k≠a i:=by
 refine ⟨_,rfl,fun i hi=>?_,fun k i hk hi e=>?_⟩
 ·have q:modOk (modQ p p.chain.length i)=true:=by
   unfold modQ
   split
   ·exact h.mods i ‹_›
   ·rcases h.special with q | q
    ·exact absurd q hs
    ·exact q.1
  unfold modOk at q
  simp only [Bool.and_eq_true,decide_eq_true_eq] at q
  exact ⟨q.1.1,q.1.2,q.2⟩
 ·unfold modQ at e
  rw [if_pos (by omega)] at e
  by_cases q:i<p.chain.length
  ·rw [if_pos q] at e
   have:=h.apart i q
   have h2:=hasI_spec (p:=fun e=>decide (p.chain.getD i 0=p.chain.getD e 0)) |>.2 ⟨k,hk,decide_eq_true e.symm⟩
   rw [this] at h2;cases h2
  ·rw [if_neg q] at e
   rcases h.special with q2 | q2
   ·exact absurd q2 hs
   ·have h2:=hasI_spec (p:=fun e=>decide (p.special=p.chain.getD e 0)) |>.2 ⟨k,(by omega:k<p.chain.length),decide_eq_true e.symm⟩
    rw [q2.2] at h2;cases h2
theorem r09Valid_den (p:PD) (h:VP p) (hs:p.special≠0):Den Tryz.prog 272 [.agg (parL true p)] (.val (.bool true)):=by
 refine den_intro (fn:=Tryz.f272) rfl rfl rfl rfl rfl ?_
 have l2:=h.len2
 refine go ?_
 refine c_ifB (fun h1=>absurd h1 ?_) (fun _=>?_)
 ·rcases h.n with q | q | q | q<;>rw [q]<;>decide
 ·refine go ?_
  refine c_ifB (fun h1=>absurd h1 ?_) (fun _=>?_)
  ·have l1:=h.len1
   rw [decide_eq_false (show ¬ p.chain.length<1 by omega),decide_eq_false (show ¬ 24<p.chain.length by omega)];decide
  ·refine go ?_
   obtain ⟨a,ha,hA1,hA2⟩:=h.all hs
   refine c_arr (1000+45) (fun k=>[.val (.int .u32 ((a k:Nat):Int))]) (fun e he=>?_) (fun _=>rfl) ?_
   ·rw [ha];unfold modQ
    by_cases q:e<p.chain.length
    ·rw [appF_lt q,if_pos q]
    ·rw [appF_ge (by omega),if_neg q,show e - p.chain.length=0 by omega];rfl
   obtain ⟨M,hM⟩:∃ M,M=p.chain.length+1:=⟨_,rfl⟩
   rw [← hM] at hA1 hA2 ⊢
   refine c_freeze (1000+45) ?_
   refine c_slot 3 (.fz false M 1 (fun k=>[.val (.int .u32 ((a k:Nat):Int))])) ?_
   refine c_up M (fun j=>[(4,.val (.int .i64 (j:Nat)))]) (fun _=>[]) (fun i hi=>?_)
   refine go ?_
   refine c_if (fun h3=>?_) (fun h3=>?_)
   ·obtain ⟨b1,b2,b3⟩:=hA1 i h3
    refine go ?_
    refine c_ifB (fun h4=>absurd h4 ?_) (fun _=>?_)
    ·rw [decide_eq_false (show ¬ a i<3 by omega),decide_eq_false (show ¬ 2147483647<a i by omega),decide_eq_false (show ¬ a i % 2=0 by omega)];decide
    ·refine go ?_
     refine c_up i (fun j=>[(5,.val (.int .i64 (j:Nat)))]) (fun _=>[]) (fun k hk=>?_)
     refine go ?_
     refine c_if (fun h5=>?_) (fun h5=>?_)
     ·refine go ?_
      refine c_if (fun h6=>absurd h6 (hA2 k i h5 h3)) (fun _=>?_)
      refine go ?_
      exact ⟨h5,sub⟩
     ·refine go ?_
      exact ⟨h3,sub⟩
   ·refine go ?_
    refine fin ?_
    exact cv

instance fi174:FI Tryz.prog 174 Tryz.f174:=⟨Tryz.func174,Tryz.call174⟩
instance fi76:FI Tryz.prog 76 Tryz.f76:=⟨Tryz.func76,Tryz.call76⟩
instance fi17:FI Tryz.prog 17 Tryz.f17:=⟨Tryz.func17,Tryz.call17⟩
instance fi166:FI Tryz.prog 166 Tryz.f166:=⟨Tryz.func166,Tryz.call166⟩
def sameW (n m:Nat) (x y:Nat→Nat):Bool:=decide (n=m) && evry (fun j=>decide (x j=y j)) n
theorem sameW_1 {n m:Nat} {x y:Nat→Nat} (h:n≠m):sameW n m x y=false:=by unfold sameW;rw [decide_eq_false h];rfl
theorem sameW_2 {n j:Nat} {x y:Nat→Nat} (hj:j<n) (h:x j≠y j):sameW n n x y=false:=by unfold sameW;rw [evry_no hj (decide_eq_false h)];simp
theorem sameW_3 {n:Nat} {x y:Nat→Nat} (h:∀ j,j<n→x j=y j):sameW n n x y=true:=by unfold sameW;rw [evry_iff.2 (fun j hj=>decide_eq_true (h j hj))];simp
def sameR (m m':Nat) (ln ln':Nat→Nat) (g g':Nat→Nat→Nat):Bool:=decide (m=m') && evry (fun k=>sameW (ln k) (ln' k) (g k) (g' k)) m
theorem sameR_1 {m m':Nat} {ln ln':Nat→Nat} {g g':Nat→Nat→Nat} (h:m≠m'):sameR m m' ln ln' g g'=false:=by unfold sameR;rw [decide_eq_false h];rfl
theorem sameR_2 {m j:Nat} {ln ln':Nat→Nat} {g g':Nat→Nat→Nat} (hj:j<m) (h:sameW (ln j) (ln' j) (g j) (g' j)=false):sameR m m ln ln' g g'=false:=by unfold sameR;rw [evry_no hj h];simp
theorem sameR_3 {m:Nat} {ln ln':Nat→Nat} {g g':Nat→Nat→Nat} (h:∀ j,j<m→sameW (ln j) (ln' j) (g j) (g' j)=true):sameR m m ln ln' g g'=true:=by unfold sameR;rw [evry_iff.2 h];simp
def sameE (a b:EG):Bool:=decide (a.lv=b.lv) && (a.sp == b.sp) && sameR a.m b.m a.ln b.ln a.g b.g
theorem r05Same_den (n m:Nat) (x y:Nat→Nat) (hn:n≤1000000) (hm:m≤1000000):Den Tryz.prog 174 [u32sF true n x,u32sF true m y] (.val (.bool (sameW n m x y))):=by
 refine den_intro (fn:=Tryz.f174) rfl rfl rfl rfl rfl ?_
 refine go ?_
 refine c_if (fun h1=>?_) (fun h1=>?_)
 ·refine go ?_
  refine fin ?_
  rw [sameW_1 h1]
  exact cv
 ·obtain rfl:n=m:=by omega
  refine go ?_
  refine c_down (fun j=>n - j) (fun j=>j≤n∧∀ k,k<j→x k=y k) (fun j:Nat=>[(5,.val (.int .i64 (j:Int)))]) (fun _=>[]) 0 (fun j ⟨hj,hp⟩=>?_) ⟨by omega,fun e he=>by omega⟩
  refine go ?_
  refine c_if (fun h3=>?_) (fun h3=>?_)
  ·refine go ?_
   refine c_if (fun h4=>?_) (fun h4=>?_)
   ·refine go ?_
    refine fin ?_
    rw [sameW_2 h3 h4]
    exact cv
   ·refine go ?_
    refine ⟨j+1,⟨by omega,fun k hk=>?_⟩,by omega,?_⟩
    ·by_cases q:k<j
     ·exact hp k q
     ·obtain rfl:k=j:=by omega
      omega
    ·exact sub
  ·refine go ?_
   obtain rfl:j=n:=by omega
   refine fin ?_
   rw [sameW_3 hp]
   exact cv
theorem r09Same_den (a b:EG) (hm:a.m≤1000000) (hm':b.m≤1000000) (hl:∀ k,a.ln k≤1000000) (hl':∀ k,b.ln k≤1000000):Den Tryz.prog 76 [.agg (elD true a),.agg (elD true b)] (.val (.bool (sameE a b))):=by
 refine den_intro (fn:=Tryz.f76) rfl rfl rfl rfl rfl ?_
 refine go ?_
 refine c_ifB (fun h1=>?_) (fun h1=>?_)
 ·refine go ?_
  refine fin ?_
  rw [show sameE a b=false by
   unfold sameE
   by_cases q1:a.lv=b.lv
   ·by_cases q2:a.sp=b.sp
    ·by_cases q3:a.m=b.m
     ·exfalso
      simp [q1,q2,q3] at h1
     ·rw [sameR_1 q3];simp
    ·simp [q2]
   ·simp [q1]]
  exact cv
 ·have q:a.lv=b.lv∧a.sp=b.sp∧a.m=b.m:=by
   simp at h1
   exact ⟨h1.1.1,h1.1.2,h1.2⟩
  have hE:sameE a b=sameR a.m a.m a.ln b.ln a.g b.g:=by unfold sameE;rw [q.1,q.2.1,← q.2.2];simp
  refine go ?_
  refine c_down (fun j=>a.m - j) (fun j=>j≤a.m∧∀ k,k<j→sameW (a.ln k) (b.ln k) (a.g k) (b.g k)=true) (fun j:Nat=>[(5,.val (.int .i64 (j:Int)))]) (fun _=>[]) 0 (fun j ⟨hj,hp⟩=>?_) ⟨by omega,fun e he=>by omega⟩
  refine go ?_
  refine c_if (fun h3=>?_) (fun h3=>?_)
  ·have h3':j<b.m:=by omega
   refine go ?_
   refine r_callO (r05Same_den (a.ln j) (b.ln j) (a.g j) (b.g j) (hl j) (hl' j)) ?_
   refine go ?_
   refine c_ifB (fun h4=>?_) (fun h4=>?_)
   ·refine go ?_
    refine fin ?_
    rw [hE,sameR_2 h3 (by simpa using h4)]
    exact cv
   ·refine go ?_
    refine ⟨j+1,⟨by omega,fun k hk=>?_⟩,by omega,?_⟩
    ·by_cases q:k<j
     ·exact hp k q
     ·obtain rfl:k=j:=by omega
      simpa using h4
    ·exact sub
  ·refine go ?_
   obtain rfl:j=a.m:=by omega
   refine fin ?_
   rw [hE,sameR_3 hp]
   exact cv

theorem rowOk_eq {p:PD} {n:Nat} {lv k:Nat} {ln:Nat→Nat} {g:Nat→Nat→Nat} (hn:p.n=n):rowOk p lv ln g k = !(decide (ln k≠n) || hasI (fun j=>decide (modQ p lv k≤g k j)) (ln k)):=by
 unfold rowOk
 rw [hn]
 by_cases q:ln k=n
 ·simp [q]
 ·have q2:¬ ((ln k:Nat):Int)=(n:Int):=fun e=>q (by omega)
  simp [q,q2]
theorem r09Check_den0 (p:PD) (h:VP p) (hs:p.special≠0) (lv:Int) (sp:Bool) (m:Nat) (ln:Nat→Nat) (g:Nat→Nat→Nat) (hln:∀ k,ln k≤1000000) (hm:m≤1000000):Den Tryz.prog 243 [.agg (parL true p),.agg (elG true lv sp m ln g)] (.val (.int .i64 (errI (elOk p lv sp m ln g)))):=by
 refine den_intro (fn:=Tryz.f243) rfl rfl rfl rfl rfl ?_
 have l2:=h.len2
 refine go ?_
 refine r_call (r09Valid_den p h hs) ?_
 refine go ?_
 refine g_callM (hl:=fun hb=>r_call (r09place_den p lv sp) (run_fin rfl)) (h:=?_)
 refine go ?_
 refine c_ifB (fun h1=>?_) (fun h1=>?_)
 ·refine go ?_
  refine fin ?_
  rw [elOk_1 (show placeB p lv sp=false from b_no h1)]
  exact cv
 ·have hp:placeB p lv sp=true:=b_ok h1
  have hlv:1≤lv∧lv≤(p.chain.length:Int):=by
   simp only [placeB,Bool.and_eq_true,decide_eq_true_eq] at hp
   exact hp.1
  obtain ⟨lv,rfl⟩:=Int.eq_ofNat_of_zero_le (show 0≤lv by omega)
  have hM:modN p lv sp≤1001:=by unfold modN;split<;>omega
  refine go ?_
  refine r_call (r09Moduli_den p lv sp (by omega) (by omega)) ?_
  refine go ?_
  refine c_if (fun h3=>?_) (fun h3=>?_)
  ·refine go ?_
   refine fin ?_
   rw [elOk_2 (show m≠modN p (lv:Int).toNat sp from fun e=>h3 (by rw [e];simp))]
   exact cv
  ·obtain rfl:m=modN p lv sp:=by omega
   obtain ⟨n,hn,hn32⟩:∃ n:Nat,p.n=n∧n≤32:=by
    rcases h.n with q | q | q | q
    ·exact ⟨4,by rw [q];rfl,by omega⟩
    ·exact ⟨8,by rw [q];rfl,by omega⟩
    ·exact ⟨16,by rw [q];rfl,by omega⟩
    ·exact ⟨32,by rw [q];rfl,by omega⟩
   obtain ⟨M,hMM⟩:∃ M,M=modN p lv sp:=⟨_,rfl⟩
   rw [← hMM] at hM h3 ⊢
   refine go ?_
   refine c_down (fun j=>M - j) (fun j=>j≤M∧∀ k,k<j→rowOk p lv ln g k=true) (fun j:Nat=>[(6,.val (.int .i64 (j:Int)))]) (fun _=>[]) 0 (fun k ⟨hk,hF⟩=>?_) ⟨by omega,fun e he=>by omega⟩
   refine go ?_
   refine c_if (fun h4=>?_) (fun h4=>?_)
   ·have hrow:=rowOk_eq (lv:=lv) (ln:=ln) (g:=g) (k:=k) hn
    refine go ?_
    refine c_if (fun h5=>?_) (fun h5=>?_)
    ·refine go ?_
     refine fin ?_
     rw [elOk_3 h4 (by rw [Int.toNat_natCast,hrow,decide_eq_true h5];rfl)]
     exact cv
    ·have hlk:ln k=n:=by omega
     refine go ?_
     refine c_down (fun j=>n - j) (fun j=>j≤n∧∀ e,e<j→decide (modQ p lv k≤g k e)=false) (fun j:Nat=>[(7,.val (.int .i64 (j:Int)))]) (fun _=>[]) 0 (fun j ⟨hj,hG⟩=>?_) ⟨by omega,fun e he=>by omega⟩
     refine go ?_
     refine c_if (fun h6=>?_) (fun h6=>?_)
     ·have h6':j<n:=by omega
      refine go ?_
      refine c_if (fun h7=>?_) (fun h7=>?_)
      ·refine go ?_
       refine fin ?_
       rw [elOk_3 h4 (by rw [Int.toNat_natCast,hrow,hasI_spec.2 ⟨j,by omega,decide_eq_true h7⟩];simp)]
       exact cv
      ·refine go ?_
       refine ⟨j+1,⟨by omega,fun e he=>?_⟩,by omega,?_⟩
       ·by_cases q:e<j
        ·exact hG e q
        ·obtain rfl:e=j:=by omega
         exact decide_eq_false h7
       ·exact sub
     ·obtain rfl:j=n:=by omega
      refine go ?_
      refine ⟨k+1,⟨by omega,fun e he=>?_⟩,by omega,?_⟩
      ·by_cases q:e<k
       ·exact hF e q
       ·obtain rfl:e=k:=by omega
        rw [hrow,hasI_no (by rw [hlk];exact hG),decide_eq_false h5];rfl
      ·exact sub
   ·obtain rfl:k=M:=by omega
    refine go ?_
    refine fin ?_
    rw [elOk_4 hp hMM hF]
    exact cv
theorem r09Check_den (p:PD) (h:VP p) (hs:p.special≠0) (e:EG) (hln:∀ k,e.ln k≤1000000) (hm:e.m≤1000000):Den Tryz.prog 243 [.agg (parL true p),.agg (elD true e)] (.val (.int .i64 (errI (eOk p e)))):=r09Check_den0 p h hs e.lv e.sp e.m e.ln e.g hln hm

instance fi223:FI Tryz.prog 223 Tryz.f223:=⟨Tryz.func223,Tryz.call223⟩
instance fi275:FI Tryz.prog 275 Tryz.f275:=⟨Tryz.func275,Tryz.call275⟩
instance fi146:FI Tryz.prog 146 Tryz.f146:=⟨Tryz.func146,Tryz.call146⟩
theorem r09residue_den (x:Int) (q:Nat) (hq:0<q) (hq2:q≤2147483647) (hx : -9223372036854775808≤x∧x≤9223372036854775807):Den Tryz.prog 275 [.val (.int .i64 x),.val (.int .u32 (q:Int))] (.val (.int .u64 ((resI x q:Nat):Int))):=by
 refine den_intro (fn:=Tryz.f275) rfl rfl rfl rfl rfl ?_
 have h1:x.tmod q<q:=Int.tmod_lt_of_pos _ (by omega)
 have h2 : -(q:Int)<x.tmod q:=by have:=Int.tmod_lt_of_pos (-x) (show (0:Int)<q by omega);rw [Int.neg_tmod] at this;omega
 have h3:=resI_tmod (x:=x) hq
 have h4:=resI_lt (x:=x) hq
 refine go ?_
 refine c_cut0 [(5,.val (.int .i64 ((resI x q:Nat):Int)))] ?_ ?_
 ·refine c_if (fun h5=>?_) (fun h5=>?_)
  ·rw [if_pos h5] at h3
   refine go ?_
   exact sub
  ·rw [if_neg h5] at h3
   refine go ?_
   exact sub
 ·refine go ?_
  refine fin ?_
  exact cv
theorem r09FromInts_den (p:PD) (n lv:Nat) (sp:Bool) (h:Lv p n lv) (x:Nat→Int) (hx:∀ j, -9223372036854775808≤x j∧x j≤9223372036854775807):Den Tryz.prog 223 [.agg (parL true p),.val (.int .i64 (lv:Int)),.val (.bool sp),intsD true n x] (.tup [.agg (elL false lv sp (modN p lv sp) n (fun k j=>resI (x j) (modQ p lv k))),.val (.int .i64 0)]):=by
 refine den_intro (fn:=Tryz.f223) rfl rfl rfl rfl rfl ?_
 have hN:NatIs p.n n:=h.n
 have h32:=h.n32
 have l1:=h.l1
 have l2:=h.l2
 have l24:=h.vp.len2
 have hpl:placeB p (lv:Int) sp=true:=h.place sp
 have hm:=modQ_in h.vp h.sp h.l2
 have hm':∀ k,0<modQ p lv k:=fun k=>by have:=hm k;omega
 have hM:modN p lv sp≤1001:=by unfold modN;split<;>omega
 obtain ⟨M,hMM⟩:∃ M,M=modN p lv sp:=⟨_,rfl⟩
 refine go ?_
 refine r_call (r09Valid_den p h.vp h.sp) ?_
 refine go ?_
 refine g_callM (hl:=fun hb=>r_call (r09place_den p lv sp) (run_fin rfl)) (h:=?_)
 rw [hpl]
 refine go ?_
 refine r_call (r09Moduli_den p lv sp h.l2 (by omega)) ?_
 rw [← hMM] at hM ⊢
 refine go ?_
 refine c_nilcell 1010 2 1900 23 1 (fun k=>[.fz false n 1 (fun j=>[.val (.int .u32 ((resI (x j) (modQ p lv k):Nat):Int))])]) ?_
 refine c_up M (fun i=>[(12,.val (.int .i64 (i:Nat)))]) (fun i=>[(1010,some (.lit 93 [.val (.int .i64 (lv:Int)),.val (.bool sp),.sl 1900 1 i])),(1900,some (.arr 23 i 1 (fun k=>[.fz false n 1 (fun j=>[.val (.int .u32 ((resI (x j) (modQ p lv k):Nat):Int))])])))]) (fun i hi=>?_)
 refine go ?_
 have hq:=hm i
 refine c_if (fun h3=>?_) (fun h3=>?_)
 ·refine go ?_
  refine c_nil 13 1901 22 1 (fun j=>[.val (.int .u32 ((resI (x j) (modQ p lv i):Nat):Int))]) ?_
  refine c_up n (fun j=>[(13,.sl 1901 1 j),(14,.val (.int .i64 (j:Nat)))]) (fun j=>[(1901,some (.arr 22 j 1 (fun j=>[.val (.int .u32 ((resI (x j) (modQ p lv i):Nat):Int))])))]) (fun j hj=>?_)
  have hr:=resI_lt (x:=x j) (hm' i)
  refine go ?_
  refine c_if (fun h4=>?_) (fun h4=>?_)
  ·refine go ?_
   refine r_callO (r09residue_den (x j) (modQ p lv i) (hm' i) (by omega) (hx j)) ?_
   refine go ?_
   refine ⟨h4,?_⟩
   refine sub_arr (1000+64) (fun j=>[.val (.int .u32 ((resI (x j) (modQ p lv i):Nat):Int))]) (appF_snoc rfl) (fun _=>rfl) ?_
   refine sub_toL [52] (1000+64) 1901 ?_
   exact sub
  ·obtain rfl:j=n:=by omega
   refine c_freeze 1901 ?_
   refine c_slot 13 (.fz false j 1 (fun j=>[.val (.int .u32 ((resI (x j) (modQ p lv i):Nat):Int))])) ?_
   refine go ?_
   refine ⟨h3,?_⟩
   refine sub_arr (1000+69) (fun k=>[.fz false j 1 (fun j=>[.val (.int .u32 ((resI (x j) (modQ p lv k):Nat):Int))])]) (appF_snoc rfl) (fun _=>rfl) ?_
   refine sub_toL [66] (1000+69) 1900 ?_
   exact sub
 ·obtain rfl:i=M:=by omega
  refine go ?_
  refine fin_freeze 1900 ?_
  refine fin ?_
  exact cv

theorem goodQ_pr {s q:Nat} (h8:s % 8=0) (h:GoodQ s q):Pr q:=by
 obtain ⟨h1,h2,h3,h4⟩:=h
 have hq:q % 8=1:=by rw [← Nat.mod_mod_of_dvd q (Nat.dvd_of_mod_eq_zero h8),h3]
 rcases h4 with e | e | e | ⟨_,_,d7,d61,u,k,e,hu,s2,s7,s61⟩
 ·omega
 ·omega
 ·omega
 ·exact strong_prime (by omega) hq (.inr ⟨h1,by omega⟩) e hu s2 s7 s61 (by omega) (by omega)
theorem good_8 {p:Par} (h:Good p):(2*p.n.toNat*plainV p.n.toNat p.prime p.power) % 8=0:=by
 have h4:p.n.toNat % 4=0:=by rcases h.1 with e | e | e | e<;>rw [e]<;>rfl
 obtain ⟨m,hm⟩:∃ m,p.n.toNat=4*m:=⟨p.n.toNat / 4,by omega⟩
 rw [hm,show 2*(4*m)*plainV (4*m) p.prime p.power=8*(m*plainV (4*m) p.prime p.power) from by rw [← Nat.mul_assoc,← Nat.mul_assoc]]
 exact Nat.mul_mod_right _ _
theorem Good.pr {p:Par} (h:Good p) {i:Nat} (hi:i<p.chain.length):Pr (p.chain.getD i 0):=goodQ_pr (good_8 h) (h.2.2.2.2.2.2.2.2.1 i hi).1
theorem eu_gcd:∀ (f x y:Nat) (u v:Int),y<f→(eu f x y u v).1=Nat.gcd x y
 | 0,x,y,u,v,h=>by omega
 | f+1,x,y,u,v,h=>by
  unfold eu
  by_cases q:y=0
  ·rw [if_pos q,q,Nat.gcd_zero_right]
  ·rw [if_neg q]
   have:=Nat.mod_lt x (show 0<y by omega)
   rw [eu_gcd f y (x % y) v _ (by omega),Nat.gcd_comm x y,Nat.gcd_rec y x,Nat.gcd_comm]
theorem inv_pr {a b:Nat} (ha:Pr a) (hb:Pr b) (h:a≠b):invB (a % b) b=true:=by
 unfold invB invE
 refine decide_eq_true ?_
 rw [eu_gcd _ _ _ _ _ (by omega),Nat.gcd_comm,← Nat.gcd_rec]
 refine hb.coprime (fun hd=>?_)
 rcases ha.2 b hd with e | e
 ·have:=hb.1;omega
 ·exact h e.symm
theorem good_apart {p:Par} (h:Good p) {i j:Nat} (hij:j<i) (hi:i<p.chain.length):invB (p.chain.getD i 0 % p.chain.getD j 0) (p.chain.getD j 0)=true:=
 inv_pr (h.pr hi) (h.pr (by omega)) (fun e=>h.2.2.2.2.2.2.2.2.2 j i hij hi e.symm)

theorem r13Plain_den (p:PD) (ex:Nat) (hb:∀ i,i≤ex→p.prime ^ i≤2147483647) (hx:ex≤1000000):Den Tryz.prog 34 [.agg (parL true p),.val (.int .i64 (ex:Int))] (.val (.int .i64 ((p.prime ^ ex:Nat):Int))):=by
 refine den_intro (fn:=Tryz.f34) rfl rfl rfl rfl rfl ?_
 refine go ?_
 obtain ⟨pw,h0,hs,he,hbw⟩:∃ pw:Nat→Nat,pw 0=1∧(∀ j,pw (j+1)=pw j*p.prime)∧pw ex=p.prime ^ ex∧∀ i,i≤ex→pw i≤2147483647:=⟨fun j=>p.prime ^ j,rfl,fun j=>Nat.pow_succ ..,rfl,hb⟩
 rw [← he]
 refine c_up ex (fun j=>[(6,.val (.int .i64 (j:Nat))),(5,.val (.int .i64 ((pw j:Nat):Int)))]) (fun _=>[]) (fun j hj=>?_)
 refine go ?_
 refine c_if (fun h3=>?_) (fun h3=>?_)
 ·have hq:=hbw (j+1) (by omega)
  rw [hs j] at hq
  have hp1:=hb 1 (by omega)
  rw [Nat.pow_one] at hp1
  refine go ?_
  exact ⟨h3,sub⟩
 ·obtain rfl:j=ex:=by omega
  refine go ?_
  refine fin ?_
  exact cv

structure St (p:PD) (lv ex:Int):Prop where
 good:Good p.par
 l1:1≤lv
 l2:lv≤(p.chain.length:Int)
 e1:1≤ex
 e2:ex≤p.power
theorem good_special {p:PD} (h:Good p.par):p.special≠0:=fun e=>by
 have:=h.2.2.2.2.2.2.2.1.1
 simp only [PD.par] at this
 omega
def partOk (p:PD) (lv:Int) (e:EG):Bool:= !(decide (e.lv≠lv) || e.sp || decide (errI (eOk p e)≠0))
noncomputable def ciOk (p:PD) (c:CG):Bool:=stB p c.lv c.ex && (decide (c.k=2) || decide (c.k=3)) && evry (fun i=>partOk p c.lv (c.P i)) c.k

instance fi245:FI Tryz.prog 245 Tryz.f245:=⟨Tryz.func245,Tryz.call245⟩
instance fi160:FI Tryz.prog 160 Tryz.f160:=⟨Tryz.func160,Tryz.call160⟩
instance fi250:FI Tryz.prog 250 Tryz.f250:=⟨Tryz.func250,Tryz.call250⟩
theorem st_Lv {p:PD} {lv ex:Int} (h:St p lv ex) {n l:Nat} (hn:p.n=(n:Int)) (hl:lv=(l:Int)):Lv p n l:=⟨good_VP h.good,good_special h.good,hn,by have:=h.l1;omega,by have:=h.l2;omega⟩
theorem good_n {p:PD} (h:Good p.par):∃ n:Nat,p.n=(n:Int)∧4≤n∧n≤32:=by
 rcases h.1 with q | q | q | q
 ·exact ⟨4,q,by omega,by omega⟩
 ·exact ⟨8,q,by omega,by omega⟩
 ·exact ⟨16,q,by omega,by omega⟩
 ·exact ⟨32,q,by omega,by omega⟩
theorem good_pow {p:PD} (h:Good p.par) {ex:Nat} (he:(ex:Int)≤p.power):(∀ i,i≤ex→p.prime ^ i≤2147483647)∧3≤p.prime∧1≤p.prime ^ ex:=by
 have h7:=h.2.2.2.2.2.2.1
 obtain ⟨a,b,c,d,e,f⟩:=h7
 simp only [PD.par] at a f
 refine ⟨fun i hi=>Nat.le_trans (Nat.pow_le_pow_right (by omega) (by omega)) f,a,Nat.pow_pos (by omega)⟩
theorem r13Of_den (p:PD) (n lv:Nat) (sp:Bool) (h:Lv p n lv) (r0:D) [OldD r0] (hr0:r0.one=true) (x:Nat→Int) (hx:∀ j, -9223372036854775808≤x j∧x j≤9223372036854775807):Den Tryz.prog 146 [.agg (parL true p),.agg [.val (.int .i64 (lv:Int)),.val (.bool sp),r0],intsD true n x] (.agg (elL false lv sp (modN p lv sp) n (fun k j=>resI (x j) (modQ p lv k)))):=by
 refine den_intro (fn:=Tryz.f146) rfl rfl rfl rfl rfl ?_
 refine go ?_
 refine r_call (r09FromInts_den p n lv sp h x hx) ?_
 refine go ?_
 refine fin ?_
 exact cv

noncomputable abbrev zerosD (n:Nat):D:=.fz true n Tryz.t2.size (fun _=>valL (Value.int .i64 0).cells.toList)
instance (n:Nat):OldD (zerosD n):=(inferInstance:OldD (intsD true n (fun _=>0)))
theorem resI_0 (q:Nat):resI 0 q=0:=by unfold resI;simp
theorem resI_f (q:Nat→Nat):(fun k (j:Nat)=>resI ((fun _:Nat=>(0:Int)) j) (q k))=fun _ _=>0:=by funext k j;exact resI_0 _
theorem rgZero_den (p:PD) (n lv:Nat) (sp:Bool) (h:Lv p n lv):Den Tryz.prog 132 [.agg (parL true p),.val (.int .i64 (lv:Int)),.val (.bool sp),zerosD n] (.tup [.agg (elL false lv sp (modN p lv sp) n (fun _ _=>0)),.val (.int .i64 0)]):=by
 have:=rgFromInts_den p n lv sp h (fun _=>0) (fun _=>by omega)
 rw [resI_f] at this
 exact this
theorem good_ex {b ex:Nat} (h:∀ i,i≤ex→b ^ i≤2147483647) (hb:3≤b):ex≤1000000:=by
 by_cases q:ex≤1000000
 ·exact q
 ·have h1:=h 32 (by omega)
  have h2:=Nat.pow_le_pow_left hb 32
  omega

instance fi322:FI Tryz.prog 322 Tryz.f322:=⟨Tryz.func322,Tryz.call322⟩
instance fi313:FI Tryz.prog 313 Tryz.f313:=⟨Tryz.func313,Tryz.call313⟩
instance fi291:FI Tryz.prog 291 Tryz.f291:=⟨Tryz.func291,Tryz.call291⟩
instance fi292:FI Tryz.prog 292 Tryz.f292:=⟨Tryz.func292,Tryz.call292⟩
instance fi263:FI Tryz.prog 263 Tryz.f263:=⟨Tryz.func263,Tryz.call263⟩
instance fi293:FI Tryz.prog 293 Tryz.f293:=⟨Tryz.func293,Tryz.call293⟩
instance fi314:FI Tryz.prog 314 Tryz.f314:=⟨Tryz.func314,Tryz.call314⟩
instance ti274:TI Tryz.prog 274 Tryz.t274 (.pointer 279):=⟨by kernel_rfl,by kernel_rfl⟩
instance ti279:TI Tryz.prog 279 Tryz.t279 Tryz.t278.desc:=⟨by kernel_rfl,by kernel_rfl⟩
instance sz274:SZ Tryz.prog 274 1:=SZ.of ti274 rfl
instance zr274:ZR Tryz.prog 274 [.pointer none]:=ZR.of ti274 rfl rfl rfl
instance zr279:ZR Tryz.prog 279 [.pointer none,.int .i64 0,.int .i64 0]:=ZR.of ti279 rfl rfl rfl
instance bt279:BT Tryz.prog 279 [(0,1),(1,1),(2,1)] [.pointer none,.int .i64 0,.int .i64 0]:=BT.of (ns:=[1,1,1]) ti279 rfl zr279.zr ⟨sz217.sz,⟨sz3.sz,⟨sz3.sz,trivial⟩⟩⟩ (by intro j;repeat (first | rfl | cases j with | zero=>rfl | succ j=>?_))
instance ft279_0:FT Tryz.prog 279 0 0:=FT.of ti279 rfl ti217 rfl rfl
instance ft279_2:FT Tryz.prog 279 2 2:=FT.of ti279 rfl ti3 rfl rfl
theorem gdapart_den (a b:Nat) (ha:a≤4294967295) (h2:2≤b) (hb:b≤2147483647) (h:invB (a % b) b=true):Den Tryz.prog 322 [.val (.int .u32 (a:Int)),.val (.int .u32 (b:Int))] (.val (.bool true)):=by
 refine den_intro (fn:=Tryz.f322) rfl rfl rfl rfl rfl ?_
 have hm:=Nat.mod_lt a (show 0<b by omega)
 have hi:=mInverse_den (a % b) b h2 hb hm
 rw [h] at hi
 refine go ?_
 refine r_call hi ?_
 refine go ?_
 refine fin ?_
 exact cv
theorem gdmade_den (p:PD) (n:Nat) (hp:PFit p) (hg:Good p.par) (hn:p.n=(n:Int)):Den Tryz.prog 313 [.fptr true (parL true p),.val (.int .i64 31)] (.tup [.fptr false [.fptr true (parL true p),.val (.int .i64 31),.val (.int .i64 1)],.val (.bool true)]):=by
 refine den_intro (fn:=Tryz.f313) rfl rfl rfl rfl rfl ?_
 have hL:Lv p n 1:=⟨good_VP hg,good_special hg,hn,by omega,hg.2.1⟩
 have h32:=hL.n32
 have hN:NatIs p.n n:=hn
 have hM:NatIs (max 0 (min p.n 32)) n:=by show _=_;omega
 have hv:p.chain.length≤24:=hg.2.2.1
 have hch:=hp.chain
 refine go ?_
 refine c_no ?_
 refine go ?_
 refine r_call (rgZero_den p n 1 false hL) ?_
 refine go ?_
 refine c_up p.chain.length (fun i=>[(39,.val (.int .i64 (i:Nat)))]) (fun i=>[]) (fun i hi=>?_)
 refine go ?_
 refine c_if (fun h3=>?_) (fun h3=>?_)
 ·have hci:=hch i h3
  refine go ?_
  refine c_up i (fun j=>[(51,.val (.int .i64 (j:Nat)))]) (fun j=>[]) (fun j hj=>?_)
  refine go ?_
  refine c_if (fun h4=>?_) (fun h4=>?_)
  ·have h5:=hL.vp.mods j (by omega)
   simp only [modOk,Bool.and_eq_true,decide_eq_true_eq] at h5
   refine go ?_
   refine r_call (gdapart_den (p.chain.getD i 0) (p.chain.getD (0+j) 0) hci (by rw [Nat.zero_add];omega) (by rw [Nat.zero_add];omega) (by rw [Nat.zero_add];exact good_apart hg (by omega) h3)) ?_
   refine go ?_
   refine c_no ?_
   refine go ?_
   refine ⟨by omega,?_⟩
   exact sub
  ·refine go ?_
   refine ⟨h3,?_⟩
   exact sub
 ·refine go ?_
  refine fin_frz 1069 ?_
  refine fin ?_
  exact cv
theorem gdlevel_den (p:PD) (lv:Int):Den Tryz.prog 292 [.fptr true [.fptr true (parL true p),.val (.int .i64 31),.val (.int .i64 1)],.val (.int .i64 lv)] (.val (.bool (decide (1≤lv) && decide (lv≤(p.chain.length:Int))))):=by
 refine den_intro (fn:=Tryz.f292) rfl rfl rfl rfl rfl ?_
 refine go ?_
 refine fin ?_
 exact cv
theorem gdasked_den (p:PD) (n:Nat) (hp:PFit p) (hg:Good p.par) (hn:p.n=(n:Int)) (lv:Int):Den Tryz.prog 291 [.fptr true (parL true p),.val (.int .i64 31),.val (.int .i64 lv),.val (.func (.func 292) #[] #[])] (.tup [.fptr false [.fptr true (parL true p),.val (.int .i64 31),.val (.int .i64 1)],.val (.bool (decide (1≤lv) && decide (lv≤(p.chain.length:Int))))]):=by
 refine den_intro (fn:=Tryz.f291) rfl rfl rfl rfl rfl ?_
 refine go ?_
 refine r_callO (gdmade_den p n hp hg hn) ?_
 refine go ?_
 refine r_callO (gdlevel_den p lv) ?_
 refine go ?_
 refine fin ?_
 exact cv

instance fi163:FI Tryz.prog 163 Tryz.f163:=⟨Tryz.func163,Tryz.call163⟩
instance fi164:FI Tryz.prog 164 Tryz.f164:=⟨Tryz.func164,Tryz.call164⟩
instance fi69:FI Tryz.prog 69 Tryz.f69:=⟨Tryz.func69,Tryz.call69⟩
instance fi168:FI Tryz.prog 168 Tryz.f168:=⟨Tryz.func168,Tryz.call168⟩
instance fi169:FI Tryz.prog 169 Tryz.f169:=⟨Tryz.func169,Tryz.call169⟩
instance fi70:FI Tryz.prog 70 Tryz.f70:=⟨Tryz.func70,Tryz.call70⟩
instance fi170:FI Tryz.prog 170 Tryz.f170:=⟨Tryz.func170,Tryz.call170⟩
instance fi71:FI Tryz.prog 71 Tryz.f71:=⟨Tryz.func71,Tryz.call71⟩
instance fi171:FI Tryz.prog 171 Tryz.f171:=⟨Tryz.func171,Tryz.call171⟩
instance fi65:FI Tryz.prog 65 Tryz.f65:=⟨Tryz.func65,Tryz.call65⟩
instance fi165:FI Tryz.prog 165 Tryz.f165:=⟨Tryz.func165,Tryz.call165⟩
instance fi68:FI Tryz.prog 68 Tryz.f68:=⟨Tryz.func68,Tryz.call68⟩
instance fi64:FI Tryz.prog 64 Tryz.f64:=⟨Tryz.func64,Tryz.call64⟩
instance fi162:FI Tryz.prog 162 Tryz.f162:=⟨Tryz.func162,Tryz.call162⟩
instance fi248:FI Tryz.prog 248 Tryz.f248:=⟨Tryz.func248,Tryz.call248⟩
instance fi247:FI Tryz.prog 247 Tryz.f247:=⟨Tryz.func247,Tryz.call247⟩
abbrev ciV (o:Bool) (lv ex k n:Nat) (G:Nat→Nat→Nat→Nat):List D:=[.val (.int .i64 (lv:Int)),.val (.int .i64 (ex:Int)),.fz o k 3 (fun i=>elL o lv false lv n (G i))]
structure Cv (p:PD) (n lv ex:Nat):Prop where
 fit:PFit p
 st:St p (lv:Int) (ex:Int)
 n:p.n=(n:Int)
theorem Cv.lv {p:PD} {n lv ex:Nat} (h:Cv p n lv ex):Lv p n lv:=st_Lv h.st h.n rfl
def Vc (p:PD) (lv:Nat) (G:Nat→Nat→Nat→Nat):Prop:=∀ i,Vg p lv (G i)
abbrev zeroEl:List D:=[.val (.int .i64 0),.val (.bool false),.val (.slice none 0 0)]

abbrev cutL (p:PD):List D:=[.fptr true (parL true p),.val (.int .i64 31),.val (.int .i64 1)]
theorem SlotCv.clo {H:Nat→Option Box} {fn:FuncId} {l l':List D} (h:SlotCvL H l l'):SlotCv H (.clo fn l) (.clo fn l'):=fun S E a w Z i v hF hv=>by
 cases hv with | clo _ _ vs _ hl hr=>exact .clo _ fn vs _ (hl.trans h.len) (fun j hj=>h.at j S E a w Z i _ hF (hr j (by rw [h.len];exact hj)))
section
variable {P:Program} {fn:Func} {r:D} {hs rs:Hs} {env:List (Nat × D)} {box:List (Nat × Option Box)}
theorem fin_slot (t:Nat) (d:D) {d0:D} (hc:SlotCv (hk box) d0 d) (h:FinS P fn r hs rs (lk ((t,d)::env)) (hk box)) (ht:autoParam (Lk env t d0) aq15._auto_1):FinS P fn r hs rs (lk env) (hk box):=h.sub (sub_conv t d ht.eq hc)
end
theorem gddigits_den (p:PD) (x:Int):DenH Tryz.prog 293 [.fptr true (cutL p),.val (.int .i64 x)] [] (.clo 314 [.fptr false [.fptr true (cutL p)],.eptr 1003 0 0 0]) [] [(1003,.lit 2 [.val (.int .i64 x)])]:=by
 refine den_intro (fn:=Tryz.f293) rfl rfl rfl rfl rfl ?_
 refine go ?_
 refine fin_frz 1002 ?_
 refine fin_slot 4 (.clo 314 [.fptr false [.fptr true (cutL p)],.eptr 1003 0 0 0]) (.clo (.cons (.ice (ns:=[1002]) (CvV.icel (t:=274) (n:=1) rfl rfl rfl rfl)) (.cons (.refl _) .nil))) ?_
 exact finN

open Go.RowKit Go.Shelf
attribute [local go_sem] Oper.semAt_some
set_option maxRecDepth 100000 in
set_option maxHeartbeats 2000000 in
theorem gddigits1_itr (p:PD) (x:Int) (hx1 : -1073741824≤x) (hx2:x≤1073741824):ItrDM Tryz.prog 314 (.fptr true [.fptr true (cutL p)]) 2 (fun z:Int=>.int .i64 z) x [[.val (.int .i64 0),.val (.int .i64 x)]]:=fun l C0 Z0 W0 v0 bx J Jx hJ hJx hJ0 hv hY=>by
 obtain ⟨b1,o1,rfl,h1⟩:=rep_fptr hv
 obtain ⟨u1,c1,z1,r1⟩:=h1 0 (by simp)
 obtain ⟨bc,oc,rfl,hc⟩:=rep_fptr r1
 obtain ⟨u2,c2,z2,r2⟩:=hc 1 (by simp)
 obtain ⟨u3,c3,z3,r3⟩:=hc 2 (by simp)
 obtain rfl:=rep_val r2
 obtain rfl:=rep_val r3
 simp only [Nat.add_zero] at c1 c2 c3
 replace z1:=z1.2
 replace z2:=z2.2
 have HJ:=Lib.hid hJ
 have round:∀ C Z W (wm:KZ Z0 W0 W) (hz:∀ b,Z0 b→Z b),J 0 x C Z W→W0.heap.size≤W.heap.size→YieldAt (Fw none) 0 Tryz.prog l #[.int .i64 0,.int .i64 x] W fun e W'=>
   (e = .returned (.bool true)∧∃ C' Z',J 1 x C' Z' W'∧KZ Z0 W0 W'∧(∀ b,Z0 b→Z' b)∧W0.heap.size≤W'.heap.size)∨(e = .returned (.bool false)∧∃ k' C' Z',Jx k' C' Z' W'):=fun C Z W wm hz hJk hsz=>by
  refine (hY 0 x C Z W _ [.int .i64 0,.int .i64 x] (fun _=>False) rfl hJk (fun _ h=>h.elim) ⟨rfl,fun j hj=>?_⟩ hsz).mono ?_
  ·match j,hj with
   | 0,_=>exact .val _ _
   | 1,_=>exact .val _ _
  ·rintro e W' (⟨rfl,C',Z',q1,q2,q3,q4⟩ | q)
   ·exact .inl ⟨rfl,C',Z',q1,fun b hb=>(q2.block b ((hJ.lt hJk).2 b (hz b hb)) (fun hc=>((hJ.lt hJk).1 b hc).2 (hz b hb))).trans (wm b hb),fun b hb=>q4 b (.inl (hz b hb)),Nat.le_trans hsz q2.size⟩
   ·exact .inr q
 have HR:=Lib.hid round
 clear hJ hY round hv h1 hc r1 r2 r3
 refine callsIn_of_wp Tryz.func314 rfl trivial ?_ rfl
 simp only [Tryz.ntmps314,List.size_toArray,List.length_cons,List.length_nil,Nat.reduceAdd,Nat.reduceSub,Array.replicate_succ,Array.replicate_zero,List.push_toArray,List.append_toArray,List.nil_append,List.cons_append]
 gi_wp2
 gi_loopw [17] (fun i wr=>∃ (k:Nat) (y:Int) (C Z:Nat→Prop),k≤1∧(k=0→y=x)∧i = .int .i64 k∧J k y C Z wr∧KZ Z0 W0 wr∧(∀ b,Z0 b→Z b)∧W0.heap.size≤wr.heap.size)
  (fun i _=>1 - (intOf i).toNat)
 case atStart=>exact ⟨0,x,C0,Z0,Nat.zero_le _,fun _=>rfl,rfl,HJ.out.stable hJ0 ⟨rfl,rfl,rfl,Nat.le_refl _⟩ (fun _ _ _=>rfl),fun _ _=>rfl,fun _ h=>h,Nat.le_refl _⟩
 case round=>
  obtain ⟨k,y,C,Z,hk,hy0,rfl,hJs,hnx,hzz,hsz⟩:=hrel
  by_cases hlt:k<1
  ·obtain rfl:k=0:=by omega
   obtain rfl:=hy0 rfl
   obtain ⟨fn,tmps,assign,body,hy,hR⟩:=HR.out C Z wr hnx hzz hJs hsz
   have d1:=hnx.cell c1 z1
   have d2:=hnx.cell c2 z2
   have d3:=hnx.cell c3 z2
   have dx:wr.cell? ⟨bx,0,none⟩=some (.int .i64 y):=(HJ.out.peek hJs).1.cell 0 (by simp)
   gi_wp2
   refine ⟨rfl,hR.mono ?_⟩
   rintro e W3 (⟨rfl,C',Z',hJ3,hk3,hz3,hs3⟩ | ⟨rfl,hJx3⟩)
   ·clear d1 d2 d3 dx
    have d1:=hk3.cell c1 z1
    have d2:=hk3.cell c2 z2
    have d3:=hk3.cell c3 z2
    have dx:W3.cell? ⟨bx,0,none⟩=some (.int .i64 y):=(HJ.out.peek hJ3).1.cell 0 (by simp)
    have fx:W3.frozen? ⟨bx,0,none⟩=false:=by
     have:=(HJ.out.peek hJ3).1
     unfold Bk at this
     simp [World.frozen?,this]
    gi_wp2
    gi_region
    gi_wp2
    go_roundw
    case rel=>
     have hb:=(HJ.out.peek hJ3).1
     have hX:∀ b,b≠bx→(W3.setCell ⟨bx,0,none⟩ (.int .i64 0)).drew.heap[b]? = W3.heap[b]?:=fun b hb=>by
      show (W3.setCell ⟨bx,0,none⟩ (.int .i64 0)).heap[b]? = _
      simp [World.setCell,Array.getElem?_modify,Ne.symm hb]
     have hsz3:(W3.setCell ⟨bx,0,none⟩ (.int .i64 0)).drew.heap.size=W3.heap.size:=by show (W3.setCell ⟨bx,0,none⟩ (.int .i64 0)).heap.size=_;simp
     refine ⟨1,0,C',Z',Nat.le_refl _,fun h=>absurd h (by omega),rfl,HJ.out.poke (W':=(W3.setCell ⟨bx,0,none⟩ (.int .i64 0)).drew) hJ3 ⟨rfl,rfl,rfl,hsz3⟩ hX ?_,fun b hzb=>(hX b (fun e=>?_)).trans (hk3 b hzb),hz3,by rw [hsz3];exact hs3⟩
     ·unfold Bk at hb ⊢
      show (W3.setCell ⟨bx,0,none⟩ (.int .i64 0)).heap[bx]? = _
      simp [World.setCell,Array.getElem?_modify,hb]
     ·subst e
      exact (HJ.out.peek hJ3).2.1 (hz3 _ hzb)
    case measure=>simp [intOf]
   ·gi_wp2
    refine bodyPost_ret (results_none rfl _ _ _) rfl ?_
    exact ⟨⟨_,rfl⟩,.inr hJx3⟩
  ·obtain rfl:k=1:=by omega
   gi_wp2
   go_end0
   exact ⟨⟨_,rfl⟩,.inl ⟨y,C,Z,hJs⟩⟩

instance ti249:TI Tryz.prog 249 Tryz.t249 (.slice 29):=⟨by kernel_rfl,by kernel_rfl⟩
instance sz249:SZ Tryz.prog 249 1:=SZ.of ti249 rfl
instance zr249:ZR Tryz.prog 249 [.slice none 0 0]:=ZR.of ti249 rfl rfl rfl
instance et249:ET Tryz.prog 249 1:=ET.of ti249 ti29 rfl
theorem rgCheckV_den (p:PD) (n lv:Nat) (sp:Bool) (h:Lv p n lv) (g:Nat→Nat→Nat) (hg:Vg p lv g):Den Tryz.prog 154 [.agg (parL true p),.agg (elL true lv sp (modN p lv sp) n g)] (.val (.int .i64 0)):=by
 have h32:=h.n32
 have l2:=h.l2
 have l24:=h.vp.len2
 have hM:modN p lv sp≤1000000:=by unfold modN;split<;>omega
 have:=rgCheck_den p h.vp (lv:Int) sp (modN p lv sp) (fun _=>n) g (fun _=>by show n≤_;omega) hM
 rw [elOk_valid h hg] at this
 exact this
abbrev balR (p:PD) (lv:Nat) (g:Nat→Nat→Nat) (i j:Nat):Int:=balI (g i j) (modQ p lv i)
abbrev putI (V:Nat→Nat→Int) (i j e x:Nat):Int:=if e<i∨e=i∧x<j then V e x else 0
theorem putI_step {V:Nat→Nat→Int} {i i' j:Nat} {v:Int} (hi:i'=i) (hv:v=V i j) (e x:Nat):setG (fun e x=>[.val (.int .i64 (putI V i j e x))]) i' (setE (fun x=>[.val (.int .i64 (putI V i j i' x))]) j 0 [.val (.int .i64 v)]) e x=[.val (.int .i64 (putI V i (j+1) e x))]:=by
 subst hi hv
 unfold setG
 by_cases q:e=i'
 ·subst q
  rw [if_pos rfl]
  unfold setE
  by_cases q2:x=j
  ·subst q2;simp [putI,setL,takeL,dropL]
  ·have:putI V e (j+1) e x=putI V e j e x:=by unfold putI;by_cases q3:x<j<;>simp [q3]<;>omega
   simp only [q2,if_false,this]
 ·rw [if_neg q]
  simp [putI,q]
theorem putI_row {V:Nat→Nat→Int} {i n e x:Nat} (hx:x<n):putI V i n e x=putI V (i+1) 0 e x:=by
 unfold putI
 by_cases q:e<i∨e=i
 ·rw [if_pos (by omega),if_pos (by omega)]
 ·rw [if_neg (by omega),if_neg (by omega)]
theorem putI_zero {V:Nat→Nat→Int} (e x:Nat):putI V 0 0 e x=0:=if_neg (by omega)
theorem putI_all {V:Nat→Nat→Int} {m e x:Nat} (h:e<m):putI V m 0 e x=V e x:=if_pos (.inl h)
theorem gdasked_ok (p:PD) (n lv:Nat) (hp:PFit p) (hg:Good p.par) (h:Lv p n lv):Den Tryz.prog 291 [.fptr true (parL true p),.val (.int .i64 31),.val (.int .i64 (lv:Int)),.val (.func (.func 292) #[] #[])] (.tup [.fptr false [.fptr true (parL true p),.val (.int .i64 31),.val (.int .i64 1)],.val (.bool true)]):=by
 have l1:=h.l1
 have l2:=h.l2
 have:=gdasked_den p n hp hg h.n (lv:Int)
 rw [decide_eq_true (show (1:Int)≤(lv:Int) by omega),decide_eq_true (show (lv:Int)≤(p.chain.length:Int) by omega)] at this
 exact this
theorem gdDigits0_den (p:PD) (n lv:Nat) (hp:PFit p) (hg:Good p.par) (h:Lv p n lv) (g:Nat→Nat→Nat) (hv:Vg p lv g):Den Tryz.prog 263 [.agg (parL true p),.val (.int .i64 31),.agg (elL true lv false lv n g)]
  (.tup [.fz false (lv*1) 1 (fun i=>[.fz false n 1 (fun j=>[.val (.int .i64 (balR p lv g i j))])]),.val (.int .i64 0)]):=by
 refine den_intro (fn:=Tryz.f263) rfl rfl rfl rfl rfl ?_
 have h32:=h.n32
 have hN:NatIs p.n n:=h.n
 have l1:=h.l1
 have l2:=h.l2
 have l24:=h.vp.len2
 have n4:=h.n4
 refine c_sreg ?_
 refine gor ?_
 refine c_frz 1003 ?_
 refine c_frz 1005 ?_
 refine c_slot 3 (.fptr false (parL true p)) ?_
 refine c_slot 5 (.fptr false (elL true lv false lv n g)) ?_
 refine go ?_
 refine r_callO (gdasked_ok p n lv hp hg h) ?_
 refine go ?_
 refine r_eqS 33 (.val (.bool false)) rfl ?_
 refine r_eqS 34 (.agg (parL true p)) rfl ?_
 refine r_eqS 35 (.agg (elL true lv false lv n g)) rfl ?_
 refine go ?_
 refine r_call (rgCheckV_den p n lv false h g hv) ?_
 refine go ?_
 refine c_no ?_
 refine go ?_
 refine c_mat0 1046 2 Tryz.t2.size n (fun _ _=>[.val (.int .i64 0)]) ?_
 refine c_up (lv*1) (fun i=>[(49,.val (.int .i64 (i:Nat)))]) (fun i=>[(1046,some (.mat 29 2 (lv*1) i Tryz.t2.size n (fun _ _=>[.val (.int .i64 0)])))]) (fun i hi=>?_)
 refine go ?_
 refine c_if (fun h3=>?_) (fun h3=>?_)
 ·refine go ?_
  refine ⟨h3,?_⟩
  refine sub_mat 1046 (fun _ _=>[.val (.int .i64 0)]) (putG_snoc (fun _ _=>rfl)) (fun _ _=>rfl) ?_
  exact sub
 ·obtain rfl:i=lv*1:=by omega
  refine go ?_
  refine c_mat 1046 (fun e x=>[.val (.int .i64 (putI (balR p lv g) 0 0 e x))]) (fun e x _ _=>by rw [putI_zero]) (fun _ _=>rfl) ?_
  refine c_up lv (fun i=>[(62,.val (.int .i64 (i:Nat)))]) (fun i=>[(1046,some (.mat 29 2 (lv*1) (lv*1) Tryz.t2.size n (fun e x=>[.val (.int .i64 (putI (balR p lv g) i 0 e x))])))]) (fun i hi=>?_)
  refine go ?_
  refine c_if (fun h4=>?_) (fun h4=>?_)
  ·refine go ?_
   refine c_up n (fun j=>[(69,.val (.int .i64 (j:Nat)))]) (fun j=>[(1046,some (.mat 29 2 (lv*1) (lv*1) Tryz.t2.size n (fun e x=>[.val (.int .i64 (putI (balR p lv g) i j e x))])))]) (fun j hj=>?_)
   refine go ?_
   refine c_if (fun h5=>?_) (fun h5=>?_)
   ·have hq:=hv i j
    have hqe:modQ p lv i=p.chain.getD i 0:=if_pos h4
    have hm:=h.vp.mods i (by omega)
    simp only [modOk,Bool.and_eq_true,decide_eq_true_eq] at hm
    have hbx:balR p lv g i j=balI (g i j) (p.chain.getD i 0):=by unfold balR;rw [hqe]
    rw [hqe] at hq
    refine go ?_
    refine c_cut0 [(16,.val (.int .i64 (balI (g i j) (p.chain.getD i 0))))] ?_ ?_
    ·refine c_if (fun h6=>?_) (fun h6=>?_)
     ·unfold balI
      rw [if_pos (by omega)]
      refine go ?_
      exact sub
     ·unfold balI
      rw [if_neg (by omega)]
      refine go ?_
      exact sub
    ·have hb : -1073741824≤balI (g i j) (p.chain.getD i 0)∧balI (g i j) (p.chain.getD i 0)≤1073741824:=by unfold balI;split<;>omega
     generalize balI (g i j) (p.chain.getD i 0)=X at *
     refine go ?_
     refine r_callL (gddigits_den p X) (r':=.clo 314 [.fptr false [.fptr true (cutL p)],.eptr 1091 0 0 0]) rfl rfl ?_
     refine go ?_
     refine c_rangeM (α:=Empty) [1008,1010,1012,1014,1046,1091] 1091 (gddigits1_itr p X hb.1 hb.2) 1 rfl (fun _=>[.val (.int .i64 0),.val (.int .i64 X)]) (fun k hk=>match k,hk with | 0,_=>rfl)
      (fun k y=>[(191,some (.lit 2 [.val (.int .i64 y)])),(146,some (.mat 29 2 (lv*1) (lv*1) Tryz.t2.size n (fun e x=>[.val (.int .i64 (putI (balR p lv g) i (j+k) e x))]))),(110,some (.lit 249 [.sl 146 Tryz.t29.size (lv*1)])),(112,some (.lit 3 [.val (.int .i64 (i:Int))])),(114,some (.lit 3 [.val (.int .i64 (j:Int))])),(108,some (.lit 274 [.fptr false [.fptr true (parL true p),.val (.int .i64 31),.val (.int .i64 1)]])),(1005,some (.ice 93 1 3 (fun _=>elL true lv false lv n g))),(1003,some (.ice 25 1 7 (fun _=>parL true p)))])
      (fun _=>[]) (fun _=>False) (fun _=>.ret) (fun _=>True) trivial (fun k y l hk _=>?_) (fun y _=>?_) (fun y=>y.elim)
     ·obtain rfl:k=0:=by omega
      refine go ?_
      refine ⟨trivial,?_⟩
      refine sub_mat 146 (fun e x=>[.val (.int .i64 (putI (balR p lv g) i (j+(0+1)) e x))]) (fun e x _ _=>?_) (fun _ _=>rfl) ?_
      ·exact putI_step (by omega) hbx.symm e x
      ·exact sub
     ·refine go ?_
      refine ⟨h5,?_⟩
      exact sub
   ·obtain rfl:j=n:=by omega
    refine go ?_
    refine ⟨h4,?_⟩
    refine sub_mat 1046 (fun e x=>[.val (.int .i64 (putI (balR p lv g) (i+1) 0 e x))]) (fun e x _ hx=>?_) (fun _ _=>rfl) ?_
    ·rw [putI_row hx]
    ·exact sub
  ·obtain rfl:i=lv:=by omega
   refine go ?_
   refine fin_mat 1046 (fun e x=>[.val (.int .i64 (balR p i g e x))]) (fun e x he _=>?_) (fun _ _=>rfl) ?_
   ·rw [putI_all (by omega)]
   ·refine fin_freezeM 1046 ?_
    refine fin ?_
    exact cv
theorem gdDigits_den (p:PD) (n lv:Nat) (hp:PFit p) (hg:Good p.par) (h:Lv p n lv) (g:Nat→Nat→Nat) (hv:Vg p lv g):Den Tryz.prog 263 [.agg (parL true p),.val (.int .i64 31),.agg (elL true lv false lv n g)]
  (.tup [.fz false lv 1 (fun i=>[.fz false n 1 (fun j=>[.val (.int .i64 (balR p lv g i j))])]),.val (.int .i64 0)]):=by
 have:=gdDigits0_den p n lv hp hg h g hv
 rw [Nat.mul_one] at this
 exact this

def mulIntV (p:PD) (lv:Nat) (m:Int) (A:Nat→Nat→Nat) (r j:Nat):Nat:=(A r j*resI m (modQ p lv r)) % modQ p lv r
def addV (p:PD) (lv:Nat) (A B:Nat→Nat→Nat) (r j:Nat):Nat:=(A r j+B r j) % modQ p lv r
def subV (p:PD) (lv:Nat) (A B:Nat→Nat→Nat) (r j:Nat):Nat:=(A r j+modQ p lv r - B r j) % modQ p lv r
def intV (p:PD) (lv:Nat) (x:Nat→Int) (r j:Nat):Nat:=resI (x j) (modQ p lv r)
section
variable {p:PD} {n lv:Nat}
theorem Lv.q0 (h:Lv p n lv) (r:Nat):0<modQ p lv r:=by have:=modQ_in h.vp h.sp h.l2 r;omega
theorem vg_mulInt (h:Lv p n lv) (m:Int) (A:Nat→Nat→Nat):Vg p lv (mulIntV p lv m A):=fun r j=>Nat.mod_lt _ (h.q0 r)
theorem vg_add (h:Lv p n lv) (A B:Nat→Nat→Nat):Vg p lv (addV p lv A B):=fun r j=>Nat.mod_lt _ (h.q0 r)
theorem vg_sub (h:Lv p n lv) (A B:Nat→Nat→Nat):Vg p lv (subV p lv A B):=fun r j=>Nat.mod_lt _ (h.q0 r)
theorem vg_int (h:Lv p n lv) (x:Nat→Int):Vg p lv (intV p lv x):=fun r j=>resI_lt (h.q0 r)
end

abbrev partsL (lv n:Nat) (A:Nat→Nat→Nat→Nat):List D:=elL true lv false lv n (A 0)++(elL true lv false lv n (A 1)++elL true lv false lv n (fun _ _=>0))
section
variable {ro:Option Nat} {P:Program} {N:Nat} {Q:Post} {c:Code} {env:List (Nat × D)} {box:List (Nat × Option Box)}
theorem c_lit (k:Nat) {t:TypeId} {l:List D} (l':List D) (hc:SlotCvL (hk box) l l') (h:AWp ro P N c (lk env) (hk ((k,some (.lit t l'))::box)) Q) (hf:(Box.lit t l').free (fun k=>(hk box k).isSome)=true:=by kernel_rfl) (hb:autoParam (Bl box k (.lit t l)) aq6._auto_1):AWp ro P N c (lk env) (hk box) Q:=awp_sub (sub_box k _ (by rw [hb.eq];exact BoxCv.lit hc) hf) h
end

instance (lv n:Nat) (A:Nat→Nat→Nat→Nat):OldDL (partsL lv n A):=(inferInstance:OldDL [.val (.int .i64 (lv:Int)),.val (.bool false),rowsD true lv n (A 0),.val (.int .i64 (lv:Int)),.val (.bool false),rowsD true lv n (A 1),.val (.int .i64 (lv:Int)),.val (.bool false),rowsD true lv n (fun _ _=>0)])

theorem resI_m1 {q:Nat} (h:0<q):resI (-1) q=q - 1:=by
 have h1:=resI_cast (x:= -1) h
 have h2:(-1:Int) % (q:Int)=(q:Int) - 1:=by
  rw [show (-1:Int)=((q:Int) - 1)+(q:Int)*(-1) by omega,Int.add_mul_emod_self_left]
  exact Int.emod_eq_of_lt (by omega) (by omega)
 omega
theorem neg_mod {b q:Nat} (hq:0<q) (hb:b<q):b*(q - 1) % q=(q - b) % q:=by
 have h:b*(q - 1)+b=b*q:=by
  rw [Nat.mul_sub_one]
  have:=Nat.le_mul_of_pos_right b hq
  omega
 have e:(b*(q - 1)+b) % q=(q - b+b) % q:=by rw [h,Nat.sub_add_cancel (by omega)];simp
 have:=Nat.add_mod_eq_add_mod_right (q - b) e
 rw [Nat.add_assoc,show b+(q - b)=q by omega,Nat.add_mod_right,Nat.add_assoc,show b+(q - b)=q by omega,Nat.add_mod_right] at this
 exact this

abbrev elM (lv:Nat) (sp:Bool) (k M:Nat):List D:=[.val (.int .i64 (lv:Int)),.val (.bool sp),.sl k 1 M]
abbrev u32M (M n:Nat) (g:Nat→Nat→Nat):Box:=.mat 23 22 M M 1 n (fun k j=>[.val (.int .u32 ((g k j:Nat):Int))])

instance (f:FuncId):Cvt (.val (.func (.func f) #[] #[])) (.clo f []):=⟨fun _ hv=>by
 cases hv
 exact .clo _ f [] [] rfl (fun j hj=>by simp at hj)⟩

abbrev zeroC:List D:=[.val (.int .i64 0),.val (.int .i64 0),.val (.slice none 0 0)]
end Go.Proofs.YtdcenblblimkfaaGreat
