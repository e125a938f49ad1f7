/- Parameters by data: what the elder walks say of Check and Default.
Which levels, exponents, elements and ciphertexts are valid; what is too large: by data.
The plain modulus: by data.
Equal lists, elements, ciphertexts: by data.
Which ciphertexts are valid: by data.
noise: must, the tests, require.
noise: product, sum, modulus, half.
noise: quotient. (Printed by mknzc.py.)
noise: calculate, and its deferred closure. By hand.
The reference's ring, by data: elements of integers.
Ciphertexts without a key: by data.
Ciphertexts without a key: by data.
Arithmetic with ciphertexts, by data: valid ones, parts made one by one.
The small parameters of the examples; literal lists as arguments: by data.
Arithmetic with ciphertexts, by data: sums and differences.
Arithmetic with ciphertexts, by data: combine, Add, Sub.
Laws of the rings: plain. No walk. -/
import Derived.Test.YtdcenblblimkfaaGreatPn14
import Derived.Test.YtdcenblblimkfaaGreatPn30
import Derived.Test.YtdcenblblimkfaaGreatPn29
import Derived.Test.YtdcenblblimkfaaGreatPn08
import Derived.Test.YtdcenblblimkfaaGreatPn06
import Derived.Test.YtdcenblblimkfaaGreatPn15
import Derived.Test.YtdcenblblimkfaaGreatPn18
import Derived.WalkKit
import Derived.WalkSpells
import Derived.WalkLawsBesides
import Derived.BigQuiet
import Derived.Outline
import Derived.Defers
import Derived.Recover
import Derived.Lib.Hide
import Derived.Shelf.Abstract
import Derived.RegionTactic
import Derived.ChangeAlike
import Derived.RowKit3
set_option linter.unusedSimpArgs false
set_option linter.unusedVariables false
set_option linter.unnecessarySimpa false
set_option linter.unusedSectionVars false
namespace Go.Proofs.YtdcenblblimkfaaGreat
open Go.RowKit
set_option maxRecDepth 20000
set_option maxHeartbeats 4000000
def PD.par (p:PD):Par:=⟨p.n,p.prime,p.power,p.chain,p.special,p.weight,p.err⟩
structure PFit (p:PD):Prop where
 n1 : -9223372036854775808≤p.n
 n2:p.n≤9223372036854775807
 prime:p.prime≤4294967295
 power1 : -9223372036854775808≤p.power
 power2:p.power≤9223372036854775807
 chain:∀ i,i<p.chain.length→p.chain.getD i 0≤4294967295
 special:p.special≤4294967295
 weight1 : -9223372036854775808≤p.weight
 weight2:p.weight≤9223372036854775807
 err:p.err≤4294967295
theorem rep_agg {Z:Zn} {w:World} {i:Nm} {v:Value} {l:List D} (h:Rep Z w i v (.agg l)):∃ vs:List Value,v = .agg vs.toArray∧vs.length=l.length∧∀ j,j<l.length→Rep Z w i (vs.getD j undef) (dl l j):=by
 cases h with | agg _ vs _ hl h1 hr=>exact ⟨vs,rfl,hl,hr⟩
theorem rep_u32s {Z:Zn} {w:World} {i:Nm} {v:Value} {l:List Nat} (h:Rep Z w i v (u32sD true l)):∃ ao cc,v = .slice ao l.length cc∧l.length≤cc∧cc≤9223372036854775807∧Rd w ao l:=by
 unfold u32sD at h
 cases h with | fz _ _ ao _ cap _ _ vs h1 h2 hl ha hr=>
 refine ⟨ao,cap,rfl,h1,h2,fun k hk=>?_⟩
 obtain ⟨b,p,e,_,_,_⟩:=ha k 0 hk (by omega)
 refine ⟨b,p,e,fun j hj=>?_⟩
 obtain ⟨b',p',e',_,hc,_⟩:=ha j 0 hj (by omega)
 rw [e] at e';cases e'
 have:=rep_val (hr j 0 hj (by omega))
 rw [this] at hc
 simpa using hc
theorem rep_par {Z:Zn} {w:World} {i:Nm} {v:Value} {p:PD} (hp:PFit p) (h:Rep Z w i v (.agg (parL true p))):∃ ca cc,v = .agg (p.par.cells ca cc)∧ParIn w p.par ca cc:=by
 obtain ⟨vs,rfl,hl,hr⟩:=rep_agg h
 match vs,hl with
 | [v0,v1,v2,v3,v4,v5,v6],_=>
  have r0:=rep_val (hr 0 (by simp [parL]))
  have r1:=rep_val (hr 1 (by simp [parL]))
  have r2:=rep_val (hr 2 (by simp [parL]))
  obtain ⟨ca,cc,r3,h1,h2,h3⟩:=rep_u32s (hr 3 (by simp [parL]))
  have r4:=rep_val (hr 4 (by simp [parL]))
  have r5:=rep_val (hr 5 (by simp [parL]))
  have r6:=rep_val (hr 6 (by simp [parL]))
  change v0=_ at r0
  change v1=_ at r1
  change v2=_ at r2
  change v3=_ at r3
  change v4=_ at r4
  change v5=_ at r5
  change v6=_ at r6
  subst r0 r1 r2 r3 r4 r5 r6
  exact ⟨ca,cc,rfl,{ rd:=h3,n1:=hp.n1,n2:=hp.n2,prime:=hp.prime,power1:=hp.power1,power2:=hp.power2,len:=by show p.chain.length≤_;omega,room:=h1,room2:=h2,chain:=hp.chain,special:=hp.special,weight1:=hp.weight1,weight2:=hp.weight2,err:=hp.err }⟩
theorem den_elder1 {P:Program} {f:FuncId} {d:D} {u:Value} (h:∀ Z w i v,Rep Z w i v d→Calls P f #[v] w fun e w'=>e = .returned u∧Below w.heap.size w w'):Den P f [d] (.val u):=fun Zc w i args hZ hi hH ha=>by
 obtain ⟨hl,hr⟩:=ha
 match args,hl with
 | [v],_=>
  refine (h _ w i v (hr 0 (by simp))).mono fun e w' ⟨he,hb⟩=>?_
  have hi':∀ k,i k=none:=fun k=>hi k (by simp [Hs.keys])
  exact ⟨u,i,fun _=>False,he,Kept.of_below hb _,fun b hb=>hb.elim,fun k hk=>by simp [Hs.keys] at hk,fun k _ _=>hi' k,fun k B b hm=>by simp at hm,fun k B hm=>by simp at hm,⟨fun k B hm=>by simp at hm,fun k k' B B' b hm=>by simp at hm⟩,.val _ _⟩
open Classical in
noncomputable def goodB (p:PD):Bool:=tr (Good p.par)
theorem goodB_iff {p:PD}:goodB p=true↔Good p.par:=by
 unfold goodB
 by_cases h:Good p.par
 ·rw [tr_pos h];simp [h]
 ·rw [tr_neg h];simp [h]
theorem pcheck_den (p:PD) (hp:PFit p):Den Tryz.prog 155 [.agg (parL true p)] (.val (.int .i64 (errI (goodB p)))):=den_elder1 fun Z w i v hv=>by
 obtain ⟨ca,cc,rfl,hin⟩:=rep_par hp hv
 exact pcheck_walk p.par ca cc w hin
theorem r12check_den (p:PD) (hp:PFit p):Den Tryz.prog 41 [.agg (parL true p)] (.val (.int .i64 (errI (goodB p)))):=den_elder1 fun Z w i v hv=>by
 obtain ⟨ca,cc,rfl,hin⟩:=rep_par hp hv
 exact r12check_walk p.par ca cc w hin
theorem goodQ_mod {step q:Nat} (he:step % 2=0) (h:GoodQ step q):modOk q=true:=by
 obtain ⟨h1,h2,h3,_⟩:=h
 have h4:q % 2=1:=by
  have:=Nat.mod_mod_of_dvd q (Nat.dvd_of_mod_eq_zero he)
  rw [h3] at this
  omega
 unfold modOk
 rw [decide_eq_true h4,decide_eq_true h2,decide_eq_true (show 3≤q by omega)];rfl
theorem hasI_no {p:Nat→Bool} {n:Nat} (h:∀ e,e<n→p e=false):hasI p n=false:=by
 cases q:hasI p n with
 | false=>rfl
 | true=>obtain ⟨e,h1,h2⟩:=hasI_spec.1 q;rw [h e h1] at h2;cases h2
theorem good_VP {p:PD} (h:Good p.par):VP p:=by
 obtain ⟨h1,h2,h3,_,_,_,_,h8,h9,h10⟩:=h
 have he:(2*p.par.n.toNat*plainV p.par.n.toNat p.par.prime p.par.power) % 2=0:=by rw [Nat.mul_assoc];exact Nat.mul_mod_right _ _
 exact { n:=h1,len1:=h2,len2:=h3,mods:=fun j hj=>goodQ_mod he (h9 j hj).1,apart:=fun j hj=>hasI_no fun e he=>decide_eq_false fun q=>h10 e j he hj q.symm,special:=.inr ⟨goodQ_mod he h8,hasI_no fun e he=>decide_eq_false fun q=>by have:=(h9 e he).2;simp only [PD.par] at this;omega⟩ }
theorem r12default_den (n prime lv t q0:Nat) (power:Int) (qs:List Nat) (hn:n=4∨n=8∨n=16∨n=32) (hp:prime≤4294967295) (hw1 : -9223372036854775808≤power) (hw2:power≤9223372036854775807) (hl1:1≤lv) (hl2:lv≤24)
  (hT:plainV n prime power=t) (ht:3≤t) (ht2:t≤2147483647) (hto:t % 2=1) (hst:2*n*t≤2147483647) (hch:chainOf n t (lv+1)=q0::qs) (hqs:qs.length=lv) :
  Den Tryz.prog 159 [.val (.int .i64 (n:Int)),.val (.int .u32 (prime:Int)),.val (.int .i64 power),.val (.int .i64 (lv:Int))] (.tup [.agg (parL false ⟨n,prime,power,qs,q0,4,2⟩),.val (.int .i64 0)]):=fun Zc w i args hZ hi hH ha=>by
 obtain ⟨hl,hr⟩:=ha
 match args,hl with
 | [v0,v1,v2,v3],_=>
  have r0:=rep_val (hr 0 (by simp))
  have r1:=rep_val (hr 1 (by simp))
  have r2:=rep_val (hr 2 (by simp))
  have r3:=rep_val (hr 3 (by simp))
  change v0=_ at r0
  change v1=_ at r1
  change v2=_ at r2
  change v3=_ at r3
  subst r0 r1 r2 r3
  refine (r12default_own n prime lv t q0 power qs w hn hp hw1 hw2 hl1 hl2 hT ht ht2 hto hst hch hqs).mono fun e w' ⟨ca,cc,he,hin,hown,hb⟩=>?_
  have hi':∀ k,i k=none:=fun k=>hi k (by simp [Hs.keys])
  obtain ⟨b,o,rfl,hcell⟩:=hin.rd 0 (by show 0<qs.length;omega)
  have hge:w.heap.size≤b:=by
   by_cases hlt:b<w.heap.size
   ·have hq:=(hown (w'.setCell ⟨b,o,none⟩ (.bool true)) [b] ((Turn.refl w' [b]).setCell (p:=⟨b,o,none⟩) (.inl (by simp)) (.bool true)) (fun x hx=>by simp at hx;omega)).rd 0 (by show 0<qs.length;omega)
    obtain ⟨b',o',e',hc'⟩:=hq
    cases e'
    have h2:=hc' 0 (by show 0<qs.length;omega)
    have h3:=hcell 0 (by show 0<qs.length;omega)
    rw [Nat.add_zero] at h2 h3
    have h4:=World.cell?_setCell_same w' ⟨b,o,none⟩ (.bool true) h3
    rw [h4] at h2;cases h2
   ·omega
  have hlt:b<w'.heap.size:=by
   have h3:=hcell 0 (by show 0<qs.length;omega)
   unfold World.cell? at h3
   by_cases q:b<w'.heap.size
   ·exact q
   ·rw [Array.getElem?_eq_none (by show w'.heap.size≤b;omega)] at h3;cases h3
  refine ⟨_,i,fun x=>x=b,he,Kept.of_below hb _,fun x hx=>by subst hx;exact ⟨hge,hlt⟩,fun k hk=>by simp [Hs.keys] at hk,fun k _ _=>hi' k,fun k B b hm=>by simp at hm,fun k B hm=>by simp at hm,⟨fun k B hm=>by simp at hm,fun k k' B B' b hm=>by simp at hm⟩,?_⟩
  refine .tup i [_,_] _ rfl fun j hj=>?_
  match j,hj with
  | 1,_=>exact .val _ _
  | 0,_=>
   refine .agg i [_,_,_,_,_,_,_] _ rfl (fun j hj=>?_) fun j hj=>?_
   ·match j,hj with
    | 0,_ | 1,_ | 2,_ | 3,_ | 4,_ | 5,_ | 6,_=>rfl
   ·match j,hj with
    | 0,_=>exact .val _ _
    | 1,_=>exact .val _ _
    | 2,_=>exact .val _ _
    | 4,_=>exact .val _ _
    | 5,_=>exact .val _ _
    | 6,_=>exact .val _ _
    | 3,_=>
     refine .fz i false (some ⟨b,o,none⟩) qs.length cc 1 _ (fun e _=>.int .u32 (qs.getD e 0)) hin.room hin.room2 (fun _ _=>rfl) (fun e c he hc=>?_) (fun e c he hc=>?_)
     ·obtain rfl:c=0:=by omega
      exact ⟨b,o,rfl,rfl,by rw [Nat.mul_one,Nat.add_zero];exact hcell e he,rfl⟩
     ·obtain rfl:c=0:=by omega
      exact .val _ _

instance fi167:FI Tryz.prog 167 Tryz.f167:=⟨Tryz.func167,Tryz.call167⟩
instance fi284:FI Tryz.prog 284 Tryz.f284:=⟨Tryz.func284,Tryz.call284⟩
instance fi155:FI Tryz.prog 155 Tryz.f155:=⟨Tryz.func155,Tryz.call155⟩
instance fi41:FI Tryz.prog 41 Tryz.f41:=⟨Tryz.func41,Tryz.call41⟩
instance fi159:FI Tryz.prog 159 Tryz.f159:=⟨Tryz.func159,Tryz.call159⟩
instance fi62:FI Tryz.prog 62 Tryz.f62:=⟨Tryz.func62,Tryz.call62⟩
instance fi28:FI Tryz.prog 28 Tryz.f28:=⟨Tryz.func28,Tryz.call28⟩
instance fi172:FI Tryz.prog 172 Tryz.f172:=⟨Tryz.func172,Tryz.call172⟩
instance fi173:FI Tryz.prog 173 Tryz.f173:=⟨Tryz.func173,Tryz.call173⟩
instance fi34:FI Tryz.prog 34 Tryz.f34:=⟨Tryz.func34,Tryz.call34⟩
instance fi272:FI Tryz.prog 272 Tryz.f272:=⟨Tryz.func272,Tryz.call272⟩
instance fi273:FI Tryz.prog 273 Tryz.f273:=⟨Tryz.func273,Tryz.call273⟩
instance fi274:FI Tryz.prog 274 Tryz.f274:=⟨Tryz.func274,Tryz.call274⟩
instance fi243:FI Tryz.prog 243 Tryz.f243:=⟨Tryz.func243,Tryz.call243⟩
instance fi61:FI Tryz.prog 61 Tryz.f61:=⟨Tryz.func61,Tryz.call61⟩
instance fi11:FI Tryz.prog 11 Tryz.f11:=⟨Tryz.func11,Tryz.call11⟩
noncomputable def stB (p:PD) (lv ex:Int):Bool:=decide (errI (goodB p)=0) && decide (1≤lv) && decide (lv≤(p.chain.length:Int)) && decide (1≤ex) && decide (ex≤p.power)
instance (p:PD):CvtLI (parL false p) (parL true p):=by unfold parL u32sD;infer_instance
theorem errI_0 (b:Bool):decide (errI b=0)=b:=by cases b<;>rfl
theorem r14State_den (p:PD) (hp:PFit p) (lv ex:Int):Den Tryz.prog 28 [.agg (parL true p),.val (.int .i64 lv),.val (.int .i64 ex)] (.val (.bool (stB p lv ex))):=by
 refine den_intro (fn:=Tryz.f28) rfl rfl rfl rfl rfl ?_
 refine go ?_
 refine r_call (r12check_den p hp) ?_
 refine go ?_
 refine fin ?_
 exact cv

theorem r13Plain_den (p:PD) (ex:Nat) (hb:∀ i,i≤ex→p.prime ^ i≤2147483647) (hx:ex≤1000000):Den Tryz.prog 34 [.agg (parL true p),.val (.int .i64 (ex:Int))] (.val (.int .i64 ((p.prime ^ ex:Nat):Int))):=by
 refine den_intro (fn:=Tryz.f34) rfl rfl rfl rfl rfl ?_
 refine go ?_
 obtain ⟨pw,h0,hs,he,hbw⟩:∃ pw:Nat→Nat,pw 0=1∧(∀ j,pw (j+1)=pw j*p.prime)∧pw ex=p.prime ^ ex∧∀ i,i≤ex→pw i≤2147483647:=⟨fun j=>p.prime ^ j,rfl,fun j=>Nat.pow_succ ..,rfl,hb⟩
 rw [← he]
 refine c_up ex (fun j=>[(6,.val (.int .i64 (j:Nat))),(5,.val (.int .i64 ((pw j:Nat):Int)))]) (fun _=>[]) (fun j hj=>?_)
 refine go ?_
 refine c_if (fun h3=>?_) (fun h3=>?_)
 ·have hq:=hbw (j+1) (by omega)
  rw [hs j] at hq
  have hp1:=hb 1 (by omega)
  rw [Nat.pow_one] at hp1
  refine go ?_
  exact ⟨h3,sub⟩
 ·obtain rfl:j=ex:=by omega
  refine go ?_
  refine fin ?_
  exact cv

instance fi174:FI Tryz.prog 174 Tryz.f174:=⟨Tryz.func174,Tryz.call174⟩
instance fi76:FI Tryz.prog 76 Tryz.f76:=⟨Tryz.func76,Tryz.call76⟩
instance fi17:FI Tryz.prog 17 Tryz.f17:=⟨Tryz.func17,Tryz.call17⟩
instance fi166:FI Tryz.prog 166 Tryz.f166:=⟨Tryz.func166,Tryz.call166⟩

structure St (p:PD) (lv ex:Int):Prop where
 good:Good p.par
 l1:1≤lv
 l2:lv≤(p.chain.length:Int)
 e1:1≤ex
 e2:ex≤p.power
theorem good_special {p:PD} (h:Good p.par):p.special≠0:=fun e=>by
 have:=h.2.2.2.2.2.2.2.1.1
 simp only [PD.par] at this
 omega

instance ti31:TI Tryz.prog 31 Tryz.t31 Tryz.t31.desc:=⟨by kernel_rfl,by kernel_rfl⟩
instance ti186:TI Tryz.prog 186 Tryz.t186 Tryz.t185.desc:=⟨by kernel_rfl,by kernel_rfl⟩
instance ti188:TI Tryz.prog 188 Tryz.t188 (.slice 31):=⟨by kernel_rfl,by kernel_rfl⟩
instance zr186:ZR Tryz.prog 186 [.int .i64 0]:=ZR.of ti186 rfl rfl rfl
instance bt186:BT Tryz.prog 186 [(0,1)] [.int .i64 0]:=BT.of (ns:=[1]) ti186 rfl zr186.zr ⟨sz34.sz,trivial⟩ (by intro j;repeat (first | rfl | cases j with | zero=>rfl | succ j=>?_))
instance et188:ET Tryz.prog 188 1:=ET.of ti188 ti31 rfl
instance fi85:FI Tryz.prog 85 Tryz.f85:=⟨Tryz.func85,Tryz.call85⟩
instance fi80:FI Tryz.prog 80 Tryz.f80:=⟨Tryz.func80,Tryz.call80⟩
instance fi83:FI Tryz.prog 83 Tryz.f83:=⟨Tryz.func83,Tryz.call83⟩
instance fi178:FI Tryz.prog 178 Tryz.f178:=⟨Tryz.func178,Tryz.call178⟩
instance fi82:FI Tryz.prog 82 Tryz.f82:=⟨Tryz.func82,Tryz.call82⟩
instance fi177:FI Tryz.prog 177 Tryz.f177:=⟨Tryz.func177,Tryz.call177⟩
instance fi81:FI Tryz.prog 81 Tryz.f81:=⟨Tryz.func81,Tryz.call81⟩
instance fi176:FI Tryz.prog 176 Tryz.f176:=⟨Tryz.func176,Tryz.call176⟩
set_option maxHeartbeats 8000000
abbrev flK (e:Nat):Nat:=1000*186+e
theorem nzmust_ok (b:Bool) (s:ByteArray):Den Tryz.prog 85 [wS b s,.val (.int .i64 0)] (wS b s):=by
 refine den_intro (fn:=Tryz.f85) rfl rfl rfl rfl rfl ?_
 refine go ?_
 refine fin ?_
 exact cv
theorem nzmust_no (b:Bool) (s:ByteArray):DenX Tryz.prog 85 [wS b s,.val (.int .i64 7)] (flK 7):=by
 refine den_introX (fn:=Tryz.f85) rfl rfl ?_
 refine go ?_
 refine r_eqS 8 (.agg [.val (.int .i64 7)]) rfl ?_
 refine r_mkif ?_
 refine r_panic 7 (flK 7) rfl (by omega) ?_
 refine c_end (by kernel_rfl) ?_
 exact c_deadB 1999
theorem nzbound1_den (b:Bool) (s:ByteArray):Den Tryz.prog 178 [.fptr true [.val (.bool b),.val (.string s)]] (.val (.bool (vldB b s && !b))):=by
 refine den_intro (fn:=Tryz.f178) rfl rfl rfl rfl rfl ?_
 refine go ?_
 refine r_call (wValid_den b s) ?_
 refine go ?_
 refine fin ?_
 exact cv
theorem nzbound_den (b:Bool) (s:ByteArray):Den Tryz.prog 83 [wS b s] (.clo 178 [.fptr false [.val (.bool b),.val (.string s)]]):=by
 refine den_intro (fn:=Tryz.f83) rfl rfl rfl rfl rfl ?_
 refine go ?_
 refine fin_frz 1001 ?_
 refine fin ?_
 exact cv
theorem nzwithin1_den (n l h:Int):Den Tryz.prog 177 [.fptr true [.val (.int .i64 n)],.fptr true [.val (.int .i64 l)],.fptr true [.val (.int .i64 h)]] (.val (.bool (decide (l≤n) && decide (n≤h)))):=by
 refine den_intro (fn:=Tryz.f177) rfl rfl rfl rfl rfl ?_
 refine go ?_
 refine fin ?_
 exact cv
theorem nzwithin_den (n l h:Int):Den Tryz.prog 82 [.val (.int .i64 n),.val (.int .i64 l),.val (.int .i64 h)] (.clo 177 [.fptr false [.val (.int .i64 n)],.fptr false [.val (.int .i64 l)],.fptr false [.val (.int .i64 h)]]):=by
 refine den_intro (fn:=Tryz.f82) rfl rfl rfl rfl rfl ?_
 refine go ?_
 refine fin_frz 1003 ?_
 refine fin_frz 1004 ?_
 refine fin_frz 1005 ?_
 refine fin ?_
 exact cv
theorem nzvalid1_den (p:PD) (hp:PFit p):Den Tryz.prog 176 [.fptr true (parL true p)] (.val (.bool (goodB p))):=by
 have hc:=pcheck_den p hp
 have hb:decide (errI (goodB p)=0)=goodB p:=by cases goodB p<;>rfl
 rw [← hb]
 refine den_intro (fn:=Tryz.f176) rfl rfl rfl rfl rfl ?_
 refine go ?_
 refine r_call hc ?_
 refine go ?_
 refine fin ?_
 exact cv
theorem nzvalid_den (p:PD):Den Tryz.prog 81 [.agg (parL true p)] (.clo 176 [.fptr false (parL true p)]):=by
 refine den_intro (fn:=Tryz.f81) rfl rfl rfl rfl rfl ?_
 refine go ?_
 refine fin_frz 1001 ?_
 refine fin ?_
 exact cv
inductive Ts where
 | v (p:PD)
 | w (n l h:Int)
 | b (neg:Bool) (s:ByteArray)
def Ts.d:Ts→D
 | .v p=>.clo 176 [.fptr true (parL true p)]
 | .w n l h=>.clo 177 [.fptr true [.val (.int .i64 n)],.fptr true [.val (.int .i64 l)],.fptr true [.val (.int .i64 h)]]
 | .b neg s=>.clo 178 [.fptr true [.val (.bool neg),.val (.string s)]]
def Ts.dF:Ts→D
 | .v p=>.clo 176 [.fptr false (parL true p)]
 | .w n l h=>.clo 177 [.fptr false [.val (.int .i64 n)],.fptr false [.val (.int .i64 l)],.fptr false [.val (.int .i64 h)]]
 | .b neg s=>.clo 178 [.fptr false [.val (.bool neg),.val (.string s)]]
noncomputable def Ts.ok:Ts→Bool
 | .v p=>goodB p
 | .w n l h=>decide (l≤n) && decide (n≤h)
 | .b neg s=>vldB neg s && !neg
def Ts.fit:Ts→Prop
 | .v p=>PFit p
 | _=>True
theorem nzrequire_ok (n:Nat) (t:Nat→Ts) (hn:n≤10) (hf:∀ e,e<n→(t e).fit) (hk:∀ e,e<n→(t e).ok=true):Den Tryz.prog 80 [.fz true n 1 (fun e=>[(t e).d])] (.tup []):=by
 refine den_intro (fn:=Tryz.f80) rfl rfl rfl rfl rfl ?_
 refine go ?_
 refine c_up n (fun i=>[(6,.val (.int .i64 (i:Nat)))]) (fun _=>[]) (fun i hi=>?_)
 refine go ?_
 refine c_if (fun h=>?_) (fun h=>?_)
 ·have hf:=hf i h
  have hk:=hk i h
  refine goc ?_
  refine c_reg ?_
  refine go1 ?_
  cases ht:t i with
  | v p=>
   rw [ht] at hf hk
   have hd:=nzvalid1_den p hf
   rw [show goodB p=true from hk] at hd
   refine r_eqS 8 (.fptr true [.clo 176 [.fptr true (parL true p)]]) (d:=.fptr true [(Ts.v p).d]) rfl ?_
   refine go ?_
   refine r_call hd ?_
   refine go ?_
   refine c_no ?_
   refine go ?_
   refine ⟨h,?_⟩
   exact sub
  | w a b c=>
   rw [ht] at hf hk
   have hd:=nzwithin1_den a b c
   rw [show (decide (b≤a) && decide (a≤c))=true from hk] at hd
   refine r_eqS 8 (.fptr true [.clo 177 [.fptr true [.val (.int .i64 a)],.fptr true [.val (.int .i64 b)],.fptr true [.val (.int .i64 c)]]]) (d:=.fptr true [(Ts.w a b c).d]) rfl ?_
   refine go ?_
   refine r_call hd ?_
   refine go ?_
   refine c_no ?_
   refine go ?_
   refine ⟨h,?_⟩
   exact sub
  | b neg s=>
   rw [ht] at hf hk
   have hd:=nzbound1_den neg s
   rw [show (vldB neg s && !neg)=true from hk] at hd
   refine r_eqS 8 (.fptr true [.clo 178 [.fptr true [.val (.bool neg),.val (.string s)]]]) (d:=.fptr true [(Ts.b neg s).d]) rfl ?_
   refine go ?_
   refine r_call hd ?_
   refine go ?_
   refine c_no ?_
   refine go ?_
   refine ⟨h,?_⟩
   exact sub
 ·obtain rfl:i=n:=by omega
  refine go ?_
  refine fin ?_
  exact cv
theorem nzrequire_no (n m:Nat) (t:Nat→Ts) (hn:n≤10) (hm:m<n) (hf:∀ e,e<n→(t e).fit) (hk:∀ e,e<m→(t e).ok=true) (hno:(t m).ok=false):DenX Tryz.prog 80 [.fz true n 1 (fun e=>[(t e).d])] (flK 2):=by
 refine den_introX (fn:=Tryz.f80) rfl rfl ?_
 refine go ?_
 refine c_down (α:=Nat) (fun i=>m+1 - i) (fun i=>i≤m) (fun i:Nat=>[(6,.val (.int .i64 (i:Nat)))]) (fun _=>[]) 0 (fun i hi=>?_) (Nat.zero_le _)
 have h:i<n:=by omega
 have hf:=hf i h
 refine go ?_
 rcases Nat.lt_or_ge i m with q | q
 ·have hk:=hk i q
  cases ht:t i with
  | v p=>
   rw [ht] at hf hk
   have hd:=nzvalid1_den p hf
   rw [show goodB p=true from hk] at hd
   refine r_eqS 10 (.clo 176 [.fptr true (parL true p)]) (d:=(Ts.v p).d) rfl ?_
   refine r_call hd ?_
   refine go ?_
   refine c_no ?_
   refine go ?_
   refine ⟨i+1,by omega,by omega,?_⟩
   exact sub
  | w a b c=>
   rw [ht] at hf hk
   have hd:=nzwithin1_den a b c
   rw [show (decide (b≤a) && decide (a≤c))=true from hk] at hd
   refine r_eqS 10 (.clo 177 [.fptr true [.val (.int .i64 a)],.fptr true [.val (.int .i64 b)],.fptr true [.val (.int .i64 c)]]) (d:=(Ts.w a b c).d) rfl ?_
   refine r_call hd ?_
   refine go ?_
   refine c_no ?_
   refine go ?_
   refine ⟨i+1,by omega,by omega,?_⟩
   exact sub
  | b neg s=>
   rw [ht] at hf hk
   have hd:=nzbound1_den neg s
   rw [show (vldB neg s && !neg)=true from hk] at hd
   refine r_eqS 10 (.clo 178 [.fptr true [.val (.bool neg),.val (.string s)]]) (d:=(Ts.b neg s).d) rfl ?_
   refine r_call hd ?_
   refine go ?_
   refine c_no ?_
   refine go ?_
   refine ⟨i+1,by omega,by omega,?_⟩
   exact sub
 ·obtain rfl:i=m:=by omega
  cases ht:t i with
  | v p=>
   rw [ht] at hf hno
   have hd:=nzvalid1_den p hf
   rw [show goodB p=false from hno] at hd
   refine r_eqS 10 (.clo 176 [.fptr true (parL true p)]) (d:=(Ts.v p).d) rfl ?_
   refine r_call hd ?_
   refine go ?_
   refine c_yes ?_
   refine go ?_
   refine r_eqS 13 (.agg [.val (.int .i64 2)]) rfl ?_
   refine r_mkif ?_
   refine r_panic 2 (flK 2) rfl (by omega) ?_
   refine c_end (by kernel_rfl) ?_
   exact c_deadB 1999
  | w a b c=>
   rw [ht] at hf hno
   have hd:=nzwithin1_den a b c
   rw [show (decide (b≤a) && decide (a≤c))=false from hno] at hd
   refine r_eqS 10 (.clo 177 [.fptr true [.val (.int .i64 a)],.fptr true [.val (.int .i64 b)],.fptr true [.val (.int .i64 c)]]) (d:=(Ts.w a b c).d) rfl ?_
   refine r_call hd ?_
   refine go ?_
   refine c_yes ?_
   refine go ?_
   refine r_eqS 13 (.agg [.val (.int .i64 2)]) rfl ?_
   refine r_mkif ?_
   refine r_panic 2 (flK 2) rfl (by omega) ?_
   refine c_end (by kernel_rfl) ?_
   exact c_deadB 1999
  | b neg s=>
   rw [ht] at hf hno
   have hd:=nzbound1_den neg s
   rw [show (vldB neg s && !neg)=false from hno] at hd
   refine r_eqS 10 (.clo 178 [.fptr true [.val (.bool neg),.val (.string s)]]) (d:=(Ts.b neg s).d) rfl ?_
   refine r_call hd ?_
   refine go ?_
   refine c_yes ?_
   refine go ?_
   refine r_eqS 13 (.agg [.val (.int .i64 2)]) rfl ?_
   refine r_mkif ?_
   refine r_panic 2 (flK 2) rfl (by omega) ?_
   refine c_end (by kernel_rfl) ?_
   exact c_deadB 1999

instance fi89:FI Tryz.prog 89 Tryz.f89:=⟨Tryz.func89,Tryz.call89⟩
instance fi100:FI Tryz.prog 100 Tryz.f100:=⟨Tryz.func100,Tryz.call100⟩
instance fi84:FI Tryz.prog 84 Tryz.f84:=⟨Tryz.func84,Tryz.call84⟩
instance fi90:FI Tryz.prog 90 Tryz.f90:=⟨Tryz.func90,Tryz.call90⟩
def prZ (x:Nat→Int):Nat→Int
 | 0=>1
 | i+1=>prZ x i*x i
def smZ (x:Nat→Int):Nat→Int
 | 0=>0
 | i+1=>smZ x i+x i
abbrev zL (z:Int):List D:=[.val (.bool (decide (z<0))),.val (.string (strN z.natAbs))]
theorem prZ_le {x:Nat→Int} (hx:∀ j,(x j).natAbs≤256 ^ 8):∀ n,(prZ x n).natAbs≤(256 ^ 8) ^ n
 | 0=>Nat.le_refl _
 | n+1=>by
  show (prZ x n*x n).natAbs≤_
  rw [Int.natAbs_mul,Nat.pow_succ]
  exact Nat.mul_le_mul (prZ_le hx n) (hx n)
theorem prZ_fz {x:Nat→Int} (hx:∀ j, -9223372036854775808≤x j∧x j≤9223372036854775807) {n:Nat} (hn:n≤10):Fz (prZ x n):=by
 apply Fz.of_lt
 refine Nat.lt_of_le_of_lt (prZ_le (fun j=>?_) n) ?_
 ·have:=hx j
  have e:(256:Nat) ^ 8=18446744073709551616:=by decide
  omega
 ·rw [← Nat.pow_mul]
  exact Nat.pow_lt_pow_right (by omega) (by omega)
theorem Fz.i64 {z:Int} (h1 : -9223372036854775808≤z) (h2:z≤9223372036854775807):Fz z:=by
 apply Fz.of_lt
 have e:(256:Nat) ^ 8=18446744073709551616:=by decide
 refine Nat.lt_of_lt_of_le (show z.natAbs<256 ^ 8 by omega) (Nat.pow_le_pow_right (by omega) (by omega))
theorem nzproduct_den (n:Nat) (x:Nat→Int) (hn:n≤10) (hx:∀ j, -9223372036854775808≤x j∧x j≤9223372036854775807):Den Tryz.prog 89 [.fz true n 1 (fun j=>[.val (.int .i64 (x j))])] (zN (prZ x n)):=by
 have h1:=wOf_den 1 (by omega) (by omega)
 refine den_intro (fn:=Tryz.f89) rfl rfl rfl rfl rfl ?_
 refine go ?_
 refine r_call h1 ?_
 refine go ?_
 refine c_up n (fun i=>[(9,.val (.int .i64 (i:Nat)))]) (fun i=>[(1003,some (.lit 42 (zL (prZ x i))))]) (fun i hi=>?_)
 refine go ?_
 refine c_if (fun h=>?_) (fun h=>?_)
 ·have hm:=wMul_den (prZ x i) (x i) (prZ_fz hx (by omega)) (Fz.i64 (hx i).1 (hx i).2)
  have hz:Fz (prZ x (i+1)):=prZ_fz hx (by omega)
  rw [show prZ x i*x i=prZ x (i+1) from rfl,resZ_ok hz] at hm
  have ho:=wOf_den (x i) (hx i).1 (hx i).2
  refine go ?_
  refine r_call ho ?_
  refine go ?_
  refine r_call hm ?_
  refine go ?_
  refine r_call (nzmust_ok _ _) ?_
  refine go ?_
  refine ⟨h,?_⟩
  exact sub
 ·obtain rfl:i=n:=by omega
  refine go ?_
  refine fin ?_
  exact cv
theorem smZ_mono {x:Nat→Int} {n:Nat} (h0:∀ j,j<n→0≤x j):∀ i,i≤n→0≤smZ x i∧smZ x i≤smZ x n:=by
 have h1:∀ i,i≤n→0≤smZ x i:=by
  intro i
  induction i with
  | zero=>intro _;exact Int.le_refl _
  | succ i ih=>intro hi;have:=ih (by omega);have:=h0 i (by omega);show 0≤smZ x i+x i;omega
 have h2:∀ d i,i+d=n→smZ x i≤smZ x n:=by
  intro d
  induction d with
  | zero=>intro i e;rw [show i=n by omega];exact Int.le_refl _
  | succ d ih=>
   intro i e
   have:=ih (i+1) (by omega)
   have:=h0 i (by omega)
   have e2:smZ x (i+1)=smZ x i+x i:=rfl
   omega
 exact fun i hi=>⟨h1 i hi,h2 (n - i) i (by omega)⟩
theorem nzsum_ok (n:Nat) (x:Nat→Int) (hn:n≤100) (h0:∀ j,j<n→0≤x j) (hF:Fz (smZ x n)):Den Tryz.prog 100 [.fz true n 2 (fun j=>zL (x j))] (zN (smZ x n)):=by
 have h1:=wOf_den 0 (by omega) (by omega)
 have hm:=smZ_mono h0
 refine den_intro (fn:=Tryz.f100) rfl rfl rfl rfl rfl ?_
 refine go ?_
 refine r_call h1 ?_
 refine go ?_
 refine c_up n (fun i=>[(9,.val (.int .i64 (i:Nat)))]) (fun i=>[(1003,some (.lit 42 (zL (smZ x i))))]) (fun i hi=>?_)
 refine go ?_
 refine c_if (fun h=>?_) (fun h=>?_)
 ·have m1:=hm i hi
  have m2:=hm (i+1) h
  have x0:=h0 i h
  have e2:smZ x (i+1)=smZ x i+x i:=rfl
  have hz:Fz (smZ x (i+1)):=hF.le (by omega)
  have ha:=wAdd_den (smZ x i) (x i) (hF.le (by omega)) (hF.le (by omega))
  rw [← e2,resZ_ok hz] at ha
  refine go ?_
  refine r_call ha ?_
  refine go ?_
  refine r_call (nzmust_ok _ _) ?_
  refine go ?_
  refine ⟨h,?_⟩
  exact sub
 ·obtain rfl:i=n:=by omega
  refine go ?_
  refine fin ?_
  exact cv
theorem smZ_first {x:Nat→Int}:∀ {n:Nat},¬ Fz (smZ x n)→∃ m,m<n∧Fz (smZ x m)∧¬ Fz (smZ x (m+1))
 | 0,h=>absurd (show Fz 0 by decide) h
 | n+1,h=>by
  by_cases q:Fz (smZ x n)
  ·exact ⟨n,by omega,q,h⟩
  ·obtain ⟨m,h1,h2⟩:=smZ_first q
   exact ⟨m,by omega,h2⟩
theorem nzsum_no (n:Nat) (x:Nat→Int) (hn:n≤100) (h0:∀ j,j<n→0≤x j) (hx:∀ j,j<n→Fz (x j)) (hF:¬ Fz (smZ x n)):DenX Tryz.prog 100 [.fz true n 2 (fun j=>zL (x j))] (flK 7):=by
 have h1:=wOf_den 0 (by omega) (by omega)
 obtain ⟨m,m1,m2,m3⟩:=smZ_first hF
 have hm:=smZ_mono (x:=x) (n:=m) (fun j hj=>h0 j (by omega))
 refine den_introX (fn:=Tryz.f100) rfl rfl ?_
 refine go ?_
 refine r_call h1 ?_
 refine go ?_
 refine c_down (α:=Nat) (fun i=>m+1 - i) (fun i=>i≤m) (fun i=>[(9,.val (.int .i64 (i:Nat)))]) (fun i=>[(1003,some (.lit 42 (zL (smZ x i))))]) 0 (fun i hi=>?_) (Nat.zero_le _)
 have q1:=hm i hi
 have x0:=h0 i (by omega)
 have xf:=hx i (by omega)
 have e2:smZ x (i+1)=smZ x i+x i:=rfl
 have ha:=wAdd_den (smZ x i) (x i) (m2.le (by omega)) xf
 rw [← e2] at ha
 refine go ?_
 rcases Nat.lt_or_ge i m with q | q
 ·have q2:=hm (i+1) q
  rw [resZ_ok (m2.le (by omega))] at ha
  refine r_call ha ?_
  refine go ?_
  refine r_call (nzmust_ok _ _) ?_
  refine go ?_
  refine ⟨i+1,by omega,by omega,?_⟩
  exact sub
 ·obtain rfl:i=m:=by omega
  rw [resZ_no m3] at ha
  refine r_call ha ?_
  refine go ?_
  refine r_callX (nzmust_no _ _) ?_
  refine r_deadE ?_
  refine c_end (by kernel_rfl) ?_
  exact c_dead 18
theorem CvtL.sum {n:Nat} {f:Nat→List D} {x:Nat→Int} (hf:∀ e,e<n→f e=zL (x e)):CvtL [.fz true n 2 f] [.fz true n 2 (fun j=>zL (x j))]:=.cons (Cvt.fz (.inl rfl) (fun e he=>⟨rfl,fun c _=>.of_eq (by rw [hf e he])⟩)) .nil
theorem nzsum_of {n m:Nat} {f:Nat→List D} (x:Nat→Int) (hm:m=2) (hn:n≤100) (h0:∀ j,j<n→0≤x j) (hF:Fz (smZ x n)) (hf:∀ e,e<n→f e=zL (x e)):Den Tryz.prog 100 [.fz true n m f] (zN (smZ x n)):=by
 subst hm
 exact (nzsum_ok n x hn h0 hF).arg (CvtL.sum hf)
theorem DenX.arg {P:Program} {f:FuncId} {ds ds':List D} {k:Nat} (h:DenX P f ds' k) (hc:CvtL ds ds'):DenX P f ds k:=fun Zc w i args hZ hi ha=>
 h Zc w i args hZ hi ⟨ha.1.trans hc.len,fun j hj=>(hc.at j).cv (fun b hb=>by cases hb.1) (ha.2 j (by rw [hc.len];exact hj))⟩
theorem nzsum_ofX {n m:Nat} {f:Nat→List D} (x:Nat→Int) (hm:m=2) (hn:n≤100) (h0:∀ j,j<n→0≤x j) (hx:∀ j,j<n→Fz (x j)) (hF:¬ Fz (smZ x n)) (hf:∀ e,e<n→f e=zL (x e)):DenX Tryz.prog 100 [.fz true n m f] (flK 7):=by
 subst hm
 exact (nzsum_no n x hn h0 hx hF).arg (CvtL.sum hf)
theorem nzhalf_den (a:Int) (ha:Fz a) (h0:0≤a):Den Tryz.prog 90 [zN a] (zN (a / 2)):=by
 have h:=wShr_den a ha h0 1 (by omega)
 rw [show (2:Int) ^ 1=2 by rfl] at h
 refine den_intro (fn:=Tryz.f90) rfl rfl rfl rfl rfl ?_
 refine go ?_
 refine r_call h ?_
 refine go ?_
 refine r_call (nzmust_ok _ _) ?_
 refine go ?_
 refine fin ?_
 exact cv
theorem nzmodulus_den (p:PD) (ex:Nat) (hb:∀ i,i≤ex→p.prime ^ i≤2147483647) (hx:ex≤1000000):Den Tryz.prog 84 [.agg (parL true p),.val (.int .i64 (ex:Int))] (.val (.int .i64 ((p.prime ^ ex:Nat):Int))):=by
 refine den_intro (fn:=Tryz.f84) rfl rfl rfl rfl rfl ?_
 refine go ?_
 obtain ⟨pw,h0,hs,he,hbw⟩:∃ pw:Nat→Nat,pw 0=1∧(∀ j,pw (j+1)=pw j*p.prime)∧pw ex=p.prime ^ ex∧∀ i,i≤ex→pw i≤2147483647:=⟨fun j=>p.prime ^ j,rfl,fun j=>Nat.pow_succ ..,rfl,hb⟩
 rw [← he]
 refine c_up ex (fun j=>[(7,.val (.int .i64 (j:Nat))),(5,.val (.int .i64 ((pw j:Nat):Int)))]) (fun _=>[]) (fun j hj=>?_)
 refine go ?_
 refine c_if (fun h3=>?_) (fun h3=>?_)
 ·have hq:=hbw (j+1) (by omega)
  rw [hs j] at hq
  have hp1:=hb 1 (by omega)
  rw [Nat.pow_one] at hp1
  refine go ?_
  exact ⟨h3,sub⟩
 ·obtain rfl:j=ex:=by omega
  refine go ?_
  refine fin ?_
  exact cv

instance fi87:FI Tryz.prog 87 Tryz.f87:=⟨Tryz.func87,Tryz.call87⟩
def qtV (b n a S:Int):Int:=(a / b)*n+(S+(a % b)*n) / b
theorem qtV_eq {b n a S:Int} (hb:0<b):qtV b n a S=(n*a+S) / b:=by
 unfold qtV
 have h:b*(a / b)+a % b=a:=Int.mul_ediv_add_emod a b
 have e:n*a+S=(S+a % b*n)+b*(a / b*n):=by
  conv=>lhs;rw [← h]
  rw [Int.mul_add,Int.mul_comm n (a % b),Int.mul_left_comm,Int.mul_comm n (a / b)]
  omega
 rw [e,Int.add_mul_ediv_left _ _ (by omega)]
 omega
def snZ (k:Nat) (x:Nat→Int) (y:Int) (e:Nat):Int:=if e<k then x e else y
theorem snZ_sum {k:Nat} {x:Nat→Int} {y:Int}:smZ (snZ k x y) (k+1)=smZ x k+y:=by
 have h:∀ i,i≤k→smZ (snZ k x y) i=smZ x i:=by
  intro i
  induction i with
  | zero=>intro _;rfl
  | succ i ih=>
   intro hi
   show smZ (snZ k x y) i+snZ k x y i=smZ x i+x i
   rw [ih (by omega)]
   unfold snZ
   rw [if_pos (by omega)]
 show smZ (snZ k x y) k+snZ k x y k=_
 rw [h k (Nat.le_refl _)]
 unfold snZ
 rw [if_neg (by omega)]
theorem snZ_pos {k:Nat} {x:Nat→Int} {y:Int} (hx:∀ j,j<k→0≤x j) (hy:0≤y) (e:Nat):0≤snZ k x y e:=by
 unfold snZ
 split
 ·exact hx e (by assumption)
 ·exact hy
abbrev wV (z:Int):Value:=.agg #[.bool (decide (z<0)),.string (strN z.natAbs)]
theorem rep_wV {z:Int}:∀ (Z:Zn) (w:World) (i:Nm) (v:Value),Rep Z w i v (zN z)→v=wV z:=fun Z w i v h=>by
 cases h with
 | agg _ vs _ hl _ hr=>
  have h0:=(hr 0 (by simp)).valEq
  have h1:=(hr 1 (by simp)).valEq
  match vs,hl with
  | [a,b],_=>
   obtain rfl:a=_:=by simpa using h0
   obtain rfl:b=_:=by simpa using h1
   rfl
theorem wV_rep {z:Int}:∀ (Z:Zn) (w:World) (i:Nm),Rep Z w i (wV z) (zN z):=fun Z w i=>
 .agg i [.bool (decide (z<0)),.string (strN z.natAbs)] _ rfl (fun j hj=>by
  match j,hj with
  | 0,_=>rfl
  | 1,_=>rfl) (fun j hj=>by
  match j,hj with
  | 0,_=>exact .val _ _
  | 1,_=>exact .val _ _)
theorem two2_zL {a b:Int}:∀ e,e<2→two2 a b e=zL (pk2 a b e):=by
 intro e he
 obtain rfl | rfl:e=0∨e=1:=by omega
 ·rfl
 ·rfl
theorem pk2_sum {a b:Int}:smZ (pk2 a b) 2=a+b:=by
 show 0+a+b=a+b
 omega
theorem nzqt_nil_ok (b n a:Int) (hb0:0<b) (hb:Fz b) (ha0:0≤a) (ha:Fz a) (hn0:0≤n) (hn:n≤9223372036854775807) (hr:Fz (0+(a % b)*n)) (hF:Fz (qtV b n a (0))):Den Tryz.prog 87 [zN b,.val (.int .i64 n),zN a,.val (.slice none 0 0)] (zN (qtV b n a 0)):=by
 have hb1:b≠0:=by omega
 have hd1:=wDiv_den a b ha hb hb1
 have hon:=wOf_den n (by omega) hn
 have hnz:Fz n:=Fz.i64 (by omega) hn
 have hr0:0≤a % b*n:=Int.mul_nonneg (Int.emod_nonneg a hb1) hn0
 have hm0:0≤a / b:=Int.ediv_nonneg ha0 (by omega)
 have hmn:0≤a / b*n:=Int.mul_nonneg hm0 hn0
 obtain ⟨S,hS⟩:∃ S:Int,0=S:=⟨_,rfl⟩
 have hS0:0≤S:=by omega
 rw [hS] at hr
 rw [show qtV b n a 0=qtV b n a S by rw [← hS]] at hF ⊢
 have hm1:=wMul_den (a % b) n (hb.mod hb1) hnz
 rw [resZ_ok (hr.le (by omega))] at hm1
 have hq0:0≤(S+a % b*n) / b:=Int.ediv_nonneg (by omega) (by omega)
 have hd2:=wDiv_den (S+a % b*n) b hr hb hb1
 have hm2:=wMul_den (a / b) n (ha.div hb1) hnz
 have hqf:Fz ((S+a % b*n) / b):=hr.div hb1
 unfold qtV at hF ⊢
 generalize hy:a % b*n=y at *
 generalize hu:(S+y) / b=u at *
 generalize hz:a / b*n=z at *
 have hzf:Fz z:=hF.le (by omega)
 rw [resZ_ok hzf] at hm2
 refine den_intro (fn:=Tryz.f87) rfl rfl rfl rfl rfl ?_
 refine go ?_
 refine r_call hd1 ?_
 refine go ?_
 refine r_call (nzmust_ok _ _) ?_
 refine go ?_
 refine r_call hon ?_
 refine go ?_
 refine r_call hm1 ?_
 refine go ?_
 refine r_call (nzmust_ok _ _) ?_
 refine go ?_
 refine r_callS (nzsum_of (n:=1) (snZ 0 (fun _=>0) y) rfl (by omega) (fun _ _=>snZ_pos (fun _ h=>absurd h (Nat.not_lt_zero _)) hr0 _) ?gz ?gf) ?gq ?_
 case gz=>rw [show smZ (snZ 0 (fun _=>0) y) (0+1)=S+y by rw [snZ_sum,← hS];rfl];exact hr
 case gf=>
  intro e he
  obtain rfl:e=0:=by omega
  rfl
 case gq=>infer_instance
 rw [show smZ (snZ 0 (fun _=>0) y) (0+1)=S+y by rw [snZ_sum,← hS];rfl]
 refine go ?_
 refine r_call hd2 ?_
 refine go ?_
 refine r_call (nzmust_ok _ _) ?_
 refine go ?_
 refine r_call hon ?_
 refine go ?_
 refine r_call hm2 ?_
 refine go1 ?_
 refine go1 ?_
 refine r_call (nzmust_ok _ _) ?_
 refine go1 ?_
 refine r_bslF (two2 z u) ?_ (hf:=two2_ok z u)
 refine r_eqS 52 (.fz false 2 2 (two2 z u)) rfl ?_
 refine r_call (nzsum_of (n:=2) (pk2 z u) rfl (by omega) (fun j _=>by unfold pk2;split<;>assumption) (by rw [pk2_sum];exact hF) two2_zL) ?_
 rw [pk2_sum]
 refine go ?_
 refine fin ?_
 exact cv
theorem nzqt_box_ok (b n a:Int) (k:Nat) (x:Nat→Int) (hk:k≤50) (hb0:0<b) (hb:Fz b) (ha0:0≤a) (ha:Fz a) (hn0:0≤n) (hn:n≤9223372036854775807) (hx:∀ j,j<k→0≤x j) (hr:Fz (smZ x k+(a % b)*n)) (hF:Fz (qtV b n a (smZ x k))):DenU Tryz.prog 87 [zN b,.val (.int .i64 n),zN a,.sl 1998 2 k] (.arr 42 k 2 (fun j=>zL (x j))) (.returned (wV (qtV b n a (smZ x k)))):=by
 have hb1:b≠0:=by omega
 have hd1:=wDiv_den a b ha hb hb1
 have hon:=wOf_den n (by omega) hn
 have hnz:Fz n:=Fz.i64 (by omega) hn
 have hr0:0≤a % b*n:=Int.mul_nonneg (Int.emod_nonneg a hb1) hn0
 have hm0:0≤a / b:=Int.ediv_nonneg ha0 (by omega)
 have hmn:0≤a / b*n:=Int.mul_nonneg hm0 hn0
 obtain ⟨S,hS⟩:∃ S,smZ x k=S:=⟨_,rfl⟩
 have hS0:0≤S:=by rw [← hS];exact (smZ_mono hx k (Nat.le_refl _)).1
 rw [hS] at hr hF ⊢
 have hm1:=wMul_den (a % b) n (hb.mod hb1) hnz
 rw [resZ_ok (hr.le (by omega))] at hm1
 have hq0:0≤(S+a % b*n) / b:=Int.ediv_nonneg (by omega) (by omega)
 have hd2:=wDiv_den (S+a % b*n) b hr hb hb1
 have hm2:=wMul_den (a / b) n (ha.div hb1) hnz
 have hqf:Fz ((S+a % b*n) / b):=hr.div hb1
 unfold qtV at hF ⊢
 generalize hy:a % b*n=y at *
 generalize hu:(S+y) / b=u at *
 generalize hz:a / b*n=z at *
 have hzf:Fz z:=hF.le (by omega)
 rw [resZ_ok hzf] at hm2
 refine den_introU (fn:=Tryz.f87) (r:=zN (z+u)) rfl rfl rfl rep_wV ?_
 refine go ?_
 refine r_call hd1 ?_
 refine go ?_
 refine r_call (nzmust_ok _ _) ?_
 refine go ?_
 refine r_call hon ?_
 refine go ?_
 refine r_call hm1 ?_
 refine go ?_
 refine r_call (nzmust_ok _ _) ?_
 refine go ?_
 refine r_callS (nzsum_of (n:=k+1) (snZ k x y) rfl (by omega) (fun _ _=>snZ_pos hx hr0 _) ?gz ?gf) ?gq ?_
 case gz=>rw [show smZ (snZ k x y) (k+1)=S+y by rw [snZ_sum,hS]];exact hr
 case gf=>
  intro e he
  unfold snZ
  by_cases q:e<k
  ·rw [appF_lt q,if_pos q]
  ·obtain rfl:e=k:=by omega
   rw [appF_ge (Nat.le_refl _),Nat.sub_self,if_neg q]
   rfl
 case gq=>infer_instance
 rw [show smZ (snZ k x y) (k+1)=S+y by rw [snZ_sum,hS]]
 refine go ?_
 refine r_call hd2 ?_
 refine go ?_
 refine r_call (nzmust_ok _ _) ?_
 refine go ?_
 refine r_call hon ?_
 refine go ?_
 refine r_call hm2 ?_
 refine go1 ?_
 refine go1 ?_
 refine r_call (nzmust_ok _ _) ?_
 refine go1 ?_
 refine r_bslF (two2 z u) ?_ (hf:=two2_ok z u)
 refine r_eqS 52 (.fz false 2 2 (two2 z u)) rfl ?_
 refine r_call (nzsum_of (n:=2) (pk2 z u) rfl (by omega) (fun j _=>by unfold pk2;split<;>assumption) (by rw [pk2_sum];exact hF) two2_zL) ?_
 rw [pk2_sum]
 refine go ?_
 refine fin ?_
 exact cv
theorem nzqt_box_no (b n a:Int) (k:Nat) (x:Nat→Int) (hk:k≤50) (hb0:0<b) (hb:Fz b) (ha0:0≤a) (ha:Fz a) (hn0:0≤n) (hn:n≤9223372036854775807) (hx:∀ j,j<k→0≤x j) (hr:Fz (smZ x k+(a % b)*n)) (hF:¬ Fz (qtV b n a (smZ x k))):DenU Tryz.prog 87 [zN b,.val (.int .i64 n),zN a,.sl 1998 2 k] (.arr 42 k 2 (fun j=>zL (x j))) (.panicked (panCh (flK 7))):=by
 have hb1:b≠0:=by omega
 have hd1:=wDiv_den a b ha hb hb1
 have hon:=wOf_den n (by omega) hn
 have hnz:Fz n:=Fz.i64 (by omega) hn
 have hr0:0≤a % b*n:=Int.mul_nonneg (Int.emod_nonneg a hb1) hn0
 have hm0:0≤a / b:=Int.ediv_nonneg ha0 (by omega)
 have hmn:0≤a / b*n:=Int.mul_nonneg hm0 hn0
 obtain ⟨S,hS⟩:∃ S,smZ x k=S:=⟨_,rfl⟩
 have hS0:0≤S:=by rw [← hS];exact (smZ_mono hx k (Nat.le_refl _)).1
 rw [hS] at hr hF
 have hm1:=wMul_den (a % b) n (hb.mod hb1) hnz
 rw [resZ_ok (hr.le (by omega))] at hm1
 have hq0:0≤(S+a % b*n) / b:=Int.ediv_nonneg (by omega) (by omega)
 have hd2:=wDiv_den (S+a % b*n) b hr hb hb1
 have hm2:=wMul_den (a / b) n (ha.div hb1) hnz
 have hqf:Fz ((S+a % b*n) / b):=hr.div hb1
 unfold qtV at hF
 generalize hy:a % b*n=y at *
 generalize hu:(S+y) / b=u at *
 generalize hz:a / b*n=z at *
 refine den_introUX (fn:=Tryz.f87) rfl rfl rfl ?_
 refine go ?_
 refine r_call hd1 ?_
 refine go ?_
 refine r_call (nzmust_ok _ _) ?_
 refine go ?_
 refine r_call hon ?_
 refine go ?_
 refine r_call hm1 ?_
 refine go ?_
 refine r_call (nzmust_ok _ _) ?_
 refine go ?_
 refine r_callS (nzsum_of (n:=k+1) (snZ k x y) rfl (by omega) (fun _ _=>snZ_pos hx hr0 _) ?gz ?gf) ?gq ?_
 case gz=>rw [show smZ (snZ k x y) (k+1)=S+y by rw [snZ_sum,hS]];exact hr
 case gf=>
  intro e he
  unfold snZ
  by_cases q:e<k
  ·rw [appF_lt q,if_pos q]
  ·obtain rfl:e=k:=by omega
   rw [appF_ge (Nat.le_refl _),Nat.sub_self,if_neg q]
   rfl
 case gq=>infer_instance
 rw [show smZ (snZ k x y) (k+1)=S+y by rw [snZ_sum,hS]]
 refine go ?_
 refine r_call hd2 ?_
 refine go ?_
 refine r_call (nzmust_ok _ _) ?_
 refine go ?_
 refine r_call hon ?_
 refine go ?_
 by_cases hzf:Fz z
 ·rw [resZ_ok hzf] at hm2
  refine r_call hm2 ?_
  refine go1 ?_
  refine go1 ?_
  refine r_call (nzmust_ok _ _) ?_
  refine go1 ?_
  refine r_bslF (two2 z u) ?_ (hf:=two2_ok z u)
  refine r_eqS 52 (.fz false 2 2 (two2 z u)) rfl ?_
  refine r_callX (nzsum_ofX (n:=2) (pk2 z u) rfl (by omega) (fun j _=>by unfold pk2;split<;>assumption) (fun j _=>by unfold pk2;split<;>assumption) (by rw [pk2_sum];exact hF) two2_zL) ?_
  refine r_deadE ?_
  refine c_end (by kernel_rfl) ?_
  exact c_dead 53
 ·rw [resZ_no hzf] at hm2
  refine r_call hm2 ?_
  refine go1 ?_
  refine go1 ?_
  refine r_callX (nzmust_no _ _) ?_
  refine go1 ?_
  refine r_dead ?_
  refine r_dead ?_
  refine r_deadE ?_
  refine c_end (by kernel_rfl) ?_
  exact c_dead 50

open Go.RowKit Go.Shelf
set_option maxHeartbeats 4000000
set_option maxRecDepth 100000
theorem assert_fl (x:TypeId) (v:Value) (w:World):(Instr.typeAssert (.iface 186 v) x 186 true).run Tryz.prog w = .ok (.tuple #[v,.bool true]) w:=by
 have hu:Tryz.prog.underlying 186=some (.struct _):=TI.under (i:=Tryz.t186)
 simp [Instr.typeAssert,run_underlying hu,Result.andThen]
def panW (w:World) (p q:Nat) (n:Int):World:=((((w.alloc (.cells #[.int .i64 n] 186)).setCell ⟨p,0,none⟩ (.bool false)).setCell ⟨p,1,none⟩ (.string ⟨#[]⟩)).setCell ⟨q,0,none⟩ (.int .i64 n)).drew
theorem calcD_pan (p q:Nat) (n:Int) (x0 x1 x2:Value) (w:World) (h0:w.cell? ⟨p,0,none⟩=some x0) (h1:w.cell? ⟨p,1,none⟩=some x1) (h2:w.cell? ⟨q,0,none⟩=some x2) (z0:w.frozen? ⟨p,0,none⟩=false) (z1:w.frozen? ⟨p,1,none⟩=false) (z2:w.frozen? ⟨q,0,none⟩=false) (hpq:p≠q) :
  CallsD Tryz.prog 175 #[.pointer (some ⟨p,0,none⟩),.pointer (some ⟨q,0,none⟩)] (.panicking ({ v:=.iface 186 (.agg #[.int .i64 n]),recovered:=false }::[])) w fun e u' w'=>e = .returned (.tuple #[])∧u' = .panicking ({ v:=.iface 186 (.agg #[.int .i64 n]),recovered:=true }::[])∧w'=panW w p q n:=by
 have hta:=assert_fl
 refine callsD_of_wpS Tryz.func175 rfl fun c₀ cs hu=>?_
 apply wpS_seq
 apply wpS_region
 simp [wpOpsS,go_sem,recoverD,hu,Tryz.ntmps175,Exit.thenS]
 apply wpS_seq
 apply wpS_region
 simp [wpOpsS,go_sem,Exit.thenS]
 refine wpS_cond (t:=true) (by simp [Act.eval,Array.replicate]) ?_
 simp only [if_true]
 apply wpS_seq
 apply wpS_region
 simp [wpOpsS,go_sem,Exit.thenS,hta]
 apply wpS_seq
 apply wpS_seq
 apply wpS_region
 simp [wpOpsS,go_sem,Exit.thenS]
 refine wpS_cond (t:=false) (by simp [Act.eval,Array.replicate]) ?_
 simp only [Bool.false_eq_true,if_false]
 refine wpS_of_wp (wp_skip ?_)
 have f0:∀ a,(w.alloc (.cells #[.int .i64 n] 186)).frozen? a=w.frozen? a:=frozen?_alloc_cells w _ _
 have e0:=f0 ⟨p,0,none⟩
 have e1:=f0 ⟨p,1,none⟩
 have e2:=f0 ⟨q,0,none⟩
 rw [z0] at e0
 rw [z1] at e1
 rw [z2] at e2
 clear f0
 have c0:(w.alloc (.cells #[.int .i64 n] 186)).cell? ⟨w.heap.size,0,none⟩=some (.int .i64 n):=by simp [go_sem]
 have hpl:p<w.heap.size:=World.block_lt_of_cell? w _ h0
 have hql:q<w.heap.size:=World.block_lt_of_cell? w _ h2
 have hpw:w.heap.size≠p:=by omega
 have hqw:w.heap.size≠q:=by omega
 have hqp:q≠p:=fun e=>hpq e.symm
 have hpn:p≠w.heap.size:=by omega
 have hqn:q≠w.heap.size:=by omega
 have d0:(w.alloc (.cells #[.int .i64 n] 186)).cell? ⟨p,0,none⟩=some x0:=by rw [World.cell?_alloc_past _ _ _ hpl];exact h0
 have d1:(w.alloc (.cells #[.int .i64 n] 186)).cell? ⟨p,1,none⟩=some x1:=by rw [World.cell?_alloc_past _ _ _ hpl];exact h1
 have d2:(w.alloc (.cells #[.int .i64 n] 186)).cell? ⟨q,0,none⟩=some x2:=by rw [World.cell?_alloc_past _ _ _ hql];exact h2
 show Code.wpS _ _ _ _ _ _
 refine wpS_of_wp ?_
 generalize hW:w.alloc (.cells #[.int .i64 n] 186)=W at *
 go_region
 all_goals
  subst hW
  cases c₀
  simp_all [bodyPostS,results,Tryz.results175,panW]
theorem calcD_idle (p q:Addr) (w:World) :
  CallsD Tryz.prog 175 #[.pointer (some p),.pointer (some q)] .returning w fun e u' w'=>e = .returned (.tuple #[])∧u' = .returning∧w'=w:=by
 refine callsD_of_wpS Tryz.func175 rfl fun c₀ cs hu=>?_
 apply wpS_seq
 apply wpS_region
 simp [wpOpsS,go_sem,recoverD,hu,Tryz.ntmps175,Exit.thenS]
 refine wpS_of_wp ?_
 go_wp2
 cases c₀
 simp_all [bodyPostS,results,Tryz.results175]

set_option maxRecDepth 20000
instance fi223:FI Tryz.prog 223 Tryz.f223:=⟨Tryz.func223,Tryz.call223⟩
instance fi275:FI Tryz.prog 275 Tryz.f275:=⟨Tryz.func275,Tryz.call275⟩
instance fi146:FI Tryz.prog 146 Tryz.f146:=⟨Tryz.func146,Tryz.call146⟩

instance fi245:FI Tryz.prog 245 Tryz.f245:=⟨Tryz.func245,Tryz.call245⟩
instance fi160:FI Tryz.prog 160 Tryz.f160:=⟨Tryz.func160,Tryz.call160⟩
instance fi250:FI Tryz.prog 250 Tryz.f250:=⟨Tryz.func250,Tryz.call250⟩
theorem st_Lv {p:PD} {lv ex:Int} (h:St p lv ex) {n l:Nat} (hn:p.n=(n:Int)) (hl:lv=(l:Int)):Lv p n l:=⟨good_VP h.good,good_special h.good,hn,by have:=h.l1;omega,by have:=h.l2;omega⟩

noncomputable abbrev zerosD (n:Nat):D:=.fz true n Tryz.t2.size (fun _=>valL (Value.int .i64 0).cells.toList)
instance (n:Nat):OldD (zerosD n):=(inferInstance:OldD (intsD true n (fun _=>0)))

instance fi163:FI Tryz.prog 163 Tryz.f163:=⟨Tryz.func163,Tryz.call163⟩
instance fi164:FI Tryz.prog 164 Tryz.f164:=⟨Tryz.func164,Tryz.call164⟩
instance fi69:FI Tryz.prog 69 Tryz.f69:=⟨Tryz.func69,Tryz.call69⟩
instance fi168:FI Tryz.prog 168 Tryz.f168:=⟨Tryz.func168,Tryz.call168⟩
instance fi169:FI Tryz.prog 169 Tryz.f169:=⟨Tryz.func169,Tryz.call169⟩
instance fi70:FI Tryz.prog 70 Tryz.f70:=⟨Tryz.func70,Tryz.call70⟩
instance fi170:FI Tryz.prog 170 Tryz.f170:=⟨Tryz.func170,Tryz.call170⟩
instance fi71:FI Tryz.prog 71 Tryz.f71:=⟨Tryz.func71,Tryz.call71⟩
instance fi171:FI Tryz.prog 171 Tryz.f171:=⟨Tryz.func171,Tryz.call171⟩
instance fi65:FI Tryz.prog 65 Tryz.f65:=⟨Tryz.func65,Tryz.call65⟩
instance fi165:FI Tryz.prog 165 Tryz.f165:=⟨Tryz.func165,Tryz.call165⟩
instance fi68:FI Tryz.prog 68 Tryz.f68:=⟨Tryz.func68,Tryz.call68⟩
instance fi64:FI Tryz.prog 64 Tryz.f64:=⟨Tryz.func64,Tryz.call64⟩
instance fi162:FI Tryz.prog 162 Tryz.f162:=⟨Tryz.func162,Tryz.call162⟩
instance fi248:FI Tryz.prog 248 Tryz.f248:=⟨Tryz.func248,Tryz.call248⟩
instance fi247:FI Tryz.prog 247 Tryz.f247:=⟨Tryz.func247,Tryz.call247⟩
structure Cv (p:PD) (n lv ex:Nat):Prop where
 fit:PFit p
 st:St p (lv:Int) (ex:Int)
 n:p.n=(n:Int)
theorem Cv.lv {p:PD} {n lv ex:Nat} (h:Cv p n lv ex):Lv p n lv:=st_Lv h.st h.n rfl

instance (p:PD):NewDL (parL false p):=by unfold parL u32sD;infer_instance
def p4:PD:=⟨4,17,1,[2147481209],2147483249,4,2⟩
theorem p4_good:Good p4.par:=good4
theorem p4_fit:PFit p4:=⟨by decide,by decide,by decide,by decide,by decide,fun i hi=>by
 have:i=0:=by simp [p4] at hi;omega
 subst this;decide,by decide,by decide,by decide,by decide⟩
theorem small13_den:Den Tryz.prog 62 [.val (.int .i64 1)] (.agg (parL false p4)):=by
 refine den_intro (fn:=Tryz.f62) rfl rfl rfl rfl rfl ?_
 refine go ?_
 refine r_call (r12default_den 4 17 1 17 2147483249 1 [2147481209] (by omega) (by omega) (by omega) (by omega) (by omega) (by omega) (plainV_pos plain417) (by omega) (by omega) (by omega) (by omega) chain4 rfl) ?_
 refine go ?_
 refine fin ?_
 exact cv

abbrev partsL (lv n:Nat) (A:Nat→Nat→Nat→Nat):List D:=elL true lv false lv n (A 0)++(elL true lv false lv n (A 1)++elL true lv false lv n (fun _ _=>0))
section
variable {ro:Option Nat} {P:Program} {N:Nat} {Q:Post} {c:Code} {env:List (Nat × D)} {box:List (Nat × Option Box)}
end

instance (lv n:Nat) (A:Nat→Nat→Nat→Nat):OldDL (partsL lv n A):=(inferInstance:OldDL [.val (.int .i64 (lv:Int)),.val (.bool false),rowsD true lv n (A 0),.val (.int .i64 (lv:Int)),.val (.bool false),rowsD true lv n (A 1),.val (.int .i64 (lv:Int)),.val (.bool false),rowsD true lv n (fun _ _=>0)])

def sm (f:Nat→Nat):Nat→Nat
 | 0=>0
 | n+1=>sm f n+f n
end Go.Proofs.YtdcenblblimkfaaGreat
