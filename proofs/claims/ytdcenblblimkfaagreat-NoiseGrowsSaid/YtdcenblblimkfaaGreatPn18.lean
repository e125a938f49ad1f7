/- wide: Of, Abs, Add, Mul.
wide: Of, Cmp, Div, Shr.
The reference's wide: bit, bits, left, short.
The reference's wide: long.
The reference's wide: div, Of, compare, Cmp, Abs, Add, Mul, Div.
Calls whose argument is one slice of the caller's own. No walk.
Small rules: the slot that was made last, said otherwise; a dead slot, wherever it is. No walk. -/
import Derived.Test.YtdcenblblimkfaaGreatPn17
import Derived.Test.YtdcenblblimkfaaGreatPn16
import Derived.Test.YtdcenblblimkfaaGreatPn15
import Derived.Test.YtdcenblblimkfaaGreatPn14
set_option linter.unusedSimpArgs false
set_option linter.unusedVariables false
set_option linter.unnecessarySimpa false
set_option linter.unusedSectionVars false
namespace Go.Proofs.YtdcenblblimkfaaGreat
open Go.RowKit
instance fi124:FI Tryz.prog 124 Tryz.f124:=⟨Tryz.func124,Tryz.call124⟩
instance fi189:FI Tryz.prog 189 Tryz.f189:=⟨Tryz.func189,Tryz.call189⟩
instance fi88:FI Tryz.prog 88 Tryz.f88:=⟨Tryz.func88,Tryz.call88⟩
set_option maxRecDepth 20000
set_option maxHeartbeats 8000000
theorem zI_self (z:Int):zI (decide (z<0)) z.natAbs=z:=by
 unfold zI
 by_cases h:z<0
 ·simp [h];omega
 ·simp [h];omega
def pk2 {α:Type} (x y:α):Nat→α
 | 0=>x
 | _=>y
abbrev two2 (a b:Int):Nat→List D:=fun e=>[.val (.bool (pk2 (decide (a<0)) (decide (b<0)) e)),.val (.string (pk2 (strN a.natAbs) (strN b.natAbs) e))]
theorem wvalidZ {a b:Int} (ha:Fz a) (hb:Fz b):Den Tryz.prog 181 [.fz true 2 2 (two2 a b)] (.val (.bool true)):=by
 have h:=wvalid2_den (decide (a<0)) (decide (b<0)) (strN a.natAbs) (strN b.natAbs) (two2 a b) rfl rfl
 rw [ha.ok,hb.ok] at h
 exact h
theorem wofZ {a:Int} (ha:Fz a):Den Tryz.prog 184 [zN a] (natF false a.natAbs):=wof_den _ _ ha.vw
theorem smA_le {A B:Nat} {an bn:Bool}:smA A an B bn≤A+B:=by
 unfold smA
 split
 ·omega
 ·split<;>omega
theorem nw_add {A B n:Nat} (hA:nD 32 A≤n) (hB:nD 32 B≤n):nD 32 (A+B)≤n+1:=by
 apply nw_le
 have h1:A<4294967296 ^ n:=pow32 hA
 have h2:B<4294967296 ^ n:=pow32 hB
 rw [Nat.pow_succ];omega
theorem two2_ok (a b:Int):∀ e,e<2→(two2 a b e).length=2∧∀ c,c<2→dl (two2 a b e) c=dl [.val (.bool (decide (a<0))),.val (.string (strN a.natAbs)),.val (.bool (decide (b<0))),.val (.string (strN b.natAbs))] (e*2+c):=by
 intro e he
 obtain rfl | rfl:e=0∨e=1:=by omega
 ·exact ⟨rfl,fun c hc=>by (obtain rfl | rfl:c=0∨c=1:=by omega)<;>rfl⟩
 ·exact ⟨rfl,fun c hc=>by (obtain rfl | rfl:c=0∨c=1:=by omega)<;>rfl⟩
theorem wAbs_den (z:Int) (hz:Fz z):Den Tryz.prog 124 [zN z] (.tup [zN (z.natAbs:Int),.val (.int .i64 0)]):=by
 have hv:=wValid_den (decide (z<0)) (strN z.natAbs)
 rw [hz.ok] at hv
 have e:zN (z.natAbs:Int)=wS false (strN z.natAbs):=by
  show wN (decide ((z.natAbs:Int)<0)) (z.natAbs:Int).natAbs=_
  rw [decide_eq_false (by omega),Int.natAbs_natCast]
 rw [e]
 refine den_intro (fn:=Tryz.f124) rfl rfl rfl rfl rfl ?_
 refine go ?_
 refine r_call hv ?_
 refine go ?_
 refine c_no ?_
 refine go ?_
 refine fin ?_
 exact cv
theorem wAdd_den (a b:Int) (ha:Fz a) (hb:Fz b):Den Tryz.prog 189 [zN a,zN b] (resZ (a+b)):=by
 have hv:=wvalidZ ha hb
 have hoa:=wofZ ha
 have hob:=wofZ hb
 have wa:=ha.words
 have wb:=hb.words
 have hsum:=wsum_den a.natAbs b.natAbs (decide (a<0)) (decide (b<0)) (by omega) (by omega)
 have hfm:=wform_den (smA a.natAbs (decide (a<0)) b.natAbs (decide (b<0))) (nD 32 (smA a.natAbs (decide (a<0)) b.natAbs (decide (b<0)))) (smS a.natAbs (decide (a<0)) b.natAbs (decide (b<0))) nw_lt (Nat.le_trans (nw_le (Nat.lt_of_le_of_lt smA_le (pow32 (nw_add wa wb)))) (by omega))
 rw [resN_eq,sm_eq,zI_self,zI_self] at hfm
 generalize smA a.natAbs (decide (a<0)) b.natAbs (decide (b<0))=S at hsum hfm
 generalize smS a.natAbs (decide (a<0)) b.natAbs (decide (b<0))=sg at hsum hfm
 obtain ⟨rb,rs,re,hr⟩:=resZ_form (a+b)
 rw [hr] at hfm ⊢
 refine den_intro (fn:=Tryz.f189) rfl rfl rfl rfl rfl ?_
 refine goc ?_
 refine c_reg ?_
 refine go1 ?_
 refine go1 ?_
 refine go1 ?_
 refine go1 ?_
 refine c_end (by kernel_rfl) ?_
 refine goc ?_
 refine c_reg ?_
 refine go1 ?_
 refine go1 ?_
 refine r_bslF (two2 a b) ?_ (hf:=two2_ok a b)
 refine r_eqS 8 (.fz false 2 2 (two2 a b)) rfl ?_
 refine go ?_
 refine r_call hv ?_
 refine go ?_
 refine c_no ?_
 refine go ?_
 refine r_call hoa ?_
 refine go ?_
 refine r_call hob ?_
 refine go ?_
 refine r_call hsum ?_
 refine go ?_
 refine r_call hfm ?_
 refine go ?_
 refine fin ?_
 exact cv
theorem nw_mul {A B n m:Nat} (hA:nD 32 A≤n) (hB:nD 32 B≤m):nD 32 (A*B)≤n+m:=by
 apply nw_le
 rw [Nat.pow_add]
 exact Nat.mul_lt_mul'' (pow32 hA) (pow32 hB)
theorem wMul_den (a b:Int) (ha:Fz a) (hb:Fz b):Den Tryz.prog 88 [zN a,zN b] (resZ (a*b)):=by
 have hv:=wvalidZ ha hb
 have hoa:=wofZ ha
 have hob:=wofZ hb
 have wa:=ha.words
 have wb:=hb.words
 have htm:=wtimes_den a.natAbs b.natAbs (by omega) (by omega)
 have hfm:=wform_den (a.natAbs*b.natAbs) (nD 32 (a.natAbs*b.natAbs)) (decide (a<0) != decide (b<0)) nw_lt (Nat.le_trans (nw_mul wa wb) (by omega))
 rw [resN_eq,mulS_eq,zI_self,zI_self] at hfm
 generalize a.natAbs*b.natAbs=S at htm hfm
 obtain ⟨rb,rs,re,hr⟩:=resZ_form (a*b)
 rw [hr] at hfm ⊢
 refine den_intro (fn:=Tryz.f88) rfl rfl rfl rfl rfl ?_
 refine goc ?_
 refine c_reg ?_
 refine go1 ?_
 refine go1 ?_
 refine go1 ?_
 refine go1 ?_
 refine c_end (by kernel_rfl) ?_
 refine goc ?_
 refine c_reg ?_
 refine go1 ?_
 refine go1 ?_
 refine r_bslF (two2 a b) ?_ (hf:=two2_ok a b)
 refine r_eqS 8 (.fz false 2 2 (two2 a b)) rfl ?_
 refine go ?_
 refine r_call hv ?_
 refine go ?_
 refine c_no ?_
 refine go ?_
 refine r_call hoa ?_
 refine go ?_
 refine r_call hob ?_
 refine go ?_
 refine r_call htm ?_
 refine go ?_
 refine r_call hfm ?_
 refine go ?_
 refine fin ?_
 exact cv

instance fi106:FI Tryz.prog 106 Tryz.f106:=⟨Tryz.func106,Tryz.call106⟩
instance fi116:FI Tryz.prog 116 Tryz.f116:=⟨Tryz.func116,Tryz.call116⟩
instance fi194:FI Tryz.prog 194 Tryz.f194:=⟨Tryz.func194,Tryz.call194⟩
instance fi180:FI Tryz.prog 180 Tryz.f180:=⟨Tryz.func180,Tryz.call180⟩
instance fi185:FI Tryz.prog 185 Tryz.f185:=⟨Tryz.func185,Tryz.call185⟩
theorem wOf_den (z:Int) (h1 : -9223372036854775808≤z) (h2:z≤9223372036854775807):Den Tryz.prog 106 [.val (.int .i64 z)] (zN z):=by
 refine den_intro (fn:=Tryz.f106) rfl rfl rfl rfl rfl ?_
 obtain ⟨m,hm⟩:∃ m,z.natAbs=m:=⟨_,rfl⟩
 have hm2:m<18446744073709551616:=by omega
 have hz8:nD 8 m≤256:=by
  have:m<256 ^ 8:=by simpa using hm2
  exact Nat.le_trans (nb_le this) (by omega)
 have e0:=(dg2 (W:=4294967296) (n:=m) (by omega)).1
 have e1:=(dg2 (W:=4294967296) (n:=m) (by omega)).2 (by simpa using hm2)
 have hfm:=wform_den m 2 (decide (z<0)) (by simpa using hm2) (by omega)
 rw [show resN (decide (z<0)) m = .tup [zN z,.val (.int .i64 0)] by rw [← hm,resN_eq,zI_self];exact resZ_ok (by unfold Fz;rw [hm];exact hz8)] at hfm
 refine go ?_
 refine c_cut0 [(3,.val (.int .u64 (m:Int)))] ?_ ?_
 ·refine c_if (fun h=>?_) (fun h=>?_)
  ·refine go ?_
   refine r_un (vx:=.int .u64 (IntKind.u64.wrap z)) (r:=.int .u64 (m:Int)) (by apply Op1.tmp;(repeat (first | exact Lk.here | apply Lk.there rfl))) (fun w=>?_) rfl ?_
   ·have e:IntKind.u64.wrap (-IntKind.u64.wrap z)=(m:Int):=by simp [IntKind.wrap,IntKind.bits,IntKind.signed];omega
    rw [← e]
    simp [Op.unary,Op.intArith]
   refine go ?_
   exact sub
  ·rw [show IntKind.u64.wrap z=(m:Int) by simp [IntKind.wrap,IntKind.bits,IntKind.signed];omega]
   refine go ?_
   exact sub
 refine goc ?_
 refine c_reg ?_
 refine go1 ?_
 refine go1 ?_
 refine go1 ?_
 refine r_shr (k:=.u64) m 32 rfl rfl (by decide) ?_
 refine go1 ?_
 rw [wrap32,← e0,show (2:Nat) ^ 32=4294967296 by rfl,← e1]
 refine r_bslF (fun j=>[.val (.int .u32 ((dg 4294967296 m j:Nat):Int))]) ?_ (hf:=?_)
 ·refine r_eqS 18 (natU false 2 m) rfl ?_
  refine go ?_
  refine r_call hfm ?_
  refine go ?_
  refine fin ?_
  exact cv
 ·intro e he
  obtain rfl | rfl:e=0∨e=1:=by omega
  ·exact ⟨rfl,fun c hc=>by obtain rfl:c=0:=Nat.lt_one_iff.1 hc;rfl⟩
  ·exact ⟨rfl,fun c hc=>by obtain rfl:c=0:=Nat.lt_one_iff.1 hc;rfl⟩
theorem wCmp1_den (neg:Bool) (c:Int) (hc : -1≤c∧c≤1):Den Tryz.prog 194 [.val (.bool neg),.val (.int .i64 c)] (.val (.int .i64 (if neg then -c else c))):=by
 refine den_intro (fn:=Tryz.f194) rfl rfl rfl rfl rfl ?_
 refine go ?_
 refine c_ifB (fun h=>?_) (fun h=>?_)
 ·subst h
  refine go ?_
  refine fin ?_
  exact cv
 ·subst h
  refine go ?_
  refine fin ?_
  exact cv
def cmpZ (a b:Int):Int:=if a<b then -1 else if b<a then 1 else 0
theorem cmpN_in {A B:Nat} : -1≤cmpN A B∧cmpN A B≤1:=by unfold cmpN;split<;>(try split)<;>omega
theorem cmpZ_sign {a b:Int} (h:decide (a<0)≠decide (b<0)):(if decide (a<0) then -1 else 1)=cmpZ a b:=by
 unfold cmpZ
 by_cases h1:a<0<;>by_cases h2:b<0<;>simp [h1,h2] at h ⊢<;>(repeat (split))<;>omega
theorem cmpZ_same {a b:Int} (h:decide (a<0)=decide (b<0)):(if decide (a<0) then -cmpN a.natAbs b.natAbs else cmpN a.natAbs b.natAbs)=cmpZ a b:=by
 unfold cmpZ cmpN
 by_cases h1:a<0<;>by_cases h2:b<0<;>simp [h1,h2] at h ⊢<;>(repeat (split))<;>omega
theorem wCmp_den (a b:Int) (ha:Fz a) (hb:Fz b):Den Tryz.prog 116 [zN a,zN b] (.tup [.val (.int .i64 (cmpZ a b)),.val (.int .i64 0)]):=by
 have hv:=wvalidZ ha hb
 have hoa:=wofZ ha
 have hob:=wofZ hb
 have wa:=ha.words
 have wb:=hb.words
 have hcm:=wcompare_den a.natAbs b.natAbs (by omega) (by omega)
 have hc2:=cmpN_in (A:=a.natAbs) (B:=b.natAbs)
 have hs1:=fun h=>cmpZ_sign (a:=a) (b:=b) h
 have hs2:=fun h=>cmpZ_same (a:=a) (b:=b) h
 generalize cmpZ a b=r at hs1 hs2 ⊢
 generalize cmpN a.natAbs b.natAbs=c at hcm hc2 hs2
 refine den_intro (fn:=Tryz.f116) rfl rfl rfl rfl rfl ?_
 refine goc ?_
 refine c_reg ?_
 refine go1 ?_
 refine go1 ?_
 refine go1 ?_
 refine go1 ?_
 refine c_end (by kernel_rfl) ?_
 refine goc ?_
 refine c_reg ?_
 refine go1 ?_
 refine go1 ?_
 refine r_bslF (two2 a b) ?_ (hf:=two2_ok a b)
 refine r_eqS 9 (.fz false 2 2 (two2 a b)) rfl ?_
 refine go ?_
 refine r_call hv ?_
 refine go ?_
 refine c_no ?_
 refine go ?_
 refine c_ifB (fun h=>?_) (fun h=>?_)
 ·have hs1:=hs1 (by simpa using h)
  have h1:=wCmp1_den (decide (a<0)) 1 (by omega)
  rw [hs1] at h1
  refine go ?_
  refine r_call h1 ?_
  refine go ?_
  refine fin ?_
  exact cv
 ·have hs2:=hs2 (by simpa using h)
  have h1:=wCmp1_den (decide (a<0)) c hc2
  rw [hs2] at h1
  refine go ?_
  refine r_call hoa ?_
  refine go ?_
  refine r_call hob ?_
  refine go ?_
  refine r_call hcm ?_
  refine go ?_
  refine r_call h1 ?_
  refine go ?_
  refine fin ?_
  exact cv
theorem flQ_le {A B:Nat} {an:Bool} (hB:B≠0):flQ A an B≤A:=by
 unfold flQ
 have h1:=Nat.div_add_mod A B
 have h2:=Nat.mod_lt A (show 0<B by omega)
 have h3:A / B≤B*(A / B):=Nat.le_mul_of_pos_left _ (by omega)
 split
 ·rename_i h
  simp only [Bool.and_eq_true,decide_eq_true_eq] at h
  generalize B*(A / B)=M at *
  omega
 ·exact Nat.div_le_self _ _
theorem flR_lt {A B:Nat} {an:Bool} (hB:B≠0):flR A an B<B:=by
 unfold flR
 have h2:=Nat.mod_lt A (show 0<B by omega)
 split
 ·rename_i h
  simp only [Bool.and_eq_true,decide_eq_true_eq] at h
  omega
 ·exact h2
theorem Fz.div {a b:Int} (ha:Fz a) (hb0:b≠0):Fz (a / b):=by
 have h:=(fl_eq (A:=a.natAbs) (B:=b.natAbs) (an:=decide (a<0)) (bn:=decide (b<0)) (by omega)).1
 rw [zI_self,zI_self] at h
 rw [← h]
 refine ha.le ?_
 rw [zI_abs]
 exact flQ_le (by omega)
theorem Fz.mod {a b:Int} (hb:Fz b) (hb0:b≠0):Fz (a % b):=by
 refine hb.le ?_
 have h1:=Int.emod_nonneg a hb0
 have h2:=Int.emod_lt a hb0
 omega
theorem strN_emp {A:Nat}:((strN A).toList == ({ data:=#[] }:ByteArray).toList)=decide (A=0):=by
 rw [isEmpty_eq,strN_size]
 by_cases h:A=0
 ·subst h;rfl
 ·rw [decide_eq_false h,decide_eq_false (fun e=>h (nD_eq_zero.1 e))]
theorem wDiv_den (a b:Int) (ha:Fz a) (hb:Fz b) (hb0:b≠0):Den Tryz.prog 180 [zN a,zN b] (.tup [zN (a / b),zN (a % b),.val (.int .i64 0)]):=by
 have hv:=wvalidZ ha hb
 have hoa:=wofZ ha
 have hob:=wofZ hb
 have wa:=ha.words
 have wb:=hb.words
 have hB0:b.natAbs≠0:=by omega
 obtain ⟨e1,e2⟩:=fl_eq (A:=a.natAbs) (B:=b.natAbs) (an:=decide (a<0)) (bn:=decide (b<0)) hB0
 have hfl:=wfloor_den a.natAbs b.natAbs (decide (a<0)) (decide (b<0)) (by omega) (by omega) hB0
 have hq:=flQ_le (A:=a.natAbs) (an:=decide (a<0)) hB0
 have hr:=flR_lt (A:=a.natAbs) (an:=decide (a<0)) hB0
 rw [zI_self,zI_self] at e1 e2
 generalize flQ a.natAbs (decide (a<0)) b.natAbs=Q at e1 hfl hq
 generalize flR a.natAbs (decide (a<0)) b.natAbs=R at e2 hfl hr
 have hf1:=wform_den Q (nD 32 Q) (decide (a<0) != decide (b<0)) nw_lt (Nat.le_trans (nw_le (Nat.lt_of_le_of_lt hq nw_lt)) (by omega))
 have hf2:=wform_den R (nD 32 R) false nw_lt (Nat.le_trans (nw_le (Nat.lt_trans hr nw_lt)) (by omega))
 rw [resN_eq,e1,resZ_ok (ha.div hb0)] at hf1
 rw [resN_eq,zI_f,e2,resZ_ok (hb.mod hb0)] at hf2
 clear hq hr e1 e2
 generalize a / b=q at hf1 ⊢
 generalize a % b=r at hf2 ⊢
 refine den_intro (fn:=Tryz.f180) rfl rfl rfl rfl rfl ?_
 refine goc ?_
 refine c_reg ?_
 refine go1 ?_
 refine go1 ?_
 refine go1 ?_
 refine go1 ?_
 refine go1 ?_
 refine c_end (by kernel_rfl) ?_
 refine goc ?_
 refine c_reg ?_
 refine go1 ?_
 refine go1 ?_
 refine r_bslF (two2 a b) ?_ (hf:=two2_ok a b)
 refine r_eqS 12 (.fz false 2 2 (two2 a b)) rfl ?_
 refine go ?_
 refine r_call hv ?_
 refine go ?_
 rw [strN_emp,decide_eq_false hB0]
 refine c_no ?_
 refine go ?_
 refine r_call hoa ?_
 refine go ?_
 refine r_call hob ?_
 refine go ?_
 refine r_callO hfl ?_
 refine go ?_
 refine r_call hf1 ?_
 refine go ?_
 refine r_call hf2 ?_
 refine go ?_
 refine fin ?_
 exact cv
theorem wShr_den (a:Int) (ha:Fz a) (h0:0≤a) (s:Nat) (hs:s<32):Den Tryz.prog 185 [zN a,.val (.int .i64 (s:Int))] (.tup [zN (a / 2 ^ s),.val (.int .i64 0)]):=by
 have hoa:=wofZ ha
 have wa:=ha.words
 have hv:=wValid_den (decide (a<0)) (strN a.natAbs)
 rw [ha.ok] at hv
 obtain ⟨A,rfl⟩:∃ A:Nat,a=(A:Int):=⟨a.natAbs,by omega⟩
 rw [Int.natAbs_natCast] at hoa wa hv
 have hrt:=wright_den A s (by omega) hs
 have hq:A / 2 ^ s≤A:=Nat.div_le_self _ _
 have hf1:=wform_den (A / 2 ^ s) (nD 32 (A / 2 ^ s)) false nw_lt (Nat.le_trans (nw_le (Nat.lt_of_le_of_lt hq nw_lt)) (by omega))
 have e1:((A:Int) / 2 ^ s)=((A / 2 ^ s:Nat):Int):=by simp
 rw [resN_eq,zI_f,resZ_ok (ha.le (by rw [Int.natAbs_natCast,Int.natAbs_natCast];exact hq))] at hf1
 rw [e1]
 have e2:decide ((A:Int)<0)=false:=decide_eq_false (by omega)
 generalize A / 2 ^ s=Q at *
 rw [show zN (A:Int)=wS (decide ((A:Int)<0)) (strN A) by rw [zN,Int.natAbs_natCast],e2] at hoa ⊢
 rw [e2] at hv
 refine den_intro (fn:=Tryz.f185) rfl rfl rfl rfl rfl ?_
 refine go ?_
 refine r_call hv ?_
 refine go ?_
 refine c_yes ?_
 refine go ?_
 refine r_call hoa ?_
 refine go ?_
 refine r_call hrt ?_
 refine go ?_
 refine r_call hf1 ?_
 refine go ?_
 refine fin ?_
 exact cv

instance fi312:FI Tryz.prog 312 Tryz.f312:=⟨Tryz.func312,Tryz.call312⟩
instance fi310:FI Tryz.prog 310 Tryz.f310:=⟨Tryz.func310,Tryz.call310⟩
instance fi311:FI Tryz.prog 311 Tryz.f311:=⟨Tryz.func311,Tryz.call311⟩
instance fi309:FI Tryz.prog 309 Tryz.f309:=⟨Tryz.func309,Tryz.call309⟩
set_option maxHeartbeats 4000000
section
variable {P:Program} {N:Nat} {ops:Array Oper} {rest:List Oper} {env:List (Nat × D)} {box:List (Nat × Option Box)} {done:List Rec} {K:List Rec→List (Nat × D)→List (Nat × Option Box)→Prop} {d:Nat} {ty:TypeId} {pos:String} {aft:Array Edge} {x y:Operand} {t t2:TypeId} {u:Int}
theorem mask1 (a:Nat) (ha:a<4294967296):bits .and .u32 (a:Int) 1=((a % 2:Nat):Int):=by
 have:=bits_mask .u32 32 (by decide) (fun n h0 h1=>IntWalk.u32_in n (by omega)) 1 (by decide) (a:Int) (by omega) (by omega)
 simpa using this
theorem r_mask1 (a:Nat) (hz:NatIs u a) (ha:a<4294967296) (h:RunK P N ops rest ((d,.val (.int .u32 ((a % 2:Nat):Int)))::env) box (done++[⟨[],some d,.val (.int .u32 ((a % 2:Nat):Int)),[],[]⟩]) K) (hx:autoParam (Op1 env x (.val (.int .u32 u))) aq8._auto_1) (hy:autoParam (Op1 env y (.val (.int .u32 1))) aq8._auto_1) (hd:Nat.blt d (fsz N)=true:=by rfl):RunK P N ops (⟨some d,.binOp .and t x y t2,ty,pos,aft,none⟩::rest) env box done K:=
 r_bin hx hy (fun w=>by
  obtain rfl:=hz
  rw [← mask1 a ha]
  simp [eqGuard,binOp,Op.intBits,Result.andThen]
  rfl) hd h
end
theorem r2bit_den (A i:Nat) (hA:nD 16 A≤4000) (hi:i≤100000):Den Tryz.prog 312 [hF true A,.val (.int .i64 (i:Int))] (.val (.int .u32 ((dg 2 A i:Nat):Int))):=by
 have hlA:=nh_lt (A:=A)
 have hbw:=bit_word (A:=A) (k:=i)
 have hd:=dgh (A:=A) (i:=i / 16)
 refine den_intro (fn:=Tryz.f312) rfl rfl rfl rfl rfl ?_
 refine go ?_
 refine c_if (fun h3=>?_) (fun h3=>?_)
 ·have h0:dg 65536 A (i / 16)=0:=dg_beyond' (by omega) hlA h3
  rw [h0,Nat.zero_div] at hbw
  rw [← hbw]
  refine go ?_
  refine fin ?_
  exact cv
 ·refine go ?_
  refine r_shr (k:=.u32) (dg 65536 A (i / 16)) (i % 16) rfl rfl (by show i % 16≤32;omega) ?_
  have hq:dg 65536 A (i / 16) / 2 ^ (i % 16)<4294967296:=Nat.lt_of_le_of_lt (Nat.div_le_self _ _) (by omega)
  refine r_mask1 (dg 65536 A (i / 16) / 2 ^ (i % 16)) rfl hq ?_
  rw [hbw]
  refine go ?_
  refine fin ?_
  exact cv
theorem r2bits_den (A:Nat) (hA:nD 16 A≤4000):Den Tryz.prog 310 [hF true A] (.val (.int .i64 ((nD 1 A:Nat):Int))):=by
 have hb:=nh_bit (A:=A)
 have hl1:=n1_lt (A:=A)
 refine den_intro (fn:=Tryz.f310) rfl rfl rfl rfl rfl ?_
 refine go ?_
 refine c_down (fun m=>m) (fun m=>m≤16*nD 16 A∧A<2 ^ m) (fun m:Nat=>[(3,.val (.int .i64 (m:Int)))]) (fun _=>[]) (16*nD 16 A) (fun m ⟨hm,hF⟩=>?_) ⟨Nat.le_refl _,Nat.lt_of_lt_of_le hl1 (Nat.pow_le_pow_right (by omega) (by omega))⟩
 refine go ?_
 rcases Nat.eq_zero_or_pos m with h0 | h0
 ·subst h0
  obtain rfl:A=0:=by simpa using hF
  refine g_callM (names:=[]) (r:=.val (.int .u32 0)) (hl:=fun hb=>by simp at hb) (h:=?_)
  refine go ?_
  refine fin ?_
  exact cv
 have hm1:(m:Int) - 1=((m - 1:Nat):Int):=by omega
 rw [hm1]
 refine g_callM (hl:=fun hb=>r_callO (r2bit_den A (m - 1) hA (by omega)) (run_fin rfl)) (h:=?_)
 refine go ?_
 refine c_ifB (fun h1=>?_) (fun h1=>?_)
 ·have h1:dg 2 A (m - 1)=0:=by simpa [h0] using h1
  refine go ?_
  refine ⟨m - 1,⟨by omega,lt_of_top (by omega) (by rw [Nat.sub_add_cancel h0];exact hF) h1⟩,by omega,?_⟩
  exact sub
 ·have h1:dg 2 A (m - 1)≠0:=by simpa [h0] using h1
  have hm2:nD 1 A=m:=by
   obtain ⟨m',rfl⟩:∃ m',m=m'+1:=⟨m - 1,by omega⟩
   exact n1_top hF h1
  rw [hm2]
  refine go ?_
  refine fin ?_
  exact cv
theorem r2left_den (A:Nat) (hA:nD 16 A≤4000):Den Tryz.prog 311 [hF true A,.val (.int .i64 (1:Int))] (hU false (nD 16 A+1) (2*A)):=by
 have hlA:=nh_lt (A:=A)
 have hz:=cySl_zero (W:=65536) (A:=A) (D:=2)
 refine den_intro (fn:=Tryz.f311) rfl rfl rfl rfl rfl ?_
 obtain ⟨n,hn⟩:∃ n,nD 16 A=n:=⟨_,rfl⟩
 rw [hn] at hlA ⊢
 obtain ⟨S,hS⟩:∃ S,2*A=S:=⟨_,rfl⟩
 rw [hS]
 refine go ?_
 refine c_eq 5 (.sl 1010 1 0) rfl ?_
 refine awp_sub (sub_toL [10] 1010 1900 (Sub.refl _ _)) ?_
 refine c_arr 1900 (t:=22) (n:=0) (m:=1) (fun j=>[.val (.int .u32 ((dg 65536 S j:Nat):Int))]) (fun e he=>absurd he (Nat.not_lt_zero _)) (fun _=>rfl) ?_
 refine c_up n (fun i=>[(5,.sl 1900 1 i),(7,.val (.int .i64 (i:Nat))),(6,.val (.int .u32 ((cySl 65536 A 2 i:Nat):Int)))]) (fun i=>[(1900,some (hBx i S))]) (fun i hi=>?_)
 have h1:=cySl_lt (W:=65536) (A:=A) (D:=2) (i:=i) (by omega) (by omega)
 have h2:=dgh (A:=A) (i:=i)
 have h3:=dg_sl (W:=65536) (A:=A) (D:=2) (i:=i) (by omega)
 have h4:=cySl_succ (W:=65536) (A:=A) (D:=2) (i:=i) (by omega)
 rw [Nat.mul_comm A,hS] at h3
 refine go ?_
 rw [hn]
 refine c_if (fun h7=>?_) (fun h7=>?_)
 ·refine go ?_
  refine r_shl32 (dg 65536 A i) 1 rfl rfl (by omega) ?_
  rw [Nat.pow_one,Nat.mod_eq_of_lt (show dg 65536 A i*2<4294967296 by omega)]
  refine go ?_
  rw [← h3,← h4]
  refine ⟨by omega,?_⟩
  refine sub_arr 1030 (fun j=>[.val (.int .u32 ((dg 65536 S j:Nat):Int))]) (appF_snoc rfl) (fun _=>rfl) ?_
  refine sub_toL [26] 1030 1900 ?_
  exact sub
 ·obtain rfl:i=n:=by omega
  have h8:dg 65536 A i=0:=dg_beyond hlA
  rw [h8,Nat.zero_mul,Nat.add_zero,Nat.mod_eq_of_lt (by omega)] at h3
  refine go ?_
  rw [← h3]
  refine fin_arr 1036 (fun j=>[.val (.int .u32 ((dg 65536 S j:Nat):Int))]) (appF_snoc rfl) (fun _=>rfl) ?_
  refine fin_freeze 1036 ?_
  refine fin ?_
  exact cv
theorem r2short_den (A n:Nat) (hA:nD 16 A≤4000) (hn0:0<n) (hn:n<65536):Den Tryz.prog 309 [hF true A,.val (.int .u32 (n:Int))] (.tup [hU false (nD 16 A) (A / n),.val (.int .u32 ((A % n:Nat):Int))]):=by
 have hlA:=nh_lt (A:=A)
 have h0:=reSh_top (W:=65536) (m:=n) hlA
 have hz:=reSh_zero (W:=65536) (A:=A) (m:=n)
 refine den_intro (fn:=Tryz.f309) rfl rfl rfl rfl rfl ?_
 obtain ⟨m,hm⟩:∃ m,nD 16 A=m:=⟨_,rfl⟩
 rw [hm] at hlA h0 ⊢
 refine go ?_
 rw [hm]
 refine c_eq 6 (.sl 1011 1 m) rfl ?_
 refine word_zero (n:=m) 1011 (fun e=>if m≤e then dg 65536 (A / n) e else 0) (fun e he=>by rw [if_neg (by omega)]) ?_
 refine c_down (fun i=>i) (fun i=>i≤m) (fun i:Nat=>[(8,.val (.int .i64 ((i:Int) - 1))),(7,.val (.int .u32 ((reSh 65536 A n i:Nat):Int)))]) (fun i=>[(1011,some (rowB m (fun e=>if i≤e then dg 65536 (A / n) e else 0)))]) m (fun i hi=>?_) (Nat.le_refl _)
 rcases Nat.eq_zero_or_pos i with i0 | i0
 ·subst i0
  refine go ?_
  rw [hz]
  refine word_end 1011 (dg 65536 (A / n)) (fun e _=>if_pos (Nat.zero_le _)) ?_
  refine fin_freeze 1011 ?_
  refine fin ?_
  exact cv
 ·obtain ⟨j,rfl⟩:∃ j,i=j+1:=⟨i - 1,by omega⟩
  rw [show ((j+1:Nat):Int) - 1=(j:Int) by omega]
  have h1:=dgh (A:=A) (i:=j)
  have h2:reSh 65536 A n (j+1)<n:=Nat.mod_lt _ hn0
  have h3:=quot_dg_lt (W:=65536) h2 h1
  have h4:=dg_quot (W:=65536) (A:=A) (m:=n) (i:=j) (by omega) hn0
  have h5:=reSh_step (W:=65536) (A:=A) (m:=n) (i:=j)
  rw [Nat.mod_eq_of_lt h3] at h4
  have h6:reSh 65536 A n j<n:=Nat.mod_lt _ hn0
  refine go ?_
  refine r_shl32 (reSh 65536 A n (j+1)) 16 rfl rfl (by decide) ?_
  rw [show (2:Nat) ^ 16=65536 by rfl,Nat.mod_eq_of_lt (show reSh 65536 A n (j+1)*65536<4294967296 by omega)]
  obtain ⟨T,hT⟩:∃ T,reSh 65536 A n (j+1)*65536+dg 65536 A j=T:=⟨_,rfl⟩
  have hT2:T<4294967296:=by omega
  rw [hT] at h3 h4 h5
  refine go ?_
  rw [hT]
  refine go ?_
  rw [← h5,← h4]
  refine ⟨j,by omega,by omega,?_⟩
  refine word_put 1011 (h:=fun e=>if j+1≤e then dg 65536 (A / n) e else 0) (fun e=>if j≤e then dg 65536 (A / n) e else 0) (by rw [if_pos (Nat.le_refl _)]) (fun e he hne=>?_) ?_
  ·by_cases q:j+1≤e
   ·rw [if_pos q,if_pos (by omega)]
   ·rw [if_neg q,if_neg (by omega)]
  exact sub

instance fi287:FI Tryz.prog 287 Tryz.f287:=⟨Tryz.func287,Tryz.call287⟩
set_option maxHeartbeats 8000000
theorem nD16_one:nD 16 1=1:=by decide
theorem r2long_den (A B:Nat) (hA:nD 16 A≤1000) (hB:nD 16 B≤1000) (hB0:B≠0):Den Tryz.prog 287 [hF true A,hF true B] (.tup [hU false (nD 16 A) (A / B),hF false (A % B)]):=by
 have hlA:=nh_lt (A:=A)
 have hlB:=nh_lt (A:=B)
 have hnB:=nD_pos (k:=16) hB0
 have hn1:=nh_bit (A:=A)
 have hl1:=n1_lt (A:=A)
 obtain ⟨la,hla⟩:∃ la,nD 16 A=la:=⟨_,rfl⟩
 rw [show hU false (nD 16 A) (A / B)=hU false la (A / B) by rw [hla]]
 refine den_intro (fn:=Tryz.f287) rfl rfl rfl rfl rfl ?_
 refine go ?_
 refine c_if (fun h1=>?_) (fun h1=>?_)
 ·have hB2:B<65536:=by rw [h1,Nat.pow_one] at hlB;exact hlB
  have hB1:dg 65536 B 0=B:=by
   unfold dg
   rw [Nat.pow_zero,Nat.div_one,Nat.mod_eq_of_lt hB2]
  refine go ?_
  rw [hB1]
  have hsh:=r2short_den A B (by omega) (by omega) hB2
  rw [show hU false (nD 16 A) (A / B)=hU false la (A / B) by rw [hla]] at hsh
  refine r_call hsh ?_
  have hr:A % B<B:=Nat.mod_lt _ (by omega)
  have hr1:A % B<65536 ^ 1:=by omega
  have hr3:dg 65536 (A % B) 0=A % B:=by unfold dg;rw [Nat.pow_zero,Nat.div_one,Nat.mod_eq_of_lt (by omega)]
  refine gor ?_
  refine goc ?_
  refine c_reg ?_
  refine go1 ?_
  refine go1 ?_
  refine r_eqS 23 (.val (.int .u32 ((dg 65536 (A % B) 0:Nat):Int))) (d:=.val (.int .u32 ((A % B:Nat):Int))) (by rw [hr3]) ?_
  refine r_bslF (fun j=>[.val (.int .u32 ((dg 65536 (A % B) j:Nat):Int))]) ?_ (hf:=?_)
  ·refine r_eqS 24 (hU false 1 (A % B)) rfl ?_
   refine go ?_
   refine r_call (r2trim_den (A % B) 1 false hr1 (by omega)) ?_
   refine go ?_
   refine fin ?_
   exact cv
  ·intro e he
   obtain rfl:e=0:=by omega
   exact ⟨rfl,fun c hc=>by obtain rfl:c=0:=Nat.lt_one_iff.1 hc;rfl⟩
 have hn2:2≤nD 16 B:=by omega
 refine go ?_
 refine r_call (r2bits_den A (by omega)) ?_
 refine go ?_
 obtain ⟨nb,hnb⟩:∃ nb,nD 1 A=nb:=⟨_,rfl⟩
 obtain ⟨Q,hQ⟩:∃ Q,A / B=Q:=⟨_,rfl⟩
 have hQA:Q≤A:=by rw [← hQ];exact Nat.div_le_self _ _
 rw [hnb] at hn1 hl1 ⊢
 rw [hla] at hn1 hA hlA
 rw [hla]
 refine c_eq 8 (.sl 1030 1 la) rfl ?_
 refine c_slot 9 (hF false 0) ?_ (hc:=CvV.cvt (CvV.id rfl) (Cvt.nil _ _ _))
 have hQb:Q<2 ^ nb:=Nat.lt_of_le_of_lt hQA hl1
 refine word_zero 1030 (fun e=>dg 65536 (hiT Q nb) e) (fun e he=>by rw [hiT_top hQb];simp [dg]) ?_
 have e0:A / 2 ^ nb % B=0:=by rw [Nat.div_eq_of_lt hl1,Nat.zero_mod]
 refine c_eq 9 (hF false (A / 2 ^ nb % B)) (d:=hF false 0) (by rw [e0]) ?_
 have hrest:=fun i=>bit_rest (A:=A) (B:=B) (i:=i)
 have hquot:=fun i=>bit_quot (A:=A) (B:=B) (i:=i) (by omega)
 rw [hQ] at hquot
 refine c_less [11,12,13,28,29,30,31,32,33] ?_
 refine c_down (fun i=>i) (fun i=>i≤nb) (fun i:Nat=>[(10,.val (.int .i64 ((i:Int) - 1))),(9,hF false (A / 2 ^ i % B))]) (fun i=>[(1030,some (rowB la (fun e=>dg 65536 (hiT Q i) e)))]) nb (fun i hi=>?_) (Nat.le_refl _)
 rcases Nat.eq_zero_or_pos i with i0 | i0
 ·subst i0
  refine go ?_
  rw [Nat.pow_zero,Nat.div_one,hQ]
  refine word_end 1030 (h:=fun e=>dg 65536 (hiT Q 0) e) (dg 65536 Q) (fun e _=>by rw [hiT_zero]) ?_
  refine fin_freeze 1030 ?_
  refine fin ?_
  exact cv
 ·obtain ⟨j,rfl⟩:∃ j,i=j+1:=⟨i - 1,by omega⟩
  rw [show ((j+1:Nat):Int) - 1=(j:Int) by omega]
  have h2:=hrest j
  have h3:=hquot j
  have h4:A / 2 ^ (j+1) % B<B:=Nat.mod_lt _ (by omega)
  obtain ⟨R,hR⟩:∃ R,A / 2 ^ (j+1) % B=R:=⟨_,rfl⟩
  obtain ⟨d,hd⟩:∃ d,dg 2 A j=d:=⟨_,rfl⟩
  have hd2:d<2:=by rw [← hd];exact dg_lt (by omega)
  rw [hR] at h2 h3 h4 ⊢
  rw [hd] at h2 h3
  have hRn:nD 16 R≤1000:=Nat.le_trans (nh_le (Nat.lt_trans h4 hlB)) hB
  have hR2:2*R<65536 ^ (nD 16 R+1):=by
   have:R<65536 ^ nD 16 R:=nh_lt
   rw [Nat.pow_succ];omega
  have hR3:=nh_le hR2
  refine go ?_
  refine r_call (r2left_den R (by omega)) ?_
  refine go ?_
  refine r_call (r2trim_den (2*R) (nD 16 R+1) false hR2 (by omega)) ?_
  refine go ?_
  refine r_callO (r2bit_den A j (by omega) (by omega)) ?_
  rw [hd]
  have hRd:2*R+d<65536 ^ (nD 16 R+1):=by
   have:R<65536 ^ nD 16 R:=nh_lt
   rw [Nat.pow_succ];omega
  have hRdn:=nh_le hRd
  refine go ?_
  refine c_cut0 [(9,hF false (2*R+d))] ?_ ?_
  ·refine c_if (fun h5=>?_) (fun h5=>?_)
   ·subst h5
    refine goc ?_
    refine c_reg ?_
    refine go1 ?_
    refine r_bslF (fun j=>[.val (.int .u32 ((dg 65536 1 j:Nat):Int))]) ?_ (hf:=?_)
    ·refine r_eqS 48 (hF false 1) (by rw [hF,nD16_one]) ?_
     refine go ?_
     refine r_call (r2plus_den (2*R) 1 (by omega) (by rw [nD16_one];omega)) ?_
     refine go ?_
     exact sub
    ·intro e he
     obtain rfl:e=0:=by omega
     exact ⟨rfl,fun c hc=>by obtain rfl:c=0:=Nat.lt_one_iff.1 hc;rfl⟩
   ·obtain rfl:d=0:=by omega
    refine go ?_
    exact sub
  obtain ⟨S,hS⟩:∃ S,2*R+d=S:=⟨_,rfl⟩
  rw [show R*2+d=S by omega] at h2 h3
  rw [hS] at hRd hRdn ⊢
  have hj4:j / 16<la:=by omega
  have hp1:dg 65536 (hiT Q (j+1)) (j / 16)<65536:=dgh
  have hp2:2 ^ (j % 16)≤32768:=by
   have:=Nat.pow_le_pow_right (n:=2) (show 0<2 by omega) (show j % 16≤15 by omega)
   simpa using this
  refine c_less [34,35,38,39,40,41,42,43,44,45,46] ?_
  refine go ?_
  refine r_callO (r2order_den S B (by omega) (by omega)) ?_
  refine go ?_
  refine c_if (fun h5=>?_) (fun h5=>?_)
  ·have h6:B≤S:=by
    rcases Nat.lt_or_ge S B with q | q
    ·unfold cmpN at h5;rw [if_pos q] at h5;omega
    ·exact q
   have h7:S / B=1:=by
    rw [Nat.div_eq_sub_div (by omega) h6,Nat.div_eq_of_lt (by omega)]
   have h8:S % B=S - B:=by rw [Nat.mod_eq_sub_mod h6,Nat.mod_eq_of_lt (by omega)]
   rw [h7] at h3
   rw [h8] at h2
   refine go ?_
   refine r_call (r2minus_den S B (by omega) h6) ?_
   refine go ?_
   refine r_call (r2trim_den (S - B) (nD 16 S) false (Nat.lt_of_le_of_lt (Nat.sub_le _ _) nh_lt) (by omega)) ?_
   refine go ?_
   have e5:1*2 ^ (j % 16) % 4294967296=2 ^ (j % 16):=by rw [Nat.one_mul,Nat.mod_eq_of_lt (by omega)]
   refine r_shl32 1 (j % 16) rfl rfl (by omega) ?_
   rw [e5]
   generalize hpw:2 ^ (j % 16)=pw at hp2 ⊢
   refine go ?_
   refine ⟨j,by omega,by omega,?_⟩
   rw [h2]
   refine word_put 1030 (h:=fun e=>dg 65536 (hiT Q (j+1)) e) (fun e=>dg 65536 (hiT Q j) e) (by rw [hiT_put h3,if_pos rfl,hpw]) (fun e _ hne=>by rw [hiT_put h3,if_neg hne]) ?_
   exact sub
  ·have h6:S<B:=by
    rcases Nat.lt_or_ge S B with q | q
    ·exact q
    ·unfold cmpN at h5;rw [if_neg (by omega)] at h5;split at h5<;>omega
   rw [Nat.div_eq_of_lt h6] at h3
   rw [Nat.mod_eq_of_lt h6] at h2
   refine go ?_
   refine ⟨j,by omega,by omega,?_⟩
   rw [hiT_same h3,h2]
   exact sub

instance fi258:FI Tryz.prog 258 Tryz.f258:=⟨Tryz.func258,Tryz.call258⟩
instance fi31:FI Tryz.prog 31 Tryz.f31:=⟨Tryz.func31,Tryz.call31⟩
instance fi197:FI Tryz.prog 197 Tryz.f197:=⟨Tryz.func197,Tryz.call197⟩
instance fi121:FI Tryz.prog 121 Tryz.f121:=⟨Tryz.func121,Tryz.call121⟩
instance fi125:FI Tryz.prog 125 Tryz.f125:=⟨Tryz.func125,Tryz.call125⟩
instance fi35:FI Tryz.prog 35 Tryz.f35:=⟨Tryz.func35,Tryz.call35⟩
instance fi33:FI Tryz.prog 33 Tryz.f33:=⟨Tryz.func33,Tryz.call33⟩
instance fi186:FI Tryz.prog 186 Tryz.f186:=⟨Tryz.func186,Tryz.call186⟩
abbrev nZ (o:Bool) (z:Int):D:=nmF o (decide (z<0)) z.natAbs
theorem nmF_Z (neg:Bool) (A:Nat):nmF false (neg && decide (A≠0)) A=nZ false (zI neg A):=by
 show _=nmF false _ _
 rw [zI_abs,zI_neg]
theorem Fz.halves {z:Int} (h:Fz z):nD 16 z.natAbs≤128:=by
 have:nD 8 z.natAbs≤256:=h
 rw [nh_nb];omega
theorem r2inZ {z:Int} (h:Fz z):Den Tryz.prog 110 [zN z] (nZ false z):=r2in_den _ _ h
theorem r2outZ {z:Int} (n:Nat) (h:z.natAbs<65536 ^ n) (hn:n≤2000):Den Tryz.prog 107 [.agg [.val (.bool (decide (z<0))),hU true n z.natAbs]] (resZ z):=by
 have:=r2out_den z.natAbs n (decide (z<0)) h hn
 rw [resN_eq,zI_self] at this
 exact this
theorem r2addZ {a b:Int} (ha:nD 16 a.natAbs≤3000) (hb:nD 16 b.natAbs≤3000):Den Tryz.prog 111 [nZ true a,nZ true b] (nZ false (a+b)):=by
 have:=r2add_den (decide (a<0)) (decide (b<0)) a.natAbs b.natAbs ha hb
 rw [nmF_Z,sm_eq,zI_self,zI_self] at this
 exact this
theorem r2mulZ {a b:Int} (ha:nD 16 a.natAbs≤1000) (hb:nD 16 b.natAbs≤1000):Den Tryz.prog 109 [nZ true a,nZ true b] (nZ false (a*b)):=by
 have:=r2mul_den (decide (a<0)) (decide (b<0)) a.natAbs b.natAbs ha hb
 rw [nmF_Z,mulS_eq,zI_self,zI_self] at this
 exact this
theorem r2negZ {a:Int} (ha:nD 16 a.natAbs≤4000):Den Tryz.prog 261 [nZ true a] (nZ false (-a)):=by
 have:=r2negative_den (decide (a<0)) a.natAbs ha
 rw [nmF_Z] at this
 rw [show -a=zI (!decide (a<0)) a.natAbs by unfold zI;by_cases h:a<0<;>simp [h]<;>omega]
 exact this
theorem r2ValidZ {z:Int} (h:Fz z):Den Tryz.prog 27 [zN z] (.val (.bool true)):=by
 have:=r2Valid_den (decide (z<0)) (strN z.natAbs)
 rw [h.ok] at this
 exact this
theorem r2compareZ {a b:Int} (ha:nD 16 a.natAbs≤1000) (hb:nD 16 b.natAbs≤1000):Den Tryz.prog 197 [nZ true a,nZ true b] (.val (.int .i64 (cmpZ a b))):=by
 have h1:=r2negZ (a:=b) (by omega)
 have h2:=r2addZ (a:=a) (b:= -b) (by omega) (by rw [Int.natAbs_neg];omega)
 refine den_intro (fn:=Tryz.f197) rfl rfl rfl rfl rfl ?_
 refine go ?_
 refine r_call h1 ?_
 refine go ?_
 refine r_call h2 ?_
 refine go ?_
 unfold cmpZ
 refine c_if (fun h=>?_) (fun h=>?_)
 ·rw [if_pos (by omega)]
  refine go ?_
  refine fin ?_
  exact cv
 ·rw [if_neg (by omega)]
  refine go ?_
  refine c_if (fun h3=>?_) (fun h3=>?_)
  ·have h4:(a + -b).natAbs≠0:=fun e=>by rw [e] at h3;exact absurd h3 (by decide)
   rw [if_pos (by omega)]
   refine go ?_
   refine fin ?_
   exact cv
  ·have h4:(a + -b).natAbs=0:=(nD_eq_zero (k:=16)).1 (by omega)
   rw [if_neg (by omega)]
   refine go ?_
   refine fin ?_
   exact cv
theorem r2Cmp_den (a b:Int) (ha:Fz a) (hb:Fz b):Den Tryz.prog 121 [zN a,zN b] (.tup [.val (.int .i64 (cmpZ a b)),.val (.int .i64 0)]):=by
 have wa:=ha.halves
 have wb:=hb.halves
 refine den_intro (fn:=Tryz.f121) rfl rfl rfl rfl rfl ?_
 refine go ?_
 refine r_call (r2ValidZ ha) ?_
 refine go ?_
 refine g_callM (hl:=fun _=>r_call (r2ValidZ hb) (run_fin rfl)) (h:=?_)
 refine go ?_
 refine c_no ?_
 refine go ?_
 refine r_call (r2inZ ha) ?_
 refine go ?_
 refine r_call (r2inZ hb) ?_
 refine go ?_
 refine r_call (r2compareZ (a:=a) (b:=b) (by omega) (by omega)) ?_
 refine go ?_
 refine fin ?_
 exact cv
theorem nh_add {A B n:Nat} (hA:nD 16 A≤n) (hB:nD 16 B≤n):A+B<65536 ^ (n+1):=by
 have h1:A<65536 ^ n:=powh hA
 have h2:B<65536 ^ n:=powh hB
 rw [Nat.pow_succ];omega
theorem r2outZ' {z:Int} (h:nD 16 z.natAbs≤2000):Den Tryz.prog 107 [nZ true z] (resZ z):=r2outZ _ nh_lt h
theorem r2Add_den (a b:Int) (ha:Fz a) (hb:Fz b):Den Tryz.prog 35 [zN a,zN b] (resZ (a+b)):=by
 have ho:Den Tryz.prog 107 [nZ true (a+b)] (resZ (a+b)):=r2outZ' (Nat.le_trans (nh_le (Nat.lt_of_le_of_lt (Int.natAbs_add_le a b) (nh_add ha.halves hb.halves))) (by omega))
 obtain ⟨rb,rs,re,hr⟩:=resZ_form (a+b)
 rw [hr] at ho ⊢
 have wa:=ha.halves
 have wb:=hb.halves
 refine den_intro (fn:=Tryz.f35) rfl rfl rfl rfl rfl ?_
 refine go ?_
 refine r_call (r2ValidZ ha) ?_
 refine go ?_
 refine g_callM (hl:=fun _=>r_call (r2ValidZ hb) (run_fin rfl)) (h:=?_)
 refine go ?_
 refine c_no ?_
 refine go ?_
 refine r_call (r2inZ ha) ?_
 refine go ?_
 refine r_call (r2inZ hb) ?_
 refine go ?_
 refine r_call (r2addZ (a:=a) (b:=b) (by omega) (by omega)) ?_
 refine go ?_
 refine r_call ho ?_
 refine go ?_
 refine fin ?_
 exact cv
theorem r2Mul_den (a b:Int) (ha:Fz a) (hb:Fz b):Den Tryz.prog 33 [zN a,zN b] (resZ (a*b)):=by
 have hm:nD 16 (a*b).natAbs≤128+128:=by
  apply nh_le
  rw [Int.natAbs_mul,Nat.pow_add]
  exact Nat.mul_lt_mul'' (powh ha.halves) (powh hb.halves)
 have ho:Den Tryz.prog 107 [nZ true (a*b)] (resZ (a*b)):=r2outZ' (by omega)
 obtain ⟨rb,rs,re,hr⟩:=resZ_form (a*b)
 rw [hr] at ho ⊢
 have wa:=ha.halves
 have wb:=hb.halves
 refine den_intro (fn:=Tryz.f33) rfl rfl rfl rfl rfl ?_
 refine go ?_
 refine r_call (r2ValidZ ha) ?_
 refine go ?_
 refine g_callM (hl:=fun _=>r_call (r2ValidZ hb) (run_fin rfl)) (h:=?_)
 refine go ?_
 refine c_no ?_
 refine go ?_
 refine r_call (r2inZ ha) ?_
 refine go ?_
 refine r_call (r2inZ hb) ?_
 refine go ?_
 refine r_call (r2mulZ (a:=a) (b:=b) (by omega) (by omega)) ?_
 refine go ?_
 refine r_call ho ?_
 refine go ?_
 refine fin ?_
 exact cv
theorem r2Abs_den (z:Int) (hz:Fz z):Den Tryz.prog 125 [zN z] (.tup [zN (z.natAbs:Int),.val (.int .i64 0)]):=by
 have e:zN (z.natAbs:Int)=wS false (strN z.natAbs):=by
  show wN (decide ((z.natAbs:Int)<0)) (z.natAbs:Int).natAbs=_
  rw [decide_eq_false (by omega),Int.natAbs_natCast]
 rw [e]
 refine den_intro (fn:=Tryz.f125) rfl rfl rfl rfl rfl ?_
 refine go ?_
 refine r_call (r2ValidZ hz) ?_
 refine go ?_
 refine c_no ?_
 refine go ?_
 refine fin ?_
 exact cv
theorem r2div_den (an bn:Bool) (A B:Nat) (hA:nD 16 A≤500) (hB:nD 16 B≤500) (hB0:B≠0):Den Tryz.prog 258 [nmF true an A,nmF true bn B] (.tup [nmF false ((an != bn) && decide (flQ A an B≠0)) (flQ A an B),nmF false false (flR A an B)]):=by
 have hq:A / B<65536 ^ nD 16 A:=Nat.lt_of_le_of_lt (Nat.div_le_self _ _) nh_lt
 have hm:A % B<B:=Nat.mod_lt _ (by omega)
 have hm2:nD 16 (A % B)≤nD 16 B:=nh_le (Nat.lt_trans hm nh_lt)
 have hq2:=nh_le hq
 have hone:=r2word_den 1 (by omega)
 refine den_intro (fn:=Tryz.f258) rfl rfl rfl rfl rfl ?_
 refine go ?_
 refine r_call (r2long_den A B (by omega) (by omega) hB0) ?_
 refine go ?_
 refine r_call (r2trim_den (A % B) (nD 16 (A % B)) false nh_lt (by omega)) ?_
 refine go ?_
 refine r_call (r2trim_den (A / B) (nD 16 A) (an != bn) hq (by omega)) ?_
 refine go ?_
 have hz:nD 16 (A % B)=0↔A % B=0:=nD_eq_zero
 refine c_ifB (fun h=>?_) (fun h=>?_)
 ·have h2:(an && decide (A % B≠0))=false:=by
   cases an
   ·rfl
   ·simp at h ⊢
    exact hz.1 h
  rw [show flQ A an B=A / B by unfold flQ;rw [h2];rfl,show flR A an B=A % B by unfold flR;rw [h2];rfl]
  refine go ?_
  refine fin ?_
  exact cv
 ·have h2:an=true∧A % B≠0:=by
   cases an
   ·simp at h
   ·simp at h
    exact ⟨rfl,fun e=>h (hz.2 e)⟩
  obtain ⟨rfl,h3⟩:=h2
  rw [show flQ A true B=A / B+1 by unfold flQ;simp [h3],show flR A true B=B - A % B by unfold flR;simp [h3]]
  have hadd:=r2add_den ((true != bn) && decide (A / B≠0)) (true != bn) (A / B) 1 (by omega) (by rw [nD16_one];omega)
  rw [nmF_Z,sm_eq,show zI ((true != bn) && decide (A / B≠0)) (A / B)+zI (true != bn) 1=zI (true != bn) (A / B+1) by
   generalize A / B=q
   unfold zI
   cases bn<;>by_cases e:q=0<;>simp [e]<;>omega,← nmF_Z] at hadd
  refine go ?_
  refine r_call hone ?_
  refine go ?_
  refine r_call hadd ?_
  refine go ?_
  refine r_call (r2minus_den B (A % B) (by omega) (by omega)) ?_
  refine go ?_
  refine r_call (r2trim_den (B - A % B) (nD 16 B) false (Nat.lt_of_le_of_lt (Nat.sub_le _ _) nh_lt) (by omega)) ?_
  refine go ?_
  refine fin ?_
  exact cv
theorem r2divZ {a b:Int} (ha:nD 16 a.natAbs≤500) (hb:nD 16 b.natAbs≤500) (hb0:b≠0):Den Tryz.prog 258 [nZ true a,nZ true b] (.tup [nZ false (a / b),nZ false (a % b)]):=by
 have h:=r2div_den (decide (a<0)) (decide (b<0)) a.natAbs b.natAbs ha hb (by omega)
 obtain ⟨e1,e2⟩:=fl_eq (A:=a.natAbs) (B:=b.natAbs) (an:=decide (a<0)) (bn:=decide (b<0)) (by omega)
 rw [nmF_Z,e1,zI_self,zI_self] at h
 rw [zI_self,zI_self] at e2
 rw [← e2]
 rw [show nZ false ((flR a.natAbs (decide (a<0)) b.natAbs:Nat):Int)=nmF false false (flR a.natAbs (decide (a<0)) b.natAbs) by
  show nmF false _ _=_
  rw [Int.natAbs_natCast,decide_eq_false (by omega)]]
 exact h
theorem r2Div_den (a b:Int) (ha:Fz a) (hb:Fz b) (hb0:b≠0):Den Tryz.prog 186 [zN a,zN b] (.tup [zN (a / b),zN (a % b),.val (.int .i64 0)]):=by
 have ho1:Den Tryz.prog 107 [nZ true (a / b)] (resZ (a / b)):=r2outZ' (Nat.le_trans (ha.div hb0).halves (by omega))
 have ho2:Den Tryz.prog 107 [nZ true (a % b)] (resZ (a % b)):=r2outZ' (Nat.le_trans (hb.mod hb0).halves (by omega))
 rw [resZ_ok (ha.div hb0)] at ho1
 rw [resZ_ok (hb.mod hb0)] at ho2
 have hdv:=r2divZ (a:=a) (b:=b) (Nat.le_trans ha.halves (by omega)) (Nat.le_trans hb.halves (by omega)) hb0
 have hB0:b.natAbs≠0:=by omega
 generalize a / b=q at ho1 hdv ⊢
 generalize a % b=r at ho2 hdv ⊢
 have wa:=ha.halves
 have wb:=hb.halves
 refine den_intro (fn:=Tryz.f186) rfl rfl rfl rfl rfl ?_
 refine go ?_
 refine r_call (r2ValidZ ha) ?_
 refine go ?_
 refine g_callM (hl:=fun _=>r_call (r2ValidZ hb) (run_fin rfl)) (h:=?_)
 refine go ?_
 rw [strN_emp,decide_eq_false hB0]
 refine c_no ?_
 refine go ?_
 refine r_call (r2inZ ha) ?_
 refine go ?_
 refine r_call (r2inZ hb) ?_
 refine go ?_
 refine r_call hdv ?_
 refine go ?_
 refine r_call ho1 ?_
 refine go ?_
 refine r_call ho2 ?_
 refine go ?_
 refine c_no ?_
 refine go ?_
 refine fin ?_
 exact cv
theorem r2Of_den (z:Int) (h1 : -9223372036854775808≤z) (h2:z≤9223372036854775807):Den Tryz.prog 31 [.val (.int .i64 z)] (zN z):=by
 refine den_intro (fn:=Tryz.f31) rfl rfl rfl rfl rfl ?_
 obtain ⟨m,hm⟩:∃ m,z.natAbs=m:=⟨_,rfl⟩
 have hm2:m<18446744073709551616:=by omega
 have hn4:nD 16 m≤4:=nh_le (by simpa using hm2)
 have ho:=r2outZ (z:=z) (nD 16 m) (by rw [hm];exact nh_lt) (by omega)
 rw [resZ_ok (Fz.of_lt (by rw [hm];exact Nat.lt_of_lt_of_le hm2 (Nat.le_trans (show 18446744073709551616≤256 ^ 8 by decide) (Nat.pow_le_pow_right (by omega) (by omega))))),hm] at ho
 obtain ⟨n,hn⟩:∃ n,nD 16 m=n:=⟨_,rfl⟩
 rw [hn] at ho hn4
 obtain ⟨xf,hxf⟩:∃ xf:Nat→Nat,∀ i,m / 65536 ^ i=xf i:=⟨_,fun _=>rfl⟩
 have x0:xf 0=m:=by rw [← hxf,Nat.pow_zero,Nat.div_one]
 have xd:∀ i,xf i % 65536=dg 65536 m i:=fun i=>by rw [← hxf];rfl
 have xs:∀ i,xf i / 65536=xf (i+1):=fun i=>by rw [← hxf,← hxf,Nat.div_div_eq_div_mul,Nat.pow_succ]
 have xl:∀ i,xf i≤m:=fun i=>by rw [← hxf];exact Nat.div_le_self _ _
 have xp:∀ i,0<xf i↔i<n:=fun i=>by
  rw [← hxf,← hn,Nat.div_pos_iff]
  constructor
  ·intro h
   apply Nat.lt_of_not_le
   intro q
   have:=powh q
   omega
  ·intro h
   refine ⟨Nat.pow_pos (by omega),?_⟩
   apply Nat.le_of_not_lt
   intro q
   have:=nh_le q
   omega
 clear hxf
 refine go ?_
 refine c_cut0 [(4,.val (.int .u64 (m:Int)))] ?_ ?_
 ·refine c_if (fun h=>?_) (fun h=>?_)
  ·refine go ?_
   refine r_un (vx:=.int .u64 (IntKind.u64.wrap z)) (r:=.int .u64 (m:Int)) (by apply Op1.tmp;(repeat (first | exact Lk.here | apply Lk.there rfl))) (fun w=>?_) rfl ?_
   ·have e:IntKind.u64.wrap (-IntKind.u64.wrap z)=(m:Int):=by simp [IntKind.wrap,IntKind.bits,IntKind.signed];omega
    rw [← e]
    simp [Op.unary,Op.intArith]
   refine go ?_
   exact sub
  ·rw [show IntKind.u64.wrap z=(m:Int) by simp [IntKind.wrap,IntKind.bits,IntKind.signed];omega]
   refine go ?_
   exact sub
 refine c_eq 4 (.val (.int .u64 ((xf 0:Nat):Int))) (d:=.val (.int .u64 (m:Int))) (by rw [x0]) ?_
 refine goc ?_
 refine c_nilcell 1003 1 1900 22 1 (fun j=>[.val (.int .u32 ((dg 65536 m j:Nat):Int))]) ?_
 refine c_up n (fun i=>[(4,.val (.int .u64 ((xf i:Nat):Int)))]) (fun i=>[(1003,some (.lit 125 [.val (.bool (decide (z<0))),.sl 1900 1 i])),(1900,some (hBx i m))]) (fun i hi=>?_)
 have h3:=xp i
 have h4:=xl i
 have h5:=xd i
 have h6:=xs i
 have h7:=dgh (A:=m) (i:=i)
 refine go ?_
 refine c_if (fun h8=>?_) (fun h8=>?_)
 ·refine go ?_
  rw [h5,h6]
  refine ⟨h3.1 h8,?_⟩
  refine sub_arr 1024 (fun j=>[.val (.int .u32 ((dg 65536 m j:Nat):Int))]) (appF_snoc rfl) (fun _=>rfl) ?_
  refine sub_toL [19] 1024 1900 ?_
  exact sub
 ·obtain rfl:i=n:=by omega
  refine go ?_
  refine r_call ho ?_
  refine go ?_
  refine fin ?_
  exact cv

section
variable {P:Program} {N:Nat} {ops:Array Oper} {rest:List Oper} {env:List (Nat × D)} {box:List (Nat × Option Box)} {done:List Rec} {K:List Rec→List (Nat × D)→List (Nat × Option Box)→Prop} {d:Nat} {ty:TypeId} {pos:String} {aft:Array Edge}
theorem argS {k n m:Nat} {t:TypeId} {g:Nat→List D} {L:List Nat} (hb:Bl box k (.arr t n m g)) (hL:memB k L=false) (hm:memB k (nsOf box [.sl k m n])=true):ArgVL true L (nsOf box ([.sl k m n]++[])) [] (fun k=>k) (hk box) ([.sl k m n]++[]) [.fz true n m g]:=
 ArgVL.cons (ArgV.cv (CvV.sl (Ba.is (Ba.arr hb)) (Nat.le_refl _) hL hm)) ArgVL.nil
theorem r_callS {ts:Array TypeId} {f:FuncId} {fn:Func} {r:D} {t0 k n m:Nat} {t:TypeId} {g:Nat→List D} [hf:FI P f fn] [hnew:NewD r] (hden:Den P f [.fz true n m g] r) (hod:OldDL [.fz true n m g]) (h:RunK P N ops rest ((d,r)::env) box (done++[⟨nsOf box ([.sl k m n]++[]),some d,r,[],[]⟩]) K)
  (hs:autoParam (Lk env t0 (.sl k m n)) aq10._auto_1) (hb:autoParam (Bl box k (.arr t n m g)) aq5._auto_1) (hm:memB k (nsOf box [.sl k m n])=true:=by kernel_rfl) (hd:Nat.blt d (fsz N)=true:=by rfl):RunK P N ops (⟨some d,.call { callee:=.value (.func f),args:=[Operand.tmp t0].toArray,argTypes:=ts },ty,pos,aft,none⟩::rest) env box done K:=
 r_call (hod:=hod) hden h (Op1.fn _) (.inl ⟨rfl,rfl⟩) (Op1L.cons (Op1.tmp hs) Op1L.nil) (argS hb rfl hm) hd
end

section
variable {P:Program} {N:Nat} {ops:Array Oper} {rest:List Oper} {env:List (Nat × D)} {box:List (Nat × Option Box)} {done:List Rec} {K:List Rec→List (Nat × D)→List (Nat × Option Box)→Prop}
theorem r_eqH (d':D) {t:Nat} {d:D} (he:d=d') (h:RunK P N ops rest ((t,d')::env) box done K):RunK P N ops rest ((t,d)::env) box done K:=he▸h
variable {ro:Option Nat} {Q:Post}
theorem c_deadF {c:Code} (h:(env.any fun p=>isImp (lk env p.1))=true:=by rfl):AWp ro P N c (lk env) (hk box) Q:=by
 obtain ⟨p,_,hp⟩:=List.any_eq_true.1 h
 exact c_dead p.1 hp
end
end Go.Proofs.YtdcenblblimkfaaGreat
