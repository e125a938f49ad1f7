/- wide: norm, Valid, valid, of.
wide: what a long division by words leaves at each step. Plain.
wide: plus, minus.
wide: compare, short.
wide: left (of less than a word), right.
append of a slice of another type. No walk.
wide: whole, times.
The reference's integers: words of 16 bits. Plain.
math/bits.Len32, LeadingZeros32, by data.
wide: form.
Wide integers as integers. Plain.
wide: divide: the loop that guesses a digit.
wide: Valid, valid. -/
import Derived.Test.YtdcenblblimkfaaGreatPn15
import Derived.Test.YtdcenblblimkfaaGreatPn14
import Derived.Lib.BitFns
import Derived.Lib.Hide
set_option linter.unusedSimpArgs false
set_option linter.unusedVariables false
set_option linter.unnecessarySimpa false
set_option linter.unusedSectionVars false
namespace Go.Proofs.YtdcenblblimkfaaGreat
open Go.RowKit
instance ti42:TI Tryz.prog 42 Tryz.t42 Tryz.t41.desc:=⟨by kernel_rfl,by kernel_rfl⟩
instance ti130:TI Tryz.prog 130 Tryz.t130 (.slice 42):=⟨by kernel_rfl,by kernel_rfl⟩
instance ti193:TI Tryz.prog 193 Tryz.t193 (.slice 22):=⟨by kernel_rfl,by kernel_rfl⟩
instance sz42:SZ Tryz.prog 42 2:=SZ.of ti42 rfl
instance zr42:ZR Tryz.prog 42 [.bool false,.string { data:=#[] }]:=ZR.of ti42 rfl rfl rfl
instance bt42:BT Tryz.prog 42 [(0,1),(1,1)] [.bool false,.string { data:=#[] }]:=BT.of (ns:=[1,1]) ti42 rfl zr42.zr ⟨sz4.sz,⟨sz9.sz,trivial⟩⟩ (by intro j;repeat (first | rfl | cases j with | zero=>rfl | succ j=>?_))
instance ft42_0:FT Tryz.prog 42 0 0:=FT.of ti42 rfl ti4 rfl rfl
instance ft42_1:FT Tryz.prog 42 1 1:=FT.of ti42 rfl ti9 rfl rfl
instance et130:ET Tryz.prog 130 2:=ET.of ti130 ti42 rfl
instance et193:ET Tryz.prog 193 1:=ET.of ti193 ti22 rfl
instance fi252:FI Tryz.prog 252 Tryz.f252:=⟨Tryz.func252,Tryz.call252⟩
instance fi179:FI Tryz.prog 179 Tryz.f179:=⟨Tryz.func179,Tryz.call179⟩
instance fi181:FI Tryz.prog 181 Tryz.f181:=⟨Tryz.func181,Tryz.call181⟩
instance fi184:FI Tryz.prog 184 Tryz.f184:=⟨Tryz.func184,Tryz.call184⟩
set_option maxRecDepth 20000
set_option maxHeartbeats 4000000
abbrev natU (o:Bool) (n A:Nat):D:=.fz o n 1 (fun j=>[.val (.int .u32 ((dg 4294967296 A j:Nat):Int))])
abbrev natF (o:Bool) (A:Nat):D:=natU o (nD 32 A) A
abbrev natB (n A:Nat):Box:=.arr 22 n 1 (fun j=>[.val (.int .u32 ((dg 4294967296 A j:Nat):Int))])
theorem wrap32 {a:Nat}:IntKind.u32.wrap ((a:Nat):Int)=((a % 4294967296:Nat):Int):=by simp [IntKind.wrap,IntKind.bits,IntKind.signed]
theorem wrap8 {a:Nat}:IntKind.u8.wrap ((a:Nat):Int)=((a % 256:Nat):Int):=by simp [IntKind.wrap,IntKind.bits,IntKind.signed]
theorem setE_put1 {k:IntKind} {h h':Nat→Nat} {j v n:Nat} (hv:v=h' j) (ho:∀ e,e<n→e≠j→h' e=h e) (e:Nat) (he:e<n):setE (fun e=>[.val (.int k ((h e:Nat):Int))]) j 0 [.val (.int k ((v:Nat):Int))] e=[.val (.int k ((h' e:Nat):Int))]:=by
 subst hv
 unfold setE
 by_cases q:e=j
 ·subst q;simp [setL,takeL,dropL]
 ·simp [q,ho e he q]
section
variable {E2:Nat→D} {H2:Nat→Option Box} {env:List (Nat × D)} {box:List (Nat × Option Box)}
theorem word_put (k:Nat) {n j v:Nat} {h:Nat→Nat} (h':Nat→Nat) (hv:v=h' j) (ho:∀ e,e<n→e≠j→h' e=h e) (g:Sub (lk env) (hk ((k,some (rowB n h'))::box)) E2 H2) (hb:autoParam (Bl box k (.arr 22 n 1 (setE (fun e=>[.val (.int .u32 ((h e:Nat):Int))]) j 0 [.val (.int .u32 ((v:Nat):Int))]))) aq5._auto_1):Sub (lk env) (hk box) E2 H2:=sub_arr k _ (fun e he=>setE_put1 hv ho e he) (fun _=>rfl) g hb
end
section
variable {P:Program} {fn:Func} {r:D} {hs rs:Hs} {ro:Option Nat} {N:Nat} {Q:Post} {c:Code} {env:List (Nat × D)} {box:List (Nat × Option Box)} {E2:Nat→D} {H2:Nat→Option Box}
theorem word_zero (k:Nat) {n:Nat} (h:Nat→Nat) (hz:∀ e,e<n→h e=0) (g:AWp ro P N c (lk env) (hk ((k,some (rowB n h))::box)) Q) (hb:autoParam (Bl box k (rowB n (fun _=>0))) aq5._auto_1):AWp ro P N c (lk env) (hk box) Q:=c_arr k (t:=22) (n:=n) (m:=1) (f:=fun e=>[.val (.int .u32 ((0:Nat):Int))]) (fun e=>[.val (.int .u32 ((h e:Nat):Int))]) (fun e he=>by rw [hz e he]) (fun _=>rfl) g hb
theorem byte_zero (k:Nat) {n:Nat} (h:Nat→Nat) (hz:∀ e,e<n→h e=0) (g:AWp ro P N c (lk env) (hk ((k,some (.arr 5 n 1 (fun e=>[.val (.int .u8 ((h e:Nat):Int))])))::box)) Q) (hb:autoParam (Bl box k (.arr 5 n 1 (fun e=>[.val (.int .u8 ((0:Nat):Int))]))) aq5._auto_1):AWp ro P N c (lk env) (hk box) Q:=c_arr k (t:=5) (n:=n) (m:=1) (f:=fun e=>[.val (.int .u8 ((0:Nat):Int))]) (fun e=>[.val (.int .u8 ((h e:Nat):Int))]) (fun e he=>by rw [hz e he]) (fun _=>rfl) g hb
theorem word_last (k:Nat) {n j v:Nat} {h:Nat→Nat} (h':Nat→Nat) (hv:v=h' j) (ho:∀ e,e<n→e≠j→h' e=h e) (g:AWp ro P N c (lk env) (hk ((k,some (rowB n h'))::box)) Q) (hb:autoParam (Bl box k (.arr 22 n 1 (setE (fun e=>[.val (.int .u32 ((h e:Nat):Int))]) j 0 [.val (.int .u32 ((v:Nat):Int))]))) aq5._auto_1):AWp ro P N c (lk env) (hk box) Q:=c_arr k _ (fun e he=>setE_put1 hv ho e he) (fun _=>rfl) g hb
theorem word_end (k:Nat) {n:Nat} {h:Nat→Nat} (h':Nat→Nat) (he:∀ e,e<n→h e=h' e) (g:FinS P fn r hs rs (lk env) (hk ((k,some (rowB n h'))::box))) (hb:autoParam (Bl box k (rowB n h)) aq5._auto_1):FinS P fn r hs rs (lk env) (hk box):=fin_arr k (t:=22) (n:=n) (m:=1) (f:=fun e=>[.val (.int .u32 ((h e:Nat):Int))]) (fun e=>[.val (.int .u32 ((h' e:Nat):Int))]) (fun e h=>by rw [he e h]) (fun _=>rfl) g hb
theorem c_word (k:Nat) {n:Nat} {h:Nat→Nat} (h':Nat→Nat) (he:∀ e,e<n→h e=h' e) (g:AWp ro P N c (lk env) (hk ((k,some (rowB n h'))::box)) Q) (hb:autoParam (Bl box k (rowB n h)) aq5._auto_1):AWp ro P N c (lk env) (hk box) Q:=c_arr k (t:=22) (n:=n) (m:=1) (f:=fun e=>[.val (.int .u32 ((h e:Nat):Int))]) (fun e=>[.val (.int .u32 ((h' e:Nat):Int))]) (fun e h=>by rw [he e h]) (fun _=>rfl) g hb
end
theorem wnorm_den (A n:Nat) (hA:A<4294967296 ^ n) (hn:n≤2147483647):Den Tryz.prog 252 [natU true n A] (natU true (nD 32 A) A):=by
 refine den_intro (fn:=Tryz.f252) rfl rfl rfl rfl rfl ?_
 refine go ?_
 refine c_down (fun m=>m) (fun m=>m≤n∧A<4294967296 ^ m) (fun m:Nat=>[(0,natU true m A)]) (fun _=>[]) n (fun m ⟨hm,hF⟩=>?_) ⟨Nat.le_refl _,hA⟩
 rcases Nat.eq_zero_or_pos m with h0 | h0
 ·subst h0
  refine go ?_
  obtain rfl:A=0:=by simpa using hF
  refine fin ?_
  exact cv
 ·refine go ?_
  refine c_ifB (fun h1=>?_) (fun h1=>?_)
  ·have h1:dg 4294967296 A (m - 1)=0:=by simpa [h0] using h1
   refine go ?_
   refine ⟨m - 1,⟨by omega,lt_of_top (by omega) (by rw [Nat.sub_add_cancel h0];exact hF) h1⟩,by omega,?_⟩
   exact sub
  ·have h1:dg 4294967296 A (m - 1)≠0:=by simpa [h0] using h1
   have hm2:nD 32 A=m:=by
    obtain ⟨m',rfl⟩:∃ m',m=m'+1:=⟨m - 1,by omega⟩
    exact nw_top hF h1
   subst hm2
   refine go ?_
   refine fin ?_
   exact cv
theorem wnorm_own (A n nb:Nat) (hA:A<4294967296 ^ n) (hb:n≤nb) (hn:nb≤2147483647):DenH Tryz.prog 252 [.sl 0 1 n] [(0,natB nb A)] (.sl 0 1 (nD 32 A)) [(0,natB nb A)] []:=by
 refine den_intro (fn:=Tryz.f252) rfl rfl rfl rfl rfl ?_
 refine go ?_
 refine c_down (fun m=>m) (fun m=>m≤n∧A<4294967296 ^ m) (fun m:Nat=>[(0,.sl 0 1 m)]) (fun _=>[(0,some (natB nb A))]) n (fun m ⟨hm,hF⟩=>?_) ⟨Nat.le_refl _,hA⟩
 rcases Nat.eq_zero_or_pos m with h0 | h0
 ·subst h0
  refine go ?_
  obtain rfl:A=0:=by simpa using hF
  exact finR
 ·refine go ?_
  refine c_ifB (fun h1=>?_) (fun h1=>?_)
  ·have h1:dg 4294967296 A (m - 1)=0:=by simpa [h0] using h1
   refine go ?_
   refine ⟨m - 1,⟨by omega,lt_of_top (by omega) (by rw [Nat.sub_add_cancel h0];exact hF) h1⟩,by omega,?_⟩
   exact sub
  ·have h1:dg 4294967296 A (m - 1)≠0:=by simpa [h0] using h1
   have hm2:nD 32 A=m:=by
    obtain ⟨m',rfl⟩:∃ m',m=m'+1:=⟨m - 1,by omega⟩
    exact nw_top hF h1
   subst hm2
   refine go ?_
   exact finR

theorem lenBits_top {A:Nat} (h:A≠0):lenBits (dg 4294967296 A (nD 32 A - 1))=A.log2 % 32+1:=by
 have h1:=nw_ne h
 have h2:=nw_lt (A:=A)
 have h3:nD 32 A=A.log2 / 32+1:=by unfold nD;rw [if_neg h]
 have e1:dg 4294967296 A (nD 32 A - 1)=A / 2 ^ (32*(A.log2 / 32)):=by
  unfold dg
  rw [h3,Nat.add_sub_cancel]
  rw [show (4294967296:Nat) ^ (A.log2 / 32)=2 ^ (32*(A.log2 / 32)) by rw [Nat.pow_mul]]
  apply Nat.mod_eq_of_lt
  apply Nat.div_lt_of_lt_mul
  rw [h3] at h2
  rw [show 2 ^ (32*(A.log2 / 32))*4294967296=(4294967296:Nat) ^ (A.log2 / 32+1) by rw [Nat.pow_succ,Nat.pow_mul]]
  exact h2
 unfold lenBits
 rw [if_neg h1,e1]
 congr 1
 have l1:=Nat.log2_self_le h
 have l2:=Nat.lt_log2_self (n:=A)
 rw [Nat.log2_eq_iff (by rw [← e1];exact h1)]
 have e3:A.log2=32*(A.log2 / 32)+A.log2 % 32:=(Nat.div_add_mod _ _).symm
 generalize A.log2 / 32=x at *
 generalize A.log2 % 32=y at *
 rw [e3] at l1 l2
 constructor
 ·rw [Nat.le_div_iff_mul_le (Nat.pow_pos (by omega)),← Nat.pow_add,Nat.add_comm];exact l1
 ·apply Nat.div_lt_of_lt_mul
  rw [← Nat.pow_add]
  rw [show 32*x+(y+1)=32*x+y+1 by omega]
  exact l2
theorem dv_norm {B s:Nat} (hB:B≠0) (hs:s=32 - lenBits (dg 4294967296 B (nD 32 B - 1))):s<32∧B*2 ^ s<4294967296 ^ nD 32 B∧2147483648*4294967296 ^ (nD 32 B - 1)≤B*2 ^ s:=by
 rw [lenBits_top hB] at hs
 have hm:=Nat.mod_lt B.log2 (show 0<32 by omega)
 have h3:nD 32 B=B.log2 / 32+1:=by unfold nD;rw [if_neg hB]
 have l1:=Nat.log2_self_le hB
 have l2:=Nat.lt_log2_self (n:=B)
 have e:B.log2+s=32*(B.log2 / 32)+31:=by have:=Nat.div_add_mod B.log2 32;omega
 refine ⟨by omega,?_,?_⟩
 ·rw [h3,show (4294967296:Nat) ^ (B.log2 / 32+1)=2 ^ (B.log2+1)*2 ^ s by
   rw [← Nat.pow_add,show B.log2+1+s=32*(B.log2 / 32+1) by omega,Nat.pow_mul]]
  exact Nat.mul_lt_mul_of_pos_right l2 (Nat.pow_pos (by omega))
 ·rw [h3,Nat.add_sub_cancel,show 2147483648*(4294967296:Nat) ^ (B.log2 / 32)=2 ^ B.log2*2 ^ s by
   rw [← Nat.pow_add,e,Nat.pow_add,Nat.pow_mul];exact Nat.mul_comm _ _]
  exact Nat.mul_le_mul_right _ l1
theorem dv_nD {V n:Nat} (hn:0<n) (h1:V<4294967296 ^ n) (h2:2147483648*4294967296 ^ (n - 1)≤V):nD 32 V=n∧2147483648≤dg 4294967296 V (n - 1):=by
 obtain ⟨m,rfl⟩:∃ m,n=m+1:=⟨n - 1,by omega⟩
 rw [Nat.add_sub_cancel] at h2 ⊢
 have hp:0<4294967296 ^ m:=Nat.pow_pos (by omega)
 have hd:2147483648≤dg 4294967296 V m:=by
  unfold dg
  rw [Nat.mod_eq_of_lt (Nat.div_lt_of_lt_mul (by rw [← Nat.pow_succ];exact h1)),Nat.le_div_iff_mul_le hp]
  exact h2
 exact ⟨nw_top h1 (by omega),hd⟩
theorem dv_start {A B s V:Nat} (hV:B*2 ^ s=V) (hs:s<32) (hAB:nD 32 B≤nD 32 A+1) (h2:2147483648*4294967296 ^ (nD 32 B - 1)≤V) (hB:0<nD 32 B):A*2 ^ s<V*4294967296 ^ (nD 32 A+1 - nD 32 B):=by
 have h3:=nw_lt (A:=A)
 have h4:2 ^ s≤2147483648:=by
  have:=Nat.pow_le_pow_right (n:=2) (show 0<2 by omega) (show s≤31 by omega)
  simpa using this
 have h5:A*2 ^ s<4294967296 ^ nD 32 A*2147483648:=Nat.mul_lt_mul_of_lt_of_le h3 h4 (by omega)
 have h6:2147483648*4294967296 ^ (nD 32 B - 1)*4294967296 ^ (nD 32 A+1 - nD 32 B)≤V*4294967296 ^ (nD 32 A+1 - nD 32 B):=Nat.mul_le_mul_right _ h2
 rw [Nat.mul_assoc,← Nat.pow_add,show nD 32 B - 1+(nD 32 A+1 - nD 32 B)=nD 32 A by omega,Nat.mul_comm] at h6
 omega
def dvU (U V i:Nat):Nat:=U % (V*4294967296 ^ i)
theorem dvU_top {U V i:Nat} (h:U<V*4294967296 ^ i):dvU U V i=U:=Nat.mod_eq_of_lt h
theorem dvU_zero {U V:Nat}:dvU U V 0=U % V:=by unfold dvU;rw [Nat.pow_zero,Nat.mul_one]
def dvX (U V j:Nat):Nat:=dvU U V (j+1) / 4294967296 ^ j
theorem dvX_lt {U V j:Nat} (hV:0<V):dvX U V j<V*4294967296:=by
 unfold dvX dvU
 have hp:0<4294967296 ^ j:=Nat.pow_pos (by omega)
 apply Nat.div_lt_of_lt_mul
 rw [show 4294967296 ^ j*(V*4294967296)=V*4294967296 ^ (j+1) by rw [Nat.pow_succ,Nat.mul_comm,Nat.mul_assoc,Nat.mul_comm 4294967296]]
 exact Nat.mod_lt _ (Nat.mul_pos hV (Nat.pow_pos (by omega)))
theorem dvX_q {U V j:Nat}:dvX U V j / V=dg 4294967296 (U / V) j:=by
 unfold dvX dvU dg
 rw [Nat.div_div_eq_div_mul,Nat.div_div_eq_div_mul,Nat.pow_succ,← Nat.mul_assoc,Nat.mul_comm (4294967296 ^ j) V,Nat.mod_mul_right_div_self]
theorem dvU_step {U V j:Nat}:dvU U V j=dvU U V (j+1) % 4294967296 ^ j+4294967296 ^ j*(dvX U V j % V):=by
 unfold dvX
 rw [← Nat.mod_mul]
 unfold dvU
 rw [Nat.pow_succ,Nat.mul_comm (4294967296 ^ j) V,← Nat.mul_assoc,Nat.mod_mul_right_mod]
theorem dg_join {a b j e:Nat} (ha:a<4294967296 ^ j):dg 4294967296 (a+4294967296 ^ j*b) e=if e<j then dg 4294967296 a e else dg 4294967296 b (e - j):=by
 split
 ·rename_i h;exact dg_add_high h
 ·rename_i h
  have h2:=dg_down (W:=4294967296) (A:=a+4294967296 ^ j*b) (i:=e - j) (k:=j)
  rw [Nat.sub_add_cancel (by omega),Nat.add_mul_div_left _ _ (Nat.pow_pos (by omega)),Nat.div_eq_of_lt ha,Nat.zero_add] at h2
  exact h2.symm
theorem dvX_dg {U V j e:Nat} (h:j≤e):dg 4294967296 (dvU U V (j+1)) e=dg 4294967296 (dvX U V j) (e - j):=by
 unfold dvX
 rw [dg_down,Nat.sub_add_cancel h]
theorem dvU_new {U V j e:Nat}:dg 4294967296 (dvU U V j) e=if e<j then dg 4294967296 (dvU U V (j+1)) e else dg 4294967296 (dvX U V j % V) (e - j):=by
 rw [dvU_step,dg_join (Nat.mod_lt _ (Nat.pow_pos (by omega)))]
 split
 ·rename_i h;exact dg_lo h
 ·rfl
theorem dv_sum3 (W P d0 d1 d2 l:Nat):l+P*d0+P*W*d1+P*W*W*d2=((d2*W+d1)*W+d0)*P+l:=by
 rw [Nat.add_mul,Nat.add_mul,Nat.add_mul]
 rw [show d2*W*W*P=P*W*W*d2 by simp only [Nat.mul_assoc,Nat.mul_comm,Nat.mul_left_comm]]
 rw [show d1*W*P=P*W*d1 by simp only [Nat.mul_assoc,Nat.mul_comm,Nat.mul_left_comm]]
 rw [Nat.mul_comm d0]
 omega
theorem dv_sum2 (W P d0 d1 l:Nat):l+P*d0+P*W*d1=(d1*W+d0)*P+l:=by
 rw [Nat.add_mul]
 rw [show d1*W*P=P*W*d1 by simp only [Nat.mul_assoc,Nat.mul_comm,Nat.mul_left_comm]]
 rw [Nat.mul_comm d0]
 omega
theorem dv_three {x n:Nat} (h:x<4294967296 ^ (n+3)):x=((dg 4294967296 x (n+2)*4294967296+dg 4294967296 x (n+1))*4294967296+dg 4294967296 x n)*4294967296 ^ n+lo 4294967296 x n:=by
 have h1:=lo_all h
 rw [lo_succ,lo_succ,lo_succ] at h1
 conv=>lhs;rw [← h1]
 rw [Nat.pow_succ,Nat.pow_succ]
 exact dv_sum3 _ _ _ _ _ _
theorem dv_two {x n:Nat} (h:x<4294967296 ^ (n+2)):x=(dg 4294967296 x (n+1)*4294967296+dg 4294967296 x n)*4294967296 ^ n+lo 4294967296 x n:=by
 have h1:=lo_all h
 rw [lo_succ,lo_succ] at h1
 conv=>lhs;rw [← h1]
 rw [Nat.pow_succ]
 exact dv_sum2 _ _ _ _ _
theorem dv_kn {U V j n:Nat} (hV:V<4294967296 ^ (n+2)) (hV2:2147483648≤dg 4294967296 V (n+1)):Kn 4294967296 (4294967296 ^ n) (dg 4294967296 V (n+1)) (dg 4294967296 V n) (lo 4294967296 V n) (dg 4294967296 (dvX U V j) (n+2)*4294967296+dg 4294967296 (dvX U V j) (n+1)) (dg 4294967296 (dvX U V j) n) (lo 4294967296 (dvX U V j) n):=by
 have hV0:0<V:=by
  rcases Nat.eq_zero_or_pos V with q | q
  ·subst q;simp [dg] at hV2
  ·exact q
 have hx:=dvX_lt (U:=U) (j:=j) hV0
 have hx2:dvX U V j<4294967296 ^ (n+3):=by
  have:V*4294967296<4294967296 ^ (n+2)*4294967296:=Nat.mul_lt_mul_of_pos_right hV (by omega)
  rw [← Nat.pow_succ] at this
  exact Nat.lt_trans hx this
 refine ⟨by omega,Nat.pow_pos (by omega),by omega,dgw,dgw,lo_lt (by omega),dgw,lo_lt (by omega),?_⟩
 rw [← dv_three hx2,← dv_two hV]
 exact hx

instance fi256:FI Tryz.prog 256 Tryz.f256:=⟨Tryz.func256,Tryz.call256⟩
instance fi257:FI Tryz.prog 257 Tryz.f257:=⟨Tryz.func257,Tryz.call257⟩
theorem wsub64 {a b:Nat} (h:b≤18446744073709551616):IntKind.u64.wrap ((a:Nat) - (b:Nat):Int)=(((a+18446744073709551616 - b) % 18446744073709551616:Nat):Int):=by
 simp [IntKind.wrap,IntKind.bits,IntKind.signed]
 omega
theorem fill_last {h:Nat→Nat} {j v:Nat} (hv:v=h j):setE (fun e=>[.val (.int .u32 ((fillTo h j e:Nat):Int))]) j 0 (D.cellL (.val (.int .u32 ((v:Nat):Int))))=fun e=>[.val (.int .u32 ((fillTo h (j+1) e:Nat):Int))]:=funext (setE_fill hv)
theorem fill_dg {S m:Nat} (h:S<4294967296 ^ m):fillTo (dg 4294967296 S) m=dg 4294967296 S:=funext fun e=>by
 unfold fillTo
 split
 ·rfl
 ·exact (dg_beyond' (by omega) h (by omega)).symm
theorem pow32 {A:Nat} {n:Nat} (h:nD 32 A≤n):A<4294967296 ^ n:=Nat.lt_of_lt_of_le nw_lt (Nat.pow_le_pow_right (by omega) h)
theorem wplus_den (A B:Nat) (hA:nD 32 A≤1000) (hB:nD 32 B≤1000):Den Tryz.prog 256 [natF true A,natF true B] (natF false (A+B)):=by
 refine den_intro (fn:=Tryz.f256) rfl rfl rfl rfl rfl ?_
 obtain ⟨X,Y,hX,hY,hXY,hS⟩:∃ X Y,X=(if nD 32 A<nD 32 B then B else A)∧Y=(if nD 32 A<nD 32 B then A else B)∧nD 32 Y≤nD 32 X∧X+Y=A+B:=⟨_,_,rfl,rfl,by split<;>omega,by split<;>omega⟩
 refine go ?_
 refine c_cut0 [(0,natF true X),(1,natF true Y)] ?_ ?_
 ·refine c_if (fun h3=>?_) (fun h3=>?_)
  ·rw [if_pos h3] at hX hY
   subst hX hY
   refine go ?_
   exact sub
  ·rw [if_neg h3] at hX hY
   subst hX hY
   refine go ?_
   exact sub
 have hX1:nD 32 X≤1000:=by subst hX;split<;>assumption
 clear hX hY
 have h0:=cySum_zero (W:=4294967296) (A:=X) (B:=Y)
 have hlX:=nw_lt (A:=X)
 have hlY:=nw_lt (A:=Y)
 rw [← hS]
 refine go ?_
 refine word_zero 1018 (fillTo (dg 4294967296 (X+Y)) 0) (fun e he=>fillTo_zero _ _) ?_
 refine c_up (nD 32 X) (fun i=>[(21,.val (.int .i64 (i:Nat))),(6,.val (.int .u64 ((cySum 4294967296 X Y i:Nat):Int)))]) (fun i=>[(1018,some (rowB (nD 32 X+1) (fillTo (dg 4294967296 (X+Y)) i)))]) (fun i hi=>?_)
 have h1:=cySum_le (W:=4294967296) (A:=X) (B:=Y) (i:=i) (by omega)
 have h2:=dgw (A:=X) (i:=i)
 have h3:=dgw (A:=Y) (i:=i)
 have h4:=dg_sum (W:=4294967296) (A:=X) (B:=Y) (i:=i) (by omega)
 have h5:=cySum_succ (W:=4294967296) (A:=X) (B:=Y) (i:=i) (by omega)
 refine go ?_
 refine c_if (fun h6=>?_) (fun h6=>?_)
 ·refine go ?_
  refine c_cut0 [(6,.val (.int .u64 ((cySum 4294967296 X Y i+dg 4294967296 X i+dg 4294967296 Y i:Nat):Int)))] ?_ ?_
  ·refine c_if (fun h7=>?_) (fun h7=>?_)
   ·refine go ?_
    exact sub
   ·have h8:dg 4294967296 Y i=0:=dg_beyond' (by omega) hlY (by omega)
    rw [h8]
    refine go ?_
    exact sub
  ·refine go ?_
   refine r_shr (k:=.u64) (cySum 4294967296 X Y i+dg 4294967296 X i+dg 4294967296 Y i) 32 rfl rfl (by decide) ?_
   rw [wrap32,← h4,show (2:Nat) ^ 32=4294967296 by rfl,← h5]
   refine go ?_
   refine ⟨h6,?_⟩
   refine row_next 1018 rfl ?_
   exact sub
 ·obtain rfl:i=nD 32 X:=by omega
  have h7:dg 4294967296 X (nD 32 X)=0:=dg_beyond hlX
  have h8:dg 4294967296 Y (nD 32 X)=0:=dg_beyond' (by omega) hlY hXY
  simp only [h7,h8,Nat.add_zero] at h4
  rw [Nat.mod_eq_of_lt (by omega)] at h4
  have h9:X+Y<4294967296 ^ (nD 32 X+1):=by
   have:Y<4294967296 ^ nD 32 X:=pow32 hXY
   rw [Nat.pow_succ];omega
  refine go ?_
  rw [fill_last h4.symm,fill_dg h9]
  refine r_callR 1018 (wnorm_own (X+Y) (nD 32 X+1) (nD 32 X+1) h9 (Nat.le_refl _) (by omega)) rfl ?_
  refine go ?_
  have h10:=nw_le h9
  refine fin_freeze 1018 ?_
  refine fin ?_
  exact cv
theorem wminus_den (A B:Nat) (hA:nD 32 A≤1000) (hBA:B≤A):Den Tryz.prog 257 [natF true A,natF true B] (natF false (A - B)):=by
 refine den_intro (fn:=Tryz.f257) rfl rfl rfl rfl rfl ?_
 have hlA:=nw_lt (A:=A)
 have hlB:=nw_lt (A:=B)
 have hnB:nD 32 B≤nD 32 A:=nw_le (by omega)
 have h0:=bwDif_zero (W:=4294967296) (A:=A) (B:=B)
 refine go ?_
 refine word_zero 1011 (fillTo (dg 4294967296 (A - B)) 0) (fun e he=>fillTo_zero _ _) ?_
 refine c_up (nD 32 A) (fun i=>[(14,.val (.int .i64 (i:Nat))),(6,.val (.int .u64 ((bwDif 4294967296 A B i:Nat):Int)))]) (fun i=>[(1011,some (rowB (nD 32 A) (fillTo (dg 4294967296 (A - B)) i)))]) (fun i hi=>?_)
 have h1:=bwDif_le (W:=4294967296) (A:=A) (B:=B) (i:=i)
 have h2:=dgw (A:=A) (i:=i)
 have h3:=dgw (A:=B) (i:=i)
 have h4:=dg_dif (W:=4294967296) (A:=A) (B:=B) (i:=i) (by omega) hBA
 have h5:=bwDif_succ (W:=4294967296) (A:=A) (B:=B) (i:=i) (by omega)
 refine go ?_
 refine c_if (fun h6=>?_) (fun h6=>?_)
 ·refine go ?_
  obtain ⟨T,hT⟩:∃ T,((dg 4294967296 A i+18446744073709551616 - bwDif 4294967296 A B i) % 18446744073709551616+18446744073709551616 - dg 4294967296 B i) % 18446744073709551616=T:=⟨_,rfl⟩
  have hT1:T % 4294967296=dg 4294967296 (A - B) i:=by rw [h4];omega
  have hT2:T / 9223372036854775808=bwDif 4294967296 A B (i+1):=by rw [h5];split<;>omega
  rw [wsub64 (show bwDif 4294967296 A B i≤18446744073709551616 by omega)]
  refine c_cut0 [(8,.val (.int .u64 (T:Nat)))] ?_ ?_
  ·refine c_if (fun h7=>?_) (fun h7=>?_)
   ·refine go ?_
    rw [wsub64 (show dg 4294967296 B i≤18446744073709551616 by omega),hT]
    exact sub
   ·have h8:dg 4294967296 B i=0:=dg_beyond' (by omega) hlB (by omega)
    rw [h8] at hT
    have hT3:(dg 4294967296 A i+18446744073709551616 - bwDif 4294967296 A B i) % 18446744073709551616=T:=by omega
    rw [hT3]
    refine go ?_
    exact sub
  ·refine go ?_
   refine r_shr (k:=.u64) T 63 rfl rfl (by decide) ?_
   rw [wrap32,hT1,show (2:Nat) ^ 63=9223372036854775808 by rfl,hT2]
   refine go ?_
   refine ⟨h6,?_⟩
   refine row_next 1011 rfl ?_
   exact sub
 ·obtain rfl:i=nD 32 A:=by omega
  refine go ?_
  have h9:A - B<4294967296 ^ nD 32 A:=by omega
  rw [fill_dg h9]
  refine r_callR 1011 (wnorm_own (A - B) (nD 32 A) (nD 32 A) h9 (Nat.le_refl _) (by omega)) rfl ?_
  refine go ?_
  have h10:=nw_le h9
  refine fin_freeze 1011 ?_
  refine fin ?_
  exact cv

instance fi195:FI Tryz.prog 195 Tryz.f195:=⟨Tryz.func195,Tryz.call195⟩
instance fi307:FI Tryz.prog 307 Tryz.f307:=⟨Tryz.func307,Tryz.call307⟩
def cmpN (A B:Nat):Int:=if A<B then -1 else if B<A then 1 else 0
theorem wcompare_den (A B:Nat) (hA:nD 32 A≤1000) (hB:nD 32 B≤1000):Den Tryz.prog 195 [natF true A,natF true B] (.val (.int .i64 (cmpN A B))):=by
 have hlA:=nw_lt (A:=A)
 have hlB:=nw_lt (A:=B)
 refine den_intro (fn:=Tryz.f195) rfl rfl rfl rfl rfl ?_
 refine go ?_
 refine c_if (fun h3=>?_) (fun h3=>?_)
 ·refine go ?_
  refine c_if (fun h4=>?_) (fun h4=>?_)
  ·refine go ?_
   have:A<B:=lt_of_nD (k:=32) (by omega) h4
   unfold cmpN
   rw [if_pos this]
   refine fin ?_
   exact cv
  ·refine go ?_
   have:B<A:=lt_of_nD (k:=32) (by omega) (by omega)
   unfold cmpN
   rw [if_neg (by omega),if_pos this]
   refine fin ?_
   exact cv
 have h3:nD 32 A=nD 32 B:=by omega
 rw [← h3] at hlB
 obtain ⟨n,hn⟩:∃ n,nD 32 A=n:=⟨_,rfl⟩
 have hn':nD 32 B=n:=by omega
 refine go ?_
 rw [hn,hn']
 rw [hn] at hlA hlB
 refine c_down (fun i=>i) (fun i=>i≤n∧A / 4294967296 ^ i=B / 4294967296 ^ i) (fun i:Nat=>[(5,.val (.int .i64 ((i:Int) - 1)))]) (fun _=>[]) n (fun i ⟨hi,he⟩=>?_) ⟨Nat.le_refl _,by rw [Nat.div_eq_of_lt hlA,Nat.div_eq_of_lt hlB]⟩
 rcases Nat.eq_zero_or_pos i with h0 | h0
 ·subst h0
  refine go ?_
  rw [Nat.pow_zero,Nat.div_one,Nat.div_one] at he
  subst he
  unfold cmpN
  rw [if_neg (Nat.lt_irrefl _),if_neg (Nat.lt_irrefl _)]
  refine fin ?_
  exact cv
 ·obtain ⟨j,rfl⟩:∃ j,i=j+1:=⟨i - 1,by omega⟩
  rw [show ((j+1:Nat):Int) - 1=(j:Int) by omega]
  have hp:0<4294967296 ^ (j+1):=Nat.pow_pos (by omega)
  refine go ?_
  refine c_if (fun h5=>?_) (fun h5=>?_)
  ·have:=top_lt (W:=4294967296) (by omega) he h5
   unfold cmpN
   rw [if_pos this]
   refine go ?_
   refine fin ?_
   exact cv
  refine go ?_
  refine c_if (fun h6=>?_) (fun h6=>?_)
  ·have:=top_lt (W:=4294967296) (by omega) he.symm h6
   unfold cmpN
   rw [if_neg (by omega),if_pos this]
   refine go ?_
   refine fin ?_
   exact cv
  refine go ?_
  refine ⟨j,⟨by omega,top_eq (W:=4294967296) he (by omega)⟩,by omega,?_⟩
  exact sub
theorem or_word {r d:Nat} (hr:r<4294967296) (h:d<4294967296):(r*2 ^ 32 % 18446744073709551616 ||| d)=r*4294967296+d:=by
 have e:=or_add (a:=d) (c:=r) (j:=32) (by simpa using h)
 rw [Nat.or_comm,Nat.mod_eq_of_lt (by omega),Nat.mul_comm r,e]
 omega
theorem wshort_den (A n:Nat) (hA:nD 32 A≤1000) (hn0:0<n) (hn:n<4294967296):Den Tryz.prog 307 [natF true A,.val (.int .u32 (n:Int))] (.tup [natF false (A / n),.val (.int .u32 ((A % n:Nat):Int))]):=by
 have hlA:=nw_lt (A:=A)
 have h0:=reSh_top (W:=4294967296) (m:=n) hlA
 have hz:=reSh_zero (W:=4294967296) (A:=A) (m:=n)
 refine den_intro (fn:=Tryz.f307) rfl rfl rfl rfl rfl ?_
 refine go ?_
 obtain ⟨m,hm⟩:∃ m,nD 32 A=m:=⟨_,rfl⟩
 have hq:nD 32 (A / n)≤m:=nw_le (Nat.lt_of_le_of_lt (Nat.div_le_self _ _) (by rw [← hm];exact hlA))
 rw [hm] at hlA h0 ⊢
 refine word_zero (n:=m) 1011 (fun e=>if m≤e then dg 4294967296 (A / n) e else 0) (fun e he=>by rw [if_neg (by omega)]) ?_
 refine c_down (fun i=>i) (fun i=>i≤m) (fun i:Nat=>[(8,.val (.int .i64 ((i:Int) - 1))),(7,.val (.int .u64 ((reSh 4294967296 A n i:Nat):Int)))]) (fun i=>[(1011,some (rowB m (fun e=>if i≤e then dg 4294967296 (A / n) e else 0)))]) m (fun i hi=>?_) (Nat.le_refl _)
 rcases Nat.eq_zero_or_pos i with i0 | i0
 ·subst i0
  refine go ?_
  rw [hz]
  have e1:(fun e=>[D.val (.int .u32 ((if 0≤e then dg 4294967296 (A / n) e else 0:Nat):Int))])=fun e=>[D.val (.int .u32 ((dg 4294967296 (A / n) e:Nat):Int))]:=funext fun e=>by rw [if_pos (Nat.zero_le _)]
  unfold rowB
  rw [e1]
  refine r_callR 1011 (wnorm_own (A / n) m m (pow32 hq) (Nat.le_refl _) (by omega)) rfl ?_
  refine go ?_
  have h7:=Nat.mod_lt A hn0
  rw [wrap32,Nat.mod_eq_of_lt (show A % n<4294967296 by omega)]
  refine fin_freeze 1011 ?_
  refine fin ?_
  exact cv
 ·obtain ⟨j,rfl⟩:∃ j,i=j+1:=⟨i - 1,by omega⟩
  rw [show ((j+1:Nat):Int) - 1=(j:Int) by omega]
  have h1:=dgw (A:=A) (i:=j)
  have h2:reSh 4294967296 A n (j+1)<n:=Nat.mod_lt _ hn0
  have h3:=quot_dg_lt (W:=4294967296) h2 h1
  have h4:=dg_quot (W:=4294967296) (A:=A) (m:=n) (i:=j) (by omega) hn0
  have h5:=reSh_step (W:=4294967296) (A:=A) (m:=n) (i:=j)
  rw [Nat.mod_eq_of_lt h3] at h4
  have h6:reSh 4294967296 A n j<n:=Nat.mod_lt _ hn0
  refine go ?_
  refine r_shl64 (reSh 4294967296 A n (j+1)) 32 rfl rfl (by decide) ?_
  refine go ?_
  refine r_or64 (reSh 4294967296 A n (j+1)*2 ^ 32 % 18446744073709551616) (dg 4294967296 A j) rfl rfl (Nat.mod_lt _ (by omega)) (by omega) ?_
  rw [or_word (by omega) h1]
  obtain ⟨T,hT⟩:∃ T,reSh 4294967296 A n (j+1)*4294967296+dg 4294967296 A j=T:=⟨_,rfl⟩
  have hT2:T<18446744073709551616:=by
   have:reSh 4294967296 A n (j+1)*4294967296≤4294967294*4294967296:=Nat.mul_le_mul_right _ (by omega)
   omega
  rw [hT] at h3 h4 h5 ⊢
  refine go ?_
  rw [← h5,← h4]
  refine ⟨j,by omega,by omega,?_⟩
  refine word_put 1011 (h:=fun e=>if j+1≤e then dg 4294967296 (A / n) e else 0) (fun e=>if j≤e then dg 4294967296 (A / n) e else 0) (by rw [if_pos (Nat.le_refl _)]) (fun e he hne=>?_) ?_
  ·by_cases q:j+1≤e
   ·rw [if_pos q,if_pos (by omega)]
   ·rw [if_neg q,if_neg (by omega)]
  exact sub

instance fi308:FI Tryz.prog 308 Tryz.f308:=⟨Tryz.func308,Tryz.call308⟩
instance fi255:FI Tryz.prog 255 Tryz.f255:=⟨Tryz.func255,Tryz.call255⟩
theorem wleft_own (A s:Nat) (hA:nD 32 A≤1000) (hs:s<32):DenH Tryz.prog 308 [natF true A,.val (.int .i64 (s:Int))] [] (.sl 1043 1 (nD 32 (A*2 ^ s))) [] [(1043,natB (nD 32 A+1) (A*2 ^ s))]:=by
 have hlA:=nw_lt (A:=A)
 refine den_intro (fn:=Tryz.f308) rfl rfl rfl rfl rfl ?_
 refine go ?_
 have e0:s / 32=0:=by omega
 have e1:s % 32=s:=by omega
 obtain ⟨n,hn⟩:∃ n,nD 32 A=n:=⟨_,rfl⟩
 rw [hn] at hlA ⊢
 refine r_mkc (s / 32) (n+s / 32+1) rfl rfl (by omega) (by omega) ?_
 have hD:0<2 ^ s:=Nat.pow_pos (by omega)
 have hD2:2 ^ s≤2147483648:=by
  have:=Nat.pow_le_pow_right (n:=2) (show 0<2 by omega) (show s≤31 by omega)
  simpa using this
 have hz:=cySl_zero (W:=4294967296) (A:=A) (D:=2 ^ s)
 rw [e0]
 refine go ?_
 refine awp_sub (sub_toL [17] (1000+17) 1900 (Sub.refl _ _)) ?_
 refine c_arr 1900 (fun j=>[.val (.int .u32 ((dg 4294967296 (A*2 ^ s) j:Nat):Int))]) (fun e he=>absurd he (Nat.not_lt_zero _)) (fun _=>rfl) ?_
 refine c_up n (fun j=>[(5,.sl 1900 1 j),(20,.val (.int .i64 (j:Nat))),(6,.val (.int .u64 ((cySl 4294967296 A (2 ^ s) j:Nat):Int)))]) (fun j=>[(1900,some (natB j (A*2 ^ s)))]) (fun j hj=>?_)
 have h1:=cySl_lt (W:=4294967296) (A:=A) (D:=2 ^ s) (i:=j) (by omega) hD
 have h2:=dgw (A:=A) (i:=j)
 have h3:=dg_sl (W:=4294967296) (A:=A) (D:=2 ^ s) (i:=j) (by omega)
 have h4:=cySl_succ (W:=4294967296) (A:=A) (D:=2 ^ s) (i:=j) (by omega)
 have h5:dg 4294967296 A j*2 ^ s≤4294967295*2147483648:=Nat.mul_le_mul (by omega) hD2
 have h6:=or_add (a:=cySl 4294967296 A (2 ^ s) j) (c:=dg 4294967296 A j) (j:=s) h1
 rw [Nat.mul_comm (2 ^ s)] at h6
 refine go ?_
 refine c_if (fun h7=>?_) (fun h7=>?_)
 ·refine go ?_
  rw [e1]
  refine r_shl64 (dg 4294967296 A j) s rfl rfl (by omega) ?_
  rw [Nat.mod_eq_of_lt (show dg 4294967296 A j*2 ^ s<18446744073709551616 by omega)]
  refine r_or64 (cySl 4294967296 A (2 ^ s) j) (dg 4294967296 A j*2 ^ s) rfl rfl (by omega) (by omega) ?_
  rw [h6]
  generalize hT:cySl 4294967296 A (2 ^ s) j+dg 4294967296 A j*2 ^ s=T at h3 h4 ⊢
  refine go ?_
  refine r_shr (k:=.u64) T 32 rfl rfl (by decide) ?_
  rw [wrap32,← h3,show (2:Nat) ^ 32=4294967296 by rfl,← h4]
  refine go ?_
  refine ⟨by omega,?_⟩
  refine sub_arr (1000+35) (fun j=>[.val (.int .u32 ((dg 4294967296 (A*2 ^ s) j:Nat):Int))]) (appF_snoc rfl) (fun _=>rfl) ?_
  refine sub_toL [31] (1000+35) 1900 ?_
  exact sub
 ·obtain rfl:j=n:=by omega
  have h8:dg 4294967296 A j=0:=dg_beyond hlA
  rw [h8,Nat.zero_mul,Nat.add_zero,Nat.mod_eq_of_lt (by omega)] at h3
  have h9:A*2 ^ s<4294967296 ^ (j+1):=by
   rw [Nat.pow_succ]
   exact Nat.mul_lt_mul'' hlA (by omega)
  have h10:=nw_le h9
  refine go ?_
  refine r_callR 1043 (DenH.boxA (fun j=>[.val (.int .u32 ((dg 4294967296 (A*2 ^ s) j:Nat):Int))]) ?he (wnorm_own (A*2 ^ s) (j+1) (j+1) h9 (Nat.le_refl _) (by omega))) rfl ?_
  case he=>exact appF_snoc (by rw [h3];rfl)
  refine go ?_
  exact finN
theorem wright_den (A s:Nat) (hA:nD 32 A≤1000) (hs:s<32):Den Tryz.prog 255 [natF true A,.val (.int .i64 (s:Int))] (natF false (A / 2 ^ s)):=by
 have hlA:=nw_lt (A:=A)
 refine den_intro (fn:=Tryz.f255) rfl rfl rfl rfl rfl ?_
 have e0:s / 32=0:=by omega
 have e1:s % 32=s:=by omega
 obtain ⟨n,hn⟩:∃ n,nD 32 A=n:=⟨_,rfl⟩
 rw [hn] at hlA hA
 refine go ?_
 rw [hn]
 refine c_if (fun h3=>?_) (fun h3=>?_)
 ·refine go ?_
  obtain rfl:n=0:=by omega
  obtain rfl:A=0:=by simpa using hlA
  rw [Nat.zero_div,show natF false 0=natU false 0 0 from rfl]
  refine fin ?_
  exact CvV.cvt (CvV.id rfl) (Cvt.nil _ _ _)
 have hq:A / 2 ^ s<4294967296 ^ n:=Nat.lt_of_le_of_lt (Nat.div_le_self _ _) hlA
 have hD:0<2 ^ s:=Nat.pow_pos (by omega)
 refine go ?_
 rw [e0,hn]
 simp only [Nat.sub_zero,Nat.zero_add]
 refine word_zero (n:=n) 1019 (fillTo (dg 4294967296 (A / 2 ^ s)) 0) (fun e he=>fillTo_zero _ _) ?_
 refine c_up n (fun i=>[(22,.val (.int .i64 (i:Nat)))]) (fun i=>[(1019,some (rowB n (fillTo (dg 4294967296 (A / 2 ^ s)) i)))]) (fun i hi=>?_)
 have h1:=dgw (A:=A) (i:=i)
 have h2:=dgw (A:=A) (i:=i+1)
 have h4:=dg_sr (W:=4294967296) (A:=A) (D:=2 ^ s) (E:=2 ^ (32 - s)) (i:=i) hD (by rw [← Nat.pow_add,show s+(32 - s)=32 by omega])
 refine go ?_
 refine c_if (fun h6=>?_) (fun h6=>?_)
 ·refine go ?_
  obtain ⟨T,hT⟩:∃ T,dg 4294967296 A i+dg 4294967296 A (i+1)*4294967296=T:=⟨_,rfl⟩
  have hT2:T<18446744073709551616:=by omega
  refine c_cut0 [(7,.val (.int .u64 (T:Nat)))] ?_ ?_
  ·refine c_if (fun h7=>?_) (fun h7=>?_)
   ·refine go ?_
    refine r_shl64 (dg 4294967296 A (i+1)) 32 rfl rfl (by decide) ?_
    refine r_or64 (dg 4294967296 A i) (dg 4294967296 A (i+1)*2 ^ 32 % 18446744073709551616) rfl rfl (by omega) (Nat.mod_lt _ (by omega)) ?_
    rw [Nat.or_comm,or_word h2 h1,Nat.add_comm,hT]
    refine go ?_
    exact sub
   ·have h8:dg 4294967296 A (i+1)=0:=dg_beyond' (by omega) hlA (by omega)
    rw [h8,Nat.zero_mul,Nat.add_zero] at hT
    rw [hT]
    refine go ?_
    exact sub
  ·rw [hT] at h4
   refine go ?_
   rw [e1]
   refine r_shr (k:=.u64) T s rfl rfl (by show s≤64;omega) ?_
   refine go ?_
   rw [wrap32,← h4]
   refine ⟨h6,?_⟩
   refine row_next 1019 rfl ?_
   exact sub
 ·obtain rfl:i=n:=by omega
  refine go ?_
  rw [fill_dg hq]
  refine r_callR 1019 (wnorm_own (A / 2 ^ s) i i hq (Nat.le_refl _) (by omega)) rfl ?_
  refine go ?_
  have h10:=nw_le hq
  refine fin_freeze 1019 ?_
  refine fin ?_
  exact cv

theorem append_types {P:Program} {t t2 el el2 ty:TypeId} {info info2:TypeInfo} {u v:Value} {w:World} [hT:TI P t info (.slice el)] [hT2:TI P t2 info2 (.slice el2)]:(Builtin.append_ #[t,t2] ty #[u,v]).run P w=(Builtin.append_ #[t,t] ty #[u,v]).run P w:=by
 unfold Builtin.append_
 simp only [List.getElem?_toArray,List.getElem?_cons_zero,List.getElem?_cons_succ]
 simp only [Sem.run_bind,run_underlying hT.under,run_underlying hT2.under,Result.andThen]
 cases u<;>simp [run_underlying hT.under,run_underlying hT2.under,Result.andThen]
theorem loc_append2 {P:Program} {N:Nat} {o:Oper} {E:Nat→D} {H:Nat→Option Box} {R:Rec} {x y:Operand} {t t2 el el2:TypeId} {info info2:TypeInfo} (ho:o.op = .call { callee:=.builtin .append,args:=#[x,y],argTypes:=#[t,t2] }) [hT:TI P t info (.slice el)] [hT2:TI P t2 info2 (.slice el2)] (h:Loc P N { o with op:=.call { callee:=.builtin .append,args:=#[x,y],argTypes:=#[t,t] } } E H R):Loc P N o E H R:=by
 obtain ⟨h1,_,h3⟩:=h
 refine ⟨h1,by simp [ho],fun E1 H1 q1 q2 q3=>?_⟩
 have hsl:∀ u,u∈slotsOf { o with op:=.call { callee:=.builtin .append,args:=#[x,y],argTypes:=#[t,t] } }→u∈slotsOf o:=fun u hu=>by
  simpa [slotsOf,ho,Op.operands,Call.operands] using hu
 have:=h3 E1 H1 (fun u hu=>q1 u (hsl u hu)) q2 q3
 intro S a w hN hR K Q hX hK
 have k:=this S a w hN hR K Q hX hK
 unfold Oper.wp at k ⊢
 have e:(execOp a.eval o).run P w=(execOp a.eval { o with op:=.call { callee:=.builtin .append,args:=#[x,y],argTypes:=#[t,t] } }).run P w:=by
  simp only [execOp,ho,resolve,invoke,builtin]
  simp [append_types]
 rw [e]
 exact k
section
variable {P:Program} {N:Nat} {ops:Array Oper} {rest:List Oper} {env:List (Nat × D)} {box:List (Nat × Option Box)} {done:List Rec} {K:List Rec→List (Nat × D)→List (Nat × Option Box)→Prop} {d:Nat} {ty:TypeId} {pos:String} {aft:Array Edge}
theorem r_app2 {x y:Operand} {t t2 el el2:TypeId} {k n nb m j:Nat} {f g:Nat→List D} {v:D} {ks:List Nat} {info info' info2:TypeInfo} {d':TypeDesc} {zv:Value} [hT:TI P t info (.slice el)] [hT':TI P el info' d'] [hT2:TI P t2 info2 (.slice el2)] (h:RunK P N ops rest ((d,.sl (1000+d) m (n+j))::env) ((1000+d,some (.arr el (n+j) m (appF n f g)))::(k,some .gone)::box) (done++[⟨k::ks,some d,.sl (1000+d) m (n+j),[(1000+d,some (.arr el (n+j) m (appF n f g))),(k,some .gone)],[1000+d]⟩]) K) (hx:autoParam (Op1 env x (.sl k m n)) aq8._auto_1) (hy:autoParam (Op1 env y v) aq8._auto_1) (hbx:autoParam (Bl box k (.arr el nb m f)) aq5._auto_1) (hs:SrcB box v j m g ks:=by exact SrcB.fz _ _ _ _) (hz:info'.zero=some zv:=by rfl) (hm:info'.size=m:=by rfl) (hzs:zv.cells.size=m:=by rfl) (hms:Nat.blt 0 m=true:=by rfl) (h100:Nat.ble 1000 k=true:=by rfl) (hn:n≤nb:=by omega) (hby:Nat.ble info'.bytes 256=true:=by rfl) (hb:n+j≤549755813888:=by omega) (hd:Nat.blt d (fsz N)=true:=by rfl):RunK P N ops (⟨some d,.call { callee:=.builtin .append,args:=#[x,y],argTypes:=#[t,t2] },ty,pos,aft,none⟩::rest) env box done K:=
 run_put (ws:=[(1000+d,some (.arr el (n+j) m (appF n f g))),(k,some .gone)]) (fresh:=[1000+d]) (loc_append2 rfl (loc_append rfl hd hz hm hzs hms hx.opd hbx.eq hn h100 hy.opd hs.is (bytes_le hby hb) (by omega))) rfl h
end

instance ti240:TI Tryz.prog 240 Tryz.t240 (.array 134 22):=⟨by kernel_rfl,by kernel_rfl⟩
instance ar240:AR Tryz.prog 240 134 1:=AR.of ti240 ti22 rfl
instance fi254:FI Tryz.prog 254 Tryz.f254:=⟨Tryz.func254,Tryz.call254⟩
instance fi183:FI Tryz.prog 183 Tryz.f183:=⟨Tryz.func183,Tryz.call183⟩
theorem oldL (g:Nat→Value):∀ l:List Nat,OldDL (l.flatMap (fun e=>[D.val (g e)]))
 | []=>(inferInstance:OldDL [])
 | a::l=>by
  have:=oldL g l
  show OldDL (D.val (g a)::l.flatMap (fun e=>[D.val (g e)]))
  infer_instance
instance (n:Nat) (g:Nat→Value):OldDL (flatL n (fun e=>[D.val (g e)])):=oldL g _
abbrev flat134 (h:Nat→Nat):List D:=flatL 134 (fun e=>[.val (.int .u32 ((h e:Nat):Int))])
theorem wwhole_den (A n:Nat) (h:Nat→Nat) (hn:n≤134) (hA:A<4294967296 ^ n) (hh:∀ e,e<n→h e=dg 4294967296 A e):Den Tryz.prog 254 [.agg (flat134 h),.val (.int .i64 (n:Int))] (natF false A):=by
 refine den_intro (fn:=Tryz.f254) rfl rfl rfl rfl rfl ?_
 refine goc ?_
 refine c_reg ?_
 refine go1 ?_
 refine go1 ?_
 refine c_end (by kernel_rfl) ?_
 refine c_frzA 1002 134 (fun e=>[.val (.int .u32 ((h e:Nat):Int))]) (flatL_len (m:=1) (fun _ _=>rfl)) (fun e he=>⟨rfl,?_⟩) (hfr:=flat_free _ _) ?_
 ·have:=flatL_at (n:=134) (m:=1) (f:=fun e=>[.val (.int .u32 ((h e:Nat):Int))]) (fun _ _=>rfl) he (c:=0) (by omega)
  rw [Nat.mul_one,Nat.add_zero] at this
  exact this.symm
 refine awp_sub (sub_conv 2 (.eptr 1002 1 0 0) rfl (.eptr0 1002 0 1)) ?_
 refine goc ?_
 refine c_reg ?_
 refine r_bsl0 1 (fun _=>[.val (.int .u32 0)]) ?_
 refine go1 ?_
 refine r_slpa ?_
 refine r_app2 ?_
 rw [Nat.zero_add]
 refine r_callR 1008 (DenH.boxA (fun e=>[.val (.int .u32 ((dg 4294967296 A e:Nat):Int))]) ?he (wnorm_own A n n hA (Nat.le_refl _) (by omega))) rfl ?_
 case he=>exact fun e he=>by rw [appF_ge (Nat.zero_le _),Nat.sub_zero,hh e (by omega)]
 refine go ?_
 have h10:=nw_le hA
 refine fin_freeze 1008 ?_
 refine fin ?_
 exact cv
theorem wtimes_den (A B:Nat) (hA:nD 32 A≤66) (hB:nD 32 B≤66):Den Tryz.prog 183 [natF true A,natF true B] (natF false (A*B)):=by
 have hlA:=nw_lt (A:=A)
 have hlB:=nw_lt (A:=B)
 refine den_intro (fn:=Tryz.f183) rfl rfl rfl rfl rfl ?_
 obtain ⟨n,hn⟩:∃ n,nD 32 A=n:=⟨_,rfl⟩
 obtain ⟨m,hm⟩:∃ m,nD 32 B=m:=⟨_,rfl⟩
 refine goc ?_
 refine c_reg ?_
 refine go1 ?_
 refine c_end (by kernel_rfl) ?_
 refine goc ?_
 refine c_reg ?_
 refine r_alcA ?_
 refine c_end (by kernel_rfl) ?_
 rw [hn] at hlA
 rw [hm] at hlB
 refine go ?_
 rw [hn]
 refine c_arr (1000+5) (t:=240) (n:=134) (m:=1) (f:=fun e=>[.val (.int .u32 ((0:Nat):Int))]) (fun e=>[.val (.int .u32 ((rTm 4294967296 A B 0 0 e:Nat):Int))]) (fun e he=>by rw [rTm_start]) (fun _=>rfl) ?_
 refine c_up n (fun i=>[(11,.val (.int .i64 (i:Nat)))]) (fun i=>[(1005,some (.arr 240 134 1 (fun e=>[.val (.int .u32 ((rTm 4294967296 A B i 0 e:Nat):Int))])))]) (fun i hi=>?_)
 refine go ?_
 refine c_if (fun h3=>?_) (fun h3=>?_)
 ·have hz:=cyTm_zero (W:=4294967296) (A:=A) (B:=B) (i:=i) (by omega)
  refine go ?_
  rw [hm]
  refine c_up m (fun k=>[(16,.val (.int .i64 (k:Nat))),(7,.val (.int .u64 ((cyTm 4294967296 A B i k:Nat):Int)))]) (fun k=>[(1005,some (.arr 240 134 1 (fun e=>[.val (.int .u32 ((rTm 4294967296 A B i k e:Nat):Int))])))]) (fun k hk=>?_)
  have h4:=cyTm_lt (W:=4294967296) (A:=A) (B:=B) (i:=i) (k:=k) (by omega)
  refine go ?_
  refine c_if (fun h5=>?_) (fun h5=>?_)
  ·have h1:=dgw (A:=A) (i:=i)
   have h2:=dgw (A:=B) (i:=k)
   have h6:rTm 4294967296 A B i k (i+k)<4294967296:=by rw [rTm_at];exact dgw
   have h7:dg 4294967296 A i*dg 4294967296 B k≤4294967295*4294967295:=Nat.mul_le_mul (by omega) (by omega)
   have h8:=rTm_step (W:=4294967296) (A:=A) (B:=B) (i:=i) (k:=k) (by omega)
   have h9:=cyTm_succ (W:=4294967296) (A:=A) (B:=B) (i:=i) (k:=k) (by omega)
   rw [← rTm_at] at h9
   rw [Nat.add_assoc] at h8 h9
   refine go ?_
   generalize cyTm 4294967296 A B i k+(rTm 4294967296 A B i k (i+k)+dg 4294967296 A i*dg 4294967296 B k)=T at h8 h9 ⊢
   refine r_shr (k:=.u64) T 32 rfl rfl (by decide) ?_
   rw [wrap32,h8,show (2:Nat) ^ 32=4294967296 by rfl,← h9]
   refine go ?_
   refine ⟨h5,?_⟩
   refine sub_arr 1005 (fun e=>[.val (.int .u32 ((rTm 4294967296 A B i (k+1) e:Nat):Int))]) (fun e he=>setE_put1 (k:=.u32) (h':=fun e=>rTm 4294967296 A B i (k+1) e) (n:=134) rfl (fun e _ hne=>rTm_other hne) e he) (fun _=>rfl) ?_
   exact sub
  ·obtain rfl:k=m:=by omega
   refine go ?_
   rw [hm]
   refine ⟨h3,?_⟩
   have he:=rTm_end (W:=4294967296) (A:=A) (B:=B) (i:=i) (m:=k) (by omega) hlB
   refine sub_arr 1005 (fun e=>[.val (.int .u32 ((rTm 4294967296 A B (i+1) 0 e:Nat):Int))]) (fun e q=>setE_put1 (k:=.u32) (h':=fun e=>rTm 4294967296 A B (i+1) 0 e) (n:=134) (by rw [he,if_pos rfl]) (fun e _ hne=>by rw [he,if_neg hne]) e q) (fun _=>rfl) ?_
   exact sub
 ·obtain rfl:i=n:=by omega
  refine goc ?_
  refine c_reg ?_
  refine r_ldall ?_
  refine go ?_
  rw [hn,hm]
  have hAB:A*B<4294967296 ^ (i+m):=by rw [Nat.pow_add];exact Nat.mul_lt_mul'' hlA hlB
  refine r_call (wwhole_den (A*B) (i+m) (fun e=>rTm 4294967296 A B i 0 e) (by omega) hAB (fun e _=>rTm_all hlA)) ?_
  refine go ?_
  refine fin ?_
  exact cv

theorem nh_lt {A:Nat}:A<65536 ^ nD 16 A:=by simpa using nD_lt (k:=16) (A:=A) (by omega)
theorem nh_le {A n:Nat} (h:A<65536 ^ n):nD 16 A≤n:=nD_le_of_lt (k:=16) (by omega) (by simpa using h)
theorem nh_top {A n:Nat} (h:A<65536 ^ (n+1)) (ht:dg 65536 A n≠0):nD 16 A=n+1:=nD_of_top (k:=16) (by omega) (by simpa using h) (by simpa using ht)
theorem dgh {A i:Nat}:dg 65536 A i<65536:=dg_lt (by omega)
theorem powh {A:Nat} {n:Nat} (h:nD 16 A≤n):A<65536 ^ n:=Nat.lt_of_lt_of_le nh_lt (Nat.pow_le_pow_right (by omega) h)
theorem nh_nb {A:Nat}:nD 16 A=(nD 8 A+1) / 2:=by
 unfold nD
 split<;>omega
theorem nh_bit {A:Nat}:nD 16 A=(nD 1 A+15) / 16:=by
 unfold nD
 split<;>omega
theorem n1_lt {A:Nat}:A<2 ^ nD 1 A:=by simpa using nD_lt (k:=1) (A:=A) (by omega)
theorem n1_top {A n:Nat} (h:A<2 ^ (n+1)) (ht:dg 2 A n≠0):nD 1 A=n+1:=nD_of_top (k:=1) (by omega) (by simpa using h) (by simpa using ht)
theorem dgh_two {A i:Nat}:dg 65536 A i=dg 256 A (2*i)+256*dg 256 A (2*i+1):=by
 have h0:=dg_split (w:=256) (m:=2) (A:=A) (i:=i) (c:=0) (by omega)
 have h1:=dg_split (w:=256) (m:=2) (A:=A) (i:=i) (c:=1) (by omega)
 rw [show (256:Nat) ^ 2=65536 by rfl] at h0 h1
 rw [Nat.pow_zero,Nat.div_one,Nat.add_zero] at h0
 rw [Nat.pow_one] at h1
 have h2:=dgh (A:=A) (i:=i)
 rw [← h0,← h1]
 omega
theorem bit_word {A k:Nat}:dg 65536 A (k / 16) / 2 ^ (k % 16) % 2=dg 2 A k:=by
 have:=dg_split (w:=2) (m:=16) (A:=A) (i:=k / 16) (c:=k % 16) (Nat.mod_lt _ (by omega))
 rw [Nat.div_add_mod,show (2:Nat) ^ 16=65536 by rfl] at this
 exact this
def hiT (A k:Nat):Nat:=A / 2 ^ k*2 ^ k
theorem hiT_zero {A:Nat}:hiT A 0=A:=by unfold hiT;simp
theorem hiT_top {A k:Nat} (h:A<2 ^ k):hiT A k=0:=by unfold hiT;rw [Nat.div_eq_of_lt h,Nat.zero_mul]
theorem hiT_step {A k:Nat}:hiT A k=hiT A (k+1)+2 ^ k*dg 2 A k:=by
 unfold hiT
 conv=>lhs;rw [sh_aux (W:=2)]
 rw [Nat.add_mul,Nat.pow_succ,Nat.mul_assoc,Nat.mul_comm 2,Nat.mul_comm (dg 2 A k)]
theorem hiT_dg {A k:Nat}:dg 2 (hiT A (k+1)) k=0:=by
 unfold hiT dg
 rw [Nat.pow_succ,Nat.mul_comm (2 ^ k) 2,← Nat.mul_assoc,Nat.mul_div_cancel _ (Nat.pow_pos (by omega)),Nat.mul_mod_left]
theorem hiT_put {A k:Nat} (h:dg 2 A k=1) (j:Nat):dg 65536 (hiT A k) j=if j=k / 16 then dg 65536 (hiT A (k+1)) j+2 ^ (k % 16) else dg 65536 (hiT A (k+1)) j:=by
 have e0:=dg_put (w:=2) (m:=16) (x:=hiT A (k+1)) (k:=k) (d:=dg 2 A k) (by omega) (by omega) hiT_dg (by rw [h];omega) j
 rw [← hiT_step,show (2:Nat) ^ 16=65536 by rfl,h,Nat.mul_one] at e0
 by_cases q:j=k / 16
 ·rw [if_pos q] at e0 ⊢
  exact e0
 ·rw [if_neg q] at e0 ⊢
  exact e0
theorem hiT_same {A k:Nat} (h:dg 2 A k=0):hiT A k=hiT A (k+1):=by rw [hiT_step,h,Nat.mul_zero,Nat.add_zero]
theorem bit_rest {A B i:Nat}:A / 2 ^ i % B=(A / 2 ^ (i+1) % B*2+dg 2 A i) % B:=reSh_step (W:=2)
theorem bit_quot {A B i:Nat} (hB:0<B):dg 2 (A / B) i=(A / 2 ^ (i+1) % B*2+dg 2 A i) / B:=by
 have h:=dg_quot (W:=2) (A:=A) (m:=B) (i:=i) (by omega) hB
 unfold reSh at h
 have h1:=Nat.mod_lt (A / 2 ^ (i+1)) hB
 have h2:dg 2 A i<2:=dg_lt (by omega)
 rw [h]
 apply Nat.mod_eq_of_lt
 exact quot_dg_lt h1 h2

instance fi286:FI Tryz.prog 286 Tryz.f286:=⟨Tryz.func286,Tryz.call286⟩
instance fi253:FI Tryz.prog 253 Tryz.f253:=⟨Tryz.func253,Tryz.call253⟩
theorem lenBits_shift:∀ (k a:Nat),2 ^ k≤a→lenBits a=lenBits (a / 2 ^ k)+k
 | 0,a,_=>by simp
 | k+1,a,h=>by
  have h1:2 ^ k≤a / 2:=by rw [Nat.le_div_iff_mul_le (by omega),← Nat.pow_succ];exact h
  rw [lenBits_half (n:=a) (by have:=Nat.pow_pos (a:=2) (n:=k+1) (by omega);omega),lenBits_shift k (a / 2) h1,Nat.div_div_eq_div_mul,Nat.pow_succ,Nat.mul_comm 2]
  omega
theorem len8_byte:∀ k:_root_.Fin 256,byteAt Lib.len8tab k.1=lenBits k.1:=by decide +kernel
theorem len8_size:Lib.len8tab.size=256:=by decide +kernel
theorem len32_den (a:Nat) (ha:a<4294967296):Den Tryz.prog 286 [.val (.int .u32 (a:Int))] (.val (.int .i64 (lenBits a:Nat))):=by
 refine den_intro (fn:=Tryz.f286) rfl rfl rfl rfl rfl ?_
 have hl:lenBits a≤32:=lenBits_le (by simpa using ha)
 obtain ⟨X,s,hX,hs,hs2,hXs⟩:∃ X s,X=(if 65536≤a then a / 65536 else a)∧s=(if 65536≤a then 16 else 0)∧X<65536∧lenBits a=lenBits X+s:=⟨_,_,rfl,rfl,by split<;>omega,by
  split
  ·exact lenBits_shift 16 a (by omega)
  ·omega⟩
 obtain ⟨Y,u,hY,hu,hu2,hYu⟩:∃ Y u,Y=(if 256≤X then X / 256 else X)∧u=(if 256≤X then s+8 else s)∧Y<256∧lenBits a=lenBits Y+u:=⟨_,_,rfl,rfl,by split<;>omega,by
  split
  ·have e:=lenBits_shift 8 X (show 2 ^ 8≤X by omega)
   rw [show (2:Nat) ^ 8=256 by rfl] at e
   omega
  ·exact hXs⟩
 refine go ?_
 refine c_cut0 [(0,.val (.int .u32 (X:Int))),(2,.val (.int .i64 (s:Int)))] ?_ ?_
 ·refine c_if (fun h3=>?_) (fun h3=>?_)
  ·rw [if_pos h3] at hX hs
   refine go ?_
   refine r_shr (k:=.u32) a 16 rfl rfl (by decide) ?_
   rw [show a / 2 ^ 16=X by rw [hX]]
   refine go ?_
   exact sub
  ·rw [if_neg h3] at hX hs
   subst hX hs
   refine go ?_
   exact sub
 clear hX hs
 refine go ?_
 refine c_cut0 [(0,.val (.int .u32 (Y:Int))),(2,.val (.int .i64 (u:Int)))] ?_ ?_
 ·refine c_if (fun h3=>?_) (fun h3=>?_)
  ·rw [if_pos h3] at hY hu
   refine go ?_
   refine r_shr (k:=.u32) X 8 rfl rfl (by decide) ?_
   rw [show X / 2 ^ 8=Y by rw [hY]]
   refine go ?_
   exact sub
  ·rw [if_neg h3] at hY hu
   subst hY hu
   refine go ?_
   exact sub
 clear hY hu
 have hb:=len8_byte ⟨Y,hu2⟩
 dsimp only at hb
 have hb2:lenBits Y≤8:=lenBits_le (by simpa using hu2)
 refine go ?_
 refine r_sidx Lib.len8tab Y rfl (by rw [len8_size];exact hu2) ?_
 rw [hb,hYu]
 generalize lenBits Y=z at hb2 ⊢
 refine go ?_
 refine fin ?_
 rw [Nat.add_comm]
 exact cv
theorem lenBits_le32 {a:Nat} (ha:a<4294967296):lenBits a≤32:=lenBits_le (by simpa using ha)
theorem lz32_den (a:Nat) (ha:a<4294967296):Den Tryz.prog 253 [.val (.int .u32 (a:Int))] (.val (.int .i64 ((32 - lenBits a:Nat):Int))):=by
 have hl:=lenBits_le32 ha
 have hd:=len32_den a ha
 obtain ⟨b,hb⟩:∃ b,lenBits a=b:=⟨_,rfl⟩
 rw [hb] at hl hd ⊢
 refine den_intro (fn:=Tryz.f253) rfl rfl rfl rfl rfl ?_
 refine go ?_
 refine r_call hd ?_
 refine go ?_
 refine fin ?_
 exact cv

instance fi182:FI Tryz.prog 182 Tryz.f182:=⟨Tryz.func182,Tryz.call182⟩
def resN (neg:Bool) (A:Nat):D:=if nD 8 A≤256 then .tup [wN (neg && decide (A≠0)) A,.val (.int .i64 0)] else .tup [wZ,.val (.int .i64 7)]
theorem setE_fillK {k:IntKind} {h:Nat→Nat} {j v:Nat} (hv:v=h j) (e:Nat):setE (fun e=>[.val (.int k ((fillTo h j e:Nat):Int))]) j 0 [.val (.int k ((v:Nat):Int))] e=[.val (.int k ((fillTo h (j+1) e:Nat):Int))]:=by
 subst hv
 unfold setE
 by_cases q:e=j
 ·subst q;simp [fillTo,setL,takeL,dropL]
 ·have:fillTo h (j+1) e=fillTo h j e:=by unfold fillTo;by_cases q2:e<j<;>simp [q2]<;>omega
  simp [q,this]
section
variable {E2:Nat→D} {H2:Nat→Option Box} {env:List (Nat × D)} {box:List (Nat × Option Box)}
theorem byte_next (k:Nat) {n j v:Nat} {h:Nat→Nat} (hv:v=h j) (g:Sub (lk env) (hk ((k,some (.arr 5 n 1 (fun e=>[.val (.int .u8 ((fillTo h (j+1) e:Nat):Int))])))::box)) E2 H2) (hb:autoParam (Bl box k (.arr 5 n 1 (setE (fun e=>[.val (.int .u8 ((fillTo h j e:Nat):Int))]) j 0 [.val (.int .u8 ((v:Nat):Int))]))) aq5._auto_1):Sub (lk env) (hk box) E2 H2:=sub_arr k _ (fun e _=>setE_fillK hv e) (fun _=>rfl) g hb
end
theorem wform_den (A n:Nat) (neg:Bool) (hA:A<4294967296 ^ n) (hn:n≤2000):Den Tryz.prog 182 [natU true n A,.val (.bool neg)] (resN neg A):=by
 have hnw:=nw_le hA
 have hW:=nw_nb (A:=A)
 refine den_intro (fn:=Tryz.f182) rfl rfl rfl rfl rfl ?_
 refine go ?_
 refine r_callO (wnorm_den A n hA (by omega)) ?_
 refine go ?_
 unfold resN wN
 refine c_if (fun h3=>?_) (fun h3=>?_)
 ·have h0:A=0:=nD_eq_zero.1 h3
  subst h0
  rw [if_pos (by rw [nD_zero];omega)]
  refine go ?_
  refine fin ?_
  rw [decide_eq_false (show ¬ (0:Nat)≠0 by omega),Bool.and_false]
  show CvV _ _ _ _ _ (.tup [.agg [.val (.bool false),.val (.string { data:=#[] })],.val (.int .i64 0)])
  exact cv
 ·have h0:A≠0:=fun e=>h3 (by rw [e];rfl)
  obtain ⟨t1,t2,t3⟩:=nb_top h0
  have htop:=dgw (A:=A) (i:=nD 32 A - 1)
  refine go ?_
  refine r_call (lz32_den _ htop) ?_
  generalize lenBits (dg 4294967296 A (nD 32 A - 1))=z at t1 t2 t3 ⊢
  refine go ?_
  rw [← t1]
  have hbw:∀ k,dg 4294967296 A (k / 4) / 2 ^ (8*(k % 4)) % 256=dg 256 A k:=fun k=>byte_word
  have hso:strN A=strOf (nD 8 A) (fillTo (fun i=>dg 256 A (nD 8 A - 1 - i)) (nD 8 A)):=strOf_congr (fun j hj=>(fillTo_all (fun i=>dg 256 A (nD 8 A - 1 - i)) hj).symm)
  rw [hso]
  clear t1 hso
  generalize nD 8 A=L at hW ⊢
  rw [decide_eq_true h0,Bool.and_true]
  refine c_if (fun h4=>?_) (fun h4=>?_)
  ·rw [if_neg (by omega)]
   refine go ?_
   refine fin ?_
   exact cv
  rw [if_pos (by omega)]
  refine go ?_
  refine byte_zero 1032 (fillTo (fun i=>dg 256 A (L - 1 - i)) 0) (fun e he=>fillTo_zero _ _) ?_
  refine c_up L (fun i=>[(35,.val (.int .i64 (i:Nat)))]) (fun i=>[(1032,some (.arr 5 L 1 (fun e=>[.val (.int .u8 ((fillTo (fun i=>dg 256 A (L - 1 - i)) i e:Nat):Int))])))]) (fun i hi=>?_)
  refine go ?_
  refine c_if (fun h5=>?_) (fun h5=>?_)
  ·obtain ⟨k,hk⟩:∃ k,L - 1 - i=k:=⟨_,rfl⟩
   have h6:=hbw k
   have h7:=dgw (A:=A) (i:=k / 4)
   refine go ?_
   rw [hk]
   refine go ?_
   refine r_shr (k:=.u32) (dg 4294967296 A (k / 4)) (8*(k % 4)) rfl rfl (by show 8*(k % 4)≤32;omega) ?_
   refine go ?_
   rw [wrap8,h6]
   refine ⟨h5,?_⟩
   refine byte_next 1032 (h:=fun i=>dg 256 A (L - 1 - i)) (show dg 256 A k=dg 256 A (L - 1 - i) by rw [hk]) ?_
   exact sub
  ·obtain rfl:i=L:=by omega
   refine go ?_
   refine r_cstr 1032 (Nat.le_refl _) ?_
   refine go ?_
   refine fin ?_
   exact cv

abbrev zN (z:Int):D:=wN (decide (z<0)) z.natAbs
def Fz (z:Int):Prop:=nD 8 z.natAbs≤256
instance (z:Int):Decidable (Fz z):=inferInstanceAs (Decidable (nD 8 z.natAbs≤256))
def resZ (z:Int):D:=if Fz z then .tup [zN z,.val (.int .i64 0)] else .tup [wZ,.val (.int .i64 7)]
theorem zI_abs {neg:Bool} {A:Nat}:(zI neg A).natAbs=A:=by unfold zI;split<;>omega
theorem zI_neg {neg:Bool} {A:Nat}:decide (zI neg A<0)=(neg && decide (A≠0)):=by
 unfold zI
 cases neg
 ·simp
 ·by_cases h:A=0
  ·subst h;simp
  ·simp [h];omega
theorem resN_eq (neg:Bool) (A:Nat):resN neg A=resZ (zI neg A):=by
 have e1:zN (zI neg A)=wN (neg && decide (A≠0)) A:=by unfold zN;rw [zI_abs,zI_neg]
 unfold resN resZ
 rw [e1]
 by_cases h:nD 8 A≤256
 ·rw [if_pos h,if_pos (show Fz (zI neg A) by unfold Fz;rw [zI_abs];exact h)]
 ·rw [if_neg h,if_neg (show ¬ Fz (zI neg A) by unfold Fz;rw [zI_abs];exact h)]
theorem Fz.vw {z:Int} (h:Fz z):Vw (decide (z<0)) z.natAbs:=⟨h,fun e=>decide_eq_false (by omega)⟩
theorem Fz.ok {z:Int} (h:Fz z):vldB (decide (z<0)) (strN z.natAbs)=true:=h.vw.ok
theorem Fz.words {z:Int} (h:Fz z):nD 32 z.natAbs≤64:=h.vw.words
theorem Fz.of_lt {z:Int} (h:z.natAbs<256 ^ 256):Fz z:=nb_le h
theorem Fz.lt {z:Int} (h:Fz z):z.natAbs<256 ^ 256:=Nat.lt_of_lt_of_le nb_lt (Nat.pow_le_pow_right (by omega) h)
theorem Fz.le {z y:Int} (h:Fz z) (hy:y.natAbs≤z.natAbs):Fz y:=Fz.of_lt (Nat.lt_of_le_of_lt hy h.lt)
theorem resZ_ok {z:Int} (h:Fz z):resZ z = .tup [zN z,.val (.int .i64 0)]:=if_pos h
theorem resZ_no {z:Int} (h:¬ Fz z):resZ z = .tup [wZ,.val (.int .i64 7)]:=if_neg h
theorem resZ_form (z:Int):∃ (b:Bool) (s:ByteArray) (e:Int),resZ z = .tup [wS b s,.val (.int .i64 e)]:=by
 by_cases h:Fz z
 ·exact ⟨_,_,_,resZ_ok h⟩
 ·exact ⟨_,_,_,resZ_no h⟩
def smA (A:Nat) (an:Bool) (B:Nat) (bn:Bool):Nat:=if an=bn then A+B else if A<B then B - A else A - B
def smS (A:Nat) (an:Bool) (B:Nat) (bn:Bool):Bool:=if an=bn then an else if A<B then bn else an
theorem sm_eq {A B:Nat} {an bn:Bool}:zI (smS A an B bn) (smA A an B bn)=zI an A+zI bn B:=by
 unfold smS smA zI
 by_cases h:A<B<;>cases an<;>cases bn<;>simp [h]<;>omega
theorem mulS_eq {A B:Nat} {an bn:Bool}:zI (an != bn) (A*B)=zI an A*zI bn B:=by
 unfold zI
 cases an<;>cases bn<;>simp [Int.neg_mul,Int.mul_neg]
def flQ (A:Nat) (an:Bool) (B:Nat):Nat:=if an && decide (A % B≠0) then A / B+1 else A / B
def flR (A:Nat) (an:Bool) (B:Nat):Nat:=if an && decide (A % B≠0) then B - A % B else A % B
theorem zI_f {A:Nat}:zI false A=A:=rfl
theorem fl_p {a b Q R:Int} (e:a=b*Q+R) (h0:0≤R) (h2:R<b):Q=a / b∧R=a % b:=by
 subst e
 constructor
 ·rw [show b*Q+R=R+b*Q by omega,Int.add_mul_ediv_left _ _ (by omega),Int.ediv_eq_zero_of_lt h0 (by omega)];omega
 ·rw [show b*Q+R=R+b*Q by omega,Int.add_mul_emod_self_left,Int.emod_eq_of_lt h0 (by omega)]
theorem fl_n {a b Q R:Int} (e:a=b*(-Q)+R) (h0:0≤R) (h2:R<b):Q=a / -b∧R=a % -b:=by
 have:=fl_p e h0 h2
 rw [Int.ediv_neg,Int.emod_neg]
 omega
theorem fl_eq {A B:Nat} {an bn:Bool} (hB:B≠0):zI (an != bn) (flQ A an B)=zI an A / zI bn B∧(flR A an B:Int)=zI an A % zI bn B:=by
 have hm:=Nat.mod_lt A (show 0<B by omega)
 have h1:(A:Int)=(B:Int)*((A / B:Nat):Int)+((A % B:Nat):Int):=by exact_mod_cast (Nat.div_add_mod A B).symm
 unfold flQ flR
 generalize A / B=q at *
 generalize A % B=r at *
 cases an
 ·simp only [Bool.false_and,Bool.false_eq_true,if_false]
  cases bn
  ·exact fl_p (by rw [zI_f];exact h1) (by omega) (by rw [zI_f];omega)
  ·have:=fl_n (a:=A) (b:=B) (Q:= -(q:Int)) (R:=r) (by rw [Int.neg_neg];exact h1) (by omega) (by omega)
   exact this
 ·simp only [Bool.true_and,decide_eq_true_eq]
  by_cases hr:r=0
  ·subst hr
   rw [if_neg (by omega),if_neg (by omega)]
   have e2 : -(A:Int)=(B:Int)*(-(q:Int))+((0:Nat):Int):=by rw [h1,Int.mul_neg];omega
   cases bn
   ·exact fl_p (a:= -(A:Int)) (b:=B) (Q:= -(q:Int)) (R:=((0:Nat):Int)) e2 (by omega) (by omega)
   ·exact fl_n (a:= -(A:Int)) (b:=B) (Q:=q) (R:=((0:Nat):Int)) e2 (by omega) (by omega)
  ·rw [if_pos hr,if_pos hr]
   have e3 : -(A:Int)=(B:Int)*(-((q+1:Nat):Int))+((B - r:Nat):Int):=by
    rw [h1,Int.mul_neg,Int.natCast_add,Int.mul_add];omega
   cases bn
   ·exact fl_p (a:= -(A:Int)) (b:=B) (Q:= -((q+1:Nat):Int)) e3 (by omega) (by omega)
   ·exact fl_n (a:= -(A:Int)) (b:=B) (Q:=((q+1:Nat):Int)) e3 (by omega) (by omega)
theorem dg2 {W n:Nat} (hW:0<W):(dg W n 0=n % W)∧(n<W ^ 2→dg W n 1=n / W):=by
 unfold dg
 refine ⟨by rw [Nat.pow_zero,Nat.div_one],fun h=>?_⟩
 rw [Nat.pow_one]
 apply Nat.mod_eq_of_lt
 apply Nat.div_lt_of_lt_mul
 rw [← Nat.pow_two];exact h

instance fi285:FI Tryz.prog 285 Tryz.f285:=⟨Tryz.func285,Tryz.call285⟩
set_option maxHeartbeats 20000000
abbrev u64D (n:Nat):D:=.val (.int .u64 (n:Int))
abbrev i64D (n:Nat):D:=.val (.int .i64 (n:Int))
abbrev dvE (k j la m s V:Nat):List (Nat × D):=[(13,i64D j),(12,.sl 1069 1 m),(11,i64D (k+2)),(10,.sl 1058 1 la),(9,natU false (k+2) V),(8,i64D s)]
abbrev dvB (N m:Nat) (u q:Nat→Nat):List (Nat × Option Box):=[(1058,some (rowB N u)),(1069,some (rowB m q))]
theorem dv_adjust (k j la N m s V Uj T v1 v2 u2 P vl cl:Nat) (h:Nat→Nat) (hkn:Kn 4294967296 P v1 v2 vl T u2 cl) (hla:j+(k+2)<la) (hN:la≤N) (hN9:N≤1000) (e0:dg 4294967296 Uj (j+(k+2) - 2)=u2) (e1:dg 4294967296 V (k+2 - 1)=v1) (e2:dg 4294967296 V (k+2 - 2)=v2) (h31:2147483648≤v1) (hT:T<18446744073709551616) {Q:Post}
  (hQ:∀ E H,Sub E H (lk ((15,u64D (knQ 4294967296 v1 v2 T u2))::dvE k j la m s V)) (hk (dvB N m (dg 4294967296 Uj) h))→Q .normal E H) :
  AWp none Tryz.prog Tryz.f285.ntmps (fPath Tryz.f285 [1,1,1,1,1,1,1,1,0,1,0,0,1,0,0,0,1,1,1,0]) (lk ((15,u64D (T / v1))::(16,u64D (T % v1))::dvE k j la m s V)) (hk (dvB N m (dg 4294967296 Uj) h)) Q:=by
 conv=>arg 4;whnf
 have hstart:=hkn.start
 have hb:T / v1≤8589934592:=by
  have:T / v1≤T / 2147483648:=Nat.div_le_div_left h31 (by omega)
  omega
 have hv1:v1<4294967296:=hkn.hv1
 have hv2:v2<4294967296:=hkn.hv2
 have hu2:u2<4294967296:=hkn.hu2
 refine go ?_
 refine c_down (fun s:Nat × Nat=>s.1) (fun s=>KnG 4294967296 v1 v2 T u2 s.1 s.2∧s.1≤8589934592) (fun s=>[(15,u64D s.1),(16,u64D s.2)]) (fun _=>[]) (T / v1,T % v1) (fun s hs=>?_) ⟨hstart,hb⟩
 obtain ⟨g,r⟩:=s
 obtain ⟨hs,hg⟩:=hs
 dsimp only at hs hg ⊢
 have hr:=hs.rlt
 by_cases q:4294967296≤g
 ·refine goc ?_
  refine c_reg ?_
  refine go1 ?_
  refine go1 ?_
  refine go1 ?_
  refine r_eqS 112 (.val (.bool true)) (d:=.val (.bool (decide (4294967296≤g)))) (by rw [decide_eq_true q]) ?_
  have hm:=hs.more hkn (.inl q)
  refine go ?_
  rw [e1]
  refine c_if (fun h2=>?_) (fun h2=>?_)
  ·have hgo:=hs.out hkn (.inl q) h2
   refine go ?_
   rw [hgo]
   exact hQ _ _ sub
  ·have hgn:=hs.next hkn (.inl q) (by omega)
   refine go ?_
   refine ⟨(g - 1,r+v1),⟨hgn,by omega⟩,by omega,?_⟩
   exact sub
 ·have hgv:g*dg 4294967296 V (k+2 - 2)≤4294967295*4294967295:=Nat.mul_le_mul (by omega) (by omega)
  refine goc ?_
  refine c_reg ?_
  refine go1 ?_
  refine go1 ?_
  refine go1 ?_
  refine r_eqS 112 (.val (.bool false)) (d:=.val (.bool (decide (4294967296≤g)))) (by rw [decide_eq_false q]) ?_
  refine go ?_
  rw [e2] at hgv ⊢
  refine r_shl64 r 32 rfl rfl (by decide) ?_
  refine go ?_
  rw [e0]
  refine r_or64 (r*2 ^ 32 % 18446744073709551616) u2 rfl rfl (Nat.mod_lt _ (by omega)) (by omega) ?_
  rw [or_word hr hu2]
  have hru:r*4294967296+u2<18446744073709551616:=by omega
  obtain ⟨R,hR⟩:∃ R,r*4294967296+u2=R:=⟨_,rfl⟩
  obtain ⟨G,hG⟩:∃ G,g*v2=G:=⟨_,rfl⟩
  rw [hR] at hru
  rw [hR,hG]
  refine go ?_
  refine c_if (fun q2=>?_) (fun q2=>?_)
  ·rw [← hR,← hG] at q2
   have hm:=hs.more hkn (.inr q2)
   refine go ?_
   rw [e1]
   refine c_if (fun h2=>?_) (fun h2=>?_)
   ·have hgo:=hs.out hkn (.inr q2) h2
    refine go ?_
    rw [hgo]
    exact hQ _ _ sub
   ·have hgn:=hs.next hkn (.inr q2) (by omega)
    refine go ?_
    refine ⟨(g - 1,r+v1),⟨hgn,by omega⟩,by omega,?_⟩
    exact sub
  ·rw [← hR,← hG] at q2
   have hgs:=hs.stop hkn (by omega) q2
   refine go ?_
   rw [hgs]
   exact hQ _ _ sub

set_option maxHeartbeats 4000000
theorem isEmpty_eq (s:ByteArray):(s.toList == ({ data:=#[] }:ByteArray).toList)=decide (s.size=0):=by
 rw [Go.ByteArray.toList_eq,Go.ByteArray.toList_eq,size_data]
 show (s.data.toList == [])=_
 cases s.data.toList<;>simp
theorem wValid_den (neg:Bool) (s:ByteArray):Den Tryz.prog 179 [wS neg s] (.val (.bool (vldB neg s))):=by
 refine den_intro (fn:=Tryz.f179) rfl rfl rfl rfl rfl ?_
 refine go ?_
 rw [isEmpty_eq]
 unfold vldB
 refine c_if (fun h1=>?_) (fun h1=>?_)
 ·refine go ?_
  rw [if_pos h1]
  refine fin ?_
  exact cv
 ·rw [if_neg h1]
  refine go ?_
  refine r_sidx s 0 rfl (by omega) ?_
  refine go ?_
  refine fin ?_
  exact cv
theorem wvalid2_den (a b:Bool) (s t:ByteArray) (f:Nat→List D) [∀ e,OldDL (f e)] (e0:f 0=[.val (.bool a),.val (.string s)]) (e1:f 1=[.val (.bool b),.val (.string t)]):Den Tryz.prog 181 [.fz true 2 2 f] (.val (.bool (vldB a s && vldB b t))):=by
 refine den_intro (fn:=Tryz.f181) rfl rfl rfl rfl rfl ?_
 refine go ?_
 refine c_down (fun m=>2 - m) (fun m=>m≤2∧(0<m→vldB a s=true)∧(1<m→vldB b t=true)) (fun m:Nat=>[(7,.val (.int .i64 (m:Int)))]) (fun _=>[]) 0 (fun m ⟨hm,h0,h1⟩=>?_) ⟨by omega,by omega,by omega⟩
 refine go ?_
 refine c_if (fun h3=>?_) (fun h3=>?_)
 ·refine go ?_
  obtain rfl | rfl:m=0∨m=1:=by omega
  ·refine r_eqS 9 (.fptr true [.val (.bool a),.val (.string s)]) (d:=.fptr true (f 0)) (by rw [e0]) ?_
   refine go ?_
   refine r_call (wValid_den a s) ?_
   refine go ?_
   refine c_ifB (fun h4=>?_) (fun h4=>?_)
   ·refine go ?_
    have h4:vldB a s=false:=by simpa using h4
    rw [h4]
    refine fin ?_
    exact cv
   ·have h4:vldB a s=true:=by simpa using h4
    refine go ?_
    refine ⟨1,⟨by omega,fun _=>h4,by omega⟩,by omega,?_⟩
    exact sub
  ·refine r_eqS 9 (.fptr true [.val (.bool b),.val (.string t)]) (d:=.fptr true (f 1)) (by rw [e1]) ?_
   refine go ?_
   refine r_call (wValid_den b t) ?_
   refine go ?_
   have h0:=h0 (by omega)
   rw [h0]
   refine c_ifB (fun h4=>?_) (fun h4=>?_)
   ·refine go ?_
    have h4:vldB b t=false:=by simpa using h4
    rw [h4]
    refine fin ?_
    exact cv
   ·have h4:vldB b t=true:=by simpa using h4
    refine go ?_
    refine ⟨2,⟨by omega,fun _=>by first | rfl | assumption,fun _=>h4⟩,by omega,?_⟩
    exact sub
 ·obtain rfl:m=2:=by omega
  refine go ?_
  have h0:=h0 (by omega)
  have h1:=h1 (by omega)
  rw [h0,h1]
  refine fin ?_
  exact cv
end Go.Proofs.YtdcenblblimkfaaGreat
