/- wide: divide: a multiple of the divisor is taken away.
The reference's wide: Valid, trim, word.
The reference's wide: order, plus, minus.
The reference's wide: out.
The reference's wide: in.
wide: divide: the loop that puts back.
wide: divide: what was taken too often is put back.
wide: divide: one digit.
wide: divide.
wide: sum, floor.
The reference's wide: negative, add.
The reference's wide: mul.
wide: of. -/
import Derived.Test.YtdcenblblimkfaaGreatPn16
import Derived.Test.YtdcenblblimkfaaGreatPn14
import Derived.Test.YtdcenblblimkfaaGreatPn15
set_option linter.unusedSimpArgs false
set_option linter.unusedVariables false
set_option linter.unnecessarySimpa false
set_option linter.unusedSectionVars false
namespace Go.Proofs.YtdcenblblimkfaaGreat
open Go.RowKit
set_option maxRecDepth 20000
set_option maxHeartbeats 20000000
theorem cySl_le {W A D i:Nat} (h:0<W):cySl W A D i≤D:=by
 rcases Nat.eq_zero_or_pos D with q | q
 ·subst q;simp [cySl]
 ·exact Nat.le_of_lt (cySl_lt h q)
def mxR (j i Y Uj e:Nat):Nat:=if j≤e∧e<j+i then dg 4294967296 Y (e - j) else dg 4294967296 Uj e
theorem mxR_zero {j Y Uj e:Nat}:mxR j 0 Y Uj e=dg 4294967296 Uj e:=if_neg (by omega)
theorem mxR_at {j i Y Uj e:Nat} (h:e=i+j):mxR j i Y Uj e=dg 4294967296 Uj e:=if_neg (by omega)
theorem mxR_new {j i Y Uj:Nat}:mxR j (i+1) Y Uj (i+j)=dg 4294967296 Y i:=by
 unfold mxR
 rw [if_pos (by omega),show i+j - j=i by omega]
theorem mxR_other {j i Y Uj e:Nat} (h:e≠i+j):mxR j (i+1) Y Uj e=mxR j i Y Uj e:=by
 unfold mxR
 by_cases q:j≤e∧e<j+i
 ·rw [if_pos q,if_pos (by omega)]
 ·rw [if_neg q,if_neg (by omega)]
theorem dv_msub (k j la N m s V Uj x g:Nat) (h:Nat→Nat) (hx:∀ e,j≤e→dg 4294967296 Uj e=dg 4294967296 x (e - j)) (hg:g<4294967296) (hle:V*g≤x+4294967296 ^ (k+3)) (hla:j+(k+2)<la) (hN:la≤N) (hN9:N≤1000) {Q:Post}
  (hQ:∀ E H,Sub E H (lk ((17,u64D (cySl 4294967296 V g (k+2)))::(18,u64D (bwDif 4294967296 x (V*g) (k+2)))::(15,u64D g)::dvE k j la m s V)) (hk (dvB N m (mxR j (k+2) (x+4294967296 ^ (k+3) - V*g) Uj) h))→Q .normal E H) :
  AWp none Tryz.prog Tryz.f285.ntmps (fPath Tryz.f285 [1,1,1,1,1,1,1,1,0,1,0,0,1,0,0,0,1,1,1,1,1,0]) (lk ((17,u64D 0)::(18,u64D 0)::(15,u64D g)::dvE k j la m s V)) (hk (dvB N m (dg 4294967296 Uj) h)) Q:=by
 conv=>arg 4;whnf
 have hcz:=cySl_zero (W:=4294967296) (A:=V) (D:=g)
 have hbz:=bwDif_zero (W:=4294967296) (A:=x) (B:=V*g)
 have hdY:∀ i,i<k+2→dg 4294967296 (x+4294967296 ^ (k+3) - V*g) i=(dg 4294967296 x i+4294967296 - dg 4294967296 (V*g) i - bwDif 4294967296 x (V*g) i) % 4294967296:=fun i hi=>dg_difW (by omega) hle (by omega)
 generalize x+4294967296 ^ (k+3) - V*g=Y at hQ hdY ⊢
 replace hle:=Lib.hid hle
 have hbs:=fun i=>bwDif_succ (W:=4294967296) (A:=x) (B:=V*g) (i:=i) (by omega)
 have hbl:=fun i=>bwDif_le (W:=4294967296) (A:=x) (B:=V*g) (i:=i)
 have hds:=fun i=>dg_sl (W:=4294967296) (A:=V) (D:=g) (i:=i) (by omega)
 have hdn:=fun i=>dgw (A:=V*g) (i:=i)
 generalize V*g=G at hQ hdY hbz hbs hbl hds hdn ⊢
 refine go ?_
 refine c_word (n:=N) 1058 (mxR j 0 Y Uj) (fun e he=>mxR_zero.symm) ?_
 refine c_up (k+2) (fun i=>[(148,i64D i),(17,u64D (cySl 4294967296 V g i)),(18,u64D (bwDif 4294967296 x G i))]) (fun i=>[(1058,some (rowB N (mxR j i Y Uj)))]) (fun i hi=>?_)
 have h1:=hbl i
 have h2:=cySl_le (W:=4294967296) (A:=V) (D:=g) (i:=i) (by omega)
 have h3:=dgw (A:=V) (i:=i)
 have h4:=dgw (A:=x) (i:=i)
 have h5:g*dg 4294967296 V i≤4294967295*4294967295:=Nat.mul_le_mul (by omega) (by omega)
 refine go ?_
 refine c_if (fun h6=>?_) (fun h6=>?_)
 ·have h7:=hdY i h6
  have h8:=hbs i
  have h9:=hds i
  have h10:=cySl_succ (W:=4294967296) (A:=V) (D:=g) (i:=i) (by omega)
  have h11:=hdn i
  have hmx:mxR j i Y Uj (i+j)=dg 4294967296 x i:=by rw [mxR_at rfl,hx _ (by omega),Nat.add_sub_cancel]
  obtain ⟨p,hp⟩:∃ p,g*dg 4294967296 V i+cySl 4294967296 V g i=p:=⟨_,rfl⟩
  rw [Nat.mul_comm (dg 4294967296 V i),Nat.add_comm (cySl 4294967296 V g i),hp] at h9 h10
  refine go ?_
  rw [hp]
  have hp9:p<18446744073709551616:=by omega
  refine r_shr (k:=.u64) p 32 rfl rfl (by decide) ?_
  rw [show (2:Nat) ^ 32=4294967296 by rfl,← h10]
  refine go ?_
  rw [hmx,wsub64 (show bwDif 4294967296 x G i≤18446744073709551616 by omega)]
  refine r_mask32 p rfl hp9 ?_
  rw [← h9]
  obtain ⟨T,hT⟩:∃ T,((dg 4294967296 x i+18446744073709551616 - bwDif 4294967296 x G i) % 18446744073709551616+18446744073709551616 - dg 4294967296 G i) % 18446744073709551616=T:=⟨_,rfl⟩
  have hT1:T % 4294967296=dg 4294967296 Y i:=by rw [h7];omega
  have hT2:T / 9223372036854775808=bwDif 4294967296 x G (i+1):=by rw [h8];split<;>omega
  have hT9:T<18446744073709551616:=by omega
  refine go ?_
  rw [wsub64 (show dg 4294967296 G i≤18446744073709551616 by omega),hT]
  refine go ?_
  refine r_shr (k:=.u64) T 63 rfl rfl (by decide) ?_
  rw [wrap32,hT1,show (2:Nat) ^ 63=9223372036854775808 by rfl,hT2]
  refine go ?_
  refine ⟨h6,?_⟩
  refine word_put 1058 (h:=mxR j i Y Uj) (mxR j (i+1) Y Uj) mxR_new.symm (fun e _ hne=>mxR_other hne) ?_
  exact sub
 ·obtain rfl:i=k+2:=by omega
  refine go ?_
  exact hQ _ _ sub

instance ti125:TI Tryz.prog 125 Tryz.t125 Tryz.t124.desc:=⟨by kernel_rfl,by kernel_rfl⟩
instance sz125:SZ Tryz.prog 125 2:=SZ.of ti125 rfl
instance zr125:ZR Tryz.prog 125 [.bool false,.slice none 0 0]:=ZR.of ti125 rfl rfl rfl
instance bt125:BT Tryz.prog 125 [(0,1),(1,1)] [.bool false,.slice none 0 0]:=BT.of (ns:=[1,1]) ti125 rfl zr125.zr ⟨sz4.sz,⟨sz23.sz,trivial⟩⟩ (by intro j;repeat (first | rfl | cases j with | zero=>rfl | succ j=>?_))
instance ft125_0:FT Tryz.prog 125 0 0:=FT.of ti125 rfl ti4 rfl rfl
instance ft125_1:FT Tryz.prog 125 1 1:=FT.of ti125 rfl ti23 rfl rfl
instance fv125_1:FV Tryz.prog 125 1 1 1 false:=FV.one ti125 rfl ti23 rfl rfl
instance fi27:FI Tryz.prog 27 Tryz.f27:=⟨Tryz.func27,Tryz.call27⟩
instance fi190:FI Tryz.prog 190 Tryz.f190:=⟨Tryz.func190,Tryz.call190⟩
instance fi288:FI Tryz.prog 288 Tryz.f288:=⟨Tryz.func288,Tryz.call288⟩
set_option maxHeartbeats 4000000
abbrev hU (o:Bool) (n A:Nat):D:=.fz o n 1 (fun j=>[.val (.int .u32 ((dg 65536 A j:Nat):Int))])
abbrev hF (o:Bool) (A:Nat):D:=hU o (nD 16 A) A
abbrev hBx (n A:Nat):Box:=.arr 22 n 1 (fun j=>[.val (.int .u32 ((dg 65536 A j:Nat):Int))])
abbrev nmF (o:Bool) (neg:Bool) (A:Nat):D:=.agg [.val (.bool neg),hF o A]
theorem r2Valid_den (neg:Bool) (s:ByteArray):Den Tryz.prog 27 [wS neg s] (.val (.bool (vldB neg s))):=by
 refine den_intro (fn:=Tryz.f27) rfl rfl rfl rfl rfl ?_
 refine go ?_
 rw [isEmpty_eq]
 refine c_if (fun h1=>?_) (fun h1=>?_)
 ·refine go ?_
  rw [show vldB neg s = !neg from if_pos h1]
  refine fin ?_
  exact cv
 ·rw [show vldB neg s=(decide (s.size≤256) && decide (byteAt s 0≠0)) by unfold vldB;rw [if_neg h1,Bool.and_comm]]
  refine go ?_
  refine g_callM (hl:=fun hb=>r_sidx s 0 rfl (by omega) (run_fin rfl)) (h:=?_)
  refine go ?_
  refine fin ?_
  exact cv
theorem r2trim_den (A n:Nat) (neg:Bool) (hA:A<65536 ^ n) (hn:n≤2147483647):Den Tryz.prog 190 [.agg [.val (.bool neg),hU true n A]] (nmF false (neg && decide (A≠0)) A):=by
 refine den_intro (fn:=Tryz.f190) rfl rfl rfl rfl rfl ?_
 refine go ?_
 refine c_down (fun m=>m) (fun m=>m≤n∧A<65536 ^ m) (fun m:Nat=>[(3,.val (.int .i64 (m:Int)))]) (fun _=>[]) n (fun m ⟨hm,hF⟩=>?_) ⟨Nat.le_refl _,hA⟩
 rcases Nat.eq_zero_or_pos m with h0 | h0
 ·subst h0
  obtain rfl:A=0:=by simpa using hF
  refine go ?_
  refine r_bsl0 1 (fun _=>[.val (.int .u32 0)]) ?_
  refine go ?_
  rw [show (neg && decide ((0:Nat)≠0))=false by simp]
  rw [decide_eq_false (show ¬ (0:Nat)<0 by omega),Bool.and_false]
  refine fin_arr 1031 (fun j=>[.val (.int .u32 ((dg 65536 0 j:Nat):Int))]) (fun e he=>absurd he (Nat.not_lt_zero _)) (fun _=>rfl) ?_
  refine fin_freeze 1031 ?_
  refine fin ?_
  exact cv
 ·refine go ?_
  refine c_ifB (fun h1=>?_) (fun h1=>?_)
  ·have h1:dg 65536 A (m - 1)=0:=by simpa [h0] using h1
   refine go ?_
   refine ⟨m - 1,⟨by omega,lt_of_top (by omega) (by rw [Nat.sub_add_cancel h0];exact hF) h1⟩,by omega,?_⟩
   exact sub
  ·have h1:dg 65536 A (m - 1)≠0:=by simpa [h0] using h1
   have hm2:nD 16 A=m:=by
    obtain ⟨m',rfl⟩:∃ m',m=m'+1:=⟨m - 1,by omega⟩
    exact nh_top hF h1
   have hA0:A≠0:=fun e=>by subst e;simp [dg] at h1
   subst hm2
   rw [decide_eq_true hA0,Bool.and_true]
   refine go ?_
   refine r_bsl0 1 (fun _=>[.val (.int .u32 0)]) ?_
   refine go ?_
   rw [decide_eq_true h0,Bool.and_true,show 0+(nD 16 A - 0)=nD 16 A by omega]
   refine fin_arr 1031 (fun j=>[.val (.int .u32 ((dg 65536 A j:Nat):Int))]) (fun e he=>?_) (fun _=>rfl) ?_
   ·rw [appF_ge (Nat.zero_le _),Nat.sub_zero,Nat.zero_add]
   refine fin_freeze 1031 ?_
   refine fin ?_
   exact cv
theorem r2word_den (n:Nat) (hn:n<4294967296):Den Tryz.prog 288 [.val (.int .u32 (n:Int))] (nmF false false n):=by
 refine den_intro (fn:=Tryz.f288) rfl rfl rfl rfl rfl ?_
 have hn2:n<65536 ^ 2:=by simpa using hn
 have e0:=(dg2 (W:=65536) (n:=n) (by omega)).1
 have e1:=(dg2 (W:=65536) (n:=n) (by omega)).2 hn2
 refine goc ?_
 refine c_reg ?_
 refine go1 ?_
 refine c_end (by kernel_rfl) ?_
 refine goc ?_
 refine c_reg ?_
 refine go1 ?_
 refine go1 ?_
 refine go1 ?_
 refine go1 ?_
 refine r_bslF (fun j=>[.val (.int .u32 ((dg 65536 n j:Nat):Int))]) ?_ (hf:=?_)
 ·refine r_eqS 7 (hU false 2 n) rfl ?_
  refine go ?_
  refine r_call (r2trim_den n 2 false hn2 (by omega)) ?_
  refine go ?_
  refine fin ?_
  exact cv
 ·intro e he
  obtain rfl | rfl:e=0∨e=1:=by omega
  ·rw [e0];exact ⟨rfl,fun c hc=>by obtain rfl:c=0:=Nat.lt_one_iff.1 hc;rfl⟩
  ·rw [e1];exact ⟨rfl,fun c hc=>by obtain rfl:c=0:=Nat.lt_one_iff.1 hc;rfl⟩

instance fi192:FI Tryz.prog 192 Tryz.f192:=⟨Tryz.func192,Tryz.call192⟩
instance fi191:FI Tryz.prog 191 Tryz.f191:=⟨Tryz.func191,Tryz.call191⟩
instance fi193:FI Tryz.prog 193 Tryz.f193:=⟨Tryz.func193,Tryz.call193⟩
theorem r2order_den (A B:Nat) (hA:nD 16 A≤4000) (hB:nD 16 B≤4000):Den Tryz.prog 192 [hF true A,hF true B] (.val (.int .i64 (cmpN A B))):=by
 have hlA:=nh_lt (A:=A)
 have hlB:=nh_lt (A:=B)
 refine den_intro (fn:=Tryz.f192) rfl rfl rfl rfl rfl ?_
 refine go ?_
 refine c_if (fun h3=>?_) (fun h3=>?_)
 ·refine go ?_
  refine c_if (fun h4=>?_) (fun h4=>?_)
  ·refine go ?_
   have:A<B:=lt_of_nD (k:=16) (by omega) h4
   unfold cmpN
   rw [if_pos this]
   refine fin ?_
   exact cv
  ·refine go ?_
   have:B<A:=lt_of_nD (k:=16) (by omega) (by omega)
   unfold cmpN
   rw [if_neg (by omega),if_pos this]
   refine fin ?_
   exact cv
 have h3:nD 16 A=nD 16 B:=by omega
 rw [← h3] at hlB
 obtain ⟨n,hn⟩:∃ n,nD 16 A=n:=⟨_,rfl⟩
 have hn':nD 16 B=n:=by omega
 refine go ?_
 rw [hn,hn']
 rw [hn] at hlA hlB
 refine c_down (fun i=>i) (fun i=>i≤n∧A / 65536 ^ i=B / 65536 ^ i) (fun i:Nat=>[(5,.val (.int .i64 ((i:Int) - 1)))]) (fun _=>[]) n (fun i ⟨hi,he⟩=>?_) ⟨Nat.le_refl _,by rw [Nat.div_eq_of_lt hlA,Nat.div_eq_of_lt hlB]⟩
 rcases Nat.eq_zero_or_pos i with h0 | h0
 ·subst h0
  refine go ?_
  rw [Nat.pow_zero,Nat.div_one,Nat.div_one] at he
  subst he
  unfold cmpN
  rw [if_neg (Nat.lt_irrefl _),if_neg (Nat.lt_irrefl _)]
  refine fin ?_
  exact cv
 ·obtain ⟨j,rfl⟩:∃ j,i=j+1:=⟨i - 1,by omega⟩
  rw [show ((j+1:Nat):Int) - 1=(j:Int) by omega]
  refine go ?_
  refine c_if (fun h5=>?_) (fun h5=>?_)
  ·refine go ?_
   refine c_if (fun h6=>?_) (fun h6=>?_)
   ·have:=top_lt (W:=65536) (by omega) he h6
    unfold cmpN
    rw [if_pos this]
    refine go ?_
    refine fin ?_
    exact cv
   ·have:=top_lt (W:=65536) (by omega) he.symm (by omega)
    unfold cmpN
    rw [if_neg (by omega),if_pos this]
    refine go ?_
    refine fin ?_
    exact cv
  ·refine go ?_
   refine ⟨j,⟨by omega,top_eq (W:=65536) he (by omega)⟩,by omega,?_⟩
   exact sub
theorem plus_cond {A B i:Nat}:(i<nD 16 A∨i<nD 16 B∨0<cySum 65536 A B i)↔i<nD 16 (A+B):=by
 have hlA:=nh_lt (A:=A)
 have hlB:=nh_lt (A:=B)
 have hlS:=nh_lt (A:=A+B)
 have hA:nD 16 A≤nD 16 (A+B):=nh_le (by omega)
 have hB:nD 16 B≤nD 16 (A+B):=nh_le (by omega)
 by_cases q:i<nD 16 A∨i<nD 16 B
 ·constructor
  ·intro _;omega
  ·intro _;omega
 ·have e:cySum 65536 A B i=(A+B) / 65536 ^ i:=by
   unfold cySum
   rw [lo_all (powh (by omega)),lo_all (powh (by omega))]
  rw [e]
  constructor
  ·intro h
   have h:0<(A+B) / 65536 ^ i:=by omega
   apply Nat.lt_of_not_le
   intro h2
   have h3:A+B<65536 ^ i:=powh h2
   rw [Nat.div_eq_of_lt h3] at h
   omega
  ·intro h
   refine .inr (.inr ?_)
   apply Nat.pos_of_ne_zero
   intro h2
   have h3:A+B<65536 ^ i:=by
    rcases Nat.div_eq_zero_iff.1 h2 with h4 | h4
    ·have:=Nat.pow_pos (n:=i) (show 0<65536 by omega);omega
    ·exact h4
   have:=nh_le h3
   omega
theorem r2plus_den (A B:Nat) (hA:nD 16 A≤4000) (hB:nD 16 B≤4000):Den Tryz.prog 191 [hF true A,hF true B] (hF false (A+B)):=by
 have hlA:=nh_lt (A:=A)
 have hlB:=nh_lt (A:=B)
 have hcond:∀ i,(i<nD 16 A∨i<nD 16 B∨0<cySum 65536 A B i)↔i<nD 16 (A+B):=fun i=>plus_cond
 have hn4:nD 16 (A+B)≤4001:=by
  obtain ⟨N,hN⟩:∃ N,N=4000:=⟨_,rfl⟩
  rw [← hN] at hA hB
  rw [show 4001=N+1 by omega]
  apply nh_le
  have h1:A<65536 ^ N:=powh hA
  have h2:B<65536 ^ N:=powh hB
  rw [Nat.pow_succ];omega
 have h0:=cySum_zero (W:=65536) (A:=A) (B:=B)
 rw [show hF false (A+B)=hU false (nD 16 (A+B)) (A+B) from rfl]
 refine den_intro (fn:=Tryz.f191) rfl rfl rfl rfl rfl ?_
 obtain ⟨n,hn⟩:∃ n,nD 16 (A+B)=n:=⟨_,rfl⟩
 obtain ⟨S,hS⟩:∃ S,A+B=S:=⟨_,rfl⟩
 rw [hn] at hcond hn4 ⊢
 rw [hS]
 refine go ?_
 refine c_nil 5 1900 22 1 (fun j=>[.val (.int .u32 ((dg 65536 S j:Nat):Int))]) ?_
 refine c_up n (fun i=>[(5,.sl 1900 1 i),(7,.val (.int .i64 (i:Nat))),(6,.val (.int .u32 ((cySum 65536 A B i:Nat):Int)))]) (fun i=>[(1900,some (hBx i S))]) (fun i hi=>?_)
 have h1:=cySum_le (W:=65536) (A:=A) (B:=B) (i:=i) (by omega)
 have h2:=dgh (A:=A) (i:=i)
 have h3:=dgh (A:=B) (i:=i)
 have h4:=dg_sum (W:=65536) (A:=A) (B:=B) (i:=i) (by omega)
 have h5:=cySum_succ (W:=65536) (A:=A) (B:=B) (i:=i) (by omega)
 rw [hS] at h4
 have hc:=hcond i
 refine go ?_
 refine c_ifB (fun h6=>?_) (fun h6=>?_)
 ·have h7:i<n:=hc.1 (by simpa [or_assoc] using h6)
  refine go ?_
  refine c_cut0 [(6,.val (.int .u32 ((cySum 65536 A B i+dg 65536 A i:Nat):Int)))] ?_ ?_
  ·refine c_if (fun h8=>?_) (fun h8=>?_)
   ·refine go ?_
    exact sub
   ·have h9:dg 65536 A i=0:=dg_beyond' (by omega) hlA (by omega)
    rw [h9]
    refine go ?_
    exact sub
  refine go ?_
  refine c_cut0 [(6,.val (.int .u32 ((cySum 65536 A B i+dg 65536 A i+dg 65536 B i:Nat):Int)))] ?_ ?_
  ·refine c_if (fun h8=>?_) (fun h8=>?_)
   ·refine go ?_
    exact sub
   ·have h9:dg 65536 B i=0:=dg_beyond' (by omega) hlB (by omega)
    rw [h9]
    refine go ?_
    exact sub
  refine go ?_
  rw [← h4,← h5]
  refine ⟨h7,?_⟩
  refine sub_arr 1048 (fun j=>[.val (.int .u32 ((dg 65536 S j:Nat):Int))]) (appF_snoc rfl) (fun _=>rfl) ?_
  refine sub_toL [44] 1048 1900 ?_
  exact sub
 ·have h7:¬ i<n:=fun q=>by have:=hc.2 q;simp at h6;omega
  obtain rfl:i=n:=by omega
  refine go ?_
  refine fin_freeze 1900 ?_
  refine fin ?_
  exact cv
theorem r2minus_den (A B:Nat) (hA:nD 16 A≤4000) (hBA:B≤A):Den Tryz.prog 193 [hF true A,hF true B] (hU false (nD 16 A) (A - B)):=by
 have hlA:=nh_lt (A:=A)
 have hlB:=nh_lt (A:=B)
 have hnB:nD 16 B≤nD 16 A:=nh_le (by omega)
 have h0:=bwDif_zero (W:=65536) (A:=A) (B:=B)
 refine den_intro (fn:=Tryz.f193) rfl rfl rfl rfl rfl ?_
 obtain ⟨n,hn⟩:∃ n,nD 16 A=n:=⟨_,rfl⟩
 obtain ⟨S,hS⟩:∃ S,A - B=S:=⟨_,rfl⟩
 rw [hn] at hnB ⊢
 rw [hS]
 refine go ?_
 refine c_nil 5 1900 22 1 (fun j=>[.val (.int .u32 ((dg 65536 S j:Nat):Int))]) ?_
 refine c_up n (fun i=>[(5,.sl 1900 1 i),(7,.val (.int .i64 (i:Nat))),(6,.val (.int .u32 ((bwDif 65536 A B i:Nat):Int)))]) (fun i=>[(1900,some (hBx i S))]) (fun i hi=>?_)
 have h1:=bwDif_le (W:=65536) (A:=A) (B:=B) (i:=i)
 have h2:=dgh (A:=A) (i:=i)
 have h3:=dgh (A:=B) (i:=i)
 have h4:=dg_dif (W:=65536) (A:=A) (B:=B) (i:=i) (by omega) hBA
 have h5:=bwDif_succ (W:=65536) (A:=A) (B:=B) (i:=i) (by omega)
 rw [hS] at h4
 refine go ?_
 rw [hn]
 refine c_if (fun h6=>?_) (fun h6=>?_)
 ·refine go ?_
  refine c_cut0 [(8,.val (.int .u32 ((bwDif 65536 A B i+dg 65536 B i:Nat):Int)))] ?_ ?_
  ·refine c_if (fun h8=>?_) (fun h8=>?_)
   ·refine go ?_
    exact sub
   ·have h9:dg 65536 B i=0:=dg_beyond' (by omega) hlB (by omega)
    rw [h9]
    refine go ?_
    exact sub
  refine go ?_
  obtain ⟨y,hy⟩:∃ y,(if dg 65536 A i<dg 65536 B i+bwDif 65536 A B i then dg 65536 A i+65536 else dg 65536 A i)=y:=⟨_,rfl⟩
  refine c_cut0 [(9,.val (.int .u32 ((y:Nat):Int))),(6,.val (.int .u32 ((bwDif 65536 A B (i+1):Nat):Int)))] ?_ ?_
  ·refine c_if (fun h8=>?_) (fun h8=>?_)
   ·rw [if_pos (by omega)] at h5 hy
    rw [h5,← hy]
    refine go ?_
    exact sub
   ·rw [if_neg (by omega)] at h5 hy
    rw [h5,← hy]
    refine go ?_
    exact sub
  have h7:y - (bwDif 65536 A B i+dg 65536 B i)=dg 65536 S i:=by rw [h4,← hy];split<;>omega
  have h8:bwDif 65536 A B i+dg 65536 B i≤y:=by rw [← hy];split<;>omega
  have h9:y<131072:=by rw [← hy];split<;>omega
  refine go ?_
  rw [h7]
  refine ⟨h6,?_⟩
  refine sub_arr 1041 (fun j=>[.val (.int .u32 ((dg 65536 S j:Nat):Int))]) (appF_snoc rfl) (fun _=>rfl) ?_
  refine sub_toL [36] 1041 1900 ?_
  exact sub
 ·obtain rfl:i=n:=by omega
  refine go ?_
  refine fin_freeze 1900 ?_
  refine fin ?_
  exact cv

instance fi107:FI Tryz.prog 107 Tryz.f107:=⟨Tryz.func107,Tryz.call107⟩
abbrev bB (n:Nat) (g:Nat→Nat):Box:=.arr 5 n 1 (fun j=>[.val (.int .u8 ((g j:Nat):Int))])
theorem r2out_den (A n:Nat) (neg:Bool) (hA:A<65536 ^ n) (hn:n≤2000):Den Tryz.prog 107 [.agg [.val (.bool neg),hU true n A]] (resN neg A):=by
 have hnw:=nh_le hA
 have hW:=nh_nb (A:=A)
 have hwB:∀ i,dg 65536 A i=dg 256 A (2*i)+256*dg 256 A (2*i+1):=fun i=>dgh_two
 have hdb:∀ i,dg 256 A i<256:=fun i=>dgb
 have hzB:∀ i,nD 8 A≤i→dg 256 A i=0:=fun i hi=>dg_beyond' (by omega) nb_lt hi
 have hdw:∀ i,dg 65536 A i<65536:=fun i=>dgh
 have htop:A≠0→dg 256 A (nD 8 A - 1)≠0:=fun h=>by simpa using dg_top (k:=8) (A:=A) (by omega) h
 have hso:strN A=strOf (nD 8 A) (fun i=>dg 256 A (nD 8 A - 1 - i)):=rfl
 have hL0:nD 8 A≠0→A≠0:=fun h e=>h (by rw [e];rfl)
 unfold resN wN
 refine den_intro (fn:=Tryz.f107) rfl rfl rfl rfl rfl ?_
 obtain ⟨m,hm⟩:∃ m,nD 16 A=m:=⟨_,rfl⟩
 obtain ⟨L,hL⟩:∃ L,nD 8 A=L:=⟨_,rfl⟩
 rw [hm] at hnw hW
 rw [hL] at hW hzB htop hso hL0
 rw [hL,hso]
 refine go ?_
 refine r_call (r2trim_den A n neg hA (by omega)) ?_
 refine go ?_
 rw [hm]
 refine c_nil 4 1900 5 1 (fun j=>[.val (.int .u8 ((dg 256 A (L - 1 - j):Nat):Int))]) ?_
 refine c_down (fun i=>i) (fun i=>i≤m) (fun i:Nat=>[(5,.val (.int .i64 ((i:Int) - 1))),(4,.sl 1900 1 (L - 2*i))]) (fun i=>[(1900,some (bB (L - 2*i) (fun j=>dg 256 A (L - 1 - j))))]) m (fun i hi=>?_) (Nat.le_refl _) (h0:=?h0)
 case h0=>
  rw [show L - 2*m=0 by omega]
  exact sub
 rcases Nat.eq_zero_or_pos i with i0 | i0
 ·subst i0
  refine go ?_
  rw [Nat.mul_zero,Nat.sub_zero]
  refine c_if (fun h4=>?_) (fun h4=>?_)
  ·rw [if_neg (by omega)]
   refine go ?_
   refine fin ?_
   exact cv
  ·rw [if_pos (by omega)]
   refine go ?_
   refine r_cstr 1900 (Nat.le_refl _) ?_
   refine go ?_
   refine fin ?_
   exact cv
 ·obtain ⟨j,rfl⟩:∃ j,i=j+1:=⟨i - 1,by omega⟩
  rw [show ((j+1:Nat):Int) - 1=(j:Int) by omega]
  have hw:=hwB j
  have hd0:=hdb (2*j)
  have hd1:=hdb (2*j+1)
  have hwl:=hdw j
  have hz1:L≤2*j+1→dg 256 A (2*j+1)=0:=fun h=>hzB _ h
  have hbig:2*j+2≤L→¬ (256≤dg 65536 A j∨0<L - 2*(j+1))→False:=fun h q=>by
   have h1:=htop (hL0 (by omega))
   rw [show L - 1=2*j+1 by omega] at h1
   omega
  refine go ?_
  refine c_less [16,17,18,19,20,21,22,23,24,25] ?_
  refine c_cutB [(4,.sl 1900 1 (L - 2*j - 1))] [(1900,some (bB (L - 2*j - 1) (fun j=>dg 256 A (L - 1 - j))))] ?_ ?_
  ·refine c_ifB (fun h5=>?_) (fun h5=>?_)
   ·have hlt:2*j+2≤L:=by
     simp only [Bool.or_eq_true,decide_eq_true_eq] at h5
     rcases Nat.lt_or_ge (2*j+1) L with q | q
     ·omega
     ·have:=hz1 q
      omega
    have e1:dg 65536 A j / 256=dg 256 A (L - 1 - (L - 2*(j+1))):=by rw [hw,show L - 1 - (L - 2*(j+1))=2*j+1 by omega];omega
    refine go ?_
    rw [e1,show L - 2*j - 1=L - 2*(j+1)+1 by omega]
    refine sub_arr 1036 (fun j=>[.val (.int .u8 ((dg 256 A (L - 1 - j):Nat):Int))]) (appF_snoc rfl) (fun _=>rfl) ?_
    refine sub_toL [27] 1036 1900 ?_
    exact sub
   ·have hle:L - 2*j - 1=L - 2*(j+1):=by
     rcases Nat.lt_or_ge (2*j+1) L with q | q
     ·exact (hbig (by omega) (by simpa using h5)).elim
     ·omega
    rw [hle]
    refine go ?_
    exact sub
  ·have e2:dg 65536 A j % 256=dg 256 A (L - 1 - (L - 2*j - 1)):=by
    have:2*j<L:=by omega
    rw [hw,show L - 1 - (L - 2*j - 1)=2*j by omega];omega
   have e3:L - 2*j=L - 2*j - 1+1:=by omega
   refine go ?_
   rw [e2]
   refine ⟨j,by omega,by omega,?_⟩
   rw [e3]
   refine sub_arr 1046 (fun j=>[.val (.int .u8 ((dg 256 A (L - 1 - j):Nat):Int))]) (appF_snoc rfl) (fun _=>rfl) ?_
   refine sub_toL [37] 1046 1900 ?_
   exact sub

instance fi110:FI Tryz.prog 110 Tryz.f110:=⟨Tryz.func110,Tryz.call110⟩
theorem r2in_den (neg:Bool) (A:Nat) (hA:nD 8 A≤256):Den Tryz.prog 110 [wN neg A] (nmF false neg A):=by
 have hnL:=nh_nb (A:=A)
 have hb:∀ i,i<nD 8 A→byteAt (strN A) i=dg 256 A (nD 8 A - 1 - i):=fun i hi=>strN_byte hi
 have hs:(strN A).size=nD 8 A:=strN_size
 have hz:∀ i,nD 8 A≤i→dg 256 A i=0:=fun i hi=>dg_beyond' (by omega) nb_lt hi
 have h2:∀ i,dg 65536 A i=dg 256 A (2*i)+256*dg 256 A (2*i+1):=fun i=>dgh_two
 have hdb:∀ i,dg 256 A i<256:=fun i=>dgb
 obtain ⟨n,hn⟩:∃ n,nD 16 A=n:=⟨_,rfl⟩
 obtain ⟨L,hL⟩:∃ L,nD 8 A=L:=⟨_,rfl⟩
 obtain ⟨s,hS⟩:∃ s,strN A=s:=⟨_,rfl⟩
 rw [hn] at hnL
 rw [show nmF false neg A = .agg [.val (.bool neg),hU false (nD 16 A) A] from rfl,hn,show wN neg A=wS neg (strN A) from rfl,hS]
 rw [hL] at hA hnL hb hs hz
 rw [hS] at hb hs
 refine den_intro (fn:=Tryz.f110) rfl rfl rfl rfl rfl ?_
 refine go ?_
 rw [hs]
 refine c_eq 4 (.val (.int .i64 ((L:Int) - 1 - 2*((0:Nat):Int)))) ?e4 ?_
 case e4=>simp
 refine c_nilcell 1003 1 1900 22 1 (fun j=>[.val (.int .u32 ((dg 65536 A j:Nat):Int))]) ?_
 refine c_up n (fun t=>[(4,.val (.int .i64 ((L:Int) - 1 - 2*((t:Nat):Int))))]) (fun t=>[(1003,some (.lit 125 [.val (.bool neg),.sl 1900 1 t])),(1900,some (hBx t A))]) (fun t ht=>?_)
 by_cases q:t<n
 ·obtain ⟨k,hk⟩:∃ k,L - 1 - 2*t=k:=⟨_,rfl⟩
  have hk2:(L:Int) - 1 - 2*((t:Nat):Int)=(k:Int):=by omega
  have hb1:=hb k (by omega)
  rw [show L - 1 - k=2*t by omega] at hb1
  have hd0:=hdb (2*t)
  have hd1:=hdb (2*t+1)
  refine go ?_
  refine r_eqS 19 (.val (.int .i64 (k:Int))) (d:=.val (.int .i64 ((L:Int) - 1 - 2*((t:Nat):Int)))) (by rw [hk2]) ?_
  refine r_sidx s k rfl (by omega) ?_
  refine go ?_
  refine c_cut0 [(5,.val (.int .u32 ((dg 65536 A t:Nat):Int)))] ?_ ?_
  ·refine c_if (fun h5=>?_) (fun h5=>?_)
   ·have hb2:=hb (k - 1) (by omega)
    rw [show L - 1 - (k - 1)=2*t+1 by omega] at hb2
    have e1:byteAt s k+256*byteAt s (k - 1)=dg 65536 A t:=by rw [h2,hb1,hb2]
    have e2:byteAt s (k - 1)<256:=by rw [hb2];exact hd1
    have e3:byteAt s k<256:=by rw [hb1];exact hd0
    refine go ?_
    refine r_sidx s (k - 1) rfl (by omega) ?_
    refine go ?_
    rw [e1]
    exact sub
   ·have hz1:=hz (2*t+1) (by omega)
    have e1:byteAt s k=dg 65536 A t:=by rw [h2,hz1,hb1];omega
    rw [e1]
    refine go ?_
    exact sub
  ·refine go ?_
   refine ⟨q,?_⟩
   refine sub_arr 1037 (fun j=>[.val (.int .u32 ((dg 65536 A j:Nat):Int))]) (appF_snoc rfl) (fun _=>rfl) ?_
   refine sub_toL [34] 1037 1900 ?_
   exact sub
 ·obtain rfl:t=n:=by omega
  refine go ?_

  refine fin_freeze 1900 ?_
  refine fin ?_
  exact cv

set_option maxHeartbeats 20000000
def bkD (j i:Nat) (d f:Nat→Nat) (e:Nat):Nat:=if j≤e∧e<j+i then d (e - j) else f e
theorem bkD_zero {j e:Nat} {d f:Nat→Nat}:bkD j 0 d f e=f e:=if_neg (by omega)
theorem bkD_at {j i e:Nat} {d f:Nat→Nat} (h:e=i+j):bkD j i d f e=f e:=if_neg (by omega)
theorem bkD_new {j i:Nat} {d f:Nat→Nat}:bkD j (i+1) d f (i+j)=d i:=by
 unfold bkD
 rw [if_pos (by omega),show i+j - j=i by omega]
theorem bkD_other {j i e:Nat} {d f:Nat→Nat} (h:e≠i+j):bkD j (i+1) d f e=bkD j i d f e:=by
 unfold bkD
 by_cases q:j≤e∧e<j+i
 ·rw [if_pos q,if_pos (by omega)]
 ·rw [if_neg q,if_neg (by omega)]
theorem dv_badd (k j la N m s V g1:Nat) (h cy dS r0:Nat→Nat) (hcz:cy 0=0) (hcl:∀ i,cy i≤1) (hr:∀ i,i<k+2→r0 (i+j)<4294967296) (hS:∀ i,i<k+2→(cy i+(r0 (i+j)+dg 4294967296 V i)) % 4294967296=dS i) (hC:∀ i,i<k+2→(cy i+(r0 (i+j)+dg 4294967296 V i)) / 4294967296=cy (i+1)) (hla:j+(k+2)<la) (hN:la≤N) (hN9:N≤1000) {Q:Post}
  (hQ:∀ E H,Sub E H (lk ((17,u64D (cy (k+2)))::(15,u64D g1)::dvE k j la m s V)) (hk (dvB N m (bkD j (k+2) dS r0) h))→Q .normal E H) :
  AWp none Tryz.prog Tryz.f285.ntmps (fPath Tryz.f285 [1,1,1,1,1,1,1,1,0,1,0,0,1,0,0,0,1,1,1,1,1,1,1,1,0,1,0,1,1,0]) (lk ((17,u64D 0)::(15,u64D g1)::dvE k j la m s V)) (hk (dvB N m r0 h)) Q:=by
 conv=>arg 4;whnf
 refine go ?_
 refine c_word (n:=N) 1058 (bkD j 0 dS r0) (fun e he=>bkD_zero.symm) ?_
 refine c_up (k+2) (fun i=>[(209,i64D i),(17,u64D (cy i))]) (fun i=>[(1058,some (rowB N (bkD j i dS r0)))]) (fun i hi=>?_)
 have h1:=hcl i
 have h3:=dgw (A:=V) (i:=i)
 refine go ?_
 refine c_if (fun h6=>?_) (fun h6=>?_)
 ·have h2:=hr i h6
  have h4:=hS i h6
  have h5:=hC i h6
  have hbk:bkD j i dS r0 (i+j)=r0 (i+j):=bkD_at rfl
  have hb2:bkD j i dS r0 (i+j)<4294967296:=by rw [hbk];exact h2
  refine go ?_
  rw [hbk]
  have hTt:cy i+(r0 (i+j)+dg 4294967296 V i)<18446744073709551616:=by omega
  generalize cy i+(r0 (i+j)+dg 4294967296 V i)=Tt at h4 h5 hTt ⊢
  refine r_shr (k:=.u64) Tt 32 rfl rfl (by decide) ?_
  rw [wrap32,h4,show (2:Nat) ^ 32=4294967296 by rfl,h5]
  refine go ?_
  refine ⟨h6,?_⟩
  refine word_put 1058 (h:=bkD j i dS r0) (bkD j (i+1) dS r0) bkD_new.symm (fun e _ hne=>bkD_other hne) ?_
  exact sub
 ·obtain rfl:i=k+2:=by omega
  refine go ?_
  exact hQ _ _ sub

theorem mxR_in {j i Y Uj e:Nat} (h:e<i):mxR j i Y Uj (e+j)=dg 4294967296 Y e:=by
 unfold mxR
 rw [if_pos (by omega),Nat.add_sub_cancel]
theorem mxR_pow {j n Y Z Uj e:Nat} (h:Y=Z+4294967296 ^ n):mxR j n Y Uj e=mxR j n Z Uj e:=by
 unfold mxR
 split
 ·rw [h,dg_add_pow (by omega)]
 ·rfl
theorem bkD_pow {j n Y Z W Uj e:Nat} {d r:Nat→Nat} (h:Z=W+4294967296 ^ n) (hd:∀ i,i<n→d i=dg 4294967296 Z i) (hr:∀ e,r e=mxR j n Y Uj e):bkD j n d r e=mxR j n W Uj e:=by
 unfold bkD
 split
 ·rename_i q
  rw [hd _ (by omega),h,dg_add_pow (by omega)]
  unfold mxR
  rw [if_pos q]
 ·rename_i q
  rw [hr]
  unfold mxR
  rw [if_neg q,if_neg q]
section
variable {E2:Nat→D} {H2:Nat→Option Box} {env:List (Nat × D)} {box:List (Nat × Option Box)}
theorem word_conv (k:Nat) {n:Nat} {h:Nat→Nat} (h':Nat→Nat) (he:∀ e,e<n→h e=h' e) (g:Sub (lk env) (hk ((k,some (rowB n h'))::box)) E2 H2) (hb:autoParam (Bl box k (rowB n h)) aq5._auto_1):Sub (lk env) (hk box) E2 H2:=sub_arr k (t:=22) (n:=n) (m:=1) (f:=fun e=>[.val (.int .u32 ((h e:Nat):Int))]) (fun e=>[.val (.int .u32 ((h' e:Nat):Int))]) (fun e q=>by rw [he e q]) (fun _=>rfl) g hb
end
theorem dv_back (k j la N m s V Uj x g T:Nat) (h:Nat→Nat) (hV:V<4294967296 ^ (k+2)) (hV0:0<V) (hx3:x<4294967296 ^ (k+3)) (hq1:x / V≤g) (hq2:g≤x / V+1) (hT:T / 9223372036854775808=if x<V*g then 1 else 0) (hT2:T<18446744073709551616) (hla:j+(k+2)<la) (hN:la≤N) (hN9:N≤1000) (hg9:g<4294967296) {Q:Post}
  (hQ:∀ E H,Sub E H (lk ((15,u64D (x / V))::dvE k j la m s V)) (hk (dvB N m (mxR j (k+3) (x % V) Uj) h))→Q .normal E H) :
  AWp none Tryz.prog Tryz.f285.ntmps (fPath Tryz.f285 [1,1,1,1,1,1,1,1,0,1,0,0,1,0,0,0,1,1,1,1,1,1,1,1,0]) (lk ((22,u64D T)::(15,u64D g)::dvE k j la m s V)) (hk (dvB N m (mxR j (k+3) (x+4294967296 ^ (k+3) - V*g) Uj) h)) Q:=by
 conv=>arg 4;whnf
 have hm:V*(x / V)+x % V=x:=Nat.div_add_mod x V
 by_cases hlt:x<V*g
 ·rw [if_pos hlt] at hT
  have hgq:g=x / V+1:=by
   rcases Nat.lt_or_ge g (x / V+1) with q | q
   ·have:g=x / V:=Nat.le_antisymm (Nat.lt_succ_iff.1 q) hq1
    rw [this] at hlt
    exact absurd hlt (Nat.not_lt.2 (Nat.mul_div_le x V))
   ·exact Nat.le_antisymm hq2 q
  have hg1:g - 1=x / V:=by rw [hgq,Nat.add_sub_cancel]
  have hg0:1≤g:=by rw [hgq];exact Nat.succ_le_succ (Nat.zero_le _)
  have hY1:x+4294967296 ^ (k+3) - V*g+V=x % V+4294967296 ^ (k+3):=by
   rw [hgq,Nat.mul_add,Nat.mul_one] at hlt ⊢
   have hVp:V≤4294967296 ^ (k+3):=Nat.le_trans (Nat.le_of_lt hV) (Nat.pow_le_pow_right (by omega) (by omega))
   generalize V*(x / V)=M at hm hlt ⊢
   generalize x % V=R at hm ⊢
   omega
  clear hm hlt hgq hq1 hq2
  generalize x+4294967296 ^ (k+3) - V*g=Y at hY1 hQ ⊢
  have hVk:dg 4294967296 V (k+2)=0:=dg_beyond hV
  obtain ⟨cy,hcy⟩:∃ cy:Nat→Nat,∀ i,cySum 4294967296 Y V i=cy i:=⟨_,fun _=>rfl⟩
  obtain ⟨dS,hdS⟩:∃ dS:Nat→Nat,∀ i,dg 4294967296 (Y+V) i=dS i:=⟨_,fun _=>rfl⟩
  obtain ⟨r0,hr0⟩:∃ r0:Nat→Nat,mxR j (k+3) Y Uj=r0:=⟨_,rfl⟩
  have hri:∀ i,i<k+3→r0 (i+j)=dg 4294967296 Y i:=fun i hi=>by rw [← hr0,mxR_in hi]
  have c0:cy 0=0:=by rw [← hcy];exact cySum_zero
  have c1:∀ i,cy i≤1:=fun i=>by rw [← hcy];exact cySum_le (by omega)
  have c2:∀ i,i<k+3→r0 (i+j)<4294967296:=fun i hi=>by rw [hri i hi];exact dgw
  have c3:∀ i,i<k+3→(cy i+(r0 (i+j)+dg 4294967296 V i)) % 4294967296=dS i:=fun i hi=>by rw [hri i hi,← hcy,← hdS,dg_sum (by omega),Nat.add_assoc]
  have c4:∀ i,i<k+2→(cy i+(r0 (i+j)+dg 4294967296 V i)) / 4294967296=cy (i+1):=fun i hi=>by rw [hri i (by omega),← hcy,← hcy,cySum_succ (by omega),Nat.add_assoc]
  have c5:=c3 (k+2) (by omega)
  simp only [hVk,Nat.add_zero] at c5
  have hend:∀ e,bkD j (k+3) dS r0 e=mxR j (k+3) (x % V) Uj e:=fun e=>bkD_pow hY1 (fun i _=>(hdS i).symm) (fun e=>by rw [hr0])
  have c6:=c1 (k+2)
  have c7:=c2 (k+2) (by omega)
  rw [hr0]
  clear hdS hcy hri hr0 hV hx3 hY1 hVk
  refine go ?_
  refine r_shr (k:=.u64) T 63 rfl rfl (by decide) ?_
  rw [show (2:Nat) ^ 63=9223372036854775808 by rfl,hT]
  refine gor ?_
  refine goc ?_
  refine c_yes ?_
  refine c_sreg ?_
  refine gor ?_
  refine c_sreg ?_
  refine gor ?_
  refine c_seq (awp_sub ?s (dv_badd k j la N m s V (g - 1) h cy dS r0 c0 c1 (fun i hi=>c2 i (by omega)) (fun i hi=>c3 i (by omega)) c4 hla hN hN9 (fun E H hs=>?_)))
  case s=>exact sub
  rw [hg1] at hs
  refine awp_sub hs ?_
  have hbk2:bkD j (k+2) dS r0 (j+(k+2))=r0 (k+2+j):=by rw [bkD_at (Nat.add_comm _ _),Nat.add_comm j]
  refine go ?_
  rw [hbk2,← Int.natCast_add,wrap32,Nat.add_comm (r0 (k+2+j)),c5]
  refine hQ _ _ ?_
  refine word_put (j:=j+(k+2)) (v:=dS (k+2)) 1058 (h:=bkD j (k+2) dS r0) (bkD j (k+3) dS r0) (by rw [Nat.add_comm j];exact bkD_new.symm) (fun e _ hne=>bkD_other (i:=k+2) (by omega)) ?_
  refine word_conv 1058 (mxR j (k+3) (x % V) Uj) (fun e he=>hend e) ?_
  exact sub
 ·rw [if_neg hlt] at hT
  have hgq:g=x / V:=by
   rcases Nat.lt_or_ge (x / V) g with q | q
   ·exfalso
    have h1:V*(x / V+1)≤V*g:=Nat.mul_le_mul_left _ q
    rw [Nat.mul_add,Nat.mul_one] at h1
    have:=Nat.mod_lt x hV0
    generalize V*(x / V)=M at hm h1
    generalize x % V=R at hm this
    omega
   ·exact Nat.le_antisymm q hq1
  have hY1:x+4294967296 ^ (k+3) - V*g=x % V+4294967296 ^ (k+3):=by
   rw [hgq]
   generalize V*(x / V)=M at hm ⊢
   generalize x % V=R at hm ⊢
   omega
  clear hm hlt hq1 hq2
  generalize x+4294967296 ^ (k+3) - V*g=Y at hY1 hQ ⊢
  rw [← hgq] at hQ
  refine go ?_
  refine r_shr (k:=.u64) T 63 rfl rfl (by decide) ?_
  rw [show (2:Nat) ^ 63=9223372036854775808 by rfl,hT]
  refine go ?_
  refine hQ _ _ ?_
  refine word_conv 1058 (mxR j (k+3) (x % V) Uj) (fun e he=>mxR_pow hY1) ?_
  exact sub

theorem dv_rest (k j la N m s V Uj x g T:Nat) (qf Un:Nat→Nat) (hqf:x / V=qf j) (hUn:∀ e,mxR j (k+3) (x % V) Uj e=Un e) (hV:V<4294967296 ^ (k+2)) (hV0:0<V) (hx3:x<4294967296 ^ (k+3)) (hq1:x / V≤g) (hq2:g≤x / V+1) (hT:T / 9223372036854775808=if x<V*g then 1 else 0) (hT2:T<18446744073709551616) (hla:j+(k+2)<la) (hN:la≤N) (hN9:N≤1000) (hg9:g<4294967296) (hjm:j<m) (hm9:m≤1000) {Q:Post}
  (hQ:∀ E H,Sub E H (lk (dvE k j la m s V)) (hk (dvB N m Un (fun e=>if j≤e then qf e else 0)))→Q .normal E H) :
  AWp none Tryz.prog Tryz.f285.ntmps (fPath Tryz.f285 [1,1,1,1,1,1,1,1,0,1,0,0,1,0,0,0,1,1,1,1,1,1,1,1]) (lk ((22,u64D T)::(15,u64D g)::dvE k j la m s V)) (hk (dvB N m (mxR j (k+3) (x+4294967296 ^ (k+3) - V*g) Uj) (fun e=>if j+1≤e then qf e else 0))) Q:=by
 have hx9:x / V<4294967296:=Nat.lt_of_le_of_lt hq1 hg9
 conv=>arg 4;whnf
 refine c_seq (awp_sub ?zz3 (dv_back k j la N m s V Uj x g T (fun e=>if j+1≤e then qf e else 0) hV hV0 hx3 hq1 hq2 hT hT2 hla hN hN9 hg9 (fun E H hs=>?_)))
 case zz3=>exact sub
 refine awp_sub hs ?_
 clear hT hq1 hq2 hs hx3 hV hV0
 rw [hqf] at hx9 ⊢
 obtain ⟨R,hR⟩:∃ R,mxR j (k+3) (x % V) Uj=R:=⟨_,rfl⟩
 obtain rfl:R=Un:=by rw [← hR];exact funext hUn
 rw [hR]
 clear hR hUn
 obtain ⟨y,hy⟩:∃ y,qf j=y:=⟨_,rfl⟩
 rw [hy] at hx9 ⊢
 refine go ?_
 refine hQ _ _ ?_
 refine word_put 1069 (v:=y) (h:=fun e=>if j+1≤e then qf e else 0) (fun e=>if j≤e then qf e else 0) (by rw [if_pos (Nat.le_refl _),hy]) (fun e he hne=>?_) ?_
 ·by_cases q:j+1≤e
  ·rw [if_pos q,if_pos (by omega)]
  ·rw [if_neg q,if_neg (by omega)]
 exact sub
theorem dv_top (k j la N m s V g c b t T2:Nat) (r0 r1 h:Nat→Nat) (ht:r0 (j+(k+2))=t) (ht9:t<4294967296) (hb:b≤18446744073709551616) (hc:c≤18446744073709551616) (hT:((t+18446744073709551616 - b) % 18446744073709551616+18446744073709551616 - c) % 18446744073709551616=T2) (hr1:T2 % 4294967296=r1 (j+(k+2))) (hr2:∀ e,e≠j+(k+2)→r1 e=r0 e) (hla:j+(k+2)<la) (hN:la≤N) (hN9:N≤1000) {Q:Post}
  (hQ:AWp none Tryz.prog Tryz.f285.ntmps (fPath Tryz.f285 [1,1,1,1,1,1,1,1,0,1,0,0,1,0,0,0,1,1,1,1,1,1,1,1]) (lk ((22,u64D T2)::(15,u64D g)::dvE k j la m s V)) (hk (dvB N m r1 h)) Q) :
  AWp none Tryz.prog Tryz.f285.ntmps (fPath Tryz.f285 [1,1,1,1,1,1,1,1,0,1,0,0,1,0,0,0,1,1,1,1,1,1]) (lk ((17,u64D c)::(18,u64D b)::(15,u64D g)::dvE k j la m s V)) (hk (dvB N m r0 h)) Q:=by
 conv=>arg 4;whnf
 conv at hQ=>arg 4;whnf
 have hr9:r0 (j+(k+2))<4294967296:=by rw [ht];exact ht9
 have hT9:T2<18446744073709551616:=by rw [← hT];exact Nat.mod_lt _ (by omega)
 refine c_sreg ?_
 refine gor ?_
 rw [ht,wsub64 hb,wsub64 hc,hT]
 refine c_sreg ?_
 refine gor ?_
 rw [wrap32]
 refine word_last 1058 (h:=r0) r1 hr1 (fun e _ hne=>hr2 e hne) ?_
 exact awp_sub sub hQ
theorem dv_mid (k j la N m s V g c b t T2:Nat) (u0 r0 r1 h:Nat→Nat) (ht:r0 (j+(k+2))=t) (ht9:t<4294967296) (hb:b≤18446744073709551616) (hc:c≤18446744073709551616) (hT:((t+18446744073709551616 - b) % 18446744073709551616+18446744073709551616 - c) % 18446744073709551616=T2) (hr1:T2 % 4294967296=r1 (j+(k+2))) (hr2:∀ e,e≠j+(k+2)→r1 e=r0 e) (hla:j+(k+2)<la) (hN:la≤N) (hN9:N≤1000) {Q:Post}
  (hP:∀ Q:Post,(∀ E H,Sub E H (lk ((17,u64D c)::(18,u64D b)::(15,u64D g)::dvE k j la m s V)) (hk (dvB N m r0 h))→Q .normal E H)→AWp none Tryz.prog Tryz.f285.ntmps (fPath Tryz.f285 [1,1,1,1,1,1,1,1,0,1,0,0,1,0,0,0,1,1,1,1,1,0]) (lk ((17,u64D 0)::(18,u64D 0)::(15,u64D g)::dvE k j la m s V)) (hk (dvB N m u0 h)) Q)
  (hQ:AWp none Tryz.prog Tryz.f285.ntmps (fPath Tryz.f285 [1,1,1,1,1,1,1,1,0,1,0,0,1,0,0,0,1,1,1,1,1,1,1,1]) (lk ((22,u64D T2)::(15,u64D g)::dvE k j la m s V)) (hk (dvB N m r1 h)) Q) :
  AWp none Tryz.prog Tryz.f285.ntmps (fPath Tryz.f285 [1,1,1,1,1,1,1,1,0,1,0,0,1,0,0,0,1,1,1,1]) (lk ((15,u64D g)::dvE k j la m s V)) (hk (dvB N m u0 h)) Q:=by
 conv=>arg 4;whnf
 refine c_sreg ?_
 refine gor ?_
 refine c_seq (awp_sub ?zz2 (hP _ (fun E H hs=>?_)))
 case zz2=>exact sub
 refine awp_sub hs ?_
 exact dv_top k j la N m s V g c b t T2 r0 r1 h ht ht9 hb hc hT hr1 hr2 hla hN hN9 hQ
theorem dv_fact (k x V g c b t:Nat) (hV1:V<4294967296 ^ (k)) (hx3:x<4294967296 ^ (k+1)) (hg2:g≤x / V+1) (hg3:g<4294967296) (hc:dg 4294967296 (V*g) (k)=c) (hb:bwDif 4294967296 x (V*g) (k)=b) (ht:dg 4294967296 x (k)=t) :
  V*g≤x+4294967296 ^ (k+1)∧cySl 4294967296 V g (k)=c∧b≤1∧c<4294967296∧t<4294967296 ∧
  ∃ T2,((t+18446744073709551616 - b) % 18446744073709551616+18446744073709551616 - c) % 18446744073709551616=T2∧T2 % 4294967296=dg 4294967296 (x+4294967296 ^ (k+1) - V*g) (k)∧T2 / 9223372036854775808=(if x<V*g then 1 else 0)∧T2<18446744073709551616:=by
 have hVG:V*g≤x+V:=by
  have h1:V*g≤V*(x / V+1):=Nat.mul_le_mul_left _ hg2
  have h2:=Nat.mul_div_le x V
  rw [Nat.mul_add,Nat.mul_one] at h1
  omega
 have hle:V*g≤x+4294967296 ^ (k+1):=Nat.le_trans hVG (Nat.add_le_add_left (Nat.le_trans (Nat.le_of_lt hV1) (Nat.pow_le_pow_right (by omega) (by omega))) _)
 have hVg3:V*g<4294967296 ^ (k+1):=by
  rw [Nat.pow_succ]
  exact Nat.mul_lt_mul'' hV1 hg3
 have hcc:cySl 4294967296 V g (k)=dg 4294967296 (V*g) (k):=by
  have h1:=cySl_le (W:=4294967296) (A:=V) (D:=g) (i:=k) (by omega)
  rw [dg_sl (by omega),dg_beyond hV1]
  simp only [Nat.zero_mul,Nat.add_zero]
  exact (Nat.mod_eq_of_lt (by omega)).symm
 have hdY:=dg_difW (W:=4294967296) (A:=x) (B:=V*g) (N:=k+1) (i:=k) (by omega) hle (by omega)
 have hbs:=bwDif_succ (W:=4294967296) (A:=x) (B:=V*g) (i:=k) (by omega)
 rw [bwDif_all hx3 hVg3] at hbs
 have hbl:=bwDif_le (W:=4294967296) (A:=x) (B:=V*g) (i:=k)
 have hdv:=dgw (A:=V*g) (i:=k)
 have t1':=dgw (A:=x) (i:=k)
 rw [hc] at hcc hdY hbs hdv
 rw [hb] at hdY hbs hbl
 rw [ht] at t1' hdY hbs
 refine ⟨hle,hcc,hbl,hdv,t1',_,rfl,?_,?_,Nat.mod_lt _ (by omega)⟩
 ·rw [hdY]
  clear hdY hle hVg3 hcc hbs hVG hc hb ht hx3 hV1 hg2
  omega
 ·rw [hbs]
  clear hdY hle hVg3 hcc hVG hc hb ht hx3 hV1 hg2 hbs
  split<;>omega
theorem dv_mid2 (k j la N m s V Uj x g:Nat) (qf Un:Nat→Nat) (hqf:x / V=qf j) (hUn:∀ e,mxR j (k+3) (x % V) Uj e=Un e) (hV1:V<4294967296 ^ (k+2)) (hV0:0<V) (hx3:x<4294967296 ^ (k+3)) (hxe:∀ e,j≤e→dg 4294967296 Uj e=dg 4294967296 x (e - j)) (hg1:x / V≤g) (hg2:g≤x / V+1) (hg3:g<4294967296) (hla:j+(k+2)<la) (hN:la≤N) (hN9:N≤1000) (hjm:j<m) (hm9:m≤1000) {Q:Post}
  (hQ:∀ E H,Sub E H (lk (dvE k j la m s V)) (hk (dvB N m Un (fun e=>if j≤e then qf e else 0)))→Q .normal E H) :
  AWp none Tryz.prog Tryz.f285.ntmps (fPath Tryz.f285 [1,1,1,1,1,1,1,1,0,1,0,0,1,0,0,0,1,1,1,1]) (lk ((15,u64D g)::dvE k j la m s V)) (hk (dvB N m (dg 4294967296 Uj) (fun e=>if j+1≤e then qf e else 0))) Q:=by
 obtain ⟨c,hc⟩:∃ c,dg 4294967296 (V*g) (k+2)=c:=⟨_,rfl⟩
 obtain ⟨b,hb⟩:∃ b,bwDif 4294967296 x (V*g) (k+2)=b:=⟨_,rfl⟩
 obtain ⟨t,ht⟩:∃ t,dg 4294967296 x (k+2)=t:=⟨_,rfl⟩
 have x2:dg 4294967296 Uj (j+(k+2))=t:=by rw [hxe _ (by omega),Nat.add_sub_cancel_left,ht]
 have hF:=dv_fact (k+2) x V g c b t hV1 (by rw [show k+2+1=k+3 by omega];exact hx3) hg2 hg3 hc hb ht
 rw [show k+2+1=k+3 by omega] at hF
 obtain ⟨hle,hcc,hb1,hc1,ht1,T2,hT,hT1,hT2,hT3⟩:=hF
 have hP:=fun (Q:Post) hq=>dv_msub k j la N m s V Uj x g (fun e=>if j+1≤e then qf e else 0) hxe hg3 hle hla hN hN9 (Q:=Q) hq
 have hR:=dv_rest k j la N m s V Uj x g T2 qf Un hqf hUn hV1 hV0 hx3 hg1 hg2 hT2 hT3 hla hN hN9 hg3 hjm hm9 hQ
 rw [hcc,hb] at hP
 have e0:mxR j (k+2) (x+4294967296 ^ (k+3) - V*g) Uj (j+(k+2))=t:=by rw [mxR_at (Nat.add_comm _ _),x2]
 have e1:T2 % 4294967296=mxR j (k+3) (x+4294967296 ^ (k+3) - V*g) Uj (j+(k+2)):=by rw [hT1,Nat.add_comm j];exact mxR_new.symm
 have e2:∀ e,e≠j+(k+2)→mxR j (k+3) (x+4294967296 ^ (k+3) - V*g) Uj e=mxR j (k+2) (x+4294967296 ^ (k+3) - V*g) Uj e:=fun e hne=>mxR_other (i:=k+2) (by omega)
 generalize x+4294967296 ^ (k+3) - V*g=Y at hP hR e0 e1 e2
 exact dv_mid k j la N m s V g c b t T2 (dg 4294967296 Uj) _ _ _ e0 ht1 (by omega) (by omega) hT e1 e2 hla hN hN9 hP hR
theorem dv_body (k j la N m s V U:Nat) (hV0:0<V) (hV1:V<4294967296 ^ (k+2)) (hV3:2147483648≤dg 4294967296 V (k+1)) (hla:j+(k+2)<la) (hjm:j<m) (hm9:m≤1000) (hN:la≤N) (hN9:N≤1000) {Q:Post} (hng:∀ l E H,Q (.goto l) E H→False)
  (hQ:∀ E H,Sub E H (lk (dvE k j la m s V)) (hk (dvB N m (dg 4294967296 (dvU U V j)) (fun e=>if j≤e then dg 4294967296 (U / V) e else 0)))→Q .normal E H) :
  AWp none Tryz.prog Tryz.f285.ntmps (fPath Tryz.f285 [1,1,1,1,1,1,1,1,0,1,0,0,1,0,0]) (lk (dvE k j la m s V)) (hk (dvB N m (dg 4294967296 (dvU U V (j+1))) (fun e=>if j+1≤e then dg 4294967296 (U / V) e else 0))) Q:=by
 conv=>arg 4;whnf
 refine awp_scope hng ?_
 have hkn:=dv_kn (U:=U) (j:=j) hV1 hV3
 have hxl:=dvX_lt (U:=U) (j:=j) hV0
 have hxe:∀ e,j≤e→dg 4294967296 (dvU U V (j+1)) e=dg 4294967296 (dvX U V j) (e - j):=fun e he=>dvX_dg he
 have hlow:∀ e,dg 4294967296 (dvU U V j) e=if e<j then dg 4294967296 (dvU U V (j+1)) e else dg 4294967296 (dvX U V j % V) (e - j):=fun e=>dvU_new
 have hqd:=dvX_q (U:=U) (V:=V) (j:=j)
 generalize dvU U V (j+1)=Uj at hxe hlow ⊢
 generalize dvX U V j=x at hkn hxl hxe hlow hqd ⊢
 have hx3:x<4294967296 ^ (k+3):=by
  have:V*4294967296<4294967296 ^ (k+2)*4294967296:=Nat.mul_lt_mul_of_pos_right hV1 (by omega)
  rw [show k+3=(k+2)+1 by omega,Nat.pow_succ]
  exact Nat.lt_trans hxl this
 have hg:=hkn.guess
 rw [← dv_three hx3,← dv_two hV1] at hg
 obtain ⟨hg1,hg2,hg3⟩:=hg
 have x2:dg 4294967296 Uj (j+(k+2))=dg 4294967296 x (k+2):=by rw [hxe _ (by omega),Nat.add_sub_cancel_left]
 have x1:dg 4294967296 Uj (j+(k+2) - 1)=dg 4294967296 x (k+1):=by rw [hxe _ (by omega),show j+(k+2) - 1 - j=k+1 by omega]
 have x0:dg 4294967296 Uj (j+(k+2) - 2)=dg 4294967296 x k:=by rw [hxe _ (by omega),show j+(k+2) - 2 - j=k by omega]
 have t1':=dgw (A:=x) (i:=k+2)
 have t0':=dgw (A:=x) (i:=k+1)
 have hv1':=dgw (A:=V) (i:=k+1)
 have hq3:dg 4294967296 (U / V) j<4294967296:=dgw
 have hT9:dg 4294967296 x (k+2)*4294967296+dg 4294967296 x (k+1)<18446744073709551616:=by omega
 have e1:dg 4294967296 V (k+2 - 1)=dg 4294967296 V (k+1):=by rw [show k+2 - 1=k+1 by omega]
 have e2:dg 4294967296 V (k+2 - 2)=dg 4294967296 V k:=by rw [show k+2 - 2=k by omega]
 obtain ⟨T,hT⟩:∃ T,dg 4294967296 x (k+2)*4294967296+dg 4294967296 x (k+1)=T:=⟨_,rfl⟩
 rw [hT] at hkn hg1 hg2 hg3 hT9
 obtain ⟨g,hgg⟩:∃ g,knQ 4294967296 (dg 4294967296 V (k+1)) (dg 4294967296 V k) T (dg 4294967296 x k)=g:=⟨_,rfl⟩
 rw [hgg] at hg1 hg2 hg3
 replace hg1:=Lib.hid hg1
 replace hg2:=Lib.hid hg2
 replace hx3:=Lib.hid hx3
 replace hV1:=Lib.hid hV1
 replace hxl:=Lib.hid hxl
 replace hqd:=Lib.hid hqd
 refine go ?_
 rw [x2]
 refine r_shl64 (dg 4294967296 x (k+2)) 32 rfl rfl (by decide) ?_
 refine go ?_
 rw [x1]
 refine r_or64 (dg 4294967296 x (k+2)*2 ^ 32 % 18446744073709551616) (dg 4294967296 x (k+1)) rfl rfl (Nat.mod_lt _ (by omega)) (by omega) ?_
 rw [or_word t1' t0',hT]
 replace hT:=Lib.hid hT
 refine go ?_
 rw [e1]
 refine go ?_
 refine awp_label ?_
 refine c_seq (awp_sub ?zz1 (dv_adjust k j la N m s V Uj T (dg 4294967296 V (k+1)) (dg 4294967296 V k) (dg 4294967296 x k) _ _ _ (fun e=>if j+1≤e then dg 4294967296 (U / V) e else 0) hkn hla hN hN9 x0 e1 e2 hV3 hT9 (fun E H hs=>?_)))
 case zz1=>exact sub
 rw [hgg] at hs
 refine awp_sub hs ?_
 refine dv_mid2 k j la N m s V Uj x g (dg 4294967296 (U / V)) (dg 4294967296 (dvU U V j)) hqd.out (fun e=>?_) hV1.out hV0 hx3.out hxe hg1.out hg2.out hg3 hla hN hN9 hjm hm9 hQ
 rw [hlow]
 unfold mxR
 by_cases q:e<j
 ·rw [if_pos q,if_neg (by omega)]
 ·rw [if_neg q]
  by_cases q2:e<j+(k+3)
  ·rw [if_pos ⟨by omega,q2⟩]
  ·rw [if_neg (by omega),hxe e (by omega),dg_beyond' (by omega) hx3.out (by omega),dg_beyond' (by omega) (Nat.lt_trans (Nat.mod_lt _ hV0) hV1.out) (by omega)]

set_option maxHeartbeats 80000000
section
variable {ro:Option Nat} {P:Program} {N:Nat} {Q:Post} {c:Code} {env env1:List (Nat × D)} {box box1:List (Nat × Option Box)}
theorem c_lessB (ts bs:List Nat) (h:AWp ro P N c (lk env1) (hk box1) Q)
  (h1:autoParam (KeepE ts env env1) aq7._auto_1) (h2:autoParam (KeepB bs box box1) aq9._auto_1)
  (h0:Sub (lk env) (hk box) (lk env1) (hk box1):=by exact sub):AWp ro P N c (lk env) (hk box) Q:=awp_sub h0 h
end
theorem wdivide_den (A B:Nat) (hA:nD 32 A≤900) (hB:nD 32 B≤900) (hB0:B≠0):Den Tryz.prog 285 [natF true A,natF true B] (.tup [natF false (A / B),natF true (A % B)]):=by
 have hlA:=nw_lt (A:=A)
 have hlB:=nw_lt (A:=B)
 have hnB:=nD_pos (k:=32) hB0
 refine den_intro (fn:=Tryz.f285) rfl rfl rfl rfl rfl ?_
 refine go ?_
 refine r_call (wcompare_den A B (by omega) (by omega)) ?_
 refine go ?_
 by_cases hlt:A<B
 ·rw [show cmpN A B = -1 from if_pos hlt]
  refine go ?_
  rw [Nat.div_eq_of_lt hlt,Nat.mod_eq_of_lt hlt,show natF false 0=natU false 0 0 from rfl]
  refine fin ?_
  exact CvV.cvt (CvV.id rfl) (Cvt.tup (.cons (Cvt.nil _ _ _) (.cons (.of_eq rfl) .nil)))
 have hcm:0≤cmpN A B:=by unfold cmpN;rw [if_neg hlt];split<;>omega
 refine c_if (fun h=>?_) (fun h=>?_)
 ·omega
 clear h hcm
 have hnAB:nD 32 B≤nD 32 A:=nw_le (by omega)
 refine go ?_
 refine c_if (fun h1=>?_) (fun h1=>?_)
 ·have hB1:dg 4294967296 B 0=B:=by
   unfold dg
   rw [Nat.pow_zero,Nat.div_one,Nat.mod_eq_of_lt (by rw [h1,Nat.pow_one] at hlB;exact hlB)]
  have hB2:B<4294967296:=by rw [h1,Nat.pow_one] at hlB;exact hlB
  refine go ?_
  rw [hB1]
  refine r_call (wshort_den A B (by omega) (by omega) hB2) ?_
  have hr:A % B<B:=Nat.mod_lt _ (by omega)
  have hr1:A % B<4294967296 ^ 1:=by omega
  have hr2:=nw_le hr1
  have hr3:dg 4294967296 (A % B) 0=A % B:=by unfold dg;rw [Nat.pow_zero,Nat.div_one,Nat.mod_eq_of_lt (by omega)]
  refine go ?_
  refine r_callR 1042 (DenH.boxA (n:=1) (fun e=>[.val (.int .u32 ((dg 4294967296 (A % B) e:Nat):Int))]) ?he (wnorm_own (A % B) 1 1 hr1 (Nat.le_refl _) (by omega))) rfl ?_
  case he=>
   intro e he
   obtain rfl:e=0:=by omega
   rw [hr3];rfl
  refine go ?_
  refine fin_freeze 1042 ?_
  refine fin ?_
  exact cv
 have hn2:2≤nD 32 B:=by omega
 have htop:=dgw (A:=B) (i:=nD 32 B - 1)
 refine go ?_
 refine r_call (lz32_den _ htop) ?_
 obtain ⟨s,hs⟩:∃ s,s=32 - lenBits (dg 4294967296 B (nD 32 B - 1)):=⟨_,rfl⟩
 rw [← hs]
 obtain ⟨hs32,hV1,hV2⟩:=dv_norm hB0 hs
 clear hs
 obtain ⟨hVn,hV3⟩:=dv_nD hnB hV1 hV2
 have hst:=dv_start (A:=A) rfl hs32 (by omega) hV2 hnB
 have hqr:A / B=A*2 ^ s / (B*2 ^ s):=(Nat.mul_div_mul_right _ _ (Nat.pow_pos (by omega))).symm
 have hrr:A % B=A*2 ^ s % (B*2 ^ s) / 2 ^ s:=by rw [Nat.mul_mod_mul_right,Nat.mul_div_cancel _ (Nat.pow_pos (by omega))]
 have hUl:A*2 ^ s<4294967296 ^ (nD 32 A+1):=by
  have h2:2 ^ s≤2 ^ 31:=Nat.pow_le_pow_right (by omega) (by omega)
  rw [Nat.pow_succ]
  exact Nat.mul_lt_mul'' hlA (by omega)
 have hU1:=nw_le hUl
 have hU2:nD 32 A≤nD 32 (A*2 ^ s):=nw_le (Nat.lt_of_le_of_lt (Nat.le_mul_of_pos_right _ (Nat.pow_pos (by omega))) nw_lt)
 refine go ?_
 refine r_callA (r':=.sl 1053 1 (nD 32 (B*2 ^ s))) (wleft_own B s (by omega) hs32) rfl ?_
 refine gor ?_
 refine c_freeze 1053 ?_
 refine c_slot 9 (natF false (B*2 ^ s)) ?_
 refine go ?_
 refine r_callA (r':=.sl 1056 1 (nD 32 (A*2 ^ s))) (wleft_own A s (by omega) hs32) rfl ?_
 refine go ?_
 rw [hVn]
 rw [hqr,hrr]
 generalize A*2 ^ s=U at hst hqr hrr hUl hU1 hU2 ⊢
 generalize B*2 ^ s=V at hst hqr hrr hV1 hV2 hV3 hVn ⊢
 clear hqr hrr htop hlB hlA hlt h1
 obtain ⟨m,hm⟩:∃ m,nD 32 A+1 - nD 32 B=m:=⟨_,rfl⟩
 have hV0:0<V:=by
  rcases Nat.eq_zero_or_pos V with q | q
  ·subst q;simp [dg] at hV3
  ·exact q
 rw [hm] at hst ⊢
 refine c_less [24,25,26,27,29,30,31,44,45,46,47,48,49,50,51,52,53,54,55,56,57,58,59,60,61,62,63,64,65,66,67,68,69,70,71,72] ?_
 obtain ⟨k,hk⟩:∃ k,nD 32 B=k+2:=⟨nD 32 B - 2,by omega⟩
 obtain ⟨la,hla⟩:∃ la,nD 32 A+1=la:=⟨_,rfl⟩
 obtain ⟨N,hN⟩:∃ N,nD 32 U+2=N:=⟨_,rfl⟩
 have hlU:=nw_lt (A:=U)
 refine c_arr 1058 (t:=22) (n:=nD 32 U+2) (m:=1) (fun e=>[.val (.int .u32 ((dg 4294967296 (dvU U V m) e:Nat):Int))]) (fun e he=>?_) (fun _=>rfl) ?_
 ·rw [dvU_top hst]
  by_cases q:e<nD 32 U
  ·rw [appF_lt q]
  ·rw [appF_ge (by omega),dg_beyond' (by omega) hlU (show nD 32 U≤e by omega)]
   obtain q2 | q2:e - nD 32 U=0∨e - nD 32 U=1:=by omega
   ·rw [q2];rfl
   ·rw [q2];rfl
 refine word_zero (n:=m) 1069 (fun e=>if m≤e then dg 4294967296 (U / V) e else 0) (fun e he=>by rw [if_neg (by omega)]) ?_
 rw [hN,hk,hla]
 rw [hk] at hV1 hV3 hnAB hm hVn
 have hm1:1≤m:=by omega
 have hmN:m+(k+2)=la:=by omega
 have hNla:la≤N:=by omega
 have hN9:N≤1000:=by omega
 clear hN hla hm hk hU1 hU2 hlU hUl hnAB hnB hB0
 have hq9:nD 32 (U / V)≤m:=nw_le (Nat.div_lt_of_lt_mul hst)
 have hr9:U % V<4294967296 ^ (k+2):=Nat.lt_trans (Nat.mod_lt _ hV0) hV1
 have hr8:=nw_le hr9
 refine c_lessB [0,1,4,5] [1053,1056,1057] ?_
 refine c_down (fun i=>i) (fun i=>i≤m) (fun i:Nat=>[(13,.val (.int .i64 ((i:Int) - 1)))]) (fun i=>[(1058,some (rowB N (dg 4294967296 (dvU U V i)))),(1069,some (rowB m (fun e=>if i≤e then dg 4294967296 (U / V) e else 0)))]) m (fun i hi=>?_) (Nat.le_refl _)
 rcases Nat.eq_zero_or_pos i with i0 | i0
 ·subst i0
  refine go ?_
  rw [dvU_zero]
  have e1:(fun e=>[D.val (.int .u32 ((if 0≤e then dg 4294967296 (U / V) e else 0:Nat):Int))])=fun e=>[D.val (.int .u32 ((dg 4294967296 (U / V) e:Nat):Int))]:=funext fun e=>by rw [if_pos (Nat.zero_le _)]
  unfold rowB
  rw [e1]
  refine r_callR (r':=.sl 1069 1 (nD 32 (U / V))) 1069 (wnorm_own (U / V) m m (pow32 hq9) (Nat.le_refl _) (by omega)) rfl ?_
  refine go ?_
  refine r_callR (r':=.sl 1058 1 (nD 32 (U % V))) 1058 (wnorm_own (U % V) (k+2) N hr9 (by omega) (by omega)) rfl ?_
  refine go ?_
  refine r_call (wright_den (U % V) s (by omega) hs32) ?_
  refine go ?_
  refine fin_freeze 1069 ?_
  refine fin ?_
  exact cv
 ·obtain ⟨j,rfl⟩:∃ j,i=j+1:=⟨i - 1,by omega⟩
  rw [show ((j+1:Nat):Int) - 1=(j:Int) by omega]
  refine go ?_
  refine awp_sub ?zz1 (dv_body k j la N m s V U hV0 hV1 hV3 (by omega) (by omega) (by omega) hNla hN9 (by intro l E H h;exact h) (fun E H hs=>?_))
  case zz1=>exact sub
  refine awp_sub hs ?_
  refine go ?_
  refine ⟨j,by omega,by omega,?_⟩
  exact sub

instance fi259:FI Tryz.prog 259 Tryz.f259:=⟨Tryz.func259,Tryz.call259⟩
instance fi251:FI Tryz.prog 251 Tryz.f251:=⟨Tryz.func251,Tryz.call251⟩
set_option maxHeartbeats 8000000
theorem wsum_den (A B:Nat) (an bn:Bool) (hA:nD 32 A≤1000) (hB:nD 32 B≤1000):Den Tryz.prog 259 [natF true A,.val (.bool an),natF true B,.val (.bool bn)] (.tup [natF false (smA A an B bn),.val (.bool (smS A an B bn))]):=by
 refine den_intro (fn:=Tryz.f259) rfl rfl rfl rfl rfl ?_
 refine go ?_
 unfold smA smS
 refine c_ifB (fun h1=>?_) (fun h1=>?_)
 ·obtain rfl:an=bn:=by simpa using h1
  rw [if_pos rfl,if_pos rfl]
  refine go ?_
  refine r_call (wplus_den A B hA hB) ?_
  refine go ?_
  refine fin ?_
  exact cv
 ·have h1:¬ an=bn:=by simpa using h1
  rw [if_neg h1,if_neg h1]
  refine go ?_
  refine r_call (wcompare_den A B hA hB) ?_
  refine go ?_
  refine c_if (fun h2=>?_) (fun h2=>?_)
  ·have h3:A<B:=by unfold cmpN at h2;split at h2<;>first | assumption | (split at h2<;>omega)
   rw [if_pos h3,if_pos h3]
   refine go ?_
   refine r_call (wminus_den B A hB (by omega)) ?_
   refine go ?_
   refine fin ?_
   exact cv
  ·have h3:¬ A<B:=by
    intro q
    unfold cmpN at h2
    rw [if_pos q] at h2
    omega
   rw [if_neg h3,if_neg h3]
   refine go ?_
   refine r_call (wminus_den A B hA (by omega)) ?_
   refine go ?_
   refine fin ?_
   exact cv
theorem nD32_one:nD 32 1=1:=by decide
theorem wfloor_den (A B:Nat) (an bn:Bool) (hA:nD 32 A≤900) (hB:nD 32 B≤900) (hB0:B≠0):Den Tryz.prog 251 [natF true A,.val (.bool an),natF true B,.val (.bool bn)] (.tup [natF true (flQ A an B),.val (.bool (an != bn)),natF true (flR A an B)]):=by
 have hm:A % B<B:=Nat.mod_lt _ (by omega)
 have hq:nD 32 (A / B)≤900:=Nat.le_trans (nw_le (Nat.lt_of_le_of_lt (Nat.div_le_self _ _) nw_lt)) hA
 have hr:nD 32 (A % B)≤900:=Nat.le_trans (nw_le (Nat.lt_trans hm nw_lt)) hB
 refine den_intro (fn:=Tryz.f251) rfl rfl rfl rfl rfl ?_
 refine go ?_
 refine r_callO (wdivide_den A B hA hB hB0) ?_
 refine go ?_
 have hz:nD 32 (A % B)=0↔A % B=0:=nD_eq_zero
 unfold flQ flR
 refine c_ifB (fun h1=>?_) (fun h1=>?_)
 ·simp only [Bool.and_eq_true,decide_eq_true_eq] at h1
  obtain ⟨rfl,h2⟩:=h1
  have h3:A % B≠0:=fun e=>by have:=hz.2 e;omega
  rw [decide_eq_true h3]
  simp only [Bool.and_self,if_true]
  refine goc ?_
  refine c_reg ?_
  refine go1 ?_
  refine r_bslF (fun j=>[.val (.int .u32 ((dg 4294967296 1 j:Nat):Int))]) ?_ (hf:=?_)
  ·refine r_eqS 24 (natF false 1) (by rw [natF,nD32_one]) ?_
   refine go ?_
   refine r_call (wplus_den (A / B) 1 (by omega) (by rw [nD32_one];omega)) ?_
   refine go ?_
   refine r_call (wminus_den B (A % B) (by omega) (by omega)) ?_
   refine go ?_
   refine fin ?_
   exact cv
  ·intro e he
   obtain rfl:e=0:=by omega
   exact ⟨rfl,fun c hc=>by obtain rfl:c=0:=Nat.lt_one_iff.1 hc;rfl⟩
 ·have h2:(an && decide (A % B≠0))=false:=by
   cases an
   ·rfl
   ·simp at h1 ⊢
    exact hz.1 (by omega)
  rw [h2]
  simp only [Bool.false_eq_true,if_false]
  refine go ?_
  refine fin ?_
  exact cv

instance fi261:FI Tryz.prog 261 Tryz.f261:=⟨Tryz.func261,Tryz.call261⟩
instance fi111:FI Tryz.prog 111 Tryz.f111:=⟨Tryz.func111,Tryz.call111⟩
set_option maxHeartbeats 4000000
theorem r2negative_den (neg:Bool) (A:Nat) (hA:nD 16 A≤4000):Den Tryz.prog 261 [nmF true neg A] (nmF false (!neg && decide (A≠0)) A):=by
 refine den_intro (fn:=Tryz.f261) rfl rfl rfl rfl rfl ?_
 refine go ?_
 refine r_call (r2trim_den A (nD 16 A) (!neg) nh_lt (by omega)) ?_
 refine go ?_
 refine fin ?_
 exact cv
theorem r2add_den (an bn:Bool) (A B:Nat) (hA:nD 16 A≤3000) (hB:nD 16 B≤3000):Den Tryz.prog 111 [nmF true an A,nmF true bn B] (nmF false (smS A an B bn && decide (smA A an B bn≠0)) (smA A an B bn)):=by
 refine den_intro (fn:=Tryz.f111) rfl rfl rfl rfl rfl ?_
 have hs4:nD 16 (A+B)≤3001:=by
  obtain ⟨N,hN⟩:∃ N,N=3000:=⟨_,rfl⟩
  rw [← hN] at hA hB
  rw [show 3001=N+1 by omega]
  apply nh_le
  have h1:A<65536 ^ N:=powh hA
  have h2:B<65536 ^ N:=powh hB
  rw [Nat.pow_succ];omega
 refine go ?_
 unfold smS smA
 refine c_ifB (fun h1=>?_) (fun h1=>?_)
 ·obtain rfl:an=bn:=by simpa using h1
  rw [if_pos rfl,if_pos rfl]
  refine go ?_
  refine r_call (r2plus_den A B (by omega) (by omega)) ?_
  refine go ?_
  refine r_call (r2trim_den (A+B) (nD 16 (A+B)) an nh_lt (by omega)) ?_
  refine go ?_
  refine fin ?_
  exact cv
 ·have h1:¬ an=bn:=by simpa using h1
  rw [if_neg h1,if_neg h1]
  refine go ?_
  refine r_call (r2order_den A B (by omega) (by omega)) ?_
  refine go ?_
  refine c_if (fun h2=>?_) (fun h2=>?_)
  ·have h3:A<B:=by unfold cmpN at h2;split at h2<;>first | assumption | (split at h2<;>omega)
   rw [if_pos h3,if_pos h3]
   refine go ?_
   refine r_call (r2minus_den B A (by omega) (by omega)) ?_
   refine go ?_
   refine r_call (r2trim_den (B - A) (nD 16 B) bn (Nat.lt_of_le_of_lt (Nat.sub_le _ _) nh_lt) (by omega)) ?_
   refine go ?_
   refine fin ?_
   exact cv
  ·have h3:¬ A<B:=by
    intro q
    unfold cmpN at h2
    rw [if_pos q] at h2
    omega
   rw [if_neg h3,if_neg h3]
   refine go ?_
   refine r_call (r2minus_den A B (by omega) (by omega)) ?_
   refine go ?_
   refine r_call (r2trim_den (A - B) (nD 16 A) an (Nat.lt_of_le_of_lt (Nat.sub_le _ _) nh_lt) (by omega)) ?_
   refine go ?_
   refine fin ?_
   exact cv

instance fi109:FI Tryz.prog 109 Tryz.f109:=⟨Tryz.func109,Tryz.call109⟩
theorem r2mul_den (an bn:Bool) (A B:Nat) (hA:nD 16 A≤1000) (hB:nD 16 B≤1000):Den Tryz.prog 109 [nmF true an A,nmF true bn B] (nmF false ((an != bn) && decide (A*B≠0)) (A*B)):=by
 have hlA:=nh_lt (A:=A)
 have hlB:=nh_lt (A:=B)
 refine den_intro (fn:=Tryz.f109) rfl rfl rfl rfl rfl ?_
 obtain ⟨n,hn⟩:∃ n,nD 16 A=n:=⟨_,rfl⟩
 obtain ⟨m,hm⟩:∃ m,nD 16 B=m:=⟨_,rfl⟩
 rw [hn] at hlA
 rw [hm] at hlB
 refine go ?_
 rw [hn,hm]
 refine c_eq 5 (.sl 1016 1 (n+m)) rfl ?_
 refine word_zero 1016 (fun e=>rTm 65536 A B 0 0 e) (fun e he=>rTm_start) ?_
 refine c_up n (fun i=>[(6,.val (.int .i64 (i:Nat)))]) (fun i=>[(1016,some (rowB (n+m) (fun e=>rTm 65536 A B i 0 e)))]) (fun i hi=>?_)
 refine go ?_
 rw [hn]
 refine c_if (fun h3=>?_) (fun h3=>?_)
 ·have hz:=cyTm_zero (W:=65536) (A:=A) (B:=B) (i:=i) (by omega)
  refine go ?_
  refine c_up m (fun k=>[(8,.val (.int .i64 (k:Nat))),(7,.val (.int .u32 ((cyTm 65536 A B i k:Nat):Int)))]) (fun k=>[(1016,some (rowB (n+m) (fun e=>rTm 65536 A B i k e)))]) (fun k hk=>?_)
  have h4:=cyTm_lt (W:=65536) (A:=A) (B:=B) (i:=i) (k:=k) (by omega)
  refine go ?_
  rw [hm]
  refine c_if (fun h5=>?_) (fun h5=>?_)
  ·have h1:=dgh (A:=A) (i:=i)
   have h2:=dgh (A:=B) (i:=k)
   have h6:rTm 65536 A B i k (i+k)<65536:=by rw [rTm_at];exact dgh
   have h7:dg 65536 A i*dg 65536 B k≤65535*65535:=Nat.mul_le_mul (by omega) (by omega)
   have h8:=rTm_step (W:=65536) (A:=A) (B:=B) (i:=i) (k:=k) (by omega)
   have h9:=cyTm_succ (W:=65536) (A:=A) (B:=B) (i:=i) (k:=k) (by omega)
   rw [← rTm_at] at h9
   refine go ?_
   rw [h8,← h9]
   refine ⟨h5,?_⟩
   refine word_put 1016 (h:=fun e=>rTm 65536 A B i k e) (fun e=>rTm 65536 A B i (k+1) e) rfl (fun e _ hne=>rTm_other hne) ?_
   exact sub
  ·obtain rfl:k=m:=by omega
   refine go ?_
   rw [hm]
   refine ⟨h3,?_⟩
   have he:=rTm_end (W:=65536) (A:=A) (B:=B) (i:=i) (m:=k) (by omega) hlB
   refine word_put 1016 (h:=fun e=>rTm 65536 A B i k e) (fun e=>rTm 65536 A B (i+1) 0 e) (by rw [he,if_pos rfl]) (fun e _ hne=>by rw [he,if_neg hne]) ?_
   exact sub
 ·obtain rfl:i=n:=by omega
  have hAB:A*B<65536 ^ (i+m):=by rw [Nat.pow_add];exact Nat.mul_lt_mul'' hlA hlB
  refine c_word 1016 (h:=fun e=>rTm 65536 A B i 0 e) (dg 65536 (A*B)) (fun e _=>rTm_all hlA) ?_
  refine go ?_
  refine r_call (r2trim_den (A*B) (i+m) (an != bn) hAB (by omega)) ?_
  refine go ?_
  refine fin ?_
  exact cv

theorem wof_den (neg:Bool) (A:Nat) (hA:Vw neg A):Den Tryz.prog 184 [wN neg A] (natF false A):=by
 have hL:=hA.lt
 have hW:=hA.words
 have hWL:=nw_nb (A:=A)
 have hsz:=strN_size (A:=A)
 have hby:∀ i,i<nD 8 A→byteAt (strN A) i=dg 256 A (nD 8 A - 1 - i):=fun i hi=>strN_byte hi
 have hlt:=nb_lt (A:=A)
 show Den _ _ [wS neg (strN A)] _
 generalize strN A=s at hsz hby ⊢
 obtain ⟨L,hLe⟩:∃ L,s.size=L:=⟨_,rfl⟩
 rw [← hsz,hLe] at hL hWL hby hlt
 refine den_intro (fn:=Tryz.f184) rfl rfl rfl rfl rfl ?_
 refine go ?_
 rw [hLe]
 rw [← hWL]
 refine word_zero 1011 (fun e=>dg 4294967296 (hiB A (L - 0)) e) (fun e he=>by rw [Nat.sub_zero,hiB_top hlt];unfold dg;simp) ?_
 refine c_up L (fun i=>[(15,.val (.int .i64 (i:Nat)))]) (fun i=>[(1011,some (natB (nD 32 A) (hiB A (L - i))))]) (fun i hi=>?_)
 refine go ?_
 refine c_if (fun h3=>?_) (fun h3=>?_)
 ·refine go ?_
  rw [hLe]
  obtain ⟨k,hk⟩:∃ k,k+1+i=L:=⟨L - 1 - i,by omega⟩
  refine go ?_
  obtain rfl:i=L - 1 - k:=by omega
  have e1:L - 1 - (L - 1 - k)=k:=by omega
  have e2:L - (L - 1 - k)=k+1:=by omega
  have e3:=hby (L - 1 - k) (by omega)
  have h8:=dgb (A:=A) (i:=k)
  have h9:=dgw (A:=hiB A (k+1)) (i:=k / 4)
  have hor:=hiB_or (A:=A) (k:=k)
  have hot:∀ e,e<nD 32 A→e≠k / 4→dg 4294967296 (hiB A k) e=dg 4294967296 (hiB A (k+1)) e:=fun e _ h=>hiB_other h
  rw [e1] at e3 ⊢
  rw [e2]
  refine r_sidx s (L - 1 - k) rfl (by omega) ?_
  rw [e3]
  refine go ?_
  refine r_shl32 (dg 256 A k) (8*(k % 4)) rfl rfl (by omega) ?_
  refine r_or32 _ _ rfl rfl h9 (Nat.mod_lt _ (by omega)) ?_
  rw [hor]
  refine go ?_
  refine ⟨by omega,?_⟩
  rw [show L - (L - 1 - k+1)=k by omega]
  refine word_put 1011 (fun e=>dg 4294967296 (hiB A k) e) rfl hot ?_
  exact sub
 ·obtain rfl:i=L:=by omega
  rw [Nat.sub_self,hiB_zero]
  refine go ?_
  refine r_callR 1011 (wnorm_own A (nD 32 A) (nD 32 A) nw_lt (Nat.le_refl _) (by omega)) rfl ?_
  refine go ?_
  refine fin_freeze 1011 ?_
  refine fin ?_
  exact cv
end Go.Proofs.YtdcenblblimkfaaGreat
