/- Switching's digits of an element, by data.
The reference's digits of an element; lists of elements that are equal, or large: by data.
Which switching keys are valid, by data.
Which switching keys are valid: both sides.
Which switching keys are valid: the reference.
Secrets: the reference's checks, powers and automorphisms, by data.
The numbers that are drawn for a switching key; the reference's elements of them, by data.
Which switching keys are valid: the reference's check.
The law on switching's forms, by data: for any digits that are alike on both sides.
Whether some digits are as the document says: by data.
What a key makes of digits: the program, by data.
Switching keys: the reference's source, by data; what a key is made of.
Secrets: the program's checks, by data.
A secret that is turned is a secret of the same weight. Plain. -/
import Derived.Test.YtdcenblblimkfaaGreatPk40
import Derived.Test.YtdcenblblimkfaaGreatPk39
import Derived.Test.YtdcenblblimkfaaGreatPk38
import Derived.Test.YtdcenblblimkfaaGreatPk20
import Derived.Test.YtdcenblblimkfaaGreatPk22
import Derived.Test.YtdcenblblimkfaaGreatPk21
set_option linter.unusedSimpArgs false
set_option linter.unusedVariables false
set_option linter.unnecessarySimpa false
set_option linter.unusedSectionVars false
namespace Go.Proofs.YtdcenblblimkfaaGreat
open Go.RowKit
set_option maxRecDepth 20000
set_option maxHeartbeats 4000000
theorem swdigits_den (p:PD) (n lv:Nat) (g:Nat→Nat→Nat):Den Tryz.prog 198 [.agg (parL true p),.agg (elL true lv false lv n g)] (.clo 262 [.fptr false (parL true p),.fptr false (elL true lv false lv n g)]):=by
 refine den_intro (fn:=Tryz.f198) rfl rfl rfl rfl rfl ?_
 refine go ?_
 refine fin_frz 1002 ?_
 refine fin_frz 1003 ?_
 refine fin ?_
 exact cv
abbrev dgV (p:PD) (lv:Nat) (g:Nat→Nat→Nat) (i k j:Nat):Nat:=resI (balR p lv g i j) (modQ p lv k)
theorem balR_in {p:PD} {n lv:Nat} (h:Lv p n lv) {g:Nat→Nat→Nat} (hv:Vg p lv g) (i j:Nat) : -9223372036854775808≤balR p lv g i j∧balR p lv g i j≤9223372036854775807:=by
 have:=hv i j
 have:=modQ_in h.vp h.sp h.l2 i
 unfold balR balI
 split<;>omega
theorem swDigits_ok (p:PD) (n lv:Nat) (hp:PFit p) (hg:Good p.par) (h:Lv p n lv) (g:Nat→Nat→Nat) (hv:Vg p lv g):Den Tryz.prog 128 [.agg (parL true p),.agg (elL true lv false lv n g)] (.tup [.fz false lv 3 (fun i=>elL false lv true (lv+1) n (dgV p lv g i)),.val (.int .i64 0)]):=by
 refine den_intro (fn:=Tryz.f128) rfl rfl rfl rfl rfl ?_
 have l1:=h.l1
 have l2:=h.l2
 have l24:=h.vp.len2
 have h32:=h.n32
 have hgd:=goodB_iff.2 hg
 have hpc:=pcheck_den p hp
 rw [hgd] at hpc
 refine go ?_
 refine r_call hpc ?_
 refine go ?_
 refine r_eqS 17 (.val (.bool false)) rfl ?_
 refine r_eqS 18 (.agg (parL true p)) rfl ?_
 refine r_eqS 19 (.agg (elL true lv false lv n g)) rfl ?_
 refine go ?_
 refine r_call (rgCheckV_den p n lv false h g hv) ?_
 refine go ?_
 refine c_no ?_
 refine go ?_
 refine r_callO (swdigits_den p n lv g) ?_
 refine go ?_
 refine c_nilcell 1006 0 1941 93 3 (fun i=>elL false lv true (lv+1) n (dgV p lv g i)) ?_
 refine c_range (α:=Empty) [1002,1003,1004,1005,1006] (swdigits1_itr p n lv hp hg h g hv) lv (by simp) (fun k=>[digR p n lv g k]) (fun k hk=>by simp [hk])
  (fun k=>[(106,some (.lit 26 [.sl 1941 3 k])),(1941,some (.arr 93 k 3 (fun i=>elL false lv true (lv+1) n (dgV p lv g i)))),(104,some (.lit 26 [.val (.slice none 0 0)])),(105,some (.lit 34 [.val (.int .i64 0)])),(102,some (.lit 25 (parL true p))),(103,some (.lit 93 (elL true lv false lv n g)))])
  (fun _=>[]) (fun _=>False) (fun _=>.ret) (fun _=>True) trivial (fun k l hk _=>?_) (fun _=>?_) (fun y=>y.elim)
 ·refine go ?_
  refine r_call (rgFromInts_den p n lv true h (fun j=>balR p lv g k j) (fun j=>balR_in h hv k j)) ?_
  refine go ?_
  refine ⟨trivial,?_⟩
  refine sub_arr (1000+41) (fun i=>elL false lv true (lv+1) n (dgV p lv g i)) (appF_snoc rfl) (fun _=>rfl) ?_
  refine sub_toE (1000+41) 1941 ?_
  exact sub
 ·refine go ?_
  refine fin_freeze 1941 ?_
  refine fin ?_
  exact cv

instance fi60:FI Tryz.prog 60 Tryz.f60:=⟨Tryz.func60,Tryz.call60⟩
instance fi141:FI Tryz.prog 141 Tryz.f141:=⟨Tryz.func141,Tryz.call141⟩
instance fi151:FI Tryz.prog 151 Tryz.f151:=⟨Tryz.func151,Tryz.call151⟩
instance fi158:FI Tryz.prog 158 Tryz.f158:=⟨Tryz.func158,Tryz.call158⟩
instance fi51:FI Tryz.prog 51 Tryz.f51:=⟨Tryz.func51,Tryz.call51⟩
theorem guard_good1 {a:Bool} (h:(decide (errI a≠0) == false)=true):a=true:=by
 cases a
 ·simp at h
 ·rfl
structure LG where
 m:Nat
 E:Nat→EG
abbrev lgD (o:Bool) (A:LG):D:=.fz o A.m 3 (fun i=>elD o (A.E i))
theorem sameE_refl (e:EG):sameE e e=true:=by
 have h1:sameR e.m e.m e.ln e.ln e.g e.g=true:=by
  unfold sameR sameW
  simp [evry_iff]
 unfold sameE
 rw [h1]
 simp
theorem law18Same_den (A:LG) (hA:A.m≤1000000) (hm:∀ i,(A.E i).m≤1000000) (hl:∀ i k,(A.E i).ln k≤1000000):Den Tryz.prog 151 [lgD true A,lgD true A] (.val (.bool true)):=by
 refine den_intro (fn:=Tryz.f151) rfl rfl rfl rfl rfl ?_
 refine go ?_
 refine c_up A.m (fun j=>[(5,.val (.int .i64 (j:Nat)))]) (fun j=>[]) (fun j hj=>?_)
 refine go ?_
 refine c_if (fun h3=>?_) (fun h3=>?_)
 ·have hs:=r09Same_den (A.E j) (A.E j) (hm j) (hm j) (hl j) (hl j)
  rw [sameE_refl] at hs
  refine go ?_
  refine r_callO hs ?_
  refine go ?_
  refine c_no ?_
  refine go ?_
  refine ⟨h3,?_⟩
  exact sub
 ·refine go ?_
  refine fin ?_
  exact cv

instance ti82:TI Tryz.prog 82 Tryz.t82 Tryz.t81.desc:=⟨by kernel_rfl,by kernel_rfl⟩
instance sz82:SZ Tryz.prog 82 3:=SZ.of ti82 rfl
instance zr82:ZR Tryz.prog 82 [.int .i64 0,.slice none 0 0,.slice none 0 0]:=ZR.of ti82 rfl rfl rfl
instance bt82:BT Tryz.prog 82 [(0,1),(1,1),(2,1)] [.int .i64 0,.slice none 0 0,.slice none 0 0]:=BT.of (ns:=[1,1,1]) ti82 rfl zr82.zr ⟨sz3.sz,⟨sz26.sz,⟨sz26.sz,trivial⟩⟩⟩ (by intro j;repeat (first | rfl | cases j with | zero=>rfl | succ j=>?_))
instance ft82_0:FT Tryz.prog 82 0 0:=FT.of ti82 rfl ti3 rfl rfl
instance ft82_1:FT Tryz.prog 82 1 1:=FT.of ti82 rfl ti26 rfl rfl
instance ft82_2:FT Tryz.prog 82 2 2:=FT.of ti82 rfl ti26 rfl rfl
def fromB (p:PD) (f:Int):Bool:=decide (f=2) || (decide (f ≤ -3) && decide (-2*p.n<f) && decide (f % 2=1))
theorem and1_neg (f:Int) (h1 : -64≤f) (h2:f ≤ -1):bits .and .i64 f 1=f % 2:=by
 obtain ⟨m,rfl⟩:∃ m:Nat,f = -(m:Int):=⟨f.natAbs,by omega⟩
 have:∀ m:Nat,m<65→0<m→bits .and .i64 (-(m:Int)) 1=(-(m:Int)) % 2:=by decide +kernel
 exact this m (by omega) (by omega)
theorem bw_and {P:Program} {t:TypeId} {ox oy:Operand} {k:IntKind} {x y:Int}:BinR P .and t ox oy (.int k x) (.int k y) (.int k (bits .and k x y)):=fun w=>by
 simp [eqGuard,binOp,Op.intBits,Result.andThen]
 rfl
section
variable {P:Program} {N:Nat} {ops:Array Oper} {rest:List Oper} {env:List (Nat × D)} {box:List (Nat × Option Box)} {done:List Rec} {K:List Rec→List (Nat × D)→List (Nat × Option Box)→Prop} {d:Nat} {ty:TypeId} {pos:String} {aft:Array Edge}
theorem r_bitand {x y:Operand} {t t2:TypeId} {k:IntKind} {u v:Int} (h:RunK P N ops rest ((d,.val (.int k (bits .and k u v)))::env) box (done++[⟨[],some d,.val (.int k (bits .and k u v)),[],[]⟩]) K) (hx:autoParam (Op1 env x (.val (.int k u))) aq1._auto_1) (hy:autoParam (Op1 env y (.val (.int k v))) aq1._auto_1) (hd:Nat.blt d (fsz N)=true:=by rfl):RunK P N ops (⟨some d,.binOp .and t x y t2,ty,pos,aft,none⟩::rest) env box done K:=r_bin hx hy bw_and hd h
end
theorem turns_eq {p:PD} {n:Nat} (hn:p.n=(n:Int)) (n32:n≤32) (f:Int):(decide (f ≤ -3) && decide (-2*p.n<f) && decide (f % 2=1))=(decide (f ≤ -3) && decide (-2*p.n<f) && decide (bits .and .i64 f 1=1)):=by
 by_cases h1:f ≤ -3
 ·by_cases h2 : -2*p.n<f
  ·rw [and1_neg f (by omega) (by omega)]
  ·rw [decide_eq_false h2];simp
 ·rw [decide_eq_false h1];simp
theorem swturns_den (p:PD) (f:Int) (hg:Good p.par):Den Tryz.prog 156 [.agg (parL true p),.val (.int .i64 f)] (.val (.bool (decide (f ≤ -3) && decide (-2*p.n<f) && decide (f % 2=1)))):=by
 obtain ⟨n,hn,n4,n32⟩:=good_n hg
 rw [turns_eq hn n32]
 refine den_intro (fn:=Tryz.f156) rfl rfl rfl rfl rfl ?_
 refine go ?_
 refine g_callM (hl:=fun hb=>r_bitand (run_fin rfl)) (h:=?_)
 refine go ?_
 refine fin ?_
 exact cv
def fitE (p:PD) (e:EG):Bool:=e.sp && decide (e.lv=(p.chain.length:Int)) && eOk p e
theorem swCheckKey1_den (p:PD) (hvp:VP p) (e:EG) (hln:∀ k,e.ln k≤1000000) (hm:e.m≤1000000):Den Tryz.prog 153 [.agg (elD true e),.fptr true (parL true p)] (.val (.bool (fitE p e))):=by
 refine den_intro (fn:=Tryz.f153) rfl rfl rfl rfl rfl ?_
 have l24:=hvp.len2
 refine go ?_
 refine g_callM (hl:=fun hb=>r_call (rgCheck_den p hvp e.lv e.sp e.m e.ln e.g hln hm) (run_fin rfl)) (h:=?_)
 refine go ?_
 unfold fitE
 rw [show eOk p e=decide (errI (elOk p e.lv e.sp e.m e.ln e.g)=0) from (errI_0 _).symm]
 refine fin ?_
 exact cv
theorem swall_den (A:LG) (T:EG→Bool) {fl:FuncId} {fn:Func} [FI Tryz.prog fl fn] (l1:List D) [OldDL l1] (hA:A.m≤1000000) (hT:∀ i,i<A.m→Den Tryz.prog fl [.agg (elD true (A.E i)),.fptr true l1] (.val (.bool (T (A.E i))))):Den Tryz.prog 157 [lgD true A,.clo fl [.fptr true l1]] (.val (.bool (evry (fun i=>T (A.E i)) A.m))):=by
 refine den_intro (fn:=Tryz.f157) rfl rfl rfl rfl rfl ?_
 refine go ?_
 refine c_down (fun j=>A.m - j) (fun j=>j≤A.m∧∀ k,k<j→T (A.E k)=true) (fun j:Nat=>[(9,.val (.int .i64 (j:Int)))]) (fun _=>[]) 0 (fun j ⟨hj,hp⟩=>?_) ⟨by omega,fun e he=>by omega⟩
 refine go ?_
 refine c_if (fun h3=>?_) (fun h3=>?_)
 ·refine go ?_
  refine r_callO (hT j h3) ?_
  refine go ?_
  refine c_ifB (fun h4=>?_) (fun h4=>?_)
  ·refine go ?_
   refine fin ?_
   rw [evry_no (f:=fun i=>T (A.E i)) h3 (by simpa using h4)]
   exact cv
  ·refine go ?_
   refine ⟨j+1,⟨by omega,fun i hi=>?_⟩,by omega,?_⟩
   ·by_cases q:i<j
    ·exact hp i q
    ·obtain rfl:i=j:=by omega
     simpa using h4
   ·exact sub
 ·refine go ?_
  refine fin ?_
  rw [evry_iff.2 (fun k hk=>hp k (by omega))]
  exact cv

abbrev keyD (o:Bool) (f:Int) (A B:LG):List D:=[.val (.int .i64 f),lgD o A,lgD o B]
noncomputable def keyB (p:PD) (f:Int) (A B:LG):Bool:=goodB p && fromB p f && decide (A.m=p.chain.length) && decide (B.m=p.chain.length) && evry (fun i=>fitE p (A.E i)) A.m && evry (fun i=>fitE p (B.E i)) B.m
structure LFit (A:LG):Prop where
 m:A.m≤1000000
 e:∀ i,(A.E i).m≤1000000
 l:∀ i k,(A.E i).ln k≤1000000
theorem swCheckKey_den (p:PD) (hp:PFit p) (f:Int) (A B:LG) (hA:LFit A) (hB:LFit B):Den Tryz.prog 59 [.agg (parL true p),.agg (keyD true f A B)] (.val (.int .i64 (errI (keyB p f A B)))):=by
 refine den_intro (fn:=Tryz.f59) rfl rfl rfl rfl rfl ?_
 refine c_sreg ?_
 refine gor ?_
 refine c_frz 1002 ?_
 refine c_slot 2 (.fptr false (parL true p)) ?_
 refine go ?_
 refine r_call (pcheck_den p hp) ?_
 refine go ?_
 refine c_ifB (fun h1=>?_) (fun h1=>?_)
 ·refine go ?_
  refine fin ?_
  rw [show keyB p f A B=false by
   unfold keyB
   cases q:goodB p with
   | true=>rw [q] at h1;exact absurd h1 (by decide)
   | false=>rfl]
  exact cv
 ·have hgb:goodB p=true:=guard_good1 (by rw [h1];rfl)
  have hg:=goodB_iff.1 hgb
  have hvp:=good_VP hg
  have l24:=hvp.len2
  have hAm:=hA.m
  have hBm:=hB.m
  refine go ?_
  refine g_callM (hl:=fun hb=>r_call (swturns_den p f hg) (run_fin rfl)) (h:=?_)
  refine go ?_
  refine c_ifB (fun h2=>?_) (fun h2=>?_)
  ·refine go ?_
   refine fin ?_
   rw [show keyB p f A B=false by
    have:fromB p f=false:=by
     unfold fromB
     by_cases q:f=2
     ·rw [decide_eq_false (show ¬ f≠2 by simp [q])] at h2;cases h2
     ·rw [decide_eq_true (show f≠2 from q),Bool.true_and] at h2
      rw [decide_eq_false q,Bool.false_or]
      exact (Bool.not_eq_true' _).mp h2
    unfold keyB
    rw [this];simp]
   exact cv
  ·have hf:fromB p f=true:=by
    unfold fromB
    by_cases q:f=2
    ·rw [decide_eq_true q];rfl
    ·rw [decide_eq_true (show f≠2 from q),Bool.true_and] at h2
     rw [decide_eq_false q,Bool.false_or]
     exact (Bool.not_eq_false' _).mp h2
   refine go ?_
   refine c_if (fun h3=>?_) (fun h3=>?_)
   ·refine go ?_
    refine fin ?_
    rw [show keyB p f A B=false by unfold keyB;rw [decide_eq_false (show ¬ A.m=p.chain.length from h3)];simp]
    exact cv
   ·replace h3:A.m=p.chain.length:=by omega
    refine go ?_
    refine c_if (fun h4=>?_) (fun h4=>?_)
    ·refine go ?_
     refine fin ?_
     rw [show keyB p f A B=false by unfold keyB;rw [decide_eq_false (show ¬ B.m=p.chain.length from h4)];simp]
     exact cv
    ·replace h4:B.m=p.chain.length:=by omega
     refine go ?_
     refine r_callO (swall_den A (fitE p) (parL true p) hA.m (fun i hi=>swCheckKey1_den p hvp (A.E i) (hA.l i) (hA.e i))) ?_
     refine go ?_
     refine c_ifB (fun h5=>?_) (fun h5=>?_)
     ·refine go ?_
      refine fin ?_
      rw [show keyB p f A B=false by unfold keyB;rw [show evry (fun i=>fitE p (A.E i)) A.m=false by simpa using h5];simp]
      exact cv
     ·refine go ?_
      refine r_callO (swall_den B (fitE p) (parL true p) hB.m (fun i hi=>swCheckKey1_den p hvp (B.E i) (hB.l i) (hB.e i))) ?_
      refine go ?_
      refine c_ifB (fun h6=>?_) (fun h6=>?_)
      ·refine go ?_
       refine fin ?_
       rw [show keyB p f A B=false by unfold keyB;rw [show evry (fun i=>fitE p (B.E i)) B.m=false by simpa using h6];simp]
       exact cv
      ·refine go ?_
       refine fin ?_
       rw [show keyB p f A B=true by unfold keyB;rw [hgb,hf,decide_eq_true h3,decide_eq_true h4,show evry (fun i=>fitE p (A.E i)) A.m=true by simpa using h5,show evry (fun i=>fitE p (B.E i)) B.m=true by simpa using h6];rfl]
       exact cv

instance fi217:FI Tryz.prog 217 Tryz.f217:=⟨Tryz.func217,Tryz.call217⟩
section
variable {P:Program} {N:Nat} {ops:Array Oper} {rest:List Oper} {env:List (Nat × D)} {box:List (Nat × Option Box)} {done:List Rec} {K:List Rec→List (Nat × D)→List (Nat × Option Box)→Prop} {d:Nat} {ty:TypeId} {pos:String} {aft:Array Edge}
theorem r_negi {x:Operand} {t:TypeId} {k:IntKind} {u:Int} (hn:InK k (-u)) (h:RunK P N ops rest ((d,.val (.int k (-u)))::env) box (done++[⟨[],some d,.val (.int k (-u)),[],[]⟩]) K) (hx:autoParam (Op1 env x (.val (.int k u))) aq1._auto_1) (hd:Nat.blt d (fsz N)=true:=by rfl):RunK P N ops (⟨some d,.unOp .neg t x,ty,pos,aft,none⟩::rest) env box done K:=r_un hx (un_neg hn) hd h
end
theorem r13Auto_den (p:PD) (k:Int) (hg:Good p.par):Den Tryz.prog 217 [.agg (parL true p),.val (.int .i64 k)] (.val (.bool (decide (1≤k) && decide (k<2*p.n) && decide (k.tmod 2=1)))):=by
 obtain ⟨n,hn,n4,n32⟩:=good_n hg
 rw [show (2:Int)*p.n=((2*n:Nat):Int) by omega]
 refine den_intro (fn:=Tryz.f217) rfl rfl rfl rfl rfl ?_
 refine go ?_
 refine fin ?_
 exact cv
theorem from_eq {p:PD} {n:Nat} (hn:p.n=(n:Int)) (n32:n≤32) (f:Int):fromB p f=(decide (f=2) || (decide (f ≤ -3) && decide (-2*p.n<f) && (decide (1 ≤ -f) && decide (-f<2*p.n) && decide ((-f).tmod 2=1)))):=by
 unfold fromB
 by_cases h1:f ≤ -3
 ·by_cases h2 : -2*p.n<f
  ·rw [decide_eq_true (show 1 ≤ -f by omega),decide_eq_true (show -f<2*p.n by omega)]
   have:(f % 2=1)=((-f).tmod 2=1):=by
    rw [Int.tmod_eq_emod_of_nonneg (by omega)]
    exact propext (by omega)
   simp only [this,Bool.true_and]
  ·rw [decide_eq_false h2];simp
 ·rw [decide_eq_false h1];simp
theorem from_guard {a f m:Int} (h:(decide (f=a) == false && (decide (f ≤ -3) && decide (m<f)) == true)=true):f ≤ -3∧m<f:=by
 simp at h
 exact h.2
theorem r18from_den (p:PD) (f:Int) (hg:Good p.par):Den Tryz.prog 141 [.agg (parL true p),.val (.int .i64 f)] (.val (.bool (fromB p f))):=by
 obtain ⟨n,hn,n4,n32⟩:=good_n hg
 rw [from_eq hn n32]
 refine den_intro (fn:=Tryz.f141) rfl rfl rfl rfl rfl ?_
 refine go ?_
 refine g_call (hl:=fun hb=>r_negi (k:=.i64) (u:=f) (by have:=from_guard hb;show _∧_;omega) (run_fin rfl)) (h:=?_)
 refine go ?_
 refine g_call (hl:=fun hb=>r_call (r13Auto_den p (-f) hg) (run_fin rfl)) (h:=?_)
 refine go ?_
 refine fin ?_
 exact cv
theorem r13Top_den (p:PD) (hvp:VP p) (hs:p.special≠0) (e:EG) (hln:∀ k,e.ln k≤1000000) (hm:e.m≤1000000):Den Tryz.prog 158 [.agg (parL true p),.agg (elD true e),.val (.bool true)] (.val (.bool (fitE p e))):=by
 refine den_intro (fn:=Tryz.f158) rfl rfl rfl rfl rfl ?_
 refine go ?_
 refine r_call (r09Check_den p hvp hs e hln hm) ?_
 refine go ?_
 rw [show fitE p e=(decide (errI (eOk p e)=0) && decide (e.lv=(p.chain.length:Int)) && (e.sp == true)) by
  unfold fitE
  rw [errI_0]
  cases e.sp<;>cases eOk p e<;>simp]
 refine fin ?_
 exact cv

instance ti72:TI Tryz.prog 72 Tryz.t72 (.slice 214):=⟨by kernel_rfl,by kernel_rfl⟩
instance ti74:TI Tryz.prog 74 Tryz.t74 Tryz.t73.desc:=⟨by kernel_rfl,by kernel_rfl⟩
instance ti214:TI Tryz.prog 214 Tryz.t214 (.int .i8):=⟨by kernel_rfl,by kernel_rfl⟩
instance sz72:SZ Tryz.prog 72 1:=SZ.of ti72 rfl
instance zr72:ZR Tryz.prog 72 [.slice none 0 0]:=ZR.of ti72 rfl rfl rfl
instance et72:ET Tryz.prog 72 1:=ET.of ti72 ti214 rfl
instance sz74:SZ Tryz.prog 74 1:=SZ.of ti74 rfl
instance zr74:ZR Tryz.prog 74 [.slice none 0 0]:=ZR.of ti74 rfl rfl rfl
instance bt74:BT Tryz.prog 74 [(0,1)] [.slice none 0 0]:=BT.of (ns:=[1]) ti74 rfl zr74.zr ⟨sz72.sz,trivial⟩ (by intro j;repeat (first | rfl | cases j with | zero=>rfl | succ j=>?_))
instance ft74_0:FT Tryz.prog 74 0 0:=FT.of ti74 rfl ti72 rfl rfl
instance sz214:SZ Tryz.prog 214 1:=SZ.of ti214 rfl
instance fi140:FI Tryz.prog 140 Tryz.f140:=⟨Tryz.func140,Tryz.call140⟩
instance fi218:FI Tryz.prog 218 Tryz.f218:=⟨Tryz.func218,Tryz.call218⟩
instance fi219:FI Tryz.prog 219 Tryz.f219:=⟨Tryz.func219,Tryz.call219⟩
instance fi150:FI Tryz.prog 150 Tryz.f150:=⟨Tryz.func150,Tryz.call150⟩
abbrev scL (o:Bool) (n:Nat) (x:Nat→Int):List D:=[.fz o n 1 (fun j=>[.val (.int .i8 (x j))])]
noncomputable def scB (p:PD) (n:Nat) (x:Nat→Int):Bool:=goodB p && decide ((n:Int)=p.n) && evry (triB x) n && decide ((wt x n:Int)=p.weight)
theorem r13CheckSecret_den (p:PD) (hp:PFit p) (n:Nat) (x:Nat→Int) (hn:n≤1000000) (hx:∀ j, -128≤x j∧x j≤127):Den Tryz.prog 140 [.agg (parL true p),.agg (scL true n x)] (.val (.int .i64 (errI (scB p n x)))):=by
 refine den_intro (fn:=Tryz.f140) rfl rfl rfl rfl rfl ?_
 refine go ?_
 refine r_call (r12check_den p hp) ?_
 refine go ?_
 refine c_ifB (fun h1=>?_) (fun h1=>?_)
 ·refine go ?_
  refine fin ?_
  rw [show scB p n x=false by
   unfold scB
   cases q:goodB p with
   | false=>rfl
   | true=>
    rw [q] at h1
    by_cases q2:(n:Int)=p.n
    ·simp [errI,q2] at h1
    ·rw [decide_eq_false q2];rfl]
  exact cv
 have hgd:goodB p=true∧(n:Int)=p.n:=by
  cases q:goodB p with
  | false=>rw [q] at h1;simp [errI] at h1
  | true=>rw [q] at h1;simp [errI] at h1;exact ⟨rfl,h1⟩
 refine go ?_
 refine c_down (fun j=>n - j) (fun j=>j≤n∧∀ k,k<j→triB x k=true) (fun j:Nat=>[(6,.val (.int .i64 (j:Int))),(5,.val (.int .i64 ((wt x j:Nat):Int)))]) (fun _=>[]) 0 (fun j ⟨hj,hF⟩=>?_) ⟨by omega,fun e he=>by omega⟩
 refine go ?_
 have hxj:=hx j
 have hw:=wt_le x j
 refine c_if (fun h3=>?_) (fun h3=>?_)
 ·refine go ?_
  refine c_ifB (fun h4=>?_) (fun h4=>?_)
  ·refine go ?_
   refine fin ?_
   rw [show scB p n x=false by
    unfold scB
    rw [evry_no (f:=triB x) h3 (by unfold triB;simp at h4 ⊢;omega)]
    simp]
   exact cv
  ·have ht:triB x j=true:=by unfold triB;simp at h4 ⊢;omega
   have hF':∀ k,k<j+1→triB x k=true:=fun i hi=>by
    by_cases q:i<j
    ·exact hF i q
    ·obtain rfl:i=j:=by omega
     exact ht
   refine go ?_
   refine c_if (fun h5=>?_) (fun h5=>?_)
   ·have e:wt x (j+1)=wt x j+1:=if_neg h5
    refine go ?_
    refine ⟨j+1,⟨by omega,hF'⟩,by omega,?_⟩
    rw [e]
    exact sub
   ·have e:wt x (j+1)=wt x j:=if_pos (by omega)
    refine go ?_
    refine ⟨j+1,⟨by omega,hF'⟩,by omega,?_⟩
    rw [e]
    exact sub
 ·obtain rfl:j=n:=by omega
  refine go ?_
  refine c_if (fun h5=>?_) (fun h5=>?_)
  ·refine go ?_
   refine fin ?_
   rw [show scB p j x=false by unfold scB;rw [decide_eq_false h5];simp]
   exact cv
  ·refine go ?_
   refine fin ?_
   rw [show scB p j x=true by unfold scB;rw [hgd.1,decide_eq_true hgd.2,evry_iff.2 hF,decide_eq_true (by omega)];rfl]
   exact cv
theorem r13Ints_den (n:Nat) (x:Nat→Int) (hn:n≤1000000) (hx:∀ j, -128≤x j∧x j≤127):Den Tryz.prog 150 [.agg (scL true n x)] (intsD false n x):=by
 refine den_intro (fn:=Tryz.f150) rfl rfl rfl rfl rfl ?_
 refine go ?_
 refine c_nil 3 1900 2 1 (fun j=>[.val (.int .i64 (x j))]) ?_
 refine c_up n (fun j=>[(3,.sl 1900 1 j),(4,.val (.int .i64 (j:Nat)))]) (fun j=>[(1900,some (.arr 2 j 1 (fun j=>[.val (.int .i64 (x j))])))]) (fun j hj=>?_)
 refine go ?_
 have hxj:=hx j
 refine c_if (fun h3=>?_) (fun h3=>?_)
 ·refine go ?_
  refine ⟨h3,?_⟩
  refine sub_arr (1000+20) (fun j=>[.val (.int .i64 (x j))]) (appF_snoc rfl) (fun _=>rfl) ?_
  refine sub_toL [12] (1000+20) 1900 ?_
  exact sub
 obtain rfl:j=n:=by omega
 refine go ?_
 refine fin_freeze 1900 ?_
 refine fin ?_
 exact cv
theorem sc_all {p:PD} {n:Nat} {x:Nat→Int} (h:scB p n x=true):Good p.par∧p.n=(n:Int)∧∀ j,j<n → -1≤x j∧x j≤1:=by
 unfold scB at h
 simp only [Bool.and_eq_true,decide_eq_true_eq,evry_iff] at h
 refine ⟨goodB_iff.1 h.1.1.1,h.1.1.2.symm,fun j hj=>?_⟩
 have:=h.1.2 j hj
 unfold triB at this
 simpa using this
theorem setE_putI {kd:IntKind} {h h':Nat→Int} {j n:Nat} {v:Int} (hv:v=h' j) (ho:∀ e,e<n→e≠j→h' e=h e) (e:Nat) (he:e<n):setE (fun e=>[.val (.int kd (h e))]) j 0 [.val (.int kd v)] e=[.val (.int kd (h' e))]:=by
 subst hv
 unfold setE
 by_cases q:e=j
 ·subst q;simp [setL,takeL,dropL]
 ·simp [q,ho e he q]
abbrev rowI (t:TypeId) (kd:IntKind) (n:Nat) (h:Nat→Int):Box:=.arr t n 1 (fun e=>[.val (.int kd (h e))])
section
variable {E2:Nat→D} {H2:Nat→Option Box} {env:List (Nat × D)} {box:List (Nat × Option Box)} {t:TypeId} {kd:IntKind}
theorem row_putI (k:Nat) {n j:Nat} {v:Int} {h:Nat→Int} (h':Nat→Int) (hv:v=h' j) (ho:∀ e,e<n→e≠j→h' e=h e) (g:Sub (lk env) (hk ((k,some (rowI t kd n h'))::box)) E2 H2) (hb:autoParam (Bl box k (.arr t n 1 (setE (fun e=>[.val (.int kd (h e))]) j 0 [.val (.int kd v)]))) aq6._auto_1):Sub (lk env) (hk box) E2 H2:=sub_arr k _ (fun e he=>setE_putI hv ho e he) (fun _=>rfl) g hb
end
theorem r13Turned_den (p:PD) (hp:PFit p) (n:Nat) (x:Nat→Int) (hg:Good p.par) (hN:p.n=(n:Int)) (h:scB p n x=true) (hx:∀ j, -1≤x j∧x j≤1) (k:Nat) (hk1:1≤k) (hk2:k<2*n) (hk3:k % 2=1):Den Tryz.prog 219 [.agg (parL true p),.agg (scL true n x),.val (.int .i64 (k:Int))] (.tup [.agg (scL false n (tR n k x n)),.val (.int .i64 0)]):=by
 refine den_intro (fn:=Tryz.f219) rfl rfl rfl rfl rfl ?_
 obtain ⟨n',hn',n4,n32⟩:=good_n hg
 obtain rfl:n'=n:=by omega
 have hNN:NatIs p.n n':=hN
 have hck:=r13CheckSecret_den p hp n' x (by omega) (fun j=>by have:=hx j;omega)
 rw [h] at hck
 have hau:=r13Auto_den p (k:Int) hg
 rw [show (decide (1≤(k:Int)) && decide ((k:Int)<2*p.n) && decide ((k:Int).tmod 2=1))=true by
  rw [decide_eq_true (by omega),decide_eq_true (by omega),decide_eq_true (by rw [Int.tmod_eq_emod_of_nonneg (by omega)];omega)];rfl] at hau
 refine go ?_
 refine r_call hck ?_
 refine go ?_
 refine g_callM (hl:=fun hb=>r_call hau (run_fin rfl)) (h:=?_)
 refine go ?_
 refine c_ifB (fun q=>?_) (fun q=>?_)
 ·exfalso
  simp [errI] at q
 clear q
 refine go ?_
 refine c_arr (1000+24) (fun e=>[.val (.int .i8 (tR n' k x 0 e))]) (fun e he=>rfl) (fun _=>rfl) ?_
 refine c_up n' (fun j=>[(9,.val (.int .i64 (j:Nat)))]) (fun j=>[(1024,some (rowI 214 .i8 n' (tR n' k x j)))]) (fun j hj=>?_)
 refine go ?_
 have hxj:=hx j
 have hjk:j*k≤32*64:=Nat.mul_le_mul (by omega) (by omega)
 have hat:j*k % (2*n')<2*n':=Nat.mod_lt _ (by omega)
 refine c_if (fun h3=>?_) (fun h3=>?_)
 ·refine go ?_
  refine c_if (fun h6=>?_) (fun h6=>?_)
  ·refine go ?_
   refine ⟨h3,?_⟩
   refine row_putI 1024 (tR n' k x (j+1)) (tR_lo h6 rfl) (fun e _ he=>tR_other (by rw [auP_lo h6];exact he)) ?_
   exact sub
  ·refine go ?_
   refine ⟨h3,?_⟩
   refine row_putI 1024 (tR n' k x (j+1)) (tR_hi h6 rfl) (fun e _ he=>tR_other (by rw [auP_hi h6];exact he)) ?_
   exact sub
 ·obtain rfl:j=n':=by omega
  refine go ?_
  refine fin_freeze 1024 ?_
  refine fin ?_
  exact cv
theorem r13Power2_den (p:PD) (hp:PFit p) (n:Nat) (x:Nat→Int) (hg:Good p.par) (hN:p.n=(n:Int)) (h:scB p n x=true) (hx:∀ j, -1≤x j∧x j≤1):Den Tryz.prog 218 [.agg (parL true p),.agg (scL true n x),.val (.int .i64 2)] (.tup [intsD false n (pw x n 2),.val (.int .i64 0)]):=by
 refine den_intro (fn:=Tryz.f218) rfl rfl rfl rfl rfl ?_
 obtain ⟨n',hn',n4,n32⟩:=good_n hg
 obtain rfl:n'=n:=by omega
 have hNN:NatIs p.n n':=hN
 have hck:=r13CheckSecret_den p hp n' x (by omega) (fun j=>by have:=hx j;omega)
 rw [h] at hck
 refine go ?_
 refine r_call hck ?_
 refine go ?_
 refine c_ifB (fun q=>?_) (fun q=>?_)
 ·exfalso
  simp [errI] at q
 clear q
 refine go ?_
 refine awp_sub (sub_toL [27,28,29] (1000+27) 1900 (Sub.refl _ _)) ?_
 refine c_arr 1900 (fun e=>[.val (.int .i64 (pw x n' 0 e))]) (fun e he=>?_) (fun _=>rfl) ?_
 ·unfold setE
  by_cases q:e=0
  ·subst q;rfl
  ·rw [if_neg (show ¬ e=Int.toNat 0 from q)]
   show [D.val (Value.int .i64 0)]=[D.val (Value.int .i64 (pw x n' 0 e))]
   rw [show pw x n' 0 e=0 from if_neg q]
 refine c_down (fun m=>2 - m) (fun m=>m≤2) (fun m:Nat=>[(2,.val (.int .i64 (2 - (m:Int)))),(8,.sl 1900 1 n')]) (fun m=>[(1900,some (rowI 2 .i64 n' (pw x n' m)))]) 0 (fun m hm=>?_) (by omega)
 refine go ?_
 refine c_if (fun h3=>?_) (fun h3=>?_)
 ·have ha:∀ j, -((1024:Nat):Int)≤pw x n' m j∧pw x n' m j≤((1024:Nat):Int):=fun j=>by
   obtain rfl | rfl:m=0∨m=1:=by omega
   ·have:=pw0_in (x:=x) (n:=n') j;omega
   ·exact pw1_in n32 hx j
  have hM:∀ t,t<n'→zS (pw x n' m) x n' n' 0 t=pw x n' (m+1) t:=fun t ht=>by
   unfold zS pw
   rw [if_pos ht]
   simp [zk]
  generalize hpa:pw x n' m=a at ha hM ⊢
  clear hpa
  refine go ?_
  refine c_arr (1000+36) (fun e=>[.val (.int .i64 (zS a x n' 0 0 e))]) (fun e he=>rfl) (fun _=>rfl) ?_
  refine c_up n' (fun i=>[(10,.val (.int .i64 (i:Nat)))]) (fun i=>[(1036,some (rowI 2 .i64 n' (zS a x n' i 0)))]) (fun i hi=>?_)
  refine go ?_
  refine c_if (fun h4=>?_) (fun h4=>?_)
  ·refine go ?_
   refine c_up n' (fun k=>[(11,.val (.int .i64 (k:Nat)))]) (fun k=>[(1036,some (rowI 2 .i64 n' (zS a x n' i k)))]) (fun k hk=>?_)
   refine go ?_
   have hxk:=hx k
   have hpr:=mul_tri (ha i) (hx k)
   have hz1:=zS_in ha hx n32 (by omega) (show i≤32 by omega) (show k≤32 by omega) (i+k)
   have hz2:=zS_in ha hx n32 (by omega) (show i≤32 by omega) (show k≤32 by omega) (i+k - n')
   refine c_if (fun h5=>?_) (fun h5=>?_)
   ·refine go ?_
    refine c_if (fun h6=>?_) (fun h6=>?_)
    ·refine go ?_
     refine ⟨h5,?_⟩
     refine row_putI 1036 (zS a x n' i (k+1)) (zS_lo h6).symm (fun e he hne=>zS_other he (fun q=>hne q.symm) (by omega)) ?_
     exact sub
    ·refine go ?_
     refine ⟨h5,?_⟩
     refine row_putI 1036 (zS a x n' i (k+1)) (zS_hi h6 (by omega)).symm (fun e he hne=>zS_other he (by omega) (by omega)) ?_
     exact sub
   ·obtain rfl:k=n':=by omega
    refine go ?_
    refine ⟨h4,?_⟩
    refine sub_arr 1036 (n:=k) (f:=fun e=>[.val (.int .i64 (zS a x k i k e))]) (fun e=>[.val (.int .i64 (zS a x k (i+1) 0 e))]) (fun e he=>by rw [zS_next]) (fun _=>rfl) ?_
    exact sub
  ·obtain rfl:i=n':=by omega
   refine go ?_
   refine ⟨m+1,by omega,by omega,?_⟩
   refine sub_arr 1036 (n:=i) (f:=fun e=>[.val (.int .i64 (zS a x i i 0 e))]) (fun e=>[.val (.int .i64 (pw x i (m+1) e))]) (fun e he=>by rw [hM e he]) (fun _=>rfl) ?_
   refine sub_toL [9,36,98] 1036 1900 ?_
   exact sub
 ·obtain rfl:m=2:=by omega
  refine go ?_
  refine fin_freeze 1900 ?_
  refine fin ?_
  exact cv

instance fi143:FI Tryz.prog 143 Tryz.f143:=⟨Tryz.func143,Tryz.call143⟩
instance (a b:Value):NoName [.val a,.val b]:=⟨rfl⟩
instance (a b c:Value):NoName [.val a,.val b,.val c]:=⟨rfl⟩
def dw (p:PD) (L0 k:Nat):Nat:=if k % (L0+2)<L0+1 then modQ p L0 (k % (L0+2)) else 2*p.err+1
def dS (s:ByteArray) (p:PD) (n L0:Nat):Nat→Nat
 | 0=>0
 | k+1=>match tkL s (dw p L0 k) n (dS s p n L0 k) with
  | some (_,d)=>d
  | none=>dS s p n L0 k
def dV (s:ByteArray) (p:PD) (n L0 k j:Nat):Nat:=match tkL s (dw p L0 k) n (dS s p n L0 k) with
 | some (l,_)=>l.getD j 0
 | none=>0
def dBad (s:ByteArray) (p:PD) (n L0 k:Nat):Bool:=(tkL s (dw p L0 k) n (dS s p n L0 k)).isNone
section
variable {s:ByteArray} {p:PD} {n L0:Nat}
theorem dS_le:∀ k,dS s p n L0 k≤8*s.size
 | 0=>Nat.zero_le _
 | k+1=>by
  unfold dS
  split
  ·exact (tkL_spec (dS_le k) ‹_›).2.2.2
  ·exact dS_le k
theorem d_no {k:Nat} (h:dBad s p n L0 k=true):tkL s (dw p L0 k) n (dS s p n L0 k)=none:=by
 unfold dBad at h
 cases q:tkL s (dw p L0 k) n (dS s p n L0 k) with
 | none=>rfl
 | some x=>rw [q] at h;cases h
theorem d_ok {k:Nat} (h:dBad s p n L0 k=false):∃ l:List Nat,tkL s (dw p L0 k) n (dS s p n L0 k)=some (l,dS s p n L0 (k+1))∧l.length=n∧∀ j,dV s p n L0 k j=l.getD j 0:=by
 unfold dBad at h
 cases q:tkL s (dw p L0 k) n (dS s p n L0 k) with
 | none=>rw [q] at h;cases h
 | some x=>
  obtain ⟨l,d⟩:=x
  refine ⟨l,?_,(tkL_spec (dS_le k) q).1,fun j=>by unfold dV;rw [q]⟩
  rw [show dS s p n L0 (k+1)=d by show (match tkL s (dw p L0 k) n (dS s p n L0 k) with | some (_,d)=>d | none=>dS s p n L0 k)=d;rw [q]]
theorem dV_lt {k:Nat} (h0:0<dw p L0 k) (j:Nat):dV s p n L0 k j<dw p L0 k:=by
 unfold dV
 split
 ·rename_i l d q
  have:=(tkL_spec (dS_le k) q).2.1
  rw [List.getD_eq_getElem?_getD]
  by_cases h:j<l.length
  ·rw [List.getElem?_eq_getElem h];exact this _ (List.getElem_mem h)
  ·rw [List.getElem?_eq_none (by omega)];exact h0
 ·exact h0
end
theorem getD_cast (l:List Nat) (j:Nat) (f:Nat→Int) (h0:f 0=0):(l.map f).getD j 0=f (l.getD j 0):=by
 rw [List.getD_eq_getElem?_getD,List.getD_eq_getElem?_getD,List.getElem?_map]
 cases l[j]?<;>simp [h0]
theorem list_row {o:Bool} {l:List Nat} {n:Nat} (h:l.length=n):Cvt (listD .u32 o (l.map (fun v:Nat=>(v:Int)))) (u32sF o n (fun j=>l.getD j 0)):=by
 subst h
 refine .of_eq ?_
 show D.fz o (l.map (fun v:Nat=>(v:Int))).length 1 _=D.fz o l.length 1 _
 rw [List.length_map]
 congr 1
 funext k
 rw [getD_cast l k (fun v:Nat=>(v:Int)) rfl]
theorem refUniform_ok (s:ByteArray) (c d q n:Nat) (l:List Nat) (hs:s.size≤1048576) (hc:c≤8*s.size) (hq0:1≤q) (hq:q≤4294967295) (hn:n≤4096) (hk:tkL s q n c=some (l,d)) (V:Nat→Nat) (hV:∀ j,V j=l.getD j 0) (hl:l.length=n):DenH Tryz.prog 220 [.eptr 0 0 0 0,.val (.int .i64 (n:Int)),.val (.int .u32 (q:Int))] [(0,.lit 144 (rfD s c))] (.tup [u32sF false n V,.val (.int .i64 0)]) [(0,.lit 144 (rfD s d))] []:=by
 have h:=refUniform_den s c q (n:Int) hs hc hq
 have e:uniformR s c (n:Int) q=(l.map (fun v:Nat=>(v:Int)),0,d):=by
  unfold uniformR
  rw [if_neg (by omega),Int.toNat_natCast,hk]
 rw [e] at h
 rw [show V=fun j=>l.getD j 0 from funext hV]
 exact h.res (Cvt.tup (.cons (list_row hl) (.cons (.of_eq rfl) .nil)))
theorem refUniform_no (s:ByteArray) (c q n:Nat) (hs:s.size≤1048576) (hc:c≤8*s.size) (hq0:1≤q) (hq:q≤4294967295) (hn:n≤4096) (hk:tkL s q n c=none):DenH Tryz.prog 220 [.eptr 0 0 0 0,.val (.int .i64 (n:Int)),.val (.int .u32 (q:Int))] [(0,.lit 144 (rfD s c))] (.tup [listD .u32 false [],.val (.int .i64 4)]) [(0,.lit 144 (rfD s c))] []:=by
 have h:=refUniform_den s c q (n:Int) hs hc hq
 have e:uniformR s c (n:Int) q=([],4,c):=by
  unfold uniformR
  rw [if_neg (by omega),Int.toNat_natCast,hk]
 rw [e] at h
 exact h
section
variable (s:ByteArray) (hs:s.size≤1048576) (p:PD) (n L0:Nat) (hL:Lv p n L0) (ht:L0=p.chain.length) (k0:Nat) (hk0:k0 % (L0+2)=0)
include hk0
theorem dw_row {i:Nat} (hi:i<L0+1):dw p L0 (k0+i)=modQ p L0 i:=by
 unfold dw
 rw [Nat.add_mod,hk0,Nat.zero_add,Nat.mod_mod,Nat.mod_eq_of_lt (by omega),if_pos hi]
theorem dw_err:dw p L0 (k0+(L0+1))=2*p.err+1:=by
 unfold dw
 rw [Nat.add_mod,hk0,Nat.zero_add,Nat.mod_mod,Nat.mod_eq_of_lt (by omega),if_neg (by omega)]
include hs hL ht
theorem r13Uniform_ok (hok:∀ i,i<L0+1→dBad s p n L0 (k0+i)=false):DenH Tryz.prog 143 [.agg (parL true p),.val (.int .i64 (L0:Int)),.val (.bool true),.eptr 0 0 0 0] [(0,.lit 144 (rfD s (dS s p n L0 k0)))] (.tup [.agg (elL false L0 true (L0+1) n (fun i x=>dV s p n L0 (k0+i) x)),.val (.int .i64 0)]) [(0,.lit 144 (rfD s (dS s p n L0 (k0+(L0+1)))))] []:=by
 refine den_intro (fn:=Tryz.f143) rfl rfl rfl rfl rfl ?_
 have hN:NatIs p.n n:=hL.n
 have h32:=hL.n32
 have l2:=hL.l2
 have l24:=hL.vp.len2
 have hm:=modQ_in hL.vp hL.sp hL.l2
 have hrow:∀ i,i<L0+1→DenH Tryz.prog 220 [.eptr 0 0 0 0,.val (.int .i64 p.n),.val (.int .u32 ((modQ p L0 i:Nat):Int))] [(0,.lit 144 (rfD s (dS s p n L0 (k0+i))))] (.tup [u32sF false n (dV s p n L0 (k0+i)),.val (.int .i64 0)]) [(0,.lit 144 (rfD s (dS s p n L0 (k0+(i+1)))))] []:=fun i hi=>by
  obtain ⟨l,h1,h2,h3⟩:=d_ok (hok i hi)
  rw [dw_row p L0 k0 hk0 hi] at h1
  rw [hL.n]
  exact refUniform_ok s _ _ _ n l hs (dS_le _) (by have:=hm i;omega) (by have:=hm i;omega) (by omega) h1 _ h3 h2
 generalize dS s p n L0=S at *
 generalize dV s p n L0=V at *
 refine go ?_
 refine r_bsl0 1 (fun _=>[]) ?_
 refine go ?_
 refine c_arr (1000+26) (fun k=>[.val (.int .u32 ((modQ p L0 k:Nat):Int))]) (fun e he=>?_) (fun _=>rfl) ?_
 ·unfold modQ
  by_cases q:e<L0
  ·rw [appF_lt (by omega),if_pos q]
   show [D.val (.int .u32 ((p.chain.getD (0+e) 0:Nat):Int))]=_
   rw [Nat.zero_add]
  ·rw [appF_ge (by omega),if_neg q,show e - (0+(L0 - 0))=0 by omega];rfl
 refine c_nilcell 1011 2 1900 23 1 (fun k=>[u32sF false n (V (k0+k))]) ?_
 refine c_up (L0+1) (fun i=>[(12,.val (.int .i64 (i:Nat)))]) (fun i=>[(0,some (.lit 144 (rfD s (S (k0+i))))),(1011,some (.lit 93 [.val (.int .i64 (L0:Int)),.val (.bool true),.sl 1900 1 i])),(1900,some (.arr 23 i 1 (fun k=>[u32sF false n (V (k0+k))])))]) (fun i hi=>?_)
 refine go ?_
 refine c_if (fun h3=>?_) (fun h3=>?_)
 ·refine go ?_
  refine r_callM 0 (hrow i (by omega)) ?_
  refine go ?_
  refine ⟨by omega,?_⟩
  refine sub_arr (1000+55) (fun k=>[u32sF false n (V (k0+k))]) (appF_snoc rfl) (fun _=>rfl) ?_
  refine sub_toL [52] (1000+55) 1900 ?_
  exact sub
 ·obtain rfl:i=L0+1:=by omega
  refine go ?_
  refine fin_freeze 1900 ?_
  refine finH ?_
  exact cv
theorem r13Uniform_no (i0:Nat) (hi0:i0<L0+1) (hok:∀ i,i<i0→dBad s p n L0 (k0+i)=false) (hbad:dBad s p n L0 (k0+i0)=true):DenH Tryz.prog 143 [.agg (parL true p),.val (.int .i64 (L0:Int)),.val (.bool true),.eptr 0 0 0 0] [(0,.lit 144 (rfD s (dS s p n L0 k0)))] (.tup [.agg zeroEl,.val (.int .i64 4)]) [(0,.lit 144 (rfD s (dS s p n L0 (k0+i0))))] []:=by
 refine den_intro (fn:=Tryz.f143) rfl rfl rfl rfl rfl ?_
 have hN:NatIs p.n n:=hL.n
 have h32:=hL.n32
 have l2:=hL.l2
 have l24:=hL.vp.len2
 have hm:=modQ_in hL.vp hL.sp hL.l2
 have hrow:∀ i,i<i0→DenH Tryz.prog 220 [.eptr 0 0 0 0,.val (.int .i64 p.n),.val (.int .u32 ((modQ p L0 i:Nat):Int))] [(0,.lit 144 (rfD s (dS s p n L0 (k0+i))))] (.tup [u32sF false n (dV s p n L0 (k0+i)),.val (.int .i64 0)]) [(0,.lit 144 (rfD s (dS s p n L0 (k0+(i+1)))))] []:=fun i hi=>by
  obtain ⟨l,h1,h2,h3⟩:=d_ok (hok i hi)
  rw [dw_row p L0 k0 hk0 (by omega)] at h1
  rw [hL.n]
  exact refUniform_ok s _ _ _ n l hs (dS_le _) (by have:=hm i;omega) (by have:=hm i;omega) (by omega) h1 _ h3 h2
 have hno:DenH Tryz.prog 220 [.eptr 0 0 0 0,.val (.int .i64 p.n),.val (.int .u32 ((modQ p L0 i0:Nat):Int))] [(0,.lit 144 (rfD s (dS s p n L0 (k0+i0))))] (.tup [listD .u32 false [],.val (.int .i64 4)]) [(0,.lit 144 (rfD s (dS s p n L0 (k0+i0))))] []:=by
  have h1:=d_no hbad
  rw [dw_row p L0 k0 hk0 hi0] at h1
  rw [hL.n]
  exact refUniform_no s _ _ n hs (dS_le _) (by have:=hm i0;omega) (by have:=hm i0;omega) (by omega) h1
 generalize dS s p n L0=S at *
 generalize dV s p n L0=V at *
 refine go ?_
 refine r_bsl0 1 (fun _=>[]) ?_
 refine go ?_
 refine c_arr (1000+26) (fun k=>[.val (.int .u32 ((modQ p L0 k:Nat):Int))]) (fun e he=>?_) (fun _=>rfl) ?_
 ·unfold modQ
  by_cases q:e<L0
  ·rw [appF_lt (by omega),if_pos q]
   show [D.val (.int .u32 ((p.chain.getD (0+e) 0:Nat):Int))]=_
   rw [Nat.zero_add]
  ·rw [appF_ge (by omega),if_neg q,show e - (0+(L0 - 0))=0 by omega];rfl
 refine c_nilcell 1011 2 1900 23 1 (fun k=>[u32sF false n (V (k0+k))]) ?_
 refine c_down (fun i=>L0+1 - i) (fun i=>i≤i0) (fun i:Nat=>[(12,.val (.int .i64 (i:Int)))]) (fun i=>[(0,some (.lit 144 (rfD s (S (k0+i))))),(1011,some (.lit 93 [.val (.int .i64 (L0:Int)),.val (.bool true),.sl 1900 1 i])),(1900,some (.arr 23 i 1 (fun k=>[u32sF false n (V (k0+k))])))]) 0 (fun i hi=>?_) (by omega)
 refine go ?_
 by_cases q:i<i0
 ·refine r_callM 0 (hrow i q) ?_
  refine go ?_
  refine ⟨i+1,by omega,by omega,?_⟩
  refine sub_arr (1000+55) (fun k=>[u32sF false n (V (k0+k))]) (appF_snoc rfl) (fun _=>rfl) ?_
  refine sub_toL [52] (1000+55) 1900 ?_
  exact sub
 ·obtain rfl:i=i0:=by omega
  refine r_callM 0 hno ?_
  refine go ?_
  refine finH ?_
  exact cv
end

theorem keyB_no {p:PD} {f:Int} {A B:LG} {j:Nat} (hA:j<A.m) (hB:j<B.m) (h:(!fitE p (A.E j) || !fitE p (B.E j))=true):keyB p f A B=false:=by
 unfold keyB
 cases q:fitE p (A.E j) with
 | false=>rw [evry_no (f:=fun i=>fitE p (A.E i)) hA q];simp
 | true=>
  rw [q] at h
  rw [evry_no (f:=fun i=>fitE p (B.E i)) hB (by simpa using h)];simp
theorem key_head {g f:Bool} {a b c:Nat} (h:(decide (errI g≠0) || !f || decide (a≠c) || decide (b≠c))=false):g=true∧f=true∧a=c∧b=c:=by
 cases g
 ·simp at h
 ·cases f
  ·simp at h
  ·simp at h;exact ⟨rfl,rfl,h.1,h.2⟩
theorem keyB_head {p:PD} {f:Int} {A B:LG} (h:(decide (errI (goodB p)≠0) || !fromB p f || decide (A.m≠p.chain.length) || decide (B.m≠p.chain.length))=true):keyB p f A B=false:=by
 unfold keyB
 cases q:goodB p
 ·rfl
 ·cases q2:fromB p f
  ·rfl
  ·by_cases q3:A.m=p.chain.length
   ·by_cases q4:B.m=p.chain.length
    ·rw [q,q2,decide_eq_false (show ¬ A.m≠p.chain.length by simp [q3]),decide_eq_false (show ¬ B.m≠p.chain.length by simp [q4])] at h
     exact absurd h (by decide)
    ·rw [decide_eq_false q4];simp
   ·rw [decide_eq_false q3];simp
theorem r18CheckKey_den (p:PD) (hp:PFit p) (f:Int) (A B:LG) (hA:LFit A) (hB:LFit B):Den Tryz.prog 60 [.agg (parL true p),.agg (keyD true f A B)] (.val (.int .i64 (errI (keyB p f A B)))):=by
 refine den_intro (fn:=Tryz.f60) rfl rfl rfl rfl rfl ?_
 have hAm:=hA.m
 have hBm:=hB.m
 refine go ?_
 refine r_call (r12check_den p hp) ?_
 refine go ?_
 refine g_callM (hl:=fun hb=>r_call (r18from_den p f (goodB_iff.1 (guard_good1 hb))) (run_fin rfl)) (h:=?_)
 refine go ?_
 refine c_ifB (fun h1=>?_) (fun h1=>?_)
 ·refine go ?_
  refine fin ?_
  rw [keyB_head h1]
  exact cv
 ·obtain ⟨hgb,hf,hA1,hB1⟩:=key_head h1
  have hg:=goodB_iff.1 hgb
  have hvp:=good_VP hg
  have hsp:=good_special hg
  have l24:=hvp.len2
  refine go ?_
  refine c_down (fun j=>A.m - j) (fun j=>j≤A.m∧∀ k,k<j→fitE p (A.E k)=true∧fitE p (B.E k)=true) (fun j:Nat=>[(5,.val (.int .i64 (j:Int)))]) (fun _=>[]) 0 (fun j ⟨hj,hF⟩=>?_) ⟨by omega,fun e he=>by omega⟩
  refine go ?_
  refine c_if (fun h3=>?_) (fun h3=>?_)
  ·refine go ?_
   refine r_call (r13Top_den p hvp hsp (A.E j) (hA.l j) (hA.e j)) ?_
   refine go ?_
   refine g_callM (hl:=fun hb=>r_call (r13Top_den p hvp hsp (B.E j) (hB.l j) (hB.e j)) (run_fin rfl)) (h:=?_)
   refine go ?_
   refine c_ifB (fun h4=>?_) (fun h4=>?_)
   ·refine go ?_
    refine fin ?_
    rw [keyB_no h3 (by omega) h4]
    exact cv
   ·refine go ?_
    refine ⟨j+1,⟨by omega,fun i hi=>?_⟩,by omega,?_⟩
    ·by_cases q:i<j
     ·exact hF i q
     ·obtain rfl:i=j:=by omega
      simpa using h4
    ·exact sub
  ·refine go ?_
   refine fin ?_
   rw [show keyB p f A B=true by unfold keyB;rw [hgb,hf,decide_eq_true hA1,decide_eq_true hB1,evry_iff.2 (fun k hk=>(hF k (by omega)).1),evry_iff.2 (fun k hk=>(hF k (by omega)).2)];rfl]
   exact cv

structure EIn (e:EG):Prop where
 m:e.m≤9223372036854775807
 l:∀ k,e.ln k≤9223372036854775807
 o2:∀ k,e.m≤k→e.ln k=0
 o3:∀ k j,e.ln k≤j→e.g k j=0
theorem same_lists (m lv M n:Nat) (G:Nat→Nat→Nat→Nat) (hm:m≤1000000) (hM:M≤1000000) (hn:n≤1000000):Den Tryz.prog 151 [.fz true m 3 (fun i=>elL true lv true M n (G i)),.fz true m 3 (fun i=>elL true lv true M n (G i))] (.val (.bool true)):=
 law18Same_den ⟨m,fun i=>⟨lv,true,M,fun _=>n,G i⟩⟩ hm (fun _=>hM) (fun _ _=>hn)

def c4:Nat→List D:=fun i=>[.val (.int .u32 (p4.chain.getD i 0))]
theorem c4_to:Cvt (u32sD false p4.chain) (.fz false 1 1 c4):=.of_eq rfl
theorem c4_fro:Cvt (.fz false 1 1 c4) (u32sD false p4.chain):=.of_eq rfl
theorem CvV.lsl {L ns:List Nat} {H:Nat→Option Box} {k m len:Nat} {t:TypeId} {ds:List D} {f:Nat→List D} (h:H k=some (.lit t ds)) (hl:len*m≤ds.length) (hf:∀ e,e<len→(f e).length=m∧∀ c,c<m→CvV true L ns H (dl ds (e*m+c)) (dl (f e) c)) (hkL:memB k L=false) (hns:memB k ns=true):CvV true L ns H (.sl k m len) (.fz true len m f):=fun H1 hH S E a w Z i v hF hL hv=>by
 rw [← hH k (memB_spec hns)] at h
 cases hv with
 | @sl _ b _ _ _ cap hib h1 h2=>
  rcases hF.box k _ h with ⟨b',c',e1,_,_,_,cs,hB,hs,hall⟩ | ⟨e1,_⟩
  ·rw [hib] at e1;cases e1
   have hz:=hF.lent hL h rfl hib (memB_no hkL) hB.lt
   have hlt:∀ {e c:Nat},e<len→c<m→e*m+c<ds.length:=fun {e c} he hc=>by
    have:(e+1)*m≤len*m:=Nat.mul_le_mul_right _ (by omega)
    rw [Nat.add_mul] at this;omega
   refine .fz _ _ _ len cap.c m f (fun e c=>cs.getD (e*m+c) undef) h1 h2 (fun e he=>(hf e he).1) (fun e c he hc=>⟨b,0,rfl,hz,?_,(hall _ (hlt he hc)).1⟩) (fun e c he hc=>(hf e he).2 c hc H1 hH S E a w Z i _ hF hL (hall _ (hlt he hc)).2)
   rw [Nat.zero_add];exact hB.cell _ (by rw [hs];exact hlt he hc)
  ·rw [hib] at e1;cases e1
 | sl0=>exact .fz _ _ none 0 0 m f (fun _ _=>undef) (Nat.le_refl _) (by omega) (fun e he=>by omega) (fun e c he=>by omega) (fun e c he=>by omega)
def A18 (k j:Nat):Nat:=if k=0 then (match j with | 0=>1 | 1=>2147481208 | 2=>0 | 3=>1073740605 | _=>0) else 0
theorem A18_vg:Vg p4 1 A18:=fun r j=>by
 have h:2147481208<modQ p4 1 r:=by
  unfold modQ
  split
  ·obtain rfl:r=0:=by omega
   decide
  ·decide
 unfold A18
 split
 ·split<;>omega
 ·omega
theorem p4_lv:Lv p4 4 1:=⟨good_VP p4_good,good_special p4_good,p4_n,by omega,by decide⟩
noncomputable abbrev rowA:D:=litA Tryz.t22.size 4 [.val (.int .u32 1),.val (.int .u32 ((p4.chain.getD (Int.toNat 0) 0 - 1:Nat):Int)),.val (.int .u32 0),.val (.int .u32 (((p4.chain.getD (Int.toNat 0) 0+1) / 2:Nat):Int))]
theorem swDigits_lit:Den Tryz.prog 128 [.agg (parL true p4),.agg [.val (.int .i64 1),.val (.bool false),.fz true 1 Tryz.t23.size (fun _=>[rowA])]] (.tup [.fz false 1 3 (fun i=>elL false 1 true 2 4 (dgV p4 1 A18 i)),.val (.int .i64 0)]):=
 (swDigits_ok p4 4 1 p4_fit p4_good p4_lv A18 A18_vg).arg (.cons (.of_eq rfl) (.cons (Cvt.agg (.cons (.of_eq rfl) (.cons (.of_eq rfl) (.cons (Cvt.fz (.inl rfl) (fun e he=>⟨rfl,fun c hc=>by
  obtain rfl:e=0:=by omega
  obtain rfl:c=0:=by have:c<1:=hc;omega
  exact Cvt.litA (fun e he=>by
   match e,he with
   | 0,_=>rfl
   | 1,_=>rfl
   | 2,_=>rfl
   | 3,_=>rfl) (fun _ _=>rfl)⟩)) .nil)))) .nil))
theorem c4_par:Cvt (.agg (parL false p4)) (.agg (parL true p4)):=inferInstance
theorem awake18_den:Den Tryz.prog 51 [] (.val (.bool true)):=by
 refine den_intro (fn:=Tryz.f51) rfl rfl rfl rfl rfl ?_
 have q0:p4.chain.getD (Int.toNat 0) 0=2147481209:=rfl
 have q1:p4.special=2147483249:=rfl
 obtain ⟨B,hB,b1,b2,b3,b4⟩:∃ B,dgV p4 1 A18=B∧B 0 0 3=1073740605∧B 0 1 0=1∧B 0 1 1=2147483248∧B 0 1 3=1073742645:=⟨_,rfl,by decide +kernel,by decide +kernel,by decide +kernel,by decide +kernel⟩
 obtain ⟨sp,hsp⟩:∃ s,p4.special=s:=⟨_,rfl⟩
 obtain ⟨qv,hqv⟩:∃ s,p4.chain.getD 0 0=s:=⟨_,rfl⟩
 have q2:sp=2147483249:=by omega
 have q3:qv=2147481209:=by rw [← hqv];exact q0
 have hcq:Cvt (u32sD false p4.chain) (.fz false 1 1 (fun _=>[.val (.int .u32 (qv:Nat))])):=Cvt.fz (.inl rfl) (fun e he=>⟨rfl,fun c hc=>by
  obtain rfl:e=0:=by have:e<1:=he;omega
  obtain rfl:c=0:=by have:c<1:=hc;omega
  exact .of_eq (by rw [← hqv])⟩)
 have hcs:Cvt (.val (.int .u32 (p4.special:Nat))) (.val (.int .u32 (sp:Nat))):=.of_eq (by rw [hsp])
 have hsw:=swDigits_lit
 rw [hB] at hsw
 refine go ?_
 refine r_call small13_den ?_
 refine gor ?_
 refine c_lit 1001 [.val (.int .i64 p4.n),.val (.int .u32 p4.prime),.val (.int .i64 p4.power),.fz false 1 1 c4,.val (.int .u32 p4.special),.val (.int .i64 p4.weight),.val (.int .u32 p4.err)] (.cons (.refl _) (.cons (.refl _) (.cons (.refl _) (.cons (.cvt c4_to) (.cons (.refl _) (.cons (.refl _) (.cons (.refl _) .nil))))))) ?_
 refine c_sreg ?_
 refine gor ?_
 refine c_lit 1001 (parL false p4) (.cons (.refl _) (.cons (.refl _) (.cons (.refl _) (.cons (.cvt c4_fro) (.cons (.refl _) (.cons (.refl _) (.cons (.refl _) .nil))))))) ?_
 refine go ?_
 refine r_call (hv:=?_) hsw ?_
 ·refine go ?_
  refine c_no ?_
  refine awp_skip (p_thenN ?_)
  refine c_lit 1001 [.val (.int .i64 p4.n),.val (.int .u32 p4.prime),.val (.int .i64 p4.power),.fz false 1 1 (fun _=>[.val (.int .u32 (qv:Nat))]),.val (.int .u32 (sp:Nat)),.val (.int .i64 p4.weight),.val (.int .u32 p4.err)] (.cons (.refl _) (.cons (.refl _) (.cons (.refl _) (.cons (.cvt hcq) (.cons (.cvt hcs) (.cons (.refl _) (.cons (.refl _) .nil))))))) ?_
  refine go ?_
  refine fin_slot 0 (.val (.bool true)) ?_ ?_
  ·have e:(decide (B (Int.toNat 0) (Int.toNat 0) (Int.toNat 3)=(p4.chain.getD (Int.toNat 0) 0+1) / 2) && decide (B (Int.toNat 0) (Int.toNat 1) (Int.toNat 0)=1) && decide (B (Int.toNat 0) (Int.toNat 1) (Int.toNat 1)=sp - 1) && decide (B (Int.toNat 0) (Int.toNat 1) (Int.toNat 3)=sp - (p4.chain.getD (Int.toNat 0) 0 - 1) / 2))=true:=by
    rw [q0,q2,show Int.toNat 0=0 from rfl,show Int.toNat 1=1 from rfl,show Int.toNat 3=3 from rfl,b1,b2,b3,b4]
    rfl
   exact .eq (by rw [e])
  ·refine fin ?_
   exact cv
 ·refine .cons (.cv (CvV.cvt (CvV.id rfl) c4_par)) (.cons (.cv (CvV.agg (.cons (CvV.id rfl) (.cons (CvV.id rfl) (.cons (CvV.lsl (t:=23) (f:=fun _=>[rowA]) rfl (Nat.le_refl _) (fun e he=>⟨rfl,fun c hc=>?_⟩) rfl rfl) .nil))))) .nil)
  obtain rfl:e=0:=by omega
  obtain rfl:c=0:=by have:c<1:=hc;omega
  exact CvV.sl ⟨22,.inl rfl⟩ (Nat.le_refl _) rfl rfl

abbrev lgV (m lv:Nat) (sp:Bool) (M n:Nat) (K:Nat→Nat→Nat→Nat):LG:=⟨m,fun i=>⟨lv,sp,M,fun _=>n,K i⟩⟩
abbrev keyV (o:Bool) (f:Int) (L0 n:Nat) (A B:Nat→Nat→Nat→Nat):List D:=[.val (.int .i64 f),.fz o L0 3 (fun i=>elL o L0 true (L0+1) n (A i)),.fz o L0 3 (fun i=>elL o L0 true (L0+1) n (B i))]
structure Kv (p:PD) (n L0:Nat) (f:Int) (A B:Nat→Nat→Nat→Nat):Prop where
 fit:PFit p
 good:Good p.par
 lv:Lv p n L0
 top:L0=p.chain.length
 from_:fromB p f=true
 a:∀ i,Vg p L0 (A i)
 b:∀ i,Vg p L0 (B i)

instance fi142:FI Tryz.prog 142 Tryz.f142:=⟨Tryz.func142,Tryz.call142⟩
instance fi55:FI Tryz.prog 55 Tryz.f55:=⟨Tryz.func55,Tryz.call55⟩
theorem list_rowI {o:Bool} {l:List Nat} {n:Nat} (b:Int) (h:l.length=n):Cvt (listD .i64 o (l.map (fun v:Nat=>(v:Int) - b))) (intsD o n (fun j=>(l.getD j 0:Nat) - b)):=by
 subst h
 have e:∀ k,k<l.length→(l.map (fun v:Nat=>(v:Int) - b)).getD k 0=((l.getD k 0:Nat):Int) - b:=fun k hk=>by
  rw [List.getD_eq_getElem?_getD,List.getD_eq_getElem?_getD,List.getElem?_map,List.getElem?_eq_getElem hk];rfl
 show Cvt (D.fz o (l.map (fun v:Nat=>(v:Int) - b)).length 1 _) (D.fz o l.length 1 _)
 rw [List.length_map]
 refine Cvt.fz (.inl rfl) (fun k hk=>⟨rfl,fun c hc=>?_⟩)
 obtain rfl:c=0:=by have:c<1:=hc;omega
 exact .of_eq (by show D.val (.int .i64 ((l.map (fun v:Nat=>(v:Int) - b)).getD k 0))=D.val (.int .i64 (((l.getD k 0:Nat):Int) - b));rw [e k hk])
theorem refBounded_ok (s:ByteArray) (c d b n:Nat) (l:List Nat) (hs:s.size≤1048576) (hc:c≤8*s.size) (hq:b≤2147483647) (hn:n≤4096) (hk:tkL s (2*b+1) n c=some (l,d)) (V:Nat→Nat) (hV:∀ j,V j=l.getD j 0) (hl:l.length=n):DenH Tryz.prog 144 [.eptr 0 0 0 0,.val (.int .i64 (n:Int)),.val (.int .u32 (b:Int))] [(0,.lit 144 (rfD s c))] (.tup [intsD false n (fun j=>(V j:Int) - (b:Int)),.val (.int .i64 0)]) [(0,.lit 144 (rfD s d))] []:=by
 have h:=refBounded_den s c b (n:Int) hs hc (by omega)
 have e:boundedR s c (n:Int) b=(l.map (fun v:Nat=>(v:Int) - (b:Int)),0,d):=by
  unfold boundedR
  rw [if_neg (by omega),Int.toNat_natCast,hk]
 rw [e] at h
 rw [show V=fun j=>l.getD j 0 from funext hV]
 exact h.res (Cvt.tup (.cons (list_rowI (b:Int) hl) (.cons (.of_eq rfl) .nil)))
theorem refBounded_no (s:ByteArray) (c b n:Nat) (hs:s.size≤1048576) (hc:c≤8*s.size) (hq:b≤2147483647) (hn:n≤4096) (hk:tkL s (2*b+1) n c=none):DenH Tryz.prog 144 [.eptr 0 0 0 0,.val (.int .i64 (n:Int)),.val (.int .u32 (b:Int))] [(0,.lit 144 (rfD s c))] (.tup [listD .i64 false [],.val (.int .i64 4)]) [(0,.lit 144 (rfD s c))] []:=by
 have h:=refBounded_den s c b (n:Int) hs hc (by omega)
 have e:boundedR s c (n:Int) b=([],4,c):=by
  unfold boundedR
  rw [if_neg (by omega),Int.toNat_natCast,hk]
 rw [e] at h
 exact h
def srcV (n:Nat) (x:Nat→Int) (f:Int):Nat→Int:=if f=2 then pw x n 2 else tR n (-f).toNat x n
theorem srcV_in {n:Nat} {x:Nat→Int} {f:Int} (hn:n≤32) (hx:∀ j, -1≤x j∧x j≤1) (j:Nat) : -4000000≤srcV n x f j∧srcV n x f j≤4000000:=by
 unfold srcV
 split
 ·unfold pw
  split
  ·have:=zS_in (pw1_in (n:=n) hn hx) hx hn (by omega) (show n≤32 from hn) (show 0≤32 by omega) j
   unfold zS at this
   simp only [zk] at this
   omega
  ·omega
 ·have:=tR_in (n:=n) (k:=(-f).toNat) hx j n
  omega
theorem r18source_den (p:PD) (hp:PFit p) (n:Nat) (x:Nat→Int) (hN:p.n=(n:Int)) (h:scB p n x=true) (hx:∀ j, -1≤x j∧x j≤1) (f:Int) (hf:fromB p f=true):Den Tryz.prog 142 [.agg (parL true p),.agg (scL true n x),.val (.int .i64 f)] (intsD false n (srcV n x f)):=by
 have hg:=(sc_all h).1
 obtain ⟨n',hn',n4,n32⟩:=good_n hg
 obtain rfl:n'=n:=by omega
 refine den_intro (fn:=Tryz.f142) rfl rfl rfl rfl rfl ?_
 refine go ?_
 refine c_if (fun h1=>?_) (fun h1=>?_)
 ·refine go ?_
  refine r_call (r13Power2_den p hp n' x hg hN h hx) ?_
  refine go ?_
  refine fin ?_
  rw [show srcV n' x f=pw x n' 2 from if_pos h1]
  exact cv
 ·have hb:f ≤ -3 ∧ -2*p.n<f∧f % 2=1:=by
   unfold fromB at hf
   rw [decide_eq_false h1] at hf
   simp only [Bool.false_or,Bool.and_eq_true,decide_eq_true_eq] at hf
   exact ⟨hf.1.1,hf.1.2,hf.2⟩
  obtain ⟨k,hk⟩:=Int.eq_ofNat_of_zero_le (show 0 ≤ -f by omega)
  have ht:=r13Turned_den p hp n' x hg hN h hx k (by omega) (by omega) (by omega)
  have hi:=r13Ints_den n' (tR n' k x n') (by omega) (fun j=>by have:=tR_in (n:=n') (k:=k) hx j n';omega)
  rw [show srcV n' x f=tR n' k x n' by unfold srcV;rw [if_neg h1,hk];rfl]
  refine go ?_
  refine r_eqS 24 (.val (.int .i64 ((k:Nat):Int))) (d:=.val (.int .i64 (-f))) (by rw [hk]) ?_
  refine go ?_
  refine r_call ht ?_
  refine go ?_
  refine r_call hi ?_
  refine go ?_
  refine fin ?_
  exact cv
def nkA (s:ByteArray) (p:PD) (n L0 j i x:Nat):Nat:=if i<L0+1 then dV s p n L0 (j*(L0+2)+i) x else 0
def nkE (s:ByteArray) (p:PD) (n L0 j x:Nat):Int:=(dV s p n L0 (j*(L0+2)+(L0+1)) x:Int) - (p.err:Int)
def nkP (p:PD) (n L0:Nat) (x:Nat→Int) (f:Int) (j i y:Nat):Nat:=if i=j then mulIntV p L0 (p.special:Int) (intV p L0 (srcV n x f)) i y else 0
def nkB (s:ByteArray) (p:PD) (n L0 t:Nat) (x:Nat→Int) (f:Int) (j:Nat):Nat→Nat→Nat:=sumV p L0 (-1) (addV p L0 (mulIntV p L0 (t:Int) (intV p L0 (nkE s p n L0 j))) (nkP p n L0 x f j)) (prdV p L0 n (nkA s p n L0 j) (intV p L0 x))
section
variable {s:ByteArray} {p:PD} {n L0:Nat} (h:Lv p n L0)
include h
theorem vg_nkA (j:Nat):Vg p L0 (nkA s p n L0 j):=fun r y=>by
 have hm:=modQ_in h.vp h.sp h.l2 r
 unfold nkA
 split
 ·have e:=dw_row p L0 (j*(L0+2)) (Nat.mul_mod_left _ _) (i:=r) ‹_›
  have:=dV_lt (s:=s) (p:=p) (n:=n) (L0:=L0) (k:=j*(L0+2)+r) (by rw [e];omega) y
  rw [e] at this
  exact this
 ·omega
omit h in
theorem nkE_in (he:p.err≤64) (j y:Nat) : -64≤nkE s p n L0 j y∧nkE s p n L0 j y≤64:=by
 have e:=dw_err p L0 (j*(L0+2)) (Nat.mul_mod_left _ _)
 have:=dV_lt (s:=s) (p:=p) (n:=n) (L0:=L0) (k:=j*(L0+2)+(L0+1)) (by rw [e];omega) y
 rw [e] at this
 unfold nkE
 omega
theorem vg_nkP (x:Nat→Int) (f:Int) (j:Nat):Vg p L0 (nkP p n L0 x f j):=fun r y=>by
 unfold nkP
 split
 ·exact vg_mulInt h _ _ r y
 ·exact h.q0 r
end
noncomputable abbrev zrow (n:Nat):D:=.fz false n Tryz.t22.size (fun _=>valL (Value.int .u32 0).cells.toList)
noncomputable def strD (n j:Nat) (g:Nat→Nat→Nat) (i k:Nat):List D:=if k<i∧k≠j then [zrow n] else [u32sF false n (g k)]
theorem strD_0 {n j k:Nat} {g:Nat→Nat→Nat}:strD n j g 0 k=[u32sF false n (g k)]:=if_neg (by omega)
theorem strD_set {n j i:Nat} {g:Nat→Nat→Nat} (h:i≠j) (e:Nat):setE (strD n j g i) i 0 [zrow n] e=strD n j g (i+1) e:=by
 unfold setE strD
 by_cases q:e=i
 ·subst q
  rw [if_pos rfl,if_neg (by omega),if_pos (by omega)];rfl
 ·rw [if_neg q]
  by_cases q2:e<i∧e≠j
  ·rw [if_pos q2,if_pos (by omega)]
  ·rw [if_neg q2,if_neg (by omega)]
theorem strD_skip {n j:Nat} {g:Nat→Nat→Nat} (e:Nat):strD n j g j e=strD n j g (j+1) e:=by
 unfold strD
 by_cases q:e<j∧e≠j
 ·rw [if_pos q,if_pos (by omega)]
 ·rw [if_neg q,if_neg (by omega)]
theorem strD_len {n j i:Nat} {g:Nat→Nat→Nat} (e:Nat):(strD n j g i e).length=1:=by unfold strD;split<;>rfl
theorem strD_all {n j M:Nat} {x:Nat→Int} {f:Int} {p:PD} {L0:Nat} {e:Nat} (he:e<M):strD n j (mulIntV p L0 (p.special:Int) (intV p L0 (srcV n x f))) M e=[u32sF false n (nkP p n L0 x f j e)]:=by
 unfold strD
 by_cases q:e=j
 ·rw [if_neg (by omega)]
  rw [show nkP p n L0 x f j e=mulIntV p L0 (p.special:Int) (intV p L0 (srcV n x f)) e from funext fun y=>if_pos q]
 ·rw [if_pos ⟨he,q⟩,show nkP p n L0 x f j e=fun _=>0 from funext fun y=>if_neg q];rfl

instance fi129:FI Tryz.prog 129 Tryz.f129:=⟨Tryz.func129,Tryz.call129⟩
instance fi199:FI Tryz.prog 199 Tryz.f199:=⟨Tryz.func199,Tryz.call199⟩
instance fi131:FI Tryz.prog 131 Tryz.f131:=⟨Tryz.func131,Tryz.call131⟩
instance fi202:FI Tryz.prog 202 Tryz.f202:=⟨Tryz.func202,Tryz.call202⟩
instance fi200:FI Tryz.prog 200 Tryz.f200:=⟨Tryz.func200,Tryz.call200⟩
instance fi264:FI Tryz.prog 264 Tryz.f264:=⟨Tryz.func264,Tryz.call264⟩
instance fi201:FI Tryz.prog 201 Tryz.f201:=⟨Tryz.func201,Tryz.call201⟩
instance fi130:FI Tryz.prog 130 Tryz.f130:=⟨Tryz.func130,Tryz.call130⟩
def secB (p:PD) (n:Nat) (x:Nat→Int):Bool:=evry (triB x) n && decide ((n:Int)=p.n) && decide ((wt x n:Int)=p.weight)
theorem kysecret_den (p:PD) (n:Nat) (x:Nat→Int) (hn:n≤1000000) (hx:∀ j, -128≤x j∧x j≤127):Den Tryz.prog 199 [.agg (parL true p),.agg (scL true n x)] (.val (.bool (secB p n x))):=by
 refine den_intro (fn:=Tryz.f199) rfl rfl rfl rfl rfl ?_
 refine go ?_
 refine c_down (fun j=>n - j) (fun j=>j≤n∧∀ k,k<j→triB x k=true) (fun j:Nat=>[(11,.val (.int .i64 (j:Int))),(5,.val (.int .i64 ((wt x j:Nat):Int)))]) (fun _=>[]) 0 (fun j ⟨hj,hF⟩=>?_) ⟨by omega,fun e he=>by omega⟩
 refine go ?_
 have hxj:=hx j
 have hw:=wt_le x j
 refine c_if (fun h3=>?_) (fun h3=>?_)
 ·have ht:triB x j=true→∀ k,k<j+1→triB x k=true:=fun ht i hi=>by
   by_cases q:i<j
   ·exact hF i q
   ·obtain rfl:i=j:=by omega
    exact ht
  refine go ?_
  refine c_if (fun h4=>?_) (fun h4=>?_)
  ·have e:wt x (j+1)=wt x j+1:=if_neg (by omega)
   have hF':=ht (by unfold triB;rw [h4];rfl)
   refine go ?_
   refine ⟨j+1,⟨by omega,hF'⟩,by omega,?_⟩
   rw [e]
   exact sub
  ·refine go ?_
   refine c_if (fun h5=>?_) (fun h5=>?_)
   ·have e:wt x (j+1)=wt x j+1:=if_neg (by omega)
    have hF':=ht (by unfold triB;rw [h5];rfl)
    refine go ?_
    refine ⟨j+1,⟨by omega,hF'⟩,by omega,?_⟩
    rw [e]
    exact sub
   ·refine go ?_
    refine c_if (fun h6=>?_) (fun h6=>?_)
    ·have e:wt x (j+1)=wt x j:=if_pos (by omega)
     have hF':=ht (by unfold triB;rw [h6];rfl)
     refine go ?_
     refine ⟨j+1,⟨by omega,hF'⟩,by omega,?_⟩
     rw [e]
     exact sub
    ·refine go ?_
     refine fin ?_
     rw [show secB p n x=false by
      unfold secB
      rw [evry_no (f:=triB x) h3 (by unfold triB;simp;omega)]
      rfl]
     exact cv
 ·obtain rfl:j=n:=by omega
  refine go ?_
  refine fin ?_
  rw [show secB p j x=(decide ((j:Int)=p.n) && decide ((wt x j:Int)=p.weight)) by unfold secB;rw [evry_iff.2 hF];rfl]
  exact CvV.id rfl
theorem kyCheckSecret_den (p:PD) (hp:PFit p) (n:Nat) (x:Nat→Int) (hn:n≤1000000) (hx:∀ j, -128≤x j∧x j≤127):Den Tryz.prog 129 [.agg (parL true p),.agg (scL true n x)] (.val (.int .i64 (errI (scB p n x)))):=by
 have e:scB p n x=(goodB p && secB p n x):=by unfold scB secB;cases goodB p<;>cases evry (triB x) n<;>cases decide ((n:Int)=p.n)<;>rfl
 refine den_intro (fn:=Tryz.f129) rfl rfl rfl rfl rfl ?_
 refine go ?_
 refine r_call (pcheck_den p hp) ?_
 refine go ?_
 refine g_callM (hl:=fun hb=>r_call (kysecret_den p n x hn hx) (run_fin rfl)) (h:=?_)
 refine go ?_
 refine c_ifB (fun h1=>?_) (fun h1=>?_)
 ·refine go ?_
  refine fin ?_
  rw [show scB p n x=false by
   rw [e]
   cases q:goodB p with
   | false=>rfl
   | true=>
    rw [q] at h1
    simp [errI] at h1
    rw [h1];rfl]
  exact cv
 ·refine go ?_
  refine fin ?_
  rw [show scB p n x=true by
   rw [e]
   cases q:goodB p with
   | false=>rw [q] at h1;simp [errI] at h1
   | true=>
    rw [q] at h1
    simp [errI] at h1
    rw [h1];rfl]
  exact cv

theorem auP_mod {n k j:Nat} (hn:0<n):auP n k j=j*k % n:=by
 have h1:=Nat.mod_mod_of_dvd (j*k) (show n∣2*n from ⟨2,by omega⟩)
 have h2:=Nat.mod_lt (j*k) (show 0<2*n by omega)
 unfold auP auA
 generalize j*k % (2*n)=a at *
 rw [← h1]
 split
 ·rw [Nat.mod_eq_of_lt ‹_›]
 ·rw [Nat.mod_eq_sub_mod (by omega),Nat.mod_eq_of_lt (by omega)]
theorem auP_inj' {n k i j:Nat} (hc:Nat.Coprime n k) (hn:0<n) (hj:j<n) (hij:i≤j) (h:auP n k i=auP n k j):i=j:=by
 rw [auP_mod hn,auP_mod hn] at h
 have h1:(j*k - i*k) % n=0:=Nat.sub_mod_eq_zero_of_mod_eq h.symm
 rw [← Nat.sub_mul] at h1
 have h2:n∣j - i:=hc.dvd_of_dvd_mul_right (Nat.dvd_of_mod_eq_zero h1)
 have h3:=Nat.eq_zero_of_dvd_of_lt h2 (by omega)
 omega
theorem auP_inj {n k i j:Nat} (hc:Nat.Coprime n k) (hn:0<n) (hi:i<n) (hj:j<n) (h:auP n k i=auP n k j):i=j:=by
 rcases Nat.le_total i j with q | q
 ·exact auP_inj' hc hn hj q h
 ·exact (auP_inj' hc hn hi q h.symm).symm
theorem tR_zero {n k e:Nat} {x:Nat→Int}:∀ {j:Nat},(∀ i,i<j→e≠auP n k i)→tR n k x j e=0
 | 0,_=>rfl
 | j+1,h=>by
  rw [tR_other (h j (by omega))]
  exact tR_zero fun i hi=>h i (by omega)
theorem wt_congr {y z:Nat→Int}:∀ {m:Nat},(∀ e,e<m→z e=y e)→wt z m=wt y m
 | 0,_=>rfl
 | m+1,h=>by
  simp only [wt]
  rw [wt_congr (fun e he=>h e (by omega)),h m (by omega)]
theorem wt_upd {y z:Nat→Int} {a:Nat} (hy:y a=0) (hz:∀ e,e≠a→z e=y e):∀ {m:Nat},a<m→wt z m=wt y m+(if z a=0 then 0 else 1)
 | 0,h=>by omega
 | m+1,h=>by
  simp only [wt]
  by_cases q:a=m
  ·subst q
   rw [wt_congr (fun e he=>hz e (by omega)),hy,if_pos rfl]
   split<;>rfl
  ·rw [wt_upd hy hz (m:=m) (by omega),hz m (by omega)]
   split<;>omega
theorem wt_tR {n k:Nat} {x:Nat→Int} (hc:Nat.Coprime n k) (hn:0<n):∀ {j:Nat},j≤n→wt (tR n k x j) n=wt x j
 | 0,_=>by
  have:∀ m,wt (tR n k x 0) m=0:=fun m=>by
   induction m with
   | zero=>rfl
   | succ m ih=>simp only [wt];rw [if_pos (show tR n k x 0 m=0 from rfl)];exact ih
  exact this n
 | j+1,h=>by
  have h0:tR n k x j (auP n k j)=0:=tR_zero fun i hi e=>by
   have:=auP_inj hc hn (i:=j) (j:=i) (by omega) (by omega) e
   omega
  rw [wt_upd (y:=tR n k x j) (z:=tR n k x (j+1)) h0 (fun e he=>tR_other he) (auP_lt hn),wt_tR hc hn (by omega)]
  have e1:(tR n k x (j+1) (auP n k j)=0)↔x j=0:=by
   simp only [tR]
   rw [if_pos trivial]
   split<;>omega
  simp only [wt]
  by_cases q:x j=0
  ·rw [if_pos (e1.2 q),if_pos q];omega
  ·rw [if_neg (fun h=>q (e1.1 h)),if_neg q]
theorem coprime_odd {n k:Nat} (hn:n=4∨n=8∨n=16∨n=32) (hk:k % 2=1):Nat.Coprime n k:=by
 have h2:Nat.Coprime 2 k:=by unfold Nat.Coprime;rw [Nat.gcd_rec,hk];simp
 rcases hn with rfl | rfl | rfl | rfl
 ·exact h2.pow_left 2
 ·exact h2.pow_left 3
 ·exact h2.pow_left 4
 ·exact h2.pow_left 5
theorem scB_tR {p:PD} {n k:Nat} {x:Nat→Int} (hx:∀ j, -1≤x j∧x j≤1) (h:scB p n x=true) (hk:k % 2=1):scB p n (tR n k x n)=true:=by
 obtain ⟨hg,hN,_⟩:=sc_all h
 have hn:n=4∨n=8∨n=16∨n=32:=by
  rcases hg.1 with q | q | q | q
  ·have:p.n=4:=q
   omega
  ·have:p.n=8:=q
   omega
  ·have:p.n=16:=q
   omega
  ·have:p.n=32:=q
   omega
 unfold scB at h ⊢
 rw [wt_tR (coprime_odd hn hk) (by omega) (Nat.le_refl n)]
 simp only [Bool.and_eq_true,evry_iff] at h ⊢
 refine ⟨⟨h.1.1,fun j hj=>?_⟩,h.2⟩
 have:=tR_in (n:=n) (k:=k) hx j n
 unfold triB
 simpa using this
end Go.Proofs.YtdcenblblimkfaaGreat
