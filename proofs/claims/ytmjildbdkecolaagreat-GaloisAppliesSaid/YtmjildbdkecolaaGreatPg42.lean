/- Keys of turns: by data.
A ciphertext under a wanted automorphism, the program's: by data.
A ciphertext under a wanted automorphism, the reference's: by data.
Keys of turns that are more or longer than is looked at: by data.
The law GaloisApplies, where the keys are looked at: by data.
Owners (parameters and a secret), keys of turns, wishes, as the rows lay them, by data.
The law GaloisApplies, where nothing is looked at: by data.
The law GaloisApplies, given awake: by data.
The law GaloisHoists: by data. -/
import Derived.Test.YtmjildbdkecolaaGreatPg41
import Derived.Test.YtmjildbdkecolaaGreatPg19
import Derived.Test.YtmjildbdkecolaaGreatPg39
set_option linter.unusedSimpArgs false
set_option linter.unusedVariables false
set_option linter.unnecessarySimpa false
set_option linter.unusedSectionVars false
namespace Go.Proofs.YtmjildbdkecolaaGreat
open Go.RowKit
instance ti54:TI Tryz.prog 54 Tryz.t54 (.slice 102):=⟨by kernel_rfl,by kernel_rfl⟩
instance ti102:TI Tryz.prog 102 Tryz.t102 Tryz.t101.desc:=⟨by kernel_rfl,by kernel_rfl⟩
instance et54:ET Tryz.prog 54 3:=ET.of ti54 ti102 rfl
instance ft102_0:FT Tryz.prog 102 0 0:=FT.of ti102 rfl ti3 rfl rfl
instance ft102_1:FT Tryz.prog 102 1 1:=FT.of ti102 rfl ti4 rfl rfl
instance ft102_2:FT Tryz.prog 102 2 2:=FT.of ti102 rfl ti9 rfl rfl
instance fi20:FI Tryz.prog 20 Tryz.f20:=⟨Tryz.func20,Tryz.call20⟩
set_option maxRecDepth 20000
set_option maxHeartbeats 4000000
def turnF (p:PD) (K:Int) (O:Bool):Int:=if (!O && decide (0<p.n))=true then IntKind.i64.wrap (-1 - IntKind.i64.wrap (2*(K % p.n))) else K
abbrev turnsL (o:Bool) (m:Nat) (K:Nat→Int) (O:Nat→Bool) (S:Nat→ByteArray):D:=.fz o m 3 (fun i=>[.val (.int .i64 (K i)),.val (.bool (O i)),.val (.string (S i))])
theorem law19keys_ok (p:PD) (hp:PFit p) (n:Nat) (hn32:n≤32) (hn:Good p.par→p.n=(n:Int)) (ns:Nat) (x:Nat→Int) (hx:∀ j, -128≤x j∧x j≤127) (hx0:∀ j,ns≤j→x j=0) (m:Nat) (K:Nat→Int) (O:Nat→Bool) (S:Nat→ByteArray) (hK:∀ i, -9223372036854775808≤K i∧K i≤9223372036854775807)
  (h1:m≤6) (h2:ns≤200) (h3:p.chain.length≤3) (h4:∀ i,i<m→(S i).size≤60000) :
  ∃ (F:Nat→Int) (Ls:Nat→Nat) (KA KB:Nat→Nat→Nat→Nat→Nat),(∀ i,i<m→Ky p n (Ls i) (F i) (KA i) (KB i))∧Den Tryz.prog 20 [.agg (parL true p),.agg (scL true ns x),turnsL true m K O S] (.tup [keysL false m n F Ls KA KB,.val (.bool true)]):=by
 obtain ⟨X,hX⟩:=Classical.axiomOfChoice (r:=fun (i:Nat) (d:Int × Nat × (Nat→Nat→Nat→Nat) × (Nat→Nat→Nat→Nat) × Int × Nat)=>i<m→Ky p n d.2.1 d.1 d.2.2.1 d.2.2.2.1∧DenH Tryz.prog 30 [.agg (parL true p),.agg (scL true ns x),.val (.int .i64 (turnF p (K i) (O i))),.eptr 0 0 0 0] [(0,.lit 117 (rfD (S i) 0))] (.tup [.agg (keyV false d.1 d.2.1 n d.2.2.1 d.2.2.2.1),.val (.int .i64 d.2.2.2.2.1)]) [(0,.lit 117 (rfD (S i) d.2.2.2.2.2))] []) (fun i=>by
  by_cases q:i<m
  ·have:=h4 i q
   obtain ⟨L0,f',e,A,B,c,a1,a2⟩:=newKey_any (S i) (by omega) p hp n hn32 hn ns (by omega) x hx hx0 (turnF p (K i) (O i))
   exact ⟨(f',L0,A,B,e,c),fun _=>⟨a1,a2⟩⟩
  ·exact ⟨(0,0,fun _ _ _=>0,fun _ _ _=>0,0,0),fun h=>absurd h q⟩)
 obtain ⟨F,hF⟩:∃ F:Nat→Int,∀ i,(X i).1=F i:=⟨_,fun _=>rfl⟩
 obtain ⟨Ls,hLs⟩:∃ F:Nat→Nat,∀ i,(X i).2.1=F i:=⟨_,fun _=>rfl⟩
 obtain ⟨KA,hKA⟩:∃ F:Nat→Nat→Nat→Nat→Nat,∀ i,(X i).2.2.1=F i:=⟨_,fun _=>rfl⟩
 obtain ⟨KB,hKB⟩:∃ F:Nat→Nat→Nat→Nat→Nat,∀ i,(X i).2.2.2.1=F i:=⟨_,fun _=>rfl⟩
 obtain ⟨Er,hEr⟩:∃ F:Nat→Int,∀ i,(X i).2.2.2.2.1=F i:=⟨_,fun _=>rfl⟩
 obtain ⟨Cu,hCu⟩:∃ F:Nat→Nat,∀ i,(X i).2.2.2.2.2=F i:=⟨_,fun _=>rfl⟩
 simp only [hF,hLs,hKA,hKB,hEr,hCu] at hX
 refine ⟨F,Ls,KA,KB,fun i hi=>(hX i hi).1,?_⟩
 have hnk:=fun i hi=>(hX i hi).2
 clear hX hF hLs hKA hKB hEr hCu
 refine den_intro (fn:=Tryz.f20) rfl rfl rfl rfl rfl ?_
 refine go ?_
 refine c_ifB (fun q=>?_) (fun q=>?_)
 ·exfalso
  simp at q
  omega
 clear q
 refine go ?_
 refine c_nil 8 1900 28 3 (fun i=>keyV false (F i) (Ls i) n (KA i) (KB i)) ?_
 refine c_up m (fun j=>[(9,.val (.int .i64 (j:Nat))),(8,.sl 1900 3 j)]) (fun j=>[(1900,some (.arr 28 j 3 (fun i=>keyV false (F i) (Ls i) n (KA i) (KB i))))]) (fun j hj=>?_)
 refine go ?_
 refine c_if (fun h6=>?_) (fun h6=>?_)
 ·have h64:=h4 j h6
  have hKj:=hK j
  have hk:=hnk j h6
  refine go ?_
  refine c_ifB (fun q=>?_) (fun q=>?_)
  ·rw [show turnF p (K j) (O j)=IntKind.i64.wrap (-1 - IntKind.i64.wrap (2*(K j % p.n))) from if_pos q] at hk
   have h0:0<p.n:=by simp at q;exact q.2
   have hp2:=hp.n2
   refine go ?_
   refine r_call (pick_den (K j) p.n h0 hp2 hKj.1 hKj.2) ?_
   refine go ?_
   refine r_callL (refNew_den (S j) (by omega)) rfl rfl ?_
   refine go ?_
   refine r_callM (1000+76) hk ?_
   refine go ?_
   refine ⟨h6,?_⟩
   refine sub_arr (1000+83) (fun i=>keyV false (F i) (Ls i) n (KA i) (KB i)) (appF_snoc rfl) (fun _=>rfl) ?_
   refine sub_toL [80] (1000+83) 1900 ?_
   exact sub
  ·rw [show turnF p (K j) (O j)=K j from if_neg (by rw [q];simp)] at hk
   refine go ?_
   refine r_callL (refNew_den (S j) (by omega)) rfl rfl ?_
   refine go ?_
   refine r_callM (1000+76) hk ?_
   refine go ?_
   refine ⟨h6,?_⟩
   refine sub_arr (1000+83) (fun i=>keyV false (F i) (Ls i) n (KA i) (KB i)) (appF_snoc rfl) (fun _=>rfl) ?_
   refine sub_toL [80] (1000+83) 1900 ?_
   exact sub
 ·obtain rfl:j=m:=by omega
  refine go ?_
  refine fin_freeze 1900 ?_
  refine fin ?_
  exact cv

instance ti106:TI Tryz.prog 106 Tryz.t106 (.slice 3):=⟨by kernel_rfl,by kernel_rfl⟩
instance et106:ET Tryz.prog 106 1:=ET.of ti106 ti3 rfl
instance fi38:FI Tryz.prog 38 Tryz.f38:=⟨Tryz.func38,Tryz.call38⟩
instance fi64:FI Tryz.prog 64 Tryz.f64:=⟨Tryz.func64,Tryz.call64⟩
abbrev natsD (o:Bool) (m:Nat) (w:Nat→Nat):D:=.fz o m 1 (fun k=>[.val (.int .i64 ((w k:Nat):Int))])
abbrev haveD (o:Bool) (m:Nat) (F:Nat→Int):D:=.fz o m 1 (fun k=>[.val (.int .i64 (-(F k)))])
section
variable (p:PD) (n m:Nat) (hm:m≤1000) (F:Nat→Int) (Ls:Nat→Nat) (KA KB:Nat→Nat→Nat→Nat→Nat) (want:Int)
include hm
theorem gaReach_no1 (c:CG) (htw:Den Tryz.prog 68 [.agg (parL true p),.agg (ciD true c)] (.val (.bool false))) :
  Den Tryz.prog 38 [.agg (parL true p),keysL true m n F Ls KA KB,.agg (ciD true c),.val (.int .i64 want)] (.tup [.agg zeroC,.val (.int .i64 2)]):=by
 refine den_intro (fn:=Tryz.f38) rfl rfl rfl rfl rfl ?_
 refine go ?_
 refine r_call htw ?_
 refine go ?_
 refine c_yes ?_
 refine go ?_
 refine fin ?_
 exact cv
theorem gaReach_no2 (c:CG) (htw:Den Tryz.prog 68 [.agg (parL true p),.agg (ciD true c)] (.val (.bool true))) (T:Nat→Bool) (htu:∀ i,i<m→Den Tryz.prog 69 [.agg (parL true p),.agg (keyV true (F i) (Ls i) n (KA i) (KB i))] (.val (.bool (T i)))) (j0:Nat) (hj:j0<m) (h0:T j0=false) (h1:∀ i,i<j0→T i=true) (hF:∀ i,i<j0 → -1000≤F i∧F i≤1000) :
  Den Tryz.prog 38 [.agg (parL true p),keysL true m n F Ls KA KB,.agg (ciD true c),.val (.int .i64 want)] (.tup [.agg zeroC,.val (.int .i64 2)]):=by
 refine den_intro (fn:=Tryz.f38) rfl rfl rfl rfl rfl ?_
 refine go ?_
 refine r_call htw ?_
 refine go ?_
 refine c_no ?_
 refine go ?_
 refine c_arr (1000+29) (m:=1) (fun e=>if e<0 then [.val (.int .i64 (-(F e)))] else [.val (.int .i64 0)]) (fun e he=>rfl) (fun e=>by split<;>rfl) ?_
 refine c_up j0 (fun j=>[(32,.val (.int .i64 (j:Nat)))]) (fun j=>[(1029,some (.arr 3 m 1 (fun e=>if e<j then [.val (.int .i64 (-(F e)))] else [.val (.int .i64 0)])))]) (fun j hj=>?_)
 refine go ?_
 rcases Nat.lt_or_ge j j0 with q | q
 ·have ht:=htu j (by omega)
  rw [h1 j q] at ht
  have:=hF j q
  refine r_call ht ?_
  refine go ?_
  refine c_no ?_
  refine go ?_
  refine ⟨q,?_⟩
  refine sub_arr (1000+29) (m:=1) (fun e=>if e<j+1 then [.val (.int .i64 (-(F e)))] else [.val (.int .i64 0)]) (fun e _=>setE_fillE (f:=fun e=>[.val (.int .i64 (-(F e)))]) (z:=[.val (.int .i64 0)]) rfl e) (fun e=>by split<;>rfl) ?_
  exact sub
 ·obtain rfl:j=j0:=by omega
  have ht:=htu j (by omega)
  rw [h0] at ht
  refine r_call ht ?_
  refine go ?_
  refine c_yes ?_
  refine go ?_
  refine fin ?_
  exact cv
variable (htu:∀ i,i<m→Den Tryz.prog 69 [.agg (parL true p),.agg (keyV true (F i) (Ls i) n (KA i) (KB i))] (.val (.bool true))) (hF:∀ i,i<m → -1000≤F i∧F i≤1000) (len:Nat) (hlen:len≤64) (e:Int) (w:Nat→Nat)
  (hpath:Den Tryz.prog 64 [.agg (parL true p),haveD true m F,.val (.int .i64 want)] (.tup [natsD false len w,.val (.int .i64 e)]))
include htu hF hpath hlen
theorem gaReach_no3 (c:CG) (htw:Den Tryz.prog 68 [.agg (parL true p),.agg (ciD true c)] (.val (.bool true))) (he:e≠0) :
  Den Tryz.prog 38 [.agg (parL true p),keysL true m n F Ls KA KB,.agg (ciD true c),.val (.int .i64 want)] (.tup [.agg zeroC,.val (.int .i64 e)]):=by
 refine den_intro (fn:=Tryz.f38) rfl rfl rfl rfl rfl ?_
 refine go ?_
 refine r_call htw ?_
 refine go ?_
 refine c_no ?_
 refine go ?_
 refine c_arr (1000+29) (m:=1) (fun e=>if e<0 then [.val (.int .i64 (-(F e)))] else [.val (.int .i64 0)]) (fun e he=>rfl) (fun e=>by split<;>rfl) ?_
 refine c_up m (fun j=>[(32,.val (.int .i64 (j:Nat)))]) (fun j=>[(1029,some (.arr 3 m 1 (fun e=>if e<j then [.val (.int .i64 (-(F e)))] else [.val (.int .i64 0)])))]) (fun j hj=>?_)
 refine go ?_
 refine c_if (fun h5=>?_) (fun h5=>?_)
 ·have:=hF j h5
  refine go ?_
  refine r_call (htu j h5) ?_
  refine go ?_
  refine c_no ?_
  refine go ?_
  refine ⟨h5,?_⟩
  refine sub_arr (1000+29) (m:=1) (fun e=>if e<j+1 then [.val (.int .i64 (-(F e)))] else [.val (.int .i64 0)]) (fun e _=>setE_fillE (f:=fun e=>[.val (.int .i64 (-(F e)))]) (z:=[.val (.int .i64 0)]) rfl e) (fun e=>by split<;>rfl) ?_
  exact sub
 ·obtain rfl:j=m:=by omega
  refine c_arr (1000+29) (n:=j) (m:=1) (fun e=>[.val (.int .i64 (-(F e)))]) (fun e he=>if_pos he) (fun _=>rfl) ?_
  refine go ?_
  refine r_eqS 51 (.sl (1000+29) 1 j) rfl ?_
  refine r_call hpath ?_
  refine go ?_
  refine fin ?_
  exact cv
theorem gaReach_ok (lv ex:Nat) (hC:Cv p n lv ex) (G:Nat→Nat→Nat→Nat) (hG:Vc p lv G) (htw:Den Tryz.prog 68 [.agg (parL true p),.agg (ciV true lv ex 2 n G)] (.val (.bool true))) (he:e=0) (hw:∀ k,k<len→w k<m)
  (Gs:Nat→Nat→Nat→Nat→Nat) (h0:Gs 0=G) (hap:∀ k,k<len→Den Tryz.prog 22 [.agg (parL true p),.agg (keyV true (F (w k)) (Ls (w k)) n (KA (w k)) (KB (w k))),.agg (ciV true lv ex 2 n (Gs k))] (.tup [.agg (ciV false lv ex 2 n (Gs (k+1))),.val (.int .i64 0)])) :
  Den Tryz.prog 38 [.agg (parL true p),keysL true m n F Ls KA KB,.agg (ciV true lv ex 2 n G),.val (.int .i64 want)] (.tup [.agg (ciV false lv ex 2 n (Gs len)),.val (.int .i64 0)]):=by
 refine den_intro (fn:=Tryz.f38) rfl rfl rfl rfl rfl ?_
 have hL:=hC.lv
 have h32:=hL.n32
 have l2:=hL.l2
 have l24:=hL.vp.len2
 have hmi:∀ i,Den Tryz.prog 76 [.agg (parL true p),.agg (elL true lv false lv n (G i)),.val (.int .i64 1)] (.tup [.agg (elL false lv false lv n (G i)),.val (.int .i64 0)]):=fun i=>by
  have:=rgMulInt_den p n lv false hL 1 (by omega) (G i) (hG i)
  rw [show (fun r j=>(G i r j*resI 1 (modQ p lv r)) % modQ p lv r)=G i from mulInt1 hL (hG i)] at this
  exact this
 subst he
 refine go ?_
 refine r_call htw ?_
 refine go ?_
 refine c_no ?_
 refine go ?_
 refine c_arr (1000+29) (m:=1) (fun e=>if e<0 then [.val (.int .i64 (-(F e)))] else [.val (.int .i64 0)]) (fun e he=>rfl) (fun e=>by split<;>rfl) ?_
 refine c_up m (fun j=>[(32,.val (.int .i64 (j:Nat)))]) (fun j=>[(1029,some (.arr 3 m 1 (fun e=>if e<j then [.val (.int .i64 (-(F e)))] else [.val (.int .i64 0)])))]) (fun j hj=>?_)
 refine go ?_
 refine c_if (fun h5=>?_) (fun h5=>?_)
 ·have:=hF j h5
  refine go ?_
  refine r_call (htu j h5) ?_
  refine go ?_
  refine c_no ?_
  refine go ?_
  refine ⟨h5,?_⟩
  refine sub_arr (1000+29) (m:=1) (fun e=>if e<j+1 then [.val (.int .i64 (-(F e)))] else [.val (.int .i64 0)]) (fun e _=>setE_fillE (f:=fun e=>[.val (.int .i64 (-(F e)))]) (z:=[.val (.int .i64 0)]) rfl e) (fun e=>by split<;>rfl) ?_
  exact sub
 ·obtain rfl:j=m:=by omega
  refine c_arr (1000+29) (n:=j) (m:=1) (fun e=>[.val (.int .i64 (-(F e)))]) (fun e he=>if_pos he) (fun _=>rfl) ?_
  refine go ?_
  refine r_eqS 51 (.sl (1000+29) 1 j) rfl ?_
  refine r_call hpath ?_
  refine go ?_
  refine c_nilcell 1015 2 1900 35 3 (fun i=>elL false lv false lv n (G i)) ?_
  refine c_up 2 (fun j=>[(68,.val (.int .i64 (j:Nat)))]) (fun j=>[(1015,some (.lit 43 [.val (.int .i64 (lv:Nat)),.val (.int .i64 (ex:Nat)),.sl 1900 3 j])),(1900,some (.arr 35 j 3 (fun i=>elL false lv false lv n (G i))))]) (fun i hi=>?_)
  refine go ?_
  refine c_if (fun h6=>?_) (fun h6=>?_)
  ·refine go ?_
   refine r_call (hmi i) ?_
   refine go ?_
   refine ⟨h6,?_⟩
   refine sub_arr (1000+82) (fun i=>elL false lv false lv n (G i)) (appF_snoc rfl) (fun _=>rfl) ?_
   refine sub_toL [79] (1000+82) 1900 ?_
   exact sub
  ·obtain rfl:i=2:=by omega
   refine c_freeze 1900 ?_
   refine c_lit 1015 (ciV false lv ex 2 n (Gs 0)) ?_ ?_
   ·rw [h0]
    exact .cons (.refl _) (.cons (.refl _) (.cons (.ice (CvV.ice (ns:=[1900]) rfl (by omega) rfl)) .nil))
   refine go ?_
   refine c_up len (fun j=>[(87,.val (.int .i64 (j:Nat)))]) (fun j=>[(1015,some (.lit 43 (ciV false lv ex 2 n (Gs j))))]) (fun k hk=>?_)
   refine go ?_
   refine c_if (fun h7=>?_) (fun h7=>?_)
   ·have:=hw k h7
    refine go ?_
    refine r_call (hap k h7) ?_
    refine go ?_
    refine ⟨h7,?_⟩
    exact sub
   ·obtain rfl:k=len:=by omega
    refine go ?_
    refine fin ?_
    exact cv
end

instance fi39:FI Tryz.prog 39 Tryz.f39:=⟨Tryz.func39,Tryz.call39⟩
instance fi102:FI Tryz.prog 102 Tryz.f102:=⟨Tryz.func102,Tryz.call102⟩
theorem r19Reach_no1 (p:PD) (hp:PFit p) (n m:Nat) (hm:m≤1000) (F:Nat→Int) (Ls:Nat→Nat) (KA KB:Nat→Nat→Nat→Nat→Nat) (want:Int) (c:CG) (hk:c.k≤1000000) (hm2:∀ i,(c.P i).m≤1000000) (hl:∀ i k,(c.P i).ln k≤1000000) (h:(decide (c.k=2) && ciOk p c)=false) :
  Den Tryz.prog 39 [.agg (parL true p),keysL true m n F Ls KA KB,.agg (ciD true c),.val (.int .i64 want)] (.tup [.agg zeroC,.val (.int .i64 2)]):=by
 refine den_intro (fn:=Tryz.f39) rfl rfl rfl rfl rfl ?_
 refine go ?_
 refine r_call (r14Check_den p hp c hk hl hm2) ?_
 refine go ?_
 refine c_ifB (fun h1=>?_) (fun h1=>?_)
 ·refine go ?_
  refine fin ?_
  exact cv
 ·exfalso
  cases q:ciOk p c
  ·rw [q] at h1;simp [errI] at h1
  ·rw [q] at h1 h
   simp [errI] at h1 h
   omega
section
variable (p:PD) (n m:Nat) (hm:m≤1000) (F:Nat→Int) (Ls:Nat→Nat) (KA KB:Nat→Nat→Nat→Nat→Nat) (want:Int)
variable (lv ex:Nat) (hC:Cv p n lv ex) (G:Nat→Nat→Nat→Nat) (hG:Vc p lv G)
include hm hC hG
theorem r19Reach_no2 (T:Nat→Bool) (htu:∀ i,i<m→Den Tryz.prog 66 [.agg (parL true p),.agg (keyV true (F i) (Ls i) n (KA i) (KB i))] (.val (.bool (T i)))) (j0:Nat) (hj:j0<m) (h0:T j0=false) (h1:∀ i,i<j0→T i=true) (hF:∀ i,i<j0 → -1000≤F i∧F i≤1000) :
  Den Tryz.prog 39 [.agg (parL true p),keysL true m n F Ls KA KB,.agg (ciV true lv ex 2 n G),.val (.int .i64 want)] (.tup [.agg zeroC,.val (.int .i64 2)]):=by
 refine den_intro (fn:=Tryz.f39) rfl rfl rfl rfl rfl ?_
 refine go ?_
 refine r_call (r14CheckV_den p n lv ex 2 hC (.inl rfl) G hG) ?_
 refine go ?_
 refine c_no ?_
 refine go ?_
 refine c_nil 10 1900 3 1 (fun k=>[.val (.int .i64 (-(F k)))]) ?_
 refine c_up j0 (fun j=>[(11,.val (.int .i64 (j:Nat))),(10,.sl 1900 1 j)]) (fun j=>[(1900,some (.arr 3 j 1 (fun k=>[.val (.int .i64 (-(F k)))])))]) (fun j hj=>?_)
 refine go ?_
 rcases Nat.lt_or_ge j j0 with q | q
 ·have ht:=htu j (by omega)
  rw [h1 j q] at ht
  have:=hF j q
  refine r_call ht ?_
  refine go ?_
  refine c_no ?_
  refine go ?_
  refine ⟨q,?_⟩
  refine sub_arr (1000+48) (fun k=>[.val (.int .i64 (-(F k)))]) (appF_snoc rfl) (fun _=>rfl) ?_
  refine sub_toL [40] (1000+48) 1900 ?_
  exact sub
 ·obtain rfl:j=j0:=by omega
  have ht:=htu j (by omega)
  rw [h0] at ht
  refine r_call ht ?_
  refine go ?_
  refine c_yes ?_
  refine go ?_
  refine fin ?_
  exact cv
variable (htu:∀ i,i<m→Den Tryz.prog 66 [.agg (parL true p),.agg (keyV true (F i) (Ls i) n (KA i) (KB i))] (.val (.bool true))) (hF:∀ i,i<m → -1000≤F i∧F i≤1000) (len:Nat) (hlen:len≤64) (e:Int) (w:Nat→Nat)
  (hpath:Den Tryz.prog 102 [.agg (parL true p),haveD true m F,.val (.int .i64 want)] (.tup [natsD false len w,.val (.int .i64 e)]))
include htu hF hpath hlen
theorem r19Reach_no3 (he:e≠0) :
  Den Tryz.prog 39 [.agg (parL true p),keysL true m n F Ls KA KB,.agg (ciV true lv ex 2 n G),.val (.int .i64 want)] (.tup [.agg zeroC,.val (.int .i64 e)]):=by
 refine den_intro (fn:=Tryz.f39) rfl rfl rfl rfl rfl ?_
 refine go ?_
 refine r_call (r14CheckV_den p n lv ex 2 hC (.inl rfl) G hG) ?_
 refine go ?_
 refine c_no ?_
 refine go ?_
 refine c_nil 10 1900 3 1 (fun k=>[.val (.int .i64 (-(F k)))]) ?_
 refine c_up m (fun j=>[(11,.val (.int .i64 (j:Nat))),(10,.sl 1900 1 j)]) (fun j=>[(1900,some (.arr 3 j 1 (fun k=>[.val (.int .i64 (-(F k)))])))]) (fun j hj=>?_)
 refine go ?_
 refine c_if (fun h5=>?_) (fun h5=>?_)
 ·have:=hF j h5
  refine go ?_
  refine r_call (htu j h5) ?_
  refine go ?_
  refine c_no ?_
  refine go ?_
  refine ⟨h5,?_⟩
  refine sub_arr (1000+48) (fun k=>[.val (.int .i64 (-(F k)))]) (appF_snoc rfl) (fun _=>rfl) ?_
  refine sub_toL [40] (1000+48) 1900 ?_
  exact sub
 ·obtain rfl:j=m:=by omega
  refine go ?_
  refine r_call hpath ?_
  refine go ?_
  refine fin ?_
  exact cv
theorem r19Reach_ok (he:e=0) (hw:∀ k,k<len→w k<m)
  (Gs:Nat→Nat→Nat→Nat→Nat) (h0:Gs 0=G) (hap:∀ k,k<len→Den Tryz.prog 23 [.agg (parL true p),.agg (keyV true (F (w k)) (Ls (w k)) n (KA (w k)) (KB (w k))),.agg (ciV true lv ex 2 n (Gs k))] (.tup [.agg (ciV false lv ex 2 n (Gs (k+1))),.val (.int .i64 0)])) :
  Den Tryz.prog 39 [.agg (parL true p),keysL true m n F Ls KA KB,.agg (ciV true lv ex 2 n G),.val (.int .i64 want)] (.tup [.agg (ciV true lv ex 2 n (Gs len)),.val (.int .i64 0)]):=by
 refine den_intro (fn:=Tryz.f39) rfl rfl rfl rfl rfl ?_
 have hL:=hC.lv
 have h32:=hL.n32
 have l2:=hL.l2
 have l24:=hL.vp.len2
 subst he
 refine go ?_
 refine r_call (r14CheckV_den p n lv ex 2 hC (.inl rfl) G hG) ?_
 refine go ?_
 refine c_no ?_
 refine go ?_
 refine c_nil 10 1900 3 1 (fun k=>[.val (.int .i64 (-(F k)))]) ?_
 refine c_up m (fun j=>[(11,.val (.int .i64 (j:Nat))),(10,.sl 1900 1 j)]) (fun j=>[(1900,some (.arr 3 j 1 (fun k=>[.val (.int .i64 (-(F k)))])))]) (fun j hj=>?_)
 refine go ?_
 refine c_if (fun h5=>?_) (fun h5=>?_)
 ·have:=hF j h5
  refine go ?_
  refine r_call (htu j h5) ?_
  refine go ?_
  refine c_no ?_
  refine go ?_
  refine ⟨h5,?_⟩
  refine sub_arr (1000+48) (fun k=>[.val (.int .i64 (-(F k)))]) (appF_snoc rfl) (fun _=>rfl) ?_
  refine sub_toL [40] (1000+48) 1900 ?_
  exact sub
 ·obtain rfl:j=m:=by omega
  refine go ?_
  refine r_call hpath ?_
  refine go ?_
  refine c_lit 1006 (ciV true lv ex 2 n (Gs 0)) ?_ ?_
  ·rw [h0]
   exact .cons (.refl _) (.cons (.refl _) (.cons (.refl _) .nil))
  refine c_up len (fun j=>[(14,.val (.int .i64 (j:Nat)))]) (fun j=>[(1006,some (.lit 43 (ciV true lv ex 2 n (Gs j))))]) (fun k hk=>?_)
  refine go ?_
  refine c_if (fun h7=>?_) (fun h7=>?_)
  ·have:=hw k h7
   refine go ?_
   refine r_call (hap k h7) ?_
   refine go ?_
   refine ⟨h7,?_⟩
   refine Sub.trans (sub_box (1000+6) (.lit 43 (ciV true lv ex 2 n (Gs (k+1)))) (BoxCv.lit (.cons (.refl _) (.cons (.refl _) (.cons (.cvt inferInstance) .nil)))) (by kernel_rfl)) ?_
   exact sub
  ·obtain rfl:k=len:=by omega
   refine go ?_
   refine fin ?_
   exact cv
end

theorem law19keys_no1 (p:PD) (ns:Nat) (x:Nat→Int) (m:Nat) (K:Nat→Int) (O:Nat→Bool) (S:Nat→ByteArray) (hm:m≤9223372036854775807) (hns:ns≤9223372036854775807) (hcl:p.chain.length≤9223372036854775807)
  (h:¬ (m≤6∧ns≤200∧p.chain.length≤3)) :
  Den Tryz.prog 20 [.agg (parL true p),.agg (scL true ns x),turnsL true m K O S] (.tup [.val (.slice none 0 0),.val (.bool false)]):=by
 refine den_intro (fn:=Tryz.f20) rfl rfl rfl rfl rfl ?_
 refine go ?_
 refine c_ifB (fun q=>?_) (fun q=>?_)
 ·refine go ?_
  refine fin ?_
  exact cv
 ·exfalso
  simp at q
  omega
theorem law19keys_no2 (p:PD) (hp:PFit p) (n:Nat) (hn32:n≤32) (hn:Good p.par→p.n=(n:Int)) (ns:Nat) (x:Nat→Int) (hx:∀ j, -128≤x j∧x j≤127) (hx0:∀ j,ns≤j→x j=0) (m:Nat) (K:Nat→Int) (O:Nat→Bool) (S:Nat→ByteArray) (hK:∀ i, -9223372036854775808≤K i∧K i≤9223372036854775807)
  (h1:m≤6) (h2:ns≤200) (h3:p.chain.length≤3) (j0:Nat) (hj0:j0<m) (h4:∀ i,i<j0→(S i).size≤60000) (h5:60000<(S j0).size) (h63:(S j0).size≤9223372036854775807) :
  Den Tryz.prog 20 [.agg (parL true p),.agg (scL true ns x),turnsL true m K O S] (.tup [.val (.slice none 0 0),.val (.bool false)]):=by
 obtain ⟨X,hX⟩:=Classical.axiomOfChoice (r:=fun (i:Nat) (d:Int × Nat × (Nat→Nat→Nat→Nat) × (Nat→Nat→Nat→Nat) × Int × Nat)=>i<j0→Ky p n d.2.1 d.1 d.2.2.1 d.2.2.2.1∧DenH Tryz.prog 30 [.agg (parL true p),.agg (scL true ns x),.val (.int .i64 (turnF p (K i) (O i))),.eptr 0 0 0 0] [(0,.lit 117 (rfD (S i) 0))] (.tup [.agg (keyV false d.1 d.2.1 n d.2.2.1 d.2.2.2.1),.val (.int .i64 d.2.2.2.2.1)]) [(0,.lit 117 (rfD (S i) d.2.2.2.2.2))] []) (fun i=>by
  by_cases q:i<j0
  ·have:=h4 i q
   obtain ⟨L0,f',e,A,B,c,a1,a2⟩:=newKey_any (S i) (by omega) p hp n hn32 hn ns (by omega) x hx hx0 (turnF p (K i) (O i))
   exact ⟨(f',L0,A,B,e,c),fun _=>⟨a1,a2⟩⟩
  ·exact ⟨(0,0,fun _ _ _=>0,fun _ _ _=>0,0,0),fun h=>absurd h q⟩)
 obtain ⟨F,hF⟩:∃ F:Nat→Int,∀ i,(X i).1=F i:=⟨_,fun _=>rfl⟩
 obtain ⟨Ls,hLs⟩:∃ F:Nat→Nat,∀ i,(X i).2.1=F i:=⟨_,fun _=>rfl⟩
 obtain ⟨KA,hKA⟩:∃ F:Nat→Nat→Nat→Nat→Nat,∀ i,(X i).2.2.1=F i:=⟨_,fun _=>rfl⟩
 obtain ⟨KB,hKB⟩:∃ F:Nat→Nat→Nat→Nat→Nat,∀ i,(X i).2.2.2.1=F i:=⟨_,fun _=>rfl⟩
 obtain ⟨Er,hEr⟩:∃ F:Nat→Int,∀ i,(X i).2.2.2.2.1=F i:=⟨_,fun _=>rfl⟩
 obtain ⟨Cu,hCu⟩:∃ F:Nat→Nat,∀ i,(X i).2.2.2.2.2=F i:=⟨_,fun _=>rfl⟩
 simp only [hF,hLs,hKA,hKB,hEr,hCu] at hX
 have hnk:=fun i hi=>(hX i hi).2
 clear hX hF hLs hKA hKB hEr hCu
 refine den_intro (fn:=Tryz.f20) rfl rfl rfl rfl rfl ?_
 refine go ?_
 refine c_ifB (fun q=>?_) (fun q=>?_)
 ·exfalso
  simp at q
  omega
 clear q
 refine go ?_
 refine c_nil 8 1900 28 3 (fun i=>keyV false (F i) (Ls i) n (KA i) (KB i)) ?_
 refine c_up j0 (fun j=>[(9,.val (.int .i64 (j:Nat))),(8,.sl 1900 3 j)]) (fun j=>[(1900,some (.arr 28 j 3 (fun i=>keyV false (F i) (Ls i) n (KA i) (KB i))))]) (fun j hj=>?_)
 refine go ?_
 rcases Nat.lt_or_ge j j0 with h6 | h6
 ·have h64:=h4 j h6
  have hKj:=hK j
  have hk:=hnk j h6
  refine go ?_
  refine c_ifB (fun q=>?_) (fun q=>?_)
  ·rw [show turnF p (K j) (O j)=IntKind.i64.wrap (-1 - IntKind.i64.wrap (2*(K j % p.n))) from if_pos q] at hk
   have h0:0<p.n:=by simp at q;exact q.2
   have hp2:=hp.n2
   refine go ?_
   refine r_call (pick_den (K j) p.n h0 hp2 hKj.1 hKj.2) ?_
   refine go ?_
   refine r_callL (refNew_den (S j) (by omega)) rfl rfl ?_
   refine go ?_
   refine r_callM (1000+76) hk ?_
   refine go ?_
   refine ⟨h6,?_⟩
   refine sub_arr (1000+83) (fun i=>keyV false (F i) (Ls i) n (KA i) (KB i)) (appF_snoc rfl) (fun _=>rfl) ?_
   refine sub_toL [80] (1000+83) 1900 ?_
   exact sub
  ·rw [show turnF p (K j) (O j)=K j from if_neg (by rw [q];simp)] at hk
   refine go ?_
   refine r_callL (refNew_den (S j) (by omega)) rfl rfl ?_
   refine go ?_
   refine r_callM (1000+76) hk ?_
   refine go ?_
   refine ⟨h6,?_⟩
   refine sub_arr (1000+83) (fun i=>keyV false (F i) (Ls i) n (KA i) (KB i)) (appF_snoc rfl) (fun _=>rfl) ?_
   refine sub_toL [80] (1000+83) 1900 ?_
   exact sub
 ·obtain rfl:j=j0:=by omega
  refine go ?_
  refine fin ?_
  exact cv

instance ti53:TI Tryz.prog 53 Tryz.t53 Tryz.t52.desc:=⟨by kernel_rfl,by kernel_rfl⟩
instance ft53_0:FT Tryz.prog 53 0 0:=FT.of ti53 rfl ti25 rfl rfl
instance ft53_1:FT Tryz.prog 53 1 7:=FT.of ti53 rfl ti51 rfl rfl
instance fi5:FI Tryz.prog 5 Tryz.f5:=⟨Tryz.func5,Tryz.call5⟩
instance fi21:FI Tryz.prog 21 Tryz.f21:=⟨Tryz.func21,Tryz.call21⟩
abbrev ownL (o:Bool) (p:PD) (ns:Nat) (x:Nat→Int):List D:=parL o p++scL o ns x
theorem gaApplies_gen (p:PD) (ns:Nat) (x:Nat→Int) (c:CG) (m n:Nat) (hm:m≤6) (K:Nat→Int) (O:Nat→Bool) (S:Nat→ByteArray) (F:Nat→Int) (Ls:Nat→Nat) (KA KB:Nat→Nat→Nat→Nat→Nat) (hlg:Den Tryz.prog 16 [.agg (ciD true c)] (.val (.bool false)))
  (hk:Den Tryz.prog 20 [.agg (parL true p),.agg (scL true ns x),turnsL true m K O S] (.tup [keysL false m n F Ls KA KB,.val (.bool true)])) (haw:Den Tryz.prog 21 [] (.val (.bool true)))
  (l y k n2:Nat→Nat) (e:Nat→Int) (G:Nat→Nat→Nat→Nat→Nat) (hb:∀ j,j<m→l j≤1000∧k j≤3∧n2 j≤32)
  (h1:∀ j,j<m→Den Tryz.prog 22 [.agg (parL true p),.agg (keyV true (F j) (Ls j) n (KA j) (KB j)),.agg (ciD true c)] (.tup [.agg (ciV false (l j) (y j) (k j) (n2 j) (G j)),.val (.int .i64 (e j))]))
  (h2:∀ j,j<m→Den Tryz.prog 23 [.agg (parL true p),.agg (keyV true (F j) (Ls j) n (KA j) (KB j)),.agg (ciD true c)] (.tup [.agg (ciV false (l j) (y j) (k j) (n2 j) (G j)),.val (.int .i64 (e j))]))
  (m3 l3 y3 n3:Nat) (e3:Int) (R:Nat→Nat→Nat→Nat→Nat) (hb3:m3≤1000∧l3≤1000∧n3≤32)
  (h3:Den Tryz.prog 24 [.agg (parL true p),keysL true m n F Ls KA KB,.agg (ciD true c)] (.tup [.fz false m3 3 (fun i=>ciV false l3 y3 2 n3 (R i)),.val (.int .i64 e3)]))
  (h4:Den Tryz.prog 25 [.agg (parL true p),keysL true m n F Ls KA KB,.agg (ciD true c)] (.tup [.fz false m3 3 (fun i=>ciV false l3 y3 2 n3 (R i)),.val (.int .i64 e3)])) :
  Den Tryz.prog 5 [.agg (ownL true p ns x),.agg (ciD true c),turnsL true m K O S] (.val (.bool true)):=by
 refine den_intro (fn:=Tryz.f5) rfl rfl rfl rfl rfl ?_
 refine go ?_
 refine r_call hk ?_
 refine go ?_
 refine g_callM (hl:=fun hb=>r_call hlg (run_fin rfl)) (h:=?_)
 refine go ?_
 refine c_ifB (fun q=>?_) (fun q=>?_)
 ·exfalso
  simp at q
 clear q
 refine go ?_
 refine c_up m (fun j=>[(11,.val (.int .i64 (j:Nat)))]) (fun j=>[]) (fun j hj=>?_)
 refine go ?_
 refine c_if (fun h6=>?_) (fun h6=>?_)
 ·have hbj:=hb j h6
  refine go ?_
  refine r_call (h1 j h6) ?_
  refine go ?_
  refine r_call (h2 j h6) ?_
  refine go ?_
  refine r_call (r14SameV_den (l j) (y j) (k j) (n2 j) hbj.1 hbj.2.1 hbj.2.2 (G j) (G j) (fun _ _ _ _ _ _=>rfl)) ?_
  refine go ?_
  refine ⟨h6,?_⟩
  exact sub
 ·obtain rfl:j=m:=by omega
  refine go ?_
  refine r_call h3 ?_
  refine go ?_
  refine r_call h4 ?_
  refine go ?_
  refine r_call (law19Same_den m3 l3 y3 n3 R hb3.1 hb3.2.1 hb3.2.2) ?_
  refine go ?_
  refine g_callM (hl:=fun hb=>r_call haw (run_fin rfl)) (h:=?_)
  refine go ?_
  refine fin ?_
  rw [decide_eq_true (show e3=e3 from rfl)]
  exact CvV.id rfl

open Go.ChangeShapes Go.WideShapes Go.ChangeAt Go.RowKit Go.Deep Go.Joins
set_option maxRecDepth 100000
section
variable {H:Type} {enc:TypeId × Value→H} {w:World} {base:Nat} {spare:Nat→Bool} {held:Bool} {v:Value} {fuel:Nat} {x:DataW H × List MemPlace}
theorem pars_in {cs:List Value} (h:DataW.trod enc Tryz.prog w base spare held fuel 25 cs=some x) :
  ∃ (q:Par) (ca:Option Addr) (cc:Nat),cs=(q.cells ca cc).toList∧ParIn w q ca cc:=by
 obtain ⟨xs,n,_,_,hl,hlen,hf⟩:=DataW.trod_struct Tryz.underlying25 h
 have hl7:cs.length=7:=hl.trans (by kernel_rfl)
 match cs,hl7 with
 | [c0,c1,c2,c3,c4,c5,c6],_=>
  match xs,hlen with
  | [y0,y1,y2,y3,y4,y5,y6],_=>
   have f0:=hf 0 _ rfl
   have f1:=hf 1 _ rfl
   have f2:=hf 2 _ rfl
   have f3:=hf 3 _ rfl
   have f4:=hf 4 _ rfl
   have f5:=hf 5 _ rfl
   have f6:=hf 6 _ rfl
   have ei:Tryz.prog.cellsOf 3=1:=by kernel_rfl
   have eu:Tryz.prog.cellsOf 22=1:=by kernel_rfl
   have es:Tryz.prog.cellsOf 23=1:=by kernel_rfl
   have t0:DataW.trod enc Tryz.prog w base spare held n 3 [c0]=some y0:=by simpa [ei] using f0
   have t1:DataW.trod enc Tryz.prog w base spare held n 22 [c1]=some y1:=by simpa [eu] using f1
   have t2:DataW.trod enc Tryz.prog w base spare held n 3 [c2]=some y2:=by simpa [ei] using f2
   have t3:DataW.trod enc Tryz.prog w base spare held n 23 [c3]=some y3:=by simpa [es] using f3
   have t4:DataW.trod enc Tryz.prog w base spare held n 22 [c4]=some y4:=by simpa [eu] using f4
   have t5:DataW.trod enc Tryz.prog w base spare held n 3 [c5]=some y5:=by simpa [ei] using f5
   have t6:DataW.trod enc Tryz.prog w base spare held n 22 [c6]=some y6:=by simpa [eu] using f6
   clear f0 f1 f2 f3 f4 f5 f6 hf
   obtain ⟨z0,e0,_,w0⟩:=DataW.trod_int Tryz.underlying3 t0
   obtain ⟨z1,e1,_,w1⟩:=DataW.trod_int Tryz.underlying22 t1
   obtain ⟨z2,e2,_,w2⟩:=DataW.trod_int Tryz.underlying3 t2
   obtain ⟨ca,cc,l,rfl,hn,hlc,hcm,hrd,hb⟩:=words_in t3
   obtain ⟨z4,e4,_,w4⟩:=DataW.trod_int Tryz.underlying22 t4
   obtain ⟨z5,e5,_,w5⟩:=DataW.trod_int Tryz.underlying3 t5
   obtain ⟨z6,e6,_,w6⟩:=DataW.trod_int Tryz.underlying22 t6
   simp at e0 e1 e2 e4 e5 e6
   subst e0 e1 e2 e4 e5 e6
   obtain ⟨a0,b0⟩:=bounds_int w0
   obtain ⟨a1,b1⟩:=bounds_w32 w1
   obtain ⟨a2,b2⟩:=bounds_int w2
   obtain ⟨a4,b4⟩:=bounds_w32 w4
   obtain ⟨a5,b5⟩:=bounds_int w5
   obtain ⟨a6,b6⟩:=bounds_w32 w6
   obtain ⟨x1,rfl⟩:=Int.eq_ofNat_of_zero_le a1
   obtain ⟨x4,rfl⟩:=Int.eq_ofNat_of_zero_le a4
   obtain ⟨x6,rfl⟩:=Int.eq_ofNat_of_zero_le a6
   refine ⟨⟨z0,x1,z2,l,x4,z5,x6⟩,ca,cc,rfl,{ rd:=hrd,n1:=a0,n2:=b0,prime:=by simp only;omega,power1:=a2,power2:=b2,len:=?_,room:=hlc,room2:=by unfold maxLen at hcm;omega,chain:=hb,special:=by simp only;omega,weight1:=a5,weight2:=b5,err:=by simp only;omega }⟩
   unfold maxLen at hcm
   simp only
   omega
theorem smalls_rep (h:DataW.trod enc Tryz.prog w base spare held fuel 49 [v]=some x):∃ (m:Nat) (z:Nat→Int),m≤9223372036854775807∧(∀ j, -128≤z j∧z j≤127)∧(∀ j,m≤j→z j=0)∧v.oneCell'=true∧Rep (Zw w) w noN v (.fz true m 1 (fun j=>[.val (.int .i8 (z j))])):=by
 obtain ⟨_,_,_,hc2,_⟩:=slice_in Tryz.underlying49 (k:=1) (by kernel_rfl) (by omega) h
 obtain ⟨len,f,h1,h2,h3⟩:=slice_rep (k:=1) Tryz.underlying49 (by kernel_rfl) (by omega) h (Q:=fun ds=>∃ z:Int,(-128≤z∧z≤127)∧ds=[.val (.int .i8 z)]) (fun n cs y hl ht=>by
  match cs,hl with
  | [c0],_=>
   obtain ⟨z,e,_,wf⟩:=DataW.trod_int Tryz.underlying179 ht
   simp at e
   subst e
   refine ⟨_,rfl,⟨z,?_,rfl⟩,fun j hj=>?_⟩
   ·simp [Lit.wf,IntKind.min,IntKind.max,IntKind.signed,IntKind.bits] at wf
    omega
   obtain rfl:j=0:=by omega
   exact ⟨rfl,.val _ _⟩)
 obtain ⟨z,z1,z2⟩:=choose_fun (0:Int) len _ h2
 refine ⟨len,z,h1,fun j=>?_,z2,by rw [hc2];rfl,h3 _ (fun i hi=>(z1 i hi).2.symm)⟩
 by_cases q:j<len
 ·exact (z1 j q).1
 ·rw [z2 j (by omega)];omega
theorem owner_one {b0:Nat} {r:Reach} {d:DataW H} {p:List MemPlace} (hv:Value.okWide Tryz.prog w r b0 53 v) (h:DataW.Trod enc Tryz.prog w base spare held 53 v d p) :
  ∃ (q:PD) (m:Nat) (z:Nat→Int),PFit q∧q.chain.length≤9223372036854775807∧m≤9223372036854775807∧(∀ j, -128≤z j∧z j≤127)∧(∀ j,m≤j→z j=0)∧Rep (Zw w) w noN v (.agg (ownL true q m z)):=by
 obtain ⟨cs,rfl,hsz⟩:=okWide_struct Tryz.underlying53 hv
 obtain ⟨l⟩:=cs
 have hl8:l.length=8:=hsz.trans (by kernel_rfl)
 obtain ⟨fuel,hf0⟩:=h
 match l,hl8 with
 | [a0,a1,a2,a3,a4,a5,a6,a7],_=>
  have hf0:DataW.trod enc Tryz.prog w base spare held fuel 53 [a0,a1,a2,a3,a4,a5,a6,a7]=some (d,p):=by simpa [Value.cells] using hf0
  obtain ⟨xs,n,_,_,hl,hlen,hf⟩:=DataW.trod_struct Tryz.underlying53 hf0
  match xs,hlen with
  | [y0,y1],_=>
   have f0:=hf 0 _ rfl
   have f1:=hf 1 _ rfl
   have ep:Tryz.prog.cellsOf 25=7:=by kernel_rfl
   have es:Tryz.prog.cellsOf 51=1:=by kernel_rfl
   have g0:DataW.trod enc Tryz.prog w base spare held n 25 [a0,a1,a2,a3,a4,a5,a6]=some y0:=by simpa [ep] using f0
   have g1:DataW.trod enc Tryz.prog w base spare held n 51 [a7]=some y1:=by simpa [es,ep] using f1
   obtain ⟨xs,n',_,_,hl,hlen,hf⟩:=DataW.trod_struct Tryz.underlying51 g1
   match xs,hlen with
   | [y2],_=>
    have f2:=hf 0 _ rfl
    have e8:Tryz.prog.cellsOf 49=1:=by kernel_rfl
    have g2:DataW.trod enc Tryz.prog w base spare held n' 49 [a7]=some y2:=by simpa [e8] using f2
    obtain ⟨m,z,m1,m2,m3,m4,m5⟩:=smalls_rep g2
    obtain ⟨q,ca,cc,hq,hin⟩:=pars_in g0
    have hcl:q.chain.length≤9223372036854775807:=hin.len
    refine ⟨⟨q.n,q.prime,q.power,q.chain,q.special,q.weight,q.err⟩,m,z,⟨hin.n1,hin.n2,hin.prime,hin.power1,hin.power2,hin.chain,hin.special,hin.weight1,hin.weight2,hin.err⟩,hcl,m1,m2,m3,?_⟩
    simp only [Par.cells,List.cons.injEq,and_true] at hq
    obtain ⟨rfl,rfl,rfl,rfl,rfl,rfl,rfl⟩:=hq
    refine .agg _ [_,_,_,_,_,_,_,a7] _ rfl (fun j hj=>?_) (fun j hj=>?_)
    ·match j,hj with
     | 0,_ | 1,_ | 2,_ | 3,_ | 4,_ | 5,_ | 6,_=>rfl
     | 7,_=>exact m4
    ·match j,hj with
     | 0,_ | 1,_ | 2,_ | 4,_ | 5,_ | 6,_=>exact .val _ _
     | 7,_=>exact m5
     | 3,_=>
      refine .fz _ _ ca _ cc 1 _ (fun j _=>.int .u32 ((q.chain.getD j 0:Nat):Int)) hin.room hin.room2 (fun _ _=>rfl) (fun e c he hc=>?_) (fun e c he hc=>?_)
      ·obtain ⟨b,o,e1,e2⟩:=hin.rd e he
       obtain rfl:c=0:=by omega
       refine ⟨b,o,e1,⟨rfl,cell_lt (e2 e he)⟩,?_,rfl⟩
       rw [Nat.mul_one,Nat.add_zero];exact e2 e he
      ·obtain rfl:c=0:=by omega
       exact .val _ _
theorem turns_rep (h:DataW.trod enc Tryz.prog w base spare held fuel 54 [v]=some x) :
  ∃ (m:Nat) (K:Nat→Int) (O:Nat→Bool) (S:Nat→ByteArray),m≤9223372036854775807∧(∀ i, -9223372036854775808≤K i∧K i≤9223372036854775807)∧(∀ i,(S i).size≤9223372036854775807)∧v.oneCell'=true∧Rep (Zw w) w noN v (turnsL true m K O S):=by
 obtain ⟨_,_,_,hc2,_⟩:=slice_in Tryz.underlying54 (k:=3) (by kernel_rfl) (by omega) h
 obtain ⟨len,f,h1,h2,h3⟩:=slice_rep (k:=3) Tryz.underlying54 (by kernel_rfl) (by omega) h (Q:=fun ds=>∃ z:Int × Bool × ByteArray,(-9223372036854775808≤z.1∧z.1≤9223372036854775807)∧z.2.2.size≤9223372036854775807∧ds=[.val (.int .i64 z.1),.val (.bool z.2.1),.val (.string z.2.2)]) (fun n cs y hl ht=>by
  match cs,hl with
  | [c0,c1,c2],_=>
   obtain ⟨xs,n',_,_,hl,hlen,hf⟩:=DataW.trod_struct Tryz.underlying102 ht
   match xs,hlen with
   | [y0,y1,y2],_=>
    have f0:=hf 0 _ rfl
    have f1:=hf 1 _ rfl
    have f2:=hf 2 _ rfl
    have ei:Tryz.prog.cellsOf 3=1:=by kernel_rfl
    have eb:Tryz.prog.cellsOf 4=1:=by kernel_rfl
    have es:Tryz.prog.cellsOf 9=1:=by kernel_rfl
    have g0:DataW.trod enc Tryz.prog w base spare held n' 3 [c0]=some y0:=by simpa [ei] using f0
    have g1:DataW.trod enc Tryz.prog w base spare held n' 4 [c1]=some y1:=by simpa [ei,eb] using f1
    have g2:DataW.trod enc Tryz.prog w base spare held n' 9 [c2]=some y2:=by simpa [ei,eb,es] using f2
    obtain ⟨z0,e0,_,w0⟩:=DataW.trod_int Tryz.underlying3 g0
    obtain ⟨z1,e1,_⟩:=DataW.trod_bool Tryz.underlying4 g1
    obtain ⟨z2,e2,_,w2⟩:=DataW.trod_string Tryz.underlying9 g2
    simp at e0 e1 e2
    subst e0 e1 e2
    refine ⟨_,rfl,⟨(z0,z1,z2),bounds_int w0,by unfold maxLen at w2;show z2.size≤_;omega,rfl⟩,fun j hj=>?_⟩
    match j,hj with
    | 0,_ | 1,_ | 2,_=>exact ⟨rfl,.val _ _⟩)
 obtain ⟨Z,z1,z2⟩:=choose_fun ((0,false,ByteArray.empty):Int × Bool × ByteArray) len _ h2
 refine ⟨len,fun i=>(Z i).1,fun i=>(Z i).2.1,fun i=>(Z i).2.2,h1,fun j=>?_,fun j=>?_,by rw [hc2];rfl,h3 _ (fun i hi=>(z1 i hi).2.2.symm)⟩
 ·by_cases q:j<len
  ·exact (z1 j q).1
  ·show -9223372036854775808≤(Z j).1∧(Z j).1≤9223372036854775807
   rw [z2 j (by omega)];simp
 ·by_cases q:j<len
  ·exact (z1 j q).2.1
  ·show (Z j).2.2.size≤9223372036854775807
   rw [z2 j (by omega)];simp
theorem turns_in {b0:Nat} {r:Reach} {d:DataW H} {p:List MemPlace} (hv:Value.okWide Tryz.prog w r b0 54 v) (h:DataW.Trod enc Tryz.prog w base spare held 54 v d p) :
  ∃ (m:Nat) (K:Nat→Int) (O:Nat→Bool) (S:Nat→ByteArray),m≤9223372036854775807∧(∀ i, -9223372036854775808≤K i∧K i≤9223372036854775807)∧(∀ i,(S i).size≤9223372036854775807)∧Rep (Zw w) w noN v (turnsL true m K O S):=by
 obtain ⟨a,len,cap,rfl⟩:=okWide_slice Tryz.underlying54 hv
 obtain ⟨fuel,hf⟩:=h
 obtain ⟨m,K,O,S,h1,h2,h3,_,h4⟩:=turns_rep hf
 exact ⟨m,K,O,S,h1,h2,h3,h4⟩
theorem wish_one {b0:Nat} {r:Reach} {d:DataW H} {p:List MemPlace} (hv:Value.okWide Tryz.prog w r b0 76 v) (h:DataW.Trod enc Tryz.prog w base spare held 76 v d p) :
  ∃ (m:Nat) (K:Nat→Int) (O:Nat→Bool) (S:Nat→ByteArray) (want:Int),m≤9223372036854775807∧(∀ i, -9223372036854775808≤K i∧K i≤9223372036854775807)∧(∀ i,(S i).size≤9223372036854775807)∧(-9223372036854775808≤want∧want≤9223372036854775807)∧Rep (Zw w) w noN v (.agg [turnsL true m K O S,.val (.int .i64 want)]):=by
 obtain ⟨cs,rfl,hsz⟩:=okWide_struct Tryz.underlying76 hv
 obtain ⟨l⟩:=cs
 have hl2:l.length=2:=hsz.trans (by kernel_rfl)
 obtain ⟨fuel,hf0⟩:=h
 match l,hl2 with
 | [a0,a1],_=>
  have hf0:DataW.trod enc Tryz.prog w base spare held fuel 76 [a0,a1]=some (d,p):=by simpa [Value.cells] using hf0
  obtain ⟨xs,n,_,_,hl,hlen,hf⟩:=DataW.trod_struct Tryz.underlying76 hf0
  match xs,hlen with
  | [y0,y1],_=>
   have f0:=hf 0 _ rfl
   have f1:=hf 1 _ rfl
   have ei:Tryz.prog.cellsOf 3=1:=by kernel_rfl
   have es:Tryz.prog.cellsOf 54=1:=by kernel_rfl
   have g0:DataW.trod enc Tryz.prog w base spare held n 54 [a0]=some y0:=by simpa [es] using f0
   have g1:DataW.trod enc Tryz.prog w base spare held n 3 [a1]=some y1:=by simpa [ei,es] using f1
   obtain ⟨m,K,O,S,h1,h2,h3,m4,m5⟩:=turns_rep g0
   obtain ⟨z0,e0,_,w0⟩:=DataW.trod_int Tryz.underlying3 g1
   simp at e0
   subst e0
   refine ⟨m,K,O,S,z0,h1,h2,h3,bounds_int w0,.agg _ [a0,.int .i64 z0] _ rfl (fun j hj=>?_) (fun j hj=>?_)⟩
   ·match j,hj with
    | 0,_=>exact m4
    | 1,_=>rfl
   ·match j,hj with
    | 0,_=>exact m5
    | 1,_=>exact .val _ _
end

set_option maxRecDepth 20000
theorem gaApplies_no1 (p:PD) (ns:Nat) (x:Nat→Int) (c:CG) (m:Nat) (K:Nat→Int) (O:Nat→Bool) (S:Nat→ByteArray) (haw:Den Tryz.prog 21 [] (.val (.bool true)))
  (hk:Den Tryz.prog 20 [.agg (parL true p),.agg (scL true ns x),turnsL true m K O S] (.tup [.val (.slice none 0 0),.val (.bool false)])) :
  Den Tryz.prog 5 [.agg (ownL true p ns x),.agg (ciD true c),turnsL true m K O S] (.val (.bool true)):=by
 refine den_intro (fn:=Tryz.f5) rfl rfl rfl rfl rfl ?_
 refine go ?_
 refine r_call hk ?_
 refine go ?_
 refine r_call haw ?_
 refine go ?_
 refine fin ?_
 exact cv
theorem gaApplies_no2 (p:PD) (ns:Nat) (x:Nat→Int) (c:CG) (m n:Nat) (K:Nat→Int) (O:Nat→Bool) (S:Nat→ByteArray) (F:Nat→Int) (Ls:Nat→Nat) (KA KB:Nat→Nat→Nat→Nat→Nat) (haw:Den Tryz.prog 21 [] (.val (.bool true))) (hlg:Den Tryz.prog 16 [.agg (ciD true c)] (.val (.bool true)))
  (hk:Den Tryz.prog 20 [.agg (parL true p),.agg (scL true ns x),turnsL true m K O S] (.tup [keysL false m n F Ls KA KB,.val (.bool true)])) :
  Den Tryz.prog 5 [.agg (ownL true p ns x),.agg (ciD true c),turnsL true m K O S] (.val (.bool true)):=by
 refine den_intro (fn:=Tryz.f5) rfl rfl rfl rfl rfl ?_
 refine go ?_
 refine r_call hk ?_
 refine go ?_
 refine g_callM (hl:=fun hb=>r_call hlg (run_fin rfl)) (h:=?_)
 refine go ?_
 refine c_ifB (fun q=>?_) (fun q=>?_)
 ·refine go ?_
  refine r_call haw ?_
  refine go ?_
  refine fin ?_
  exact cv
 ·exfalso
  simp at q

theorem n_of (p:PD):∃ n:Nat,n≤32∧(Good p.par→p.n=(n:Int)):=by
 by_cases h:Good p.par
 ·obtain ⟨n,h1,h2,h3⟩:=good_n h
  exact ⟨n,h3,fun _=>h1⟩
 ·exact ⟨0,by omega,fun q=>absurd q h⟩
theorem gaApplies_den (p:PD) (hp:PFit p) (ns:Nat) (hns:ns≤9223372036854775807) (hcl:p.chain.length≤9223372036854775807) (x:Nat→Int) (hx:∀ j, -128≤x j∧x j≤127) (hx0:∀ j,ns≤j→x j=0) (c:CG) (hd:Dflt c) (m:Nat) (hm:m≤9223372036854775807) (K:Nat→Int) (O:Nat→Bool) (S:Nat→ByteArray) (hK:∀ i, -9223372036854775808≤K i∧K i≤9223372036854775807) (hS:∀ i,(S i).size≤9223372036854775807) (haw:Den Tryz.prog 21 [] (.val (.bool true))) :
  Den Tryz.prog 5 [.agg (ownL true p ns x),.agg (ciD true c),turnsL true m K O S] (.val (.bool true)):=by
 obtain ⟨n,hn32,hn⟩:=n_of p
 by_cases h:m≤6∧ns≤200∧p.chain.length≤3
 ·rcases first_false (fun i=>decide ((S i).size≤60000)) m with h4 | ⟨j,hj,hj0,hj1⟩
  ·obtain ⟨F,Ls,KA,KB,hKy,hk⟩:=law19keys_ok p hp n hn32 hn ns x hx hx0 m K O S hK h.1 h.2.1 h.2.2 (fun i hi=>by simpa using h4 i hi)
   have hlg:=large14_den c hd.k hd.m hd.l
   cases hs:smallC c with
   | false=>
    rw [hs] at hlg
    exact gaApplies_no2 p ns x c m n K O S F Ls KA KB haw hlg hk
   | true=>
    rw [hs] at hlg
    obtain ⟨m3,l3,y3,n3,e3,R,hb3,_,h31,h32⟩:=alike_several p hp n hn c hd hs m (by omega) F Ls KA KB hKy
    obtain ⟨X,hX⟩:=Classical.axiomOfChoice (r:=fun (j:Nat) (d:Nat × Nat × Nat × Nat × Int × (Nat→Nat→Nat→Nat))=>j<m→(d.1≤1000∧d.2.2.1≤3∧d.2.2.2.1≤32)∧Den Tryz.prog 22 [.agg (parL true p),.agg (keyV true (F j) (Ls j) n (KA j) (KB j)),.agg (ciD true c)] (.tup [.agg (ciV false d.1 d.2.1 d.2.2.1 d.2.2.2.1 d.2.2.2.2.2),.val (.int .i64 d.2.2.2.2.1)])∧Den Tryz.prog 23 [.agg (parL true p),.agg (keyV true (F j) (Ls j) n (KA j) (KB j)),.agg (ciD true c)] (.tup [.agg (ciV false d.1 d.2.1 d.2.2.1 d.2.2.2.1 d.2.2.2.2.2),.val (.int .i64 d.2.2.2.2.1)])) (fun j=>by
     by_cases q:j<m
     ·obtain ⟨l,y,k,n2,e,G,a1,a2,a3⟩:=alike_turn p hp n hn c hd hs (F j) (Ls j) (KA j) (KB j) (hKy j q)
      exact ⟨(l,y,k,n2,e,G),fun _=>⟨a1,a2,a3⟩⟩
     ·exact ⟨(0,0,0,0,0,fun _ _ _=>0),fun h=>absurd h q⟩)
    exact gaApplies_gen p ns x c m n h.1 K O S F Ls KA KB hlg hk haw (fun j=>(X j).1) (fun j=>(X j).2.1) (fun j=>(X j).2.2.1) (fun j=>(X j).2.2.2.1) (fun j=>(X j).2.2.2.2.1) (fun j=>(X j).2.2.2.2.2) (fun j hj=>(hX j hj).1) (fun j hj=>(hX j hj).2.1) (fun j hj=>(hX j hj).2.2) m3 l3 y3 n3 e3 R hb3 h31 h32
  ·exact gaApplies_no1 p ns x c m K O S haw (law19keys_no2 p hp n hn32 hn ns x hx hx0 m K O S hK h.1 h.2.1 h.2.2 j hj (fun i hi=>by simpa using hj1 i hi) (by simpa using hj0) (hS j))
 ·exact gaApplies_no1 p ns x c m K O S haw (law19keys_no1 p ns x m K O S hm hns hcl h)

instance fi7:FI Tryz.prog 7 Tryz.f7:=⟨Tryz.func7,Tryz.call7⟩
theorem gaHoists_no1 (p:PD) (ns:Nat) (x:Nat→Int) (c:CG) (m:Nat) (K:Nat→Int) (O:Nat→Bool) (S:Nat→ByteArray) (haw:Den Tryz.prog 21 [] (.val (.bool true)))
  (hk:Den Tryz.prog 20 [.agg (parL true p),.agg (scL true ns x),turnsL true m K O S] (.tup [.val (.slice none 0 0),.val (.bool false)])) :
  Den Tryz.prog 7 [.agg (ownL true p ns x),.agg (ciD true c),turnsL true m K O S] (.val (.bool true)):=by
 refine den_intro (fn:=Tryz.f7) rfl rfl rfl rfl rfl ?_
 refine go ?_
 refine r_call hk ?_
 refine go ?_
 refine r_call haw ?_
 refine go ?_
 refine fin ?_
 exact cv
theorem gaHoists_no2 (p:PD) (ns:Nat) (x:Nat→Int) (c:CG) (m n:Nat) (K:Nat→Int) (O:Nat→Bool) (S:Nat→ByteArray) (F:Nat→Int) (Ls:Nat→Nat) (KA KB:Nat→Nat→Nat→Nat→Nat) (haw:Den Tryz.prog 21 [] (.val (.bool true))) (hlg:Den Tryz.prog 16 [.agg (ciD true c)] (.val (.bool true)))
  (hk:Den Tryz.prog 20 [.agg (parL true p),.agg (scL true ns x),turnsL true m K O S] (.tup [keysL false m n F Ls KA KB,.val (.bool true)])) :
  Den Tryz.prog 7 [.agg (ownL true p ns x),.agg (ciD true c),turnsL true m K O S] (.val (.bool true)):=by
 refine den_intro (fn:=Tryz.f7) rfl rfl rfl rfl rfl ?_
 refine go ?_
 refine r_call hk ?_
 refine go ?_
 refine g_callM (hl:=fun hb=>r_call hlg (run_fin rfl)) (h:=?_)
 refine go ?_
 refine c_ifB (fun q=>?_) (fun q=>?_)
 ·refine go ?_
  refine r_call haw ?_
  refine go ?_
  refine fin ?_
  exact cv
 ·exfalso
  simp at q
theorem gaHoists_no3 (p:PD) (ns:Nat) (x:Nat→Int) (c:CG) (m n:Nat) (K:Nat→Int) (O:Nat→Bool) (S:Nat→ByteArray) (F:Nat→Int) (Ls:Nat→Nat) (KA KB:Nat→Nat→Nat→Nat→Nat) (haw:Den Tryz.prog 21 [] (.val (.bool true))) (hlg:Den Tryz.prog 16 [.agg (ciD true c)] (.val (.bool false)))
  (hk:Den Tryz.prog 20 [.agg (parL true p),.agg (scL true ns x),turnsL true m K O S] (.tup [keysL false m n F Ls KA KB,.val (.bool true)]))
  (h3:Den Tryz.prog 24 [.agg (parL true p),keysL true m n F Ls KA KB,.agg (ciD true c)] (.tup [.val (.slice none 0 0),.val (.int .i64 2)])) :
  Den Tryz.prog 7 [.agg (ownL true p ns x),.agg (ciD true c),turnsL true m K O S] (.val (.bool true)):=by
 refine den_intro (fn:=Tryz.f7) rfl rfl rfl rfl rfl ?_
 refine go ?_
 refine r_call hk ?_
 refine go ?_
 refine g_callM (hl:=fun hb=>r_call hlg (run_fin rfl)) (h:=?_)
 refine go ?_
 refine c_ifB (fun q=>?_) (fun q=>?_)
 ·exfalso
  simp at q
 clear q
 have h3:=h3.res (Cvt.tup (.cons (Cvt.nil false 3 (fun i=>ciV false 0 0 0 0 (fun _ _ _=>0))) (.cons (.of_eq rfl) .nil)))
 refine go ?_
 refine r_call h3 ?_
 refine go ?_
 refine g_callM (hl:=fun hb=>r_call haw (run_fin rfl)) (h:=?_)
 refine go ?_
 refine fin ?_
 exact CvV.id rfl
theorem gaHoists_ok (p:PD) (hp:PFit p) (ns:Nat) (x:Nat→Int) (c:CG) (m n:Nat) (hm:m≤6) (K:Nat→Int) (O:Nat→Bool) (S:Nat→ByteArray) (F:Nat→Int) (Ls:Nat→Nat) (KA KB:Nat→Nat→Nat→Nat→Nat) (haw:Den Tryz.prog 21 [] (.val (.bool true))) (hlg:Den Tryz.prog 16 [.agg (ciD true c)] (.val (.bool false)))
  (hk:Den Tryz.prog 20 [.agg (parL true p),.agg (scL true ns x),turnsL true m K O S] (.tup [keysL false m n F Ls KA KB,.val (.bool true)]))
  (lv ex:Nat) (h:Lv p n lv) (R:Nat→Nat→Nat→Nat→Nat) (hR:∀ j,Vg p lv (R j 0))
  (h3:Den Tryz.prog 24 [.agg (parL true p),keysL true m n F Ls KA KB,.agg (ciD true c)] (.tup [.fz false m 3 (fun i=>ciV false lv ex 2 n (R i)),.val (.int .i64 0)]))
  (h1:∀ j,j<m→Den Tryz.prog 22 [.agg (parL true p),.agg (keyV true (F j) (Ls j) n (KA j) (KB j)),.agg (ciD true c)] (.tup [.agg (ciV false lv ex 2 n (R j)),.val (.int .i64 0)])) :
  Den Tryz.prog 7 [.agg (ownL true p ns x),.agg (ciD true c),turnsL true m K O S] (.val (.bool true)):=by
 refine den_intro (fn:=Tryz.f7) rfl rfl rfl rfl rfl ?_
 have l2:=h.l2
 have l24:=h.vp.len2
 have h32:=h.n32
 have hck:∀ j,Den Tryz.prog 37 [.agg (parL true p),.agg (elL true lv false lv n (R j (Int.toNat 0)))] (.val (.int .i64 0)):=fun j=>r09CheckV_den p n lv false h (R j 0) (hR j)
 refine go ?_
 refine r_call hk ?_
 refine go ?_
 refine g_callM (hl:=fun hb=>r_call hlg (run_fin rfl)) (h:=?_)
 refine go ?_
 refine c_ifB (fun q=>?_) (fun q=>?_)
 ·exfalso
  simp at q
 clear q
 refine go ?_
 refine r_call h3 ?_
 refine go ?_
 refine c_up m (fun j=>[(13,.val (.int .i64 (j:Nat)))]) (fun j=>[]) (fun j hj=>?_)
 refine go ?_
 refine c_if (fun h6=>?_) (fun h6=>?_)
 ·refine go ?_
  refine r_call (h1 j h6) ?_
  refine go ?_
  refine g_callM (hl:=fun hb=>r_call (ciSameV_den lv ex 2 n (by omega) (by omega) h32 (R j) (R j) (fun _ _ _ _ _ _=>rfl)) (run_fin rfl)) (h:=?_)
  refine go ?_
  refine g_callM (hl:=fun hb=>r_call (hck j) (run_fin rfl)) (h:=?_)
  refine go ?_
  refine c_ifB (fun q=>?_) (fun q=>?_)
  ·exfalso
   simp at q
  refine go ?_
  refine ⟨h6,?_⟩
  exact sub
 ·obtain rfl:j=m:=by omega
  refine go ?_
  refine r_call haw ?_
  refine go ?_
  refine fin ?_
  exact cv
theorem gaHoists_den (p:PD) (hp:PFit p) (ns:Nat) (hns:ns≤9223372036854775807) (hcl:p.chain.length≤9223372036854775807) (x:Nat→Int) (hx:∀ j, -128≤x j∧x j≤127) (hx0:∀ j,ns≤j→x j=0) (c:CG) (hd:Dflt c) (m:Nat) (hm:m≤9223372036854775807) (K:Nat→Int) (O:Nat→Bool) (S:Nat→ByteArray) (hK:∀ i, -9223372036854775808≤K i∧K i≤9223372036854775807) (hS:∀ i,(S i).size≤9223372036854775807) (haw:Den Tryz.prog 21 [] (.val (.bool true))) :
  Den Tryz.prog 7 [.agg (ownL true p ns x),.agg (ciD true c),turnsL true m K O S] (.val (.bool true)):=by
 obtain ⟨n,hn32,hn⟩:=n_of p
 by_cases h:m≤6∧ns≤200∧p.chain.length≤3
 ·rcases first_false (fun i=>decide ((S i).size≤60000)) m with h4 | ⟨j,hj,hj0,hj1⟩
  ·obtain ⟨F,Ls,KA,KB,hKy,hk⟩:=law19keys_ok p hp n hn32 hn ns x hx hx0 m K O S hK h.1 h.2.1 h.2.2 (fun i hi=>by simpa using h4 i hi)
   have hlg:=large14_den c hd.k hd.m hd.l
   cases hs:smallC c with
   | false=>
    rw [hs] at hlg
    exact gaHoists_no2 p ns x c m n K O S F Ls KA KB haw hlg hk
   | true=>
    rw [hs] at hlg
    obtain ⟨s1,s2,s3⟩:=hd.small hs
    have htw:=gatwo_den p hp c s1 s2 s3
    cases q:(decide (c.k=2) && ciOk p c) with
    | false=>
     rw [q] at htw
     exact gaHoists_no3 p ns x c m n K O S F Ls KA KB haw hlg hk (gaSeveral_no1 p n m (by omega) F Ls KA KB c false htw (fun h=>by cases h) (fun h=>by cases h))
    | true=>
     rw [q] at htw
     obtain ⟨lv,ex,hC,hG,hcc⟩:=twoC_of hp hn hd q
     have hL:=hC.lv
     have hN:NatIs p.n n:=hL.n
     rcases Nat.lt_or_ge (2*n) m with q2 | q2
     ·exact gaHoists_no3 p ns x c m n K O S F Ls KA KB haw hlg hk (gaSeveral_no1 p n m (by omega) F Ls KA KB c true htw (fun _=>⟨hN,hn32⟩) (fun _=>q2))
     ·have hcl:∀ (L:List D),CvtL (L++[.agg (ciD true c)]) (L++[.agg (ciV true lv ex 2 n (partG c))]):=fun L=>by
       induction L with
       | nil=>exact .cons hcc .nil
       | cons d L ih=>exact .cons (.of_eq rfl) ih
      rcases first_false (fun i=>kT p n (F i) (Ls i) (KA i) (KB i)) m with hT | ⟨j,hj,hj0,hj1⟩
      ·have hkk:∃ kk:Nat→Nat,∀ j,j<m → -(F j)=(kk j:Int)∧1≤kk j∧kk j<2*n∧kk j % 2=1:=by
        refine ⟨fun j=>(-(F j)).toNat,fun j hj=>?_⟩
        obtain ⟨k,hk⟩:=(hKy j hj).k (hT j hj)
        have:(-(F j)).toNat=k:=by omega
        simp only [this]
        exact hk
       obtain ⟨kk,hkk⟩:=hkk
       have g1:=gaSeveral_kv p n lv ex m hC F Ls KA KB (partG c) hG kk q2 hKy hT hkk
       refine gaHoists_ok p hp ns x c m n h.1 K O S F Ls KA KB haw hlg hk lv ex hL (fun i=>tuR p lv n ex (Ls i) (kk i) (KA i) (KB i) (partG c)) (fun j=>?_) (g1.arg (hcl [_,_])) (fun j hj=>?_)
       ·unfold tuR
        rw [if_pos rfl]
        exact vg_add hL _ _
       ·have h4:=hL.n4
        have g2:=gaSeveral_kv p n lv ex 1 hC (fun _=>F j) (fun _=>Ls j) (fun _=>KA j) (fun _=>KB j) (partG c) hG (fun _=>kk j) (by omega) (fun _ _=>hKy j hj) (fun _ _=>hT j hj) (fun _ _=>hkk j hj)
        exact gaApply_ok p n (fun _=>F j) (fun _=>Ls j) (fun _=>KA j) (fun _=>KB j) c lv ex 2 n _ (g2.arg (hcl [_,_]))
      ·exact gaHoists_no3 p ns x c m n K O S F Ls KA KB haw hlg hk (gaSeveral_no2 p n m (by omega) F Ls KA KB c htw hN hn32 (fun i=>kT p n (F i) (Ls i) (KA i) (KB i)) (fun i hi=>(hKy i hi).turn hp) j hj hj0 hj1 q2)
  ·exact gaHoists_no1 p ns x c m K O S haw (law19keys_no2 p hp n hn32 hn ns x hx hx0 m K O S hK h.1 h.2.1 h.2.2 j hj (fun i hi=>by simpa using hj1 i hi) (by simpa using hj0) (hS j))
 ·exact gaHoists_no1 p ns x c m K O S haw (law19keys_no1 p ns x m K O S hm hns hcl h)
end Go.Proofs.YtmjildbdkecolaaGreat
