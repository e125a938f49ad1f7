/- The program's switching.NewKey, by data: the walk.
Switching keys: both sides make the same of the same bits.
The law SwitchingKeys, by data. -/
import Derived.Test.YtdcenblblimkfaaGreatPk42
import Derived.Test.YtdcenblblimkfaaGreatPk41
set_option linter.unusedSimpArgs false
set_option linter.unusedVariables false
set_option linter.unnecessarySimpa false
set_option linter.unusedSectionVars false
namespace Go.Proofs.YtdcenblblimkfaaGreat
open Go.RowKit
set_option maxRecDepth 20000
set_option maxHeartbeats 4000000
section
variable {ro:Option Nat} {P:Program} {N:Nat} {Q:Post} {c:Code} {env env1:List (Nat × D)} {box box1:List (Nat × Option Box)}
theorem c_drop (ts:List Nat) (h:AWp ro P N c (lk env1) (hk box1) Q)
  (h1:autoParam (KeepE ts env env1) aq10._auto_1) (h2:autoParam (KeepB [] box box1) aq11._auto_1)
  (h0:Sub (lk env) (hk box) (lk env1) (hk box1):=by exact sub):AWp ro P N c (lk env) (hk box) Q:=awp_sub h0 h
end
def sclF (E:Nat→Int) (T:Int) (y e:Nat):Int:=if e<y then E e*T else E e
theorem sclF_0 {E:Nat→Int} {T:Int} {e:Nat}:sclF E T 0 e=E e:=if_neg (by omega)
theorem sclF_at {E:Nat→Int} {T:Int} {y:Nat}:sclF E T y y=E y:=if_neg (by omega)
theorem sclF_next {E:Nat→Int} {T:Int} {y:Nat}:sclF E T y y*T=sclF E T (y+1) y:=by
 rw [sclF_at];exact (if_pos (by omega)).symm
theorem sclF_other {E:Nat→Int} {T:Int} {y e:Nat} (h:e≠y):sclF E T (y+1) e=sclF E T y e:=by
 unfold sclF
 by_cases q:e<y
 ·rw [if_pos q,if_pos (by omega)]
 ·rw [if_neg q,if_neg (by omega)]
section
variable (s:ByteArray) (p:PD) (n L0:Nat) (x:Nat→Int) (f:Int) (hN:NatIs p.n n) (h32:n≤32) (h4:4≤n) (l1:1≤L0) (l24:p.chain.length≤1000) (ht:L0=p.chain.length)
 (ex T:Nat) (hex:p.power=(ex:Int)) (hT:T≤2147483647) (hsp:p.special≤2147483647) (hm:∀ k,3≤modQ p L0 k∧modQ p L0 k≤2147483647)
 (SV:Nat→Int) (IS MS IX:Nat→Nat→Nat) (AA BB VV II PP:Nat→Nat→Nat→Nat) (EE:Nat→Nat→Int) (S:Nat→Nat) (bad:Nat→Bool)
 (hck:Den Tryz.prog 129 [.agg (parL true p),.agg (scL true n x)] (.val (.int .i64 (errI true))))
 (hsrc:Den Tryz.prog 130 [.agg (parL true p),.agg (scL true n x),.val (.int .i64 f)] (.tup [intsD false n SV,.val (.bool true)]))
 (hpow:Den Tryz.prog 131 [.agg (parL true p),.agg (scL true n x),.val (.int .i64 1)] (.tup [intsD false n x,.val (.int .i64 0)]))
 (hfi1:Den Tryz.prog 132 [.agg (parL true p),.val (.int .i64 (L0:Int)),.val (.bool true),intsD true n x] (.tup [.agg (elL false L0 true (L0+1) n IX),.val (.int .i64 0)]))
 (hfi2:Den Tryz.prog 132 [.agg (parL true p),.val (.int .i64 (L0:Int)),.val (.bool true),intsD true n SV] (.tup [.agg (elL false L0 true (L0+1) n IS),.val (.int .i64 0)]))
 (hmi:Den Tryz.prog 133 [.agg (parL true p),.agg (elL true L0 true (L0+1) n IS),.val (.int .i64 (p.special:Int))] (.tup [.agg (elL false L0 true (L0+1) n MS),.val (.int .i64 0)]))
 (hpm:Den Tryz.prog 134 [.agg (parL true p),.val (.int .i64 p.power)] (.tup [.val (.int .i64 (T:Int)),.val (.int .i64 0)]))
 (hEB:∀ j y, -137438953408≤EE j y*(T:Int)∧EE j y*(T:Int)≤137438953408)
 (hF3:∀ j,Den Tryz.prog 132 [.agg (parL true p),.val (.int .i64 (L0:Int)),.val (.bool true),intsD true n (fun y=>EE j y*(T:Int))] (.tup [.agg (elL false L0 true (L0+1) n (II j)),.val (.int .i64 0)]))
 (hMu:∀ j,Den Tryz.prog 137 [.agg (parL true p),.agg (elL true L0 true (L0+1) n (AA j)),.agg (elL true L0 true (L0+1) n IX)] (.tup [.agg (elL false L0 true (L0+1) n (PP j)),.val (.int .i64 0)]))
 (hSu:∀ j,DenH Tryz.prog 138 [.agg (parL true p),.agg (elL true L0 true (L0+1) n (II j)),.agg (elL true L0 true (L0+1) n (PP j))] [] (.tup [.agg (elM L0 true 1019 (L0+1)),.val (.int .i64 0)]) [] [(1019,u32M (L0+1) n (VV j))])
 (hBr:∀ j i y,i≠j→BB j i y=VV j i y)
 (hAd:∀ j y,j<L0→Den Tryz.prog 139 [.val (.int .u32 ((VV j j y:Nat):Int)),.val (.int .u32 ((MS j y:Nat):Int)),.val (.int .u32 ((p.chain.getD j 0:Nat):Int))] (.tup [.val (.int .u32 ((BB j j y:Nat):Int)),.val (.int .i64 0)]))
 (hu:∀ k j i,k=j*(L0+2)+i→i<L0+1→bad k=false→DenH Tryz.prog 135 [.eptr 0 0 0 0,.val (.int .i64 p.n),.val (.int .u32 ((modQ p L0 i:Nat):Int))] [(0,.lit 142 (suD s (S k)))] (.tup [u32sF false n (AA j i),.val (.int .i64 0)]) [(0,.lit 142 (suD s (S (k+1))))] [])
 (hun:∀ k j i,k=j*(L0+2)+i→i<L0+1→bad k=true→DenH Tryz.prog 135 [.eptr 0 0 0 0,.val (.int .i64 p.n),.val (.int .u32 ((modQ p L0 i:Nat):Int))] [(0,.lit 142 (suD s (S k)))] (.tup [listD .u32 false [],.val (.int .i64 4)]) [(0,.lit 142 (suD s (S k)))] [])
 (hbo:∀ k j,k=j*(L0+2)+(L0+1)→bad k=false→∃ E:Nat→Int,(∀ y,y<n→E y=EE j y)∧DenH Tryz.prog 136 [.eptr 0 0 0 0,.val (.int .i64 p.n),.val (.int .u32 (p.err:Int))] [(0,.lit 142 (suD s (S k)))] (.tup [.sl 1025 1 n,.val (.int .i64 0)]) [(0,.lit 142 (suD s (S (k+1))))] [(1025,.arr 2 n 1 (fun y=>[.val (.int .i64 (E y))]))])
 (hbn:∀ k j,k=j*(L0+2)+(L0+1)→bad k=true→DenH Tryz.prog 136 [.eptr 0 0 0 0,.val (.int .i64 p.n),.val (.int .u32 (p.err:Int))] [(0,.lit 142 (suD s (S k)))] (.tup [listD .i64 false [],.val (.int .i64 4)]) [(0,.lit 142 (suD s (S k)))] [])
 (hS0:S 0=0)
include hN h32 h4 l1 l24 ht hex hT hsp hm hck hsrc hpow hfi1 hfi2 hmi hpm hEB hF3 hMu hSu hBr hAd hu hun hbo hbn hS0
theorem swNewKey_walk (K0:Nat) (hK0:K0≤L0*(L0+2)) (hok:∀ k,k<K0→bad k=false) (r:D)
  (hE:(K0=L0*(L0+2)∧r = .tup [.agg (keyV false f L0 n BB AA),.val (.int .i64 0)])∨(K0<L0*(L0+2)∧bad K0=true∧r = .tup [.agg zeroK,.val (.int .i64 4)])) :
  DenH Tryz.prog 54 [.agg (parL true p),.agg (scL true n x),.val (.int .i64 f),.eptr 0 0 0 0] [(0,.lit 142 (suD s 0))] r [(0,.lit 142 (suD s (S K0)))] []:=by
 refine den_intro (fn:=Tryz.f54) rfl rfl rfl rfl rfl ?_
 refine go ?_
 refine r_call hck ?_
 refine go ?_
 refine r_call hsrc ?_
 refine go ?_
 refine c_no ?_
 refine go ?_
 refine r_call hpow ?_
 refine go ?_
 refine r_eqS 63 (.val (.int .i64 (L0:Int))) (d:=.val (.int .i64 (p.chain.length:Int))) (by rw [ht]) ?_
 refine r_eqS 12 (.val (.int .i64 (L0:Int))) (d:=.val (.int .i64 (p.chain.length:Int))) (by rw [ht]) ?_
 refine r_call hfi1 ?_
 refine go ?_
 refine r_call hfi2 ?_
 refine go ?_
 refine r_call hmi ?_
 refine go ?_
 refine r_call hpm ?_
 refine go ?_
 refine c_drop (List.range' 37 56++[10,11,13,14,16,18,20]) ?_
 refine c_nilcell 1021 1 1900 93 3 (fun j=>elL false L0 true (L0+1) n (BB j)) ?_
 refine c_nilcell 1021 2 1901 93 3 (fun j=>elL false L0 true (L0+1) n (AA j)) ?_
 refine c_lit 0 (suD s (S (0*(L0+2)))) (.cons (.refl _) (.cons (.eq (by rw [Nat.zero_mul,hS0])) (.cons (.refl _) .nil))) ?_
 refine c_down (fun j=>L0 - j) (fun j=>j≤L0∧j*(L0+2)≤K0) (fun j:Nat=>[(94,.val (.int .i64 (j:Int)))]) (fun j=>[(0,some (.lit 142 (suD s (S (j*(L0+2)))))),(1021,some (.lit 82 [.val (.int .i64 f),.sl 1900 3 j,.sl 1901 3 j])),(1900,some (.arr 93 j 3 (fun j=>elL false L0 true (L0+1) n (BB j)))),(1901,some (.arr 93 j 3 (fun j=>elL false L0 true (L0+1) n (AA j))))]) 0 (fun j hj=>?_) (by omega)
 refine go ?_
 refine c_if (fun h3=>?_) (fun h3=>?_)
 ·refine go ?_
  have hj3:(j+1)*(L0+2)≤L0*(L0+2):=Nat.mul_le_mul_right _ h3
  rw [Nat.add_mul,Nat.one_mul] at hj3
  refine c_arr 1105 (fun k=>[.val (.int .u32 ((modQ p L0 k:Nat):Int))]) (fun e he=>?_) (fun _=>rfl) ?_
  ·unfold modQ
   by_cases q:e<L0
   ·rw [appF_lt (by omega),if_pos q]
   ·rw [appF_ge (by omega),if_neg q,show e - p.chain.length=0 by omega];rfl
  refine c_nilcell 1023 2 1902 23 1 (fun k=>[u32sF false n (AA j k)]) ?_
  refine c_down (fun i=>L0+1 - i) (fun i=>i≤L0+1∧j*(L0+2)+i≤K0) (fun i:Nat=>[(107,.val (.int .i64 (i:Int)))]) (fun i=>[(0,some (.lit 142 (suD s (S (j*(L0+2)+i))))),(1023,some (.lit 93 [.val (.int .i64 (L0:Int)),.val (.bool true),.sl 1902 1 i])),(1902,some (.arr 23 i 1 (fun k=>[u32sF false n (AA j k)])))]) 0 (fun i hi=>?_) (by have:=hj.2;omega)
  refine go ?_
  refine c_if (fun h5=>?_) (fun h5=>?_)
  ·by_cases hb:j*(L0+2)+i<K0
   ·have hc:=hu _ j i rfl (by omega) (hok _ hb)
    refine go ?_
    refine r_callM 0 hc ?_
    refine go ?_
    refine ⟨i+1,by omega,by omega,?_⟩
    refine sub_arr (1000+127) (fun k=>[u32sF false n (AA j k)]) (appF_snoc rfl) (fun _=>rfl) ?_
    refine sub_toL [124] (1000+127) 1902 ?_
    exact sub
   ·obtain rfl:K0=j*(L0+2)+i:=by omega
    rcases hE with ⟨q,_⟩ | ⟨_,hbad,rfl⟩
    ·omega
    have hc:=hun _ j i rfl (by omega) hbad
    refine go ?_
    refine r_callM 0 hc ?_
    refine go ?_
    refine finH ?_
    exact cv
  ·obtain rfl:i=L0+1:=by omega
   refine c_drop (List.range' 95 35++[25,26,27]) ?_
   refine c_freeze 1902 ?_
   refine c_lit 1023 (elL false L0 true (L0+1) n (AA j)) (.cons (.refl _) (.cons (.refl _) (.cons (.ice (CvV.ice (ns:=[1902]) rfl (Nat.le_refl _) rfl)) .nil))) ?_
   have e2:j*(L0+2)+(L0+1)+1=(j+1)*(L0+2):=by rw [Nat.add_mul];omega
   by_cases hb:j*(L0+2)+(L0+1)<K0
   case neg=>
    obtain rfl:K0=j*(L0+2)+(L0+1):=by omega
    rcases hE with ⟨q,_⟩ | ⟨_,hbad,rfl⟩
    ·omega
    have hc:=hbn _ j rfl hbad
    refine go ?_
    refine r_callM 0 hc ?_
    refine go ?_
    refine finH ?_
    exact cv
   obtain ⟨E,hEE,hc⟩:=hbo _ j rfl (hok _ hb)
   rw [e2] at hc
   refine go ?_
   refine r_callMA 0 hc (r':=.tup [.sl 1136 1 n,.val (.int .i64 0)]) rfl ?_
   refine go ?_
   refine c_arr 1136 (n:=n) (f:=fun y=>[.val (.int .i64 (E y))]) (fun e=>[.val (.int .i64 (sclF (EE j) (T:Int) 0 e))]) (fun e he=>by rw [sclF_0,hEE e he]) (fun _=>rfl) ?_
   refine c_up n (fun y=>[(145,.val (.int .i64 (y:Nat)))]) (fun y=>[(1136,some (.arr 2 n 1 (fun e=>[.val (.int .i64 (sclF (EE j) (T:Int) y e))])))]) (fun y hy=>?_)
   refine go ?_
   refine c_if (fun h6=>?_) (fun h6=>?_)
   ·have hb1:=hEB j y
    have hb2:sclF (EE j) (T:Int) y y*(T:Int)=EE j y*(T:Int):=by rw [sclF_at]
    refine go ?_
    refine ⟨h6,?_⟩
    refine sub_arr 1136 (fun e=>[.val (.int .i64 (sclF (EE j) (T:Int) (y+1) e))]) (fun e he=>setE_putI (h:=sclF (EE j) (T:Int) y) (n:=n) sclF_next (fun e _ hne=>sclF_other hne) e he) (fun _=>rfl) ?_
    exact sub
   obtain rfl:y=n:=by omega
   refine c_drop (List.range' 130 26++[29,30]) ?_
   refine c_arr 1136 (n:=y) (f:=fun e=>[.val (.int .i64 (sclF (EE j) (T:Int) y e))]) (fun e=>[.val (.int .i64 (EE j e*(T:Int)))]) (fun e he=>by rw [show sclF (EE j) (T:Int) y e=EE j e*(T:Int) from if_pos he]) (fun _=>rfl) ?_
   refine go ?_
   refine r_call (hF3 j) ?_
   refine go ?_
   refine r_call (hMu j) ?_
   refine go ?_
   refine r_callN (hSu j) (r':=.tup [.agg (elM L0 true 1174 (L0+1)),.val (.int .i64 0)]) rfl ?_
   refine go ?_
   refine c_drop (List.range' 156 25++[32,34]) ?_
   refine c_mat 1174 (fun k z=>[.val (.int .u32 ((fill2 (BB j) (VV j) j 0 k z:Nat):Int))]) (fun e z he hz=>by
    rw [show fill2 (BB j) (VV j) j 0 e z=VV j e z by
     unfold fill2
     split
     ·exact hBr j e z (by omega)
     ·rfl]) (fun _ _=>rfl) ?_
   refine c_up y (fun z=>[(183,.val (.int .i64 (z:Nat)))]) (fun z=>[(1174,some (.mat 23 22 (L0+1) (L0+1) 1 y (fun k z'=>[.val (.int .u32 ((fill2 (BB j) (VV j) j z k z':Nat):Int))])))]) (fun z hz=>?_)
   refine go ?_
   refine c_if (fun h7=>?_) (fun h7=>?_)
   ·have had:=hAd j z h3
    rw [← fill2_at (F:=BB j) (G:=VV j) (i:=j) (x:=z)] at had
    refine go ?_
    refine r_callO had ?_
    refine go ?_
    refine ⟨h7,?_⟩
    refine sub_mat 1174 (fun k z'=>[.val (.int .u32 ((fill2 (BB j) (VV j) j (z+1) k z':Nat):Int))]) (fun r z' _ _=>fill2_set rfl r z') (fun _ _=>rfl) ?_
    exact sub
   obtain rfl:z=y:=by omega
   refine c_mat 1174 (n2:=z) (g:=fun k z'=>[.val (.int .u32 ((fill2 (BB j) (VV j) j z k z':Nat):Int))]) (fun k z'=>[.val (.int .u32 ((BB j k z':Nat):Int))]) (fun e w he hw=>by
    rw [show fill2 (BB j) (VV j) j z e w=BB j e w by
     unfold fill2
     split
     ·rfl
     ·exact (hBr j e w (by omega)).symm]) (fun _ _=>rfl) ?_
   refine c_drop (List.range' 181 33++[35,36]) ?_
   refine c_freezeM 1174 ?_
   refine c_lit 1031 (elL false L0 true (L0+1) z (BB j)) (.cons (.refl _) (.cons (.refl _) (.cons (.ice (CvV.ice (ns:=[1174]) rfl (Nat.le_refl _) rfl)) .nil))) ?_
   refine go ?_
   refine ⟨j+1,by omega,by omega,?_⟩
   refine sub_arr (1000+218) (fun j=>elL false L0 true (L0+1) z (BB j)) (appF_snoc rfl) (fun _=>rfl) ?_
   refine sub_arr (1000+223) (fun j=>elL false L0 true (L0+1) z (AA j)) (appF_snoc rfl) (fun _=>rfl) ?_
   refine sub_toL [215] (1000+218) 1900 ?_
   refine sub_toL [220] (1000+223) 1901 ?_
   exact sub
 ·obtain rfl:j=L0:=by omega
  rcases hE with ⟨rfl,rfl⟩ | ⟨q,_⟩
  case inr=>have:=hj.2;omega
  refine go ?_
  refine fin_freeze 1900 ?_
  refine fin_freeze 1901 ?_
  refine finH ?_
  exact cv
end

instance fi56:FI Tryz.prog 56 Tryz.f56:=⟨Tryz.func56,Tryz.call56⟩
section
variable (s:ByteArray) (hs:s.size≤1048576) (p:PD) (n L0:Nat) (x:Nat→Int) (f:Int) (h:Sv p n L0 x f)
include hs h
theorem swNewKey_any (K0:Nat) (hK0:K0≤L0*(L0+2)) (hok:∀ k,k<K0→dBad s p n L0 k=false) (r:D)
  (hE:(K0=L0*(L0+2)∧r = .tup [.agg (keyV false f L0 n (nkB s p n L0 (p.prime ^ p.power.toNat) x f) (nkA s p n L0)),.val (.int .i64 0)])∨(K0<L0*(L0+2)∧dBad s p n L0 K0=true∧r = .tup [.agg zeroK,.val (.int .i64 4)])) :
  DenH Tryz.prog 54 [.agg (parL true p),.agg (scL true n x),.val (.int .i64 f),.eptr 0 0 0 0] [(0,.lit 142 (suD s 0))] r [(0,.lit 142 (suD s (dS s p n L0 K0)))] []:=by
 have hL:=h.lv
 have hg:=h.good
 have h32:=hL.n32
 have l1:=hL.l1
 have ht:=h.top
 have herr:p.err≤64:=hg.2.2.2.2.2.1
 have hx:=h.x
 have hp1:1≤p.power:=by have:=hg.2.2.2.2.2.2.1.2.2.2.2.1;simp only [PD.par] at this;omega
 obtain ⟨ex,hex⟩:=Int.eq_ofNat_of_zero_le (show 0≤p.power by omega)
 obtain ⟨b1,b2,b3⟩:=good_pow hg (ex:=ex) (by omega)
 have hT:=b1 ex (Nat.le_refl _)
 rw [show p.power.toNat=ex by omega] at hE
 have hck:=kyCheckSecret_den p h.fit n x (by omega) (fun j=>by have:=hx j;omega)
 rw [h.sc] at hck
 have hsi:=srcV_in (f:=f) h32 hx
 have hsp:p.special≤2147483647:=by have:=modQ_in hL.vp hL.sp hL.l2 L0;unfold modQ at this;rw [if_neg (by omega)] at this;omega
 have hpm:=pModulus_den p h.fit 1 ex ⟨hg,by omega,by omega,by omega,by omega⟩
 rw [← hex] at hpm
 have hEi:=nkE_in (s:=s) (p:=p) (n:=n) (L0:=L0) herr
 have hEB:∀ j y, -137438953408≤nkE s p n L0 j y*((p.prime ^ ex:Nat):Int)∧nkE s p n L0 j y*((p.prime ^ ex:Nat):Int)≤137438953408:=fun j y=>by
  have q:=hEi j y
  have q1:=Int.mul_le_mul_of_nonneg_right q.1 (show (0:Int)≤((p.prime ^ ex:Nat):Int) by omega)
  have q2:=Int.mul_le_mul_of_nonneg_right q.2 (show (0:Int)≤((p.prime ^ ex:Nat):Int) by omega)
  omega
 have hm:=modQ_in hL.vp hL.sp hL.l2
 refine swNewKey_walk s p n L0 x f h.n h32 hL.n4 l1 (by have:=hL.vp.len2;omega) ht ex (p.prime ^ ex) hex hT hsp (fun k=>by have:=hm k;omega) (srcV n x f) (intV p L0 (srcV n x f)) (mulIntV p L0 (p.special:Int) (intV p L0 (srcV n x f))) (intV p L0 x) (nkA s p n L0) (nkB s p n L0 (p.prime ^ ex) x f)
  (fun j=>subV p L0 (intV p L0 (fun y=>nkE s p n L0 j y*((p.prime ^ ex:Nat):Int))) (prdV p L0 n (nkA s p n L0 j) (intV p L0 x))) (fun j=>intV p L0 (fun y=>nkE s p n L0 j y*((p.prime ^ ex:Nat):Int))) (fun j=>prdV p L0 n (nkA s p n L0 j) (intV p L0 x)) (nkE s p n L0) (dS s p n L0) (dBad s p n L0)
  hck (swsource_den p h.fit n x h.n h.sc hx f h.from_) (kyPowerS_den p h.fit n x hg h.n h.sc hx) (rgFromInts_den p n L0 true hL x (fun j=>by have:=hx j;omega)) (rgFromInts_den p n L0 true hL (srcV n x f) (fun j=>by have:=hsi j;omega)) (rgMulInt_den p n L0 true hL (p.special:Int) (by omega) (intV p L0 (srcV n x f)) (vg_int hL _)) hpm hEB
  (fun j=>rgFromInts_den p n L0 true hL _ (fun y=>by have:=hEB j y;omega)) (fun j=>rgMul_den p n L0 true hL _ _ (vg_nkA hL j) (vg_int hL _)) (fun j=>rgSub_own p n L0 true hL _ _ (vg_int hL _) (vg_prd hL _ _)) (fun j i y hi=>?_) (fun j y hj=>?_)
  (fun k j i hk hi hb=>sw_uni s hs p n L0 x f h k j i hk hi hb) (fun k j i hk hi hb=>sw_unino s hs p n L0 x f h k j i hk hi hb) (fun k j hk hb=>sw_bou s hs p n L0 x f h k j hk hb) (fun k j hk hb=>sw_bouno s hs p n L0 x f h k j hk hb) rfl K0 hK0 hok r hE
 ·rw [nkB_row hL,if_neg hi]
 ·have hmj:=hm j
  rw [nkB_row hL,if_pos rfl,show p.chain.getD j 0=modQ p L0 j by unfold modQ;rw [if_pos hj]]
  exact mAdd_den _ _ _ (by omega) (by omega) (vg_sub hL _ _ j y) (vg_mulInt hL _ _ j y)
end
theorem first_bad (bad:Nat→Bool):∀ M,∃ K,K≤M∧(∀ k,k<K→bad k=false)∧(K=M∨(K<M∧bad K=true))
 | 0=>⟨0,Nat.le_refl _,fun k hk=>by omega,.inl rfl⟩
 | M+1=>by
  obtain ⟨K,h1,h2,h3⟩:=first_bad bad M
  rcases h3 with rfl | ⟨h3,h4⟩
  ·cases q:bad K with
   | true=>exact ⟨K,by omega,h2,.inr ⟨by omega,q⟩⟩
   | false=>exact ⟨K+1,Nat.le_refl _,fun k hk=>by
     by_cases e:k=K
     ·rw [e];exact q
     ·exact h2 k (by omega),.inl rfl⟩
  ·exact ⟨K,by omega,h2,.inr ⟨by omega,h4⟩⟩
def AlikeK (s:ByteArray) (ds:List D):Prop:=∃ (g:Int) (L n:Nat) (A B:Nat→Nat→Nat→Nat) (e:Int) (c:Nat),(L≤1000∧n≤1000000∧c≤8*s.size) ∧
 DenH Tryz.prog 54 (ds++[.eptr 0 0 0 0]) [(0,.lit 142 (suD s 0))] (.tup [.agg (keyV false g L n A B),.val (.int .i64 e)]) [(0,.lit 142 (suD s c))] [] ∧
 DenH Tryz.prog 55 (ds++[.eptr 0 0 0 0]) [(0,.lit 144 (rfD s 0))] (.tup [.agg (keyV false g L n A B),.val (.int .i64 e)]) [(0,.lit 144 (rfD s c))] []
theorem zeroK_cvt {e:Int}:Cvt (.tup [.agg zeroK,.val (.int .i64 e)]) (.tup [.agg (keyV false 0 0 0 (fun _ _ _=>0) (fun _ _ _=>0)),.val (.int .i64 e)]):=
 Cvt.tup (.cons (Cvt.agg (.cons (.of_eq rfl) (.cons (Cvt.nil _ _ _) (.cons (Cvt.nil _ _ _) .nil)))) (.cons (.of_eq rfl) .nil))
theorem alikeK (s:ByteArray) (hs:s.size≤1048576) (p:PD) (hp:PFit p) (n:Nat) (x:Nat→Int) (hn:n≤1000000) (hx:∀ j, -128≤x j∧x j≤127) (h0:∀ j,n≤j→x j=0) (f:Int):AlikeK s [.agg (parL true p),.agg (scL true n x),.val (.int .i64 f)]:=by
 cases q:(scB p n x && fromB p f) with
 | false=>exact ⟨0,0,0,_,_,2,0,by omega,(swNewKey_bad s 0 p hp n x hn hx f q).res zeroK_cvt,(r18NewKey_bad s 0 p hp n x hn hx f q).res zeroK_cvt⟩
 | true=>
  rw [Bool.and_eq_true] at q
  have hx1:∀ j, -1≤x j∧x j≤1:=fun j=>by
   by_cases e:j<n
   ·exact (sc_all q.1).2.2 j e
   ·rw [h0 j (by omega)];omega
  have h:Sv p n p.chain.length x f:=⟨hp,q.1,q.2,(sc_all q.1).2.1,rfl,hx1⟩
  have l24:=h.lv.vp.len2
  obtain ⟨K,h1,h2,h3⟩:=first_bad (dBad s p n p.chain.length) (p.chain.length*(p.chain.length+2))
  rcases h3 with rfl | ⟨h3,h4⟩
  ·exact ⟨_,_,_,_,_,_,_,⟨by omega,hn,dS_le _⟩,swNewKey_any s hs p n _ x f h _ h1 h2 _ (.inl ⟨rfl,rfl⟩),r18NewKey_ok s hs p n _ x f h h2⟩
  ·exact ⟨_,_,_,_,_,_,_,⟨by omega,by omega,dS_le _⟩,(swNewKey_any s hs p n _ x f h K h1 h2 _ (.inr ⟨h3,h4,rfl⟩)).res zeroK_cvt,(r18NewKey_no s hs p n _ x f h K h3 h2 h4).res zeroK_cvt⟩
theorem law18SameKey_den (g:Int) (L n:Nat) (A B:Nat→Nat→Nat→Nat) (hL:L≤1000) (hn:n≤1000000):Den Tryz.prog 56 [.agg (keyV true g L n A B),.agg (keyV true g L n A B)] (.val (.bool true)):=by
 refine den_intro (fn:=Tryz.f56) rfl rfl rfl rfl rfl ?_
 have s1:=same_lists L L (L+1) n A (by omega) (by omega) hn
 have s2:=same_lists L L (L+1) n B (by omega) (by omega) hn
 refine go ?_
 refine g_callM (hl:=fun hb=>r_call s1 (run_fin rfl)) (h:=?_)
 refine go ?_
 refine g_callM (hl:=fun hb=>r_call s2 (run_fin rfl)) (h:=?_)
 refine go ?_
 refine fin_slot 4 (.val (.bool true)) ?_ ?_
 ·exact .eq (by simp)
 ·refine fin ?_
  exact cv

instance fi10:FI Tryz.prog 10 Tryz.f10:=⟨Tryz.func10,Tryz.call10⟩
theorem swKeys_den (p:PD) (hp:PFit p) (ns:Nat) (hns:ns≤9223372036854775807) (hcl:p.chain.length≤9223372036854775807) (x:Nat→Int) (hx:∀ j, -128≤x j∧x j≤127) (hx0:∀ j,ns≤j→x j=0) (f:Int) (s:ByteArray) (haw:Den Tryz.prog 51 [] (.val (.bool true))) :
  Den Tryz.prog 10 [.agg (ownL true p ns x),.val (.int .i64 f),.val (.string s)] (.val (.bool true)):=by
 refine den_intro (fn:=Tryz.f10) rfl rfl rfl rfl rfl ?_
 refine go ?_
 refine c_ifB (fun q=>?_) (fun q=>?_)
 ·refine go ?_
  refine r_call haw ?_
  refine go ?_
  refine fin ?_
  exact cv
 simp only [Bool.or_eq_false_iff,decide_eq_false_iff_not] at q
 have hs:s.size≤1048576:=by omega
 obtain ⟨g,L,n,A,B,e,c,hb,h1,h2⟩:=alikeK s hs p hp ns x (by omega) hx hx0 f
 simp only [List.cons_append,List.nil_append] at h1 h2
 have h3:=law18SameKey_den g L n A B hb.1 hb.2.1
 have fA:LFit ⟨L,fun i=>⟨L,true,L+1,fun _=>n,A i⟩⟩:=⟨by show L≤_;omega,fun _=>by show L+1≤_;omega,fun _ _=>hb.2.1⟩
 have fB:LFit ⟨L,fun i=>⟨L,true,L+1,fun _=>n,B i⟩⟩:=⟨by show L≤_;omega,fun _=>by show L+1≤_;omega,fun _ _=>hb.2.1⟩
 have h4:Den Tryz.prog 59 [.agg (parL true p),.agg (keyV true g L n A B)] (.val (.int .i64 (errI (keyB p g ⟨L,fun i=>⟨L,true,L+1,fun _=>n,A i⟩⟩ ⟨L,fun i=>⟨L,true,L+1,fun _=>n,B i⟩⟩)))):=swCheckKey_den p hp g _ _ fA fB
 have h5:Den Tryz.prog 60 [.agg (parL true p),.agg (keyV true g L n A B)] (.val (.int .i64 (errI (keyB p g ⟨L,fun i=>⟨L,true,L+1,fun _=>n,A i⟩⟩ ⟨L,fun i=>⟨L,true,L+1,fun _=>n,B i⟩⟩)))):=r18CheckKey_den p hp g _ _ fA fB
 generalize errI (keyB p g ⟨L,fun i=>⟨L,true,L+1,fun _=>n,A i⟩⟩ ⟨L,fun i=>⟨L,true,L+1,fun _=>n,B i⟩⟩)=ck at *
 refine go ?_
 refine r_callL (supNew_den s hs) rfl rfl ?_
 refine go ?_
 refine r_callL (refNew_den s hs) rfl rfl ?_
 refine go ?_
 refine r_callM 1036 h1 ?_
 refine go ?_
 refine r_callM 1038 h2 ?_
 refine go ?_
 refine r_call h3 ?_
 refine go ?_
 refine g_callM (hl:=fun hb=>r_call (supTaken_den s c) (run_fin rfl)) (h:=?_)
 refine go ?_
 refine g_callM (hl:=fun hb=>r_call (refTaken_den s c) (run_fin rfl)) (h:=?_)
 refine go ?_
 refine g_callM (hl:=fun hb=>r_call h4 (run_fin rfl)) (h:=?_)
 refine go ?_
 refine g_callM (hl:=fun hb=>r_call h5 (run_fin rfl)) (h:=?_)
 refine go ?_
 refine g_callM (hl:=fun hb=>r_call haw (run_fin rfl)) (h:=?_)
 refine go ?_
 refine fin_slot 6 (.val (.bool true)) ?_ ?_
 ·exact .eq (by simp)
 ·refine fin ?_
  exact cv
end Go.Proofs.YtdcenblblimkfaaGreat
