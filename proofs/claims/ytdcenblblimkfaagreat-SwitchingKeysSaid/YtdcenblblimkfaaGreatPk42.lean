/- A function over a closure that turns what it captured: keys.each, by data.
Switching keys: how the reference makes them, by data.
What the program draws for a switching key, by data; a list that is the caller's own.
The program's keys.Turned, by data.
The program's keys.Power, by data: its closure, and the function over it.
The program's keys.Power, by data.
The program's switching.source, by data.
What the program makes a switching key of, by data.
What a key makes of digits and of an element: both sides make the same.
Relinearising: both sides make the same; the law's walk, by data.
Automorphisms of ciphertexts: both sides make the same.
The program's switching.NewKey, by data: what it refuses.
Automorphisms of ciphertexts: both sides make the same, of any key and ciphertext.
The law GaloisApplies, where the keys are looked at: by data.
Owners (parameters and a secret), keys of turns, wishes, as the rows lay them, by data. -/
import Derived.Test.YtdcenblblimkfaaGreatPk41
import Derived.Test.YtdcenblblimkfaaGreatPk21
import Derived.Test.YtdcenblblimkfaaGreatPk39
import Derived.Test.YtdcenblblimkfaaGreatPk20
import Derived.Test.YtdcenblblimkfaaGreatPk38
import Derived.Test.YtdcenblblimkfaaGreatPk24
import Derived.Test.YtdcenblblimkfaaGreatPk23
set_option linter.unusedSimpArgs false
set_option linter.unusedVariables false
set_option linter.unnecessarySimpa false
set_option linter.unusedSectionVars false
namespace Go.Proofs.YtdcenblblimkfaaGreat
open Go.RowKit
set_option maxRecDepth 20000
set_option maxHeartbeats 4000000
def evP (n k sh j:Nat):Nat:=if (j*k+sh) % (2*n)<n then (j*k+sh) % (2*n) else (j*k+sh) % (2*n) - n
def evS (n k sh j:Nat):Int:=if (j*k+sh) % (2*n)<n then 1 else -1
theorem kyeach2_den (mv:FuncId) {fnm:Func} [FI Tryz.prog mv fnm] (n k sh:Nat) (h4:1≤n) (h32:n≤32) (hk:k≤64) (hsh:sh≤64) (l:List D) [OldDL l] (t0 t1:TypeId) (len:Nat) (G:Nat→Nat→Int) (kd:IntKind)
  (hmv:∀ j,j<n→DenH Tryz.prog mv [.val (.int .i64 (j:Int)),.val (.int .i64 ((evP n k sh j:Nat):Int)),.val (.int .i64 (evS n k sh j)),.fptr true l,.eptr 0 0 0 0] [(0,.lit t0 [.sl 1 1 len]),(1,rowI t1 kd len (G j))] (.tup []) [(0,.lit t0 [.sl 1 1 len]),(1,rowI t1 kd len (G (j+1)))] []) :
  DenH Tryz.prog 201 [.val (.int .i64 (n:Int)),.val (.int .i64 (k:Int)),.val (.int .i64 (sh:Int)),.clo mv [.fptr true l,.eptr 0 0 0 0]] [(0,.lit t0 [.sl 1 1 len]),(1,rowI t1 kd len (G 0))] (.tup []) [(0,.lit t0 [.sl 1 1 len]),(1,rowI t1 kd len (G n))] []:=by
 refine den_intro (fn:=Tryz.f201) rfl rfl rfl rfl rfl ?_
 refine go ?_
 refine c_up n (fun j=>[(11,.val (.int .i64 (j:Nat)))]) (fun j=>[(1,some (rowI t1 kd len (G j)))]) (fun j hj=>?_)
 have hjk:j*k≤32*64:=Nat.mul_le_mul (by omega) (by omega)
 have hat:(j*k+sh) % (2*n)<2*n:=Nat.mod_lt _ (by omega)
 refine go ?_
 refine c_if (fun h5=>?_) (fun h5=>?_)
 ·have hm:=hmv j h5
  refine go ?_
  refine c_if (fun h6=>?_) (fun h6=>?_)
  ·unfold evP evS at hm
   rw [if_pos h6,if_pos h6] at hm
   refine go ?_
   refine r_callF2 0 1 hm ?_
   refine go ?_
   refine ⟨h5,?_⟩
   exact sub
  ·unfold evP evS at hm
   rw [if_neg h6,if_neg h6] at hm
   refine go ?_
   refine r_callF2 0 1 hm ?_
   refine go ?_
   refine ⟨h5,?_⟩
   exact sub
 ·refine go ?_
  obtain rfl:j=n:=by omega
  refine finHN ?_
  exact cv

abbrev zeroK:List D:=[.val (.int .i64 0),.val (.slice none 0 0),.val (.slice none 0 0)]
theorem nk_guard {c f:Bool} (h:(c && f)=false) (q:(decide (errI c≠0) || !f)=false):False:=by
 cases c<;>cases f<;>simp_all [errI]
theorem r18NewKey_bad (s:ByteArray) (c:Nat) (p:PD) (hp:PFit p) (n:Nat) (x:Nat→Int) (hn:n≤1000000) (hx:∀ j, -128≤x j∧x j≤127) (f:Int) (h:(scB p n x && fromB p f)=false):DenH Tryz.prog 55 [.agg (parL true p),.agg (scL true n x),.val (.int .i64 f),.eptr 0 0 0 0] [(0,.lit 144 (rfD s c))] (.tup [.agg zeroK,.val (.int .i64 2)]) [(0,.lit 144 (rfD s c))] []:=by
 refine den_intro (fn:=Tryz.f55) rfl rfl rfl rfl rfl ?_
 refine go ?_
 refine r_call (r13CheckSecret_den p hp n x hn hx) ?_
 refine go ?_
 refine g_callM (hl:=fun hb=>r_call (r18from_den p f (by
  cases q:scB p n x with
  | false=>rw [q] at hb;simp [errI] at hb
  | true=>exact (sc_all q).1)) (run_fin rfl)) (h:=?_)
 refine go ?_
 refine c_ifB (fun q=>?_) (fun q=>?_)
 ·refine go ?_
  refine finH ?_
  exact cv
 ·exact (nk_guard h q).elim
structure Sv (p:PD) (n L0:Nat) (x:Nat→Int) (f:Int):Prop where
 fit:PFit p
 sc:scB p n x=true
 from_:fromB p f=true
 n:p.n=(n:Int)
 top:L0=p.chain.length
 x:∀ j, -1≤x j∧x j≤1
theorem Sv.good {p:PD} {n L0:Nat} {x:Nat→Int} {f:Int} (h:Sv p n L0 x f):Good p.par:=(sc_all h.sc).1
theorem Sv.lv {p:PD} {n L0:Nat} {x:Nat→Int} {f:Int} (h:Sv p n L0 x f):Lv p n L0:=by
 have hvp:=good_VP h.good
 exact ⟨hvp,good_special h.good,h.n,by have:=hvp.len1;have:=h.top;omega,by have:=h.top;omega⟩
section
variable (s:ByteArray) (hs:s.size≤1048576) (p:PD) (n L0:Nat) (x:Nat→Int) (f:Int) (h:Sv p n L0 x f)
include hs h
theorem nk_row (j:Nat) (hok:∀ i,i<L0+1→dBad s p n L0 (j*(L0+2)+i)=false):DenH Tryz.prog 143 [.agg (parL true p),.val (.int .i64 (L0:Int)),.val (.bool true),.eptr 0 0 0 0] [(0,.lit 144 (rfD s (dS s p n L0 (j*(L0+2)))))] (.tup [.agg (elL false L0 true (L0+1) n (nkA s p n L0 j)),.val (.int .i64 0)]) [(0,.lit 144 (rfD s (dS s p n L0 (j*(L0+2)+(L0+1)))))] []:=
 (r13Uniform_ok s hs p n L0 h.lv h.top (j*(L0+2)) (Nat.mul_mod_left _ _) hok).res (Cvt.tup (.cons (cvt_el (fun r y hr _=>by unfold nkA;rw [if_pos hr])) (.cons (.of_eq rfl) .nil)))
theorem nk_err (j:Nat) (hok:dBad s p n L0 (j*(L0+2)+(L0+1))=false):DenH Tryz.prog 144 [.eptr 0 0 0 0,.val (.int .i64 p.n),.val (.int .u32 (p.err:Int))] [(0,.lit 144 (rfD s (dS s p n L0 (j*(L0+2)+(L0+1)))))] (.tup [intsD false n (nkE s p n L0 j),.val (.int .i64 0)]) [(0,.lit 144 (rfD s (dS s p n L0 ((j+1)*(L0+2)))))] []:=by
 obtain ⟨l,h1,h2,h3⟩:=d_ok hok
 rw [dw_err p L0 (j*(L0+2)) (Nat.mul_mod_left _ _)] at h1
 have e:=h.good.2.2.2.2.2.1
 have h32:=h.lv.n32
 rw [h.n,show (j+1)*(L0+2)=j*(L0+2)+(L0+1)+1 by rw [Nat.add_mul];omega]
 exact refBounded_ok s _ _ p.err n l hs (dS_le _) (by have:p.err≤64:=e;omega) (by omega) h1 _ h3 h2
theorem nk_errno (j:Nat) (hok:dBad s p n L0 (j*(L0+2)+(L0+1))=true):DenH Tryz.prog 144 [.eptr 0 0 0 0,.val (.int .i64 p.n),.val (.int .u32 (p.err:Int))] [(0,.lit 144 (rfD s (dS s p n L0 (j*(L0+2)+(L0+1)))))] (.tup [listD .i64 false [],.val (.int .i64 4)]) [(0,.lit 144 (rfD s (dS s p n L0 (j*(L0+2)+(L0+1)))))] []:=by
 have h1:=d_no hok
 rw [dw_err p L0 (j*(L0+2)) (Nat.mul_mod_left _ _)] at h1
 have e:=h.good.2.2.2.2.2.1
 have h32:=h.lv.n32
 rw [h.n]
 exact refBounded_no s _ p.err n hs (dS_le _) (by have:p.err≤64:=e;omega) (by omega) h1
theorem r18NewKey_any (j0:Nat) (hj0:j0≤L0) (hok:∀ k,k<j0*(L0+2)→dBad s p n L0 k=false) (r:D) (c':Nat)
  (hE:(j0=L0∧r = .tup [.agg (keyV false f L0 n (nkB s p n L0 (p.prime ^ p.power.toNat) x f) (nkA s p n L0)),.val (.int .i64 0)]∧c'=dS s p n L0 (L0*(L0+2))) ∨
   (j0<L0∧r = .tup [.agg zeroK,.val (.int .i64 4)]∧DenH Tryz.prog 143 [.agg (parL true p),.val (.int .i64 (L0:Int)),.val (.bool true),.eptr 0 0 0 0] [(0,.lit 144 (rfD s (dS s p n L0 (j0*(L0+2)))))] (.tup [.agg zeroEl,.val (.int .i64 4)]) [(0,.lit 144 (rfD s c'))] []) ∨
   (j0<L0∧r = .tup [.agg zeroK,.val (.int .i64 4)]∧DenH Tryz.prog 143 [.agg (parL true p),.val (.int .i64 (L0:Int)),.val (.bool true),.eptr 0 0 0 0] [(0,.lit 144 (rfD s (dS s p n L0 (j0*(L0+2)))))] (.tup [.agg (elL false L0 true (L0+1) n (nkA s p n L0 j0)),.val (.int .i64 0)]) [(0,.lit 144 (rfD s (dS s p n L0 (j0*(L0+2)+(L0+1)))))] [] ∧
    DenH Tryz.prog 144 [.eptr 0 0 0 0,.val (.int .i64 p.n),.val (.int .u32 (p.err:Int))] [(0,.lit 144 (rfD s (dS s p n L0 (j0*(L0+2)+(L0+1)))))] (.tup [listD .i64 false [],.val (.int .i64 4)]) [(0,.lit 144 (rfD s c'))] [])) :
  DenH Tryz.prog 55 [.agg (parL true p),.agg (scL true n x),.val (.int .i64 f),.eptr 0 0 0 0] [(0,.lit 144 (rfD s 0))] r [(0,.lit 144 (rfD s c'))] []:=by
 refine den_intro (fn:=Tryz.f55) rfl rfl rfl rfl rfl ?_
 have hL:=h.lv
 have hg:=h.good
 have hN:NatIs p.n n:=h.n
 have h32:=hL.n32
 have l1:=hL.l1
 have l24:=hL.vp.len2
 have ht:=h.top
 have herr:p.err≤64:=hg.2.2.2.2.2.1
 have hx:=h.x
 have hx8:∀ j, -128≤x j∧x j≤127:=fun j=>by have:=hx j;omega
 obtain ⟨ex,hex⟩:=Int.eq_ofNat_of_zero_le (show 0≤p.power by have:=hg.2.2.2.2.2.2.1.2.2.2.2.1;simp only [PD.par] at this;omega)
 obtain ⟨b1,b2,b3⟩:=good_pow hg (ex:=ex) (by omega)
 have hT:=b1 ex (Nat.le_refl _)
 rw [show p.power.toNat=ex by omega] at hE
 have hck:=r13CheckSecret_den p h.fit n x (by omega) hx8
 rw [h.sc] at hck
 have hfr:=r18from_den p f hg
 rw [h.from_] at hfr
 have hsrc:=r18source_den p h.fit n x h.n h.sc hx f h.from_
 have hsi:=srcV_in (f:=f) h32 hx
 have hwA:=vg_nkA (s:=s) hL
 have hEi:=nkE_in (s:=s) (p:=p) (n:=n) (L0:=L0) herr
 have d1:∀ j,j<j0→_:=fun j hj=>nk_row s hs p n L0 x f h j (fun i hi=>hok _ (by
  have:(j+1)*(L0+2)≤j0*(L0+2):=Nat.mul_le_mul_right _ hj
  rw [Nat.add_mul] at this;omega))
 have d2:∀ j,j<j0→_:=fun j hj=>nk_err s hs p n L0 x f h j (hok _ (by
  have:(j+1)*(L0+2)≤j0*(L0+2):=Nat.mul_le_mul_right _ hj
  rw [Nat.add_mul] at this;omega))
 have d3:∀ j,Den Tryz.prog 146 [.agg (parL true p),.agg (elL true L0 true (L0+1) n (nkA s p n L0 j)),intsD true n (srcV n x f)] (.agg (elL false L0 true (L0+1) n (intV p L0 (srcV n x f)))):=fun j=>r13Of_den p n L0 true hL _ rfl (srcV n x f) (fun i=>by have:=hsi i;omega)
 have hsp:p.special≤2147483647:=by have:=modQ_in hL.vp hL.sp hL.l2 L0;unfold modQ at this;rw [if_neg (by omega)] at this;omega
 have d4:DenH Tryz.prog 145 [.agg (parL true p),.agg (elL true L0 true (L0+1) n (intV p L0 (srcV n x f))),.val (.int .i64 (p.special:Int))] [] (.agg (elA L0 true 1013 (L0+1))) [] [(1013,.arr 23 (L0+1) 1 (fun k=>[u32sF false n (mulIntV p L0 (p.special:Int) (intV p L0 (srcV n x f)) k)]))]:=r13Scale_rows p n L0 true hL (intV p L0 (srcV n x f)) (p.special:Int) (by omega) (vg_int hL _)
 have d5:∀ j,Den Tryz.prog 146 [.agg (parL true p),.agg (elL true L0 true (L0+1) n (nkA s p n L0 j)),intsD true n (nkE s p n L0 j)] (.agg (elL false L0 true (L0+1) n (intV p L0 (nkE s p n L0 j)))):=fun j=>r13Of_den p n L0 true hL _ rfl (nkE s p n L0 j) (fun i=>by have:=hEi j i;omega)
 have d6:Den Tryz.prog 34 [.agg (parL true p),.val (.int .i64 p.power)] (.val (.int .i64 ((p.prime ^ ex:Nat):Int))):=by
  rw [hex]
  exact r13Plain_den p ex b1 (good_ex b1 b2)
 have d7:∀ j,Den Tryz.prog 145 [.agg (parL true p),.agg (elL true L0 true (L0+1) n (intV p L0 (nkE s p n L0 j))),.val (.int .i64 ((p.prime ^ ex:Nat):Int))] (.agg (elL false L0 true (L0+1) n (mulIntV p L0 ((p.prime ^ ex:Nat):Int) (intV p L0 (nkE s p n L0 j))))):=fun j=>r13Scale_den p n L0 true hL _ _ (by omega) (vg_int hL _)
 have d8:∀ j,Den Tryz.prog 147 [.agg (parL true p),.agg (elL true L0 true (L0+1) n (mulIntV p L0 ((p.prime ^ ex:Nat):Int) (intV p L0 (nkE s p n L0 j)))),.agg (elL true L0 true (L0+1) n (nkP p n L0 x f j))] (.agg (elL false L0 true (L0+1) n (addV p L0 (mulIntV p L0 ((p.prime ^ ex:Nat):Int) (intV p L0 (nkE s p n L0 j))) (nkP p n L0 x f j)))):=fun j=>by
  have:=r13Add_den p n L0 true hL _ _ (vg_mulInt hL ((p.prime ^ ex:Nat):Int) (intV p L0 (nkE s p n L0 j))) (vg_nkP hL x f j)
  rw [sumV_1 hL] at this
  exact this
 have d9:=r13Ints_den n x (by omega) hx8
 have d10:∀ j,Den Tryz.prog 146 [.agg (parL true p),.agg (elL true L0 true (L0+1) n (nkA s p n L0 j)),intsD true n x] (.agg (elL false L0 true (L0+1) n (intV p L0 x))):=fun j=>r13Of_den p n L0 true hL _ rfl x (fun i=>by have:=hx i;omega)
 have d11:∀ j,Den Tryz.prog 149 [.agg (parL true p),.agg (elL true L0 true (L0+1) n (nkA s p n L0 j)),.agg (elL true L0 true (L0+1) n (intV p L0 x))] (.agg (elL false L0 true (L0+1) n (prdV p L0 n (nkA s p n L0 j) (intV p L0 x)))):=fun j=>r13Mul_den p n L0 true hL _ _ (hwA j) (vg_int hL _)
 have d12:∀ j,Den Tryz.prog 148 [.agg (parL true p),.agg (elL true L0 true (L0+1) n (addV p L0 (mulIntV p L0 ((p.prime ^ ex:Nat):Int) (intV p L0 (nkE s p n L0 j))) (nkP p n L0 x f j))),.agg (elL true L0 true (L0+1) n (prdV p L0 n (nkA s p n L0 j) (intV p L0 x)))] (.agg (elL false L0 true (L0+1) n (nkB s p n L0 (p.prime ^ ex) x f j))):=fun j=>by
  have:=(r13Sub_own p n L0 true hL _ _ (vg_add hL (mulIntV p L0 ((p.prime ^ ex:Nat):Int) (intV p L0 (nkE s p n L0 j))) (nkP p n L0 x f j)) (vg_prd hL (nkA s p n L0 j) (intV p L0 x))).frozen (by have:=hL.l1;unfold modN;rw [if_pos rfl];omega) (FrD.el L0 true)
  exact this
 have hst:∀ j e,e<L0+1→strD n j (mulIntV p L0 (p.special:Int) (intV p L0 (srcV n x f))) (L0+1) e=[u32sF false n (nkP p n L0 x f j e)]:=fun j e he=>strD_all he
 have hS0:dS s p n L0 0=0:=rfl
 generalize hPP:nkP p n L0 x f=PP at *
 generalize mulIntV p L0 (p.special:Int) (intV p L0 (srcV n x f))=MS at *
 generalize intV p L0 (srcV n x f)=IS at *
 generalize srcV n x f=SV at *
 generalize nkB s p n L0 (p.prime ^ ex) x f=BB at *
 generalize intV p L0 x=IX at *
 generalize hAA:nkA s p n L0=AA at *
 generalize hEE:nkE s p n L0=EE at *
 generalize dS s p n L0=S at *
 generalize p.prime ^ ex=T at *
 clear hPP hAA hEE hok
 refine go ?_
 refine r_call hck ?_
 refine go ?_
 refine g_callM (hl:=fun hb=>r_call hfr (run_fin rfl)) (h:=?_)
 refine go ?_
 refine c_ifB (fun q=>?_) (fun q=>?_)
 ·exfalso
  simp [errI] at q
 clear q
 refine go ?_
 refine r_call hsrc ?_
 refine go ?_
 refine c_nilcell 1010 1 1900 93 3 (fun j=>elL false L0 true (L0+1) n (BB j)) ?_
 refine c_nilcell 1010 2 1901 93 3 (fun j=>elL false L0 true (L0+1) n (AA j)) ?_
 refine c_lit 0 (rfD s (S (0*(L0+2)))) (.cons (.refl _) (.cons (.eq (by rw [Nat.zero_mul,hS0])) .nil)) ?_
 refine c_down (fun j=>L0 - j) (fun j=>j≤j0) (fun j:Nat=>[(12,.val (.int .i64 (j:Int)))]) (fun j=>[(0,some (.lit 144 (rfD s (S (j*(L0+2)))))),(1010,some (.lit 82 [.val (.int .i64 f),.sl 1900 3 j,.sl 1901 3 j])),(1900,some (.arr 93 j 3 (fun j=>elL false L0 true (L0+1) n (BB j)))),(1901,some (.arr 93 j 3 (fun j=>elL false L0 true (L0+1) n (AA j))))]) 0 (fun j hj=>?_) (by omega)
 refine go ?_
 refine c_if (fun h3=>?_) (fun h3=>?_)
 ·by_cases h3':j<j0
  case neg=>
   obtain rfl:j=j0:=by omega
   rcases hE with ⟨q,_⟩ | ⟨_,rfl,hU⟩ | ⟨_,rfl,hU,hB⟩
   ·omega
   ·refine go ?_
    refine r_eqS 47 (.val (.int .i64 (L0:Int))) (d:=.val (.int .i64 (p.chain.length:Int))) (by rw [ht]) ?_
    refine r_callM 0 hU ?_
    refine go ?_
    refine finH ?_
    exact cv
   ·refine go ?_
    refine r_eqS 47 (.val (.int .i64 (L0:Int))) (d:=.val (.int .i64 (p.chain.length:Int))) (by rw [ht]) ?_
    refine r_callM 0 hU ?_
    refine go ?_
    refine r_callM 0 hB ?_
    refine go ?_
    refine finH ?_
    exact cv
  refine go ?_
  refine r_eqS 47 (.val (.int .i64 (L0:Int))) (d:=.val (.int .i64 (p.chain.length:Int))) (by rw [ht]) ?_
  refine r_callM 0 (d1 j h3') ?_
  refine go ?_
  refine r_callM 0 (d2 j h3') ?_
  refine go ?_
  refine r_call (d3 j) ?_
  refine go ?_
  refine r_callA d4 (r':=.agg (elA L0 true 1077 (L0+1))) rfl ?_
  refine go ?_
  refine c_arr 1077 (strD n j MS 0) (fun e he=>by rw [strD_0]) (fun e=>strD_len e) ?_
  refine c_up (L0+1) (fun i=>[(17,.val (.int .i64 (i:Nat)))]) (fun i=>[(1077,some (.arr 23 (L0+1) 1 (strD n j MS i)))]) (fun i hi=>?_)
  refine go ?_
  refine c_if (fun h4=>?_) (fun h4=>?_)
  ·refine go ?_
   refine c_if (fun h5=>?_) (fun h5=>?_)
   ·refine c_reg ?_
    refine go1 ?_
    refine go1 ?_
    refine go1 ?_
    refine go1 ?_
    refine go1 ?_
    refine r_mkf n hN hN (by omega) ?_
    refine go1 ?_
    refine go1 ?_
    refine c_end (by kernel_rfl) ?_
    refine go ?_
    refine ⟨h4,?_⟩
    refine sub_arr 1077 (n:=L0+1) (f:=setE (strD n j MS i) i 0 [zrow n]) (strD n j MS (i+1)) (fun e _=>strD_set (by omega) e) (fun e=>strD_len e) ?_
    exact sub
   ·obtain rfl:i=j:=by omega
    refine go ?_
    refine ⟨h4,?_⟩
    refine sub_arr 1077 (n:=L0+1) (f:=strD n i MS i) (strD n i MS (i+1)) (fun e _=>strD_skip e) (fun e=>strD_len e) ?_
    exact sub
  obtain rfl:i=L0+1:=by omega
  refine c_arr 1077 (n:=L0+1) (f:=strD n j MS (L0+1)) (fun e=>[u32sF false n (PP j e)]) (fun e he=>hst j e he) (fun _=>rfl) ?_
  refine go ?_
  refine r_call (d5 j) ?_
  refine go ?_
  refine r_call d6 ?_
  refine go ?_
  refine r_call (d7 j) ?_
  refine go ?_
  refine r_call (d8 j) ?_
  refine go ?_
  refine r_call d9 ?_
  refine go ?_
  refine r_call (d10 j) ?_
  refine go ?_
  refine r_call (d11 j) ?_
  refine go ?_
  refine r_call (d12 j) ?_
  refine go ?_
  refine ⟨j+1,by omega,by omega,?_⟩
  refine sub_arr (1000+122) (fun j=>elL false L0 true (L0+1) n (BB j)) (appF_snoc rfl) (fun _=>rfl) ?_
  refine sub_arr (1000+128) (fun j=>elL false L0 true (L0+1) n (AA j)) (appF_snoc rfl) (fun _=>rfl) ?_
  refine sub_toL [109] (1000+122) 1900 ?_
  refine sub_toL [125] (1000+128) 1901 ?_
  exact sub
 ·obtain rfl:j=L0:=by omega
  rcases hE with ⟨_,rfl,rfl⟩ | ⟨q,_⟩ | ⟨q,_⟩
  case inr.inl=>omega
  case inr.inr=>omega
  refine go ?_
  refine fin_freeze 1900 ?_
  refine fin_freeze 1901 ?_
  refine finH ?_
  exact cv
theorem r18NewKey_ok (hok:∀ k,k<L0*(L0+2)→dBad s p n L0 k=false):DenH Tryz.prog 55 [.agg (parL true p),.agg (scL true n x),.val (.int .i64 f),.eptr 0 0 0 0] [(0,.lit 144 (rfD s 0))] (.tup [.agg (keyV false f L0 n (nkB s p n L0 (p.prime ^ p.power.toNat) x f) (nkA s p n L0)),.val (.int .i64 0)]) [(0,.lit 144 (rfD s (dS s p n L0 (L0*(L0+2)))))] []:=
 r18NewKey_any s hs p n L0 x f h L0 (Nat.le_refl _) hok _ _ (.inl ⟨rfl,rfl,rfl⟩)
theorem r18NewKey_no (k:Nat) (hk:k<L0*(L0+2)) (hok:∀ i,i<k→dBad s p n L0 i=false) (hbad:dBad s p n L0 k=true):DenH Tryz.prog 55 [.agg (parL true p),.agg (scL true n x),.val (.int .i64 f),.eptr 0 0 0 0] [(0,.lit 144 (rfD s 0))] (.tup [.agg zeroK,.val (.int .i64 4)]) [(0,.lit 144 (rfD s (dS s p n L0 k)))] []:=by
 have e:k=k / (L0+2)*(L0+2)+k % (L0+2):=by rw [Nat.mul_comm];exact (Nat.div_add_mod k (L0+2)).symm
 have hj:k / (L0+2)<L0:=Nat.div_lt_of_lt_mul (by rw [Nat.mul_comm];exact hk)
 have hi:k % (L0+2)<L0+2:=Nat.mod_lt _ (by omega)
 generalize k / (L0+2)=j at *
 generalize k % (L0+2)=i at *
 subst e
 refine r18NewKey_any s hs p n L0 x f h j (by omega) (fun k hk=>hok k (by omega)) _ _ ?_
 by_cases q:i<L0+1
 ·exact .inr (.inl ⟨hj,rfl,r13Uniform_no s hs p n L0 h.lv h.top (j*(L0+2)) (Nat.mul_mod_left _ _) i q (fun a ha=>hok _ (by omega)) hbad⟩)
 ·obtain rfl:i=L0+1:=by omega
  exact .inr (.inr ⟨hj,rfl,nk_row s hs p n L0 x f h j (fun a ha=>hok _ (by omega)),nk_errno s hs p n L0 x f h j hbad⟩)
end

theorem den_own {P:Program} {f:FuncId} {t el:TypeId} {kd:IntKind} {us us':List Value} {es:List Value} {l:List Int} {er:Int} (k0:Nat) (hk0:k0≠0) (hl0:0<l.length) (hb0:(us.all fun u=>u.oneCell')=true) (hb1:(us'.all fun u=>u.oneCell')=true)
  (h:∀ b w,Bk w b t us.toArray→Calls P f ((.pointer (some ⟨b,0,none⟩)::es).toArray) w fun e w'=>∃ v,e = .returned (.tuple #[v,.int .i64 er])∧w'.ownsRow 0 el 1 v l.length (l.map (Value.int kd))∧(∀ k,v.ownBlock=some k→w.heap.size≤k)∧Bk w' b t us'.toArray∧STurn w w' [b]) :
  DenH P f (.eptr 0 0 0 0::es.map .val) [(0,.lit t (us.map .val))] (.tup [.sl k0 1 l.length,.val (.int .i64 er)]) [(0,.lit t (us'.map .val))] [(k0,.arr el l.length 1 (fun k=>[.val (.int kd (l.getD k 0))]))]:=fun Zc w i args hZ hi hH ha=>by
 obtain ⟨hl,hr⟩:=ha
 match args,hl with
 | v0::vs,hl=>
  have r0:Rep _ w i v0 (.eptr 0 0 0 0):=hr 0 (by simp)
  obtain ⟨b,cap,h0,rfl⟩:∃ b cap,i 0=some (some (b,cap))∧v0 = .pointer (some ⟨b,0,none⟩):=by
   cases r0 with | @eptr _ b cap _ _ _ _ h=>exact ⟨b,cap,h,rfl⟩
  have hvs:vs=es:=by
   refine List.ext_getElem (by simpa using hl) (fun j h1 h2=>?_)
   have:=hr (j+1) (by simp;omega)
   rw [show dl (D.eptr 0 0 0 0::es.map .val) (j+1) = .val es[j] by rw [dl,dl_eq,List.getD_eq_getElem?_getD,List.getElem?_map,List.getElem?_eq_getElem h2];rfl] at this
   have:=rep_val this
   rw [List.getD_eq_getElem?_getD,List.getElem?_cons_succ,List.getElem?_eq_getElem h1] at this
   exact this
  subst hvs
  have hB:Bk w b t us.toArray∧∀ x,Foot (.lit t (us.map .val)) (i 0) x→¬ Zc x:=by
   obtain ⟨_,h1 | ⟨h1,_⟩⟩:=hH.1 0 _ (List.mem_singleton.2 rfl)
   ·obtain ⟨b',cap',e1,e2,cs,e3,e4,e5⟩:=h1
    rw [h0] at e1;cases e1
    have:cs=us.toArray:=by
     refine Array.ext (by simpa using e4) (fun j h1 h2=>?_)
     have hj:j<us.length:=by simpa using h2
     have:=(e5 j (by simpa using hj)).2
     rw [show dl (us.map D.val) j = .val us[j] by rw [dl_eq,List.getD_eq_getElem?_getD,List.getElem?_map,List.getElem?_eq_getElem hj];rfl] at this
     have:=rep_val this
     rw [Array.getD_eq_getD_getElem?,Array.getElem?_eq_getElem h1] at this
     simpa using this
    subst this
    exact ⟨e3,fun x hx hz=>e2 x hx ⟨rfl,hz⟩⟩
   ·rw [h0] at h1;cases h1
  have hbl:=hB.1.lt
  refine (h b w hB.1).mono fun e w' ⟨v,he,hown,hnew,hB',ht⟩=>?_
  rcases hown.2 with ⟨_,q⟩ | ⟨g,cp,cur,rfl,_,hG,hn,hm,hs,htk⟩
  ·omega
  have hgn:w.heap.size≤g:=hnew g rfl
  have hGk:Bk w' g el cur:=hG
  have hgb:g≠b:=by omega
  have hc:∀ k,k<l.length→cur.getD k undef = .int kd (l.getD k 0):=fun k hk=>by
   have h1:(cur.toList.take (l.length*1))[k]? = cur.toList[k]?:=by rw [List.getElem?_take,if_pos (by omega)]
   rw [htk,List.getElem?_map,List.getElem?_eq_getElem hk,Array.getElem?_toList] at h1
   rw [Array.getD_eq_getD_getElem?,← h1,List.getD_eq_getElem?_getD,List.getElem?_eq_getElem hk];rfl
  have i0:(fun k=>if k=k0 then some (some (g,(⟨cp,noR⟩:Cp))) else i k) 0=i 0:=if_neg (fun e=>hk0 e.symm)
  have ik:(fun k=>if k=k0 then some (some (g,(⟨cp,noR⟩:Cp))) else i k) k0=some (some (g,⟨cp,noR⟩)):=if_pos rfl
  refine ⟨_,fun k=>if k=k0 then some (some (g,⟨cp,noR⟩)) else i k,fun _=>False,he,⟨ht.os,ht.tape,ht.output,ht.size,fun x hx hM=>ht.block x hx (fun hm=>hM ?_)⟩,fun _ h=>h.elim,fun k hk=>?_,fun k hk hk'=>?_,fun k B x hm hf=>?_,fun k B hm=>?_,⟨fun k B hm=>?_,fun k k' B B' x h1 h2 f1 f2=>?_⟩,?_⟩
  ·obtain rfl:=List.mem_singleton.1 hm
   exact ⟨0,cap,by simp [Hs.keys],h0⟩
  ·obtain rfl:k=0:=by simpa [Hs.keys] using hk
   exact i0
  ·have:k≠k0:=by simpa [Hs.keys] using hk'
   show (if k=k0 then _ else i k)=none
   rw [if_neg this]
   exact hi k hk
  ·obtain ⟨rfl,rfl⟩:=Prod.mk.inj (List.mem_singleton.1 hm)
   obtain ⟨c,e⟩:=hf.flat rfl
   rw [ik] at e;cases e
   exact hgn
  ·obtain ⟨rfl,rfl⟩:=Prod.mk.inj (List.mem_singleton.1 hm);rfl
  ·rcases List.mem_append.1 hm with hm | hm
   ·obtain ⟨rfl,rfl⟩:=Prod.mk.inj (List.mem_singleton.1 hm)
    refine ⟨rfl,.inl ⟨b,cap,i0.trans h0,fun x hx hz=>?_,us'.toArray,hB',by simp,fun j hj=>?_⟩⟩
    ·obtain ⟨c,e⟩:=hx.flat rfl
     rw [i0,h0] at e;cases e
     rcases hz with hz | hz
     ·exact hB.2 b (.root h0) hz
     ·exact hz.elim
    ·have hj:j<us'.length:=by simpa using hj
     have e:us'.toArray.getD j undef=us'[j]:=by rw [Array.getD_eq_getD_getElem?];simp [hj]
     rw [e]
     refine ⟨List.all_eq_true.1 hb1 _ (List.getElem_mem hj),?_⟩
     rw [show dl (us'.map D.val) j = .val us'[j] by rw [dl_eq,List.getD_eq_getElem?_getD,List.getElem?_map,List.getElem?_eq_getElem hj];rfl]
     exact .val _ _
   ·obtain ⟨rfl,rfl⟩:=Prod.mk.inj (List.mem_singleton.1 hm)
    refine ⟨rfl,.inl ⟨g,⟨cp,noR⟩,ik,fun x hx hz=>?_,cur,hGk,hs,hn,fun _ _=>rfl,fun e c he hc'=>?_⟩⟩
    ·obtain ⟨c,e⟩:=hx.flat rfl
     rw [ik] at e;cases e
     rcases hz with hz | hz
     ·have:=hZ _ hz;omega
     ·exact hz.elim
    ·obtain rfl:c=0:=by omega
     rw [show e*1+0=e by omega,hc e he]
     exact ⟨rfl,.val _ _⟩
  ·have key:∀ {k:Nat} {B:Box} {x:Nat},(k,B)∈[((0:Nat),Box.lit t (us'.map .val))]++[(k0,Box.arr el l.length 1 (fun k=>[.val (.int kd (l.getD k 0))]))]→Foot B ((fun k=>if k=k0 then some (some (g,(⟨cp,noR⟩:Cp))) else i k) k) x→(k=0∧x=b)∨(k=k0∧x=g):=fun {k B x} hm hf=>by
    rcases List.mem_append.1 hm with hm | hm
    ·obtain ⟨rfl,rfl⟩:=Prod.mk.inj (List.mem_singleton.1 hm)
     obtain ⟨c,e⟩:=hf.flat rfl
     rw [i0,h0] at e;cases e
     exact .inl ⟨rfl,rfl⟩
    ·obtain ⟨rfl,rfl⟩:=Prod.mk.inj (List.mem_singleton.1 hm)
     obtain ⟨c,e⟩:=hf.flat rfl
     rw [ik] at e;cases e
     exact .inr ⟨rfl,rfl⟩
   rcases key h1 f1 with ⟨rfl,rfl⟩ | ⟨rfl,rfl⟩<;>rcases key h2 f2 with ⟨rfl,q⟩ | ⟨rfl,q⟩
   ·rfl
   ·exact (hgb q.symm).elim
   ·exact (hgb q).elim
   ·rfl
  ·exact rep_tup2 (.sl _ _ _ _ ⟨cp,noR⟩ ik hn (by show cp≤_;unfold maxLen at hm;omega)) (.val _ _)
theorem supUniform_ok (s:ByteArray) (c d q n:Nat) (l:List Nat) (hs:s.size≤1048576) (hc:c≤8*s.size) (hq0:1≤q) (hq:q≤4294967295) (hn:n≤4096) (hk:tkL s q n c=some (l,d)) (V:Nat→Nat) (hV:∀ j,V j=l.getD j 0) (hl:l.length=n):DenH Tryz.prog 135 [.eptr 0 0 0 0,.val (.int .i64 (n:Int)),.val (.int .u32 (q:Int))] [(0,.lit 142 (suD s c))] (.tup [u32sF false n V,.val (.int .i64 0)]) [(0,.lit 142 (suD s d))] []:=by
 have h:=supUniform_den s c q (n:Int) hs hc hq
 have e:uniformR s c (n:Int) q=(l.map (fun v:Nat=>(v:Int)),0,d):=by
  unfold uniformR
  rw [if_neg (by omega),Int.toNat_natCast,hk]
 rw [e] at h
 rw [show V=fun j=>l.getD j 0 from funext hV]
 exact h.res (Cvt.tup (.cons (list_row hl) (.cons (.of_eq rfl) .nil)))
theorem supUniform_no (s:ByteArray) (c q n:Nat) (hs:s.size≤1048576) (hc:c≤8*s.size) (hq0:1≤q) (hq:q≤4294967295) (hn:n≤4096) (hk:tkL s q n c=none):DenH Tryz.prog 135 [.eptr 0 0 0 0,.val (.int .i64 (n:Int)),.val (.int .u32 (q:Int))] [(0,.lit 142 (suD s c))] (.tup [listD .u32 false [],.val (.int .i64 4)]) [(0,.lit 142 (suD s c))] []:=by
 have h:=supUniform_den s c q (n:Int) hs hc hq
 have e:uniformR s c (n:Int) q=([],4,c):=by
  unfold uniformR
  rw [if_neg (by omega),Int.toNat_natCast,hk]
 rw [e] at h
 exact h
theorem supBounded_no (s:ByteArray) (c b n:Nat) (hs:s.size≤1048576) (hc:c≤8*s.size) (hq:b≤2147483647) (hn:n≤4096) (hk:tkL s (2*b+1) n c=none):DenH Tryz.prog 136 [.eptr 0 0 0 0,.val (.int .i64 (n:Int)),.val (.int .u32 (b:Int))] [(0,.lit 142 (suD s c))] (.tup [listD .i64 false [],.val (.int .i64 4)]) [(0,.lit 142 (suD s c))] []:=by
 have h:=supBounded_den s c b (n:Int) hs hc (by omega)
 have e:boundedR s c (n:Int) b=([],4,c):=by
  unfold boundedR
  rw [if_neg (by omega),Int.toNat_natCast,hk]
 rw [e] at h
 exact h
theorem supBounded_own (s:ByteArray) (c d b n:Nat) (l:List Nat) (hs:s.size≤1048576) (hc:c≤8*s.size) (hq:b≤2147483647) (hn0:0<n) (hn:n≤4096) (hk:tkL s (2*b+1) n c=some (l,d)) (hl:l.length=n) (E:Nat→Int) (hE:∀ j,j<n→E j=(l.getD j 0:Nat) - (b:Int)):DenH Tryz.prog 136 [.eptr 0 0 0 0,.val (.int .i64 (n:Int)),.val (.int .u32 (b:Int))] [(0,.lit 142 (suD s c))] (.tup [.sl 1025 1 n,.val (.int .i64 0)]) [(0,.lit 142 (suD s d))] [(1025,.arr 2 n 1 (fun k=>[.val (.int .i64 ((l.map (fun v:Nat=>(v:Int) - (b:Int))).getD k 0))]))]:=by
 have e:boundedR s c (n:Int) b=(l.map (fun v:Nat=>(v:Int) - (b:Int)),0,d):=by
  unfold boundedR
  rw [if_neg (by omega),Int.toNat_natCast,hk]
 have:=den_own (P:=Tryz.prog) (f:=136) (t:=142) (el:=2) (kd:=.i64) (us:=[.string s,.int .i64 c,.bool true]) (us':=[.string s,.int .i64 (d:Nat),.bool true]) (es:=[.int .i64 n,.int .u32 b]) (l:=l.map (fun v:Nat=>(v:Int) - (b:Int))) (er:=0) 1025 (by omega) (by simp;omega) rfl rfl (fun bb w hb=>(bounded_sup bb s c b n w hs hc (by omega) hb).mono fun en w' ⟨v,h1,h2,h3,h4,h5⟩=>by
  rw [e] at h1 h2 h4
  exact ⟨v,h1,h2,h3,h4,h5⟩)
 rw [List.length_map,hl] at this
 exact this

theorem kyTurned1_den (n j t:Nat) (sg:Int) (x h h':Nat→Int) (hj:j<n) (ht:t<n) (h32:n≤32) (hx:∀ j, -1≤x j∧x j≤1) (hs:sg=1∨sg = -1) (h1:h' t=x j*sg) (h2:∀ e,e<n→e≠t→h' e=h e) :
  DenH Tryz.prog 264 [.val (.int .i64 (j:Int)),.val (.int .i64 (t:Int)),.val (.int .i64 sg),.fptr true (scL true n x),.eptr 0 0 0 0] [(0,.lit 72 [.sl 1 1 n]),(1,rowI 214 .i8 n h)] (.tup []) [(0,.lit 72 [.sl 1 1 n]),(1,rowI 214 .i8 n h')] []:=by
 refine den_intro (fn:=Tryz.f264) rfl rfl rfl rfl rfl ?_
 have hxj:=hx j
 rcases hs with rfl | rfl
 ·refine go ?_
  refine fin_arr 1 (fun e=>[.val (.int .i8 (h' e))]) (fun e he=>setE_putI (h:=h) (by rw [h1]) h2 e he) (fun _=>rfl) ?_
  refine finHN ?_
  exact cv
 ·refine go ?_
  refine fin_arr 1 (fun e=>[.val (.int .i8 (h' e))]) (fun e he=>setE_putI (h:=h) (by rw [h1]) h2 e he) (fun _=>rfl) ?_
  refine finHN ?_
  exact cv
theorem kyTurned_den (p:PD) (hp:PFit p) (n:Nat) (x:Nat→Int) (hg:Good p.par) (hN:p.n=(n:Int)) (h:scB p n x=true) (hx:∀ j, -1≤x j∧x j≤1) (k:Nat) (hk1:1≤k) (hk2:k<2*n) (hk3:k % 2=1) :
  Den Tryz.prog 200 [.agg (parL true p),.agg (scL true n x),.val (.int .i64 (k:Int))] (.tup [.agg (scL false n (tR n k x n)),.val (.int .i64 0)]):=by
 refine den_intro (fn:=Tryz.f200) rfl rfl rfl rfl rfl ?_
 obtain ⟨n',e1,h4,h32⟩:=good_n hg
 obtain rfl:n=n':=by omega
 have hNI:NatIs p.n n:=hN
 have hck:=kyCheckSecret_den p hp n x (by omega) (fun j=>by have:=hx j;omega)
 rw [h] at hck
 have hmv:∀ j,j<n→DenH Tryz.prog 264 [.val (.int .i64 (j:Int)),.val (.int .i64 ((evP n k 0 j:Nat):Int)),.val (.int .i64 (evS n k 0 j)),.fptr true (scL true n x),.eptr 0 0 0 0] [(0,.lit 72 [.sl 1 1 n]),(1,rowI 214 .i8 n (tR n k x j))] (.tup []) [(0,.lit 72 [.sl 1 1 n]),(1,rowI 214 .i8 n (tR n k x (j+1)))] []:=fun j hj=>by
  have hat:j*k % (2*n)<2*n:=Nat.mod_lt _ (by omega)
  refine kyTurned1_den n j _ _ x _ _ hj ?_ h32 hx ?_ ?_ ?_
  ·unfold evP;simp only [Nat.add_zero];split<;>omega
  ·unfold evS;split<;>simp
  ·unfold evP evS;simp only [Nat.add_zero]
   split
   ·rename_i q;rw [← tR_lo q rfl];omega
   ·rename_i q;rw [← tR_hi q rfl];omega
  ·intro e _ he
   refine tR_other ?_
   unfold evP at he;simp only [Nat.add_zero] at he
   split at he
   ·rename_i q;rw [auP_lo q];exact he
   ·rename_i q;rw [auP_hi q];exact he
 have hev:=kyeach2_den 264 n k 0 (by omega) h32 (by omega) (by omega) (scL true n x) 72 214 n (tR n k x) .i8 hmv
 clear hmv
 refine go ?_
 refine r_call hck ?_
 refine go ?_
 refine c_ifB (fun q=>?_) (fun q=>?_)
 ·exfalso
  simp at q
  omega
 clear q
 refine go ?_
 refine r_eqS 34 (.val (.int .i64 (n:Int))) (d:=.val (.int .i64 p.n)) (by rw [hN]) ?_
 refine r_callF2 1008 1032 hev ?_
 refine go ?_
 refine fin_freeze 1032 ?_
 refine fin ?_
 exact cv

instance ti212:TI Tryz.prog 212 Tryz.t212 (.array 32 2):=⟨by kernel_rfl,by kernel_rfl⟩
instance ar212:AR Tryz.prog 212 32 1:=AR.of ti212 ti2 rfl
theorem kyPower1_den (n j t i:Nat) (sg:Int) (x a h h':Nat→Int) (hj:j<n) (hi:i<n) (ht:t<n) (h32:n≤32) (hx:∀ j, -1≤x j∧x j≤1) (ha:∀ j, -1024≤a j∧a j≤1024) (hh:∀ e, -4000000≤h e∧h e≤4000000) (hs:sg=1∨sg = -1) (h1:h' t=h t+sg*a i*x j) (h2:∀ e,e<32→e≠t→h' e=h e) :
  DenH Tryz.prog 202 [.val (.int .i64 (j:Int)),.val (.int .i64 (t:Int)),.val (.int .i64 sg),.eptr 0 1 0 0,.eptr 1 1 0 0,.fptr true [.val (.int .i64 (i:Int))],.fptr true (scL true n x)] [(0,rowI 212 .i64 32 h),(1,rowI 212 .i64 32 a)] (.tup []) [(0,rowI 212 .i64 32 h'),(1,rowI 212 .i64 32 a)] []:=by
 refine den_intro (fn:=Tryz.f202) rfl rfl rfl rfl rfl ?_
 have hxj:=hx j
 have hai:=ha i
 have hht:=hh t
 have b1 : -1024≤1*a i*x j∧1*a i*x j≤1024:=by
  have:=mul_tri (M:=1024) (a:=a i) (b:=x j) (by omega) hxj
  rw [Int.one_mul];omega
 have b2 : -1024 ≤ -1*a i*x j ∧ -1*a i*x j≤1024:=by
  have:=mul_tri (M:=1024) (a:= -1*a i) (b:=x j) (by omega) hxj
  omega
 rcases hs with rfl | rfl
 ·refine go ?_
  refine fin_arr 0 (fun e=>[.val (.int .i64 (h' e))]) (fun e he=>setE_putI (h:=h) (by rw [h1]) h2 e he) (fun _=>rfl) ?_
  refine finHN ?_
  exact cv
 ·refine go ?_
  refine fin_arr 0 (fun e=>[.val (.int .i64 (h' e))]) (fun e he=>setE_putI (h:=h) (by rw [h1]) h2 e he) (fun _=>rfl) ?_
  refine finHN ?_
  exact cv
theorem kyeachP_den (mv:FuncId) {fnm:Func} [FI Tryz.prog mv fnm] (n k sh:Nat) (h4:1≤n) (h32:n≤32) (hk:k≤64) (hsh:sh≤64) (l l2:List D) [OldDL l] [OldDL l2] (t0 t1:TypeId) (len:Nat) (G:Nat→Nat→Int) (a:Nat→Int) (kd:IntKind)
  (hmv:∀ j,j<n→DenH Tryz.prog mv [.val (.int .i64 (j:Int)),.val (.int .i64 ((evP n k sh j:Nat):Int)),.val (.int .i64 (evS n k sh j)),.eptr 0 1 0 0,.eptr 1 1 0 0,.fptr true l2,.fptr true l] [(0,rowI t0 kd len (G j)),(1,rowI t1 kd len a)] (.tup []) [(0,rowI t0 kd len (G (j+1))),(1,rowI t1 kd len a)] []) :
  DenH Tryz.prog 201 [.val (.int .i64 (n:Int)),.val (.int .i64 (k:Int)),.val (.int .i64 (sh:Int)),.clo mv [.eptr 0 1 0 0,.eptr 1 1 0 0,.fptr true l2,.fptr true l]] [(0,rowI t0 kd len (G 0)),(1,rowI t1 kd len a)] (.tup []) [(0,rowI t0 kd len (G n)),(1,rowI t1 kd len a)] []:=by
 refine den_intro (fn:=Tryz.f201) rfl rfl rfl rfl rfl ?_
 refine go ?_
 refine c_up n (fun j=>[(11,.val (.int .i64 (j:Nat)))]) (fun j=>[(0,some (rowI t0 kd len (G j)))]) (fun j hj=>?_)
 have hjk:j*k≤32*64:=Nat.mul_le_mul (by omega) (by omega)
 have hat:(j*k+sh) % (2*n)<2*n:=Nat.mod_lt _ (by omega)
 refine go ?_
 refine c_if (fun h5=>?_) (fun h5=>?_)
 ·have hm:=hmv j h5
  refine go ?_
  refine c_if (fun h6=>?_) (fun h6=>?_)
  ·unfold evP evS at hm
   rw [if_pos h6,if_pos h6] at hm
   refine go ?_
   refine r_callF2 0 1 hm ?_
   refine go ?_
   refine ⟨h5,?_⟩
   exact sub
  ·unfold evP evS at hm
   rw [if_neg h6,if_neg h6] at hm
   refine go ?_
   refine r_callF2 0 1 hm ?_
   refine go ?_
   refine ⟨h5,?_⟩
   exact sub
 ·refine go ?_
  obtain rfl:j=n:=by omega
  refine finHN ?_
  exact cv

def zA (a x:Nat→Int) (n i k e:Nat):Int:=if e<n then zS a x n i k e else 0
theorem zA_in {a x:Nat→Int} {n:Nat} (ha:∀ j, -1024≤a j∧a j≤1024) (hx:∀ j, -1≤x j∧x j≤1) (hn:n≤32) {i k:Nat} (hi:i≤32) (hk:k≤32) (e:Nat) : -4000000≤zA a x n i k e∧zA a x n i k e≤4000000:=by
 unfold zA
 split
 ·exact zS_in (M:=1024) (fun j=>by have:=ha j;omega) hx hn (by omega) hi hk e
 ·omega
theorem zA_next (a x:Nat→Int) (n i:Nat):zA a x n i n=zA a x n (i+1) 0:=by
 funext e
 unfold zA
 rw [zS_next]
theorem zA_pw (x:Nat→Int) (n m:Nat):zA (pw x n m) x n n 0=pw x n (m+1):=by
 funext e
 unfold zA zS
 simp only [pw,zk]
 split
 ·omega
 ·rfl
theorem ev1 {n i j:Nat} (hi:i<n) (hj:j<n):evP n 1 i j=(if i+j<n then i+j else i+j - n)∧evS n 1 i j=(if i+j<n then 1 else -1):=by
 unfold evP evS
 rw [show j*1+i=i+j by omega,Nat.mod_eq_of_lt (by omega)]
 exact ⟨rfl,rfl⟩
theorem kyPow_step (n i j:Nat) (x a:Nat→Int) (hi:i<n) (hj:j<n) (h32:n≤32) (hx:∀ j, -1≤x j∧x j≤1) (ha:∀ j, -1024≤a j∧a j≤1024) :
  DenH Tryz.prog 202 [.val (.int .i64 (j:Int)),.val (.int .i64 ((evP n 1 i j:Nat):Int)),.val (.int .i64 (evS n 1 i j)),.eptr 0 1 0 0,.eptr 1 1 0 0,.fptr true [.val (.int .i64 (i:Int))],.fptr true (scL true n x)] [(0,rowI 212 .i64 32 (zA a x n i j)),(1,rowI 212 .i64 32 a)] (.tup []) [(0,rowI 212 .i64 32 (zA a x n i (j+1))),(1,rowI 212 .i64 32 a)] []:=by
 obtain ⟨e1,e2⟩:=ev1 hi hj
 rw [e1,e2]
 refine kyPower1_den n j _ i _ x a _ _ hj hi ?_ h32 hx ha (zA_in ha hx h32 (by omega) (by omega)) ?_ ?_ ?_
 ·split<;>omega
 ·split
  ·exact .inl rfl
  ·exact .inr rfl
 ·split
  ·rename_i q
   unfold zA
   rw [if_pos (by omega),if_pos (by omega),zS_lo q,Int.one_mul]
  ·rename_i q
   unfold zA
   rw [if_pos (by omega),if_pos (by omega),zS_hi q (by omega),Int.neg_mul,Int.neg_mul,Int.one_mul]
   omega
 ·intro e he hne
  unfold zA
  by_cases q:e<n
  ·rw [if_pos q,if_pos q]
   split at hne
   ·exact zS_other q (by omega) (by omega)
   ·exact zS_other q (by omega) (by omega)
  ·rw [if_neg q,if_neg q]
theorem kyPower_den (p:PD) (hp:PFit p) (n:Nat) (x:Nat→Int) (hg:Good p.par) (hN:p.n=(n:Int)) (h:scB p n x=true) (hx:∀ j, -1≤x j∧x j≤1) (M:Nat) (hM1:1≤M) (hM2:M≤2):Den Tryz.prog 131 [.agg (parL true p),.agg (scL true n x),.val (.int .i64 (M:Int))] (.tup [intsD false n (pw x n M),.val (.int .i64 0)]):=by
 refine den_intro (fn:=Tryz.f131) rfl rfl rfl rfl rfl ?_
 obtain ⟨n',hn',n4,n32⟩:=good_n hg
 obtain rfl:n'=n:=by omega
 have hNN:NatIs p.n n':=hN
 have hck:=kyCheckSecret_den p hp n' x (by omega) (fun j=>by have:=hx j;omega)
 rw [h] at hck
 refine go ?_
 refine r_call hck ?_
 refine go ?_
 refine r_bldA ?_
 refine r_alcA ?_
 refine r_stall (fun e=>[.val (.int .i64 (pw x n' 0 e))]) ?_ (fun e he=>⟨rfl,fun c hc=>?_⟩) rfl
 ·refine c_end (by kernel_rfl) ?_
  refine go ?_
  refine c_up M (fun m=>[(25,.val (.int .i64 (m:Nat)))]) (fun m=>[(1008,some (rowI 212 .i64 32 (pw x n' m)))]) (fun m hm=>?_)
  refine go ?_
  refine c_if (fun h5=>?_) (fun h5=>?_)
  ·have ha:∀ j, -1024≤pw x n' m j∧pw x n' m j≤1024:=fun j=>by
    obtain rfl | rfl:m=0∨m=1:=by omega
    ·have:=pw0_in (x:=x) (n:=n') j;omega
    ·have:=pw1_in (x:=x) n32 hx j;omega
   refine goc ?_
   refine c_reg ?_
   refine r_alcA ?_
   refine c_end (by kernel_rfl) ?_
   refine go ?_
   refine c_arr (1000+9) (fun e=>[.val (.int .i64 (zA (pw x n' m) x n' 0 0 e))]) (fun e he=>by unfold zA;split<;>rfl) (fun _=>rfl) ?_
   refine c_up n' (fun i=>[(29,.val (.int .i64 (i:Nat)))]) (fun i=>[(1009,some (rowI 212 .i64 32 (zA (pw x n' m) x n' i 0)))]) (fun i hi=>?_)
   refine go ?_
   refine c_if (fun h6=>?_) (fun h6=>?_)
   ·have hm:=kyeachP_den 202 n' 1 i (by omega) n32 (by omega) (by omega) (scL true n' x) [.val (.int .i64 (i:Int))] 212 212 32 (fun j=>zA (pw x n' m) x n' i j) (pw x n' m) .i64 (fun j hj=>kyPow_step n' i j x (pw x n' m) h6 hj n32 hx ha)
    rw [← hN] at hm
    refine go ?_
    refine r_callF2 1009 1008 hm ?_
    refine go ?_
    refine ⟨h6,?_⟩
    rw [zA_next]
    exact sub
   ·obtain rfl:i=n':=by omega
    rw [zA_pw]
    refine goc ?_
    refine c_reg ?_
    refine r_ldall ?_
    refine r_stall (fun e=>[.val (.int .i64 (pw x i (m+1) e))]) ?_ (fun e he=>⟨rfl,fun c hc=>?_⟩) ?_
    ·refine c_end (by kernel_rfl) ?_
     refine go ?_
     refine ⟨h5,?_⟩
     exact sub
    ·rw [flatL_at (m:=1) (fun _ _=>rfl) he hc]
    ·rw [flatL_len (m:=1) (fun _ _=>rfl)]
  ·obtain rfl:m=M:=by omega
   refine goc ?_
   refine c_freeze 1008 ?_
   refine c_reg ?_
   refine go1 ?_
   refine go1 ?_
   refine r_eqS 41 (.val (.int .i64 (n':Int))) (d:=.val (.int .i64 p.n)) (by rw [hN]) ?_
   refine r_slpa ?_
   ((with_reducible apply r_app0);(focus (first | exact Op1.const _ | (apply Op1.tmp;(repeat (first | exact Lk.here | apply Lk.there rfl));done)));(focus (first | exact Op1.const _ | (apply Op1.tmp;(repeat (first | exact Lk.here | apply Lk.there rfl));done)));(focus exact SrcB.fz _ _ _ _);(focus rfl);(focus rfl);(focus rfl);(focus rfl);(focus rfl);(focus omega);(focus omega);(focus rfl))
   refine go ?_
   refine fin_freeze 1043 ?_
   refine fin ?_
   exact cv
 ·obtain rfl:c=0:=by have:c<1:=hc;omega
  cases e with
  | zero=>rfl
  | succ e=>
   show D.val (.int .i64 0)=dl (valL (List.replicate 31 (.int .i64 0))) (e*1+0)
   rw [valL_at (by rw [List.length_replicate];omega),List.getD_eq_getElem?_getD,List.getElem?_replicate,if_pos (by omega)]
   rfl

theorem ints_cvt {o:Bool} {n:Nat} {f g:Nat→Int} (h:∀ j,j<n→f j=g j):Cvt (intsD o n f) (intsD o n g):=
 Cvt.fz (.inl rfl) (fun k hk=>⟨rfl,fun c hc=>by
  obtain rfl:c=0:=by have:c<1:=hc;omega
  exact .of_eq (by show D.val (.int .i64 (f k))=D.val (.int .i64 (g k));rw [h k hk])⟩)
theorem kyPowerS_den (p:PD) (hp:PFit p) (n:Nat) (x:Nat→Int) (hg:Good p.par) (hN:p.n=(n:Int)) (h:scB p n x=true) (hx:∀ j, -1≤x j∧x j≤1):Den Tryz.prog 131 [.agg (parL true p),.agg (scL true n x),.val (.int .i64 1)] (.tup [intsD false n x,.val (.int .i64 0)]):=
 (kyPower_den p hp n x hg hN h hx 1 (by omega) (by omega)).res (Cvt.tup (.cons (ints_cvt fun j hj=>pw_one hj) (.cons (.of_eq rfl) .nil)))
theorem swsource_den (p:PD) (hp:PFit p) (n:Nat) (x:Nat→Int) (hN:p.n=(n:Int)) (h:scB p n x=true) (hx:∀ j, -1≤x j∧x j≤1) (f:Int) (hf:fromB p f=true):Den Tryz.prog 130 [.agg (parL true p),.agg (scL true n x),.val (.int .i64 f)] (.tup [intsD false n (srcV n x f),.val (.bool true)]):=by
 have hg:=(sc_all h).1
 obtain ⟨n',hn',n4,n32⟩:=good_n hg
 obtain rfl:n'=n:=by omega
 refine den_intro (fn:=Tryz.f130) rfl rfl rfl rfl rfl ?_
 refine go ?_
 refine c_if (fun h1=>?_) (fun h1=>?_)
 ·have hP:=kyPower_den p hp n' x hg hN h hx 2 (by omega) (by omega)
  refine go ?_
  refine r_call hP ?_
  refine go ?_
  refine fin ?_
  rw [show srcV n' x f=pw x n' 2 from if_pos h1]
  exact cv
 ·have hb:f ≤ -3 ∧ -2*p.n<f∧f % 2=1:=by
   unfold fromB at hf
   rw [decide_eq_false h1] at hf
   simp only [Bool.false_or,Bool.and_eq_true,decide_eq_true_eq] at hf
   exact ⟨hf.1.1,hf.1.2,hf.2⟩
  obtain ⟨k,hk⟩:=Int.eq_ofNat_of_zero_le (show 0 ≤ -f by omega)
  have hs:=swturns_den p f hg
  rw [decide_eq_true hb.1,decide_eq_true hb.2.1,decide_eq_true hb.2.2] at hs
  have ht:=kyTurned_den p hp n' x hg hN h hx k (by omega) (by omega) (by omega)
  have hP:=kyPowerS_den p hp n' (tR n' k x n') hg hN (scB_tR hx h (by omega)) (fun j=>tR_in hx j n')
  rw [show srcV n' x f=tR n' k x n' by unfold srcV;rw [if_neg h1,hk];rfl]
  refine go ?_
  refine r_call hs ?_
  refine go ?_
  refine c_no ?_
  refine go ?_
  refine r_eqS 33 (.val (.int .i64 ((k:Nat):Int))) (d:=.val (.int .i64 (-f))) (by rw [hk]) ?_
  refine go ?_
  refine r_call ht ?_
  refine go ?_
  refine r_call hP ?_
  refine go ?_
  refine fin ?_
  exact cv
theorem swsource_no (p:PD) (n:Nat) (x:Nat→Int) (hg:Good p.par) (f:Int) (hf:fromB p f=false):Den Tryz.prog 130 [.agg (parL true p),.agg (scL true n x),.val (.int .i64 f)] (.tup [.val (.slice none 0 0),.val (.bool false)]):=by
 refine den_intro (fn:=Tryz.f130) rfl rfl rfl rfl rfl ?_
 have h1:¬ f=2:=fun e=>by unfold fromB at hf;rw [decide_eq_true e] at hf;cases hf
 have hs:=swturns_den p f hg
 have hb:(decide (f ≤ -3) && decide (-2*p.n<f) && decide (f % 2=1))=false:=by
  unfold fromB at hf
  rw [decide_eq_false h1] at hf
  simpa using hf
 rw [hb] at hs
 refine go ?_
 refine r_call hs ?_
 refine go ?_
 refine c_yes ?_
 refine go ?_
 refine fin ?_
 exact cv

instance fi139:FI Tryz.prog 139 Tryz.f139:=⟨Tryz.func139,Tryz.call139⟩
theorem mAdd_den (a b n:Nat) (h2:2≤n) (hn:n≤2147483647) (ha:a<n) (hb:b<n):Den Tryz.prog 139 [.val (.int .u32 (a:Int)),.val (.int .u32 (b:Int)),.val (.int .u32 (n:Int))] (.tup [.val (.int .u32 (((a+b) % n:Nat):Int)),.val (.int .i64 0)]):=by
 refine den_intro (fn:=Tryz.f139) rfl rfl rfl rfl rfl ?_
 refine go ?_
 refine r_call (mfits2_den n a b h2 hn ha hb) ?_
 refine go ?_
 refine c_no ?_
 refine go ?_
 refine c_if (fun h5=>?_) (fun h5=>?_)
 ·rw [show (a+b) % n=a+b - n by rw [Nat.mod_eq_sub_mod (by omega),Nat.mod_eq_of_lt (by omega)]]
  refine go ?_
  refine fin ?_
  exact cv
 ·rw [show (a+b) % n=a+b by rw [Nat.mod_eq_of_lt (by omega)]]
  refine go ?_
  refine fin ?_
  exact cv
theorem intV_scale {p:PD} {n lv:Nat} (h:Lv p n lv) (t:Int) (E:Nat→Int) (i y:Nat):intV p lv (fun j=>E j*t) i y=mulIntV p lv t (intV p lv E) i y:=(resI_mul (h.q0 i)).symm
theorem sumV_m1 {p:PD} {n lv:Nat} (h:Lv p n lv) (A:Nat→Nat→Nat) {B:Nat→Nat→Nat} (hB:Vg p lv B):sumV p lv (-1) A B=subV p lv A B:=by
 rw [subV_eq h A hB]
 funext i j
 unfold sumV addV mulIntV
 rw [Nat.add_mod_mod]
theorem nkB_row {s:ByteArray} {p:PD} {n L0:Nat} (h:Lv p n L0) (t:Nat) (x:Nat→Int) (f:Int) (j i y:Nat) :
  nkB s p n L0 t x f j i y=if i=j then (subV p L0 (intV p L0 (fun k=>nkE s p n L0 j k*(t:Int))) (prdV p L0 n (nkA s p n L0 j) (intV p L0 x)) i y+mulIntV p L0 (p.special:Int) (intV p L0 (srcV n x f)) i y) % modQ p L0 i else subV p L0 (intV p L0 (fun k=>nkE s p n L0 j k*(t:Int))) (prdV p L0 n (nkA s p n L0 j) (intV p L0 x)) i y:=by
 have hP:=vg_prd h (nkA s p n L0 j) (intV p L0 x)
 have hq:=h.q0 i
 have hb:=hP i y
 unfold nkB
 rw [sumV_m1 h _ hP]
 unfold subV addV
 rw [intV_scale h]
 generalize mulIntV p L0 (t:Int) (intV p L0 (nkE s p n L0 j)) i y=a
 generalize prdV p L0 n (nkA s p n L0 j) (intV p L0 x) i y=b at *
 generalize hQ:modQ p L0 i=q at *
 unfold nkP
 by_cases e:i=j
 ·rw [if_pos e,if_pos e]
  generalize mulIntV p L0 (p.special:Int) (intV p L0 (srcV n x f)) i y=m
  rw [Nat.mod_add_mod,show (a+m) % q+q - b=(a+m) % q+(q - b) by omega,Nat.mod_add_mod]
  congr 1
  omega
 ·rw [if_neg e,if_neg e,Nat.add_zero,show a % q+q - b=a % q+(q - b) by omega,Nat.mod_add_mod]
  congr 1
  omega
section
variable (s:ByteArray) (hs:s.size≤1048576) (p:PD) (n L0:Nat) (x:Nat→Int) (f:Int) (h:Sv p n L0 x f)
include hs h
theorem sw_uni (k:Nat) (j i:Nat) (hk:k=j*(L0+2)+i) (hi:i<L0+1) (hok:dBad s p n L0 k=false):DenH Tryz.prog 135 [.eptr 0 0 0 0,.val (.int .i64 p.n),.val (.int .u32 ((modQ p L0 i:Nat):Int))] [(0,.lit 142 (suD s (dS s p n L0 k)))] (.tup [u32sF false n (nkA s p n L0 j i),.val (.int .i64 0)]) [(0,.lit 142 (suD s (dS s p n L0 (k+1))))] []:=by
 subst hk
 obtain ⟨l,h1,h2,h3⟩:=d_ok hok
 rw [dw_row p L0 (j*(L0+2)) (Nat.mul_mod_left _ _) hi] at h1
 have hm:=modQ_in h.lv.vp h.lv.sp h.lv.l2 i
 have h32:=h.lv.n32
 rw [h.n,show nkA s p n L0 j i=dV s p n L0 (j*(L0+2)+i) from funext fun y=>if_pos hi]
 exact supUniform_ok s _ _ _ n l hs (dS_le _) (by omega) (by omega) (by omega) h1 _ h3 h2
theorem sw_unino (k:Nat) (j i:Nat) (hk:k=j*(L0+2)+i) (hi:i<L0+1) (hok:dBad s p n L0 k=true):DenH Tryz.prog 135 [.eptr 0 0 0 0,.val (.int .i64 p.n),.val (.int .u32 ((modQ p L0 i:Nat):Int))] [(0,.lit 142 (suD s (dS s p n L0 k)))] (.tup [listD .u32 false [],.val (.int .i64 4)]) [(0,.lit 142 (suD s (dS s p n L0 k)))] []:=by
 subst hk
 have h1:=d_no hok
 rw [dw_row p L0 (j*(L0+2)) (Nat.mul_mod_left _ _) hi] at h1
 have hm:=modQ_in h.lv.vp h.lv.sp h.lv.l2 i
 have h32:=h.lv.n32
 rw [h.n]
 exact supUniform_no s _ _ n hs (dS_le _) (by omega) (by omega) (by omega) h1
theorem sw_bou (k:Nat) (j:Nat) (hk:k=j*(L0+2)+(L0+1)) (hok:dBad s p n L0 k=false):∃ E:Nat→Int,(∀ y,y<n→E y=nkE s p n L0 j y)∧DenH Tryz.prog 136 [.eptr 0 0 0 0,.val (.int .i64 p.n),.val (.int .u32 (p.err:Int))] [(0,.lit 142 (suD s (dS s p n L0 k)))] (.tup [.sl 1025 1 n,.val (.int .i64 0)]) [(0,.lit 142 (suD s (dS s p n L0 (k+1))))] [(1025,.arr 2 n 1 (fun y=>[.val (.int .i64 (E y))]))]:=by
 subst hk
 obtain ⟨l,h1,h2,h3⟩:=d_ok hok
 rw [dw_err p L0 (j*(L0+2)) (Nat.mul_mod_left _ _)] at h1
 have e:=h.good.2.2.2.2.2.1
 have h32:=h.lv.n32
 have h4:=h.lv.n4
 rw [h.n]
 refine ⟨_,fun y hy=>?_,supBounded_own s _ _ p.err n l hs (dS_le _) (by have:p.err≤64:=e;omega) (by omega) (by omega) h1 h2 (fun y=>(l.getD y 0:Nat) - (p.err:Int)) (fun _ _=>rfl)⟩
 show (l.map (fun v:Nat=>(v:Int) - (p.err:Int))).getD y 0=_
 unfold nkE
 rw [h3,List.getD_eq_getElem?_getD,List.getD_eq_getElem?_getD,List.getElem?_map,List.getElem?_eq_getElem (by omega)]
 rfl
theorem sw_bouno (k:Nat) (j:Nat) (hk:k=j*(L0+2)+(L0+1)) (hok:dBad s p n L0 k=true):DenH Tryz.prog 136 [.eptr 0 0 0 0,.val (.int .i64 p.n),.val (.int .u32 (p.err:Int))] [(0,.lit 142 (suD s (dS s p n L0 k)))] (.tup [listD .i64 false [],.val (.int .i64 4)]) [(0,.lit 142 (suD s (dS s p n L0 k)))] []:=by
 subst hk
 have h1:=d_no hok
 rw [dw_err p L0 (j*(L0+2)) (Nat.mul_mod_left _ _)] at h1
 have e:=h.good.2.2.2.2.2.1
 have h32:=h.lv.n32
 rw [h.n]
 exact supBounded_no s _ p.err n hs (dS_le _) (by have:p.err≤64:=e;omega) (by omega) h1
end

def AlikeA (f g:FuncId) (ds:List D):Prop:=∃ (l n:Nat) (e:Int) (X Y:Nat→Nat→Nat),l≤1000∧n≤32∧Den Tryz.prog f ds (.tup [.agg (elL false l false l n X),.agg (elL false l false l n Y),.val (.int .i64 e)])∧Den Tryz.prog g ds (.tup [.agg (elL false l false l n X),.agg (elL false l false l n Y),.val (.int .i64 e)])
theorem zero_el {n:Nat} {X:Nat→Nat→Nat}:Cvt (.agg zeroEl) (.agg (elL false 0 false 0 n X)):=Cvt.agg (.cons (.of_eq rfl) (.cons (.of_eq rfl) (.cons (Cvt.nil _ _ _) .nil)))
theorem AlikeA.zero {f g:FuncId} {ds:List D} {e:Int} (h1:Den Tryz.prog f ds (.tup [.agg zeroEl,.agg zeroEl,.val (.int .i64 e)])) (h2:Den Tryz.prog g ds (.tup [.agg zeroEl,.agg zeroEl,.val (.int .i64 e)])):AlikeA f g ds:=
 ⟨0,0,e,fun _ _=>0,fun _ _=>0,by omega,by omega,h1.res (Cvt.tup (.cons zero_el (.cons zero_el (.cons (.of_eq rfl) .nil)))),h2.res (Cvt.tup (.cons zero_el (.cons zero_el (.cons (.of_eq rfl) .nil))))⟩
theorem EIn.zero {e:EG} (h:EIn e) (h0:e.m=0) (r j:Nat):e.g r j=0:=h.o3 r j (by rw [h.o2 r (by omega)];omega)
section
variable {p:PD} {f:Int} {A B:LG} {e:EG} {ex:Int}
end

def AlikeC (f g:FuncId) (ds:List D):Prop:=∃ (l x k n:Nat) (e:Int) (G:Nat→Nat→Nat→Nat),(l≤1000∧k≤3∧n≤32)∧Den Tryz.prog f ds (.tup [.agg (ciV false l x k n G),.val (.int .i64 e)])∧Den Tryz.prog g ds (.tup [.agg (ciV false l x k n G),.val (.int .i64 e)])
theorem AlikeC.zero {f g:FuncId} {ds:List D} {e:Int} (h1:Den Tryz.prog f ds (.tup [.agg zeroC,.val (.int .i64 e)])) (h2:Den Tryz.prog g ds (.tup [.agg zeroC,.val (.int .i64 e)])):AlikeC f g ds:=
 ⟨0,0,0,0,e,fun _ _ _=>0,by omega,h1.res zero_res,h2.res zero_res⟩
noncomputable def relB (p:PD) (f:Int) (A B:LG) (c:CG):Bool:=ciOk p c && decide (c.k=3) && keyB p f A B && decide (f=2)
section
variable (p:PD) (hp:PFit p) (f:Int) (A B:LG) (c:CG) (fA:LFit A) (fB:LFit B) (hk:c.k≤1000000) (hm:∀ i,(c.P i).m≤1000000) (hl:∀ i k,(c.P i).ln k≤1000000) (h:relB p f A B c=false)
include hp fA fB hk hm hl h
end
section
variable (p:PD) (n L0:Nat) (A B:Nat→Nat→Nat→Nat) (h:Kv p n L0 2 A B) (lv ex:Nat) (hC:Cv p n lv ex) (G:Nat→Nat→Nat→Nat) (hG:Vc p lv G) (X Y:Nat→Nat→Nat) (hX:Vg p lv X) (hY:Vg p lv Y)
include h hC hG hX hY
end

noncomputable def kT (p:PD) (n:Nat) (f:Int) (L0:Nat) (A B:Nat→Nat→Nat→Nat):Bool:=keyB p f (lgV L0 L0 true (L0+1) n A) (lgV L0 L0 true (L0+1) n B) && decide (f<0)
structure Ky (p:PD) (n L0:Nat) (f:Int) (A B:Nat→Nat→Nat→Nat):Prop where
 l:L0≤1000
 n32:n≤32
 v:kT p n f L0 A B=true→Kv p n L0 f A B
section
variable {p:PD} {n L0:Nat} {f:Int} {A B:Nat→Nat→Nat→Nat}
theorem Ky.k (h:Ky p n L0 f A B) (ht:kT p n f L0 A B=true):∃ k:Nat, -f=(k:Int)∧1≤k∧k<2*n∧k % 2=1:=by
 have hK:=h.v ht
 have hf:=hK.from_
 have hn:=hK.lv.n
 unfold kT at ht
 simp only [Bool.and_eq_true,decide_eq_true_eq] at ht
 have h0:=ht.2
 unfold fromB at hf
 simp only [Bool.or_eq_true,Bool.and_eq_true,decide_eq_true_eq] at hf
 obtain ⟨k,hk⟩:=Int.eq_ofNat_of_zero_le (show 0 ≤ -f by omega)
 refine ⟨k,hk,?_,?_,?_⟩<;>omega
end
section
variable (p:PD) (n lv ex m:Nat) (hC:Cv p n lv ex) (F:Nat→Int) (Ls:Nat→Nat) (KA KB:Nat→Nat→Nat→Nat→Nat) (G:Nat→Nat→Nat→Nat) (hG:Vc p lv G)
include hC hG
end

instance fi54:FI Tryz.prog 54 Tryz.f54:=⟨Tryz.func54,Tryz.call54⟩
theorem swNewKey_bad (s:ByteArray) (c:Nat) (p:PD) (hp:PFit p) (n:Nat) (x:Nat→Int) (hn:n≤1000000) (hx:∀ j, -128≤x j∧x j≤127) (f:Int) (h:(scB p n x && fromB p f)=false):DenH Tryz.prog 54 [.agg (parL true p),.agg (scL true n x),.val (.int .i64 f),.eptr 0 0 0 0] [(0,.lit 142 (suD s c))] (.tup [.agg zeroK,.val (.int .i64 2)]) [(0,.lit 142 (suD s c))] []:=by
 refine den_intro (fn:=Tryz.f54) rfl rfl rfl rfl rfl ?_
 have hck:=kyCheckSecret_den p hp n x hn hx
 refine go ?_
 cases q:scB p n x with
 | false=>
  rw [q] at hck
  refine r_call hck ?_
  refine go ?_
  refine finH ?_
  exact cv
 | true=>
  rw [q] at h hck
  have hf:fromB p f=false:=by simpa using h
  have hg:=(sc_all q).1
  have hs:=swsource_no p n x hg f hf
  refine r_call hck ?_
  refine go ?_
  refine r_call hs ?_
  refine go ?_
  refine c_yes ?_
  refine go ?_
  refine finH ?_
  exact cv

def AlikeS (f g:FuncId) (ds:List D):Prop:=∃ (m l x n:Nat) (e:Int) (R:Nat→Nat→Nat→Nat→Nat),(m≤1000∧l≤1000∧n≤32)∧(e=0∨(m=0∧e=2))∧Den Tryz.prog f ds (.tup [.fz false m 3 (fun i=>ciV false l x 2 n (R i)),.val (.int .i64 e)])∧Den Tryz.prog g ds (.tup [.fz false m 3 (fun i=>ciV false l x 2 n (R i)),.val (.int .i64 e)])
theorem AlikeS.zero {f g:FuncId} {ds:List D} (h1:Den Tryz.prog f ds (.tup [.val (.slice none 0 0),.val (.int .i64 2)])) (h2:Den Tryz.prog g ds (.tup [.val (.slice none 0 0),.val (.int .i64 2)])):AlikeS f g ds:=
 ⟨0,0,0,0,2,fun _ _ _ _=>0,by omega,.inr ⟨rfl,rfl⟩,h1.res (Cvt.tup (.cons (Cvt.nil _ _ _) (.cons (.of_eq rfl) .nil))),h2.res (Cvt.tup (.cons (Cvt.nil _ _ _) (.cons (.of_eq rfl) .nil)))⟩
section
variable (p:PD) (hp:PFit p) (n:Nat) (hn:Good p.par→p.n=(n:Int)) (c:CG) (hd:Dflt c) (hs:smallC c=true)
include hp hn hd hs
end

instance ti76:TI Tryz.prog 76 Tryz.t76 Tryz.t75.desc:=⟨by kernel_rfl,by kernel_rfl⟩
instance ft76_0:FT Tryz.prog 76 0 0:=FT.of ti76 rfl ti25 rfl rfl
instance ft76_1:FT Tryz.prog 76 1 7:=FT.of ti76 rfl ti74 rfl rfl
abbrev ownL (o:Bool) (p:PD) (ns:Nat) (x:Nat→Int):List D:=parL o p++scL o ns x

open Go.ChangeShapes Go.WideShapes Go.ChangeAt Go.RowKit Go.Deep Go.Joins
set_option maxRecDepth 100000
section
variable {H:Type} {enc:TypeId × Value→H} {w:World} {base:Nat} {spare:Nat→Bool} {held:Bool} {v:Value} {fuel:Nat} {x:DataW H × List MemPlace}
theorem pars_in {cs:List Value} (h:DataW.trod enc Tryz.prog w base spare held fuel 25 cs=some x) :
  ∃ (q:Par) (ca:Option Addr) (cc:Nat),cs=(q.cells ca cc).toList∧ParIn w q ca cc:=by
 obtain ⟨xs,n,_,_,hl,hlen,hf⟩:=DataW.trod_struct Tryz.underlying25 h
 have hl7:cs.length=7:=hl.trans (by kernel_rfl)
 match cs,hl7 with
 | [c0,c1,c2,c3,c4,c5,c6],_=>
  match xs,hlen with
  | [y0,y1,y2,y3,y4,y5,y6],_=>
   have f0:=hf 0 _ rfl
   have f1:=hf 1 _ rfl
   have f2:=hf 2 _ rfl
   have f3:=hf 3 _ rfl
   have f4:=hf 4 _ rfl
   have f5:=hf 5 _ rfl
   have f6:=hf 6 _ rfl
   have ei:Tryz.prog.cellsOf 3=1:=by kernel_rfl
   have eu:Tryz.prog.cellsOf 22=1:=by kernel_rfl
   have es:Tryz.prog.cellsOf 23=1:=by kernel_rfl
   have t0:DataW.trod enc Tryz.prog w base spare held n 3 [c0]=some y0:=by simpa [ei] using f0
   have t1:DataW.trod enc Tryz.prog w base spare held n 22 [c1]=some y1:=by simpa [eu] using f1
   have t2:DataW.trod enc Tryz.prog w base spare held n 3 [c2]=some y2:=by simpa [ei] using f2
   have t3:DataW.trod enc Tryz.prog w base spare held n 23 [c3]=some y3:=by simpa [es] using f3
   have t4:DataW.trod enc Tryz.prog w base spare held n 22 [c4]=some y4:=by simpa [eu] using f4
   have t5:DataW.trod enc Tryz.prog w base spare held n 3 [c5]=some y5:=by simpa [ei] using f5
   have t6:DataW.trod enc Tryz.prog w base spare held n 22 [c6]=some y6:=by simpa [eu] using f6
   clear f0 f1 f2 f3 f4 f5 f6 hf
   obtain ⟨z0,e0,_,w0⟩:=DataW.trod_int Tryz.underlying3 t0
   obtain ⟨z1,e1,_,w1⟩:=DataW.trod_int Tryz.underlying22 t1
   obtain ⟨z2,e2,_,w2⟩:=DataW.trod_int Tryz.underlying3 t2
   obtain ⟨ca,cc,l,rfl,hn,hlc,hcm,hrd,hb⟩:=words_in t3
   obtain ⟨z4,e4,_,w4⟩:=DataW.trod_int Tryz.underlying22 t4
   obtain ⟨z5,e5,_,w5⟩:=DataW.trod_int Tryz.underlying3 t5
   obtain ⟨z6,e6,_,w6⟩:=DataW.trod_int Tryz.underlying22 t6
   simp at e0 e1 e2 e4 e5 e6
   subst e0 e1 e2 e4 e5 e6
   obtain ⟨a0,b0⟩:=bounds_int w0
   obtain ⟨a1,b1⟩:=bounds_w32 w1
   obtain ⟨a2,b2⟩:=bounds_int w2
   obtain ⟨a4,b4⟩:=bounds_w32 w4
   obtain ⟨a5,b5⟩:=bounds_int w5
   obtain ⟨a6,b6⟩:=bounds_w32 w6
   obtain ⟨x1,rfl⟩:=Int.eq_ofNat_of_zero_le a1
   obtain ⟨x4,rfl⟩:=Int.eq_ofNat_of_zero_le a4
   obtain ⟨x6,rfl⟩:=Int.eq_ofNat_of_zero_le a6
   refine ⟨⟨z0,x1,z2,l,x4,z5,x6⟩,ca,cc,rfl,{ rd:=hrd,n1:=a0,n2:=b0,prime:=by simp only;omega,power1:=a2,power2:=b2,len:=?_,room:=hlc,room2:=by unfold maxLen at hcm;omega,chain:=hb,special:=by simp only;omega,weight1:=a5,weight2:=b5,err:=by simp only;omega }⟩
   unfold maxLen at hcm
   simp only
   omega
theorem smalls_rep (h:DataW.trod enc Tryz.prog w base spare held fuel 72 [v]=some x):∃ (m:Nat) (z:Nat→Int),m≤9223372036854775807∧(∀ j, -128≤z j∧z j≤127)∧(∀ j,m≤j→z j=0)∧v.oneCell'=true∧Rep (Zw w) w noN v (.fz true m 1 (fun j=>[.val (.int .i8 (z j))])):=by
 obtain ⟨_,_,_,hc2,_⟩:=slice_in Tryz.underlying72 (k:=1) (by kernel_rfl) (by omega) h
 obtain ⟨len,f,h1,h2,h3⟩:=slice_rep (k:=1) Tryz.underlying72 (by kernel_rfl) (by omega) h (Q:=fun ds=>∃ z:Int,(-128≤z∧z≤127)∧ds=[.val (.int .i8 z)]) (fun n cs y hl ht=>by
  match cs,hl with
  | [c0],_=>
   obtain ⟨z,e,_,wf⟩:=DataW.trod_int Tryz.underlying214 ht
   simp at e
   subst e
   refine ⟨_,rfl,⟨z,?_,rfl⟩,fun j hj=>?_⟩
   ·simp [Lit.wf,IntKind.min,IntKind.max,IntKind.signed,IntKind.bits] at wf
    omega
   obtain rfl:j=0:=by omega
   exact ⟨rfl,.val _ _⟩)
 obtain ⟨z,z1,z2⟩:=choose_fun (0:Int) len _ h2
 refine ⟨len,z,h1,fun j=>?_,z2,by rw [hc2];rfl,h3 _ (fun i hi=>(z1 i hi).2.symm)⟩
 by_cases q:j<len
 ·exact (z1 j q).1
 ·rw [z2 j (by omega)];omega
theorem owner_one {b0:Nat} {r:Reach} {d:DataW H} {p:List MemPlace} (hv:Value.okWide Tryz.prog w r b0 76 v) (h:DataW.Trod enc Tryz.prog w base spare held 76 v d p) :
  ∃ (q:PD) (m:Nat) (z:Nat→Int),PFit q∧q.chain.length≤9223372036854775807∧m≤9223372036854775807∧(∀ j, -128≤z j∧z j≤127)∧(∀ j,m≤j→z j=0)∧Rep (Zw w) w noN v (.agg (ownL true q m z)):=by
 obtain ⟨cs,rfl,hsz⟩:=okWide_struct Tryz.underlying76 hv
 obtain ⟨l⟩:=cs
 have hl8:l.length=8:=hsz.trans (by kernel_rfl)
 obtain ⟨fuel,hf0⟩:=h
 match l,hl8 with
 | [a0,a1,a2,a3,a4,a5,a6,a7],_=>
  have hf0:DataW.trod enc Tryz.prog w base spare held fuel 76 [a0,a1,a2,a3,a4,a5,a6,a7]=some (d,p):=by simpa [Value.cells] using hf0
  obtain ⟨xs,n,_,_,hl,hlen,hf⟩:=DataW.trod_struct Tryz.underlying76 hf0
  match xs,hlen with
  | [y0,y1],_=>
   have f0:=hf 0 _ rfl
   have f1:=hf 1 _ rfl
   have ep:Tryz.prog.cellsOf 25=7:=by kernel_rfl
   have es:Tryz.prog.cellsOf 74=1:=by kernel_rfl
   have g0:DataW.trod enc Tryz.prog w base spare held n 25 [a0,a1,a2,a3,a4,a5,a6]=some y0:=by simpa [ep] using f0
   have g1:DataW.trod enc Tryz.prog w base spare held n 74 [a7]=some y1:=by simpa [es,ep] using f1
   obtain ⟨xs,n',_,_,hl,hlen,hf⟩:=DataW.trod_struct Tryz.underlying74 g1
   match xs,hlen with
   | [y2],_=>
    have f2:=hf 0 _ rfl
    have e8:Tryz.prog.cellsOf 72=1:=by kernel_rfl
    have g2:DataW.trod enc Tryz.prog w base spare held n' 72 [a7]=some y2:=by simpa [e8] using f2
    obtain ⟨m,z,m1,m2,m3,m4,m5⟩:=smalls_rep g2
    obtain ⟨q,ca,cc,hq,hin⟩:=pars_in g0
    have hcl:q.chain.length≤9223372036854775807:=hin.len
    refine ⟨⟨q.n,q.prime,q.power,q.chain,q.special,q.weight,q.err⟩,m,z,⟨hin.n1,hin.n2,hin.prime,hin.power1,hin.power2,hin.chain,hin.special,hin.weight1,hin.weight2,hin.err⟩,hcl,m1,m2,m3,?_⟩
    simp only [Par.cells,List.cons.injEq,and_true] at hq
    obtain ⟨rfl,rfl,rfl,rfl,rfl,rfl,rfl⟩:=hq
    refine .agg _ [_,_,_,_,_,_,_,a7] _ rfl (fun j hj=>?_) (fun j hj=>?_)
    ·match j,hj with
     | 0,_ | 1,_ | 2,_ | 3,_ | 4,_ | 5,_ | 6,_=>rfl
     | 7,_=>exact m4
    ·match j,hj with
     | 0,_ | 1,_ | 2,_ | 4,_ | 5,_ | 6,_=>exact .val _ _
     | 7,_=>exact m5
     | 3,_=>
      refine .fz _ _ ca _ cc 1 _ (fun j _=>.int .u32 ((q.chain.getD j 0:Nat):Int)) hin.room hin.room2 (fun _ _=>rfl) (fun e c he hc=>?_) (fun e c he hc=>?_)
      ·obtain ⟨b,o,e1,e2⟩:=hin.rd e he
       obtain rfl:c=0:=by omega
       refine ⟨b,o,e1,⟨rfl,cell_lt (e2 e he)⟩,?_,rfl⟩
       rw [Nat.mul_one,Nat.add_zero];exact e2 e he
      ·obtain rfl:c=0:=by omega
       exact .val _ _
end
end Go.Proofs.YtdcenblblimkfaaGreat
