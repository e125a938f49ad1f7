/- What a key makes of digits and of an element: both sides make the same.
Switching keys: how the reference makes them, by data.
Relinearising: both sides make the same; the law's walk, by data.
Turning an element by a key; who turns; by data.
Several automorphisms of a valid ciphertext by valid keys: by data.
The reference's Apply and Several under automorphisms: by data.
galois.Several where it is refused; galois.Apply: by data.
Automorphisms of ciphertexts: both sides make the same.
Automorphisms of ciphertexts: both sides make the same, of any key and ciphertext.
A new key of any secret and number: by data.
Picking one of so many: by data.
Equal lists of ciphertexts: by data. -/
import Derived.Test.YtmjildbdkecolaaGreatPg40
import Derived.Test.YtmjildbdkecolaaGreatPg39
import Derived.Test.YtmjildbdkecolaaGreatPg37
import Derived.Test.YtmjildbdkecolaaGreatPg21
import Derived.Test.YtmjildbdkecolaaGreatPg18
set_option linter.unusedSimpArgs false
set_option linter.unusedVariables false
set_option linter.unnecessarySimpa false
set_option linter.unusedSectionVars false
namespace Go.Proofs.YtmjildbdkecolaaGreat
open Go.RowKit
set_option maxRecDepth 20000
set_option maxHeartbeats 4000000
def AlikeA (f g:FuncId) (ds:List D):Prop:=∃ (l n:Nat) (e:Int) (X Y:Nat→Nat→Nat),l≤1000∧n≤32∧Den Tryz.prog f ds (.tup [.agg (elL false l false l n X),.agg (elL false l false l n Y),.val (.int .i64 e)])∧Den Tryz.prog g ds (.tup [.agg (elL false l false l n X),.agg (elL false l false l n Y),.val (.int .i64 e)])
theorem zero_el {n:Nat} {X:Nat→Nat→Nat}:Cvt (.agg zeroEl) (.agg (elL false 0 false 0 n X)):=Cvt.agg (.cons (.of_eq rfl) (.cons (.of_eq rfl) (.cons (Cvt.nil _ _ _) .nil)))
theorem AlikeA.zero {f g:FuncId} {ds:List D} {e:Int} (h1:Den Tryz.prog f ds (.tup [.agg zeroEl,.agg zeroEl,.val (.int .i64 e)])) (h2:Den Tryz.prog g ds (.tup [.agg zeroEl,.agg zeroEl,.val (.int .i64 e)])):AlikeA f g ds:=
 ⟨0,0,e,fun _ _=>0,fun _ _=>0,by omega,by omega,h1.res (Cvt.tup (.cons zero_el (.cons zero_el (.cons (.of_eq rfl) .nil)))),h2.res (Cvt.tup (.cons zero_el (.cons zero_el (.cons (.of_eq rfl) .nil))))⟩
theorem EIn.zero {e:EG} (h:EIn e) (h0:e.m=0) (r j:Nat):e.g r j=0:=h.o3 r j (by rw [h.o2 r (by omega)];omega)
section
variable {p:PD} {f:Int} {A B:LG} {e:EG} {ex:Int}
theorem swApply_of {m lv M n l n2:Nat} {x:Int} {G:Nat→Nat→Nat→Nat} {X Y:Nat→Nat→Nat} (h:Den Tryz.prog 42 [.agg (parL true p),.agg (elD true e)] (.tup [.fz false m 3 (fun i=>elL false lv true M n (G i)),.val (.int .i64 0)]))
  (h2:Den Tryz.prog 11 [.agg (parL true p),.agg (keyD true f A B),.fz true m 3 (fun i=>elL true lv true M n (G i)),.val (.int .i64 ex)] (.tup [.agg (elL false l false l n2 X),.agg (elL false l false l n2 Y),.val (.int .i64 x)])) :
  Den Tryz.prog 14 [.agg (parL true p),.agg (keyD true f A B),.agg (elD true e),.val (.int .i64 ex)] (.tup [.agg (elL false l false l n2 X),.agg (elL false l false l n2 Y),.val (.int .i64 x)]):=by
 refine den_intro (fn:=Tryz.f14) rfl rfl rfl rfl rfl ?_
 refine go ?_
 refine r_call h ?_
 refine go ?_
 refine r_call h2 ?_
 refine go ?_
 refine fin ?_
 exact cv
theorem r18Apply_of {m lv M n l n2:Nat} {x:Int} {G:Nat→Nat→Nat→Nat} {X Y:Nat→Nat→Nat} (h:Den Tryz.prog 58 [.agg (parL true p),.agg (elD true e)] (.tup [.fz false m 3 (fun i=>elL false lv true M n (G i)),.val (.int .i64 0)]))
  (h2:Den Tryz.prog 12 [.agg (parL true p),.agg (keyD true f A B),.fz true m 3 (fun i=>elL true lv true M n (G i)),.val (.int .i64 ex)] (.tup [.agg (elL false l false l n2 X),.agg (elL false l false l n2 Y),.val (.int .i64 x)])) :
  Den Tryz.prog 15 [.agg (parL true p),.agg (keyD true f A B),.agg (elD true e),.val (.int .i64 ex)] (.tup [.agg (elL false l false l n2 X),.agg (elL false l false l n2 Y),.val (.int .i64 x)]):=by
 refine den_intro (fn:=Tryz.f15) rfl rfl rfl rfl rfl ?_
 refine go ?_
 refine r_call h ?_
 refine go ?_
 refine r_call h2 ?_
 refine go ?_
 refine fin ?_
 exact cv
end

abbrev zeroK:List D:=[.val (.int .i64 0),.val (.slice none 0 0),.val (.slice none 0 0)]
theorem nk_guard {c f:Bool} (h:(c && f)=false) (q:(decide (errI c≠0) || !f)=false):False:=by
 cases c<;>cases f<;>simp_all [errI]
theorem r18NewKey_bad (s:ByteArray) (c:Nat) (p:PD) (hp:PFit p) (n:Nat) (x:Nat→Int) (hn:n≤1000000) (hx:∀ j, -128≤x j∧x j≤127) (f:Int) (h:(scB p n x && fromB p f)=false):DenH Tryz.prog 30 [.agg (parL true p),.agg (scL true n x),.val (.int .i64 f),.eptr 0 0 0 0] [(0,.lit 117 (rfD s c))] (.tup [.agg zeroK,.val (.int .i64 2)]) [(0,.lit 117 (rfD s c))] []:=by
 refine den_intro (fn:=Tryz.f30) rfl rfl rfl rfl rfl ?_
 refine go ?_
 refine r_call (r13CheckSecret_den p hp n x hn hx) ?_
 refine go ?_
 refine g_callM (hl:=fun hb=>r_call (r18from_den p f (by
  cases q:scB p n x with
  | false=>rw [q] at hb;simp [errI] at hb
  | true=>exact (sc_all q).1)) (run_fin rfl)) (h:=?_)
 refine go ?_
 refine c_ifB (fun q=>?_) (fun q=>?_)
 ·refine go ?_
  refine finH ?_
  exact cv
 ·exact (nk_guard h q).elim
structure Sv (p:PD) (n L0:Nat) (x:Nat→Int) (f:Int):Prop where
 fit:PFit p
 sc:scB p n x=true
 from_:fromB p f=true
 n:p.n=(n:Int)
 top:L0=p.chain.length
 x:∀ j, -1≤x j∧x j≤1
theorem Sv.good {p:PD} {n L0:Nat} {x:Nat→Int} {f:Int} (h:Sv p n L0 x f):Good p.par:=(sc_all h.sc).1
theorem Sv.lv {p:PD} {n L0:Nat} {x:Nat→Int} {f:Int} (h:Sv p n L0 x f):Lv p n L0:=by
 have hvp:=good_VP h.good
 exact ⟨hvp,good_special h.good,h.n,by have:=hvp.len1;have:=h.top;omega,by have:=h.top;omega⟩
section
variable (s:ByteArray) (hs:s.size≤1048576) (p:PD) (n L0:Nat) (x:Nat→Int) (f:Int) (h:Sv p n L0 x f)
include hs h
theorem nk_row (j:Nat) (hok:∀ i,i<L0+1→dBad s p n L0 (j*(L0+2)+i)=false):DenH Tryz.prog 85 [.agg (parL true p),.val (.int .i64 (L0:Int)),.val (.bool true),.eptr 0 0 0 0] [(0,.lit 117 (rfD s (dS s p n L0 (j*(L0+2)))))] (.tup [.agg (elL false L0 true (L0+1) n (nkA s p n L0 j)),.val (.int .i64 0)]) [(0,.lit 117 (rfD s (dS s p n L0 (j*(L0+2)+(L0+1)))))] []:=
 (r13Uniform_ok s hs p n L0 h.lv h.top (j*(L0+2)) (Nat.mul_mod_left _ _) hok).res (Cvt.tup (.cons (cvt_el (fun r y hr _=>by unfold nkA;rw [if_pos hr])) (.cons (.of_eq rfl) .nil)))
theorem nk_err (j:Nat) (hok:dBad s p n L0 (j*(L0+2)+(L0+1))=false):DenH Tryz.prog 86 [.eptr 0 0 0 0,.val (.int .i64 p.n),.val (.int .u32 (p.err:Int))] [(0,.lit 117 (rfD s (dS s p n L0 (j*(L0+2)+(L0+1)))))] (.tup [intsD false n (nkE s p n L0 j),.val (.int .i64 0)]) [(0,.lit 117 (rfD s (dS s p n L0 ((j+1)*(L0+2)))))] []:=by
 obtain ⟨l,h1,h2,h3⟩:=d_ok hok
 rw [dw_err p L0 (j*(L0+2)) (Nat.mul_mod_left _ _)] at h1
 have e:=h.good.2.2.2.2.2.1
 have h32:=h.lv.n32
 rw [h.n,show (j+1)*(L0+2)=j*(L0+2)+(L0+1)+1 by rw [Nat.add_mul];omega]
 exact refBounded_ok s _ _ p.err n l hs (dS_le _) (by have:p.err≤64:=e;omega) (by omega) h1 _ h3 h2
theorem nk_errno (j:Nat) (hok:dBad s p n L0 (j*(L0+2)+(L0+1))=true):DenH Tryz.prog 86 [.eptr 0 0 0 0,.val (.int .i64 p.n),.val (.int .u32 (p.err:Int))] [(0,.lit 117 (rfD s (dS s p n L0 (j*(L0+2)+(L0+1)))))] (.tup [listD .i64 false [],.val (.int .i64 4)]) [(0,.lit 117 (rfD s (dS s p n L0 (j*(L0+2)+(L0+1)))))] []:=by
 have h1:=d_no hok
 rw [dw_err p L0 (j*(L0+2)) (Nat.mul_mod_left _ _)] at h1
 have e:=h.good.2.2.2.2.2.1
 have h32:=h.lv.n32
 rw [h.n]
 exact refBounded_no s _ p.err n hs (dS_le _) (by have:p.err≤64:=e;omega) (by omega) h1
theorem r18NewKey_any (j0:Nat) (hj0:j0≤L0) (hok:∀ k,k<j0*(L0+2)→dBad s p n L0 k=false) (r:D) (c':Nat)
  (hE:(j0=L0∧r = .tup [.agg (keyV false f L0 n (nkB s p n L0 (p.prime ^ p.power.toNat) x f) (nkA s p n L0)),.val (.int .i64 0)]∧c'=dS s p n L0 (L0*(L0+2))) ∨
   (j0<L0∧r = .tup [.agg zeroK,.val (.int .i64 4)]∧DenH Tryz.prog 85 [.agg (parL true p),.val (.int .i64 (L0:Int)),.val (.bool true),.eptr 0 0 0 0] [(0,.lit 117 (rfD s (dS s p n L0 (j0*(L0+2)))))] (.tup [.agg zeroEl,.val (.int .i64 4)]) [(0,.lit 117 (rfD s c'))] []) ∨
   (j0<L0∧r = .tup [.agg zeroK,.val (.int .i64 4)]∧DenH Tryz.prog 85 [.agg (parL true p),.val (.int .i64 (L0:Int)),.val (.bool true),.eptr 0 0 0 0] [(0,.lit 117 (rfD s (dS s p n L0 (j0*(L0+2)))))] (.tup [.agg (elL false L0 true (L0+1) n (nkA s p n L0 j0)),.val (.int .i64 0)]) [(0,.lit 117 (rfD s (dS s p n L0 (j0*(L0+2)+(L0+1)))))] [] ∧
    DenH Tryz.prog 86 [.eptr 0 0 0 0,.val (.int .i64 p.n),.val (.int .u32 (p.err:Int))] [(0,.lit 117 (rfD s (dS s p n L0 (j0*(L0+2)+(L0+1)))))] (.tup [listD .i64 false [],.val (.int .i64 4)]) [(0,.lit 117 (rfD s c'))] [])) :
  DenH Tryz.prog 30 [.agg (parL true p),.agg (scL true n x),.val (.int .i64 f),.eptr 0 0 0 0] [(0,.lit 117 (rfD s 0))] r [(0,.lit 117 (rfD s c'))] []:=by
 refine den_intro (fn:=Tryz.f30) rfl rfl rfl rfl rfl ?_
 have hL:=h.lv
 have hg:=h.good
 have hN:NatIs p.n n:=h.n
 have h32:=hL.n32
 have l1:=hL.l1
 have l24:=hL.vp.len2
 have ht:=h.top
 have herr:p.err≤64:=hg.2.2.2.2.2.1
 have hx:=h.x
 have hx8:∀ j, -128≤x j∧x j≤127:=fun j=>by have:=hx j;omega
 obtain ⟨ex,hex⟩:=Int.eq_ofNat_of_zero_le (show 0≤p.power by have:=hg.2.2.2.2.2.2.1.2.2.2.2.1;simp only [PD.par] at this;omega)
 obtain ⟨b1,b2,b3⟩:=good_pow hg (ex:=ex) (by omega)
 have hT:=b1 ex (Nat.le_refl _)
 rw [show p.power.toNat=ex by omega] at hE
 have hck:=r13CheckSecret_den p h.fit n x (by omega) hx8
 rw [h.sc] at hck
 have hfr:=r18from_den p f hg
 rw [h.from_] at hfr
 have hsrc:=r18source_den p h.fit n x h.n h.sc hx f h.from_
 have hsi:=srcV_in (f:=f) h32 hx
 have hwA:=vg_nkA (s:=s) hL
 have hEi:=nkE_in (s:=s) (p:=p) (n:=n) (L0:=L0) herr
 have d1:∀ j,j<j0→_:=fun j hj=>nk_row s hs p n L0 x f h j (fun i hi=>hok _ (by
  have:(j+1)*(L0+2)≤j0*(L0+2):=Nat.mul_le_mul_right _ hj
  rw [Nat.add_mul] at this;omega))
 have d2:∀ j,j<j0→_:=fun j hj=>nk_err s hs p n L0 x f h j (hok _ (by
  have:(j+1)*(L0+2)≤j0*(L0+2):=Nat.mul_le_mul_right _ hj
  rw [Nat.add_mul] at this;omega))
 have d3:∀ j,Den Tryz.prog 51 [.agg (parL true p),.agg (elL true L0 true (L0+1) n (nkA s p n L0 j)),intsD true n (srcV n x f)] (.agg (elL false L0 true (L0+1) n (intV p L0 (srcV n x f)))):=fun j=>r13Of_den p n L0 true hL _ rfl (srcV n x f) (fun i=>by have:=hsi i;omega)
 have hsp:p.special≤2147483647:=by have:=modQ_in hL.vp hL.sp hL.l2 L0;unfold modQ at this;rw [if_neg (by omega)] at this;omega
 have d4:DenH Tryz.prog 87 [.agg (parL true p),.agg (elL true L0 true (L0+1) n (intV p L0 (srcV n x f))),.val (.int .i64 (p.special:Int))] [] (.agg (elA L0 true 1013 (L0+1))) [] [(1013,.arr 23 (L0+1) 1 (fun k=>[u32sF false n (mulIntV p L0 (p.special:Int) (intV p L0 (srcV n x f)) k)]))]:=r13Scale_rows p n L0 true hL (intV p L0 (srcV n x f)) (p.special:Int) (by omega) (vg_int hL _)
 have d5:∀ j,Den Tryz.prog 51 [.agg (parL true p),.agg (elL true L0 true (L0+1) n (nkA s p n L0 j)),intsD true n (nkE s p n L0 j)] (.agg (elL false L0 true (L0+1) n (intV p L0 (nkE s p n L0 j)))):=fun j=>r13Of_den p n L0 true hL _ rfl (nkE s p n L0 j) (fun i=>by have:=hEi j i;omega)
 have d6:Den Tryz.prog 55 [.agg (parL true p),.val (.int .i64 p.power)] (.val (.int .i64 ((p.prime ^ ex:Nat):Int))):=by
  rw [hex]
  exact r13Plain_den p ex b1 (good_ex b1 b2)
 have d7:∀ j,Den Tryz.prog 87 [.agg (parL true p),.agg (elL true L0 true (L0+1) n (intV p L0 (nkE s p n L0 j))),.val (.int .i64 ((p.prime ^ ex:Nat):Int))] (.agg (elL false L0 true (L0+1) n (mulIntV p L0 ((p.prime ^ ex:Nat):Int) (intV p L0 (nkE s p n L0 j))))):=fun j=>r13Scale_den p n L0 true hL _ _ (by omega) (vg_int hL _)
 have d8:∀ j,Den Tryz.prog 53 [.agg (parL true p),.agg (elL true L0 true (L0+1) n (mulIntV p L0 ((p.prime ^ ex:Nat):Int) (intV p L0 (nkE s p n L0 j)))),.agg (elL true L0 true (L0+1) n (nkP p n L0 x f j))] (.agg (elL false L0 true (L0+1) n (addV p L0 (mulIntV p L0 ((p.prime ^ ex:Nat):Int) (intV p L0 (nkE s p n L0 j))) (nkP p n L0 x f j)))):=fun j=>by
  have:=r13Add_den p n L0 true hL _ _ (vg_mulInt hL ((p.prime ^ ex:Nat):Int) (intV p L0 (nkE s p n L0 j))) (vg_nkP hL x f j)
  rw [sumV_1 hL] at this
  exact this
 have d9:=r13Ints_den n x (by omega) hx8
 have d10:∀ j,Den Tryz.prog 51 [.agg (parL true p),.agg (elL true L0 true (L0+1) n (nkA s p n L0 j)),intsD true n x] (.agg (elL false L0 true (L0+1) n (intV p L0 x))):=fun j=>r13Of_den p n L0 true hL _ rfl x (fun i=>by have:=hx i;omega)
 have d11:∀ j,Den Tryz.prog 54 [.agg (parL true p),.agg (elL true L0 true (L0+1) n (nkA s p n L0 j)),.agg (elL true L0 true (L0+1) n (intV p L0 x))] (.agg (elL false L0 true (L0+1) n (prdV p L0 n (nkA s p n L0 j) (intV p L0 x)))):=fun j=>r13Mul_den p n L0 true hL _ _ (hwA j) (vg_int hL _)
 have d12:∀ j,Den Tryz.prog 88 [.agg (parL true p),.agg (elL true L0 true (L0+1) n (addV p L0 (mulIntV p L0 ((p.prime ^ ex:Nat):Int) (intV p L0 (nkE s p n L0 j))) (nkP p n L0 x f j))),.agg (elL true L0 true (L0+1) n (prdV p L0 n (nkA s p n L0 j) (intV p L0 x)))] (.agg (elL false L0 true (L0+1) n (nkB s p n L0 (p.prime ^ ex) x f j))):=fun j=>by
  have:=(r13Sub_own p n L0 true hL _ _ (vg_add hL (mulIntV p L0 ((p.prime ^ ex:Nat):Int) (intV p L0 (nkE s p n L0 j))) (nkP p n L0 x f j)) (vg_prd hL (nkA s p n L0 j) (intV p L0 x))).frozen (by have:=hL.l1;unfold modN;rw [if_pos rfl];omega) (FrD.el L0 true)
  exact this
 have hst:∀ j e,e<L0+1→strD n j (mulIntV p L0 (p.special:Int) (intV p L0 (srcV n x f))) (L0+1) e=[u32sF false n (nkP p n L0 x f j e)]:=fun j e he=>strD_all he
 have hS0:dS s p n L0 0=0:=rfl
 generalize hPP:nkP p n L0 x f=PP at *
 generalize mulIntV p L0 (p.special:Int) (intV p L0 (srcV n x f))=MS at *
 generalize intV p L0 (srcV n x f)=IS at *
 generalize srcV n x f=SV at *
 generalize nkB s p n L0 (p.prime ^ ex) x f=BB at *
 generalize intV p L0 x=IX at *
 generalize hAA:nkA s p n L0=AA at *
 generalize hEE:nkE s p n L0=EE at *
 generalize dS s p n L0=S at *
 generalize p.prime ^ ex=T at *
 clear hPP hAA hEE hok
 refine go ?_
 refine r_call hck ?_
 refine go ?_
 refine g_callM (hl:=fun hb=>r_call hfr (run_fin rfl)) (h:=?_)
 refine go ?_
 refine c_ifB (fun q=>?_) (fun q=>?_)
 ·exfalso
  simp [errI] at q
 clear q
 refine go ?_
 refine r_call hsrc ?_
 refine go ?_
 refine c_nilcell 1010 1 1900 35 3 (fun j=>elL false L0 true (L0+1) n (BB j)) ?_
 refine c_nilcell 1010 2 1901 35 3 (fun j=>elL false L0 true (L0+1) n (AA j)) ?_
 refine c_lit 0 (rfD s (S (0*(L0+2)))) (.cons (.refl _) (.cons (.eq (by rw [Nat.zero_mul,hS0])) .nil)) ?_
 refine c_down (fun j=>L0 - j) (fun j=>j≤j0) (fun j:Nat=>[(12,.val (.int .i64 (j:Int)))]) (fun j=>[(0,some (.lit 117 (rfD s (S (j*(L0+2)))))),(1010,some (.lit 28 [.val (.int .i64 f),.sl 1900 3 j,.sl 1901 3 j])),(1900,some (.arr 35 j 3 (fun j=>elL false L0 true (L0+1) n (BB j)))),(1901,some (.arr 35 j 3 (fun j=>elL false L0 true (L0+1) n (AA j))))]) 0 (fun j hj=>?_) (by omega)
 refine go ?_
 refine c_if (fun h3=>?_) (fun h3=>?_)
 ·by_cases h3':j<j0
  case neg=>
   obtain rfl:j=j0:=by omega
   rcases hE with ⟨q,_⟩ | ⟨_,rfl,hU⟩ | ⟨_,rfl,hU,hB⟩
   ·omega
   ·refine go ?_
    refine r_eqS 47 (.val (.int .i64 (L0:Int))) (d:=.val (.int .i64 (p.chain.length:Int))) (by rw [ht]) ?_
    refine r_callM 0 hU ?_
    refine go ?_
    refine finH ?_
    exact cv
   ·refine go ?_
    refine r_eqS 47 (.val (.int .i64 (L0:Int))) (d:=.val (.int .i64 (p.chain.length:Int))) (by rw [ht]) ?_
    refine r_callM 0 hU ?_
    refine go ?_
    refine r_callM 0 hB ?_
    refine go ?_
    refine finH ?_
    exact cv
  refine go ?_
  refine r_eqS 47 (.val (.int .i64 (L0:Int))) (d:=.val (.int .i64 (p.chain.length:Int))) (by rw [ht]) ?_
  refine r_callM 0 (d1 j h3') ?_
  refine go ?_
  refine r_callM 0 (d2 j h3') ?_
  refine go ?_
  refine r_call (d3 j) ?_
  refine go ?_
  refine r_callA d4 (r':=.agg (elA L0 true 1077 (L0+1))) rfl ?_
  refine go ?_
  refine c_arr 1077 (strD n j MS 0) (fun e he=>by rw [strD_0]) (fun e=>strD_len e) ?_
  refine c_up (L0+1) (fun i=>[(17,.val (.int .i64 (i:Nat)))]) (fun i=>[(1077,some (.arr 23 (L0+1) 1 (strD n j MS i)))]) (fun i hi=>?_)
  refine go ?_
  refine c_if (fun h4=>?_) (fun h4=>?_)
  ·refine go ?_
   refine c_if (fun h5=>?_) (fun h5=>?_)
   ·refine c_reg ?_
    refine go1 ?_
    refine go1 ?_
    refine go1 ?_
    refine go1 ?_
    refine go1 ?_
    refine r_mkf n hN hN (by omega) ?_
    refine go1 ?_
    refine go1 ?_
    refine c_end (by kernel_rfl) ?_
    refine go ?_
    refine ⟨h4,?_⟩
    refine sub_arr 1077 (n:=L0+1) (f:=setE (strD n j MS i) i 0 [zrow n]) (strD n j MS (i+1)) (fun e _=>strD_set (by omega) e) (fun e=>strD_len e) ?_
    exact sub
   ·obtain rfl:i=j:=by omega
    refine go ?_
    refine ⟨h4,?_⟩
    refine sub_arr 1077 (n:=L0+1) (f:=strD n i MS i) (strD n i MS (i+1)) (fun e _=>strD_skip e) (fun e=>strD_len e) ?_
    exact sub
  obtain rfl:i=L0+1:=by omega
  refine c_arr 1077 (n:=L0+1) (f:=strD n j MS (L0+1)) (fun e=>[u32sF false n (PP j e)]) (fun e he=>hst j e he) (fun _=>rfl) ?_
  refine go ?_
  refine r_call (d5 j) ?_
  refine go ?_
  refine r_call d6 ?_
  refine go ?_
  refine r_call (d7 j) ?_
  refine go ?_
  refine r_call (d8 j) ?_
  refine go ?_
  refine r_call d9 ?_
  refine go ?_
  refine r_call (d10 j) ?_
  refine go ?_
  refine r_call (d11 j) ?_
  refine go ?_
  refine r_call (d12 j) ?_
  refine go ?_
  refine ⟨j+1,by omega,by omega,?_⟩
  refine sub_arr (1000+122) (fun j=>elL false L0 true (L0+1) n (BB j)) (appF_snoc rfl) (fun _=>rfl) ?_
  refine sub_arr (1000+128) (fun j=>elL false L0 true (L0+1) n (AA j)) (appF_snoc rfl) (fun _=>rfl) ?_
  refine sub_toL [109] (1000+122) 1900 ?_
  refine sub_toL [125] (1000+128) 1901 ?_
  exact sub
 ·obtain rfl:j=L0:=by omega
  rcases hE with ⟨_,rfl,rfl⟩ | ⟨q,_⟩ | ⟨q,_⟩
  case inr.inl=>omega
  case inr.inr=>omega
  refine go ?_
  refine fin_freeze 1900 ?_
  refine fin_freeze 1901 ?_
  refine finH ?_
  exact cv
theorem r18NewKey_ok (hok:∀ k,k<L0*(L0+2)→dBad s p n L0 k=false):DenH Tryz.prog 30 [.agg (parL true p),.agg (scL true n x),.val (.int .i64 f),.eptr 0 0 0 0] [(0,.lit 117 (rfD s 0))] (.tup [.agg (keyV false f L0 n (nkB s p n L0 (p.prime ^ p.power.toNat) x f) (nkA s p n L0)),.val (.int .i64 0)]) [(0,.lit 117 (rfD s (dS s p n L0 (L0*(L0+2)))))] []:=
 r18NewKey_any s hs p n L0 x f h L0 (Nat.le_refl _) hok _ _ (.inl ⟨rfl,rfl,rfl⟩)
theorem r18NewKey_no (k:Nat) (hk:k<L0*(L0+2)) (hok:∀ i,i<k→dBad s p n L0 i=false) (hbad:dBad s p n L0 k=true):DenH Tryz.prog 30 [.agg (parL true p),.agg (scL true n x),.val (.int .i64 f),.eptr 0 0 0 0] [(0,.lit 117 (rfD s 0))] (.tup [.agg zeroK,.val (.int .i64 4)]) [(0,.lit 117 (rfD s (dS s p n L0 k)))] []:=by
 have e:k=k / (L0+2)*(L0+2)+k % (L0+2):=by rw [Nat.mul_comm];exact (Nat.div_add_mod k (L0+2)).symm
 have hj:k / (L0+2)<L0:=Nat.div_lt_of_lt_mul (by rw [Nat.mul_comm];exact hk)
 have hi:k % (L0+2)<L0+2:=Nat.mod_lt _ (by omega)
 generalize k / (L0+2)=j at *
 generalize k % (L0+2)=i at *
 subst e
 refine r18NewKey_any s hs p n L0 x f h j (by omega) (fun k hk=>hok k (by omega)) _ _ ?_
 by_cases q:i<L0+1
 ·exact .inr (.inl ⟨hj,rfl,r13Uniform_no s hs p n L0 h.lv h.top (j*(L0+2)) (Nat.mul_mod_left _ _) i q (fun a ha=>hok _ (by omega)) hbad⟩)
 ·obtain rfl:i=L0+1:=by omega
  exact .inr (.inr ⟨hj,rfl,nk_row s hs p n L0 x f h j (fun a ha=>hok _ (by omega)),nk_errno s hs p n L0 x f h j hbad⟩)
end

def AlikeC (f g:FuncId) (ds:List D):Prop:=∃ (l x k n:Nat) (e:Int) (G:Nat→Nat→Nat→Nat),(l≤1000∧k≤3∧n≤32)∧Den Tryz.prog f ds (.tup [.agg (ciV false l x k n G),.val (.int .i64 e)])∧Den Tryz.prog g ds (.tup [.agg (ciV false l x k n G),.val (.int .i64 e)])
theorem AlikeC.zero {f g:FuncId} {ds:List D} {e:Int} (h1:Den Tryz.prog f ds (.tup [.agg zeroC,.val (.int .i64 e)])) (h2:Den Tryz.prog g ds (.tup [.agg zeroC,.val (.int .i64 e)])):AlikeC f g ds:=
 ⟨0,0,0,0,e,fun _ _ _=>0,by omega,h1.res zero_res,h2.res zero_res⟩
noncomputable def relB (p:PD) (f:Int) (A B:LG) (c:CG):Bool:=ciOk p c && decide (c.k=3) && keyB p f A B && decide (f=2)
section
variable (p:PD) (hp:PFit p) (f:Int) (A B:LG) (c:CG) (fA:LFit A) (fB:LFit B) (hk:c.k≤1000000) (hm:∀ i,(c.P i).m≤1000000) (hl:∀ i k,(c.P i).ln k≤1000000) (h:relB p f A B c=false)
include hp fA fB hk hm hl h
end
section
variable (p:PD) (n L0:Nat) (A B:Nat→Nat→Nat→Nat) (h:Kv p n L0 2 A B) (lv ex:Nat) (hC:Cv p n lv ex) (G:Nat→Nat→Nat→Nat) (hG:Vc p lv G) (X Y:Nat→Nat→Nat) (hX:Vg p lv X) (hY:Vg p lv Y)
include h hC hG hX hY
end
theorem vg_dwn {p:PD} {n lv:Nat} (h:Lv p n lv) (b q t:Nat) (g:Nat→Nat→Nat):Vg p lv (downV p lv b q t g):=fun r _=>Nat.mod_lt _ (h.q0 r)

instance fi70:FI Tryz.prog 70 Tryz.f70:=⟨Tryz.func70,Tryz.call70⟩
instance fi68:FI Tryz.prog 68 Tryz.f68:=⟨Tryz.func68,Tryz.call68⟩
instance fi69:FI Tryz.prog 69 Tryz.f69:=⟨Tryz.func69,Tryz.call69⟩
instance fi66:FI Tryz.prog 66 Tryz.f66:=⟨Tryz.func66,Tryz.call66⟩
theorem gaSeveral1_den (p:PD) (n lv L0:Nat) (sp:Bool) (h:Lv p n lv) (f:Int) (k:Nat) (hf : -f=(k:Int)) (hk1:1≤k) (hk2:k<2*n) (hk3:k % 2=1) (A B:Nat→Nat→Nat→Nat) (g:Nat→Nat→Nat) (hg:Vg p lv g) :
  Den Tryz.prog 70 [.agg (elL true lv sp (modN p lv sp) n g),.fptr true (parL true p),.fptr true (keyV true f L0 n A B)] (.agg (elL false lv sp (modN p lv sp) n (autV p lv n k g))):=by
 refine den_intro (fn:=Tryz.f70) rfl rfl rfl rfl rfl ?_
 have h32:=h.n32
 refine go ?_
 refine r_eqS 12 (.val (.int .i64 (k:Int))) (d:=.val (.int .i64 (-f))) (by rw [hf]) ?_
 refine go ?_
 refine r_call (rgAuto_den p n lv sp h k hk1 hk2 hk3 g hg) ?_
 refine go ?_
 refine fin ?_
 exact cv
theorem gatwo_den (p:PD) (hp:PFit p) (c:CG) (hk:c.k≤1000000) (hm:∀ i,(c.P i).m≤1000000) (hl:∀ i k,(c.P i).ln k≤1000000):Den Tryz.prog 68 [.agg (parL true p),.agg (ciD true c)] (.val (.bool (decide (c.k=2) && ciOk p c))):=by
 refine den_intro (fn:=Tryz.f68) rfl rfl rfl rfl rfl ?_
 refine go ?_
 refine g_callM (hl:=fun hb=>r_call (ciCheck_den p hp c hk hl hm) (run_fin rfl)) (h:=?_)
 refine go ?_
 refine fin ?_
 rw [errI_0]
 exact CvV.id rfl
theorem gaturning_den (p:PD) (hp:PFit p) (f:Int) (A B:LG) (fA:LFit A) (fB:LFit B):Den Tryz.prog 69 [.agg (parL true p),.agg (keyD true f A B)] (.val (.bool (decide (f<0) && keyB p f A B))):=by
 refine den_intro (fn:=Tryz.f69) rfl rfl rfl rfl rfl ?_
 refine go ?_
 refine g_callM (hl:=fun hb=>r_call (swCheckKey_den p hp f A B fA fB) (run_fin rfl)) (h:=?_)
 refine go ?_
 refine fin ?_
 rw [errI_0]
 exact CvV.id rfl
theorem r19turning_den (p:PD) (hp:PFit p) (f:Int) (A B:LG) (fA:LFit A) (fB:LFit B):Den Tryz.prog 66 [.agg (parL true p),.agg (keyD true f A B)] (.val (.bool (keyB p f A B && decide (f<0)))):=by
 refine den_intro (fn:=Tryz.f66) rfl rfl rfl rfl rfl ?_
 refine go ?_
 refine r_call (r18CheckKey_den p hp f A B fA fB) ?_
 refine go ?_
 refine fin ?_
 rw [errI_0]
 exact CvV.id rfl

instance ti55:TI Tryz.prog 55 Tryz.t55 (.slice 28):=⟨by kernel_rfl,by kernel_rfl⟩
instance ti58:TI Tryz.prog 58 Tryz.t58 (.slice 43):=⟨by kernel_rfl,by kernel_rfl⟩
instance et55:ET Tryz.prog 55 3:=ET.of ti55 ti28 rfl
instance et58:ET Tryz.prog 58 3:=ET.of ti58 ti43 rfl
instance fi24:FI Tryz.prog 24 Tryz.f24:=⟨Tryz.func24,Tryz.call24⟩
instance fi22:FI Tryz.prog 22 Tryz.f22:=⟨Tryz.func22,Tryz.call22⟩
theorem setE_fillE {f:Nat→List D} {z:List D} {j:Nat} (h:z.length=(f j).length) (e:Nat):setE (fun e=>if e<j then f e else z) j 0 (f j) e=if e<j+1 then f e else z:=by
 unfold setE
 by_cases q:e=j
 ·subst q
  rw [if_pos rfl]
  show setL (if e<e then f e else z) 0 (f e)=_
  rw [if_neg (Nat.lt_irrefl _),if_pos (by omega)]
  have e1:∀ (xs ys:List D),ys.length=xs.length→takeL 0 ys++(xs++dropL (0+xs.length) ys)=xs:=fun xs ys hh=>by
   have:∀ (ys:List D) (m:Nat),ys.length≤m→dropL m ys=[]:=fun ys=>by
    induction ys with
    | nil=>intro m _;cases m<;>rfl
    | cons y ys ih=>intro m hm;cases m with
     | zero=>simp at hm
     | succ m=>exact ih m (by simpa using hm)
   rw [this ys _ (by omega)]
   simp [takeL]
  exact e1 _ _ h
 ·rw [if_neg q]
  show (if e<j then f e else z)=_
  by_cases q2:e<j
  ·rw [if_pos q2,if_pos (by omega)]
  ·rw [if_neg q2,if_neg (by omega)]
abbrev keysL (o:Bool) (m n:Nat) (F:Nat→Int) (Ls:Nat→Nat) (KA KB:Nat→Nat→Nat→Nat→Nat):D:=.fz o m 3 (fun i=>keyV o (F i) (Ls i) n (KA i) (KB i))
theorem gaSeveral_ok (p:PD) (n lv ex m:Nat) (hC:Cv p n lv ex) (hm:m≤2*n) (F:Nat→Int) (Ls kk:Nat→Nat) (KA KB:Nat→Nat→Nat→Nat→Nat) (G:Nat→Nat→Nat→Nat) (hF:∀ i,i<m → -(F i)=(kk i:Int)) (hk1:∀ i,i<m→1≤kk i) (hk2:∀ i,i<m→kk i<2*n) (hk3:∀ i,i<m→kk i % 2=1)
  (htu:∀ i,i<m→Den Tryz.prog 69 [.agg (parL true p),.agg (keyV true (F i) (Ls i) n (KA i) (KB i))] (.val (.bool true))) (htw:Den Tryz.prog 68 [.agg (parL true p),.agg (ciV true lv ex 2 n G)] (.val (.bool true)))
  (hG:Vc p lv G) (E:Nat→Nat→Nat→Nat→Nat) (hE:∀ i j,i<m→autV p lv n (kk i) (dgV p lv (G 1) j)=E i j) (X:Nat→Nat→Nat→Nat) (hX:∀ i,i<m→Vg p lv (X i)) (R:Nat→Nat→Nat→Nat→Nat) (hR0:∀ i,i<m→addV p lv (autV p lv n (kk i) (G 0)) (X i)=R i 0)
  (hap:∀ i,i<m→Den Tryz.prog 11 [.agg (parL true p),.agg (keyV true (F i) (Ls i) n (KA i) (KB i)),.fz true lv 3 (fun j=>elL true lv true (lv+1) n (E i j)),.val (.int .i64 (ex:Int))] (.tup [.agg (elL false lv false lv n (X i)),.agg (elL false lv false lv n (R i 1)),.val (.int .i64 0)])) :
  Den Tryz.prog 24 [.agg (parL true p),keysL true m n F Ls KA KB,.agg (ciV true lv ex 2 n G)] (.tup [.fz false m 3 (fun i=>ciV false lv ex 2 n (R i)),.val (.int .i64 0)]):=by
 refine den_intro (fn:=Tryz.f24) rfl rfl rfl rfl rfl ?_
 have hL:=hC.lv
 have h32:=hL.n32
 have hN:NatIs p.n n:=hL.n
 have l1:=hL.l1
 have l2:=hL.l2
 have l24:=hL.vp.len2
 have hD:∀ j,Vg p lv (dgV p lv (G 1) j):=fun j k i=>resI_lt (hL.q0 k)
 have hdg:=swDigits_ok p n lv hC.fit hC.st.1 hL (G 1) (hG 1)
 have hau:∀ i j,i<m→Den Tryz.prog 70 [.agg (elL true lv true (lv+1) n (dgV p lv (G 1) j)),.fptr true (parL true p),.fptr true (keyV true (F i) (Ls i) n (KA i) (KB i))] (.agg (elL false lv true (lv+1) n (E i j))):=fun i j hi=>by
  rw [← hE i j hi]
  exact gaSeveral1_den p n lv (Ls i) true hL (F i) (kk i) (hF i hi) (hk1 i hi) (hk2 i hi) (hk3 i hi) (KA i) (KB i) _ (hD j)
 have hau0:∀ i,i<m→Den Tryz.prog 70 [.agg (elL true lv false lv n (G 0)),.fptr true (parL true p),.fptr true (keyV true (F i) (Ls i) n (KA i) (KB i))] (.agg (elL false lv false lv n (autV p lv n (kk i) (G 0)))):=fun i hi=>gaSeveral1_den p n lv (Ls i) false hL (F i) (kk i) (hF i hi) (hk1 i hi) (hk2 i hi) (hk3 i hi) (KA i) (KB i) _ (hG 0)
 have had:∀ i,i<m→Den Tryz.prog 60 [.agg (parL true p),.agg (elL true lv false lv n (autV p lv n (kk i) (G 0))),.agg (elL true lv false lv n (X i))] (.tup [.agg (elL false lv false lv n (R i 0)),.val (.int .i64 0)]):=fun i hi=>by
  have:=rgAdd_den p n lv false hL _ _ (vg_aut hL (kk i) (hG 0)) (hX i hi)
  rw [show (fun i_1 j=>(autV p lv n (kk i) (G 0) i_1 j+X i i_1 j) % modQ p lv i_1)=R i 0 from hR0 i hi] at this
  exact this
 generalize dgV p lv (G 1)=DG at *
 clear hE hR0 hF
 refine go ?_
 refine r_call htw ?_
 refine go ?_
 refine c_up m (fun j=>[(38,.val (.int .i64 (j:Nat)))]) (fun j=>[]) (fun j hj=>?_)
 refine go ?_
 refine c_if (fun h5=>?_) (fun h5=>?_)
 ·refine go ?_
  refine r_call (htu j h5) ?_
  refine go ?_
  refine c_no ?_
  refine go ?_
  refine ⟨h5,?_⟩
  exact sub
 obtain rfl:j=m:=by omega
 refine go ?_
 refine r_call hdg ?_
 refine go ?_
 refine c_nil 12 1900 43 3 (fun i=>ciV false lv ex 2 n (R i)) ?_
 refine c_up j (fun i=>[(61,.val (.int .i64 (i:Nat))),(12,.sl 1900 3 i)]) (fun i=>[(1900,some (.arr 43 i 3 (fun i=>ciV false lv ex 2 n (R i))))]) (fun i hi=>?_)
 refine go ?_
 refine c_if (fun h6=>?_) (fun h6=>?_)
 ·refine go ?_
  refine c_arr (1000+68) (m:=3) (fun e=>if e<0 then elL false lv true (lv+1) n (E i e) else [.val (.int .i64 0),.val (.bool false),.val (.slice none 0 0)]) (fun e he=>rfl) (fun e=>by split<;>rfl) ?_
  refine c_up lv (fun x=>[(71,.val (.int .i64 (x:Nat)))]) (fun x=>[(1068,some (.arr 35 lv 3 (fun e=>if e<x then elL false lv true (lv+1) n (E i e) else [.val (.int .i64 0),.val (.bool false),.val (.slice none 0 0)])))]) (fun x hx=>?_)
  refine go ?_
  refine c_if (fun h7=>?_) (fun h7=>?_)
  ·refine go ?_
   refine r_call (hau i x h6) ?_
   refine go ?_
   refine ⟨h7,?_⟩
   refine sub_arr (1000+68) (m:=3) (fun e=>if e<x+1 then elL false lv true (lv+1) n (E i e) else [.val (.int .i64 0),.val (.bool false),.val (.slice none 0 0)]) (fun e _=>setE_fillE (f:=fun e=>elL false lv true (lv+1) n (E i e)) (z:=[.val (.int .i64 0),.val (.bool false),.val (.slice none 0 0)]) rfl e) (fun e=>by split<;>rfl) ?_
   exact sub
  ·obtain rfl:lv=x:=by omega
   refine c_arr (1000+68) (fun e=>elL false lv true (lv+1) n (E i e)) (fun e he=>if_pos he) (fun _=>rfl) ?_
   refine c_freeze (1000+68) ?_
   refine c_slot 16 (.fz false lv 3 (fun e=>elL false lv true (lv+1) n (E i e))) ?_
   refine go ?_
   refine r_call (hap i h6) ?_
   refine go ?_
   refine r_eqS 102 (.agg (elL true lv false lv n (G 0))) rfl ?_
   refine r_call (hau0 i h6) ?_
   refine go ?_
   refine r_call (had i h6) ?_
   refine gor ?_
   refine c_reg ?_
   refine go1 ?_
   refine go1 ?_
   refine go1 ?_
   refine go1 ?_
   refine go1 ?_
   refine go1 ?_
   refine go1 ?_
   refine r_bslF (fun x=>elL false lv false lv n (R i x)) ?_ (hf:=?_)
   ·refine r_eqS 115 (.fz false 2 3 (fun x=>elL false lv false lv n (R i x))) rfl ?_
    refine go1 ?_
    refine go1 ?_
    refine go1 ?_
    refine go1 ?_
    refine c_end (by kernel_rfl) ?_
    refine go ?_
    refine ⟨h6,?_⟩
    refine sub_arr (1000+118) (fun i=>ciV false lv ex 2 n (R i)) (appF_snoc rfl) (fun _=>rfl) ?_
    refine sub_toL [108] (1000+118) 1900 ?_
    exact sub
   ·intro e he
    rcases (show e=0∨e=1 by omega) with rfl | rfl
    ·exact ⟨rfl,fun c hc=>by rcases (show c=0∨c=1∨c=2 by have:c<3:=hc;omega) with rfl | rfl | rfl<;>rfl⟩
    ·exact ⟨rfl,fun c hc=>by rcases (show c=0∨c=1∨c=2 by have:c<3:=hc;omega) with rfl | rfl | rfl<;>rfl⟩
 ·obtain rfl:i=j:=by omega
  refine go ?_
  refine fin_freeze 1900 ?_
  refine fin ?_
  exact cv

instance fi23:FI Tryz.prog 23 Tryz.f23:=⟨Tryz.func23,Tryz.call23⟩
instance fi25:FI Tryz.prog 25 Tryz.f25:=⟨Tryz.func25,Tryz.call25⟩
theorem r19Apply_ok (p:PD) (n lv ex L0:Nat) (hC:Cv p n lv ex) (f:Int) (k:Nat) (A B:Nat→Nat→Nat→Nat) (G:Nat→Nat→Nat→Nat) (hF : -f=(k:Int)) (hk1:1≤k) (hk2:k<2*n) (hk3:k % 2=1)
  (htu:Den Tryz.prog 66 [.agg (parL true p),.agg (keyV true f L0 n A B)] (.val (.bool true)))
  (hG:Vc p lv G) (X:Nat→Nat→Nat) (hX:Vg p lv X) (R:Nat→Nat→Nat→Nat) (hR0:addV p lv (autV p lv n k (G 0)) X=R 0)
  (hap:Den Tryz.prog 15 [.agg (parL true p),.agg (keyV true f L0 n A B),.agg (elL true lv false lv n (autV p lv n k (G 1))),.val (.int .i64 (ex:Int))] (.tup [.agg (elL false lv false lv n X),.agg (elL false lv false lv n (R 1)),.val (.int .i64 0)])) :
  Den Tryz.prog 23 [.agg (parL true p),.agg (keyV true f L0 n A B),.agg (ciV true lv ex 2 n G)] (.tup [.agg (ciV false lv ex 2 n R),.val (.int .i64 0)]):=by
 refine den_intro (fn:=Tryz.f23) rfl rfl rfl rfl rfl ?_
 have hL:=hC.lv
 have h32:=hL.n32
 have a0:Den Tryz.prog 67 [.agg (parL true p),.agg (elL true lv false lv n (G 0)),.val (.int .i64 (k:Int))] (.tup [.agg (elL false lv false lv n (autV p lv n k (G 0))),.val (.int .i64 0)]):=r09Auto_den p n lv false hL k hk1 hk2 hk3 (G 0) (hG 0)
 have a1:Den Tryz.prog 67 [.agg (parL true p),.agg (elL true lv false lv n (G 1)),.val (.int .i64 (k:Int))] (.tup [.agg (elL false lv false lv n (autV p lv n k (G 1))),.val (.int .i64 0)]):=r09Auto_den p n lv false hL k hk1 hk2 hk3 (G 1) (hG 1)
 have h1:Den Tryz.prog 53 [.agg (parL true p),.agg (elL true lv false lv n (autV p lv n k (G 0))),.agg (elL true lv false lv n X)] (.agg (elL false lv false lv n (R 0))):=by
  have:=r13Add_den p n lv false hL _ _ (vg_aut hL k (hG 0)) hX
  rw [sumV_1 hL] at this
  rw [← hR0]
  exact this
 have hck:=r14CheckV_den p n lv ex 2 hC (.inl rfl) G hG
 generalize autV p lv n k (G 0)=U0 at *
 generalize autV p lv n k (G 1)=U1 at *
 refine go ?_
 refine r_call htu ?_
 refine go ?_
 refine g_callM (hl:=fun hb=>r_call hck (run_fin rfl)) (h:=?_)
 refine go ?_
 refine c_ifB (fun q=>?_) (fun q=>?_)
 ·exfalso
  simp at q
 clear q
 refine go ?_
 refine r_eqS 37 (.agg (elL true lv false lv n (G 0))) rfl ?_
 refine r_eqS 40 (.val (.int .i64 (k:Int))) (d:=.val (.int .i64 (-f))) (by rw [hF]) ?_
 refine r_call a0 ?_
 refine go ?_
 refine r_eqS 49 (.agg (elL true lv false lv n (G 1))) rfl ?_
 refine r_eqS 52 (.val (.int .i64 (k:Int))) (d:=.val (.int .i64 (-f))) (by rw [hF]) ?_
 refine r_call a1 ?_
 refine go ?_
 refine r_call hap ?_
 refine go ?_
 refine r_call h1 ?_
 refine go ?_
 refine fin_arr (1000+75) (fun i=>elL false lv false lv n (R i)) (fun e he=>?_) (fun _=>rfl) ?_
 ·match e,he with
  | 0,_=>rfl
  | 1,_=>rfl
 refine fin_freeze (1000+75) ?_
 refine fin ?_
 exact cv
theorem r19Apply_no (p:PD) (hp:PFit p) (f:Int) (L0 n:Nat) (A B:Nat→Nat→Nat→Nat) (c:CG) (hk:c.k≤1000000) (hm:∀ i,(c.P i).m≤1000000) (hl:∀ i k,(c.P i).ln k≤1000000) (t:Bool) (htu:Den Tryz.prog 66 [.agg (parL true p),.agg (keyV true f L0 n A B)] (.val (.bool t))) (h:(t && (decide (c.k=2) && ciOk p c))=false) :
  Den Tryz.prog 23 [.agg (parL true p),.agg (keyV true f L0 n A B),.agg (ciD true c)] (.tup [.agg zeroC,.val (.int .i64 2)]):=by
 refine den_intro (fn:=Tryz.f23) rfl rfl rfl rfl rfl ?_
 refine go ?_
 refine r_call htu ?_
 refine go ?_
 refine g_callM (hl:=fun hb=>r_call (r14Check_den p hp c hk hl hm) (run_fin rfl)) (h:=?_)
 refine go ?_
 refine c_ifB (fun h1=>?_) (fun h1=>?_)
 ·refine go ?_
  refine fin ?_
  exact cv
 ·exfalso
  cases t
  ·simp at h1
  ·cases q:ciOk p c
   ·rw [q] at h1;simp [errI] at h1
   ·rw [q] at h1 h
    simp [errI] at h1 h
    omega
theorem r19Several_ok (p:PD) (n lv ex m:Nat) (hC:Cv p n lv ex) (hm:m≤2*n) (F:Nat→Int) (Ls:Nat→Nat) (KA KB:Nat→Nat→Nat→Nat→Nat) (G:Nat→Nat→Nat→Nat) (hG:Vc p lv G) (R:Nat→Nat→Nat→Nat→Nat)
  (hap:∀ i,i<m→Den Tryz.prog 23 [.agg (parL true p),.agg (keyV true (F i) (Ls i) n (KA i) (KB i)),.agg (ciV true lv ex 2 n G)] (.tup [.agg (ciV false lv ex 2 n (R i)),.val (.int .i64 0)])) :
  Den Tryz.prog 25 [.agg (parL true p),keysL true m n F Ls KA KB,.agg (ciV true lv ex 2 n G)] (.tup [.fz false m 3 (fun i=>ciV false lv ex 2 n (R i)),.val (.int .i64 0)]):=by
 refine den_intro (fn:=Tryz.f25) rfl rfl rfl rfl rfl ?_
 have hL:=hC.lv
 have h32:=hL.n32
 have hN:NatIs p.n n:=hL.n
 refine go ?_
 refine r_call (r14CheckV_den p n lv ex 2 hC (.inl rfl) G hG) ?_
 refine go ?_
 refine c_nil 8 1900 43 3 (fun i=>ciV false lv ex 2 n (R i)) ?_
 refine c_up m (fun j=>[(9,.val (.int .i64 (j:Nat))),(8,.sl 1900 3 j)]) (fun j=>[(1900,some (.arr 43 j 3 (fun i=>ciV false lv ex 2 n (R i))))]) (fun j hj=>?_)
 refine go ?_
 refine c_if (fun h6=>?_) (fun h6=>?_)
 ·refine go ?_
  refine r_call (hap j h6) ?_
  refine go ?_
  refine ⟨h6,?_⟩
  refine sub_arr (1000+52) (fun i=>ciV false lv ex 2 n (R i)) (appF_snoc rfl) (fun _=>rfl) ?_
  refine sub_toL [49] (1000+52) 1900 ?_
  exact sub
 ·obtain rfl:j=m:=by omega
  refine go ?_
  refine fin_freeze 1900 ?_
  refine fin ?_
  exact cv
section
variable (p:PD) (hp:PFit p) (n m:Nat) (hm:m≤1000) (F:Nat→Int) (Ls:Nat→Nat) (KA KB:Nat→Nat→Nat→Nat→Nat) (c:CG) (hk:c.k≤1000000) (hcm:∀ i,(c.P i).m≤1000000) (hl:∀ i k,(c.P i).ln k≤1000000)
include hp hm hk hcm hl
theorem r19Several_no1 (h:(decide (c.k=2) && ciOk p c)=true→NatIs p.n n∧n≤32∧2*n<m) :
  Den Tryz.prog 25 [.agg (parL true p),keysL true m n F Ls KA KB,.agg (ciD true c)] (.tup [.val (.slice none 0 0),.val (.int .i64 2)]):=by
 refine den_intro (fn:=Tryz.f25) rfl rfl rfl rfl rfl ?_
 have hck:=r14Check_den p hp c hk hl hcm
 cases q:ciOk p c with
 | false=>
  rw [q] at hck
  refine go ?_
  refine r_call hck ?_
  refine go ?_
  refine fin ?_
  exact cv
 | true=>
  rw [q] at hck h
  by_cases q2:c.k=2
  ·obtain ⟨hN,h32,h2⟩:=h (by rw [q2];rfl)
   refine go ?_
   refine r_call hck ?_
   refine go ?_
   refine c_ifB (fun q3=>?_) (fun q3=>?_)
   ·refine go ?_
    refine fin ?_
    exact cv
   ·exfalso
    simp at q3
    omega
  ·refine go ?_
   refine r_call hck ?_
   refine go ?_
   refine c_ifB (fun q3=>?_) (fun q3=>?_)
   ·refine go ?_
    refine fin ?_
    exact cv
   ·exfalso
    simp at q3
    omega
theorem r19Several_no2 (hc2:c.k=2) (hco:ciOk p c=true) (hN:NatIs p.n n) (h32:n≤32) (hmn:m≤2*n) (j0:Nat) (hj0:j0<m) (lv ex:Nat) (R:Nat→Nat→Nat→Nat→Nat)
  (hap:∀ i,i<j0→Den Tryz.prog 23 [.agg (parL true p),.agg (keyV true (F i) (Ls i) n (KA i) (KB i)),.agg (ciD true c)] (.tup [.agg (ciV false lv ex 2 n (R i)),.val (.int .i64 0)]))
  (hno:Den Tryz.prog 23 [.agg (parL true p),.agg (keyV true (F j0) (Ls j0) n (KA j0) (KB j0)),.agg (ciD true c)] (.tup [.agg zeroC,.val (.int .i64 2)])) :
  Den Tryz.prog 25 [.agg (parL true p),keysL true m n F Ls KA KB,.agg (ciD true c)] (.tup [.val (.slice none 0 0),.val (.int .i64 2)]):=by
 refine den_intro (fn:=Tryz.f25) rfl rfl rfl rfl rfl ?_
 have hck:=r14Check_den p hp c hk hl hcm
 rw [hco] at hck
 refine go ?_
 refine r_call hck ?_
 refine go ?_
 refine c_ifB (fun q=>?_) (fun q=>?_)
 ·exfalso
  simp at q
  omega
 clear q
 refine go ?_
 refine c_nil 8 1900 43 3 (fun i=>ciV false lv ex 2 n (R i)) ?_
 refine c_up j0 (fun j=>[(9,.val (.int .i64 (j:Nat))),(8,.sl 1900 3 j)]) (fun j=>[(1900,some (.arr 43 j 3 (fun i=>ciV false lv ex 2 n (R i))))]) (fun j hj=>?_)
 refine go ?_
 rcases Nat.lt_or_ge j j0 with h6 | h6
 ·refine r_call (hap j h6) ?_
  refine go ?_
  refine ⟨h6,?_⟩
  refine sub_arr (1000+52) (fun i=>ciV false lv ex 2 n (R i)) (appF_snoc rfl) (fun _=>rfl) ?_
  refine sub_toL [49] (1000+52) 1900 ?_
  exact sub
 ·obtain rfl:j=j0:=by omega
  refine r_call hno ?_
  refine go ?_
  refine fin ?_
  exact cv
end

section
variable (p:PD) (n m:Nat) (hm:m≤1000) (F:Nat→Int) (Ls:Nat→Nat) (KA KB:Nat→Nat→Nat→Nat→Nat) (c:CG)
include hm
theorem gaSeveral_no1 (t:Bool) (htw:Den Tryz.prog 68 [.agg (parL true p),.agg (ciD true c)] (.val (.bool t))) (hN:t=true→NatIs p.n n∧n≤32) (h:t=true→2*n<m) :
  Den Tryz.prog 24 [.agg (parL true p),keysL true m n F Ls KA KB,.agg (ciD true c)] (.tup [.val (.slice none 0 0),.val (.int .i64 2)]):=by
 refine den_intro (fn:=Tryz.f24) rfl rfl rfl rfl rfl ?_
 cases t with
 | false=>
  refine go ?_
  refine r_call htw ?_
  refine go ?_
  refine fin ?_
  exact cv
 | true=>
  obtain ⟨hN,h32⟩:=hN rfl
  have h:=h rfl
  refine go ?_
  refine r_call htw ?_
  refine go ?_
  refine fin ?_
  exact cv
theorem gaSeveral_no2 (htw:Den Tryz.prog 68 [.agg (parL true p),.agg (ciD true c)] (.val (.bool true))) (hN:NatIs p.n n) (h32:n≤32) (T:Nat→Bool) (htu:∀ i,i<m→Den Tryz.prog 69 [.agg (parL true p),.agg (keyV true (F i) (Ls i) n (KA i) (KB i))] (.val (.bool (T i)))) (j0:Nat) (hj:j0<m) (h0:T j0=false) (h1:∀ i,i<j0→T i=true) (hmn:m≤2*n) :
  Den Tryz.prog 24 [.agg (parL true p),keysL true m n F Ls KA KB,.agg (ciD true c)] (.tup [.val (.slice none 0 0),.val (.int .i64 2)]):=by
 refine den_intro (fn:=Tryz.f24) rfl rfl rfl rfl rfl ?_
 refine go ?_
 refine r_call htw ?_
 refine go ?_
 refine c_up j0 (fun j=>[(38,.val (.int .i64 (j:Nat)))]) (fun j=>[]) (fun j hj=>?_)
 refine go ?_
 rcases Nat.lt_or_ge j j0 with q | q
 ·have ht:=htu j (by omega)
  rw [h1 j q] at ht
  refine r_call ht ?_
  refine go ?_
  refine c_no ?_
  refine go ?_
  refine ⟨q,?_⟩
  exact sub
 ·obtain rfl:j=j0:=by omega
  have ht:=htu j (by omega)
  rw [h0] at ht
  refine r_call ht ?_
  refine go ?_
  refine c_yes ?_
  refine go ?_
  refine fin ?_
  exact cv
end
section
variable (p:PD) (n:Nat) (F:Nat→Int) (Ls:Nat→Nat) (KA KB:Nat→Nat→Nat→Nat→Nat) (c:CG)
theorem gaApply_no (h:Den Tryz.prog 24 [.agg (parL true p),keysL true 1 n F Ls KA KB,.agg (ciD true c)] (.tup [.val (.slice none 0 0),.val (.int .i64 2)])) :
  Den Tryz.prog 22 [.agg (parL true p),.agg (keyV true (F 0) (Ls 0) n (KA 0) (KB 0)),.agg (ciD true c)] (.tup [.agg zeroC,.val (.int .i64 2)]):=by
 refine den_intro (fn:=Tryz.f22) rfl rfl rfl rfl rfl ?_
 refine c_sreg ?_
 refine gor ?_
 refine c_sreg ?_
 refine go1 ?_
 refine go1 ?_
 refine r_bslF (fun i=>keyV true (F i) (Ls i) n (KA i) (KB i)) ?_ (hf:=?_)
 ·refine r_eqS 13 (.fz false 1 3 (fun i=>keyV true (F i) (Ls i) n (KA i) (KB i))) rfl ?_
  refine go1 ?_
  refine r_call h ?_
  refine go1 ?_
  refine go1 ?_
  refine go1 ?_
  refine go1 ?_
  refine go1 ?_
  refine c_end (by kernel_rfl) ?_
  refine go ?_
  refine fin ?_
  exact cv
 ·intro e he
  obtain rfl:e=0:=by omega
  exact ⟨rfl,fun c hc=>by rcases (show c=0∨c=1∨c=2 by have:c<3:=hc;omega) with rfl | rfl | rfl<;>rfl⟩
theorem gaApply_ok (lv ex k n2:Nat) (R:Nat→Nat→Nat→Nat→Nat) (h:Den Tryz.prog 24 [.agg (parL true p),keysL true 1 n F Ls KA KB,.agg (ciD true c)] (.tup [.fz false 1 3 (fun i=>ciV false lv ex k n2 (R i)),.val (.int .i64 0)])) :
  Den Tryz.prog 22 [.agg (parL true p),.agg (keyV true (F 0) (Ls 0) n (KA 0) (KB 0)),.agg (ciD true c)] (.tup [.agg (ciV false lv ex k n2 (R 0)),.val (.int .i64 0)]):=by
 refine den_intro (fn:=Tryz.f22) rfl rfl rfl rfl rfl ?_
 refine c_sreg ?_
 refine gor ?_
 refine c_sreg ?_
 refine go1 ?_
 refine go1 ?_
 refine r_bslF (fun i=>keyV true (F i) (Ls i) n (KA i) (KB i)) ?_ (hf:=?_)
 ·refine r_eqS 13 (.fz false 1 3 (fun i=>keyV true (F i) (Ls i) n (KA i) (KB i))) rfl ?_
  refine go1 ?_
  refine r_call h ?_
  refine go1 ?_
  refine go1 ?_
  refine go1 ?_
  refine go1 ?_
  refine go1 ?_
  refine c_end (by kernel_rfl) ?_
  refine go ?_
  refine fin ?_
  exact cv
 ·intro e he
  obtain rfl:e=0:=by omega
  exact ⟨rfl,fun c hc=>by rcases (show c=0∨c=1∨c=2 by have:c<3:=hc;omega) with rfl | rfl | rfl<;>rfl⟩
end

theorem gatwoV_den (p:PD) (n lv ex:Nat) (hC:Cv p n lv ex) (G:Nat→Nat→Nat→Nat) (hG:Vc p lv G):Den Tryz.prog 68 [.agg (parL true p),.agg (ciV true lv ex 2 n G)] (.val (.bool true)):=by
 refine den_intro (fn:=Tryz.f68) rfl rfl rfl rfl rfl ?_
 have hck:=ciCheckV_den p n lv ex 2 hC (.inl rfl) G hG
 refine go ?_
 refine g_callM (hl:=fun hb=>r_call hck (run_fin rfl)) (h:=?_)
 refine go ?_
 refine fin ?_
 exact CvV.id rfl
noncomputable def kT (p:PD) (n:Nat) (f:Int) (L0:Nat) (A B:Nat→Nat→Nat→Nat):Bool:=keyB p f (lgV L0 L0 true (L0+1) n A) (lgV L0 L0 true (L0+1) n B) && decide (f<0)
structure Ky (p:PD) (n L0:Nat) (f:Int) (A B:Nat→Nat→Nat→Nat):Prop where
 l:L0≤1000
 n32:n≤32
 v:kT p n f L0 A B=true→Kv p n L0 f A B
theorem Ky.fitL {p:PD} {n L0:Nat} {f:Int} {A B:Nat→Nat→Nat→Nat} (h:Ky p n L0 f A B) (G:Nat→Nat→Nat→Nat):LFit (lgV L0 L0 true (L0+1) n G):=by
 have:=h.l
 have:=h.n32
 exact ⟨by show L0≤_;omega,fun _=>by show L0+1≤_;omega,fun _ _=>by show n≤_;omega⟩
section
variable {p:PD} {n L0:Nat} {f:Int} {A B:Nat→Nat→Nat→Nat}
theorem Ky.turn (h:Ky p n L0 f A B) (hp:PFit p):Den Tryz.prog 69 [.agg (parL true p),.agg (keyV true f L0 n A B)] (.val (.bool (kT p n f L0 A B))):=by
 have:=gaturning_den p hp f _ _ (h.fitL A) (h.fitL B)
 rw [Bool.and_comm] at this
 exact this
theorem Ky.turn19 (h:Ky p n L0 f A B) (hp:PFit p):Den Tryz.prog 66 [.agg (parL true p),.agg (keyV true f L0 n A B)] (.val (.bool (kT p n f L0 A B))):=r19turning_den p hp f _ _ (h.fitL A) (h.fitL B)
theorem Ky.k (h:Ky p n L0 f A B) (ht:kT p n f L0 A B=true):∃ k:Nat, -f=(k:Int)∧1≤k∧k<2*n∧k % 2=1:=by
 have hK:=h.v ht
 have hf:=hK.from_
 have hn:=hK.lv.n
 unfold kT at ht
 simp only [Bool.and_eq_true,decide_eq_true_eq] at ht
 have h0:=ht.2
 unfold fromB at hf
 simp only [Bool.or_eq_true,Bool.and_eq_true,decide_eq_true_eq] at hf
 obtain ⟨k,hk⟩:=Int.eq_ofNat_of_zero_le (show 0 ≤ -f by omega)
 refine ⟨k,hk,?_,?_,?_⟩<;>omega
end
noncomputable def tuR (p:PD) (lv n ex L0 k:Nat) (A B G:Nat→Nat→Nat→Nat) (i:Nat):Nat→Nat→Nat:=
 if i=0 then addV p lv (autV p lv n k (G 0)) (downV p lv (invV (resI ((p.prime ^ ex:Nat):Int) p.special) p.special) p.special (p.prime ^ ex) (innV p lv n (fun j=>autV p lv n k (dgV p lv (G 1) j)) (fun j=>resV L0 lv (A j)) lv))
 else downV p lv (invV (resI ((p.prime ^ ex:Nat):Int) p.special) p.special) p.special (p.prime ^ ex) (innV p lv n (fun j=>autV p lv n k (dgV p lv (G 1) j)) (fun j=>resV L0 lv (B j)) lv)
theorem first_false (T:Nat→Bool) (m:Nat):(∀ i,i<m→T i=true)∨∃ j,j<m∧T j=false∧∀ i,i<j→T i=true:=by
 induction m with
 | zero=>exact .inl fun i h=>by omega
 | succ m ih=>
  rcases ih with h | ⟨j,h1,h2,h3⟩
  ·cases q:T m with
   | true=>
    refine .inl fun i hi=>?_
    rcases Nat.lt_or_ge i m with q2 | q2
    ·exact h i q2
    ·obtain rfl:i=m:=by omega
     exact q
   | false=>exact .inr ⟨m,by omega,q,h⟩
  ·exact .inr ⟨j,by omega,h2,h3⟩
section
variable (p:PD) (n lv ex m:Nat) (hC:Cv p n lv ex) (F:Nat→Int) (Ls:Nat→Nat) (KA KB:Nat→Nat→Nat→Nat→Nat) (G:Nat→Nat→Nat→Nat) (hG:Vc p lv G)
include hC hG
theorem r19Apply_kv (L0:Nat) (f:Int) (A B:Nat→Nat→Nat→Nat) (hK:Ky p n L0 f A B) (hT:kT p n f L0 A B=true) (k:Nat) (hk : -f=(k:Int)) (hk1:1≤k) (hk2:k<2*n) (hk3:k % 2=1) :
  Den Tryz.prog 23 [.agg (parL true p),.agg (keyV true f L0 n A B),.agg (ciV true lv ex 2 n G)] (.tup [.agg (ciV false lv ex 2 n (tuR p lv n ex L0 k A B G)),.val (.int .i64 0)]):=by
 have hL:=hC.lv
 have hKv:=hK.v hT
 have ht:=hK.turn19 hC.fit
 rw [hT] at ht
 have hau:=vg_aut hL k (hG 1)
 have hD:∀ j,Vg p lv (dgV p lv (autV p lv n k (G 1)) j):=fun j k i=>resI_lt (hL.q0 k)
 have hE:(fun j=>autV p lv n k (dgV p lv (G 1) j))=dgV p lv (autV p lv n k (G 1)):=funext fun j=>funext fun r=>funext fun e=>dg_aut hL (hG 1) k j r e
 have hR0:addV p lv (autV p lv n k (G 0)) (downV p lv (invV (resI ((p.prime ^ ex:Nat):Int) p.special) p.special) p.special (p.prime ^ ex) (innV p lv n (dgV p lv (autV p lv n k (G 1))) (fun j=>resV L0 lv (A j)) lv))=tuR p lv n ex L0 k A B G 0:=by
  rw [← hE];rfl
 have hR1:tuR p lv n ex L0 k A B G 1=downV p lv (invV (resI ((p.prime ^ ex:Nat):Int) p.special) p.special) p.special (p.prime ^ ex) (innV p lv n (dgV p lv (autV p lv n k (G 1))) (fun j=>resV L0 lv (B j)) lv):=by
  rw [← hE];rfl
 have d2:=r18Digits_ok p n lv hC.fit hC.st.1 hL (autV p lv n k (G 1)) hau
 have s2:=r18ApplyDigits_ok p n L0 f A B hKv lv ex hC _ hD _ rfl
 rw [← hR1] at s2
 have a2:=r18Apply_of (A:=lgV L0 L0 true (L0+1) n A) (B:=lgV L0 L0 true (L0+1) n B) (e:=⟨lv,false,lv,fun _=>n,autV p lv n k (G 1)⟩) d2 s2
 exact r19Apply_ok p n lv ex L0 hC f k A B G hk hk1 hk2 hk3 ht hG _ (vg_dwn hL _ _ _ _) _ hR0 a2
theorem gaSeveral_kv (kk:Nat→Nat) (hm:m≤2*n) (hKy:∀ i,i<m→Ky p n (Ls i) (F i) (KA i) (KB i)) (hT:∀ i,i<m→kT p n (F i) (Ls i) (KA i) (KB i)=true) (hkk:∀ i,i<m → -(F i)=(kk i:Int)∧1≤kk i∧kk i<2*n∧kk i % 2=1) :
  Den Tryz.prog 24 [.agg (parL true p),keysL true m n F Ls KA KB,.agg (ciV true lv ex 2 n G)] (.tup [.fz false m 3 (fun i=>ciV false lv ex 2 n (tuR p lv n ex (Ls i) (kk i) (KA i) (KB i) G)),.val (.int .i64 0)]):=by
 have hL:=hC.lv
 have htw:Den Tryz.prog 68 [.agg (parL true p),.agg (ciV true lv ex 2 n G)] (.val (.bool true)):=gatwoV_den p n lv ex hC G hG
 refine gaSeveral_ok p n lv ex m hC hm F Ls kk KA KB G (fun i hi=>(hkk i hi).1) (fun i hi=>(hkk i hi).2.1) (fun i hi=>(hkk i hi).2.2.1) (fun i hi=>(hkk i hi).2.2.2) (fun i hi=>?_) htw hG (fun i j=>autV p lv n (kk i) (dgV p lv (G 1) j)) (fun i j _=>rfl) (fun i=>downV p lv (invV (resI ((p.prime ^ ex:Nat):Int) p.special) p.special) p.special (p.prime ^ ex) (innV p lv n (fun j=>autV p lv n (kk i) (dgV p lv (G 1) j)) (fun j=>resV (Ls i) lv (KA i j)) lv)) (fun i hi=>vg_dwn hL _ _ _ _) _ (fun i hi=>rfl) (fun i hi=>?_)
 ·have:=(hKy i hi).turn hC.fit
  rw [hT i hi] at this
  exact this
 ·exact swApplyDigits_ok p n (Ls i) (F i) (KA i) (KB i) ((hKy i hi).v (hT i hi)) lv ex hC (fun j=>autV p lv n (kk i) (dgV p lv (G 1) j)) (fun j=>vg_aut hL (kk i) (fun r e=>resI_lt (hL.q0 r))) _ rfl
end

def AlikeS (f g:FuncId) (ds:List D):Prop:=∃ (m l x n:Nat) (e:Int) (R:Nat→Nat→Nat→Nat→Nat),(m≤1000∧l≤1000∧n≤32)∧(e=0∨(m=0∧e=2))∧Den Tryz.prog f ds (.tup [.fz false m 3 (fun i=>ciV false l x 2 n (R i)),.val (.int .i64 e)])∧Den Tryz.prog g ds (.tup [.fz false m 3 (fun i=>ciV false l x 2 n (R i)),.val (.int .i64 e)])
theorem AlikeS.zero {f g:FuncId} {ds:List D} (h1:Den Tryz.prog f ds (.tup [.val (.slice none 0 0),.val (.int .i64 2)])) (h2:Den Tryz.prog g ds (.tup [.val (.slice none 0 0),.val (.int .i64 2)])):AlikeS f g ds:=
 ⟨0,0,0,0,2,fun _ _ _ _=>0,by omega,.inr ⟨rfl,rfl⟩,h1.res (Cvt.tup (.cons (Cvt.nil _ _ _) (.cons (.of_eq rfl) .nil))),h2.res (Cvt.tup (.cons (Cvt.nil _ _ _) (.cons (.of_eq rfl) .nil)))⟩
theorem twoC_of {p:PD} (hp:PFit p) {n:Nat} (hn:Good p.par→p.n=(n:Int)) {c:CG} (hd:Dflt c) (h:(decide (c.k=2) && ciOk p c)=true):∃ lv ex:Nat,Cv p n lv ex∧Vc p lv (partG c)∧Cvt (.agg (ciD true c)) (.agg (ciV true lv ex 2 n (partG c))):=by
 simp only [Bool.and_eq_true,decide_eq_true_eq] at h
 obtain ⟨q2,q1⟩:=h
 have hst:=ciOk_st q1
 obtain ⟨lv,hlv⟩:=Int.eq_ofNat_of_zero_le (show 0≤c.lv by have:=hst.l1;omega)
 obtain ⟨ex,hex⟩:=Int.eq_ofNat_of_zero_le (show 0≤c.ex by have:=hst.e1;omega)
 rw [hlv,hex] at hst
 have hn':=hn hst.1
 have hC:Cv p n lv ex:=⟨hp,hst,hn'⟩
 exact ⟨lv,ex,hC,ci_vc hd hn' hlv hC.lv q1,Cvt.agg (.cons (.of_eq (by rw [hlv])) (.cons (.of_eq (by rw [hex])) (.cons (ci_cvt hn' hlv q2 q1) .nil)))⟩
section
variable (p:PD) (hp:PFit p) (n:Nat) (hn:Good p.par→p.n=(n:Int)) (c:CG) (hd:Dflt c) (hs:smallC c=true)
include hp hn hd hs
theorem alike_several (m:Nat) (hm:m≤1000) (F:Nat→Int) (Ls:Nat→Nat) (KA KB:Nat→Nat→Nat→Nat→Nat) (hKy:∀ i,i<m→Ky p n (Ls i) (F i) (KA i) (KB i)):AlikeS 24 25 [.agg (parL true p),keysL true m n F Ls KA KB,.agg (ciD true c)]:=by
 obtain ⟨s1,s2,s3⟩:=hd.small hs
 have htw:=gatwo_den p hp c s1 s2 s3
 cases q:(decide (c.k=2) && ciOk p c) with
 | false=>
  rw [q] at htw
  exact .zero (gaSeveral_no1 p n m hm F Ls KA KB c false htw (fun h=>by cases h) (fun h=>by cases h)) (r19Several_no1 p hp n m hm F Ls KA KB c s1 s2 s3 (fun h=>by rw [q] at h;cases h))
 | true=>
  rw [q] at htw
  obtain ⟨lv,ex,hC,hG,hcc⟩:=twoC_of hp hn hd q
  have hL:=hC.lv
  have h32:=hL.n32
  have l2:=hL.l2
  have l24:=hL.vp.len2
  have hN:NatIs p.n n:=hL.n
  rcases Nat.lt_or_ge (2*n) m with q2 | q2
  ·exact .zero (gaSeveral_no1 p n m hm F Ls KA KB c true htw (fun _=>⟨hN,h32⟩) (fun _=>q2)) (r19Several_no1 p hp n m hm F Ls KA KB c s1 s2 s3 (fun _=>⟨hN,h32,q2⟩))
  ·have hcl:∀ (L:List D),CvtL (L++[.agg (ciD true c)]) (L++[.agg (ciV true lv ex 2 n (partG c))]):=fun L=>by
    induction L with
    | nil=>exact .cons hcc .nil
    | cons d L ih=>exact .cons (.of_eq rfl) ih
   have key:∀ j,j<m→kT p n (F j) (Ls j) (KA j) (KB j)=true→∃ k:Nat,(-(F j)=(k:Int)∧1≤k∧k<2*n∧k % 2=1)∧Den Tryz.prog 23 [.agg (parL true p),.agg (keyV true (F j) (Ls j) n (KA j) (KB j)),.agg (ciV true lv ex 2 n (partG c))] (.tup [.agg (ciV false lv ex 2 n (tuR p lv n ex (Ls j) k (KA j) (KB j) (partG c))),.val (.int .i64 0)]):=fun j hj ht=>by
    obtain ⟨k,hk⟩:=(hKy j hj).k ht
    exact ⟨k,hk,r19Apply_kv p n lv ex hC (partG c) hG (Ls j) (F j) (KA j) (KB j) (hKy j hj) ht k hk.1 hk.2.1 hk.2.2.1 hk.2.2.2⟩
   have kof:∃ kk:Nat→Nat,∀ j,j<m→kT p n (F j) (Ls j) (KA j) (KB j)=true→(-(F j)=(kk j:Int)∧1≤kk j∧kk j<2*n∧kk j % 2=1)∧Den Tryz.prog 23 [.agg (parL true p),.agg (keyV true (F j) (Ls j) n (KA j) (KB j)),.agg (ciV true lv ex 2 n (partG c))] (.tup [.agg (ciV false lv ex 2 n (tuR p lv n ex (Ls j) (kk j) (KA j) (KB j) (partG c))),.val (.int .i64 0)]):=by
    refine ⟨fun j=>(-(F j)).toNat,fun j hj ht=>?_⟩
    obtain ⟨k,hk,h2⟩:=key j hj ht
    have:(-(F j)).toNat=k:=by omega
    simp only [this]
    exact ⟨hk,h2⟩
   obtain ⟨kk,hkk⟩:=kof
   rcases first_false (fun i=>kT p n (F i) (Ls i) (KA i) (KB i)) m with hT | ⟨j,hj,hj0,hj1⟩
   ·have g1:=gaSeveral_kv p n lv ex m hC F Ls KA KB (partG c) hG kk q2 hKy hT (fun i hi=>(hkk i hi (hT i hi)).1)
    have g2:=r19Several_ok p n lv ex m hC q2 F Ls KA KB (partG c) hG (fun i=>tuR p lv n ex (Ls i) (kk i) (KA i) (KB i) (partG c)) (fun i hi=>(hkk i hi (hT i hi)).2)
    exact ⟨m,lv,ex,n,0,_,by omega,.inl rfl,g1.arg (hcl [_,_]),g2.arg (hcl [_,_])⟩
   ·have a1:=gaSeveral_no2 p n m hm F Ls KA KB c htw hN h32 (fun i=>kT p n (F i) (Ls i) (KA i) (KB i)) (fun i hi=>(hKy i hi).turn hp) j hj hj0 hj1 q2
    have q1:=q
    simp only [Bool.and_eq_true,decide_eq_true_eq] at q1
    have t0:=(hKy j hj).turn19 hp
    have hno:=r19Apply_no p hp (F j) (Ls j) n (KA j) (KB j) c s1 s2 s3 _ t0 (by rw [show kT p n (F j) (Ls j) (KA j) (KB j)=false from hj0];rfl)
    exact .zero a1 (r19Several_no2 p hp n m hm F Ls KA KB c s1 s2 s3 q1.1 q1.2 hN h32 q2 j hj lv ex _ (fun i hi=>(hkk i (by omega) (hj1 i hi)).2.arg (hcl [_,_])) hno)
theorem alike_turn (f:Int) (L0:Nat) (A B:Nat→Nat→Nat→Nat) (hK:Ky p n L0 f A B):AlikeC 22 23 [.agg (parL true p),.agg (keyV true f L0 n A B),.agg (ciD true c)]:=by
 obtain ⟨s1,s2,s3⟩:=hd.small hs
 have htw:=gatwo_den p hp c s1 s2 s3
 have t19:=hK.turn19 hp
 cases q:(decide (c.k=2) && ciOk p c) with
 | false=>
  rw [q] at htw
  exact .zero (gaApply_no p n (fun _=>f) (fun _=>L0) (fun _=>A) (fun _=>B) c (gaSeveral_no1 p n 1 (by omega) _ _ _ _ c false htw (fun h=>by cases h) (fun h=>by cases h))) (r19Apply_no p hp f L0 n A B c s1 s2 s3 _ t19 (by rw [q,Bool.and_false]))
 | true=>
  rw [q] at htw
  obtain ⟨lv,ex,hC,hG,hcc⟩:=twoC_of hp hn hd q
  have hL:=hC.lv
  have h32:=hL.n32
  have h4:=hL.n4
  have l2:=hL.l2
  have l24:=hL.vp.len2
  have hN:NatIs p.n n:=hL.n
  have hcl:∀ (L:List D),CvtL (L++[.agg (ciD true c)]) (L++[.agg (ciV true lv ex 2 n (partG c))]):=fun L=>by
   induction L with
   | nil=>exact .cons hcc .nil
   | cons d L ih=>exact .cons (.of_eq rfl) ih
  cases ht:kT p n f L0 A B with
  | false=>
   rw [ht] at t19
   have tu:=hK.turn hp
   rw [ht] at tu
   exact .zero (gaApply_no p n (fun _=>f) (fun _=>L0) (fun _=>A) (fun _=>B) c (gaSeveral_no2 p n 1 (by omega) _ _ _ _ c htw hN h32 (fun _=>false) (fun i hi=>tu) 0 (by omega) rfl (fun i hi=>by omega) (by omega))) (r19Apply_no p hp f L0 n A B c s1 s2 s3 _ t19 rfl)
  | true=>
   obtain ⟨k,hk⟩:=hK.k ht
   have g2:=r19Apply_kv p n lv ex hC (partG c) hG L0 f A B hK ht k hk.1 hk.2.1 hk.2.2.1 hk.2.2.2
   have g1:=gaSeveral_kv p n lv ex 1 hC (fun _=>f) (fun _=>L0) (fun _=>A) (fun _=>B) (partG c) hG (fun _=>k) (by omega) (fun _ _=>hK) (fun _ _=>ht) (fun _ _=>hk)
   have g3:=gaApply_ok p n (fun _=>f) (fun _=>L0) (fun _=>A) (fun _=>B) c lv ex 2 n _ (g1.arg (hcl [_,_]))
   exact ⟨lv,ex,2,n,0,_,by omega,g3,g2.arg (hcl [_,_])⟩
end

theorem ky_zero (p:PD) (n:Nat) (h:n≤32) (A B:Nat→Nat→Nat→Nat):Ky p n 0 0 A B:=⟨by omega,h,fun ht=>by
 unfold kT at ht
 rw [Bool.and_eq_true,decide_eq_true_eq] at ht
 exact absurd ht.2 (by omega)⟩
theorem zeroK_cv (n:Nat) (e:Int) (A B:Nat→Nat→Nat→Nat):Cvt (.tup [.agg zeroK,.val (.int .i64 e)]) (.tup [.agg (keyV false 0 0 n A B),.val (.int .i64 e)]):=
 Cvt.tup (.cons (Cvt.agg (.cons (.of_eq rfl) (.cons (Cvt.nil _ _ _) (.cons (Cvt.nil _ _ _) .nil)))) (.cons (.of_eq rfl) .nil))
theorem newKey_any (s:ByteArray) (hs:s.size≤1048576) (p:PD) (hp:PFit p) (n:Nat) (hn32:n≤32) (hn:Good p.par→p.n=(n:Int)) (m:Nat) (hm:m≤1000000) (x:Nat→Int) (hx:∀ j, -128≤x j∧x j≤127) (hx0:∀ j,m≤j→x j=0) (f:Int) :
  ∃ (L0:Nat) (f' e:Int) (A B:Nat→Nat→Nat→Nat) (c:Nat),Ky p n L0 f' A B∧DenH Tryz.prog 30 [.agg (parL true p),.agg (scL true m x),.val (.int .i64 f),.eptr 0 0 0 0] [(0,.lit 117 (rfD s 0))] (.tup [.agg (keyV false f' L0 n A B),.val (.int .i64 e)]) [(0,.lit 117 (rfD s c))] []:=by
 cases q:(scB p m x && fromB p f) with
 | false=>exact ⟨0,0,2,fun _ _ _=>0,fun _ _ _=>0,0,ky_zero p n hn32 _ _,(r18NewKey_bad s 0 p hp m x hm hx f q).res (zeroK_cv n 2 _ _)⟩
 | true=>
  simp only [Bool.and_eq_true] at q
  obtain ⟨q1,q2⟩:=q
  have hg:=(sc_all q1).1
  have hn':=hn hg
  obtain rfl:m=n:=by
   have:=(sc_all q1).2.1
   omega
  have hS:Sv p m p.chain.length x f:=⟨hp,q1,q2,hn',rfl,fun j=>by
   rcases Nat.lt_or_ge j m with q3 | q3
   ·have:=(sc_all q1).2.2 j q3
    omega
   ·rw [hx0 j q3];omega⟩
  have hL:=hS.lv
  rcases first_false (fun k=> !dBad s p m p.chain.length k) (p.chain.length*(p.chain.length+2)) with h | ⟨k,h1,h2,h3⟩
  ·have hok:=r18NewKey_ok s hs p m p.chain.length x f hS (fun k hk=>by simpa using h k hk)
   exact ⟨p.chain.length,f,0,_,_,_,⟨by have:=hL.vp.len2;omega,hn32,fun _=>⟨hp,hg,hL,rfl,q2,fun i=>vg_nkB hL _ _ _ i,fun i=>vg_nkA hL i⟩⟩,hok⟩
  ·have hno:=r18NewKey_no s hs p m p.chain.length x f hS k h1 (fun i hi=>by simpa using h3 i hi) (by simpa using h2)
   exact ⟨0,0,4,fun _ _ _=>0,fun _ _ _=>0,_,ky_zero p m hn32 _ _,hno.res (zeroK_cv m 4 _ _)⟩

instance fi62:FI Tryz.prog 62 Tryz.f62:=⟨Tryz.func62,Tryz.call62⟩
theorem pick_den (z m:Int) (h0:0<m) (hm:m≤9223372036854775807) (hz1 : -9223372036854775808≤z) (hz2:z≤9223372036854775807):Den Tryz.prog 62 [.val (.int .i64 z),.val (.int .i64 m)] (.val (.int .i64 (z % m))):=by
 refine den_intro (fn:=Tryz.f62) rfl rfl rfl rfl rfl ?_
 have a1:z.tmod m<m:=Int.tmod_lt_of_pos _ h0
 have a2 : -m<z.tmod m:=by have:=Int.tmod_lt_of_pos (-z) h0;rw [Int.neg_tmod] at this;omega
 have a3:z % m=if z.tmod m<0 then z.tmod m+m else z.tmod m:=by
  have e1:=Int.mul_tdiv_add_tmod z m
  have e2:=Int.emod_nonneg z (show m≠0 by omega)
  have e3:=Int.emod_lt_of_pos z h0
  split
  ·have:z % m=(z.tmod m+m) % m:=by
    rw [Int.add_emod_right]
    conv=>lhs;rw [← e1]
    rw [Int.add_comm,Int.add_mul_emod_self_left]
   rw [this,Int.emod_eq_of_lt (by omega) (by omega)]
  ·have:z % m=(z.tmod m) % m:=by
    conv=>lhs;rw [← e1]
    rw [Int.add_comm,Int.add_mul_emod_self_left]
   rw [this,Int.emod_eq_of_lt (by omega) (by omega)]
 rw [a3]
 refine go ?_
 refine c_if (fun h=>?_) (fun h=>?_)
 ·rw [if_pos h]
  refine go ?_
  refine fin ?_
  exact cv
 ·rw [if_neg h]
  refine go ?_
  refine fin ?_
  exact cv

instance fi26:FI Tryz.prog 26 Tryz.f26:=⟨Tryz.func26,Tryz.call26⟩
theorem law19Same_den (m l x n:Nat) (R:Nat→Nat→Nat→Nat→Nat) (hm:m≤1000) (hl:l≤1000) (hn:n≤32):Den Tryz.prog 26 [.fz true m 3 (fun i=>ciV true l x 2 n (R i)),.fz true m 3 (fun i=>ciV true l x 2 n (R i))] (.val (.bool true)):=by
 refine den_intro (fn:=Tryz.f26) rfl rfl rfl rfl rfl ?_
 refine go ?_
 refine c_up m (fun j=>[(5,.val (.int .i64 (j:Nat)))]) (fun j=>[]) (fun j hj=>?_)
 refine go ?_
 refine c_if (fun h6=>?_) (fun h6=>?_)
 ·refine go ?_
  refine r_call (r14SameV_den l x 2 n hl (by omega) hn (R j) (R j) (fun _ _ _ _ _ _=>rfl)) ?_
  refine go ?_
  refine c_no ?_
  refine go ?_
  refine ⟨h6,?_⟩
  exact sub
 ·refine go ?_
  refine fin ?_
  exact cv
end Go.Proofs.YtmjildbdkecolaaGreat
