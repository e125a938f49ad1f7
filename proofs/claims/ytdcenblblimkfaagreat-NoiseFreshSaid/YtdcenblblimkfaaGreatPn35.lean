/- The law NoiseTo. (Printed by mkl15.py.)
The law NoiseLevels. (Printed by mkl15.py.)
Valid ciphertexts among any: by data. No walk.
Arguments as the rows lay them, by data.
Three ciphertexts, and numbers, as the rows lay them, by data.
Wide integers, pairs of numbers and changes, as the rows lay them, by data.
The law NoiseFloors. (Printed by mkl15.py.)
The law NoiseGrows: one bound. (Printed by mkl15.py.)
The law NoiseGrows. (Printed by mkl15.py.) -/
import Derived.Test.YtdcenblblimkfaaGreatPn34
import Derived.Test.YtdcenblblimkfaaGreatPn33
import Derived.Test.YtdcenblblimkfaaGreatPn22
import Derived.Test.YtdcenblblimkfaaGreatPn31
import Derived.Test.YtdcenblblimkfaaGreatPn15
set_option linter.unusedSimpArgs false
set_option linter.unusedVariables false
set_option linter.unnecessarySimpa false
set_option linter.unusedSectionVars false
namespace Go.Proofs.YtdcenblblimkfaaGreat
open Go.RowKit
instance ti44:TI Tryz.prog 44 Tryz.t44 Tryz.t43.desc:=⟨by kernel_rfl,by kernel_rfl⟩
instance ti45:TI Tryz.prog 45 Tryz.t45 (.array 2 3):=⟨by kernel_rfl,by kernel_rfl⟩
instance ft44_0:FT Tryz.prog 44 0 0:=FT.of ti44 rfl ti3 rfl rfl
instance ft44_1:FT Tryz.prog 44 1 1:=FT.of ti44 rfl ti3 rfl rfl
instance ft44_2:FT Tryz.prog 44 2 2:=FT.of ti44 rfl ti2 rfl rfl
instance sz45:SZ Tryz.prog 45 2:=SZ.of ti45 rfl
instance zr45:ZR Tryz.prog 45 [.int .i64 0,.int .i64 0]:=ZR.of ti45 rfl rfl rfl
instance ar45:AR Tryz.prog 45 2 1:=AR.of ti45 ti3 rfl
instance fi4:FI Tryz.prog 4 Tryz.f4:=⟨Tryz.func4,Tryz.call4⟩
set_option maxRecDepth 20000
set_option maxHeartbeats 8000000
theorem noiseTo_den (p:PD) (hp:PFit p) (na:Bool) (sa:ByteArray) (lv ex n:Int):Den Tryz.prog 4 [.agg (parL true p),wS na sa,.agg [.val (.int .i64 lv),.val (.int .i64 ex),.val (.int .i64 n)]] (.val (.bool true)):=by
 obtain ⟨b,s,e,h1,h2⟩:=alk_to p hp na sa lv ex n
 have hw:=awake15_den
 refine den_intro (fn:=Tryz.f4) rfl rfl rfl rfl rfl ?_
 refine go ?_
 refine r_bldA ?_
 refine go ?_
 refine c_if (fun hc=>?_) (fun hc=>?_)
 ·refine go ?_
  refine r_call hw ?_
  refine go ?_
  refine fin ?_
  exact cv
 ·refine go ?_
  refine r_call h1 ?_
  refine go ?_
  refine r_call h2 ?_
  refine gor ?_
  refine goc ?_
  refine c_reg ?_
  refine go1 ?_
  refine go1 ?_
  refine r_binW (bw_same _ _) ?_
  refine go1 ?_
  refine g_Y ?_
  refine go1 ?_
  refine g_Y ?_
  refine go1 ?_
  refine g_Y ?_
  refine r_binI (bi_same _ _) ?_
  refine go1 ?_
  refine r_eqH (.val (.bool true)) rfl ?_
  refine go1 ?_
  refine g_Y ?_
  refine r_call hw ?_
  refine go1 ?_
  refine go1 ?_
  refine go ?_
  refine fin ?_
  exact cv

instance fi7:FI Tryz.prog 7 Tryz.f7:=⟨Tryz.func7,Tryz.call7⟩
theorem noiseLevels_den (p:PD) (hp:PFit p) (na:Bool) (sa:ByteArray) (lv ex:Int):Den Tryz.prog 7 [.agg (parL true p),wS na sa,.agg [.val (.int .i64 lv),.val (.int .i64 ex)]] (.val (.bool true)):=by
 obtain ⟨b1,s1,e1,h1,h2⟩:=alk_extra p hp lv ex
 obtain ⟨b2,s2,e2,h3,h4⟩:=alk_down p hp na sa lv ex
 obtain ⟨c,e3,h5,h6⟩:=alk_fits p hp na sa lv
 have hw:=awake15_den
 refine den_intro (fn:=Tryz.f7) rfl rfl rfl rfl rfl ?_
 refine go ?_
 refine c_if (fun hc=>?_) (fun hc=>?_)
 ·refine go ?_
  refine r_call hw ?_
  refine go ?_
  refine fin ?_
  exact cv
 ·refine go ?_
  refine r_call h1 ?_
  refine go ?_
  refine r_call h2 ?_
  refine gor ?_
  refine goc ?_
  refine c_reg ?_
  refine go1 ?_
  refine go1 ?_
  refine r_binW (bw_nsame _ _) ?_
  refine go1 ?_
  refine g_Y ?_
  refine go1 ?_
  refine g_Y ?_
  refine go1 ?_
  refine g_Y ?_
  refine r_binI (bi_nsame _ _) ?_
  refine go1 ?_
  refine r_eqH (.val (.bool false)) rfl ?_
  refine go ?_
  refine r_call h3 ?_
  refine go ?_
  refine r_call h4 ?_
  refine go ?_
  refine r_call h5 ?_
  refine go ?_
  refine r_call h6 ?_
  refine gor ?_
  refine goc ?_
  refine c_reg ?_
  refine go1 ?_
  refine go1 ?_
  refine r_binW (bw_same _ _) ?_
  refine go1 ?_
  refine g_Y ?_
  refine go1 ?_
  refine g_Y ?_
  refine go1 ?_
  refine g_Y ?_
  refine r_binI (bi_same _ _) ?_
  refine go1 ?_
  refine r_eqH (.val (.bool true)) rfl ?_
  refine go1 ?_
  refine g_Y ?_
  refine go1 ?_
  refine g_Y ?_
  refine go1 ?_
  refine g_Y ?_
  refine r_binI (bb_same _) ?_
  refine go1 ?_
  refine r_eqH (.val (.bool true)) rfl ?_
  refine go1 ?_
  refine g_Y ?_
  refine go1 ?_
  refine g_Y ?_
  refine go1 ?_
  refine g_Y ?_
  refine r_binI (bi_same _ _) ?_
  refine go1 ?_
  refine r_eqH (.val (.bool true)) rfl ?_
  refine go1 ?_
  refine g_Y ?_
  refine r_call hw ?_
  refine go1 ?_
  refine go1 ?_
  refine go ?_
  refine fin ?_
  exact cv

section
variable {p:PD} {n lv:Nat}
end
noncomputable abbrev oneD (n:Nat) (c:Int):D:=.fz true n Tryz.t2.size (setE (fun _=>valL (Value.int .i64 0).cells.toList) (Int.toNat 0) 0 (D.val (.int .i64 c)).cellL)
noncomputable abbrev twoD (n:Nat) (c d:Int):D:=.fz true n Tryz.t2.size (setE (setE (fun _=>valL (Value.int .i64 0).cells.toList) (Int.toNat 0) 0 (D.val (.int .i64 c)).cellL) (Int.toNat 0) 0 (D.val (.int .i64 d)).cellL)
theorem one_f (c:Int):setE (fun _=>valL (Value.int .i64 0).cells.toList) (Int.toNat 0) 0 (D.val (.int .i64 c)).cellL=fun j=>[.val (.int .i64 (constX c j))]:=by
 funext e
 unfold setE constX
 by_cases q:e=0
 ·subst q;rfl
 ·rw [if_neg (show ¬ e=Int.toNat 0 from q),if_neg q];rfl
theorem two_f (c d:Int):setE (setE (fun _=>valL (Value.int .i64 0).cells.toList) (Int.toNat 0) 0 (D.val (.int .i64 c)).cellL) (Int.toNat 0) 0 (D.val (.int .i64 d)).cellL=fun j=>[.val (.int .i64 (constX d j))]:=by
 rw [one_f]
 funext e
 unfold setE constX
 by_cases q:e=0
 ·subst q;rfl
 ·rw [if_neg (show ¬ e=Int.toNat 0 from q)]
  show [D.val (.int .i64 (if e=0 then c else 0))]=[D.val (.int .i64 (if e=0 then d else 0))]
  rw [if_neg q,if_neg q]
theorem one_eq (n:Nat) (c:Int):oneD n c=intsD true n (constX c):=by unfold oneD;rw [one_f];rfl
theorem two_eq (n:Nat) (c d:Int):twoD n c d=intsD true n (constX d):=by unfold twoD;rw [two_f];rfl
instance (n:Nat) (c:Int):OldD (oneD n c):=by rw [one_eq];infer_instance
instance (n:Nat) (c d:Int):OldD (twoD n c d):=by rw [two_eq];infer_instance

open Go.ChangeShapes Go.WideShapes Go.ChangeAt Go.RowKit Go.Deep Go.Joins

section
variable {H:Type} {enc:TypeId × Value→H} {w:World} {base:Nat} {spare:Nat→Bool} {held:Bool} {fuel:Nat} {x:DataW H × List MemPlace} {v:Value}
end
def Zw (w:World):Zn:=fun o b=>o=true∧b<w.heap.size
theorem cell_lt {w:World} {b o:Nat} {u:Value} (h:w.cell? ⟨b,o,none⟩=some u):b<w.heap.size:=by
 unfold World.cell? at h
 by_cases q:b<w.heap.size
 ·exact q
 ·rw [Array.getElem?_eq_none (by show w.heap.size≤b;omega)] at h;cases h
section
variable {H:Type} {enc:TypeId × Value→H} {w:World} {base:Nat} {spare:Nat→Bool} {held:Bool} {fuel:Nat} {x:DataW H × List MemPlace} {v:Value}
end
theorem par_rep {w:World} {q:Par} {ca:Option Addr} {cc:Nat} (h:ParIn w q ca cc):∃ p:PD,PFit p∧Rep (Zw w) w noN (.agg (q.cells ca cc)) (.agg (parL true p)):=by
 refine ⟨⟨q.n,q.prime,q.power,q.chain,q.special,q.weight,q.err⟩,⟨h.n1,h.n2,h.prime,h.power1,h.power2,h.chain,h.special,h.weight1,h.weight2,h.err⟩,?_⟩
 refine .agg _ [_,_,_,_,_,_,_] _ rfl (fun j hj=>?_) (fun j hj=>?_)
 ·match j,hj with
  | 0,_ | 1,_ | 2,_ | 3,_ | 4,_ | 5,_ | 6,_=>rfl
 ·match j,hj with
  | 0,_ | 1,_ | 2,_ | 4,_ | 5,_ | 6,_=>exact .val _ _
  | 3,_=>
   refine .fz _ _ ca _ cc 1 _ (fun j _=>.int .u32 ((q.chain.getD j 0:Nat):Int)) h.room h.room2 (fun _ _=>rfl) (fun e c he hc=>?_) (fun e c he hc=>?_)
   ·obtain ⟨b,o,e1,e2⟩:=h.rd e he
    obtain rfl:c=0:=by omega
    refine ⟨b,o,e1,⟨rfl,cell_lt (e2 e he)⟩,?_,rfl⟩
    rw [Nat.mul_one,Nat.add_zero];exact e2 e he
   ·obtain rfl:c=0:=by omega
    exact .val _ _
theorem Den.row {P:Program} {f:FuncId} {ds:List D} {u:Value} (h:Den P f ds (.val u)) {w:World} {args:List Value} (ha:RepsI (Zw w) w noN args ds):Calls P f args.toArray w fun e w'=>e = .returned u∧Below w.heap.size w w':=
 (h (fun b=>b<w.heap.size) w noN args (fun b hb=>hb) (fun _ _=>rfl) ⟨fun k B hm=>by simp at hm,fun k k' B B' b hm=>by simp at hm⟩ ha).mono (fun e w' ⟨v,i',Zn',p0,p1,_,_,_,_,_,_,p7⟩=>⟨by rw [p0,p7.valEq],⟨p1.os,p1.tape,p1.output,p1.size,fun b hb=>p1.block b hb (fun ⟨k,c,hk,_⟩=>by simp [Hs.keys] at hk)⟩⟩)


theorem okWide_array {P:Program} {w:World} {r:Reach} {base n:Nat} {e t:TypeId} {v:Value} (ht:P.underlying t=some (.array n e)) (h:Value.okWide P w r base t v):∃ cs,v = .agg cs∧cs.size=P.cellsOf t:=by
 simp only [Value.okWide,ht] at h
 obtain ⟨cs,h1,h2,_⟩:=h
 exact ⟨cs,h1,h2⟩
set_option maxRecDepth 100000
section
variable {H:Type} {enc:TypeId × Value→H} {w:World} {base:Nat} {spare:Nat→Bool} {held:Bool} {v:Value}
end

section
variable {H:Type} {enc:TypeId × Value→H} {w:World} {base:Nat} {spare:Nat→Bool} {held:Bool} {fuel:Nat} {x:DataW H × List MemPlace} {v:Value}
theorem wide_cells {cs:List Value} (h:DataW.trod enc Tryz.prog w base spare held fuel 42 cs=some x):∃ (b:Bool) (s:ByteArray),cs=[.bool b,.string s]:=by
 obtain ⟨xs,n,_,_,hl,hlen,hf⟩:=DataW.trod_struct Tryz.underlying42 h
 have hl3:cs.length=2:=hl.trans (by kernel_rfl)
 match cs,hl3 with
 | [c0,c1],_=>
  match xs,hlen with
  | [y0,y1],_=>
   have f0:=hf 0 _ rfl
   have f1:=hf 1 _ rfl
   have eb:Tryz.prog.cellsOf 4=1:=by kernel_rfl
   have es:Tryz.prog.cellsOf 9=1:=by kernel_rfl
   have g0:DataW.trod enc Tryz.prog w base spare held n 4 [c0]=some y0:=by simpa [eb] using f0
   have g1:DataW.trod enc Tryz.prog w base spare held n 9 [c1]=some y1:=by simpa [es] using f1
   obtain ⟨z0,e0,_⟩:=DataW.trod_bool Tryz.underlying4 g0
   obtain ⟨z1,e1,_⟩:=DataW.trod_string Tryz.underlying9 g1
   simp at e0 e1
   subst e0 e1
   exact ⟨z0,z1,rfl⟩
theorem rep_vals {Z:Zn} {i:Nm} (l:List Value) (ho:∀ u,u∈l→u.oneCell'=true):Rep Z w i (.agg l.toArray) (.agg (l.map D.val)):=by
 refine .agg _ l _ (by simp) (fun j hj=>?_) (fun j hj=>?_)
 ·rw [List.length_map] at hj
  rw [List.getD_eq_getElem?_getD,List.getElem?_eq_getElem hj]
  exact ho _ (List.getElem_mem hj)
 ·rw [List.length_map] at hj
  have e:dl (l.map D.val) j = .val (l.getD j undef):=by
   rw [dl_eq,List.getD_eq_getElem?_getD,List.getD_eq_getElem?_getD,List.getElem?_map,List.getElem?_eq_getElem hj];rfl
  rw [e]
  exact .val _ _
theorem wide_in {b0:Nat} {r:Reach} {d:DataW H} {p:List MemPlace} (hv:Value.okWide Tryz.prog w r b0 42 v) (h:DataW.Trod enc Tryz.prog w base spare held 42 v d p):∃ (b:Bool) (s:ByteArray),Rep (Zw w) w noN v (wS b s):=by
 obtain ⟨cs,rfl,hsz⟩:=okWide_struct Tryz.underlying42 hv
 obtain ⟨l⟩:=cs
 obtain ⟨fuel,hf0⟩:=h
 obtain ⟨b,s,e⟩:=wide_cells hf0
 simp [Value.cells] at e
 subst e
 exact ⟨b,s,rep_vals [_,_] (by simp [Value.oneCell'])⟩
theorem wides2_in {b0:Nat} {r:Reach} {d:DataW H} {p:List MemPlace} (hv:Value.okWide Tryz.prog w r b0 68 v) (h:DataW.Trod enc Tryz.prog w base spare held 68 v d p):∃ (b c:Bool) (s u:ByteArray),Rep (Zw w) w noN v (.agg [.val (.bool b),.val (.string s),.val (.bool c),.val (.string u)]):=by
 obtain ⟨cs,rfl,hsz⟩:=okWide_array Tryz.underlying68 hv
 obtain ⟨l⟩:=cs
 have hl9:l.length=4:=hsz.trans (by kernel_rfl)
 obtain ⟨fuel,hf0⟩:=h
 obtain ⟨xs,n,_,_,_,hlen,hf⟩:=DataW.trod_array Tryz.underlying68 hf0
 have ec:Tryz.prog.cellsOf 42=2:=by kernel_rfl
 match l,hl9 with
 | [a0,a1,a2,a3],_=>
  match xs,hlen with
  | [y0,y1],_=>
   have f0:=hf 0 (by omega)
   have f1:=hf 1 (by omega)
   rw [ec] at f0 f1
   obtain ⟨b,s,e⟩:=wide_cells (cs:=[a0,a1]) (by simpa [Value.cells] using f0)
   obtain ⟨c,u,e'⟩:=wide_cells (cs:=[a2,a3]) (by simpa [Value.cells] using f1)
   cases e
   cases e'
   exact ⟨b,c,s,u,rep_vals [_,_,_,_] (by simp [Value.oneCell'])⟩
theorem wides3_in {b0:Nat} {r:Reach} {d:DataW H} {p:List MemPlace} (hv:Value.okWide Tryz.prog w r b0 63 v) (h:DataW.Trod enc Tryz.prog w base spare held 63 v d p):∃ (b c g:Bool) (s u y:ByteArray),Rep (Zw w) w noN v (.agg [.val (.bool b),.val (.string s),.val (.bool c),.val (.string u),.val (.bool g),.val (.string y)]):=by
 obtain ⟨cs,rfl,hsz⟩:=okWide_array Tryz.underlying63 hv
 obtain ⟨l⟩:=cs
 have hl9:l.length=6:=hsz.trans (by kernel_rfl)
 obtain ⟨fuel,hf0⟩:=h
 obtain ⟨xs,n,_,_,_,hlen,hf⟩:=DataW.trod_array Tryz.underlying63 hf0
 have ec:Tryz.prog.cellsOf 42=2:=by kernel_rfl
 match l,hl9 with
 | [a0,a1,a2,a3,a4,a5],_=>
  match xs,hlen with
  | [y0,y1,y2],_=>
   have f0:=hf 0 (by omega)
   have f1:=hf 1 (by omega)
   have f2:=hf 2 (by omega)
   rw [ec] at f0 f1 f2
   obtain ⟨b,s,e⟩:=wide_cells (cs:=[a0,a1]) (by simpa [Value.cells] using f0)
   obtain ⟨c,u,e'⟩:=wide_cells (cs:=[a2,a3]) (by simpa [Value.cells] using f1)
   obtain ⟨g,y,e2⟩:=wide_cells (cs:=[a4,a5]) (by simpa [Value.cells] using f2)
   cases e
   cases e'
   cases e2
   exact ⟨b,c,g,s,u,y,rep_vals [_,_,_,_,_,_] (by simp [Value.oneCell'])⟩
abbrev inI (z:Int):Prop:= -9223372036854775808≤z∧z≤9223372036854775807
theorem ints2_in {b0:Nat} {r:Reach} {d:DataW H} {p:List MemPlace} (hv:Value.okWide Tryz.prog w r b0 45 v) (h:DataW.Trod enc Tryz.prog w base spare held 45 v d p):∃ y z:Int,inI y∧inI z∧Rep (Zw w) w noN v (.agg [.val (.int .i64 y),.val (.int .i64 z)]):=by
 obtain ⟨cs,rfl,hsz⟩:=okWide_array Tryz.underlying45 hv
 obtain ⟨l⟩:=cs
 have hl9:l.length=2:=hsz.trans (by kernel_rfl)
 obtain ⟨fuel,hf0⟩:=h
 obtain ⟨xs,n,_,_,_,hlen,hf⟩:=DataW.trod_array Tryz.underlying45 hf0
 have ec:Tryz.prog.cellsOf 3=1:=by kernel_rfl
 match l,hl9 with
 | [a0,a1],_=>
  match xs,hlen with
  | [y0,y1],_=>
   have f0:=hf 0 (by omega)
   have f1:=hf 1 (by omega)
   rw [ec] at f0 f1
   obtain ⟨z0,e0,_,w0⟩:=DataW.trod_int Tryz.underlying3 (cs:=[a0]) (by simpa [Value.cells] using f0)
   obtain ⟨z1,e1,_,w1⟩:=DataW.trod_int Tryz.underlying3 (cs:=[a1]) (by simpa [Value.cells] using f1)
   cases e0
   cases e1
   exact ⟨z0,z1,bounds_int w0,bounds_int w1,rep_vals [_,_] (by simp [Value.oneCell'])⟩
theorem change_in {b0:Nat} {r:Reach} {d:DataW H} {p:List MemPlace} (hv:Value.okWide Tryz.prog w r b0 44 v) (h:DataW.Trod enc Tryz.prog w base spare held 44 v d p):∃ y z u:Int,inI y∧inI z∧inI u∧Rep (Zw w) w noN v (.agg [.val (.int .i64 y),.val (.int .i64 z),.val (.int .i64 u)]):=by
 obtain ⟨cs,rfl,hsz⟩:=okWide_struct Tryz.underlying44 hv
 obtain ⟨l⟩:=cs
 have hl3:l.length=3:=hsz.trans (by kernel_rfl)
 match l,hl3 with
 | [c0,c1,c2],_=>
  obtain ⟨fuel,hf0⟩:=h
  obtain ⟨xs,n,_,_,_,hlen,hf⟩:=DataW.trod_struct Tryz.underlying44 hf0
  match xs,hlen with
  | [y0,y1,y2],_=>
   have f0:=hf 0 _ rfl
   have f1:=hf 1 _ rfl
   have f2:=hf 2 _ rfl
   have ei:Tryz.prog.cellsOf 3=1:=by kernel_rfl
   have el:Tryz.prog.cellsOf 2=1:=by kernel_rfl
   have g0:DataW.trod enc Tryz.prog w base spare held n 3 [c0]=some y0:=by simpa [ei,Value.cells] using f0
   have g1:DataW.trod enc Tryz.prog w base spare held n 3 [c1]=some y1:=by simpa [ei,Value.cells] using f1
   have g2:DataW.trod enc Tryz.prog w base spare held n 2 [c2]=some y2:=by simpa [el,Value.cells] using f2
   obtain ⟨z0,e0,_,w0⟩:=DataW.trod_int Tryz.underlying3 g0
   obtain ⟨z1,e1,_,w1⟩:=DataW.trod_int Tryz.underlying3 g1
   obtain ⟨z2,e2,_,w2⟩:=DataW.trod_int Tryz.underlying2 g2
   simp at e0 e1 e2
   subst e0 e1 e2
   exact ⟨z0,z1,z2,bounds_int w0,bounds_int w1,bounds_int w2,rep_vals [_,_,_] (by simp [Value.oneCell'])⟩
end

instance fi42:FI Tryz.prog 42 Tryz.f42:=⟨Tryz.func42,Tryz.call42⟩
instance fi30:FI Tryz.prog 30 Tryz.f30:=⟨Tryz.func30,Tryz.call30⟩
instance fi6:FI Tryz.prog 6 Tryz.f6:=⟨Tryz.func6,Tryz.call6⟩
set_option maxRecDepth 20000
theorem less_den (a b:Int) (ha:Fz a) (hb:Fz b) (v:Bool) (hv:decide (a≤b)=v):Den Tryz.prog 42 [zN a,zN b] (.val (.bool v)):=by
 have hc:=r2Cmp_den a b ha hb
 have e:decide (cmpZ a b≤0)=v:=by
  rw [← hv]
  unfold cmpZ
  by_cases h:a<b
  ·rw [if_pos h,decide_eq_true (by omega),decide_eq_true (by omega)]
  ·rw [if_neg h]
   by_cases h2:b<a
   ·rw [if_pos h2,decide_eq_false (by omega),decide_eq_false (by omega)]
   ·rw [if_neg h2,decide_eq_true (by omega),decide_eq_true (by omega)]
 generalize cmpZ a b=c at *
 rw [show v=(decide ((0:Int)=0) && decide (c≤0)) by rw [e];rfl]
 clear hv e
 refine den_intro (fn:=Tryz.f42) rfl rfl rfl rfl rfl ?_
 refine go ?_
 refine r_call hc ?_
 refine go ?_
 refine fin ?_
 exact cv
theorem floor_den (q a b:Int) (hq:Fz q) (ha:Fz a) (hb:Fz b) (hm:Fz (q*b)) (hs:Fz (q*b+b)) (hle:q*b≤a) (hlt:a<q*b+b):Den Tryz.prog 30 [zN q,zN a,zN b] (.val (.bool true)):=by
 have h1:=r2Mul_den q b hq hb
 rw [resZ_ok hm] at h1
 have h2:=r2Add_den (q*b) b hm hb
 rw [resZ_ok hs] at h2
 have h3:=less_den (q*b) a hm ha true (decide_eq_true hle)
 have h4:=less_den (q*b+b) a hs ha false (decide_eq_false (by omega))
 generalize q*b+b=y at *
 generalize q*b=x at *
 refine den_intro (fn:=Tryz.f30) rfl rfl rfl rfl rfl ?_
 refine go ?_
 refine r_call h1 ?_
 refine go ?_
 refine r_call h2 ?_
 refine gor ?_
 refine goc ?_
 refine c_reg ?_
 refine go1 ?_
 refine go1 ?_
 refine r_eqH (.val (.bool true)) rfl ?_
 refine go1 ?_
 refine g_Y ?_
 refine go1 ?_
 refine g_Y ?_
 refine go1 ?_
 refine r_eqH (.val (.bool true)) rfl ?_
 refine go1 ?_
 refine r_eqH (.val (.bool true)) rfl ?_
 refine go1 ?_
 refine g_Y ?_
 refine go1 ?_
 refine g_Y ?_
 refine go1 ?_
 refine g_Y ?_
 refine r_call h3 ?_
 refine go1 ?_
 refine r_eqH (.val (.bool true)) rfl ?_
 refine go1 ?_
 refine g_Y ?_
 refine go1 ?_
 refine g_Y ?_
 refine go1 ?_
 refine g_Y ?_
 refine r_call h4 ?_
 refine g_Y ?_
 refine go1 ?_
 refine r_eqH (.val (.bool true)) rfl ?_
 refine go1 ?_
 refine r_eqH (.val (.bool true)) rfl ?_
 refine go1 ?_
 refine go ?_
 refine fin ?_
 exact cv
theorem floor_q {a b:Int} {k m:Nat} (ha:Bb k a) (h0:0≤a) (hb:Bb m b) (hb0:0<b) (hk:k+m<250):Den Tryz.prog 30 [zN (a / b),zN a,zN b] (.val (.bool true)):=by
 have hq:=ha.div h0 (b:=b) (by omega)
 have hm:=hq.mul hb
 have e:=Int.mul_ediv_add_emod a b
 have e1:=Int.emod_nonneg a (b:=b) (by omega)
 have e2:=Int.emod_lt_of_pos a hb0
 have ec:a / b*b=b*(a / b):=Int.mul_comm _ _
 exact floor_den _ _ _ (hq.fz (by omega)) (ha.fz (by omega)) (hb.fz (by omega)) (hm.fz (by omega)) ((hm.add (hb.mono (by omega))).fz (by omega)) (by omega) (by omega)
theorem noiseFloors_den (p:PD) (hp:PFit p) (na:Bool) (sa:ByteArray) (lv ex:Int) (hl:inI lv):Den Tryz.prog 6 [.agg (parL true p),wS na sa,.agg [.val (.int .i64 lv),.val (.int .i64 ex)]] (.val (.bool true)):=by
 have hw:=awake15_den
 have hV:=r2Valid_den na sa
 have hs:=r14State_den p hp lv ex
 cases hB:(decide (200<sa.size) || !vldB na sa || na || !stB p lv ex) with
 | true=>
  refine den_intro (fn:=Tryz.f6) rfl rfl rfl rfl rfl ?_
  refine go ?_
  refine g_callM (hl:=fun _=>r_call hV (run_fin rfl)) (h:=?_)
  refine go ?_
  refine g_callM (hl:=fun _=>r_call hs (run_fin rfl)) (h:=?_)
  refine go ?_
  refine r_call hw ?_
  refine go ?_
  refine fin ?_
  exact cv
 | false=>
  have hc:=hB
  simp only [Bool.or_eq_false_iff,Bool.not_eq_false',decide_eq_false_iff_not] at hc
  obtain ⟨⟨⟨hc1,hc2⟩,hc3⟩,hc4⟩:=hc
  have hok:(Ts.b na sa).ok=true:=by
   show (vldB na sa && !na)=true
   rw [hc2,hc3];rfl
  obtain ⟨z,z0,zf,rfl,rfl⟩:=tB_get hok
  obtain ⟨hg,l1,l2,x1,x2⟩:=stB_p hc4
  have hzb:Bb 200 z:=by
   rw [strN_size] at hc1
   exact Nat.le_of_lt (Nat.lt_of_lt_of_le nb_lt (Nat.pow_le_pow_right (by omega) (by omega)))
  obtain ⟨q1,q2,q3,q4,q5⟩:=good_plain hg
  have hgn:=good_gn hg
  obtain ⟨l,rfl⟩:∃ l:Nat,lv=(l:Int):=⟨lv.toNat,by omega⟩
  obtain ⟨x,rfl⟩:∃ x:Nat,ex=(x:Int):=⟨ex.toNat,by omega⟩
  have hpp:=hp.prime
  have hdv:=nzDivide_Z p z hp hg zf z0 (by omega)
  have hop:=r2Of_den (p.prime:Int) (by omega) (by omega)
  have hfl:=floor_q (k:=200) (m:=8) (b:=(p.prime:Int)) hzb z0 (Bb.i64 (by omega) (by omega)) (by omega) (by omega)
  generalize z / (p.prime:Int)=zq at *
  have hmo:stB p (l:Int) (x:Int)=true:=hc4
  rcases Nat.lt_or_ge 1 l with hl2 | hl2
  ·have hk:okT [.v p,tW (l:Int) (2) (p.chain.length),tW (x:Int) (1) (p.power),tB z]=true:=by
    show (goodB p && ((tW (l:Int) 2 p.chain.length).ok && ((tW (x:Int) 1 p.power).ok && ((tB z).ok && true))))=true
    rw [hg,tW_ok (by omega) (by omega),tW_ok (by omega) (by omega),tB_ok zf z0];rfl
   have hdn:=nzDown_Z p l x z hp hk
   have hM:=r13Plain_den p x (fun i hi=>(q5 i (by omega)).2) (by omega)
   have q6:=q5 x (by omega)
   have hch:=hgn.chain (l - 1) (by omega)
   have hpc:=hp.chain (l - 1) (by omega)
   have hll:=hgn.len2
   have hw1:=hgn.weight1
   have hw2:=hgn.weight2
   rw [qtV_eq (show (0:Int)<downQ p l by unfold downQ;omega)] at hdn
   unfold downS downQ at hdn
   obtain ⟨q,hq⟩:∃ q,p.chain.getD (l - 1) 0=q:=⟨_,rfl⟩
   rw [hq] at hdn hch hpc
   generalize p.prime ^ x=sm at *
   have hA0:0≤(sm:Int)*(p.weight+1):=Int.mul_nonneg (by omega) (by omega)
   have hA1:(sm:Int)*(p.weight+1)≤2147483647*33:=Int.mul_le_mul (by omega) (by omega) (by omega) (by omega)
   have eS:prZ (z3 (sm:Int) (p.weight+1) (((q - 1) / 2:Nat):Int)) 3=(sm:Int)*(p.weight+1)*(((q - 1) / 2:Nat):Int):=by
    show 1*(sm:Int)*(p.weight+1)*(((q - 1) / 2:Nat):Int)=_
    rw [Int.one_mul]
   rw [eS] at hdn
   have hAo:=r2Of_den ((sm:Int)*(p.weight+1)) (by omega) (by omega)
   have hAb:Bb 8 ((sm:Int)*(p.weight+1)):=Bb.i64 (by omega) (by omega)
   have hho:=r2Of_den (((q - 1) / 2:Nat):Int) (by omega) (by omega)
   have hhb:Bb 8 (((q - 1) / 2:Nat):Int):=Bb.i64 (by omega) (by omega)
   have hqo:=r2Of_den (q:Int) (by omega) (by omega)
   have hmu:=r2Mul_den ((sm:Int)*(p.weight+1)) (((q - 1) / 2:Nat):Int) (hAb.fz (by omega)) (hhb.fz (by omega))
   have hSb:Bb 200 ((sm:Int)*(p.weight+1)*(((q - 1) / 2:Nat):Int)):=(hAb.mul hhb).mono (by omega)
   have hS0:0≤(sm:Int)*(p.weight+1)*(((q - 1) / 2:Nat):Int):=Int.mul_nonneg hA0 (by omega)
   rw [resZ_ok (hSb.fz (by omega))] at hmu
   generalize (sm:Int)*(p.weight+1)*(((q - 1) / 2:Nat):Int)=S at *
   have hsu:=r2Add_den z S zf (hSb.fz (by omega))
   have hsb:Bb 201 (z+S):=hzb.add hSb
   rw [resZ_ok (hsb.fz (by omega))] at hsu
   rw [Int.one_mul,resZ_ok ((hsb.div (by omega) (by omega)).fz (by omega))] at hdn
   have hf2:=floor_q (k:=201) (m:=8) (b:=(q:Int)) hsb (by omega) (Bb.i64 (by omega) (by omega)) (by omega) (by omega)
   generalize (z+S) / (q:Int)=V at *
   generalize z+S=zs at *
   clear q5 eS
   refine den_intro (fn:=Tryz.f6) rfl rfl rfl rfl rfl ?_
   refine go ?_
   refine g_callM (hl:=fun _=>r_call hV (run_fin rfl)) (h:=?_)
   refine go ?_
   refine g_callM (hl:=fun _=>r_call hs (run_fin rfl)) (h:=?_)
   refine go ?_
   refine r_call hdv ?_
   refine gor ?_
   refine goc ?_
   refine c_reg ?_
   refine go1 ?_
   refine go1 ?_
   refine r_eqH (.val (.bool false)) rfl ?_
   refine go1 ?_
   refine g_Y ?_
   refine go1 ?_
   refine g_Y ?_
   refine go1 ?_
   refine g_Y ?_
   refine go1 ?_
   refine g_Y ?_
   refine go1 ?_
   refine g_Y ?_
   refine go1 ?_
   refine g_Y ?_
   refine r_call hop ?_
   refine g_Y ?_
   refine r_call hfl ?_
   refine g_Y ?_
   refine go1 ?_
   refine r_eqH (.val (.bool false)) rfl ?_
   refine go1 ?_
   refine r_eqH (.val (.bool false)) rfl ?_
   refine go ?_
   refine r_call hdn ?_
   refine go ?_
   rw [hq]
   refine r_call hM ?_
   refine go ?_
   refine r_call hAo ?_
   refine go ?_
   refine r_call hho ?_
   refine go ?_
   refine r_call hmu ?_
   refine go ?_
   refine r_call hsu ?_
   refine gor ?_
   refine goc ?_
   refine c_reg ?_
   refine go1 ?_
   refine go1 ?_
   refine r_eqH (.val (.bool true)) rfl ?_
   refine go1 ?_
   refine g_Y ?_
   refine go1 ?_
   refine g_Y ?_
   refine go1 ?_
   refine g_Y ?_
   refine go1 ?_
   refine g_Y ?_
   refine r_call hqo ?_
   refine g_Y ?_
   refine r_call hf2 ?_
   refine go1 ?_
   refine r_eqH (.val (.bool true)) rfl ?_
   refine go1 ?_
   refine g_Y ?_
   refine r_call hw ?_
   refine go1 ?_
   refine go1 ?_
   refine go ?_
   refine fin ?_
   exact cv
  ·obtain rfl:l=1:=by omega
   have hk:okT [.v p,tW ((1:Nat):Int) (2) (p.chain.length),tW (x:Int) (1) (p.power),tB z]=false:=by
    show (goodB p && ((tW ((1:Nat):Int) 2 p.chain.length).ok && ((tW (x:Int) 1 p.power).ok && ((tB z).ok && true))))=false
    rw [tW_no (by omega),hg];rfl
   have hdn:=nzDown_bad p ((1:Nat):Int) x _ _ hp hk
   refine den_intro (fn:=Tryz.f6) rfl rfl rfl rfl rfl ?_
   refine go ?_
   refine g_callM (hl:=fun _=>r_call hV (run_fin rfl)) (h:=?_)
   refine go ?_
   refine g_callM (hl:=fun _=>r_call hs (run_fin rfl)) (h:=?_)
   refine go ?_
   refine r_call hdv ?_
   refine gor ?_
   refine goc ?_
   refine c_reg ?_
   refine go1 ?_
   refine go1 ?_
   refine r_eqH (.val (.bool false)) rfl ?_
   refine go1 ?_
   refine g_Y ?_
   refine go1 ?_
   refine g_Y ?_
   refine go1 ?_
   refine g_Y ?_
   refine go1 ?_
   refine g_Y ?_
   refine go1 ?_
   refine g_Y ?_
   refine go1 ?_
   refine g_Y ?_
   refine r_call hop ?_
   refine g_Y ?_
   refine r_call hfl ?_
   refine g_Y ?_
   refine go1 ?_
   refine r_eqH (.val (.bool false)) rfl ?_
   refine go1 ?_
   refine r_eqH (.val (.bool false)) rfl ?_
   refine go ?_
   refine r_call hdn ?_
   refine go ?_
   refine r_eqS 72 (.val (.bool true)) rfl ?_
   refine g_Y ?_
   refine r_call hw ?_
   refine go ?_
   refine fin ?_
   exact cv

instance fi43:FI Tryz.prog 43 Tryz.f43:=⟨Tryz.func43,Tryz.call43⟩
theorem grown0 (p:PD) (na nc b:Bool) (sa sc s:ByteArray) (lv ex e:Int) (h:Den Tryz.prog 44 [wS na sa,wS nc sc] (.tup [wS b s,.val (.int .i64 e)])):Den Tryz.prog 43 [.val (.int .i64 0),.agg (parL true p),wS na sa,wS nc sc,.agg [.val (.int .i64 lv),.val (.int .i64 ex)]] (.tup [wS b s,.val (.int .i64 e)]):=by
 refine den_intro (fn:=Tryz.f43) rfl rfl rfl rfl rfl ?_
 refine go ?_
 refine r_call h ?_
 refine go ?_
 refine fin ?_
 exact cv
theorem grown1 (p:PD) (na nc b:Bool) (sa sc s:ByteArray) (lv ex e:Int) (h:Den Tryz.prog 48 [.agg (parL true p),wS na sa,wS nc sc] (.tup [wS b s,.val (.int .i64 e)])):Den Tryz.prog 43 [.val (.int .i64 1),.agg (parL true p),wS na sa,wS nc sc,.agg [.val (.int .i64 lv),.val (.int .i64 ex)]] (.tup [wS b s,.val (.int .i64 e)]):=by
 refine den_intro (fn:=Tryz.f43) rfl rfl rfl rfl rfl ?_
 refine go ?_
 refine r_call h ?_
 refine go ?_
 refine fin ?_
 exact cv
theorem grown2 (p:PD) (na nc b:Bool) (sa sc s:ByteArray) (lv ex e:Int) (h:Den Tryz.prog 32 [.agg (parL true p),wS na sa,.val (.int .i64 lv),.val (.int .i64 ex)] (.tup [wS b s,.val (.int .i64 e)])):Den Tryz.prog 43 [.val (.int .i64 2),.agg (parL true p),wS na sa,wS nc sc,.agg [.val (.int .i64 lv),.val (.int .i64 ex)]] (.tup [wS b s,.val (.int .i64 e)]):=by
 refine den_intro (fn:=Tryz.f43) rfl rfl rfl rfl rfl ?_
 refine go ?_
 refine r_call h ?_
 refine go ?_
 refine fin ?_
 exact cv
theorem grown3 (p:PD) (na nc b:Bool) (sa sc s:ByteArray) (lv ex e:Int) (h:Den Tryz.prog 29 [.agg (parL true p),wS na sa] (.tup [wS b s,.val (.int .i64 e)])):Den Tryz.prog 43 [.val (.int .i64 3),.agg (parL true p),wS na sa,wS nc sc,.agg [.val (.int .i64 lv),.val (.int .i64 ex)]] (.tup [wS b s,.val (.int .i64 e)]):=by
 refine den_intro (fn:=Tryz.f43) rfl rfl rfl rfl rfl ?_
 refine go ?_
 refine r_call h ?_
 refine go ?_
 refine fin ?_
 exact cv
structure Grw (p:PD) (c:Int) (lv ex:Int) (i a b:Int):Prop where
 of:∃ e va vb:Int,(e=0∨e=2)∧va≤vb∧Fz va∧Fz vb ∧
  Den Tryz.prog 43 [.val (.int .i64 i),.agg (parL true p),zN a,zN c,.agg [.val (.int .i64 lv),.val (.int .i64 ex)]] (.tup [zN va,.val (.int .i64 e)]) ∧
  Den Tryz.prog 43 [.val (.int .i64 i),.agg (parL true p),zN b,zN c,.agg [.val (.int .i64 lv),.val (.int .i64 ex)]] (.tup [zN vb,.val (.int .i64 e)])
theorem grw0 (p:PD) {a b c:Int} (lv ex:Int) (ha:Bb 121 a) (hb:Bb 121 b) (hc:Bb 121 c) (a0:0≤a) (hab:a≤b) (c0:0≤c):Grw p c lv ex 0 a b:=by
 have h1:=nzAdd_Z a c (ha.fz (by omega)) (hc.fz (by omega)) a0 c0
 have h2:=nzAdd_Z b c (hb.fz (by omega)) (hc.fz (by omega)) (by omega) c0
 rw [resZ_ok ((ha.add hc).fz (by omega))] at h1
 rw [resZ_ok ((hb.add hc).fz (by omega))] at h2
 exact ⟨0,_,_,.inl rfl,by omega,(ha.add hc).fz (by omega),(hb.add hc).fz (by omega),grown0 p _ _ _ _ _ _ lv ex 0 h1,grown0 p _ _ _ _ _ _ lv ex 0 h2⟩
theorem grw1 (p:PD) (hp:PFit p) (hg:goodB p=true) {a b c:Int} (lv ex:Int) (ha:Bb 121 a) (hb:Bb 121 b) (hc:Bb 121 c) (a0:0≤a) (hab:a≤b) (c0:0≤c):Grw p c lv ex 1 a b:=by
 have hgn:=good_gn hg
 have g1:=hgn.n1
 have g2:=hgn.n2
 have hn:Bb 8 p.n:=Bb.i64 (by omega) (by omega)
 have h1:=nzMul_Z p a c hp hg (ha.fz (by omega)) (hc.fz (by omega)) a0 c0
 have h2:=nzMul_Z p b c hp hg (hb.fz (by omega)) (hc.fz (by omega)) (by omega) c0
 rw [resZ_ok (((ha.mul hc).mul hn).fz (by omega))] at h1
 rw [resZ_ok (((hb.mul hc).mul hn).fz (by omega))] at h2
 exact ⟨0,_,_,.inl rfl,Int.mul_le_mul_of_nonneg_right (Int.mul_le_mul_of_nonneg_right hab c0) (by omega),((ha.mul hc).mul hn).fz (by omega),((hb.mul hc).mul hn).fz (by omega),grown1 p _ _ _ _ _ _ lv ex 0 h1,grown1 p _ _ _ _ _ _ lv ex 0 h2⟩
theorem grw3 (p:PD) (hp:PFit p) (hg:goodB p=true) {a b:Int} (c lv ex:Int) (ha:Bb 121 a) (hb:Bb 121 b) (a0:0≤a) (hab:a≤b):Grw p c lv ex 3 a b:=by
 have hq:=(good_plain hg).1
 have h1:=nzDivide_Z p a hp hg (ha.fz (by omega)) a0 (by omega)
 have h2:=nzDivide_Z p b hp hg (hb.fz (by omega)) (by omega) (by omega)
 exact ⟨0,_,_,.inl rfl,Int.ediv_le_ediv (by omega) hab,(ha.div a0 (by omega)).fz (by omega),(hb.div (by omega) (by omega)).fz (by omega),grown3 p _ _ _ _ _ _ lv ex 0 h1,grown3 p _ _ _ _ _ _ lv ex 0 h2⟩
theorem grw2 (p:PD) (hp:PFit p) (hg:goodB p=true) {a b:Int} (c:Int) (l x:Nat) (l1:1≤l) (l2:l≤p.chain.length) (x1:1≤x) (x2:(x:Int)≤p.power) (ha:Bb 121 a) (hb:Bb 121 b) (a0:0≤a) (hab:a≤b):Grw p c l x 2 a b:=by
 have hgn:=good_gn hg
 have hk:∀ z:Int,Fz z→0≤z→okT [.v p,tW (l:Int) (2) (p.chain.length),tW (x:Int) (1) (p.power),tB z]=decide (2≤l):=fun z zf z0=>by
  show (goodB p && ((tW (l:Int) 2 p.chain.length).ok && ((tW (x:Int) 1 p.power).ok && ((tB z).ok && true))))=_
  rw [hg,tW_ok (show (1:Int)≤x by omega) x2,tB_ok zf z0]
  by_cases h:2≤l
  ·rw [tW_ok (by omega) (by omega),decide_eq_true h];rfl
  ·rw [tW_no (by omega),decide_eq_false h];rfl
 have fa:Fz a:=ha.fz (by omega)
 have fb:Fz b:=hb.fz (by omega)
 by_cases h:2≤l
 ·rw [decide_eq_true h] at hk
  have h1:=nzDown_Z p l x a hp (hk a fa a0)
  have h2:=nzDown_Z p l x b hp (hk b fb (by omega))
  have hch:=hgn.chain (l - 1) (by omega)
  have hq0:(0:Int)<downQ p l:=by unfold downQ;omega
  obtain ⟨q1,q2,q3,q4,q5⟩:=good_plain hg
  have q6:=q5 x (by omega)
  have hw1:=hgn.weight1
  have hw2:=hgn.weight2
  have hS0:0≤downS p l x:=prZ_pos 3 (fun j _=>z3_all (P:=fun z=>0≤z) (by omega) (by omega) (by omega) j)
  have hSb:Bb 121 (downS p l x):=(Bb.prZ (k:=8) 3 (fun j _=>z3_all (P:=Bb 8) (Bb.i64 (by omega) (by omega)) (Bb.i64 (by omega) (by omega)) (Bb.i64 (by omega) (by unfold downQ;omega)) j)).mono (by omega)
  rw [qtV_eq hq0,Int.one_mul] at h1 h2
  generalize downS p l x=S at *
  generalize downQ p l=q at *
  have b1:=(ha.add hSb).div (b:=(q:Int)) (by omega) (by omega)
  have b2:=(hb.add hSb).div (b:=(q:Int)) (by omega) (by omega)
  rw [resZ_ok (b1.fz (by omega))] at h1
  rw [resZ_ok (b2.fz (by omega))] at h2
  exact ⟨0,_,_,.inl rfl,Int.ediv_le_ediv hq0 (by omega),b1.fz (by omega),b2.fz (by omega),grown2 p _ _ _ _ _ _ l x 0 h1,grown2 p _ _ _ _ _ _ l x 0 h2⟩
 ·rw [decide_eq_false h] at hk
  exact ⟨2,0,0,.inr rfl,Int.le_refl _,by decide,by decide,grown2 p _ _ _ _ _ _ l x 2 (nzDown_bad p l x _ _ hp (hk a fa a0)),grown2 p _ _ _ _ _ _ l x 2 (nzDown_bad p l x _ _ hp (hk b fb (by omega)))⟩
theorem grw (p:PD) (hp:PFit p) (hg:goodB p=true) {a b c:Int} (l x:Nat) (l1:1≤l) (l2:l≤p.chain.length) (x1:1≤x) (x2:(x:Int)≤p.power) (ha:Bb 121 a) (hb:Bb 121 b) (hc:Bb 121 c) (a0:0≤a) (hab:a≤b) (c0:0≤c) (i:Nat) (hi:i<4):Grw p c l x i a b:=by
 obtain rfl | rfl | rfl | rfl:i=0∨i=1∨i=2∨i=3:=by omega
 ·exact grw0 p l x ha hb hc a0 hab c0
 ·exact grw1 p hp hg l x ha hb hc a0 hab c0
 ·exact grw2 p hp hg c l x l1 l2 x1 x2 ha hb a0 hab
 ·exact grw3 p hp hg c l x ha hb a0 hab

instance ti63:TI Tryz.prog 63 Tryz.t63 (.array 3 42):=⟨by kernel_rfl,by kernel_rfl⟩
instance ar63:AR Tryz.prog 63 3 2:=AR.of ti63 ti42 rfl
instance fi8:FI Tryz.prog 8 Tryz.f8:=⟨Tryz.func8,Tryz.call8⟩
theorem noiseGrows_den (p:PD) (hp:PFit p) (b0 b1 b2:Bool) (s0 s1 s2:ByteArray) (lv ex:Int):Den Tryz.prog 8 [.agg (parL true p),.agg [.val (.bool b0),.val (.string s0),.val (.bool b1),.val (.string s1),.val (.bool b2),.val (.string s2)],.agg [.val (.int .i64 lv),.val (.int .i64 ex)]] (.val (.bool true)):=by
 have hw:=awake15_den
 have hck:=r12check_den p hp
 have hs:=r14State_den p hp lv ex
 have hV0:=r2Valid_den b0 s0
 have hV1:=r2Valid_den b1 s1
 have hV2:=r2Valid_den b2 s2
 cases hB:(decide (errI (goodB p)≠0) || !stB p lv ex) with
 | true=>
  refine den_intro (fn:=Tryz.f8) rfl rfl rfl rfl rfl ?_
  refine go ?_
  refine r_call hck ?_
  refine go ?_
  refine g_callM (hl:=fun _=>r_call hs (run_fin rfl)) (h:=?_)
  refine go ?_
  refine r_call hw ?_
  refine go ?_
  refine fin ?_
  exact cv
 | false=>
  have hst:stB p lv ex=true:=by
   rw [Bool.or_eq_false_iff] at hB
   simpa using hB.2
  obtain ⟨hg,l1,l2,x1,x2⟩:=stB_p hst
  have hpw:=(good_plain hg).2.2.2.1
  refine den_intro (fn:=Tryz.f8) rfl rfl rfl rfl rfl ?_
  refine go ?_
  refine r_call hck ?_
  refine go ?_
  refine g_callM (hl:=fun _=>r_call hs (run_fin rfl)) (h:=?_)
  refine go ?_
  refine c_down (α:=Nat) (fun i=>3 - i) (fun i=>i≤3∧(0<i→(decide (120<s0.size) || !vldB b0 s0 || b0)=false)∧(1<i→(decide (120<s1.size) || !vldB b1 s1 || b1)=false)∧(2<i→(decide (120<s2.size) || !vldB b2 s2 || b2)=false)) (fun i:Nat=>[(7,.val (.int .i64 (i:Nat)))]) (fun _=>[]) 0 (fun i ⟨hi,k0,k1,k2⟩=>?_) ⟨by omega,fun h=>absurd h (by omega),fun h=>absurd h (by omega),fun h=>absurd h (by omega)⟩
  refine go ?_
  refine c_if (fun hi3=>?_) (fun hi3=>?_)
  ·obtain rfl | rfl | rfl:i=0∨i=1∨i=2:=by omega
   ·refine c_eq 7 (.val (.int .i64 0)) (d:=.val (.int .i64 ((0:Nat):Int))) rfl ?_
    refine go ?_
    refine g_callM (hl:=fun _=>r_call hV0 (run_fin rfl)) (h:=?_)
    refine go ?_
    refine c_ifB (fun hb=>?_) (fun hb=>?_)
    ·refine go ?_
     refine r_call hw ?_
     refine go ?_
     refine fin ?_
     exact cv
    ·refine go ?_
     refine ⟨0+1,⟨by omega,fun _=>hb,fun h=>absurd h (by omega),fun h=>absurd h (by omega)⟩,by omega,?_⟩
     exact sub
   ·refine c_eq 7 (.val (.int .i64 1)) (d:=.val (.int .i64 ((1:Nat):Int))) rfl ?_
    refine go ?_
    refine g_callM (hl:=fun _=>r_call hV1 (run_fin rfl)) (h:=?_)
    refine go ?_
    refine c_ifB (fun hb=>?_) (fun hb=>?_)
    ·refine go ?_
     refine r_call hw ?_
     refine go ?_
     refine fin ?_
     exact cv
    ·refine go ?_
     refine ⟨1+1,⟨by omega,fun _=>k0 (by omega),fun _=>hb,fun h=>absurd h (by omega)⟩,by omega,?_⟩
     exact sub
   ·refine c_eq 7 (.val (.int .i64 2)) (d:=.val (.int .i64 ((2:Nat):Int))) rfl ?_
    refine go ?_
    refine g_callM (hl:=fun _=>r_call hV2 (run_fin rfl)) (h:=?_)
    refine go ?_
    refine c_ifB (fun hb=>?_) (fun hb=>?_)
    ·refine go ?_
     refine r_call hw ?_
     refine go ?_
     refine fin ?_
     exact cv
    ·refine go ?_
     refine ⟨2+1,⟨by omega,fun _=>k0 (by omega),fun _=>k1 (by omega),fun _=>hb⟩,by omega,?_⟩
     exact sub
  ·obtain rfl:i=3:=by omega
   have get:∀ (b:Bool) (s:ByteArray),(decide (120<s.size) || !vldB b s || b)=false→∃ z:Int,0≤z∧Fz z∧b=decide (z<0)∧s=strN z.natAbs∧Bb 121 z:=fun b s h=>by
    simp only [Bool.or_eq_false_iff,Bool.not_eq_false',decide_eq_false_iff_not] at h
    obtain ⟨⟨h1,h2⟩,h3⟩:=h
    obtain ⟨z,z0,zf,e1,e2⟩:=tB_get (b:=b) (s:=s) (by show (vldB b s && !b)=true;rw [h2,h3];rfl)
    refine ⟨z,z0,zf,e1,e2,?_⟩
    rw [e2,strN_size] at h1
    exact Nat.le_of_lt (Nat.lt_of_lt_of_le nb_lt (Nat.pow_le_pow_right (by omega) (by omega)))
   obtain ⟨z0,z00,zf0,rfl,rfl,zb0⟩:=get b0 s0 (k0 (by omega))
   obtain ⟨z1,z10,zf1,rfl,rfl,zb1⟩:=get b1 s1 (k1 (by omega))
   obtain ⟨z2,z20,zf2,rfl,rfl,zb2⟩:=get b2 s2 (k2 (by omega))
   obtain ⟨l,rfl⟩:∃ l:Nat,lv=(l:Int):=⟨lv.toNat,by omega⟩
   obtain ⟨x,rfl⟩:∃ x:Nat,ex=(x:Int):=⟨ex.toNat,by omega⟩
   obtain ⟨mn,mx,hmm⟩:∃ mn mx:Int,(z0≤z1∧mn=z0∧mx=z1)∨(¬ z0≤z1∧mn=z1∧mx=z0):=by
    by_cases h:z0≤z1
    ·exact ⟨z0,z1,.inl ⟨h,rfl,rfl⟩⟩
    ·exact ⟨z1,z0,.inr ⟨h,rfl,rfl⟩⟩
   have mf:0≤mn∧mn≤mx∧Bb 121 mn∧Bb 121 mx:=by
    rcases hmm with ⟨h,rfl,rfl⟩ | ⟨h,rfl,rfl⟩
    ·exact ⟨z00,h,zb0,zb1⟩
    ·exact ⟨z10,by omega,zb1,zb0⟩
   obtain ⟨m0,mle,mb,xb⟩:=mf
   have h01:=less_den z0 z1 zf0 zf1 _ rfl
   have hgr:=grw p hp hg (a:=mn) (b:=mx) (c:=z2) l x (by omega) (by omega) (by omega) x2 mb xb zb2 m0 mle z20
   have fk:∀ z:Int,Fz z→0≤z→okT [.v p,tW (l:Int) (1) (p.chain.length),tB z]=true:=fun z zf z0=>by
    show (goodB p && ((tW (l:Int) 1 p.chain.length).ok && ((tB z).ok && true)))=true
    rw [hg,tW_ok l1 l2,tB_ok zf z0];rfl
   have f1:=nzFits_Z p l mx hp (fk mx (xb.fz (by omega)) (by omega))
   have f2:=nzFits_Z p l mn hp (fk mn (mb.fz (by omega)) m0)
   have fc:decide (cmpZ mx (prZ (chZ p) l / 2)≤0)=true→decide (cmpZ mn (prZ (chZ p) l / 2)≤0)=true:=fun h=>by
    have h:=of_decide_eq_true h
    apply decide_eq_true
    generalize prZ (chZ p) l / 2=Q at *
    unfold cmpZ at h ⊢
    split at h
    ·rw [if_pos (by omega)];omega
    ·split at h
     ·omega
     ·split
      ·omega
      ·rw [if_neg (by omega)];omega
   generalize decide (cmpZ mx (prZ (chZ p) l / 2)≤0)=c1 at *
   generalize decide (cmpZ mn (prZ (chZ p) l / 2)≤0)=c2 at *
   refine go ?_
   refine r_call h01 ?_
   refine gor ?_
   refine goc ?_
   refine c_cutB [] [(1008,some (.lit 42 (zL mn))),(1009,some (.lit 42 (zL mx)))] ?_ ?_
   ·rcases hmm with ⟨h,rfl,rfl⟩ | ⟨h,rfl,rfl⟩
    ·refine c_no (hb:=by rw [decide_eq_true h];rfl) ?_
     refine go ?_
     exact sub
    ·refine c_yes (hb:=by rw [decide_eq_false h];rfl) ?_
     refine go ?_
     exact sub
   ·clear hmm h01
    refine go ?_
    refine c_up 4 (fun i=>[(10,.val (.int .i64 (i:Nat)))]) (fun _=>[]) (fun i hi=>?_)
    refine go ?_
    refine c_if (fun h=>?_) (fun h=>?_)
    ·obtain ⟨e,va,vb,he,hle,fa,fb,g1,g2⟩:=(hgr i (by omega)).of
     have hls:=less_den va vb fa fb true (decide_eq_true hle)
     refine go ?_
     refine r_call g1 ?_
     refine go ?_
     refine r_call g2 ?_
     refine gor ?_
     refine goc ?_
     refine c_reg ?_
     rcases he with rfl | rfl
     ·refine go1 ?_
      refine go1 ?_
      refine r_binI (bi_nsame _ _) ?_
      refine go1 ?_
      refine g_Y ?_
      refine go1 ?_
      refine g_Y ?_
      refine go1 ?_
      refine r_eqH (.val (.bool true)) rfl ?_
      refine g_Y ?_
      refine go1 ?_
      refine g_Y ?_
      refine go1 ?_
      refine g_Y ?_
      refine go1 ?_
      refine g_Y ?_
      refine r_call hls ?_
      refine g_Y ?_
      refine go1 ?_
      refine r_eqH (.val (.bool false)) rfl ?_
      refine g_Y ?_
      refine go1 ?_
      refine r_eqH (.val (.bool false)) rfl ?_
      refine go1 ?_
      refine r_eqH (.val (.bool false)) rfl ?_
      refine go ?_
      refine ⟨by omega,?_⟩
      exact sub
     ·refine go1 ?_
      refine go1 ?_
      refine r_binI (bi_nsame _ _) ?_
      refine go1 ?_
      refine g_Y ?_
      refine go1 ?_
      refine g_Y ?_
      refine go1 ?_
      refine r_eqH (.val (.bool false)) rfl ?_
      refine g_Y ?_
      refine go1 ?_
      refine g_N ?_
      refine g_N ?_
      refine g_N ?_
      refine g_N ?_
      refine g_Y ?_
      refine go1 ?_
      refine r_eqH (.val (.bool false)) rfl ?_
      refine go1 ?_
      refine r_eqH (.val (.bool false)) rfl ?_
      refine go ?_
      refine ⟨by omega,?_⟩
      exact sub
    ·obtain rfl:i=4:=by omega
     refine go ?_
     refine r_call f1 ?_
     refine go ?_
     refine r_call f2 ?_
     refine gor ?_
     refine goc ?_
     refine c_reg ?_
     cases c1 with
     | true=>
      rw [fc rfl]
      refine go1 ?_
      refine go1 ?_
      refine r_eqH (.val (.bool true)) rfl ?_
      refine go1 ?_
      refine g_Y ?_
      refine go1 ?_
      refine g_Y ?_
      refine go1 ?_
      refine r_eqH (.val (.bool true)) rfl ?_
      refine go1 ?_
      refine r_eqH (.val (.bool true)) rfl ?_
      refine go1 ?_
      refine g_Y ?_
      refine go1 ?_
      refine g_Y ?_
      refine go1 ?_
      refine r_eqH (.val (.bool false)) rfl ?_
      refine g_Y ?_
      refine go1 ?_
      refine g_Y ?_
      refine go1 ?_
      refine g_Y ?_
      refine go1 ?_
      refine r_eqH (.val (.bool true)) rfl ?_
      refine go1 ?_
      refine r_eqH (.val (.bool true)) rfl ?_
      refine go1 ?_
      refine g_Y ?_
      refine r_call hw ?_
      refine go1 ?_
      refine go1 ?_
      refine go ?_
      refine fin ?_
      exact cv
     | false=>
      refine go1 ?_
      refine go1 ?_
      refine r_eqH (.val (.bool true)) rfl ?_
      refine go1 ?_
      refine g_Y ?_
      refine go1 ?_
      refine g_Y ?_
      refine go1 ?_
      refine r_eqH (.val (.bool true)) rfl ?_
      refine go1 ?_
      refine r_eqH (.val (.bool true)) rfl ?_
      refine go1 ?_
      refine g_Y ?_
      refine go1 ?_
      refine g_Y ?_
      refine go1 ?_
      refine r_eqH (.val (.bool true)) rfl ?_
      refine g_Y ?_
      refine go1 ?_
      refine g_N ?_
      refine g_Y ?_
      refine go1 ?_
      refine r_eqH (.val (.bool true)) rfl ?_
      refine go1 ?_
      refine r_eqH (.val (.bool true)) rfl ?_
      refine go1 ?_
      refine g_Y ?_
      refine r_call hw ?_
      refine go1 ?_
      refine go1 ?_
      refine go ?_
      refine fin ?_
      exact cv
end Go.Proofs.YtdcenblblimkfaaGreat
