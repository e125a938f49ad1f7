/- The types and functions of this program, as the driver looks them up. No walk.
Whole arrays: loaded, sliced. No walk.
Rows of rows, by lists: frozen, said otherwise, as results. No walk.
A call that turns boxes which may name one another. (Printed by mkvfl.py.)
A call that turns a box and makes an array of the caller's own. Printed by mkvma.py. No walk.
Arguments that were written out. No walk. -/
import Derived.Test.YtdcenblblimkfaaGreatPk20
set_option linter.unusedSimpArgs false
set_option linter.unusedVariables false
set_option linter.unnecessarySimpa false
set_option linter.unusedSectionVars false
namespace Go.Proofs.YtdcenblblimkfaaGreat
open Go.RowKit
section
variable {P:Program} {t s el:TypeId} {i i':TypeInfo} {e e':TypeDesc}
theorem SZ.of {n:Nat} (h:TI P t i e) (hn:i.size=n):SZ P t n:=⟨hn▸SizeIs.mk⟩
theorem ZR.of {z:Value} {zs:List Value} (h:TI P t i e) (hz:i.zero=some z) (hc:z.cells=zs.toArray) (h1:(zs.all fun z=>z.oneCell')=true):ZR P t zs:=by
 have:=ZeroIs.mk (P:=P) (t:=t) hz (by rw [hc];exact h1)
 rw [hc] at this
 exact ⟨this⟩
theorem FT.of {fs:Array Field} {fl:Field} {k off:Nat} (h:TI P s i (.struct fs)) (hf:fs[k]? = some fl) (h':TI P fl.type i' e') (ho:fl.offset=off) (h0:(i'.size == 0)=false):FT P s k off:=⟨ho▸FieldIs.mk hf h0⟩
theorem FV.agg {fs:Array Field} {fl:Field} {k off n:Nat} (h:TI P s i (.struct fs)) (hf:fs[k]? = some fl) (h':TI P fl.type i' e') (ho:fl.offset=off) (ha:isAggD e'=true) (hn:i'.size=n):FV P s k off n true:=⟨_,_,_,h,hf,ho,hn▸pt_agg ha⟩
theorem ET.of {m:Nat} (h:TI P t i (.slice el)) (h':TI P el i' e') (hm:i'.size=m):ET P t m:=⟨hm▸IndexIs.mk⟩
theorem AR.of {n m:Nat} (h:TI P t i (.array n el)) (h':TI P el i' e') (hm:i'.size=m):AR P t n m:=⟨hm▸IndexArr.mk⟩
end
instance mixP:Mix Tryz.prog:=⟨by kernel_rfl⟩
instance ti2:TI Tryz.prog 2 Tryz.t2 (.int .i64):=⟨by kernel_rfl,by kernel_rfl⟩
instance ti3:TI Tryz.prog 3 Tryz.t3 (.int .i64):=⟨by kernel_rfl,by kernel_rfl⟩
instance ti4:TI Tryz.prog 4 Tryz.t4 (.bool ):=⟨by kernel_rfl,by kernel_rfl⟩
instance ti22:TI Tryz.prog 22 Tryz.t22 (.int .u32):=⟨by kernel_rfl,by kernel_rfl⟩
instance ti23:TI Tryz.prog 23 Tryz.t23 (.slice 22):=⟨by kernel_rfl,by kernel_rfl⟩
instance ti25:TI Tryz.prog 25 Tryz.t25 Tryz.t24.desc:=⟨by kernel_rfl,by kernel_rfl⟩
instance ti26:TI Tryz.prog 26 Tryz.t26 (.slice 93):=⟨by kernel_rfl,by kernel_rfl⟩
instance ti29:TI Tryz.prog 29 Tryz.t29 (.slice 2):=⟨by kernel_rfl,by kernel_rfl⟩
instance ti34:TI Tryz.prog 34 Tryz.t34 (.int .i64):=⟨by kernel_rfl,by kernel_rfl⟩
instance ti91:TI Tryz.prog 91 Tryz.t91 (.slice 23):=⟨by kernel_rfl,by kernel_rfl⟩
instance ti93:TI Tryz.prog 93 Tryz.t93 Tryz.t92.desc:=⟨by kernel_rfl,by kernel_rfl⟩
instance ti126:TI Tryz.prog 126 Tryz.t126 (.int .u64):=⟨by kernel_rfl,by kernel_rfl⟩
instance ti217:TI Tryz.prog 217 Tryz.t217 (.pointer 25):=⟨by kernel_rfl,by kernel_rfl⟩
instance ti220:TI Tryz.prog 220 Tryz.t220 Tryz.t220.desc:=⟨by kernel_rfl,by kernel_rfl⟩
instance sz2:SZ Tryz.prog 2 1:=SZ.of ti2 rfl
instance sz3:SZ Tryz.prog 3 1:=SZ.of ti3 rfl
instance zr3:ZR Tryz.prog 3 [.int .i64 0]:=ZR.of ti3 rfl rfl rfl
instance sz4:SZ Tryz.prog 4 1:=SZ.of ti4 rfl
instance sz22:SZ Tryz.prog 22 1:=SZ.of ti22 rfl
instance zr22:ZR Tryz.prog 22 [.int .u32 0]:=ZR.of ti22 rfl rfl rfl
instance sz23:SZ Tryz.prog 23 1:=SZ.of ti23 rfl
instance et23:ET Tryz.prog 23 1:=ET.of ti23 ti22 rfl
instance sz25:SZ Tryz.prog 25 7:=SZ.of ti25 rfl
instance zr25:ZR Tryz.prog 25 [.int .i64 0,.int .u32 0,.int .i64 0,.slice none 0 0,.int .u32 0,.int .i64 0,.int .u32 0]:=ZR.of ti25 rfl rfl rfl
instance ft25_0:FT Tryz.prog 25 0 0:=FT.of ti25 rfl ti3 rfl rfl
instance ft25_1:FT Tryz.prog 25 1 1:=FT.of ti25 rfl ti22 rfl rfl
instance ft25_2:FT Tryz.prog 25 2 2:=FT.of ti25 rfl ti3 rfl rfl
instance ft25_3:FT Tryz.prog 25 3 3:=FT.of ti25 rfl ti23 rfl rfl
instance ft25_4:FT Tryz.prog 25 4 4:=FT.of ti25 rfl ti22 rfl rfl
instance ft25_5:FT Tryz.prog 25 5 5:=FT.of ti25 rfl ti3 rfl rfl
instance ft25_6:FT Tryz.prog 25 6 6:=FT.of ti25 rfl ti22 rfl rfl
instance sz26:SZ Tryz.prog 26 1:=SZ.of ti26 rfl
instance zr26:ZR Tryz.prog 26 [.slice none 0 0]:=ZR.of ti26 rfl rfl rfl
instance et26:ET Tryz.prog 26 3:=ET.of ti26 ti93 rfl
instance sz29:SZ Tryz.prog 29 1:=SZ.of ti29 rfl
instance et29:ET Tryz.prog 29 1:=ET.of ti29 ti2 rfl
instance sz34:SZ Tryz.prog 34 1:=SZ.of ti34 rfl
instance zr34:ZR Tryz.prog 34 [.int .i64 0]:=ZR.of ti34 rfl rfl rfl
instance sz91:SZ Tryz.prog 91 1:=SZ.of ti91 rfl
instance et91:ET Tryz.prog 91 1:=ET.of ti91 ti23 rfl
instance sz93:SZ Tryz.prog 93 3:=SZ.of ti93 rfl
instance zr93:ZR Tryz.prog 93 [.int .i64 0,.bool false,.slice none 0 0]:=ZR.of ti93 rfl rfl rfl
instance bt93:BT Tryz.prog 93 [(0,1),(1,1),(2,1)] [.int .i64 0,.bool false,.slice none 0 0]:=BT.of (ns:=[1,1,1]) ti93 rfl zr93.zr ⟨sz3.sz,⟨sz4.sz,⟨sz91.sz,trivial⟩⟩⟩ (by intro j;repeat (first | rfl | cases j with | zero=>rfl | succ j=>?_))
instance ft93_0:FT Tryz.prog 93 0 0:=FT.of ti93 rfl ti3 rfl rfl
instance ft93_1:FT Tryz.prog 93 1 1:=FT.of ti93 rfl ti4 rfl rfl
instance ft93_2:FT Tryz.prog 93 2 2:=FT.of ti93 rfl ti91 rfl rfl
instance sz217:SZ Tryz.prog 217 1:=SZ.of ti217 rfl
instance fi265:FI Tryz.prog 265 Tryz.f265:=⟨Tryz.func265,Tryz.call265⟩
instance fi204:FI Tryz.prog 204 Tryz.f204:=⟨Tryz.func204,Tryz.call204⟩
instance fi227:FI Tryz.prog 227 Tryz.f227:=⟨Tryz.func227,Tryz.call227⟩
instance fi278:FI Tryz.prog 278 Tryz.f278:=⟨Tryz.func278,Tryz.call278⟩
instance fi205:FI Tryz.prog 205 Tryz.f205:=⟨Tryz.func205,Tryz.call205⟩
instance fi154:FI Tryz.prog 154 Tryz.f154:=⟨Tryz.func154,Tryz.call154⟩
instance fi229:FI Tryz.prog 229 Tryz.f229:=⟨Tryz.func229,Tryz.call229⟩
instance fi203:FI Tryz.prog 203 Tryz.f203:=⟨Tryz.func203,Tryz.call203⟩
instance fi306:FI Tryz.prog 306 Tryz.f306:=⟨Tryz.func306,Tryz.call306⟩
instance fi249:FI Tryz.prog 249 Tryz.f249:=⟨Tryz.func249,Tryz.call249⟩
instance fi161:FI Tryz.prog 161 Tryz.f161:=⟨Tryz.func161,Tryz.call161⟩
instance fi246:FI Tryz.prog 246 Tryz.f246:=⟨Tryz.func246,Tryz.call246⟩
instance fi138:FI Tryz.prog 138 Tryz.f138:=⟨Tryz.func138,Tryz.call138⟩
instance fi215:FI Tryz.prog 215 Tryz.f215:=⟨Tryz.func215,Tryz.call215⟩
instance fi137:FI Tryz.prog 137 Tryz.f137:=⟨Tryz.func137,Tryz.call137⟩
instance fi214:FI Tryz.prog 214 Tryz.f214:=⟨Tryz.func214,Tryz.call214⟩
instance fi133:FI Tryz.prog 133 Tryz.f133:=⟨Tryz.func133,Tryz.call133⟩
instance fi207:FI Tryz.prog 207 Tryz.f207:=⟨Tryz.func207,Tryz.call207⟩
instance fi132:FI Tryz.prog 132 Tryz.f132:=⟨Tryz.func132,Tryz.call132⟩
instance fi206:FI Tryz.prog 206 Tryz.f206:=⟨Tryz.func206,Tryz.call206⟩
instance fi213:FI Tryz.prog 213 Tryz.f213:=⟨Tryz.func213,Tryz.call213⟩
instance fi266:FI Tryz.prog 266 Tryz.f266:=⟨Tryz.func266,Tryz.call266⟩
instance fi294:FI Tryz.prog 294 Tryz.f294:=⟨Tryz.func294,Tryz.call294⟩
instance fi228:FI Tryz.prog 228 Tryz.f228:=⟨Tryz.func228,Tryz.call228⟩
instance fi279:FI Tryz.prog 279 Tryz.f279:=⟨Tryz.func279,Tryz.call279⟩

def flatL (n:Nat) (f:Nat→List D):List D:=(List.range n).flatMap f
theorem flatL_len {n m:Nat} {f:Nat→List D} (h:∀ e,e<n→(f e).length=m):(flatL n f).length=n*m:=by
 unfold flatL
 induction n with
 | zero=>simp
 | succ n ih=>rw [List.range_succ,List.flatMap_append,List.length_append,ih (fun e he=>h e (by omega))];simp [h n (by omega),Nat.add_mul]
theorem flatL_at {n m:Nat} {f:Nat→List D} (h:∀ e,e<n→(f e).length=m) {e c:Nat} (he:e<n) (hc:c<m):dl (flatL n f) (e*m+c)=dl (f e) c:=by
 induction n with
 | zero=>omega
 | succ n ih=>
  have hl:=flatL_len (n:=n) (fun e he=>h e (by omega))
  have e0:flatL (n+1) f=flatL n f++f n:=by unfold flatL;rw [List.range_succ,List.flatMap_append];simp
  rw [e0,dl_eq,List.getD_eq_getElem?_getD]
  rcases Nat.lt_or_ge e n with q | q
  ·rw [List.getElem?_append_left (by rw [hl];have:(e+1)*m≤n*m:=Nat.mul_le_mul_right m q;rw [Nat.add_mul] at this;omega)]
   have:=ih (fun e he=>h e (by omega)) q
   rw [dl_eq,List.getD_eq_getElem?_getD] at this
   exact this
  ·obtain rfl:e=n:=by omega
   rw [List.getElem?_append_right (by omega),hl,show e*m+c - e*m=c by omega,dl_eq,List.getD_eq_getElem?_getD]
section
variable {P:Program} {N:Nat} {o:Oper} {E:Nat→D} {H:Nat→Option Box}
theorem loc_load_all {t:TypeId} {x:Operand} {k n m s:Nat} {f:Nat→List D} (ho:o.op = .load t x) (hd:dstLt o N=true) (hL:LoadIs P t s true) (hs:s=n*m) (hx:Opd E x (.eptr k m 0 0)) (hk:isArr (H k) n m f):Loc P N o E H ⟨[k],o.dst,.agg (flatL n f),[],[]⟩:=
 loc_run (by simp [ho]) hd (fun E1 H1 S Z i a w hF hA hN=>by
  have h1:=hF.opd (hA x (by simp [ho,Op.operands]) _ hx)
  generalize hv:a.eval x=v at h1
  cases h1 with | @eptr _ b cp _ _ _ _ hib=>
  have hk1:=hN k (by simp)
  obtain ⟨t',cp,hAr⟩:=hF.arr (hk1.symm▸hk) hib
  have hfl:∀ e,e<n→(f e).length=m:=by obtain ⟨_,_,_,_,h,_⟩:=hAr;exact h
  subst hs
  have hcell:∀ j,j<n*m→∃ v,w.cell? ⟨b,j,none⟩=some v∧v.oneCell'=true∧Rep Z w noN v (dl (flatL n f) j):=fun j hj=>by
   have hm:0<m:=by
    rcases Nat.eq_zero_or_pos m with q | q
    ·rw [q,Nat.mul_zero] at hj;omega
    ·exact q
   have h2:j / m<n:=Nat.div_lt_of_lt_mul (by rw [Nat.mul_comm];exact hj)
   have h3:=Nat.mod_lt j hm
   have h4:=hAr.cellAt h2 h3
   have h5:j / m*m+j % m=j:=by rw [Nat.mul_comm];exact Nat.div_add_mod j m
   have h6:=flatL_at hfl h2 h3
   rw [h5] at h4 h6
   rw [h6]
   exact h4
  refine ⟨_,run_loadOp ho hL hv (cs:=fun j=>(w.cell? ⟨b,j,none⟩).getD undef) (fun j hj=>?_),ldD_rep (l:=flatL n f) hL.1 (flatL_len hfl) (fun j hj=>?_)⟩
  ·obtain ⟨v,h1,_⟩:=hcell j hj
   rw [addr_add,show 0*m+0+j=j by omega,h1];rfl
  ·obtain ⟨v,h1,h2,h3⟩:=hcell j hj
   rw [h1]
   exact ⟨h2,h3.of_noN⟩)
theorem run_slicePa {a:Act} {w:World} {S:Cx} {Z:Zn} {i:Nm} {t el:TypeId} {x:Operand} {hi:Operand} {h n b:Nat} {info info':TypeInfo} {d':TypeDesc} (hF:Fits S E H Z i a w) (ho:o.op = .slice t x none (some hi) none) [hT:TI P t info (.array n el)] [hT':TI P el info' d'] (hx:a.eval x = .pointer (some ⟨b,0,none⟩)) (hhi:OptIs E (some hi) h n) (h2:h≤n) :
  (execOp a.eval o).run P w = .ok (.value (.slice (some ⟨b,0,none⟩) h n)) w:=by
 have s1:(sizeOf el).run P w = .ok info'.size w:=by simp [sizeOf,typeInfo,hT'.info,Result.andThen]
 have hb:(Instr.sliceBounds false n n none (some (a.eval hi)) none).run P w = .ok (0,h,n) w:=by
  have e2:=hhi.run (P:=P) (code:=.sliceAlen) hF h2
  simp at e2
  simp [Instr.sliceBounds,e2,Result.andThen]
 simp only [execOp,ho,Option.map_none,hx,Instr.sliceAt]
 simp [run_underlying hT.under,Result.andThen,Instr.sureAddr,hb,s1,Addr.add]
theorem loc_slice_ice {t el t':TypeId} {x hi:Operand} {k h n m:Nat} {f:Nat→List D} {info info':TypeInfo} {d':TypeDesc} (ho:o.op = .slice t x none (some hi) none) (hd:dstLt o N=true) [hT:TI P t info (.array n el)] [hT':TI P el info' d'] (hx:Opd E x (.eptr k m 0 0)) (hhi:OptIs E (some hi) h n) (h2:h≤n) (h63:n≤9223372036854775807) (hk:H k=some (.ice t' n m f)):Loc P N o E H ⟨[k],o.dst,.fz false h m f,[],[]⟩:=
 loc_run (by simp [ho]) hd (fun E1 H1 S Z i a w hF hA hN=>by
  have h3:=hF.opd (hA x (by simp [ho,Op.operands]) _ hx)
  have hhi':OptIs E1 (some hi) h n:=by obtain ⟨q,hq⟩:=hhi;exact ⟨q,hA hi (by simp [ho,Op.operands]) _ hq⟩
  generalize hv:a.eval x=v at h3
  cases h3 with | @eptr _ b cp _ _ _ _ hib=>
  have hk1:=hN k (by simp)
  rw [hk] at hk1
  rw [show 0*m+0=0 by omega] at hv
  rcases hF.box k _ hk1 with ⟨b',c',e1,_,_,e4,h5⟩ | ⟨q,_⟩
  ·rw [hib] at e1;cases e1
   obtain ⟨cap,h5⟩:=h5
   refine ⟨_,run_slicePa hF ho hv hhi' h2,?_⟩
   have hfl:∀ e,e<n→(f e).length=m:=by obtain ⟨_,_,_,_,h,_⟩:=h5;exact h
   refine .fz _ _ _ _ _ _ _ (fun e c=>(w.cell? ⟨b,e*m+c,none⟩).getD undef) h2 h63 (fun e he=>hfl e (by omega)) (fun e c he hc=>?_) (fun e c he hc=>?_)
   ·obtain ⟨v,v1,v2,_⟩:=h5.cellAt (e:=e) (c:=c) (by omega) hc
    exact ⟨b,0,rfl,e4 rfl,by rw [Nat.zero_add,v1];rfl,by rw [v1];exact v2⟩
   ·obtain ⟨v,v1,_,v3⟩:=h5.cellAt (e:=e) (c:=c) (by omega) hc
    rw [v1];exact v3
  ·rw [hib] at q;cases q)
end
section
variable {P:Program} {N:Nat} {o:Oper} {E:Nat→D} {H:Nat→Option Box}
theorem loc_buildA {t el:TypeId} {n:Nat} {xs:List (Nat × Operand)} {ds:List (Nat × D)} {info info':TypeInfo} {d':TypeDesc} {z:Value} {l:List D} (ho:o.op = .build t xs.toArray) (hd:dstLt o N=true) [hT:TI P t info (.array n el)] [hT':TI P el info' d'] (hz:info.zero=some z) (h1:(z.cells.toList.all fun z=>z.oneCell')=true) (hx:OpdP E xs ds) (hl:fillD (fun j=>some (j*info'.size,info'.size)) (valL z.cells.toList) ds=some l):Loc P N o E H ⟨[],o.dst,.agg l,[],[]⟩:=
 loc_run (by simp [ho]) hd (fun E1 H1 S Z i a w hF hA hN=>by
  have hz1:(zeroValue t).run P w = .ok z w:=by simp [zeroValue,typeInfo,hT.info,hz,Result.andThen]
  have s1:(sizeOf el).run P w = .ok info'.size w:=by simp [sizeOf,typeInfo,hT'.info,Result.andThen]
  obtain ⟨k1,k2⟩:=hx.spec (E1:=E1) (a:=a) hF (fun x hx d hd=>hA x (by
   obtain ⟨y,hy,rfl⟩:=List.mem_map.1 hx
   simp only [ho,Op.operands]
   simp
   exact ⟨y.1,hy⟩) d hd)
  have h0:CellsRep Z w i z.cells (valL z.cells.toList):=by
   have:=zero_rep (Z:=Z) (w:=w) (i:=i) (zs:=z.cells.toList) (fun x hx=>List.all_eq_true.1 h1 x hx)
   simpa using this
  obtain ⟨cs,f1,f2⟩:=fill_rep (place:=fun j=>some (j*info'.size,info'.size)) ds _ _ _ l k1 k2 h0 hl
  have hr:(Instr.build t (parV a.eval xs).toArray).run P w = .ok (.agg cs) w:=by
   unfold Instr.build
   simp only [Sem.run_bind,hz1,Result.andThen,run_underlying hT.under,s1]
   rw [f1]
   rfl
  refine ⟨.agg cs,?_,?_⟩
  ·simp only [execOp,ho]
   rw [show (Array.map (fun x=>match x with | (i,x)=>(i,a.eval x)) xs.toArray)=(parV a.eval xs).toArray by simp [parV]]
   rw [Sem.run_bind,hr];rfl
  ·have:cs=cs.toList.toArray:=by simp
   rw [this]
   exact .agg i _ _ (by simpa using f2.1) (fun j hj=>by rw [← toArray_getD];exact (f2.2 j hj).1) (fun j hj=>by rw [← toArray_getD];exact (f2.2 j hj).2))
theorem loc_store_all {t t':TypeId} {x y:Operand} {k m n s:Nat} {f f':Nat→List D} {l:List D} (ho:o.op = .store t x y) (hd:o.dst=none) (hx:Opd E x (.eptr k m 0 0)) (hy:Opd E y (.agg l)) (hp:D.free.freeL (fun _=>false) l=true) (hS:SizeIs P t s) (hs0:s=n*m) (hll:l.length=n*m)
  (hf':∀ e,e<n→(f' e).length=m∧∀ c,c<m→dl (f' e) c=dl l (e*m+c)) (hk:H k=some (.arr t' n m f)):Loc P N o E H ⟨[k],o.dst,.any,[(k,some (.arr t' n m f'))],[]⟩:=by
 refine ⟨rfl,by simp [ho],fun E1 H1 h1 h2 h3 S a w hN hR K Q _ hK=>?_⟩
 obtain ⟨Z,i,hF⟩:=hR
 have e1:=hF.opd (Opd.agree (x:=x) (by simp [ho,Op.operands]) h1 hx)
 have e2:=hF.opd (Opd.agree (x:=y) (by simp [ho,Op.operands]) h1 hy)
 obtain ⟨c1,c2⟩:=(e2.nm (i':=noN) (p:=fun _=>false) hp (fun k x hk=>by cases hk)).cells rfl
 simp only [D.cellL] at c1 c2
 generalize hv:a.eval x=v at e1
 cases e1 with | @eptr _ b cp _ _ _ _ hib=>
 rw [show 0*m+0=0 by omega] at hv
 have hk1:=h2 k (by simp)
 rw [hk] at hk1
 rcases hF.box k _ hk1 with ⟨b',_,e1,_,_,_,cs,hB,hs,hnc,hfl,hall⟩ | ⟨q,_⟩
 ·rw [hib] at e1;cases e1
  have hle:n*m≤cp.c*m:=Nat.mul_le_mul_right _ hnc
  unfold Oper.wp
  rw [run_storeOp ho hv rfl (by rw [c1,hll,← hs0];exact hS) hB (by rw [c1,hs,hll];omega) (fun j hj=>(c2 j (by rw [← c1];exact hj)).1)]
  have hl:cs.toList.length=cp.c*m:=by simpa using hs
  have hl2:(a.eval y).cells.toList.length=n*m:=by rw [Array.length_toList,c1,hll]
  obtain ⟨L,hL⟩:∃ L,cs.toList.take 0++(a.eval y).cells.toList++cs.toList.drop (0+(a.eval y).cells.toList.length)=L:=⟨_,rfl⟩
  have key:∀ j,j<n*m→L.toArray.getD j undef=(a.eval y).cells.getD j undef:=fun j hj=>by
   rw [toArray_getD,← hL,List.append_assoc,getD_seg undef cs.toList (a.eval y).cells.toList 0 j (by rw [hl,hl2];omega),if_pos (by rw [hl2];omega),Nat.sub_zero,← toArray_getD,Array.toArray_toList]
  have hLl:L.length=cp.c*m:=by rw [← hL];simp;rw [c1,hll];omega
  rw [hL]
  refine hK _ _ ⟨Z,i,?_⟩
  rw [hd]
  refine hF.turn (C:=.arr t' n m f') (w':=w.setRow b L.toArray) hk1 rfl rfl rfl rfl hib ⟨rfl,rfl,rfl,by simp⟩ (fun y _ hy=>setRow_other _ _ _ _ hy) (fun mm=>⟨_,setRow_heap _ _ _ _ _ _ hB,by simpa using hLl,hnc,fun e' he'=>(hf' e' he').1,fun e' c' he' hc'=>?_⟩)
  have hj:e'*m+c'<n*m:=by
   have:(e'+1)*m≤n*m:=Nat.mul_le_mul_right _ he'
   rw [Nat.add_mul] at this;omega
  rw [key _ hj,(hf' e' he').2 c' hc']
  have mr:∀ {v:Value} {d:D},Rep Z w noN v d→Rep Z (w.setRow b L.toArray) noN v d:=fun hv=>hv.mem (fun o x hx=>⟨hx,mm o x hx⟩)
  have:=c2 (e'*m+c') (by rw [hll];exact hj)
  exact ⟨this.1,mr this.2⟩
 ·rw [hib] at q;cases q
end
section
variable {ro:Option Nat} {P:Program} {N:Nat} {Q:Post} {ops:Array Oper} {rest:List Oper} {env:List (Nat × D)} {box:List (Nat × Option Box)} {done:List Rec} {K:List Rec→List (Nat × D)→List (Nat × Option Box)→Prop} {d:Nat} {ty:TypeId} {pos:String} {aft:Array Edge}
theorem r_ldall {x:Operand} {t el t':TypeId} {k n m:Nat} {f:Nat→List D} {info:TypeInfo} [hT:TI P t info (.array n el)] (h:RunK P N ops rest ((d,.agg (flatL n f))::env) box (done++[⟨[k],some d,.agg (flatL n f),[],[]⟩]) K) (hx:autoParam (Op1 env x (.eptr k m 0 0)) aq13._auto_1) (hb:autoParam (Bl box k (.arr t' n m f)) aq6._auto_1) (hs:info.size=n*m:=by rfl) (hd:Nat.blt d (fsz N)=true:=by rfl):RunK P N ops (⟨some d,.load t x,ty,pos,aft,none⟩::rest) env box done K:=
 run_put (ws:=[]) (fresh:=[]) (loc_load_all rfl hd (ld_agg (hT:=hT) rfl) hs hx.opd ⟨_,.inl hb.eq⟩) rfl h
theorem r_slpa {x y:Operand} {t el t':TypeId} {k c n m:Nat} {kd:IntKind} {f:Nat→List D} {info info':TypeInfo} {d':TypeDesc} [hT:TI P t info (.array n el)] [hT':TI P el info' d'] (h:RunK P N ops rest ((d,.fz false c m f)::env) box (done++[⟨[k],some d,.fz false c m f,[],[]⟩]) K) (hx:autoParam (Op1 env x (.eptr k m 0 0)) aq13._auto_1) (hy:Op1 env y (.val (.int kd (c:Int))):=by first | exact Op1.const _ | (apply Op1.tmp;(repeat (first | exact Lk.here | apply Lk.there rfl));done)) (h2:c≤n:=by omega) (h63:n≤9223372036854775807:=by omega) (hb:autoParam (Bl box k (.ice t' n m f)) aq6._auto_1) (hd:Nat.blt d (fsz N)=true:=by rfl):RunK P N ops (⟨some d,.slice t x none (some y) none,ty,pos,aft,none⟩::rest) env box done K:=
 run_put (ws:=[]) (fresh:=[]) (loc_slice_ice rfl hd hx.opd ⟨kd,hy.opd⟩ h2 h63 hb.eq) rfl h
theorem r_bldA {t el:TypeId} {n:Nat} {xs:List (Nat × Operand)} {ds:List (Nat × D)} {info info':TypeInfo} {d':TypeDesc} {z:Value} {l:List D} [hT:TI P t info (.array n el)] [hT':TI P el info' d'] (h:RunK P N ops rest ((d,.agg l)::env) box (done++[⟨[],some d,.agg l,[],[]⟩]) K) (hx:Op1P env xs ds:=by (repeat (first | exact Op1P.nil | apply Op1P.cons (by first | exact Op1.const _ | exact Op1.fn _ | exact Op1.gl _ | (apply Op1.tmp;(repeat (first | exact Lk.here | apply Lk.there rfl));done))))) (hz:info.zero=some z:=by rfl) (h1:(z.cells.toList.all fun z=>z.oneCell')=true:=by rfl) (hl:Fill (fun j=>some (j*info'.size,info'.size)) (valL z.cells.toList) ds l:=by (repeat (first | exact Fill.nil | apply Fill.cons rfl rfl rfl rfl (by (repeat (first | exact PutL.nil | apply PutL.cons | apply PutL.skip)))))) (hd:Nat.blt d (fsz N)=true:=by rfl):RunK P N ops (⟨some d,.build t xs.toArray,ty,pos,aft,none⟩::rest) env box done K:=
 run_put (ws:=[]) (fresh:=[]) (loc_buildA rfl hd hz h1 hx.opd hl.eq) rfl h
theorem goc {G G':Prop} (g:G') (h:Back G' G:=by ((repeat (apply Back.step;(focus (first | (with_reducible exact c_seq) | (with_reducible exact p_thenN) | (with_reducible exact p_thenR) | (with_reducible exact p_thenX) | (with_reducible exact p_blkN) | (with_reducible exact p_blkR) | ((with_reducible refine p_blkX ?_);rfl) | ((with_reducible refine p_blkY ?_);rfl) | (with_reducible exact awp_block) | (with_reducible exact awp_exit) | (with_reducible exact awp_ret) | (with_reducible exact awp_skip)))));exact Back.refl)):G:=h.go g
theorem r_alcA {t el:TypeId} {n:Nat} {info info':TypeInfo} {d':TypeDesc} {z z':Value} [hT:TI P t info (.array n el)] [hT':TI P el info' d'] (h:RunK P N ops rest ((d,.eptr (1000+d) info'.size 0 0)::env) ((1000+d,some (.arr t n info'.size fun _=>valL z'.cells.toList))::box) (done++[⟨[],some d,.eptr (1000+d) info'.size 0 0,[(1000+d,some (.arr t n info'.size fun _=>valL z'.cells.toList))],[1000+d]⟩]) K)
  (hz:info.zero=some z:=by rfl) (hz':info'.zero=some z':=by rfl) (hc:z.cells.toList=(List.replicate n z'.cells.toList).flatten:=by rfl) (hm:info'.size=z'.cells.toList.length:=by rfl) (h1:(z'.cells.toList.all fun z=>z.oneCell')=true:=by rfl) (hd:Nat.blt d (fsz N)=true:=by rfl):RunK P N ops (⟨some d,.alloc t,ty,pos,aft,none⟩::rest) env box done K:=
 run_put (ws:=[(1000+d,some (.arr t n info'.size fun _=>valL z'.cells.toList))]) (fresh:=[1000+d]) (loc_alloc_arr rfl hd hz hz' hc hm h1) rfl h
theorem r_stall {x y:Operand} {t t' el:TypeId} {k m n:Nat} {f:Nat→List D} {l:List D} {info:TypeInfo} [hT:TI P t info (.array n el)] (f':Nat→List D) (h:RunK P N ops rest env ((k,some (.arr t' n m f'))::box) (done++[⟨[k],none,.any,[(k,some (.arr t' n m f'))],[]⟩]) K) (hf:∀ e,e<n→(f' e).length=m∧∀ c,c<m→dl (f' e) c=dl l (e*m+c)) (hll:l.length=n*m)
  (hx:autoParam (Op1 env x (.eptr k m 0 0)) aq13._auto_1) (hy:autoParam (Op1 env y (.agg l)) aq13._auto_1) (hp:D.free.freeL (fun _=>false) l=true:=by rfl) (hs:info.size=n*m:=by rfl) (hb:autoParam (Bl box k (.arr t' n m f)) aq6._auto_1):RunK P N ops (⟨none,.store t x y,ty,pos,aft,none⟩::rest) env box done K:=
 run_eff (ws:=[(k,some (.arr t' n m f'))]) (loc_store_all rfl rfl hx.opd hy.opd hp (SizeIs.mk (hT:=hT)) hs hll hf hb.eq) rfl h
end

set_option maxRecDepth 20000
section
variable {ro:Option Nat} {P:Program} {N:Nat} {Q:Post} {c:Code} {env:List (Nat × D)} {box:List (Nat × Option Box)} {fn:Func} {r:D} {hs rs:Hs} {E2:Nat→D} {H2:Nat→Option Box}
theorem c_freezeM (k:Nat) {t t2:TypeId} {nb n m2 n2:Nat} {g:Nat→Nat→List D} (h:AWp ro P N c (lk env) (hk ((k,some (.ice t n 1 (fun e=>[.fz false n2 m2 (g e)])))::box)) Q) (hb:autoParam (Bl box k (.mat t t2 nb n m2 n2 g)) aq6._auto_1) (h100:Nat.ble 1000 k=true:=by rfl):AWp ro P N c (lk env) (hk box) Q:=awp_sub (sub_freezeM k hb.eq h100) h
theorem fin_freezeM (k:Nat) {t t2:TypeId} {nb n m2 n2:Nat} {g:Nat→Nat→List D} (h:FinS P fn r hs rs (lk env) (hk ((k,some (.ice t n 1 (fun e=>[.fz false n2 m2 (g e)])))::box))) (hb:autoParam (Bl box k (.mat t t2 nb n m2 n2 g)) aq6._auto_1) (h100:Nat.ble 1000 k=true:=by rfl):FinS P fn r hs rs (lk env) (hk box):=h.sub (sub_freezeM k hb.eq h100)
theorem sub_mat (k:Nat) (g':Nat→Nat→List D) {t t2:TypeId} {nb n m2 n2:Nat} {g:Nat→Nat→List D} (he:∀ e x,e<n→x<n2→g e x=g' e x) (hl:∀ e x,(g' e x).length=m2) (h:Sub (lk env) (hk ((k,some (.mat t t2 nb n m2 n2 g'))::box)) E2 H2) (hb:autoParam (Bl box k (.mat t t2 nb n m2 n2 g)) aq6._auto_1):Sub (lk env) (hk box) E2 H2:=
 Sub.trans (sub_box k _ (by rw [hb.eq];exact .mat (fun e he' x hx=>⟨hl e x,fun c hc=>by rw [he e x he' hx];exact inferInstance⟩)) rfl) h
theorem c_mat (k:Nat) (g':Nat→Nat→List D) {t t2:TypeId} {nb n m2 n2:Nat} {g:Nat→Nat→List D} (he:∀ e x,e<n→x<n2→g e x=g' e x) (hl:∀ e x,(g' e x).length=m2) (h:AWp ro P N c (lk env) (hk ((k,some (.mat t t2 nb n m2 n2 g'))::box)) Q) (hb:autoParam (Bl box k (.mat t t2 nb n m2 n2 g)) aq6._auto_1):AWp ro P N c (lk env) (hk box) Q:=awp_sub (sub_mat k g' he hl (Sub.refl _ _) hb) h
theorem fin_mat (k:Nat) (g':Nat→Nat→List D) {t t2:TypeId} {nb n m2 n2:Nat} {g:Nat→Nat→List D} (he:∀ e x,e<n→x<n2→g e x=g' e x) (hl:∀ e x,(g' e x).length=m2) (h:FinS P fn r hs rs (lk env) (hk ((k,some (.mat t t2 nb n m2 n2 g'))::box))) (hb:autoParam (Bl box k (.mat t t2 nb n m2 n2 g)) aq6._auto_1):FinS P fn r hs rs (lk env) (hk box):=h.sub (sub_mat k g' he hl (Sub.refl _ _) hb)
theorem putG_at {n e:Nat} {g:Nat→Nat→List D} {f:Nat→List D} (h:e<n):putG n g f e=g e:=by unfold putG;rw [show Nat.blt e n=true by simpa using h]
theorem putG_new {n:Nat} {g:Nat→Nat→List D} {f:Nat→List D}:putG n g f n=f:=by unfold putG;rw [blt_self]
theorem putG_snoc {n n2:Nat} {g:Nat→Nat→List D} {f:Nat→List D} (h:∀ x,x<n2→f x=g n x):∀ e x,e<n+1→x<n2→putG n g f e x=g e x:=fun e x he hx=>by
 by_cases q:e=n
 ·subst q;rw [putG_new];exact h x hx
 ·rw [putG_at (by omega)]
theorem c_nilcellM (kb cc k:Nat) (tt t2:TypeId) (m2 n2:Nat) (g:Nat→Nat→List D) {tb:TypeId} {ds ds':List D} (h:AWp ro P N c (lk env) (hk ((kb,some (.lit tb ds'))::(k,some (.mat tt t2 0 0 m2 n2 g))::box)) Q) (hl:autoParam (Bl box kb (.lit tb ds)) aq6._auto_1) (hds:At ds cc (.val (.slice none 0 0)):=by (repeat (first | exact At.here | apply At.there))) (hp:PutL ds cc [.sl k 1 0] ds':=by (repeat (first | exact PutL.nil | apply PutL.cons | apply PutL.skip))) (hb:hk box k=none:=by rfl) (h100:Nat.ble 1000 k=true:=by rfl):AWp ro P N c (lk env) (hk box) Q:=
 awp_sub (sub_nilcellB kb cc k 1 _ (.inr ⟨_,_,_,_,_,rfl⟩) hl.eq hds.spec.2 hp.set.1 (blt_of hds.spec.1) hb h100) h
end
section
variable {ro:Option Nat} {P:Program} {N:Nat} {Q:Post} {c:Code} {env:List (Nat × D)} {box:List (Nat × Option Box)} {fn:Func} {r:D} {hs rs:Hs}
end
inductive BoxAllN (ks:List Nat) (box:List (Nat × Option Box)):Hs→Prop where
 | nil:BoxAllN ks box []
 | cons {k:Nat} {B:Box} {hs:Hs} (h:Bl box k B) (hm:B.mut=true) (hf:B.free (fun x=>memB x ks)=true) (r:BoxAllN ks box hs):BoxAllN ks box ((k,B)::hs)
theorem BoxAllN.at {ks:List Nat} {box:List (Nat × Option Box)} {hs:Hs} (h:BoxAllN ks box hs):∀ k B,(k,B)∈hs→hk box k=some B∧B.mut=true∧B.free (fun x=>memB x ks)=true:=by
 induction h with
 | nil=>intro k B h;cases h
 | cons h hm hf _ ih=>
  intro k B hkB
  rcases List.mem_cons.1 hkB with e | e
  ·cases e;exact ⟨h.eq,hm,hf⟩
  ·exact ih k B e
theorem finN {P:Program} {env:List (Nat × D)} {box:List (Nat × Option Box)} {fn:Func} {r:D} {ds:List D} {rs:Hs}
  (hr:autoParam (Res1 P env box fn.results.toList ds) aq2._auto_1)
  (hd:resD ds=r:=by rfl) (hf:r.free (fun k=>memB k rs.keys)=true:=by rfl) (hb:autoParam (BoxAllN rs.keys box rs) aq14._auto_1):FinS P fn r [] rs (lk env) (hk box):=by
 refine ⟨_,_,Sub.refl _ _,ds,hr.is,fun S a w Z i v hF hv=>?_,fun k B hm=>hb.at k B hm⟩
 subst hd
 refine hv.nm hf (fun k x hk e=>?_)
 show (if k∈([]++rs).map (fun y:Nat × Box=>y.1) then i k else none)=some x
 have hm:k∈([]++rs).map (fun y:Nat × Box=>y.1):=memB_spec hk
 rw [if_pos hm]
 exact e
section
variable {ro:Option Nat} {P:Program} {N:Nat} {Q:Post} {ops:Array Oper} {rest:List Oper} {env:List (Nat × D)} {box:List (Nat × Option Box)} {done:List Rec} {K:List Rec→List (Nat × D)→List (Nat × Option Box)→Prop} {d:Nat} {ty:TypeId} {pos:String} {aft:Array Edge}
theorem r_callN {x:Operand} {xs:List Operand} {ts:Array TypeId} {f:FuncId} {fn:Func} {ds ads caps:List D} {r r' d0:D} {k0:Nat} {t t2:TypeId} {nb n m2 n2:Nat} {g:Nat→Nat→List D} [hf:FI P f fn] [hod:OldDL ds] [hnew:NewD r] [hnb:AllNew [(k0,(.mat t t2 nb n m2 n2 g))]] (hden:DenH P f ds [] r [] [(k0,(.mat t t2 nb n m2 n2 g))]) (hr:r.ren (fun _=>1000+d)=r') (h:RunK P N ops rest ((d,r')::env) ((1000+d,some (.mat t t2 nb n m2 n2 g))::box) (done++[⟨nsOf box (ads++caps),some d,r',[(1000+d,some (.mat t t2 nb n m2 n2 g))],[1000+d]⟩]) K) (hx:autoParam (Op1 env x d0) aq1._auto_1) (hcl:autoParam ((d0 = .val (.func (.func f) #[] #[])∧caps=[])∨d0 = .clo f caps) aq12._auto_1) (ha:autoParam (Op1L env xs ads) aq3._auto_1) (hv:autoParam (ArgVL true [] (nsOf box (ads++caps)) [] (fun _=>1000+d) (hk box) (ads++caps) ds) aq0._auto_1) (hd:Nat.blt d (fsz N)=true:=by rfl):RunK P N ops (⟨some d,.call { callee:=.value x,args:=xs.toArray,argTypes:=ts },ty,pos,aft,none⟩::rest) env box done K:=
 run_put (ws:=[(1000+d,some (.mat t t2 nb n m2 n2 g))]) (fresh:=[1000+d]) (by have:=loc_call (lend:=true) (ρ:=fun _=>1000+d) (P:=P) (N:=N) (o:=⟨some d,.call { callee:=.value x,args:=xs.toArray,argTypes:=ts },ty,pos,aft,none⟩) rfl hd hx.opd hcl ha.opd hden hv (fun k B hm=>by cases hm) (fun k hk=>by cases hk) rfl rfl (fun h=>⟨hnew,hnb⟩);rw [hr] at this;exact this) rfl h
end
inductive FrD (k n:Nat) (F:Nat→List D):D→D→Prop where
 | id {d:D} (h:d.free (fun _=>false)=true):FrD k n F d d
 | sl {len:Nat} (h:len≤n):FrD k n F (.sl k 1 len) (.fz false len 1 F)
 | agg1 {d d':D} {l l':List D} (h:FrD k n F d d') (t:FrD k n F (.agg l) (.agg l')):FrD k n F (.agg (d::l)) (.agg (d'::l'))
 | agg0:FrD k n F (.agg []) (.agg [])
 | tup1 {d d':D} {l l':List D} (h:FrD k n F d d') (t:FrD k n F (.tup l) (.tup l')):FrD k n F (.tup (d::l)) (.tup (d'::l'))
 | tup0:FrD k n F (.tup []) (.tup [])
theorem FrD.rep {k n m2 n2 nb:Nat} {t t2:TypeId} {g:Nat→Nat→List D} {Z Z':Zn} {w:World} {i:Nm} {b:Nat} {cp:Cp} (hi:i k=some (some (b,cp))) (hM:MatAt Z w b cp t t2 nb n m2 n2 g) (hz:∀ o x,Z o x→Z' o x) (hf:∀ x,Foot (.mat t t2 nb n m2 n2 g) (i k) x→Z' false x) {d d':D} (h:FrD k n (fun e=>[.fz false n2 m2 (g e)]) d d'):∀ v,Rep Z w i v d→Rep Z' w noN v d':=by
 have mm:∀ {v:Value} {d:D} {j:Nm},Rep Z w j v d→Rep Z' w j v d:=fun h=>h.mem (fun o x hx=>⟨hz o x hx,rfl⟩)
 induction h with
 | id h=>exact fun v hv=>mm (hv.nm h (fun k x hk=>by cases hk))
 | @sl len h=>
  intro v hv
  cases hv with
  | sl0 _ _ _ h'=>rw [hi] at h';cases h'
  | @sl _ b' _ _ _ cap hib h1 h2=>
   rw [hi] at hib;cases hib
   obtain ⟨cs,hB,hcs,hnb,hnn,hrw,_⟩:=hM
   refine .fz _ _ _ len cp.c 1 _ (fun e _=>cs.getD e undef) h1 h2 (fun _ _=>rfl) (fun e c he hc=>⟨b,0,rfl,hf b (.root hi),?_,?_⟩) (fun e c he hc=>?_)
   ·obtain rfl:c=0:=by omega
    rw [Nat.mul_one,Nat.add_zero,Nat.zero_add]
    exact hB.cell _ (by omega)
   ·obtain ⟨b2,c2,p1,p2,p3,p4,p5⟩:=hrw e (by omega)
    rw [p3];rfl
   ·obtain rfl:c=0:=by omega
    obtain ⟨b2,c2,p1,p2,p3,p4,cs2,hB2,hs2,hnc2,hfl2,hall2⟩:=hrw e (by omega)
    have hf2:Foot (.mat t t2 nb n m2 n2 g) (i k) b2:=⟨b,cp,hi,.inr ⟨e,c2,by show e<n;omega,p1⟩⟩
    rw [p3]
    refine .fz _ _ _ n2 c2 m2 (g e) (fun y c=>cs2.getD (y*m2+c) undef) hnc2 p4 hfl2 (fun y c hy hc=>⟨b2,0,rfl,hf b2 hf2,?_,(hall2 y c hy hc).1⟩) (fun y c hy hc=>mm (hall2 y c hy hc).2)
    have hlt:y*m2+c<cs2.size:=by
     have:(y+1)*m2≤c2*m2:=Nat.mul_le_mul_right _ (by omega)
     rw [Nat.add_mul] at this;omega
    rw [Nat.zero_add];exact hB2.cell _ hlt
 | agg0=>intro v hv;cases hv with | agg _ vs _ hl h1 hr=>exact .agg _ vs _ hl h1 (fun j hj=>by simp at hj)
 | tup0=>intro v hv;cases hv with | tup _ vs _ hl hr=>exact .tup _ vs _ hl (fun j hj=>by simp at hj)
 | agg1 h t ih1 ih2=>
  intro v hv
  cases hv with | agg _ vs _ hl h1 hr=>
  match vs,hl with
  | v0::vs,hl=>
   have r0:=ih1 v0 (hr 0 (by simp))
   have r1:=ih2 _ (.agg i vs _ (by simpa using hl) (fun j hj=>by have:=h1 (j+1) (by simpa using hj);simpa using this) (fun j hj=>by have:=hr (j+1) (by simpa using hj);simpa [dl] using this))
   generalize hq:Value.agg vs.toArray=q at r1
   cases r1 with | agg _ us _ hl' h1' hr'=>
   obtain rfl:vs=us:=by simpa using hq
   refine .agg _ (v0::vs) _ (by simpa using hl') (fun j hj=>?_) (fun j hj=>?_)
   ·cases j with
    | zero=>exact h1 0 (by simp)
    | succ j=>have:=h1' j (by simpa using hj);simpa using this
   ·cases j with
    | zero=>exact r0
    | succ j=>have:=hr' j (by simpa using hj);simpa [dl] using this
 | tup1 h t ih1 ih2=>
  intro v hv
  cases hv with | tup _ vs _ hl hr=>
  match vs,hl with
  | v0::vs,hl=>
   have r0:=ih1 v0 (hr 0 (by simp))
   have r1:=ih2 _ (.tup i vs _ (by simpa using hl) (fun j hj=>by have:=hr (j+1) (by simpa using hj);simpa [dl] using this))
   generalize hq:Value.tuple vs.toArray=q at r1
   cases r1 with | tup _ us _ hl' hr'=>
   obtain rfl:vs=us:=by simpa using hq
   refine .tup _ (v0::vs) _ (by simpa using hl') (fun j hj=>?_)
   ·cases j with
    | zero=>exact r0
    | succ j=>have:=hr' j (by simpa using hj);simpa [dl] using this
theorem DenH.frozen {P:Program} {f:FuncId} {ds:List D} {r r2:D} {k0 nb n m2 n2:Nat} {t t2:TypeId} {g:Nat→Nat→List D} (h:DenH P f ds [] r [] [(k0,.mat t t2 nb n m2 n2 g)]) (hn:0<n) (hc:FrD k0 n (fun e=>[.fz false n2 m2 (g e)]) r r2):Den P f ds r2:=fun Zc w i args hZ hi hH ha=>by
 refine (h Zc w i args hZ hi hH ha).mono (fun e w' ⟨v,i',Zn',p0,p1,p2,p3,p4,p5,pfl,p6,p7⟩=>?_)
 obtain ⟨_,⟨b,cp,q1,q2,q3⟩ | ⟨q1,q2⟩⟩:=p6.1 k0 (.mat t t2 nb n m2 n2 g) (by simp)
 ·have hft:∀ x,Foot (.mat t t2 nb n m2 n2 g) (i' k0) x→w.heap.size≤x∧x<w'.heap.size:=fun x hx=>⟨p5 k0 (.mat t t2 nb n m2 n2 g) x (by simp) hx,q3.footLt (q1▸hx)⟩
  refine ⟨v,fun _=>none,fun x=>Zn' x∨Foot (.mat t t2 nb n m2 n2 g) (i' k0) x,p0,p1,fun x hx=>hx.elim (p2 x) (hft x),fun k hk=>by simp [Hs.keys] at hk,fun _ _ _=>rfl,fun k B b hm=>by simp at hm,fun k B hm=>by simp at hm,⟨fun k B hm=>by simp at hm,fun k k' B B' b hm=>by simp at hm⟩,?_⟩
  exact (hc.rep (Z':=Z2 Zc fun x=>Zn' x∨Foot (.mat t t2 nb n m2 n2 g) (i' k0) x) q1 q3 (fun o x hx=>by
   cases o with
   | false=>exact .inl hx
   | true=>exact hx.imp id .inl) (fun x hx=>.inr hx) v p7).of_noN
 ·rcases q2 with ⟨_,_,_,e⟩ | ⟨_,_,_,_,_,e⟩
  ·cases e
  ·cases e;omega
section
variable {P:Program} {N:Nat} {o:Oper} {E:Nat→D} {H:Nat→Option Box}
end
section
variable {P:Program} {N:Nat} {ops:Array Oper} {rest:List Oper} {env:List (Nat × D)} {box:List (Nat × Option Box)} {done:List Rec} {K:List Rec→List (Nat × D)→List (Nat × Option Box)→Prop} {d:Nat} {ty:TypeId} {pos:String} {aft:Array Edge}
end

def flatD (p:Nat→Bool):D→Bool
 | .any=>true
 | .val _=>true
 | .eptr k _ _ _=>p k
 | .sl k _ _=>p k
 | .fz _ _ _ _=>true
 | .fptr _ _=>true
 | _=>false
def flatB (p:Nat→Bool):Box→Bool
 | .lit _ ds=>ds.all (flatD p)
 | .arr _ _ _ _=>true
 | _=>false
theorem flat_mut {p:Nat→Bool} {B:Box} {ρ:Nat→Nat} (h:flatB p B=true):B.mut=true∧(B.ren ρ).mut=true:=by
 cases B<;>simp [flatB] at h<;>exact ⟨rfl,rfl⟩
theorem unren {Z:Zn} {w:World} {i ic:Nm} {v:Value} {d:D} {p:Nat→Bool} {ρ:Nat→Nat} (hf:flatD p d=true) (hi:∀ k,p k=true→ic k=i (ρ k)) (h:Rep Z w i v (d.ren ρ)):Rep Z w ic v d:=by
 cases d with
 | any=>exact .any _ _
 | val u=>cases h;exact .val _ _
 | eptr k m e c=>cases h with | eptr _ _ _ _ _ h=>exact .eptr _ _ _ _ _ ((hi k hf).trans h)
 | sl k m len=>
  cases h with
  | sl _ _ _ _ _ h h1 h2=>exact .sl _ _ _ _ _ ((hi k hf).trans h) h1 h2
  | sl0 _ _ _ h=>exact .sl0 _ _ _ ((hi k hf).trans h)
 | fz o n m f=>exact Rep.nm (p:=fun _=>false) h rfl (fun k x e=>by cases e)
 | fptr o l=>exact Rep.nm (p:=fun _=>false) h rfl (fun k x e=>by cases e)
 | _=>cases hf
theorem unrenB {Z:Zn} {w:World} {i ic:Nm} {b:Nat} {c:Cp} {B:Box} {p:Nat→Bool} {ρ:Nat→Nat} (hf:flatB p B=true) (hi:∀ k,p k=true→ic k=i (ρ k)) (h:BoxAt Z w i b c (B.ren ρ)):BoxAt Z w ic b c B:=by
 cases B with
 | lit t ds=>
  obtain ⟨cs,h1,h2,h3⟩:=h
  rw [renL_len] at h2 h3
  refine ⟨cs,h1,h2,fun j hj=>⟨(h3 j hj).1,?_⟩⟩
  have:=(h3 j hj).2
  rw [renL_at] at this
  have hd:flatD p (dl ds j)=true:=by
   rw [dl_eq,List.getD_eq_getElem?_getD,List.getElem?_eq_getElem hj]
   exact List.all_eq_true.1 hf _ (List.getElem_mem hj)
  exact unren hd hi this
 | arr t n m f=>exact h
 | _=>cases hf
section
variable {lend:Bool} {L ns ks:List Nat} {ρ:Nat→Nat} {ro:Option Nat} {P:Program} {N:Nat} {o:Oper} {E E':Nat→D} {H H':Nat→Option Box} {Q:Post} {S:Cx} {Z:Zn} {i:Nm} {a:Act} {w:World}
theorem loc_callF {f : FuncId} {fn : Func} {x : Operand} {xs : List Operand} {ts : Array TypeId} {ds ads caps : List D} {hs hs' rs : Hs} {r d0 : D} (ho : o.op = .call { callee := .value x, args := xs.toArray, argTypes := ts }) (hd : dstLt o N = true) [hf : FI P f fn]
  (hx : Opd E x d0) (hcl : (d0 = .val (.func (.func f) #[] #[]) ∧ caps = []) ∨ d0 = .clo f caps) (ha : OpdL E xs ads) (hden : DenH P f ds hs r hs' rs) (hv : ArgVL lend (hs.keys.map ρ) ns hs.keys ρ H (ads ++ caps) ds)
  [hod : OldDL ds] (hob : ∀ k B, (k, B) ∈ hs → OldB B ∧ B.mut = true ∧ flatB (fun x => memB x hs.keys) B = true ∧ B.nrows = 0) (hH : ∀ k B, (k, B) ∈ hs → H (ρ k) = some (B.ren ρ)) (hns : ∀ k, k ∈ hs.keys → ρ k ∈ ns) (hkeys : hs'.keys = hs.keys) (hinj : injB ρ (hs.keys ++ rs.keys) = true) (hle : lend = true → NewD r ∧ AllNew (hs' ++ rs)) :
  Loc P N o E H ⟨ns, o.dst, r.ren ρ, outL ρ (hs' ++ rs), rs.keys.map ρ⟩ := by
 refine ⟨rfl, by simp [ho], fun E1 H1 h1 h2 h3 S a w hN hR K Q _ hK => ?_⟩
 obtain ⟨Z, i, hF⟩ := hR
 have hops : o.op.operands = #[x] ++ xs.toArray := by simp [ho, Op.operands, Call.operands]
 have e1 := hF.opd (Opd.agree (x := x) (by simp [hops]) h1 hx)
 have hlen := ha.len
 have hasr : ∀ j, j < ads.length → Rep Z w i ((xs.map a.eval).getD j undef) (dl ads j) := fun j hj => by
  have hj' : j < xs.length := by omega
  have := hF.opd (Opd.agree (x := xs[j]) (by rw [hops]; simp) h1 (ha.at j _ (List.getElem?_eq_getElem hj')))
  rw [List.getD_eq_getElem?_getD, List.getElem?_map, List.getElem?_eq_getElem hj']
  exact this
 -- the function's value, and what it captured
 have hfun : ∃ cv : List Value, a.eval x = .func (.func f) #[] cv.toArray ∧ cv.length = caps.length ∧ ∀ j, j < caps.length → Rep Z w i (cv.getD j undef) (dl caps j) := by
  rcases hcl with ⟨rfl, rfl⟩ | rfl
  ·exact ⟨[], e1.valEq, rfl, fun j hj => by simp at hj⟩
  ·generalize hq : a.eval x = v at e1
   cases e1 with | clo _ _ vs _ hl hr => exact ⟨vs, rfl, hl, hr⟩
 obtain ⟨cv, c1, c2, c3⟩ := hfun
 have hrun : (execOp a.eval o).run P w = .ok (.enter f (xs.map a.eval ++ cv).toArray) w := by
  have h3 := hf.enters ((xs.map a.eval).toArray ++ cv.toArray) w
  simp only [execOp, ho, resolve, c1, Deferred.ofValue]
  simp [invoke, Result.andThen] at h3 ⊢
  exact h3
 have hLm : ∀ k, k ∈ hs.keys.map ρ → ∃ B, H1 k = some B ∧ B.mut = true := fun k hk => by
  obtain ⟨k', hk', rfl⟩ := List.mem_map.1 hk
  obtain ⟨⟨k2, B⟩, hm, rfl⟩ := List.mem_map.1 hk'
  exact ⟨B.ren ρ, (h2 _ (hns k2 hk')).trans (hH k2 B hm), (flat_mut (hob k2 B hm).2.2.1).2⟩
 obtain ⟨ic, hic⟩ : ∃ ic : Nm, (fun k => if k ∈ hs.keys then i (ρ k) else none) = ic := ⟨_, rfl⟩
 have hic1 : ∀ k, k ∈ hs.keys → ic k = i (ρ k) := fun k hk => by rw [← hic]; exact if_pos hk
 have hic2 : ∀ k, k ∉ hs.keys → ic k = none := fun k hk => by rw [← hic]; exact if_neg hk
 have hinj' := injB_spec hinj
 let Zc : Nat → Prop := ZL lend (hs.keys.map ρ) Z i w true
 have hsub := ZL.sub (lend := lend) (L := hs.keys.map ρ) (i := i) (w := w) hF.zsub
 have hZc : ∀ b, Zc b → b < w.heap.size := fun b hb => by
  rcases hb with q | ⟨_, _, q, _⟩
  ·exact (hF.zOld b q).1
  ·exact q
 have hbox : ∀ k B, (k, B) ∈ hs → BoxHas (fun o b => o = true ∧ Zc b) w ic k B := fun k B hm => by
  have hkk : k ∈ hs.keys := List.mem_map.2 ⟨_, hm, rfl⟩
  have q3 := (h2 _ (hns k hkk)).trans (hH k B hm)
  obtain ⟨k', hk'⟩ : ∃ k', ρ k = k' := ⟨_, rfl⟩
  rw [hk'] at q3
  obtain ⟨g1, g2, g3, g4⟩ := hob k B hm
  refine ⟨g2, ?_⟩
  have hm2 := flat_mut (ρ := ρ) g3
  rw [hic1 k hkk]
  rcases hF.box k' _ q3 with ⟨b, c, p1, _, p3, _, p5⟩ | ⟨p1, p2⟩
  ·rw [← hk'] at p1
   refine .inl ⟨b, c, p1, fun x hf hz => ?_, g1.od (fun b hb => ⟨rfl, .inl hb⟩) (unrenB g3 (fun k hk => hic1 k (memB_spec hk)) p5)⟩
   obtain ⟨cp, e⟩ := hf.flat g4
   rw [p1] at e; cases e
   rcases hz.2 with hz | ⟨_, _, _, hz⟩
   ·exact (p3 hm2.2).1 hz
   ·exact hz _ c (List.mem_map.2 ⟨k, hkk, rfl⟩) p1
  ·rw [← hk'] at p1
   refine .inr ⟨p1, ?_⟩
   cases B with
   | arr t n m f =>
    rcases p2 with p2 | ⟨t', m', f', p2 | p2⟩ | ⟨_, _, _, _, _, p2⟩
    ·cases p2
    ·cases p2; exact .inl ⟨t, m, f, rfl⟩
    ·cases p2
    ·cases p2
   | lit t l =>
    rcases p2 with p2 | ⟨t', m', f', p2 | p2⟩ | ⟨_, _, _, _, _, p2⟩ <;> cases p2
   | _ => cases g3
 have hkeyBox : ∀ k, k ∈ hs.keys → ∃ B, (∃ B0, (k, B0) ∈ hs) ∧ H1 (ρ k) = some B ∧ B.mut = true := fun k hk => by
  obtain ⟨⟨k2, B⟩, hm, rfl⟩ := List.mem_map.1 hk
  exact ⟨B.ren ρ, ⟨B, hm⟩, (h2 _ (hns k2 hk)).trans (hH k2 B hm), (flat_mut (hob k2 B hm).2.2.1).2⟩
 have hHs : HsAt (fun o b => o = true ∧ Zc b) w ic hs := ⟨hbox, fun k k' B B' b hm hm' f1 f2 => by
  have hk : k ∈ hs.keys := List.mem_map.2 ⟨_, hm, rfl⟩
  have hk' : k' ∈ hs.keys := List.mem_map.2 ⟨_, hm', rfl⟩
  obtain ⟨c, p1⟩ := f1.flat (hob k B hm).2.2.2
  obtain ⟨c', p2⟩ := f2.flat (hob k' B' hm').2.2.2
  obtain ⟨B1, _, g1, g2⟩ := hkeyBox k hk
  obtain ⟨B1', _, g1', g2'⟩ := hkeyBox k' hk'
  rw [hic1 k hk] at p1
  rw [hic1 k' hk'] at p2
  exact hinj' k k' (List.mem_append_left _ hk) (List.mem_append_left _ hk') (hF.injR _ _ B1 B1' b c c' g1 g1' g2 g2' p1 p2)⟩
 have hargs : RepsI (fun o b => o = true ∧ Zc b) w ic (xs.map a.eval ++ cv) ds := by
  have hl := hv.len
  refine ⟨by simp at hl ⊢; omega, fun j hj => ?_⟩
  have hr : Rep Z w i ((xs.map a.eval ++ cv).getD j undef) (dl (ads ++ caps) j) := by
   rw [List.getD_eq_getElem?_getD, dl_eq, List.getD_eq_getElem?_getD]
   by_cases q : j < ads.length
   ·have := hasr j q
    rw [List.getD_eq_getElem?_getD, dl_eq, List.getD_eq_getElem?_getD] at this
    rw [List.getElem?_append_left (by simpa [hlen] using q), List.getElem?_append_left q]
    exact this
   ·have := c3 (j - ads.length) (by simp at hl; omega)
    rw [List.getD_eq_getElem?_getD, dl_eq, List.getD_eq_getElem?_getD] at this
    rw [List.getElem?_append_right (by simp [hlen]; omega), List.getElem?_append_right (by omega)]
    simpa [hlen] using this
  have := hv.at j H1 h2 S E1 a w Z i _ hF hLm hr
  rw [hic] at this
  exact (hod.od j).od (fun b hb => ⟨rfl, hb⟩) this
 unfold Oper.wp
 rw [hrun]
 refine (hden Zc w ic _ hZc hic2 hHs hargs).mono (fun e w' ⟨v, i', Zn', p0, p1, p2, p3, p4, p5, pfl, p6, p7⟩ => ?_)
 subst p0
 have hne : ∀ b k B c, H1 k = some B → B.mut = true → i k = some (some (b, c)) → ¬ Z true b := fun b k B c q1 q2 q3 => by
  rcases hF.box k B q1 with ⟨b', c', e1, _, e3, _⟩ | ⟨e1, _⟩
  ·rw [q3] at e1; cases e1; exact (e3 q2).1
  ·rw [q3] at e1; cases e1
 have hltb : ∀ b k B c, H1 k = some B → i k = some (some (b, c)) → b < w.heap.size := fun b k B c q1 q3 => by
  rcases hF.box k B q1 with ⟨b', c', e1, _, _, _, e3⟩ | ⟨e1, _⟩
  ·rw [q3] at e1; cases e1; exact e3.lt
  ·rw [q3] at e1; cases e1
 -- the caller's names behind the call
 obtain ⟨i2, hi2⟩ : ∃ i2 : Nm, ∀ x, (∀ k, k ∈ rs.keys → ρ k = x → i2 x = i' k) ∧ ((∀ k, k ∈ rs.keys → ρ k ≠ x) → i2 x = i x) := by
  classical
  refine ⟨fun x => if h : ∃ k, k ∈ rs.keys ∧ ρ k = x then i' (Classical.choose h) else i x, fun x => ⟨fun k hk e => ?_, fun h => ?_⟩⟩
  ·have h : ∃ k, k ∈ rs.keys ∧ ρ k = x := ⟨k, hk, e⟩
   show dite _ _ _ = _
   rw [dif_pos h]
   have := Classical.choose_spec h
   rw [hinj' _ k (List.mem_append_right _ this.1) (List.mem_append_right _ hk) (this.2.trans e.symm)]
  ·show dite _ _ _ = _
   rw [dif_neg (fun ⟨k, hk, e⟩ => h k hk e)]
 have hrsf : ∀ k, k ∈ rs.keys → H1 (ρ k) = none ∧ 1000 ≤ ρ k := fun k hk => h3 _ (List.mem_map.2 ⟨k, hk, rfl⟩)
 have hdisj : ∀ k k', k ∈ hs.keys → k' ∈ rs.keys → ρ k' ≠ ρ k := fun k k' hk hk' e => by
  obtain ⟨B, _, q, _⟩ := hkeyBox k hk
  rw [← e, (hrsf k' hk').1] at q; cases q
 have hi2h : ∀ k, k ∈ hs.keys → i2 (ρ k) = i' k := fun k hk => by
  rw [(hi2 (ρ k)).2 (fun k' hk' => hdisj k k' hk hk'), p3 k hk, hic1 k hk]
 have hi2r : ∀ k, k ∈ rs.keys → i2 (ρ k) = i' k := fun k hk => (hi2 (ρ k)).1 k hk rfl
 have hi2a : ∀ k, k ∈ (hs' ++ rs).keys → i2 (ρ k) = i' k := fun k hk => by
  rw [keys_app, List.mem_append, hkeys] at hk
  exact hk.elim (hi2h k) (hi2r k)
 have hinj2 : ∀ k k', k ∈ (hs' ++ rs).keys → k' ∈ (hs' ++ rs).keys → ρ k = ρ k' → k = k' := by
  rw [keys_app, hkeys]; exact hinj'
 have hH2 : ∀ x, (∀ k, k ∈ (hs' ++ rs).keys → ρ k ≠ x) → updH H1 (outL ρ (hs' ++ rs)) x = H1 x := fun x h => outL_get h
 have hH3 : ∀ x C, (∃ k, k ∈ (hs' ++ rs).keys ∧ ρ k = x) → updH H1 (outL ρ (hs' ++ rs)) x = some C → ∃ k B, k ∈ (hs' ++ rs).keys ∧ ρ k = x ∧ (k, B) ∈ hs' ++ rs ∧ C = B.ren ρ := fun x C hx hB => by
  obtain ⟨k, B', q1, q2, q3⟩ := outL_some (H := H1) hx
  rw [q3] at hB; cases hB
  exact ⟨k, B', List.mem_map.2 ⟨_, q1, rfl⟩, q2, q1, rfl⟩
 have hnz : ∀ b, Zn' b → ¬ Z true b := fun b hb hz => by have := (p2 b hb).1; have := (hF.zOld b hz).1; omega
 have hsz := hF.kept.size
 obtain ⟨Z3, hZ3⟩ : ∃ Z3 : Zn, (fun o b => Z o b ∨ Zn' b) = Z3 := ⟨_, rfl⟩
 have hZ3i : ∀ o b, Z3 o b ↔ (Z o b ∨ Zn' b) := fun o b => by rw [← hZ3]
 -- data of the callee's are the caller's
 have hup : ∀ {d : D} {v : Value} {j : Nm}, (lend = true → NewD d) → Rep (Z2 Zc Zn') w' j v d → Rep Z3 w' j v d := fun hn hr => by
  cases hlb : lend with
  | true =>
   exact (hn hlb).nw (fun b hb => (hZ3i _ _).2 (.inr hb)) hr
  | false =>
   refine hr.mem (fun o b hz => ⟨(hZ3i _ _).2 ?_, rfl⟩)
   cases o with
   | false => exact .inr hz
   | true =>
    rcases hz with (hz | ⟨q, _⟩) | hz
    ·exact .inl hz
    ·rw [hlb] at q; cases q
    ·exact .inr hz
 have hupB : ∀ {B : Box} {j : Nm} {b : Nat} {cap : Cp}, (lend = true → NewB B) → BoxAt (Z2 Zc Zn') w' j b cap B → BoxAt Z3 w' j b cap B := fun {B j b cap} hn hr => by
  cases hlb : lend with
  | true => exact (hn hlb).nw (fun b hb => (hZ3i _ _).2 (.inr hb)) hr
  | false =>
   refine hr.mem (Nat.le_refl _) (fun _ _ => rfl) (fun o b hz => ⟨(hZ3i _ _).2 ?_, rfl⟩)
   cases o with
   | false => exact .inr hz
   | true =>
    rcases hz with (hz | ⟨q, _⟩) | hz
    ·exact .inl hz
    ·rw [hlb] at q; cases q
    ·exact .inr hz
 have hi2n : ∀ k x, i' k = some x → i2 (ρ k) = some x := fun k x e => by
  by_cases hk : k ∈ (hs' ++ rs).keys
  ·rw [hi2a k hk]; exact e
  ·rw [keys_app, List.mem_append, hkeys, not_or] at hk
   rw [p4 k hk.1 hk.2] at e; cases e
 -- where a block of what the call leaves comes from
 have horg : ∀ k B b, (k, B) ∈ hs' ++ rs → Foot B (i' k) b → ((k, B) ∈ rs ∧ w.heap.size ≤ b) ∨ (k ∈ hs.keys ∧ ∃ B0 c, H1 (ρ k) = some B0 ∧ B0.mut = true ∧ i (ρ k) = some (some (b, c))) := fun k B b hm hf => by
  rcases List.mem_append.1 hm with q | q
  ·have hk : k ∈ hs.keys := by rw [← hkeys]; exact List.mem_map.2 ⟨_, q, rfl⟩
   obtain ⟨c, e⟩ := hf.flat (pfl k B q)
   rw [p3 k hk, hic1 k hk] at e
   obtain ⟨B0, _, g1, g2⟩ := hkeyBox k hk
   exact .inr ⟨hk, B0, c, g1, g2, e⟩
  ·exact .inl ⟨q, p5 k B b q hf⟩
 have hbxo : ∀ x C, (∃ k, k ∈ (hs' ++ rs).keys ∧ ρ k = x) → updH H1 (outL ρ (hs' ++ rs)) x = some C → BoxOk S Z3 w' i2 x C := fun x C hx hB => by
  obtain ⟨k, B, q1, q2, q3, rfl⟩ := hH3 x C hx hB
  obtain ⟨m1, m2⟩ := p6.1 k B q3
  subst q2
  rcases m2 with ⟨b, cap, m2, m3, m4⟩ | ⟨m2, m3⟩
  ·have ho := horg k B b q3 (.root m2)
   refine .inl ⟨b, cap, (hi2a k q1).trans m2, ?_, fun _ => ⟨fun hz => ?_, ?_⟩, fun hi => (by rw [Box.ren_ice] at hi; cases B <;> simp [Box.mut, Box.isIce] at m1 hi), (hupB (fun hl => (hle hl).2.nw k B q3) m4).ren hi2n⟩
   ·rcases ho with ⟨_, q⟩ | ⟨_, B0, c, g1, g2, e⟩
    ·exact .inl (by omega)
    ·rcases hF.box _ B0 g1 with ⟨b', c', e1, e2, _⟩ | ⟨e1, _⟩
     ·rw [e] at e1; cases e1; exact e2
     ·rw [e] at e1; cases e1
   ·rcases (hZ3i _ _).1 hz with hz | hz
    ·rcases ho with ⟨_, q⟩ | ⟨_, B0, c, g1, g2, e⟩
     ·have := (hF.zOld b hz).1
      omega
     ·exact hne b _ B0 c g1 g2 e hz
    ·exact m3 b (.root m2) (.inr hz)
   ·rcases ho with ⟨_, q⟩ | ⟨_, B0, c, g1, g2, e⟩
    ·have := hF.kept1.size; exact .inl (by omega)
    ·rcases hF.box _ B0 g1 with ⟨b', c', e1, _, e3, _⟩ | ⟨e1, _⟩
     ·rw [e] at e1; cases e1; exact (e3 g2).2
     ·rw [e] at e1; cases e1
  ·exact .inr ⟨(hi2a k q1).trans m2, .inr (by
    rcases m3 with ⟨t, m, f, rfl⟩ | ⟨t, t2, m2, n2, g, rfl⟩
    ·exact .inl ⟨t, m, f, .inl rfl⟩
    ·exact .inr ⟨t, t2, m2, n2, g, rfl⟩)⟩
 have hft : ∀ x C b, (∃ k, k ∈ (hs' ++ rs).keys ∧ ρ k = x) → updH H1 (outL ρ (hs' ++ rs)) x = some C → Foot C (i2 x) b → ∃ k B, (k, B) ∈ hs' ++ rs ∧ ρ k = x ∧ Foot B (i' k) b := fun x C b hx hC hf => by
  obtain ⟨k, B, q1, q2, q3, rfl⟩ := hH3 x C hx hC
  subst q2
  rw [hi2a k q1] at hf
  exact ⟨k, B, q3, rfl, hf.unren⟩
 have hF2 : Fits S E1 (updH H1 (outL ρ (hs' ++ rs))) Z3 i2 a w' := by
  refine hF.step (fun x => ∃ k, k ∈ (hs' ++ rs).keys ∧ ρ k = x) ⟨p1.os, p1.tape, p1.output, p1.size⟩ (fun b hb hn => ?_) (fun x hx => ?_) (fun x hx => hH2 x (fun k hk e => hx ⟨k, hk, e⟩)) (fun x hx e => ?_) (fun x hx e => ?_) (fun x hx e => ?_) (fun o b hb => (hZ3i _ _).2 (.inl hb)) (fun b hb => ?_) (fun b hb => ?_) hbxo (fun x C b hx hC hm hf => ?_) (fun x x' C C' b hx hx' h1' h2' _ _ f1 f2 => ?_)
  ·refine p1.block b hb (fun ⟨k, c, hk, e⟩ => ?_)
   obtain ⟨B, _, g1, g2⟩ := hkeyBox k hk
   rw [hic1 k hk] at e
   exact hn (ρ k) B ⟨k, by rw [keys_app, List.mem_append, hkeys]; exact .inl hk, rfl⟩ g1 g2 (.root e)
  ·exact (hi2 x).2 (fun k hk e => hx (e ▸ (hrsf k hk).1))
  ·obtain ⟨k, B, q1, q2, q3⟩ := outL_some (H := H1) hx
   rw [q3] at e; cases e
  ·rw [(hi2 x).2 (fun k hk e' => hx ⟨k, by rw [keys_app, List.mem_append]; exact .inr hk, e'⟩)]
   exact hF.nil x e
  ·rw [(hi2 x).2 (fun k hk e' => by have := (hrsf k hk).2; omega)]
   exact hF.nil x e
  ·rcases (hZ3i _ _).1 hb with q | q
   ·exact .inl q
   ·refine .inr ⟨(p2 b q).2, by have := (p2 b q).1; omega, .inl (p2 b q).1, fun x C hx hC hm hf => ?_⟩
    obtain ⟨k, B, q3, _, hf'⟩ := hft x C b hx hC hf
    obtain ⟨_, ⟨b', cap, m2, m3, _⟩ | ⟨m2, _⟩⟩ := p6.1 k B q3
    ·exact m3 b hf' (.inr q)
    ·obtain ⟨_, _, e, _⟩ := hf'
     rw [m2] at e; cases e
  ·rcases (hZ3i _ _).1 hb with q | q
   ·exact ⟨(hZ3i _ _).2 (.inl (hF.zsub b q)), hF.zNew b q⟩
   ·exact ⟨(hZ3i _ _).2 (.inr q), by have := (p2 b q).1; omega⟩
  ·obtain ⟨k, B, q3, rfl, hf'⟩ := hft x C b hx hC hf
   rcases horg k B b q3 hf' with ⟨_, q⟩ | ⟨hk', B0, c, g1, g2, e⟩
   ·refine .inl ⟨q, ?_⟩
    obtain ⟨_, ⟨b', cap, m2, _, m4⟩ | ⟨m2, _⟩⟩ := p6.1 k B q3
    ·exact m4.footLt (m2 ▸ hf')
    ·obtain ⟨_, _, e, _⟩ := hf'
     rw [m2] at e; cases e
   ·exact .inr ⟨ρ k, B0, hx, fun h _ => ⟨h, c, by rw [hi2h k hk', p3 k hk', hic1 k hk']; exact e⟩, g1, g2, .root e⟩
  ·obtain ⟨k, B, q3, rfl, f1'⟩ := hft x C b hx h1' f1
   obtain ⟨k', B', q3', rfl, f2'⟩ := hft x' C' b hx' h2' f2
   rw [p6.2 k k' B B' b q3 q3' f1' f2']
 refine hK _ _ ⟨Z3, i2, hF2.put (by rw [hN]; exact dstLt_spec hd) ((hup (fun hl => (hle hl).1) p7).rename hi2n)⟩
end
def rn2 (k0 k1:Nat):Nat→Nat
 | 0=>k0
 | _=>k1
section
variable {ro:Option Nat} {P:Program} {N:Nat} {Q:Post} {ops:Array Oper} {rest:List Oper} {env:List (Nat × D)} {box:List (Nat × Option Box)} {done:List Rec} {K:List Rec→List (Nat × D)→List (Nat × Option Box)→Prop} {d:Nat} {ty:TypeId} {pos:String} {aft:Array Edge}
theorem r_callF2 (k0 k1:Nat) {x:Operand} {xs:List Operand} {ts:Array TypeId} {f:FuncId} {fn:Func} {ds ads caps:List D} {r r' d0:D} {B0 B0' C0 C0' B1 B1' C1 C1':Box} [hf:FI P f fn] [hod:OldDL ds] [hnew:NewD r] [hnb:AllNew [(0,B0'),(1,B1')]] [ho0:OldB B0] [ho1:OldB B1] (hden:DenH P f ds [(0,B0),(1,B1)] r [(0,B0'),(1,B1')] []) (h:RunK P N ops rest ((d,r')::env) ([(k0,some C0'),(k1,some C1')]++box) (done++[⟨nsOf box (ads++caps),some d,r',[(k0,some C0'),(k1,some C1')],[]⟩]) K) (hx:autoParam (Op1 env x d0) aq1._auto_1) (hcl:autoParam ((d0 = .val (.func (.func f) #[] #[])∧caps=[])∨d0 = .clo f caps) aq12._auto_1) (ha:autoParam (Op1L env xs ads) aq3._auto_1) (hb0:autoParam (Bl box k0 C0) aq6._auto_1) (hb1:autoParam (Bl box k1 C1) aq6._auto_1) (hc0:C0=B0.ren (rn2 k0 k1):=by rfl) (hc1:C1=B1.ren (rn2 k0 k1):=by rfl) (hm0:memB k0 (nsOf box (ads++caps))=true:=by kernel_rfl) (hm1:memB k1 (nsOf box (ads++caps))=true:=by kernel_rfl) (hfl:([(0,B0),(1,B1)].all fun x=>flatB (fun y=>memB y [0,1]) x.2 && x.2.mut && Nat.beq x.2.nrows 0)=true:=by rfl) (hv:ArgVL true [k0,k1] (nsOf box (ads++caps)) [0,1] (rn2 k0 k1) (hk box) (ads++caps) ds:=by (repeat' (first | exact ArgVL.nil | refine ArgVL.cons ?_ ?_ | exact CvVL.nil | refine CvVL.cons ?_ ?_ | exact ArgV.sl rfl rfl | exact ArgV.eptr rfl rfl | refine ArgV.clo ?_ | refine ArgV.cv ?_ | exact CvV.id rfl | exact CvV.cvt (CvV.id rfl) inferInstance | refine CvV.clo ?_ | refine CvV.agg ?_ | exact CvV.cvt (CvV.sl (Ba.is (by (first | (apply Ba.arr;(repeat (first | exact Bl.here | apply Bl.there rfl));done) | (apply Ba.ice;(repeat (first | exact Bl.here | apply Bl.there rfl)))))) (by omega) rfl (by kernel_rfl)) inferInstance | exact CvV.cvt (CvV.slm (Bl.eq (by (repeat (first | exact Bl.here | apply Bl.there rfl)))) (by omega) rfl (by kernel_rfl)) inferInstance | exact CvV.cvt (CvV.slr (Bl.eq (by (repeat (first | exact Bl.here | apply Bl.there rfl)))) (by omega) (by omega) rfl (by kernel_rfl)) inferInstance | refine CvV.lit (c:=0) (Bl.eq (by (repeat (first | exact Bl.here | apply Bl.there rfl)))) rfl ?_ rfl (by kernel_rfl) | exact CvV.cvt (CvV.icep (Bl.eq (by (repeat (first | exact Bl.here | apply Bl.there rfl)))) (by omega) (by kernel_rfl)) inferInstance))) (hrr:r.ren (rn2 k0 k1)=r':=by rfl) (he0:B0'.ren (rn2 k0 k1)=C0':=by rfl) (he1:B1'.ren (rn2 k0 k1)=C1':=by rfl) (hij:injB (rn2 k0 k1) [0,1]=true:=by rfl) (hd:Nat.blt d (fsz N)=true:=by rfl):RunK P N ops (⟨some d,.call { callee:=.value x,args:=xs.toArray,argTypes:=ts },ty,pos,aft,none⟩::rest) env box done K:=
 run_put (ws:=[(k0,some C0'),(k1,some C1')]) (fresh:=[]) (by
  have hfa:=List.all_eq_true.1 hfl
  have hob:∀ k B,(k,B)∈([(0,B0),(1,B1)]:Hs)→OldB B∧B.mut=true∧flatB (fun x=>memB x (Hs.keys [(0,B0),(1,B1)])) B=true∧B.nrows=0:=fun k B hm=>by
   have h1:=hfa _ hm
   simp only [Bool.and_eq_true] at h1
   refine ⟨?_,h1.1.2,h1.1.1,Nat.eq_of_beq_eq_true h1.2⟩
   cases hm with | head=>exact ho0 | tail _ hm=>cases hm with | head=>exact ho1 | tail _ hm=>cases hm
  have:=loc_callF (lend:=true) (ρ:=(rn2 k0 k1)) (P:=P) (N:=N) (o:=⟨some d,.call { callee:=.value x,args:=xs.toArray,argTypes:=ts },ty,pos,aft,none⟩) rfl hd hx.opd hcl ha.opd hden hv hob (fun k B hm=>by cases hm with | head=>exact (hb0.eq.trans (congrArg some hc0)) | tail _ hm=>cases hm with | head=>exact (hb1.eq.trans (congrArg some hc1)) | tail _ hm=>cases hm) (fun k hk=>by
   simp [Hs.keys] at hk
   rcases hk with rfl | rfl<;>first | exact memB_spec hm0 | exact memB_spec hm1 ) rfl hij (fun _=>⟨hnew,hnb⟩)
  simp only [List.append_nil,outL,hrr,he0,he1] at this
  exact this) rfl h
end
theorem finHN {P:Program} {env:List (Nat × D)} {box:List (Nat × Option Box)} {fn:Func} {r d:D} {ds:List D} {hs:Hs} (hc:CvV false [] (box.map (·.1)) (hk box) d r)
  (hr:autoParam (Res1 P env box fn.results.toList ds) aq2._auto_1)
  (hd:resD ds=d:=by rfl) (hb:autoParam (BoxAllN hs.keys box hs) aq14._auto_1):FinS P fn r hs [] (lk env) (hk box):=by
 refine ⟨_,_,Sub.refl _ _,ds,hr.is,fun S a w Z i v hF hv=>?_,fun k B hm=>?_⟩
 ·subst hd
  refine ((hc _ (fun _ _=>rfl) S _ a w Z i v hF (fun k hk=>by cases hk) hv).mem (Z':=Z) (fun o b hz=>⟨?_,rfl⟩)).of_noN
  rcases hz with q | ⟨q,_⟩
  ·exact q
  ·cases q
 ·rw [List.append_nil] at hm
  rw [List.append_nil]
  exact hb.at k B hm

section
variable {ro:Option Nat} {P:Program} {N:Nat} {Q:Post} {ops:Array Oper} {rest:List Oper} {env:List (Nat × D)} {box:List (Nat × Option Box)} {done:List Rec} {K:List Rec→List (Nat × D)→List (Nat × Option Box)→Prop} {d:Nat} {ty:TypeId} {pos:String} {aft:Array Edge}
theorem r_callMA (k:Nat) {x:Operand} {xs:List Operand} {ts:Array TypeId} {f:FuncId} {fn:Func} {ds ads caps:List D} {r r' d0:D} {B B':Box} {k0:Nat} {t:TypeId} {n m:Nat} {g:Nat→List D} [hf:FI P f fn] [hod:OldDL ds] [hob:AllOld [(0,B)]] [hnew:NewD r] [hnb:AllNew [(0,B'),(k0,(.arr t n m g))]] (hden:DenH P f ds [(0,B)] r [(0,B')] [(k0,(.arr t n m g))]) (hr:r.ren (rn2 k (1000+d))=r') (h:RunK P N ops rest ((d,r')::env) ((k,some B')::(1000+d,some (.arr t n m g))::box) (done++[⟨nsOf box (ads++caps),some d,r',[(k,some B'),(1000+d,some (.arr t n m g))],[1000+d]⟩]) K) (hx:autoParam (Op1 env x d0) aq1._auto_1) (hcl:autoParam ((d0 = .val (.func (.func f) #[] #[])∧caps=[])∨d0 = .clo f caps) aq12._auto_1) (ha:autoParam (Op1L env xs ads) aq3._auto_1) (hb:autoParam (Bl box k B) aq6._auto_1) (hm:memB k (nsOf box (ads++caps))=true:=by kernel_rfl) (hv:autoParam (ArgVL true [k] (nsOf box (ads++caps)) [0] (rn2 k (1000+d)) (hk box) (ads++caps) ds) aq4._auto_1) (hij:injB (rn2 k (1000+d)) [0,k0]=true:=by rfl) (hk1:rn2 k (1000+d) k0=1000+d:=by rfl) (hbf:B'.free (fun _=>false)=true:=by rfl) (hd:Nat.blt d (fsz N)=true:=by rfl):RunK P N ops (⟨some d,.call { callee:=.value x,args:=xs.toArray,argTypes:=ts },ty,pos,aft,none⟩::rest) env box done K:=
 run_put (ws:=[(k,some B'),(1000+d,some (.arr t n m g))]) (fresh:=[1000+d]) (by
  have:=loc_call (lend:=true) (ρ:=rn2 k (1000+d)) (P:=P) (N:=N) (o:=⟨some d,.call { callee:=.value x,args:=xs.toArray,argTypes:=ts },ty,pos,aft,none⟩) rfl hd hx.opd hcl ha.opd hden hv (fun x C hm=>by cases hm with | head=>exact hb.eq | tail _ h=>cases h) (fun x hx=>by cases List.mem_singleton.1 hx;exact memB_spec hm) rfl hij (fun h=>⟨hnew,hnb⟩)
  rw [hr] at this
  simp only [outL,List.cons_append,List.nil_append,renb_free hbf,Hs.keys,List.map_cons,List.map_nil,hk1] at this
  exact this) rfl h
end

theorem DenH.arg {P:Program} {f:FuncId} {ds ds':List D} {hs hs' rs:Hs} {r:D} (h:DenH P f ds' hs r hs' rs) (hc:CvtL ds ds'):DenH P f ds hs r hs' rs:=fun Zc w i args hZ hi hH ha=>
 h Zc w i args hZ hi hH ⟨ha.1.trans hc.len,fun j hj=>(hc.at j).cv (fun b hb=>by cases hb.1) (ha.2 j (by rw [hc.len];exact hj))⟩
theorem dl_any:∀ {l:List D} {j:Nat},l.length≤j→dl l j = .any
 | [],_,_=>rfl
 | _::_,0,h=>by simp at h
 | _::l,j+1,h=>dl_any (l:=l) (by simpa using h)
theorem dl_seg' {l:List D} {c n j:Nat}:dl (takeL n (dropL c l)) j=if j<n then dl l (c+j) else .any:=by
 by_cases q:j<n
 ·rw [if_pos q,dl_seg q]
 ·rw [if_neg q]
  refine dl_any ?_
  rw [takeL_eq];simp;omega
instance (l:List D) (c n:Nat) [h:OldDL l]:OldDL (takeL n (dropL c l)):=⟨fun j=>by
 rw [dl_seg']
 split
 ·exact h.od _
 ·exact (inferInstance:OldD .any)⟩
instance (l:List D) (c n:Nat) [h:NewDL l]:NewDL (takeL n (dropL c l)):=⟨fun j=>by
 rw [dl_seg']
 split
 ·exact h.nw _
 ·exact (inferInstance:NewD .any)⟩
theorem CvtL.seg {l l':List D} (h:CvtL l l') (s c:Nat):CvtL (takeL s (dropL c l)) (takeL s (dropL c l')):=by
 induction h generalizing s c with
 | nil=>cases c<;>cases s<;>exact .nil
 | cons h k ih=>
  cases c with
  | zero=>
   cases s with
   | zero=>exact .nil
   | succ s=>exact .cons h (ih s 0)
  | succ c=>exact ih s c
instance (s c:Nat) (l l':List D) [h:CvtLI l l']:CvtLI (takeL s (dropL c l)) (takeL s (dropL c l')):=⟨h.cv.seg s c⟩
instance (f:Nat→D):CvtLI (List.map f []) []:=⟨.nil⟩
abbrev litA (s n:Nat) (l:List D):D:=.fz true n s (fun e=>takeL s (dropL (e*s) l))
theorem Cvt.litA {s n:Nat} {l:List D} {f:Nat→List D} (h:∀ e,e<n→takeL s (dropL (e*s) l)=f e) (hl:∀ e,e<n→(f e).length=s):Cvt (litA s n l) (.fz true n s f):=Cvt.fz (.inl rfl) (fun e he=>⟨hl e he,fun c _=>by rw [h e he];exact inferInstance⟩)
end Go.Proofs.YtdcenblblimkfaaGreat
