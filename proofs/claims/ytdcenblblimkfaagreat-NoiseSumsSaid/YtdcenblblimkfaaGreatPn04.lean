/- Operations that only read: places, lengths, parts. No walk.
Operations that make boxes. No walk.
Operations that build, store, append, copy. No walk. -/
import Derived.Test.YtdcenblblimkfaaGreatPn02
set_option linter.unusedSimpArgs false
set_option linter.unusedVariables false
set_option linter.unnecessarySimpa false
set_option linter.unusedSectionVars false
namespace Go.Proofs.YtdcenblblimkfaaGreat
open Go.RowKit

section
variable {P:Program} {N:Nat} {o:Oper} {E E1:Nat→D} {H H1:Nat→Option Box} {S:Cx} {Z:Zn} {i:Nm} {a:Act} {w:World}
theorem IndexIs.mk {t el:TypeId} {info info':TypeInfo} {d':TypeDesc} [hT:TI P t info (.slice el)] [hT':TI P el info' d']:IndexIs P t info'.size:=by
 intro b o' len cap k e w he
 have hu:=hT.under
 have h2:(sizeOf el).run P w = .ok info'.size w:=by simp [sizeOf,typeInfo,hT'.info,Result.andThen]
 have h3:(0:Int)≤(e:Int)∧(e:Int)<(len:Int):=⟨Int.natCast_nonneg _,by omega⟩
 have hel:P.elem t=el:=by simp [Program.elem,hu]
 rw [run_indexAt_slice w t _ _ _ _ _ (by rw [hel];exact hu),if_pos h3,hel,h2]
 simp [Result.andThen,addr_add]
theorem run_indexOp {t:TypeId} {x y:Operand} {m b o' len cap:Nat} {k:IntKind} {e:Nat} (ho:o.op = .indexAddr t x y) (hL:IndexIs P t m) (hx:a.eval x = .slice (some ⟨b,o',none⟩) len cap) (hy:a.eval y = .int k (e:Int)) (he:e<len):(execOp a.eval o).run P w = .ok (.value (.pointer (some ⟨b,o'+e*m,none⟩))) w:=by
 simp only [execOp,ho,hx,hy]
 rw [Sem.run_bind,hL b o' len cap k e w he]
 rfl
def IdxIs (z:Int) (n e:Nat):Prop:=z=(e:Int)∧e<n
theorem IdxIs.nat {e n:Nat} (h:e<n):IdxIs (e:Int) n e:=⟨rfl,h⟩
theorem IdxIs.num {e n:Nat} (h:e<n):IdxIs (OfNat.ofNat e) n e:=⟨rfl,h⟩
theorem IdxIs.int {z:Int} {n:Nat} (h0:0≤z) (h:z<(n:Int)):IdxIs z n z.toNat:=⟨by omega,by omega⟩
theorem loc_index {t:TypeId} {x y:Operand} {k m len e:Nat} {kd:IntKind} {z:Int} (ho:o.op = .indexAddr t x y) (hd:dstLt o N=true) (hL:IndexIs P t m) (hx:Opd E x (.sl k m len)) (hy:Opd E y (.val (.int kd z))) (hz:IdxIs z len e):Loc P N o E H ⟨[],o.dst,.eptr k m e 0,[],[]⟩:=
 loc_run (by simp [ho]) hd (fun E1 H1 S Z i a w hF hA hN=>by
  have h1:=hF.opd (hA x (by simp [ho,Op.operands]) _ hx)
  have h2:=(hF.opd (hA y (by simp [ho,Op.operands]) _ hy)).valEq
  obtain ⟨rfl,he⟩:=hz
  generalize hv:a.eval x=v at h1
  cases h1 with
  | @sl _ b _ _ _ cap hib _ _=>
   refine ⟨_,run_indexOp ho hL hv h2 he,?_⟩
   rw [Nat.zero_add]
   exact .eptr _ _ _ _ 0 hib
  | sl0 _ _ _ hib=>omega)
theorem loc_index_fz {t:TypeId} {x y:Operand} {n m e:Nat} {q:Bool} {f:Nat→List D} {kd:IntKind} {z:Int} (ho:o.op = .indexAddr t x y) (hd:dstLt o N=true) (hL:IndexIs P t m) (hx:Opd E x (.fz q n m f)) (hy:Opd E y (.val (.int kd z))) (hm:Nat.blt 0 m=true) (hz:IdxIs z n e):Loc P N o E H ⟨[],o.dst,.fptr q (f e),[],[]⟩:=
 loc_run (by simp [ho]) hd (fun E1 H1 S Z i a w hF hA hN=>by
  have h1:=hF.opd (hA x (by simp [ho,Op.operands]) _ hx)
  have h2:=(hF.opd (hA y (by simp [ho,Op.operands]) _ hy)).valEq
  replace hm:0<m:=by simpa using hm
  obtain ⟨rfl,he⟩:=hz
  generalize hv:a.eval x=v at h1
  cases h1 with
  | fz _ _ ao _ cap _ _ vs q1 q2 hl ha hr=>
   obtain ⟨b,o',rfl,_⟩:=ha e 0 he hm
   refine ⟨_,run_indexOp ho hL hv h2 he,?_⟩
   have hfe:=hl e he
   refine .fptr _ _ _ _ _ (vs e) (fun c hc=>?_) (fun c hc=>hr e c he (by omega))
   obtain ⟨b2,o2,e2,r1,r2,r3⟩:=ha e c he (by omega)
   cases e2
   rw [Nat.add_assoc]
   exact ⟨r1,r2,r3⟩)
def IndexArr (P:Program) (t:TypeId) (n m:Nat):Prop:=∀ (b o:Nat) (k:IntKind) (e:Nat) (w:World),e<n→(Instr.indexAt t (.pointer (some ⟨b,o,none⟩)) (.int k (e:Int))).run P w = .ok (.pointer (some ⟨b,o+e*m,none⟩)) w
theorem IndexArr.mk {t el:TypeId} {n:Nat} {info info':TypeInfo} {d':TypeDesc} [hT:TI P t info (.array n el)] [hT':TI P el info' d']:IndexArr P t n info'.size:=by
 intro b o' k e w he
 have h2:(sizeOf el).run P w = .ok info'.size w:=by simp [sizeOf,typeInfo,hT'.info,Result.andThen]
 have h3:(0:Int)≤(e:Int)∧(e:Int)<(n:Int):=⟨Int.natCast_nonneg _,by omega⟩
 have h4:¬ n≤e:=by omega
 simp [Instr.indexAt,asIntOf,run_underlying hT.under,Instr.sureAddr,Result.andThen,h3,h2,addr_add,h4]
theorem run_indexArrOp {t:TypeId} {x y:Operand} {n m b o':Nat} {k:IntKind} {e:Nat} (ho:o.op = .indexAddr t x y) (hL:IndexArr P t n m) (hx:a.eval x = .pointer (some ⟨b,o',none⟩)) (hy:a.eval y = .int k (e:Int)) (he:e<n):(execOp a.eval o).run P w = .ok (.value (.pointer (some ⟨b,o'+e*m,none⟩))) w:=by
 simp only [execOp,ho,hx,hy]
 rw [Sem.run_bind,hL b o' k e w he]
 rfl
theorem loc_index_arr {t:TypeId} {x y:Operand} {k m n e:Nat} {kd:IntKind} {z:Int} (ho:o.op = .indexAddr t x y) (hd:dstLt o N=true) (hL:IndexArr P t n m) (hx:Opd E x (.eptr k m 0 0)) (hy:Opd E y (.val (.int kd z))) (hz:IdxIs z n e):Loc P N o E H ⟨[],o.dst,.eptr k m e 0,[],[]⟩:=
 loc_run (by simp [ho]) hd (fun E1 H1 S Z i a w hF hA hN=>by
  have h1:=hF.opd (hA x (by simp [ho,Op.operands]) _ hx)
  have h2:=(hF.opd (hA y (by simp [ho,Op.operands]) _ hy)).valEq
  obtain ⟨rfl,he⟩:=hz
  generalize hv:a.eval x=v at h1
  cases h1 with
  | @eptr _ b cap _ _ _ _ hib=>
   refine ⟨_,run_indexArrOp ho hL hv h2 he,?_⟩
   simp only [Nat.zero_mul,Nat.zero_add]
   exact .eptr _ _ _ _ 0 hib)
theorem loc_index_arrL {t:TypeId} {x y:Operand} {k c m n e:Nat} {kd:IntKind} {z:Int} (ho:o.op = .indexAddr t x y) (hd:dstLt o N=true) (hL:IndexArr P t n m) (hx:Opd E x (.eptr k 0 0 c)) (hy:Opd E y (.val (.int kd z))) (hz:IdxIs z n e):Loc P N o E H ⟨[],o.dst,.eptr k 0 0 (c+e*m),[],[]⟩:=
 loc_run (by simp [ho]) hd (fun E1 H1 S Z i a w hF hA hN=>by
  have h1:=hF.opd (hA x (by simp [ho,Op.operands]) _ hx)
  have h2:=(hF.opd (hA y (by simp [ho,Op.operands]) _ hy)).valEq
  obtain ⟨rfl,he⟩:=hz
  generalize hv:a.eval x=v at h1
  cases h1 with
  | @eptr _ b cap _ _ _ _ hib=>
   refine ⟨_,run_indexArrOp ho hL hv h2 he,?_⟩
   have:=Rep.eptr (Z:=Z) (w:=w) i k 0 0 (c+e*m) hib
   rw [← Nat.add_assoc] at this
   exact this)
theorem PartIs.mk {t:TypeId} {info:TypeInfo} {d:TypeDesc} [hT:TI P t info d]:PartIs P t (match isAggD d with | true=>info.size | false=>1) (isAggD d):=by
 have hu:=hT.under
 refine ⟨fun h=>by rw [h],fun vs off w hl=>?_⟩
 have h2:(sizeOf t).run P w = .ok info.size w:=by simp [sizeOf,typeInfo,hT.info,Result.andThen]
 cases hd:isAggD d with
 | true=>
  rw [hd] at hl
  have e:List.take info.size (List.drop off vs)=List.map (fun j=>vs[off+j]?.getD undef) (List.range info.size):=by
   simp only at hl
   apply List.ext_getElem
   ·simp;omega
   ·intro j h1 h2
    simp at h1
    simp [List.getElem?_eq_getElem (show off+j<vs.length by omega)]
  unfold part isAgg
  cases d<;>simp [isAggD] at hd<;>simp [run_underlying hu,Result.andThen,h2,e]
 | false=>
  rw [hd] at hl
  simp only at hl
  unfold part isAgg
  cases d<;>simp_all [run_underlying hu,Result.andThen,isAggD,List.getD_eq_getElem?_getD,List.getElem?_eq_getElem (show off<vs.length by omega)]
theorem run_lenOp {t:TypeId} {x:Operand} {el:TypeId} {ao:Option Addr} {n c:Nat} (ho:o.op = .call { callee:=.builtin .len,args:=#[x],argTypes:=#[t] }) (hu:P.underlying t=some (.slice el)) (hx:a.eval x = .slice ao n c):(execOp a.eval o).run P w = .ok (.value (.int .i64 n)) w:=by
 have hel:P.elem t=el:=by simp [Program.elem,hu]
 have:=run_len_slice (P:=P) w t o.type ao n c (by rw [hel];exact hu)
 simp only [execOp,ho,resolve,Array.map,hx]
 simp [invoke,builtin,hx,this,Result.andThen]
 rfl
theorem loc_len {t:TypeId} {x:Operand} {el:TypeId} {k m n:Nat} {info:TypeInfo} (ho:o.op = .call { callee:=.builtin .len,args:=#[x],argTypes:=#[t] }) (hd:dstLt o N=true) [hT:TI P t info (.slice el)] (hx:Opd E x (.sl k m n)):Loc P N o E H ⟨[],o.dst,.val (.int .i64 n),[],[]⟩:=
 loc_run (by simp [ho]) hd (fun E1 H1 S Z i a w hF hA hN=>by
  have h1:=hF.opd (hA x (by simp [ho,Op.operands,Call.operands]) _ hx)
  generalize hv:a.eval x=v at h1
  cases h1 with
  | sl _ _ _ _ cap _ _ _=>exact ⟨_,run_lenOp ho hT.under hv,.val _ _⟩
  | sl0 _ _ _ _=>exact ⟨_,run_lenOp ho hT.under hv,.val _ _⟩)
theorem loc_len_fz {t:TypeId} {x:Operand} {el:TypeId} {m n:Nat} {q:Bool} {f:Nat→List D} {info:TypeInfo} (ho:o.op = .call { callee:=.builtin .len,args:=#[x],argTypes:=#[t] }) (hd:dstLt o N=true) [hT:TI P t info (.slice el)] (hx:Opd E x (.fz q n m f)):Loc P N o E H ⟨[],o.dst,.val (.int .i64 n),[],[]⟩:=
 loc_run (by simp [ho]) hd (fun E1 H1 S Z i a w hF hA hN=>by
  have h1:=hF.opd (hA x (by simp [ho,Op.operands,Call.operands]) _ hx)
  generalize hv:a.eval x=v at h1
  cases h1 with
  | fz _ _ ao _ cap _ _ vs q1 q2 hl ha hr=>exact ⟨_,run_lenOp ho hT.under hv,.val _ _⟩)
theorem loc_len_str {t:TypeId} {x:Operand} {s:ByteArray} {info:TypeInfo} (ho:o.op = .call { callee:=.builtin .len,args:=#[x],argTypes:=#[t] }) (hd:dstLt o N=true) [hT:TI P t info .string] (hx:Opd E x (.val (.string s))):Loc P N o E H ⟨[],o.dst,.val (.int .i64 s.size),[],[]⟩:=
 loc_run (by simp [ho]) hd (fun E1 H1 S Z i a w hF hA hN=>by
  have h1:=(hF.opd (hA x (by simp [ho,Op.operands,Call.operands]) _ hx)).valEq
  refine ⟨_,?_,.val _ _⟩
  simp only [execOp,ho,resolve,Array.map,h1]
  simp [invoke,builtin,h1,Builtin.len_,run_underlying hT.under,Result.andThen,goInt])
def OpdL (E:Nat→D):List Operand→List D→Prop
 | [],[]=>True
 | x::xs,d::ds=>Opd E x d∧OpdL E xs ds
 | _,_=>False
theorem OpdL.len {E:Nat→D}:∀ {xs:List Operand} {ds:List D},OpdL E xs ds→xs.length=ds.length
 | [],[],_=>rfl
 | _::_,_::_,h=>by simp [OpdL.len h.2]
 | [],_::_,h=>h.elim
 | _::_,[],h=>h.elim
theorem OpdL.at {E : Nat → D} : ∀ {xs : List Operand} {ds : List D}, OpdL E xs ds → ∀ j x, xs[j]? = some x → Opd E x (dl ds j)
  | [], [], _, j, x, hx => by simp at hx
  | y :: xs, d :: ds, h, j, x, hx => by
    cases j with
    | zero => obtain rfl : y = x := by simpa using hx
              exact h.1
    | succ j => exact OpdL.at h.2 j x (by simpa using hx)
  | [], _ :: _, h, _, _, _ => h.elim
  | _ :: _, [], h, _, _, _ => h.elim
theorem loc_makeFunc {fn:FuncId} {xs:List Operand} {ds:List D} (ho:o.op = .makeFunc (.func fn) #[] xs.toArray) (hd:dstLt o N=true) (hx:OpdL E xs ds):Loc P N o E H ⟨[],o.dst,.clo fn ds,[],[]⟩:=
 loc_run (by simp [ho]) hd (fun E1 H1 S Z i a w hF hA hN=>by
  refine ⟨.func (.func fn) #[] (xs.map a.eval).toArray,?_,?_⟩
  ·simp [execOp,ho,Instr.makeFunc,Result.andThen]
  ·refine .clo i fn _ ds (by simpa using hx.len) (fun j hj=>?_)
   have hj':j<xs.length:=by rw [hx.len];exact hj
   have:=hF.opd (hA xs[j] (by simp [ho,Op.operands]) _ (hx.at j _ (List.getElem?_eq_getElem hj')))
   rw [List.getD_eq_getElem?_getD,List.getElem?_map,List.getElem?_eq_getElem hj']
   exact this)
def OptIs (E:Nat→D) (x:Option Operand) (l dflt:Nat):Prop:=match x with | none=>l=dflt | some y=>∃ k,Opd E y (.val (.int k (l:Int)))
theorem OptIs.run {x:Option Operand} {l dflt n:Nat} {code:BoundsCode} (hF:Fits S E H Z i a w) (h:OptIs E x l dflt) (hl:l≤n):(match x.map a.eval with | some v=>Instr.sliceBound v n code | none=>pure dflt:Sem Nat).run P w = .ok l w:=by
 cases x with
 | none=>obtain rfl:l=dflt:=h;rfl
 | some y=>
  obtain ⟨k,hk⟩:=h
  have:=(hF.opd hk).valEq
  have h2:(0:Int)≤(l:Int)∧(l:Int)≤(n:Int):=⟨Int.natCast_nonneg _,by omega⟩
  simp [this,Instr.sliceBound,asIntOf,Result.andThen,h2]
theorem run_sliceOp {t el:TypeId} {x:Operand} {lo hi:Option Operand} {l h n cap:Nat} {ao:Option Addr} {info info':TypeInfo} {d':TypeDesc} (hF:Fits S E H Z i a w) (ho:o.op = .slice t x lo hi none) [hT:TI P t info (.slice el)] [hT':TI P el info' d'] (hx:a.eval x = .slice ao n cap) (hlo:OptIs E lo l 0) (hhi:OptIs E hi h n) (h1:l≤h) (h2:h≤n) (hn:n≤cap) :
  (execOp a.eval o).run P w = .ok (.value (.slice (if cap=l then ao else ao.map (·.add (l*info'.size))) (h - l) (cap - l))) w:=by
 have s1:(sizeOf el).run P w = .ok info'.size w:=by simp [sizeOf,typeInfo,hT'.info,Result.andThen]
 have hb:(Instr.sliceBounds true n cap (lo.map a.eval) (hi.map a.eval) none).run P w = .ok (l,h,cap) w:=by
  have e1:=hlo.run (P:=P) (code:=.sliceB) hF h1
  have e2:=hhi.run (P:=P) (code:=.sliceAcap) hF (Nat.le_trans h2 hn)
  cases hi<;>cases lo<;>simp at e1 e2<;>simp [Instr.sliceBounds,e1,e2,Result.andThen]
 simp only [execOp,ho,Option.map_none,hx,Instr.sliceAt]
 simp [run_underlying hT.under,Result.andThen,Instr.slice,hb,s1]
theorem loc_slice_fz {t el:TypeId} {x:Operand} {lo hi:Option Operand} {l h n m:Nat} {q:Bool} {f:Nat→List D} {info info':TypeInfo} {d':TypeDesc} (ho:o.op = .slice t x lo hi none) (hd:dstLt o N=true) [hT:TI P t info (.slice el)] [hT':TI P el info' d'] (hx:Opd E x (.fz q n m f)) (hlo:OptIs E lo l 0) (hhi:OptIs E hi h n) (hm:m=info'.size) (h1:l≤h) (h2:h≤n):Loc P N o E H ⟨[],o.dst,.fz q (h - l) m (fun e=>f (l+e)),[],[]⟩:=
 loc_run (by simp [ho]) hd (fun E1 H1 S Z i a w hF hA hN=>by
  have h3:=hF.opd (hA x (by simp [ho,Op.operands]) _ hx)
  have ag:∀ (y:Option Operand) (l dflt:Nat),(∀ z,y=some z→z∈o.op.operands)→OptIs E y l dflt→OptIs E1 y l dflt:=fun y l dflt hy hh=>by
   cases y with
   | none=>exact hh
   | some z=>obtain ⟨k,hk⟩:=hh;exact ⟨k,hA z (hy z rfl) _ hk⟩
  have hlo':=ag lo l 0 (fun z hz=>by subst hz;simp [ho,Op.operands]) hlo
  have hhi':=ag hi h n (fun z hz=>by subst hz;simp [ho,Op.operands]) hhi
  generalize hv:a.eval x=v at h3
  cases h3 with
  | fz _ _ ao _ cap _ _ vs q1 q2 hl ha hr=>
   refine ⟨_,run_sliceOp hF ho hv hlo' hhi' h1 h2 q1,?_⟩
   refine .fz _ _ _ _ _ _ _ (fun e c=>vs (l+e) c) (by omega) (by omega) (fun e he=>hl _ (by omega)) (fun e c he hc=>?_) (fun e c he hc=>hr _ _ (by omega) hc)
   obtain ⟨b,p,rfl,r1,r2,r3⟩:=ha (l+e) c (by omega) hc
   rw [if_neg (by omega)]
   refine ⟨b,p+l*info'.size,by simp [addr_add],r1,?_,r3⟩
   rw [show p+l*info'.size+(e*m+c)=p+((l+e)*m+c) by rw [Nat.add_mul,← hm];omega]
   exact r2)
theorem loc_slice_sl {t el:TypeId} {x:Operand} {lo hi:Option Operand} {k h n m:Nat} {info info':TypeInfo} {d':TypeDesc} (ho:o.op = .slice t x lo hi none) (hd:dstLt o N=true) [hT:TI P t info (.slice el)] [hT':TI P el info' d'] (hx:Opd E x (.sl k m n)) (hlo:OptIs E lo 0 0) (hhi:OptIs E hi h n) (h2:h≤n):Loc P N o E H ⟨[],o.dst,.sl k m h,[],[]⟩:=
 loc_run (by simp [ho]) hd (fun E1 H1 S Z i a w hF hA hN=>by
  have h3:=hF.opd (hA x (by simp [ho,Op.operands]) _ hx)
  have ag:∀ (y:Option Operand) (l dflt:Nat),(∀ z,y=some z→z∈o.op.operands)→OptIs E y l dflt→OptIs E1 y l dflt:=fun y l dflt hy hh=>by
   cases y with
   | none=>exact hh
   | some z=>obtain ⟨k,hk⟩:=hh;exact ⟨k,hA z (hy z rfl) _ hk⟩
  have hlo':=ag lo 0 0 (fun z hz=>by subst hz;simp [ho,Op.operands]) hlo
  have hhi':=ag hi h n (fun z hz=>by subst hz;simp [ho,Op.operands]) hhi
  generalize hv:a.eval x=v at h3
  cases h3 with
  | @sl _ b _ _ _ cap hib q1 q2=>
   refine ⟨_,run_sliceOp hF ho hv hlo' hhi' (Nat.zero_le _) h2 q1,?_⟩
   have e:(if cap.c=0 then some (⟨b,0,none⟩:Addr) else (some (⟨b,0,none⟩:Addr)).map (·.add (0*info'.size)))=some ⟨b,0,none⟩:=by
    split
    ·rfl
    ·simp [Addr.add]
   rw [e,Nat.sub_zero,Nat.sub_zero]
   exact .sl _ _ _ _ _ hib (by omega) q2
  | sl0 _ _ _ hib=>
   obtain rfl:h=0:=by omega
   refine ⟨_,run_sliceOp hF ho hv hlo' hhi' (Nat.zero_le _) h2 (Nat.le_refl _),?_⟩
   simp
   exact .sl0 _ _ _ hib)
end


def D.cellL:D→List D
 | .agg l=>l
 | d=>[d]
def D.fit:D→Bool
 | .agg _=>true
 | d=>d.one
theorem toArray_getD {α:Type} (l:List α) (j:Nat) (d:α):l.toArray.getD j d=l.getD j d:=by simp [Array.getD_eq_getD_getElem?,List.getD_eq_getElem?_getD]
section
variable {P:Program} {N:Nat} {o:Oper} {E E1:Nat→D} {H H1:Nat→Option Box} {S:Cx} {Z:Zn} {i:Nm} {a:Act} {w:World}
theorem Rep.cells {v:Value} {d:D} (h:Rep Z w i v d) (hf:d.fit=true):v.cells.size=d.cellL.length∧∀ j,j<d.cellL.length→(v.cells.getD j undef).oneCell'=true∧Rep Z w i (v.cells.getD j undef) (dl d.cellL j):=by
 have one:∀ {v:Value} {d:D},Rep Z w i v d→v.oneCell'=true→d.cellL=[d]→v.cells.size=d.cellL.length∧∀ j,j<d.cellL.length→(v.cells.getD j undef).oneCell'=true∧Rep Z w i (v.cells.getD j undef) (dl d.cellL j):=by
  intro v d h h1 hd
  have hc:v.cells=#[v]:=by cases v<;>first | rfl | (simp [Value.oneCell'] at h1)
  rw [hc,hd]
  refine ⟨rfl,fun j hj=>?_⟩
  obtain rfl:j=0:=by simpa using hj
  exact ⟨h1,h⟩
 have h':=h
 cases h with
 | agg _ vs l hl h1 hr=>
  refine ⟨by simpa [Value.cells,D.cellL] using hl,fun j hj=>?_⟩
  have:(Value.agg vs.toArray).cells.getD j undef=vs.getD j undef:=toArray_getD _ _ _
  rw [this]
  exact ⟨h1 j hj,hr j hj⟩
 | any=>cases hf
 | tup=>cases hf
 | val=>exact one h' hf rfl
 | eptr=>exact one h' rfl rfl
 | sl=>exact one h' rfl rfl
 | sl0=>exact one h' rfl rfl
 | slr=>exact one h' rfl rfl
 | eptrr=>exact one h' rfl rfl
 | fz=>exact one h' rfl rfl
 | fptr=>exact one h' rfl rfl
 | clo=>exact one h' rfl rfl
theorem Fits.new (h:Fits S E H Z i a w) {k:Nat} {cap:Cp} (hk:H k=none) (h100:1000≤k) {B:Box} {ob:Obj} (hI0:(B.isIce || !Nat.beq B.nrows 0)=false)
  (hB:∀ w',(∀ o x,Z o x→w'.heap[x]? = w.heap[x]?)→w'.heap[w.heap.size]? = some ob→w.heap.size<w'.heap.size→∀ i':Nm,(∀ x y,i x=some y→i' x=some y)→BoxAt Z w' i' w.heap.size cap B) :
  Fits S E (updH H [(k,some B)]) Z (fun x=>if x=k then some (some (w.heap.size,cap)) else i x) a (w.alloc ob):=by
 have hI:B.isIce=false:=by cases q:B.isIce<;>simp [q] at hI0 ⊢
 have hN:B.nrows=0:=by simp only [hI,Bool.false_or,Bool.not_eq_false'] at hI0;exact Nat.eq_of_beq_eq_true hI0
 have hsz:=h.kept.size
 have hold:∀ x,x<w.heap.size→(w.alloc ob).heap[x]? = w.heap[x]?:=fun x hx=>Below.heap_alloc w ob x hx
 have hZo:∀ o x,Z o x→(w.alloc ob).heap[x]? = w.heap[x]?:=fun o x hx=>hold x (h.zOld x (by cases o;exact h.zsub x hx;exact hx)).1
 have hext:∀ x y,i x=some y→(fun x=>if x=k then some (some (w.heap.size,cap)) else i x) x=some y:=fun x y e=>by
  have:x≠k:=fun q=>by subst q;rw [h.nil x hk] at e;cases e
  simp only [if_neg this,e]
 have hnew:(w.alloc ob).heap[w.heap.size]? = some ob:=by show (w.heap.push ob)[w.heap.size]? = some ob;exact Array.getElem?_push_size
 refine h.step (fun x=>x=k) ⟨rfl,rfl,rfl,by simp⟩ (fun b hb _=>hold b hb) (fun x hx=>?_) (fun x hx=>?_) (fun x hx e=>?_) (fun x hx e=>?_) (fun x hx e=>?_) (fun o b hb=>hb) (fun b hb=>.inl hb) (fun b hb=>⟨h.zsub b hb,h.zNew b hb⟩) (fun x B' hx hB'=>?_) (fun x B' b hx hB' hm hf=>?_) (fun x x' B1 B2 b hx hx' _ _ _ _ _ _=>hx.trans hx'.symm)
 ·show (if x=k then _ else _)=_;exact if_neg (fun e=>hx (by rw [e];exact hk))
 ·simp only [updH];exact if_neg (Ne.symm hx)
 ·subst hx;simp [updH] at e
 ·show (if x=k then _ else _)=none;rw [if_neg hx];exact h.nil x e
 ·show (if x=k then _ else _)=none;rw [if_neg (by omega)];exact h.nil x e
 ·subst hx
  simp only [updH,if_true] at hB'
  cases hB'
  refine .inl ⟨w.heap.size,cap,if_pos rfl,.inl hsz,fun _=>⟨fun hz=>by have:=(h.zOld _ hz).1;omega,.inl h.kept1.size⟩,fun hi=>(by rw [hI] at hi;cases hi),hB _ hZo hnew (by simp) _ hext⟩
 ·subst hx
  simp only [updH,if_true] at hB'
  cases hB'
  obtain ⟨cp,e⟩:=hf.flat hN
  simp only [if_true] at e
  cases e
  exact .inl ⟨Nat.le_refl _,by simp⟩
theorem loc_new {k:Nat} {B:Box} {r:D} {names:List Nat} (hnd:∀ c,o.op ≠ .defer c) (hd:dstLt o N=true) (hI:(B.isIce || !Nat.beq B.nrows 0)=false)
  (h:∀ (E1:Nat→D) (H1:Nat→Option Box) (S:Cx) (Z:Zn) (i:Nm) (a:Act) (w:World),Fits S E1 H1 Z i a w→(∀ x,x∈o.op.operands→∀ d,Opd E x d→Opd E1 x d)→(∀ k,k∈names→H1 k=H k) →
   ∃ v ob cap,(execOp a.eval o).run P w = .ok (.value v) (w.alloc ob)∧(∀ w',(∀ o x,Z o x→w'.heap[x]? = w.heap[x]?)→w'.heap[w.heap.size]? = some ob→w.heap.size<w'.heap.size→∀ i':Nm,(∀ x y,i x=some y→i' x=some y)→BoxAt Z w' i' w.heap.size cap B)∧∀ w' i',i' k=some (some (w.heap.size,cap))→Rep Z w' i' v r) :
  Loc P N o E H ⟨names,o.dst,r,[(k,some B)],[k]⟩:=by
 refine ⟨rfl,hnd,fun E1 H1 h1 h2 h3 S a w hN hR K Q _ hK=>?_⟩
 obtain ⟨Z,i,hF⟩:=hR
 obtain ⟨v,ob,cap,hv,hB,hr⟩:=h E1 H1 S Z i a w hF (fun x hx d hd=>hd.agree hx h1) h2
 unfold Oper.wp
 rw [hv]
 have hF2:=hF.new (h3 k (by simp)).1 (h3 k (by simp)).2 hI hB
 exact hK _ _ ⟨Z,_,hF2.put (by rw [hN];exact dstLt_spec hd) (hr _ _ (if_pos rfl))⟩
def ZeroIs (P:Program) (t:TypeId) (zs:List Value):Prop:=(∀ w,∃ z,(zeroValue t).run P w = .ok z w∧z.cells=zs.toArray)∧∀ z,z∈zs→z.oneCell'=true
theorem ZeroIs.mk {t:TypeId} {info:TypeInfo} {d:TypeDesc} {z:Value} [hT:TI P t info d] (hz:info.zero=some z) (h1:(z.cells.toList.all fun z=>z.oneCell')=true):ZeroIs P t z.cells.toList:=
 ⟨fun w=>⟨z,by simp [zeroValue,typeInfo,hT.info,hz,Result.andThen],by simp⟩,fun z hz=>List.all_eq_true.1 h1 z hz⟩
def valL:List Value→List D
 | []=>[]
 | v::l=>.val v::valL l
theorem valL_len:∀ (zs:List Value),(valL zs).length=zs.length
 | []=>rfl
 | _::l=>by simp [valL,valL_len l]
theorem valL_at:∀ {zs:List Value} {j:Nat},j<zs.length→dl (valL zs) j = .val (zs.getD j undef)
 | [],j,h=>by simp at h
 | v::l,0,_=>rfl
 | v::l,j+1,h=>by
  simp only [valL,dl]
  rw [valL_at (by simpa using h)]
  simp
theorem getD_mem {α:Type} {l:List α} {j:Nat} (d:α) (hj:j<l.length):l.getD j d∈l:=by
 rw [List.getD_eq_getElem?_getD,List.getElem?_eq_getElem hj]
 exact List.getElem_mem hj
theorem loc_alloc {t:TypeId} {k:Nat} {zs:List Value} (ho:o.op = .alloc t) (hd:dstLt o N=true) (hz:ZeroIs P t zs):Loc P N o E H ⟨[],o.dst,.eptr k 0 0 0,[(k,some (.lit t (valL zs)))],[k]⟩:=
 loc_new (by simp [ho]) hd rfl (fun E1 H1 S Z i a w hF hA hN=>by
  obtain ⟨z,hz1,hz2⟩:=hz.1 w
  refine ⟨.pointer (some ⟨w.heap.size,0,none⟩),.cells zs.toArray t (0,0),1,?_,fun w' h1 hb hlt i' h2=>⟨zs.toArray,hb,by simp [valL_len],fun j hj=>?_⟩,fun w' i' hi=>by simpa using Rep.eptr (Z:=Z) (w:=w') i' k 0 0 0 hi⟩
  ·simp only [execOp,ho,Instr.alloc]
   simp [hz1,Result.andThen,newVar,newRow,hz2]
  ·rw [valL_len] at hj
   rw [valL_at hj,toArray_getD]
   exact ⟨hz.2 _ (getD_mem _ hj),.val _ _⟩)
theorem loc_alloc_arr {t el:TypeId} {k n:Nat} {info info':TypeInfo} {d':TypeDesc} {z z':Value} (ho:o.op = .alloc t) (hd:dstLt o N=true) [hT:TI P t info (.array n el)] [hT':TI P el info' d'] (hz:info.zero=some z) (hz':info'.zero=some z')
  (hc:z.cells.toList=(List.replicate n z'.cells.toList).flatten) (hm:info'.size=z'.cells.toList.length) (h1:(z'.cells.toList.all fun z=>z.oneCell')=true):Loc P N o E H ⟨[],o.dst,.eptr k info'.size 0 0,[(k,some (.arr t n info'.size fun _=>valL z'.cells.toList))],[k]⟩:=
 loc_new (by simp [ho]) hd rfl (fun E1 H1 S Z i a w hF hA hN=>by
  have hz1:(zeroValue t).run P w = .ok z w:=by simp [zeroValue,typeInfo,hT.info,hz,Result.andThen]
  have hcs:z.cells.size=n*info'.size:=by rw [← Array.length_toList,hc,hm];simp
  have hat:∀ n e c,e<n→c<z'.cells.toList.length→(List.replicate n z'.cells.toList).flatten.getD (e*z'.cells.toList.length+c) undef=z'.cells.toList.getD c undef:=by
   intro n
   induction n with
   | zero=>intro e c he;omega
   | succ n ih=>
    intro e c he hc
    rw [List.replicate_succ,List.flatten_cons,List.getD_eq_getElem?_getD]
    cases e with
    | zero=>rw [Nat.zero_mul,Nat.zero_add,List.getElem?_append_left hc,List.getD_eq_getElem?_getD]
    | succ e=>
     rw [List.getElem?_append_right (by rw [Nat.add_mul];omega),show (e+1)*z'.cells.toList.length+c - z'.cells.toList.length=e*z'.cells.toList.length+c by rw [Nat.add_mul];omega]
     have:=ih e c (by omega) hc
     rwa [List.getD_eq_getElem?_getD] at this
  refine ⟨.pointer (some ⟨w.heap.size,0,none⟩),.cells z.cells t (0,0),n,?_,fun w' h1' hb hlt i' h2=>⟨z.cells,hb,hcs,Nat.le_refl _,fun e he=>by rw [valL_len,hm],fun e c he hc'=>?_⟩,fun w' i' hi=>by simpa using Rep.eptr (Z:=Z) (w:=w') i' k info'.size 0 0 hi⟩
  ·simp only [execOp,ho,Instr.alloc]
   simp [hz1,Result.andThen,newVar,newRow]
  ·rw [hm] at hc' ⊢
   have e1:z.cells.getD (e*z'.cells.toList.length+c) undef=z'.cells.toList.getD c undef:=by
    rw [← hat n e c he hc',← hc,← toArray_getD]
   rw [e1,valL_at hc']
   exact ⟨List.all_eq_true.1 h1 _ (getD_mem _ hc'),.val _ _⟩)
theorem loc_box {t:TypeId} {x:Operand} {k:Nat} {d:D} (ho:o.op = .box t x) (hd:dstLt o N=true) (hx:Opd E x d) (hf:d.fit=true):Loc P N o E H ⟨[],o.dst,.eptr k 0 0 0,[(k,some (.lit t d.cellL))],[k]⟩:=
 loc_new (by simp [ho]) hd rfl (fun E1 H1 S Z i a w hF hA hN=>by
  have h1:=hF.opd (hA x (by simp [ho,Op.operands]) _ hx)
  obtain ⟨c1,c2⟩:=h1.cells hf
  refine ⟨.pointer (some ⟨w.heap.size,0,none⟩),.cells (a.eval x).cells t (0,0),1,?_,fun w' h1 hb hlt i' h2=>⟨(a.eval x).cells,hb,c1,fun j hj=>⟨(c2 j hj).1,((c2 j hj).2.mem (fun o b hz=>⟨hz,h1 o b hz⟩)).ext h2⟩⟩,fun w' i' hi=>by simpa using Rep.eptr (Z:=Z) (w:=w') i' k 0 0 0 hi⟩
  simp only [execOp,ho,Instr.box]
  simp [Result.andThen,newVar,newRow])
def setL (ds:List D) (c:Nat) (xs:List D):List D:=takeL c ds++(xs++dropL (c+xs.length) ds)
theorem getD_seg {α:Type} (u:α) (l vs:List α) (c j:Nat) (h:c+vs.length≤l.length):(l.take c++(vs++l.drop (c+vs.length))).getD j u=if c≤j∧j<c+vs.length then vs.getD (j - c) u else l.getD j u:=by
 simp only [List.getD_eq_getElem?_getD,← List.append_assoc]
 have hm:(l.take c).length=c:=by simp;omega
 have hm2:(l.take c++vs).length=c+vs.length:=by rw [List.length_append,hm]
 by_cases h2:j<c+vs.length
 ·rw [List.getElem?_append_left (by omega)]
  by_cases h1:j<c
  ·rw [List.getElem?_append_left (by omega),if_neg (by omega),List.getElem?_take,if_pos h1]
  ·rw [List.getElem?_append_right (by omega),hm,if_pos (by omega)]
 ·rw [List.getElem?_append_right (by omega),hm2,if_neg (by omega),List.getElem?_drop]
  congr 2
  omega
theorem setL_len {ds:List D} {c:Nat} {xs:List D} (h:c+xs.length≤ds.length):(setL ds c xs).length=ds.length:=by
 unfold setL;rw [takeL_eq,dropL_eq];simp;omega
theorem setL_at {ds:List D} {c j:Nat} {xs:List D} (h:c+xs.length≤ds.length):dl (setL ds c xs) j=if c≤j∧j<c+xs.length then dl xs (j - c) else dl ds j:=by
 unfold setL;rw [takeL_eq,dropL_eq,dl_eq,getD_seg D.any ds xs c j h,dl_eq,dl_eq]
def fillD (place:Nat→Option (Nat × Nat)) (cells:List D):List (Nat × D)→Option (List D)
 | []=>some cells
 | (j,d)::rest=>
  match place j with
  | none=>none
  | some (off,size)=>match d.fit && Nat.beq d.cellL.length size && Nat.ble (off+d.cellL.length) cells.length with
   | true=>fillD place (setL cells off d.cellL) rest
   | false=>none
def CellsRep (Z:Zn) (w:World) (i:Nm) (cs:Array Value) (ds:List D):Prop:=cs.size=ds.length∧∀ j,j<ds.length→(cs.getD j undef).oneCell'=true∧Rep Z w i (cs.getD j undef) (dl ds j)
theorem foldl_set (vs:List Value):∀ (off k:Nat) (cs:Array Value),off+k+vs.length≤cs.size→((vs.zipIdx k).foldl (fun cs (c,j)=>cs.setIfInBounds (off+j) c) cs).toList=cs.toList.take (off+k)++(vs++cs.toList.drop (off+k+vs.length)):=by
 induction vs with
 | nil=>intro off k cs h;simp
 | cons v vs ih=>
  intro off k cs h
  simp only [List.zipIdx_cons,List.foldl_cons]
  rw [ih off (k+1) _ (by simp at h ⊢;omega)]
  simp only [List.length_cons] at h
  apply List.ext_getElem?
  intro j
  simp only [Array.toList_setIfInBounds,List.getElem?_append,List.length_take,List.length_set,Array.length_toList,List.getElem?_take,List.getElem?_set,List.getElem?_drop,List.length_cons,List.getElem?_cons]
  rw [show min (off+(k+1)) cs.size=off+(k+1) by omega,show min (off+k) cs.size=off+k by omega]
  by_cases q1:j<off+k
  ·simp [show j<off+(k+1) by omega,show j<off+k by omega,show ¬ off+k=j by omega,show j<cs.size by omega]
  ·by_cases q2:j=off+k
   ·subst q2
    simp [show off+k<off+(k+1) by omega,show off+k<cs.size by omega]
   ·by_cases q3:j<off+k+1+vs.length
    ·simp only [show ¬ j<off+(k+1) by omega,show j - (off+(k+1))<vs.length by omega,show ¬ j<off+k by omega,show j - (off+k)<vs.length+1 by omega,show ¬ j - (off+k)=0 by omega,if_true,if_false]
     congr 1
    ·simp only [show ¬ j<off+(k+1) by omega,show ¬ j - (off+(k+1))<vs.length by omega,show ¬ j<off+k by omega,show ¬ j - (off+k)<vs.length+1 by omega,show ¬ off+k=j by omega,if_false]
     rw [if_neg (by omega)]
     congr 1;omega
theorem fill_rep {place:Nat→Option (Nat × Nat)}:∀ (ps:List (Nat × D)) (vs:List (Nat × Value)) (cs:Array Value) (ds ds':List D),ps.length=vs.length→(∀ (j:Nat) (x:Nat × D) (y:Nat × Value),ps[j]? = some x→vs[j]? = some y→x.1=y.1∧Rep Z w i y.2 x.2)→CellsRep Z w i cs ds→fillD place ds ps=some ds'→∃ cs',Instr.fill place cs vs=some cs'∧CellsRep Z w i cs' ds'
 | [],[],cs,ds,ds',_,_,hc,h=>by cases h;exact ⟨cs,rfl,hc⟩
 | (j,d)::ps,(j',v)::vs,cs,ds,ds',hl,hp,hc,h=>by
  obtain ⟨rfl,hv⟩:=hp 0 _ _ rfl rfl
  simp only [fillD] at h
  cases hpl:place j with
  | none=>rw [hpl] at h;cases h
  | some os=>
   obtain ⟨off,size⟩:=os
   rw [hpl] at h
   simp only at h
   split at h
   ·rename_i hb
    simp only [Bool.and_eq_true] at hb
    obtain ⟨⟨hb1,hb2⟩,hb3⟩:=hb
    replace hb2:=Nat.eq_of_beq_eq_true hb2
    replace hb3:=Nat.le_of_ble_eq_true hb3
    obtain ⟨k1,k2⟩:v.cells.size=d.cellL.length∧∀ j,j<d.cellL.length→(v.cells.getD j undef).oneCell'=true∧Rep Z w i (v.cells.getD j undef) (dl d.cellL j):=Rep.cells hv hb1
    have k1':v.cells.size=d.cellL.length:=k1
    have hcs:=hc.1
    have hfold:(v.cells.zipIdx.foldl (fun cs (c,j)=>cs.setIfInBounds (off+j) c) cs)=(cs.toList.take off++(v.cells.toList++cs.toList.drop (off+v.cells.toList.length))).toArray:=by
     have:=foldl_set v.cells.toList off 0 cs (by simp;omega)
     simp only [Nat.add_zero] at this
     rw [← this]
     rw [← Array.toList_zipIdx,Array.foldl_toList]
    have hl2:v.cells.toList.length=d.cellL.length:=by simpa using k1'
    have hc':CellsRep Z w i (cs.toList.take off++(v.cells.toList++cs.toList.drop (off+v.cells.toList.length))).toArray (setL ds off d.cellL):=by
     refine ⟨?_,fun j hj=>?_⟩
     ·rw [setL_len hb3];simp;omega
     ·rw [setL_len hb3] at hj
      rw [toArray_getD,getD_seg undef cs.toList v.cells.toList off j (by simp;omega),setL_at hb3,hl2]
      split
      ·rename_i q
       have:=k2 (j - off) (by omega)
       rw [← toArray_getD]
       exact this
      ·have:=hc.2 j hj
       rw [← toArray_getD]
       exact this
    obtain ⟨cs',e1,e2⟩:=fill_rep ps vs _ _ ds' (by simpa using hl) (fun j x y hx hy=>hp (j+1) x y (by simpa using hx) (by simpa using hy)) hc' h
    refine ⟨cs',?_,e2⟩
    simp only [Instr.fill,hpl,hfold]
    rw [if_neg (by simp;omega)]
    exact e1
   ·cases h
 | [],_::_,_,_,_,h,_,_,_=>by simp at h
 | _::_,[],_,_,_,h,_,_,_=>by simp at h
end


def SizeIs (P:Program) (t:TypeId) (n:Nat):Prop:=∀ w,(sizeOf t).run P w = .ok n w
theorem SizeIs.mk {P:Program} {t:TypeId} {info:TypeInfo} {d:TypeDesc} [hT:TI P t info d]:SizeIs P t info.size:=fun w=>by simp [sizeOf,typeInfo,hT.info,Result.andThen]
def SizesL (P:Program):List Field→List Nat→Prop
 | [],[]=>True
 | f::fs,n::ns=>SizeIs P f.type n∧SizesL P fs ns
 | _,_=>False
def plL:List Field→List Nat→Nat→Option (Nat × Nat)
 | f::_,n::_,0=>some (f.offset,n)
 | _::fs,_::ns,j+1=>plL fs ns j
 | _,_,_=>none
def parV (ρ:Operand→Value) (xs:List (Nat × Operand)):List (Nat × Value):=xs.map fun x=>(x.1,ρ x.2)
def OpdP (E:Nat→D):List (Nat × Operand)→List (Nat × D)→Prop
 | [],[]=>True
 | x::xs,d::ds=>x.1=d.1∧Opd E x.2 d.2∧OpdP E xs ds
 | _,_=>False
section
variable {P:Program} {N:Nat} {o:Oper} {E E1:Nat→D} {H H1:Nat→Option Box} {S:Cx} {Z:Zn} {i:Nm} {a:Act} {w w':World}
theorem SizesL.run:∀ {fs:List Field} {ns:List Nat},SizesL P fs ns→∀ w,∃ ps:List (Nat × Nat),(fs.mapM (m:=Sem) fun f=>do pure (f.offset,← sizeOf f.type)).run P w = .ok ps w∧∀ j,ps[j]? = plL fs ns j
 | [],[],_,w=>⟨[],rfl,fun j=>rfl⟩
 | f::fs,n::ns,h,w=>by
  obtain ⟨ps,e1,e2⟩:=SizesL.run h.2 w
  refine ⟨(f.offset,n)::ps,?_,fun j=>?_⟩
  ·rw [List.mapM_cons]
   simp at e1
   simp [h.1 w,e1,Result.andThen]
  ·cases j with
   | zero=>rfl
   | succ j=>exact e2 j
 | [],_::_,h,_=>h.elim
 | _::_,[],h,_=>h.elim
theorem OpdP.spec (hF:Fits S E1 H1 Z i a w) {xs:List (Nat × Operand)} {ds:List (Nat × D)} (h:OpdP E xs ds) (hA:∀ x,x∈xs.map (·.2)→∀ d,Opd E x d→Opd E1 x d):ds.length=(parV a.eval xs).length∧∀ (j:Nat) (x:Nat × D) (y:Nat × Value),ds[j]? = some x→(parV a.eval xs)[j]? = some y→x.1=y.1∧Rep Z w i y.2 x.2:=by
 induction xs generalizing ds with
 | nil=>cases ds with
  | nil=>exact ⟨rfl,fun j x y hx=>by simp at hx⟩
  | cons=>exact h.elim
 | cons z xs ih=>cases ds with
  | nil=>exact h.elim
  | cons d ds=>
   obtain ⟨h1,h2,h3⟩:=h
   obtain ⟨k1,k2⟩:=ih h3 (fun x hx=>hA x (by simp at hx ⊢;exact .inr hx))
   refine ⟨by simpa [parV] using k1,fun j x y hx hy=>?_⟩
   cases j with
   | zero=>
    obtain rfl:d=x:=by simpa using hx
    obtain rfl:(z.1,a.eval z.2)=y:=by simpa [parV] using hy
    exact ⟨h1.symm,hF.opd (hA z.2 (by simp) _ h2)⟩
   | succ j=>exact k2 j x y (by simpa using hx) (by simpa [parV] using hy)
theorem zero_rep {zs:List Value} (h1:∀ z,z∈zs→z.oneCell'=true):CellsRep Z w i zs.toArray (valL zs):=
 ⟨by simp [valL_len],fun j hj=>by rw [valL_len] at hj;rw [toArray_getD,valL_at hj];exact ⟨h1 _ (getD_mem _ hj),.val _ _⟩⟩
theorem loc_build {t:TypeId} {xs:List (Nat × Operand)} {ds:List (Nat × D)} {zs:List Value} {fs:Array Field} {info:TypeInfo} {ns:List Nat} {l:List D} (ho:o.op = .build t xs.toArray) (hd:dstLt o N=true) [hT:TI P t info (.struct fs)] (hz:ZeroIs P t zs) (hs:SizesL P fs.toList ns) (hx:OpdP E xs ds) (hl:fillD (plL fs.toList ns) (valL zs) ds=some l):Loc P N o E H ⟨[],o.dst,.agg l,[],[]⟩:=
 loc_run (by simp [ho]) hd (fun E1 H1 S Z i a w hF hA hN=>by
  obtain ⟨z,hz1,hz2⟩:=hz.1 w
  obtain ⟨ps,e1,e2⟩:=hs.run w
  obtain ⟨k1,k2⟩:=hx.spec (E1:=E1) (a:=a) hF (fun x hx d hd=>hA x (by
   obtain ⟨y,hy,rfl⟩:=List.mem_map.1 hx
   simp only [ho,Op.operands]
   simp
   exact ⟨y.1,hy⟩) d hd)
  obtain ⟨cs,f1,f2⟩:=fill_rep (place:=plL fs.toList ns) ds _ zs.toArray _ l k1 k2 (zero_rep (Z:=Z) (w:=w) (i:=i) hz.2) hl
  have hpl:(fun x=>ps.toArray[x]?)=plL fs.toList ns:=by funext j;rw [List.getElem?_toArray];exact e2 j
  have he:(fs.mapM (m:=Sem) fun f=>do pure (f.offset,← sizeOf f.type)).run P w = .ok ps.toArray w:=by
   rw [Array.mapM_eq_mapM_toList]
   simp at e1
   simp [e1,Result.andThen]
  have hr:(Instr.build t (parV a.eval xs).toArray).run P w = .ok (.agg cs) w:=by
   unfold Instr.build
   simp only [Sem.run_bind,hz1,Result.andThen,run_underlying hT.under,hz2]
   simp only [he]
   rw [hpl,f1]
   rfl
  refine ⟨.agg cs,?_,?_⟩
  ·simp only [execOp,ho]
   rw [show (Array.map (fun x=>match x with | (i,x)=>(i,a.eval x)) xs.toArray)=(parV a.eval xs).toArray by simp [parV]]
   rw [Sem.run_bind,hr];rfl
  ·have:cs=cs.toList.toArray:=by simp
   rw [this]
   exact .agg i _ _ (by simpa using f2.1) (fun j hj=>by rw [← toArray_getD];exact (f2.2 j hj).1) (fun j hj=>by rw [← toArray_getD];exact (f2.2 j hj).2))
theorem loc_buildSlice {t el:TypeId} {len k:Nat} {xs:List (Nat × Operand)} {ds:List (Nat × D)} {info info':TypeInfo} {d':TypeDesc} {z:Value} {l:List D} {f:Nat→List D} (ho:o.op = .buildSlice t len xs.toArray) (hd:dstLt o N=true) [hT:TI P t info (.slice el)] [hT':TI P el info' d'] (hz:info'.zero=some z) (hm:z.cells.size=info'.size) (h1:(z.cells.toList.all fun z=>z.oneCell')=true) (hb:Nat.ble (len*info'.size) 16777216=true) (hp:Nat.blt 0 (len*info'.size)=true)
  (hx:OpdP E xs ds) (hl:fillD (fun j=>some (j*info'.size,info'.size)) ((List.range (len*info'.size)).map fun j=>.val (z.cells.getD (j % info'.size) undef)) ds=some l) (hf:∀ e,e<len→(f e).length=info'.size∧∀ c,c<info'.size→dl (f e) c=dl l (e*info'.size+c)) (hfr:D.free.freeL (fun _=>false) l=true) :
  Loc P N o E H ⟨[],o.dst,.sl k info'.size len,[(k,some (.arr el len info'.size f))],[k]⟩:=
 loc_new (by simp [ho]) hd rfl (fun E1 H1 S Z i a w hF hA hN=>by
  have hz1:(zeroValue el).run P w = .ok z w:=by simp [zeroValue,typeInfo,hT'.info,hz,Result.andThen]
  have s1:(sizeOf el).run P w = .ok info'.size w:=by simp [sizeOf,typeInfo,hT'.info,Result.andThen]
  replace hb:=Nat.le_of_ble_eq_true hb
  replace hp:0<len*info'.size:=by simpa using hp
  obtain ⟨k1,k2⟩:=hx.spec (E1:=E1) (a:=a) hF (fun x hx d hd=>hA x (by
   obtain ⟨y,hy,rfl⟩:=List.mem_map.1 hx
   simp only [ho,Op.operands]
   simp
   exact ⟨y.1,hy⟩) d hd)
  have hzero:CellsRep Z w i ((Array.range (len*info'.size)).map (z.cells[· % z.cells.size]!)) ((List.range (len*info'.size)).map fun j=>.val (z.cells.getD (j % info'.size) undef)):=by
   refine ⟨by simp,fun j hj=>?_⟩
   have hj':j<len*info'.size:=by simpa using hj
   have hms:0<info'.size:=by rcases Nat.eq_zero_or_pos info'.size with q | q;rw [q] at hp;omega;exact q
   have hlt:j % info'.size<z.cells.size:=by rw [hm];exact Nat.mod_lt _ hms
   have e1:((Array.range (len*info'.size)).map (z.cells[· % z.cells.size]!)).getD j undef=z.cells.getD (j % info'.size) undef:=by
    simp [Array.getD_eq_getD_getElem?,hj',hm,Array.getElem!_eq_getD,Array.getElem?_eq_getElem hlt]
   have e2:dl ((List.range (len*info'.size)).map fun j=>.val (z.cells.getD (j % info'.size) undef)) j = .val (z.cells.getD (j % info'.size) undef):=by
    rw [dl_eq,List.getD_eq_getElem?_getD,List.getElem?_map,List.getElem?_range hj'];rfl
   rw [e1,e2]
   refine ⟨?_,.val _ _⟩
   have:=List.all_eq_true.1 h1 (z.cells.toList.getD (j % info'.size) undef) (getD_mem _ (by simpa using hlt))
   rwa [← toArray_getD] at this
  obtain ⟨cs,f1,f2⟩:=fill_rep (place:=fun j=>some (j*info'.size,info'.size)) ds _ _ _ l k1 k2 hzero hl
  have hcs:cs.size=len*info'.size:=by
   rw [f2.1]
   have:∀ (ps:List (Nat × D)) (place:Nat→Option (Nat × Nat)) (ds l:List D),fillD place ds ps=some l→l.length=ds.length:=by
    intro ps
    induction ps with
    | nil=>intro place ds l h;cases h;rfl
    | cons x ps ih=>
     intro place ds l h
     obtain ⟨j,d⟩:=x
     simp only [fillD] at h
     cases hpl:place j with
     | none=>rw [hpl] at h;cases h
     | some os=>
      obtain ⟨off,size⟩:=os
      rw [hpl] at h
      simp only at h
      split at h
      ·rename_i hb
       simp only [Bool.and_eq_true] at hb
       rw [ih _ _ _ h,setL_len (Nat.le_of_ble_eq_true hb.2)]
      ·cases h
   rw [this _ _ _ _ hl];simp
  refine ⟨.slice (some ⟨w.heap.size,0,none⟩) len len,.cells cs el (0,0),len,?_,fun w' h1' hb' hlt i' h2=>⟨cs,hb',hcs,Nat.le_refl _,fun e he=>(hf e he).1,fun e c he hc=>?_⟩,fun w' i' hi=>?_⟩
  ·have hne:¬ (len*info'.size=0):=by omega
   have hle:¬ 16777216<len*info'.size:=by omega
   have hr:(Instr.buildSlice t len (parV a.eval xs).toArray).run P w = .ok (.slice (some ⟨w.heap.size,0,none⟩) len len) (w.alloc (.cells cs el (0,0))):=by
    unfold Instr.buildSlice
    simp only [Sem.run_bind,run_underlying hT.under,Result.andThen,s1]
    rw [if_neg (by simpa using hle),if_neg hne]
    simp only [Sem.run_bind,pure_bind,hz1,Result.andThen,Sem.run_pure]
    rw [f1]
    rfl
   simp only [execOp,ho]
   rw [show (Array.map (fun x=>match x with | (i,x)=>(i,a.eval x)) xs.toArray)=(parV a.eval xs).toArray by simp [parV]]
   rw [Sem.run_bind,hr];rfl
  ·have hlt2:e*info'.size+c<l.length:=by
    have:(e+1)*info'.size≤len*info'.size:=Nat.mul_le_mul_right _ (by omega)
    rw [Nat.add_mul] at this
    rw [← f2.1,hcs]
    omega
   rw [(hf e he).2 c hc]
   exact ⟨(f2.2 _ hlt2).1,((f2.2 _ hlt2).2.mem (fun o b hz=>⟨hz,h1' o b hz⟩)).nm (freeL_at hfr _ hlt2) (fun k x hk=>by cases hk)⟩
  ·have:len≤16777216:=by
    have hms:0<info'.size:=by rcases Nat.eq_zero_or_pos info'.size with q | q;rw [q] at hp;omega;exact q
    exact Nat.le_trans (Nat.le_mul_of_pos_right len hms) hb
   exact .sl _ _ _ _ _ hi (Nat.le_refl _) (by show len≤_;omega))
theorem loc_makeSlice {t el:TypeId} {x y:Operand} {k n:Nat} {kl kc:IntKind} {z1 z2:Int} {info info':TypeInfo} {d':TypeDesc} {z:Value} (ho:o.op = .makeSlice t x y) (hd:dstLt o N=true) [hT:TI P t info (.slice el)] [hT':TI P el info' d'] (hz:info'.zero=some z) (hm:z.cells.size=info'.size) (h1:(z.cells.toList.all fun z=>z.oneCell')=true) (hms:Nat.blt 0 info'.size=true) (hx:Opd E x (.val (.int kl z1))) (hy:Opd E y (.val (.int kc z2))) (e1:z1=(n:Int)) (e2:z2=(n:Int)) (hb:n*info'.bytes≤281474976710656) (h63:n≤9223372036854775807) :
  Loc P N o E H ⟨[],o.dst,.sl k info'.size n,[(k,some (.arr el n info'.size fun _=>valL z.cells.toList))],[k]⟩:=
 loc_new (by simp [ho]) hd rfl (fun E1 H1 S Z i a w hF hA hN=>by
  have a1:=(hF.opd (hA x (by simp [ho,Op.operands]) _ hx)).valEq
  have a2:=(hF.opd (hA y (by simp [ho,Op.operands]) _ hy)).valEq
  subst e1 e2
  replace hms:0<info'.size:=by simpa using hms
  have hb':(info'.bytes:Int)*(n:Int)≤281474976710656:=by
   have h:((n*info'.bytes:Nat):Int)≤281474976710656:=by omega
   rwa [Int.natCast_mul,Int.mul_comm] at h
  have hr:=run_make (P:=P) w t el info' z hT.under hT'.info hz kl kc (n:Int) (n:Int) (by omega) (Int.le_refl _) hb' (by omega)
  simp only [Int.toNat_natCast] at hr
  refine ⟨_,.cells (madeCells z.cells (n*info'.size)) el (0,0),n,?_,fun w' h1' hb' hlt i' h2=>⟨_,hb',by simp [size_madeCells],Nat.le_refl _,fun e he=>by rw [valL_len,← hm];simp,fun e c he hc=>?_⟩,fun w' i' hi=>.sl _ _ _ _ _ hi (Nat.le_refl _) h63⟩
  ·simp only [execOp,ho,a1,a2]
   rw [Sem.run_bind,hr];rfl
  ·have hlt2:e*info'.size+c<n*info'.size:=by
    have:(e+1)*info'.size≤n*info'.size:=Nat.mul_le_mul_right _ (by omega)
    rw [Nat.add_mul] at this
    omega
   have e1:(madeCells z.cells (n*info'.size)).getD (e*info'.size+c) undef=z.cells.getD c undef:=by
    have:(e*info'.size+c) % z.cells.size=c:=by rw [hm,Nat.mul_comm,Nat.mul_add_mod,Nat.mod_eq_of_lt hc]
    simp [madeCells,Array.getD_eq_getD_getElem?,hlt2,this,Array.getElem!_eq_getD,Array.getElem?_eq_getElem (show c<z.cells.size by omega)]
   rw [e1]
   have hc2:c<z.cells.toList.length:=by simp;omega
   rw [valL_at hc2,← toArray_getD]
   simp only [Array.toArray_toList]
   have:=List.all_eq_true.1 h1 (z.cells.toList.getD c undef) (getD_mem _ hc2)
   rw [← toArray_getD] at this
   exact ⟨by simpa using this,.val _ _⟩)
theorem Fits.turn (h:Fits S E H Z i a w) {k b:Nat} {cap:Cp} {B C:Box} (hk:H k=some B) (hm:B.mut=true) (hC:C.mut=true) (hn:B.nrows=0) (hnC:C.nrows=0) (hb:i k=some (some (b,cap))) (hos:w'.os=w.os∧w'.tape=w.tape∧w'.output=w.output∧w.heap.size≤w'.heap.size) (hw:∀ x,x<w.heap.size→x≠b→w'.heap[x]? = w.heap[x]?)
  (hB:(∀ o x,Z o x→w'.heap[x]? = w.heap[x]?)→BoxAt Z w' i b cap C):Fits S E (updH H [(k,some C)]) Z i a w':=by
 have hbo:=h.box k B hk
 have hnz:(¬ Z true b∧(S.w1.heap.size≤b∨S.M1 b))∧(S.w0.heap.size≤b∨(k<1000∧S.M b)):=by
  rcases hbo with ⟨b',c',e1,e2,e3,_⟩ | ⟨q,_⟩
  ·rw [hb] at e1;cases e1;exact ⟨e3 hm,e2⟩
  ·rw [hb] at q;cases q
 have hZo:∀ o x,Z o x→w'.heap[x]? = w.heap[x]?:=fun o x hx=>by
  have hxt:Z true x:=by cases o;exact h.zsub x hx;exact hx
  exact hw x (h.zOld x hxt).1 (fun e=>hnz.1.1 (e▸hxt))
 refine h.step (fun x=>x=k) hos (fun x hx hn=>hw x hx (fun e=>hn k B rfl hk hm (.root (e▸hb)))) (fun _ _=>rfl) (fun x hx=>?_) (fun x hx e=>?_) (fun x hx e=>h.nil x e) (fun x _ e=>h.nil x e) (fun o b hb=>hb) (fun b hb=>.inl hb) (fun b hb=>⟨h.zsub b hb,h.zNew b hb⟩) (fun x B' hx hB'=>?_) (fun x B' b1 hx hB' _ hf=>?_) (fun x x' B1 B2 b hx hx' _ _ _ _ _ _=>hx.trans hx'.symm)
 ·simp only [updH];exact if_neg (Ne.symm hx)
 ·subst hx;simp [updH] at e
 ·subst hx
  simp only [updH,if_true] at hB'
  cases hB'
  exact .inl ⟨b,cap,hb,hnz.2,fun _=>hnz.1,fun hi=>(by cases C<;>simp [Box.isIce,Box.mut] at hi hC),hB hZo⟩
 ·subst hx
  simp only [updH,if_true] at hB'
  cases hB'
  obtain ⟨cp,e⟩:=hf.flat hnC
  exact .inr ⟨x,B,rfl,fun h _=>⟨h,cp,e⟩,hk,hm,.root e⟩
theorem run_storeOp {t:TypeId} {x y:Operand} {b c:Nat} {v:Value} {T:TypeId} {cur:Array Value} (ho:o.op = .store t x y) (hx:a.eval x = .pointer (some ⟨b,c,none⟩)) (hy:a.eval y=v) (hS:SizeIs P t v.cells.size) (hB:Bk w b T cur) (hc:c+v.cells.size≤cur.size) (h1:∀ j,j<v.cells.size→(v.cells.getD j undef).oneCell'=true) :
  (execOp a.eval o).run P w = .ok .skip (w.setRow b (cur.toList.take c++v.cells.toList++cur.toList.drop (c+v.cells.toList.length)).toArray):=by
 have h:=run_storeCells_at P b c T v.cells.toList 0 cur w hB (by simpa using hc) (fun u hu=>by
  obtain ⟨j,hj,rfl⟩:=List.getElem_of_mem hu
  have:=h1 j (by simpa using hj)
  rwa [Array.getD_eq_getD_getElem?,Array.getElem?_eq_getElem (by simpa using hj)] at this)
 simp only [Nat.add_zero] at h
 simp only [execOp,ho,hx,hy,Instr.storeAt,Instr.sureAddr,storeVar]
 simp [hS w,Result.andThen,h]
theorem loc_store {t t':TypeId} {x y:Operand} {k m e c n:Nat} {ds:List D} {d:D} (ho:o.op = .store t x y) (hd:o.dst=none) (hx:Opd E x (.eptr k m e c)) (he:e*m=0) (hy:Opd E y d) (hf:d.fit=true) (hS:SizeIs P t n) (hn:d.cellL.length=n) (hk:H k=some (.lit t' ds)) (hc:Nat.ble (c+d.cellL.length) ds.length=true) :
  Loc P N o E H ⟨[k],o.dst,.any,[(k,some (.lit t' (setL ds c d.cellL)))],[]⟩:=by
 refine ⟨rfl,by simp [ho],fun E1 H1 h1 h2 h3 S a w hN hR K Q _ hK=>?_⟩
 obtain ⟨Z,i,hF⟩:=hR
 replace hc:=Nat.le_of_ble_eq_true hc
 have e1:=hF.opd (Opd.agree (x:=x) (by simp [ho,Op.operands]) h1 hx)
 have e2:=hF.opd (Opd.agree (x:=y) (by simp [ho,Op.operands]) h1 hy)
 obtain ⟨c1,c2⟩:=e2.cells hf
 generalize hv:a.eval x=v at e1
 cases e1 with | @eptr _ b cp _ _ _ _ hib=>
 have hk1:=h2 k (by simp)
 rw [hk] at hk1
 rcases hF.box k _ hk1 with ⟨b',_,e1,_,_,_,cs,hB,hs,hall⟩ | ⟨q,_⟩
 ·rw [hib] at e1;cases e1
  have hv2:a.eval x = .pointer (some ⟨b,c,none⟩):=by rw [hv,he];simp
  unfold Oper.wp
  rw [run_storeOp ho hv2 rfl (by rw [c1,hn];exact hS) hB (by rw [c1,hs];exact hc) (fun j hj=>(c2 j (by rw [← c1];exact hj)).1)]
  have hl:cs.toList.length=ds.length:=by simpa using hs
  have hl2:(a.eval y).cells.toList.length=d.cellL.length:=by simpa using c1
  obtain ⟨L,hL⟩:∃ L,cs.toList.take c++(a.eval y).cells.toList++cs.toList.drop (c+(a.eval y).cells.toList.length)=L:=⟨_,rfl⟩
  have key:∀ j,L.toArray.getD j undef=if c≤j∧j<c+d.cellL.length then (a.eval y).cells.getD (j - c) undef else cs.getD j undef:=fun j=>by
   rw [toArray_getD,← hL,List.append_assoc,getD_seg undef cs.toList (a.eval y).cells.toList c j (by rw [hl,hl2];exact hc),hl2,← toArray_getD,← toArray_getD,Array.toArray_toList,Array.toArray_toList]
  have hLl:L.length=ds.length:=by rw [← hL];simp;omega
  rw [hL]
  refine hK _ _ ⟨Z,i,?_⟩
  rw [hd]
  refine hF.turn (C:=.lit t' (setL ds c d.cellL)) (w':=w.setRow b L.toArray) hk1 rfl rfl rfl rfl hib ⟨rfl,rfl,rfl,by simp⟩ (fun y _ hy=>setRow_other _ _ _ _ hy) (fun m=>⟨_,setRow_heap _ _ _ _ _ _ hB,by rw [setL_len hc];simpa using hLl,fun j hj=>?_⟩)
  rw [setL_len hc] at hj
  rw [key,setL_at hc]
  split
  ·have:=c2 (j - c) (by omega)
   exact ⟨this.1,this.2.mem (fun o x hx=>⟨hx,m o x hx⟩)⟩
  ·have:=hall j hj
   exact ⟨this.1,this.2.mem (fun o x hx=>⟨hx,m o x hx⟩)⟩
 ·rw [hib] at q;cases q
def setE (f:Nat→List D) (e c:Nat) (xs:List D) (e':Nat):List D:=if e'=e then setL (f e') c xs else f e'
theorem loc_store_arr {t t':TypeId} {x y:Operand} {k m e c n n':Nat} {f:Nat→List D} {d:D} (ho:o.op = .store t x y) (hd:o.dst=none) (hx:Opd E x (.eptr k m e c)) (hy:Opd E y d) (hf:d.fit=true) (hp:D.free (fun _=>false) d=true) (hS:SizeIs P t n) (hn:d.cellL.length=n) (hk:H k=some (.arr t' n' m f)) (hc:Nat.ble (c+d.cellL.length) m=true) (he:e<n') :
  Loc P N o E H ⟨[k],o.dst,.any,[(k,some (.arr t' n' m (setE f e c d.cellL)))],[]⟩:=by
 refine ⟨rfl,by simp [ho],fun E1 H1 h1 h2 h3 S a w hN hR K Q _ hK=>?_⟩
 obtain ⟨Z,i,hF⟩:=hR
 replace hc:=Nat.le_of_ble_eq_true hc
 have e1:=hF.opd (Opd.agree (x:=x) (by simp [ho,Op.operands]) h1 hx)
 have e2:=hF.opd (Opd.agree (x:=y) (by simp [ho,Op.operands]) h1 hy)
 obtain ⟨c1,c2⟩:=(e2.nm (i':=noN) hp (fun k x hk=>by cases hk)).cells hf
 generalize hv:a.eval x=v at e1
 cases e1 with | @eptr _ b cp _ _ _ _ hib=>
 have hk1:=h2 k (by simp)
 rw [hk] at hk1
 rcases hF.box k _ hk1 with ⟨b',_,e1,_,_,_,cs,hB,hs,hnc,hfl,hall⟩ | ⟨q,_⟩
 ·rw [hib] at e1;cases e1
  have hfe:=hfl e he
  have hle:(e+1)*m≤cp.c*m:=Nat.mul_le_mul_right _ (by omega)
  rw [Nat.add_mul] at hle
  unfold Oper.wp
  rw [run_storeOp ho hv rfl (by rw [c1,hn];exact hS) hB (by rw [c1,hs];omega) (fun j hj=>(c2 j (by rw [← c1];exact hj)).1)]
  have hl:cs.toList.length=cp.c*m:=by simpa using hs
  have hl2:(a.eval y).cells.toList.length=d.cellL.length:=by simpa using c1
  obtain ⟨L,hL⟩:∃ L,cs.toList.take (e*m+c)++(a.eval y).cells.toList++cs.toList.drop (e*m+c+(a.eval y).cells.toList.length)=L:=⟨_,rfl⟩
  have key:∀ j,L.toArray.getD j undef=if e*m+c≤j∧j<e*m+c+d.cellL.length then (a.eval y).cells.getD (j - (e*m+c)) undef else cs.getD j undef:=fun j=>by
   rw [toArray_getD,← hL,List.append_assoc,getD_seg undef cs.toList (a.eval y).cells.toList (e*m+c) j (by rw [hl,hl2];omega),hl2,← toArray_getD,← toArray_getD,Array.toArray_toList,Array.toArray_toList]
  have hLl:L.length=cp.c*m:=by rw [← hL];simp;omega
  rw [hL]
  refine hK _ _ ⟨Z,i,?_⟩
  rw [hd]
  refine hF.turn (C:=.arr t' n' m (setE f e c d.cellL)) (w':=w.setRow b L.toArray) hk1 rfl rfl rfl rfl hib ⟨rfl,rfl,rfl,by simp⟩ (fun y _ hy=>setRow_other _ _ _ _ hy) (fun mm=>⟨_,setRow_heap _ _ _ _ _ _ hB,by simpa using hLl,hnc,fun e' he'=>?_,fun e' c' he' hc'=>?_⟩)
  ·unfold setE;split
   ·subst_vars;rw [setL_len (by omega)]
   ·exact hfl e' he'
  ·rw [key]
   have mr:∀ {v:Value} {d:D},Rep Z w noN v d→Rep Z (w.setRow b L.toArray) noN v d:=fun hv=>hv.mem (fun o x hx=>⟨hx,mm o x hx⟩)
   by_cases q:e'=e
   ·subst q
    have e3:setE f e' c d.cellL e'=setL (f e') c d.cellL:=if_pos rfl
    rw [e3,setL_at (by omega)]
    by_cases q2:c≤c'∧c'<c+d.cellL.length
    ·rw [if_pos (by omega),if_pos q2,show e'*m+c' - (e'*m+c)=c' - c by omega]
     have:=c2 (c' - c) (by omega)
     exact ⟨this.1,mr this.2⟩
    ·rw [if_neg (by omega),if_neg q2]
     have:=hall e' c' he' hc'
     exact ⟨this.1,mr this.2⟩
   ·have e3:setE f e c d.cellL e'=f e':=if_neg q
    have hne:¬ (e*m+c≤e'*m+c'∧e'*m+c'<e*m+c+d.cellL.length):=by
     rcases Nat.lt_or_gt_of_ne q with q | q
     ·have:(e'+1)*m≤e*m:=Nat.mul_le_mul_right _ (by omega)
      rw [Nat.add_mul] at this;omega
     ·have:(e+1)*m≤e'*m:=Nat.mul_le_mul_right _ (by omega)
      rw [Nat.add_mul] at this;omega
    rw [e3,if_neg hne]
    have:=hall e' c' he' hc'
    exact ⟨this.1,mr this.2⟩
 ·rw [hib] at q;cases q
end
end Go.Proofs.YtdcenblblimkfaaGreat
