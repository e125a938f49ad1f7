/- Renaming, ranges over functions, calls that turn a box: by lists. No walk.
Whole arrays: loaded, sliced. No walk.
The types and functions of this program, as the driver looks them up. No walk.
A call that turns a box and whose result names it. No walk.
Rows of rows, by lists: frozen, said otherwise, as results. No walk.
Calls that end in a panic: by data. No walk.
Steps of regions in which a call does not come back. (Printed by mkvx.py.)
Arguments that were written out. No walk.
The moduli of a level, one after the other.
The program's ring, by data: places, moduli, each.
The program's ring, by data: what fills the rows.
Searching slices, by data; which element is valid.
The program's ring, by data: which parameters and elements are valid.
The program's ring, by data: Check.
The program's ring, by data: rows of products and of integers.
The program's ring, by data: elements of integers.
A slot, said otherwise, within a region. No walk.
Calls whose result is a row of its own; slices that are made and never turned. No walk.
Slice literals that nobody turns: frozen data at once. No walk.
The type string. No walk. -/
import Derived.Test.YtdcenblblimkfaaGreatPn13
import Derived.RangeFuncBox
import Derived.RangeFuncNested
import Derived.RangeFuncBound
import Derived.RangeFuncCalls
import Derived.RangeFuncLeaves
import Derived.RangeFuncWrites
import Derived.Shelf.Abstract
import Derived.Shelf.RegionOpen
import Derived.WalkKit
import Derived.OwnWalkIn
import Derived.TacticsInMore
import Derived.LoopNIn
import Derived.LoopIn
import Derived.Sort.QuietIn
import Derived.Lib.Hide
set_option linter.unusedSimpArgs false
set_option linter.unusedVariables false
set_option linter.unnecessarySimpa false
set_option linter.unusedSectionVars false
namespace Go.Proofs.YtdcenblblimkfaaGreat
open Go.RowKit

def pinN (ps:List Nat) (k:Nat):Nat:=match inN ps k with
 | true=>k - 900
 | false=>k
def toN (a b k:Nat):Nat:=match Nat.beq a k with
 | true=>b
 | false=>k
theorem to_y {a b k:Nat} (h:Nat.beq a k=true):toN a b k=b:=by unfold toN;rw [h]
theorem to_n {a b k:Nat} (h:Nat.beq a k=false):toN a b k=k:=by unfold toN;rw [h]
inductive RenLL (r:Nat→Nat):List D→List D→Prop where
 | nil:RenLL r [] []
 | cons {d d':D} {l l':List D} (h:d.ren r=d') (k:RenLL r l l'):RenLL r (d::l) (d'::l')
theorem RenLL.eq {r:Nat→Nat} {l l':List D} (h:RenLL r l l'):D.ren.renL r l=l':=by
 induction h with
 | nil=>rfl
 | cons h _ ih=>simp only [D.ren.renL];rw [h,ih]
theorem ren_eptr {r:Nat→Nat} {k k' m e c:Nat} (h:r k=k'):(D.eptr k m e c).ren r = .eptr k' m e c:=by simp only [D.ren];rw [h]
theorem ren_sl {r:Nat→Nat} {k k' m n:Nat} (h:r k=k'):(D.sl k m n).ren r = .sl k' m n:=by simp only [D.ren];rw [h]
theorem ren_clo {r:Nat→Nat} {f:FuncId} {l l':List D} (h:RenLL r l l'):(D.clo f l).ren r = .clo f l':=by simp only [D.ren];rw [h.eq]
theorem ren_agg {r:Nat→Nat} {l l':List D} (h:RenLL r l l'):(D.agg l).ren r = .agg l':=by simp only [D.ren];rw [h.eq]
theorem ren_tup {r:Nat→Nat} {l l':List D} (h:RenLL r l l'):(D.tup l).ren r = .tup l':=by simp only [D.ren];rw [h.eq]
theorem renb_lit {r:Nat→Nat} {t:TypeId} {l l':List D} (h:RenLL r l l'):(Box.lit t l).ren r = .lit t l':=by simp only [Box.ren];rw [h.eq]
inductive RenEL (r:Nat→Nat):List (Nat × D)→List (Nat × D)→Prop where
 | nil:RenEL r [] []
 | cons {t:Nat} {d d':D} {l l':List (Nat × D)} (h:d.ren r=d') (k:RenEL r l l'):RenEL r ((t,d)::l) ((t,d')::l')
theorem RenEL.eq {r:Nat→Nat} {l l':List (Nat × D)} (h:RenEL r l l'):renE r l=l':=by
 induction h with
 | nil=>rfl
 | cons h _ ih=>simp only [renE];rw [h,ih]
inductive RenBL (r:Nat→Nat):List (Nat × Option Box)→List (Nat × Option Box)→Prop where
 | nil:RenBL r [] []
 | cons {k k':Nat} {B B':Box} {l l':List (Nat × Option Box)} (h:r k=k') (hB:B.ren r=B') (q:RenBL r l l'):RenBL r ((k,some B)::l) ((k',some B')::l')
theorem RenBL.eq {r:Nat→Nat} {l l':List (Nat × Option Box)} (h:RenBL r l l'):renB r l=l':=by
 induction h with
 | nil=>rfl
 | cons h hB _ ih=>simp only [renB,Option.map];rw [h,hB,ih]
inductive ZipL:List Nat→List D→List (Nat × D)→List (Nat × D)→Prop where
 | nil {E:List (Nat × D)}:ZipL [] [] E E
 | cons {t:Nat} {d:D} {ts:List Nat} {ds:List D} {E E':List (Nat × D)} (h:ZipL ts ds E E'):ZipL (t::ts) (d::ds) E ((t,d)::E')
theorem ZipL.eq {ts:List Nat} {ds:List D} {E E':List (Nat × D)} (h:ZipL ts ds E E'):zipE ts ds++E=E':=by
 induction h with
 | nil=>rfl
 | cons _ ih=>simp only [zipE,List.cons_append];rw [ih]
theorem sub_ren {env:List (Nat × D)} {box:List (Nat × Option Box)} {r s:Nat→Nat} (hr:Two r s box) (hs:∀ k,k<1000→s k=k):Sub (lk env) (hk box) (lk (renE r env)) (hk (renB r box)):=fun S a w ⟨Z,i,h⟩=>by
 have hat:=renB_at (r:=r) (s:=s) box hr.back
 have hH:∀ k B,hk (renB r box) k=some B→r (s k)=k∧∃ B0,hk box (s k)=some B0∧B=B0.ren r∧nmR r s i k=i (s k):=fun k B hB=>by
  rw [hat] at hB
  by_cases q:r (s k)=k
  ·rw [if_pos q] at hB
   cases e:hk box (s k) with
   | none=>rw [e] at hB;cases hB
   | some B0=>rw [e] at hB;cases hB;exact ⟨q,B0,rfl,rfl,by unfold nmR;rw [if_pos q]⟩
  ·rw [if_neg q] at hB;cases hB
 refine ⟨Z,nmR r s i,{ h with env:=fun t=>by rw [renE_at];exact (h.env t).rename (fun k x e=>h.nmR_at hr e),box:=fun k B hB=>?_,foot:=fun k B b hB hm hf=>?_,nil:=fun k hk'=>?_,low:=fun k hk'=>by unfold nmR;rw [hs k hk',hr.low k hk',if_pos rfl];exact h.low k hk',inj:=fun k k' B B' b h1 h2 m1 m2 e1 e2=>?_ }⟩
 ·obtain ⟨q,B0,g1,rfl,g3⟩:=hH k B hB
  rcases h.box _ B0 g1 with ⟨b,c,e1,e2,e3,e4,e5⟩ | ⟨e1,e2⟩
  ·refine .inl ⟨b,c,g3.trans e1,e2.imp id (fun ⟨p1,p2⟩=>⟨by rw [← q,hr.low _ p1];exact p1,p2⟩),fun hm=>?_,fun hi=>?_,e5.ren (fun k x e=>h.nmR_at hr e)⟩
   ·rw [Box.ren_mut] at hm;exact e3 hm
   ·rw [Box.ren_ice] at hi;exact e4 hi
  ·exact .inr ⟨g3.trans e1,Box.ren_nil e2⟩
 ·obtain ⟨q,B0,g1,rfl,g3⟩:=hH k B hB
  rw [Box.ren_mut] at hm
  have f:=h.foot _ B0 b g1 hm (g3▸hf.unren)
  exact ⟨f.1,f.2.1.imp id (fun ⟨p1,p2,c,p3⟩=>⟨by rw [← q,hr.low _ p1];exact p1,p2,c,g3.trans p3⟩),f.2.2⟩
 ·rw [hat] at hk'
  unfold nmR
  by_cases q:r (s k)=k
  ·rw [if_pos q] at hk' ⊢
   cases e:hk box (s k) with
   | none=>exact h.nil _ e
   | some B0=>rw [e] at hk';cases hk'
  ·rw [if_neg q]
 ·obtain ⟨q,B0,g1,rfl,g3⟩:=hH k B h1
  obtain ⟨q',B0',g1',rfl,g3'⟩:=hH k' B' h2
  rw [Box.ren_mut] at m1 m2
  rw [← q,← q',h.inj _ _ _ _ b g1 g1' m1 m2 (g3▸e1.unren) (g3'▸e2.unren)]
theorem two_of {r s:Nat→Nat} {box:List (Nat × Option Box)} (hl:∀ k,k<1000→r k=k) (h:(box.all fun x=>Nat.beq (s (r x.1)) x.1)=true):Two r s box:=⟨hl,fun x hx=>by simpa using List.all_eq_true.1 h x hx⟩
theorem appF_snoc {n:Nat} {f g:Nat→List D} (h:g 0=f n):∀ e,e<n+1→appF n f g e=f e:=fun e he=>by
 unfold appF
 by_cases q:e<n
 ·rw [show Nat.blt e n=true from blt_of q]
 ·obtain rfl:e=n:=by omega
  rw [show Nat.blt e e=false by cases hb:Nat.blt e e;rfl;exact absurd (by simpa using hb) (Nat.lt_irrefl e),Nat.sub_self];exact h
theorem sub_arr (k:Nat) (f':Nat→List D) {env:List (Nat × D)} {box:List (Nat × Option Box)} {t:TypeId} {n m:Nat} {f:Nat→List D} {E2:Nat→D} {H2:Nat→Option Box} (he:∀ e,e<n→f e=f' e) (hl:∀ e,(f' e).length=m) (h:Sub (lk env) (hk ((k,some (.arr t n m f'))::box)) E2 H2) (hb:autoParam (Bl box k (.arr t n m f)) aq5._auto_1):Sub (lk env) (hk box) E2 H2:=
 Sub.trans (sub_box k (.arr t n m f') (by rw [hb.eq];exact .arr (Nat.le_refl _) (fun e hn=>⟨hl e,fun c hc=>by rw [he e hn];exact inferInstance⟩)) rfl) h
theorem c_arr (k:Nat) (f':Nat→List D) {ro:Option Nat} {P:Program} {N:Nat} {Q:Post} {c:Code} {env:List (Nat × D)} {box:List (Nat × Option Box)} {t:TypeId} {n m:Nat} {f:Nat→List D} (he:∀ e,e<n→f e=f' e) (hl:∀ e,(f' e).length=m) (h:AWp ro P N c (lk env) (hk ((k,some (.arr t n m f'))::box)) Q) (hb:autoParam (Bl box k (.arr t n m f)) aq5._auto_1):AWp ro P N c (lk env) (hk box) Q:=
 awp_sub (sub_arr k f' he hl (Sub.refl _ _) hb) h
theorem fin_arr (k:Nat) (f':Nat→List D) {P:Program} {fn:Func} {r:D} {hs rs:Hs} {env:List (Nat × D)} {box:List (Nat × Option Box)} {t:TypeId} {n m:Nat} {f:Nat→List D} (he:∀ e,e<n→f e=f' e) (hl:∀ e,(f' e).length=m) (h:FinS P fn r hs rs (lk env) (hk ((k,some (.arr t n m f'))::box))) (hb:autoParam (Bl box k (.arr t n m f)) aq5._auto_1):FinS P fn r hs rs (lk env) (hk box):=
 h.sub (sub_arr k f' he hl (Sub.refl _ _) hb)
section
variable {ro:Option Nat} {P:Program} {N:Nat} {Q:Post} {env env1:List (Nat × D)} {box:List (Nat × Option Box)}
end
section
variable {ro:Option Nat} {P:Program} {N:Nat} {Q:Post} {ops:Array Oper} {rest:List Oper} {env:List (Nat × D)} {box:List (Nat × Option Box)} {done:List Rec} {K:List Rec→List (Nat × D)→List (Nat × Option Box)→Prop} {d:Nat} {ty:TypeId} {pos:String} {aft:Array Edge}
end
theorem c_cut0 (I:List (Nat × D)) {ro:Option Nat} {P:Program} {N:Nat} {Q:Post} {c y:Code} {env env1 env2:List (Nat × D)} {box box1:List (Nat × Option Box)} (h1:AWp ro P N c (lk env) (hk box) (AThen (fun E H=>Sub E H (lk env2) (hk box1)) Q)) (h2:AWp ro P N y (lk env2) (hk box1) Q) (he:autoParam (KeepE (dstsOf c++I.map (·.1)) env env1) aq7._auto_1) (ha:AppL I env1 env2:=by (repeat (first | exact AppL.nil | apply AppL.cons))) (hb:autoParam (KeepB [] box box1) aq9._auto_1):AWp ro P N c (lk env) (hk box) (AThen (fun E H=>AWp ro P N y E H Q) Q):=
 h1.mono (fun e E H h=>by
  cases e with
  | normal=>exact awp_sub h h2
  | _=>exact h)
theorem c_eq (t:Nat) (d':D) {ro:Option Nat} {P:Program} {N:Nat} {Q:Post} {c:Code} {env:List (Nat × D)} {box:List (Nat × Option Box)} {d:D} (he:d=d') (h:AWp ro P N c (lk ((t,d')::env)) (hk box) Q) (ht:autoParam (Lk env t d) aq10._auto_1):AWp ro P N c (lk env) (hk box) Q:=awp_sub (sub_conv t d' ht.eq (.eq he)) h

def flatL (n:Nat) (f:Nat→List D):List D:=(List.range n).flatMap f
theorem flatL_len {n m:Nat} {f:Nat→List D} (h:∀ e,e<n→(f e).length=m):(flatL n f).length=n*m:=by
 unfold flatL
 induction n with
 | zero=>simp
 | succ n ih=>rw [List.range_succ,List.flatMap_append,List.length_append,ih (fun e he=>h e (by omega))];simp [h n (by omega),Nat.add_mul]
theorem flatL_at {n m:Nat} {f:Nat→List D} (h:∀ e,e<n→(f e).length=m) {e c:Nat} (he:e<n) (hc:c<m):dl (flatL n f) (e*m+c)=dl (f e) c:=by
 induction n with
 | zero=>omega
 | succ n ih=>
  have hl:=flatL_len (n:=n) (fun e he=>h e (by omega))
  have e0:flatL (n+1) f=flatL n f++f n:=by unfold flatL;rw [List.range_succ,List.flatMap_append];simp
  rw [e0,dl_eq,List.getD_eq_getElem?_getD]
  rcases Nat.lt_or_ge e n with q | q
  ·rw [List.getElem?_append_left (by rw [hl];have:(e+1)*m≤n*m:=Nat.mul_le_mul_right m q;rw [Nat.add_mul] at this;omega)]
   have:=ih (fun e he=>h e (by omega)) q
   rw [dl_eq,List.getD_eq_getElem?_getD] at this
   exact this
  ·obtain rfl:e=n:=by omega
   rw [List.getElem?_append_right (by omega),hl,show e*m+c - e*m=c by omega,dl_eq,List.getD_eq_getElem?_getD]
section
variable {P:Program} {N:Nat} {o:Oper} {E:Nat→D} {H:Nat→Option Box}
theorem loc_load_all {t:TypeId} {x:Operand} {k n m s:Nat} {f:Nat→List D} (ho:o.op = .load t x) (hd:dstLt o N=true) (hL:LoadIs P t s true) (hs:s=n*m) (hx:Opd E x (.eptr k m 0 0)) (hk:isArr (H k) n m f):Loc P N o E H ⟨[k],o.dst,.agg (flatL n f),[],[]⟩:=
 loc_run (by simp [ho]) hd (fun E1 H1 S Z i a w hF hA hN=>by
  have h1:=hF.opd (hA x (by simp [ho,Op.operands]) _ hx)
  generalize hv:a.eval x=v at h1
  cases h1 with | @eptr _ b cp _ _ _ _ hib=>
  have hk1:=hN k (by simp)
  obtain ⟨t',cp,hAr⟩:=hF.arr (hk1.symm▸hk) hib
  have hfl:∀ e,e<n→(f e).length=m:=by obtain ⟨_,_,_,_,h,_⟩:=hAr;exact h
  subst hs
  have hcell:∀ j,j<n*m→∃ v,w.cell? ⟨b,j,none⟩=some v∧v.oneCell'=true∧Rep Z w noN v (dl (flatL n f) j):=fun j hj=>by
   have hm:0<m:=by
    rcases Nat.eq_zero_or_pos m with q | q
    ·rw [q,Nat.mul_zero] at hj;omega
    ·exact q
   have h2:j / m<n:=Nat.div_lt_of_lt_mul (by rw [Nat.mul_comm];exact hj)
   have h3:=Nat.mod_lt j hm
   have h4:=hAr.cellAt h2 h3
   have h5:j / m*m+j % m=j:=by rw [Nat.mul_comm];exact Nat.div_add_mod j m
   have h6:=flatL_at hfl h2 h3
   rw [h5] at h4 h6
   rw [h6]
   exact h4
  refine ⟨_,run_loadOp ho hL hv (cs:=fun j=>(w.cell? ⟨b,j,none⟩).getD undef) (fun j hj=>?_),ldD_rep (l:=flatL n f) hL.1 (flatL_len hfl) (fun j hj=>?_)⟩
  ·obtain ⟨v,h1,_⟩:=hcell j hj
   rw [addr_add,show 0*m+0+j=j by omega,h1];rfl
  ·obtain ⟨v,h1,h2,h3⟩:=hcell j hj
   rw [h1]
   exact ⟨h2,h3.of_noN⟩)
theorem run_slicePa {a:Act} {w:World} {S:Cx} {Z:Zn} {i:Nm} {t el:TypeId} {x:Operand} {hi:Operand} {h n b:Nat} {info info':TypeInfo} {d':TypeDesc} (hF:Fits S E H Z i a w) (ho:o.op = .slice t x none (some hi) none) [hT:TI P t info (.array n el)] [hT':TI P el info' d'] (hx:a.eval x = .pointer (some ⟨b,0,none⟩)) (hhi:OptIs E (some hi) h n) (h2:h≤n) :
  (execOp a.eval o).run P w = .ok (.value (.slice (some ⟨b,0,none⟩) h n)) w:=by
 have s1:(sizeOf el).run P w = .ok info'.size w:=by simp [sizeOf,typeInfo,hT'.info,Result.andThen]
 have hb:(Instr.sliceBounds false n n none (some (a.eval hi)) none).run P w = .ok (0,h,n) w:=by
  have e2:=hhi.run (P:=P) (code:=.sliceAlen) hF h2
  simp at e2
  simp [Instr.sliceBounds,e2,Result.andThen]
 simp only [execOp,ho,Option.map_none,hx,Instr.sliceAt]
 simp [run_underlying hT.under,Result.andThen,Instr.sureAddr,hb,s1,Addr.add]
theorem loc_slice_ice {t el t':TypeId} {x hi:Operand} {k h n m:Nat} {f:Nat→List D} {info info':TypeInfo} {d':TypeDesc} (ho:o.op = .slice t x none (some hi) none) (hd:dstLt o N=true) [hT:TI P t info (.array n el)] [hT':TI P el info' d'] (hx:Opd E x (.eptr k m 0 0)) (hhi:OptIs E (some hi) h n) (h2:h≤n) (h63:n≤9223372036854775807) (hk:H k=some (.ice t' n m f)):Loc P N o E H ⟨[k],o.dst,.fz false h m f,[],[]⟩:=
 loc_run (by simp [ho]) hd (fun E1 H1 S Z i a w hF hA hN=>by
  have h3:=hF.opd (hA x (by simp [ho,Op.operands]) _ hx)
  have hhi':OptIs E1 (some hi) h n:=by obtain ⟨q,hq⟩:=hhi;exact ⟨q,hA hi (by simp [ho,Op.operands]) _ hq⟩
  generalize hv:a.eval x=v at h3
  cases h3 with | @eptr _ b cp _ _ _ _ hib=>
  have hk1:=hN k (by simp)
  rw [hk] at hk1
  rw [show 0*m+0=0 by omega] at hv
  rcases hF.box k _ hk1 with ⟨b',c',e1,_,_,e4,h5⟩ | ⟨q,_⟩
  ·rw [hib] at e1;cases e1
   obtain ⟨cap,h5⟩:=h5
   refine ⟨_,run_slicePa hF ho hv hhi' h2,?_⟩
   have hfl:∀ e,e<n→(f e).length=m:=by obtain ⟨_,_,_,_,h,_⟩:=h5;exact h
   refine .fz _ _ _ _ _ _ _ (fun e c=>(w.cell? ⟨b,e*m+c,none⟩).getD undef) h2 h63 (fun e he=>hfl e (by omega)) (fun e c he hc=>?_) (fun e c he hc=>?_)
   ·obtain ⟨v,v1,v2,_⟩:=h5.cellAt (e:=e) (c:=c) (by omega) hc
    exact ⟨b,0,rfl,e4 rfl,by rw [Nat.zero_add,v1];rfl,by rw [v1];exact v2⟩
   ·obtain ⟨v,v1,_,v3⟩:=h5.cellAt (e:=e) (c:=c) (by omega) hc
    rw [v1];exact v3
  ·rw [hib] at q;cases q)
end
section
variable {P:Program} {N:Nat} {o:Oper} {E:Nat→D} {H:Nat→Option Box}
theorem loc_buildA {t el:TypeId} {n:Nat} {xs:List (Nat × Operand)} {ds:List (Nat × D)} {info info':TypeInfo} {d':TypeDesc} {z:Value} {l:List D} (ho:o.op = .build t xs.toArray) (hd:dstLt o N=true) [hT:TI P t info (.array n el)] [hT':TI P el info' d'] (hz:info.zero=some z) (h1:(z.cells.toList.all fun z=>z.oneCell')=true) (hx:OpdP E xs ds) (hl:fillD (fun j=>some (j*info'.size,info'.size)) (valL z.cells.toList) ds=some l):Loc P N o E H ⟨[],o.dst,.agg l,[],[]⟩:=
 loc_run (by simp [ho]) hd (fun E1 H1 S Z i a w hF hA hN=>by
  have hz1:(zeroValue t).run P w = .ok z w:=by simp [zeroValue,typeInfo,hT.info,hz,Result.andThen]
  have s1:(sizeOf el).run P w = .ok info'.size w:=by simp [sizeOf,typeInfo,hT'.info,Result.andThen]
  obtain ⟨k1,k2⟩:=hx.spec (E1:=E1) (a:=a) hF (fun x hx d hd=>hA x (by
   obtain ⟨y,hy,rfl⟩:=List.mem_map.1 hx
   simp only [ho,Op.operands]
   simp
   exact ⟨y.1,hy⟩) d hd)
  have h0:CellsRep Z w i z.cells (valL z.cells.toList):=by
   have:=zero_rep (Z:=Z) (w:=w) (i:=i) (zs:=z.cells.toList) (fun x hx=>List.all_eq_true.1 h1 x hx)
   simpa using this
  obtain ⟨cs,f1,f2⟩:=fill_rep (place:=fun j=>some (j*info'.size,info'.size)) ds _ _ _ l k1 k2 h0 hl
  have hr:(Instr.build t (parV a.eval xs).toArray).run P w = .ok (.agg cs) w:=by
   unfold Instr.build
   simp only [Sem.run_bind,hz1,Result.andThen,run_underlying hT.under,s1]
   rw [f1]
   rfl
  refine ⟨.agg cs,?_,?_⟩
  ·simp only [execOp,ho]
   rw [show (Array.map (fun x=>match x with | (i,x)=>(i,a.eval x)) xs.toArray)=(parV a.eval xs).toArray by simp [parV]]
   rw [Sem.run_bind,hr];rfl
  ·have:cs=cs.toList.toArray:=by simp
   rw [this]
   exact .agg i _ _ (by simpa using f2.1) (fun j hj=>by rw [← toArray_getD];exact (f2.2 j hj).1) (fun j hj=>by rw [← toArray_getD];exact (f2.2 j hj).2))
end
section
variable {ro:Option Nat} {P:Program} {N:Nat} {Q:Post} {ops:Array Oper} {rest:List Oper} {env:List (Nat × D)} {box:List (Nat × Option Box)} {done:List Rec} {K:List Rec→List (Nat × D)→List (Nat × Option Box)→Prop} {d:Nat} {ty:TypeId} {pos:String} {aft:Array Edge}
theorem r_ldall {x:Operand} {t el t':TypeId} {k n m:Nat} {f:Nat→List D} {info:TypeInfo} [hT:TI P t info (.array n el)] (h:RunK P N ops rest ((d,.agg (flatL n f))::env) box (done++[⟨[k],some d,.agg (flatL n f),[],[]⟩]) K) (hx:Op1 env x (.eptr k m 0 0):=by first | (apply Op1.tmp;(repeat (first | exact Lk.here | apply Lk.there rfl));done)) (hb:autoParam (Bl box k (.arr t' n m f)) aq5._auto_1) (hs:info.size=n*m:=by rfl) (hd:Nat.blt d (fsz N)=true:=by rfl):RunK P N ops (⟨some d,.load t x,ty,pos,aft,none⟩::rest) env box done K:=
 run_put (ws:=[]) (fresh:=[]) (loc_load_all rfl hd (ld_agg (hT:=hT) rfl) hs hx.opd ⟨_,.inl hb.eq⟩) rfl h
theorem r_slpa {x y:Operand} {t el t':TypeId} {k c n m:Nat} {kd:IntKind} {f:Nat→List D} {info info':TypeInfo} {d':TypeDesc} [hT:TI P t info (.array n el)] [hT':TI P el info' d'] (h:RunK P N ops rest ((d,.fz false c m f)::env) box (done++[⟨[k],some d,.fz false c m f,[],[]⟩]) K) (hx:Op1 env x (.eptr k m 0 0):=by first | (apply Op1.tmp;(repeat (first | exact Lk.here | apply Lk.there rfl));done)) (hy:autoParam (Op1 env y (.val (.int kd (c:Int)))) aq8._auto_1) (h2:c≤n:=by omega) (h63:n≤9223372036854775807:=by omega) (hb:autoParam (Bl box k (.ice t' n m f)) aq5._auto_1) (hd:Nat.blt d (fsz N)=true:=by rfl):RunK P N ops (⟨some d,.slice t x none (some y) none,ty,pos,aft,none⟩::rest) env box done K:=
 run_put (ws:=[]) (fresh:=[]) (loc_slice_ice rfl hd hx.opd ⟨kd,hy.opd⟩ h2 h63 hb.eq) rfl h
theorem r_bldA {t el:TypeId} {n:Nat} {xs:List (Nat × Operand)} {ds:List (Nat × D)} {info info':TypeInfo} {d':TypeDesc} {z:Value} {l:List D} [hT:TI P t info (.array n el)] [hT':TI P el info' d'] (h:RunK P N ops rest ((d,.agg l)::env) box (done++[⟨[],some d,.agg l,[],[]⟩]) K) (hx:Op1P env xs ds:=by (repeat (first | exact Op1P.nil | apply Op1P.cons (by first | exact Op1.const _ | exact Op1.fn _ | exact Op1.gl _ | (apply Op1.tmp;(repeat (first | exact Lk.here | apply Lk.there rfl));done))))) (hz:info.zero=some z:=by rfl) (h1:(z.cells.toList.all fun z=>z.oneCell')=true:=by rfl) (hl:Fill (fun j=>some (j*info'.size,info'.size)) (valL z.cells.toList) ds l:=by (repeat (first | exact Fill.nil | apply Fill.cons rfl rfl rfl rfl (by (repeat (first | exact PutL.nil | apply PutL.cons | apply PutL.skip)))))) (hd:Nat.blt d (fsz N)=true:=by rfl):RunK P N ops (⟨some d,.build t xs.toArray,ty,pos,aft,none⟩::rest) env box done K:=
 run_put (ws:=[]) (fresh:=[]) (loc_buildA rfl hd hz h1 hx.opd hl.eq) rfl h
theorem goc {G G':Prop} (g:G') (h:Back G' G:=by ((repeat (apply Back.step;(focus (first | (with_reducible exact c_seq) | (with_reducible exact p_thenN) | (with_reducible exact p_thenR) | (with_reducible exact p_thenX) | (with_reducible exact p_blkN) | (with_reducible exact p_blkR) | ((with_reducible refine p_blkX ?_);rfl) | ((with_reducible refine p_blkY ?_);rfl) | (with_reducible exact awp_block) | (with_reducible exact awp_exit) | (with_reducible exact awp_ret) | (with_reducible exact awp_skip)))));exact Back.refl)):G:=h.go g
theorem r_alcA {t el:TypeId} {n:Nat} {info info':TypeInfo} {d':TypeDesc} {z z':Value} [hT:TI P t info (.array n el)] [hT':TI P el info' d'] (h:RunK P N ops rest ((d,.eptr (1000+d) info'.size 0 0)::env) ((1000+d,some (.arr t n info'.size fun _=>valL z'.cells.toList))::box) (done++[⟨[],some d,.eptr (1000+d) info'.size 0 0,[(1000+d,some (.arr t n info'.size fun _=>valL z'.cells.toList))],[1000+d]⟩]) K)
  (hz:info.zero=some z:=by rfl) (hz':info'.zero=some z':=by rfl) (hc:z.cells.toList=(List.replicate n z'.cells.toList).flatten:=by rfl) (hm:info'.size=z'.cells.toList.length:=by rfl) (h1:(z'.cells.toList.all fun z=>z.oneCell')=true:=by rfl) (hd:Nat.blt d (fsz N)=true:=by rfl):RunK P N ops (⟨some d,.alloc t,ty,pos,aft,none⟩::rest) env box done K:=
 run_put (ws:=[(1000+d,some (.arr t n info'.size fun _=>valL z'.cells.toList))]) (fresh:=[1000+d]) (loc_alloc_arr rfl hd hz hz' hc hm h1) rfl h
end

section
variable {P:Program} {t s el:TypeId} {i i':TypeInfo} {e e':TypeDesc}
theorem SZ.of {n:Nat} (h:TI P t i e) (hn:i.size=n):SZ P t n:=⟨hn▸SizeIs.mk⟩
theorem ZR.of {z:Value} {zs:List Value} (h:TI P t i e) (hz:i.zero=some z) (hc:z.cells=zs.toArray) (h1:(zs.all fun z=>z.oneCell')=true):ZR P t zs:=by
 have:=ZeroIs.mk (P:=P) (t:=t) hz (by rw [hc];exact h1)
 rw [hc] at this
 exact ⟨this⟩
theorem FT.of {fs:Array Field} {fl:Field} {k off:Nat} (h:TI P s i (.struct fs)) (hf:fs[k]? = some fl) (h':TI P fl.type i' e') (ho:fl.offset=off) (h0:(i'.size == 0)=false):FT P s k off:=⟨ho▸FieldIs.mk hf h0⟩
theorem FV.one {fs:Array Field} {fl:Field} {k off:Nat} (h:TI P s i (.struct fs)) (hf:fs[k]? = some fl) (h':TI P fl.type i' e') (ho:fl.offset=off) (ha:isAggD e'=false):FV P s k off 1 false:=⟨_,_,_,h,hf,ho,pt_one ha⟩
theorem FV.agg {fs:Array Field} {fl:Field} {k off n:Nat} (h:TI P s i (.struct fs)) (hf:fs[k]? = some fl) (h':TI P fl.type i' e') (ho:fl.offset=off) (ha:isAggD e'=true) (hn:i'.size=n):FV P s k off n true:=⟨_,_,_,h,hf,ho,hn▸pt_agg ha⟩
theorem ET.of {m:Nat} (h:TI P t i (.slice el)) (h':TI P el i' e') (hm:i'.size=m):ET P t m:=⟨hm▸IndexIs.mk⟩
theorem AR.of {n m:Nat} (h:TI P t i (.array n el)) (h':TI P el i' e') (hm:i'.size=m):AR P t n m:=⟨hm▸IndexArr.mk⟩
end
instance mixP:Mix Tryz.prog:=⟨by kernel_rfl⟩
instance ti2:TI Tryz.prog 2 Tryz.t2 (.int .i64):=⟨by kernel_rfl,by kernel_rfl⟩
instance ti3:TI Tryz.prog 3 Tryz.t3 (.int .i64):=⟨by kernel_rfl,by kernel_rfl⟩
instance ti4:TI Tryz.prog 4 Tryz.t4 (.bool ):=⟨by kernel_rfl,by kernel_rfl⟩
instance ti5:TI Tryz.prog 5 Tryz.t5 (.int .u8):=⟨by kernel_rfl,by kernel_rfl⟩
instance ti22:TI Tryz.prog 22 Tryz.t22 (.int .u32):=⟨by kernel_rfl,by kernel_rfl⟩
instance ti23:TI Tryz.prog 23 Tryz.t23 (.slice 22):=⟨by kernel_rfl,by kernel_rfl⟩
instance ti25:TI Tryz.prog 25 Tryz.t25 Tryz.t24.desc:=⟨by kernel_rfl,by kernel_rfl⟩
instance ti29:TI Tryz.prog 29 Tryz.t29 (.slice 2):=⟨by kernel_rfl,by kernel_rfl⟩
instance ti34:TI Tryz.prog 34 Tryz.t34 (.int .i64):=⟨by kernel_rfl,by kernel_rfl⟩
instance ti126:TI Tryz.prog 126 Tryz.t126 (.int .u64):=⟨by kernel_rfl,by kernel_rfl⟩
instance sz4:SZ Tryz.prog 4 1:=SZ.of ti4 rfl
instance sz5:SZ Tryz.prog 5 1:=SZ.of ti5 rfl
instance sz22:SZ Tryz.prog 22 1:=SZ.of ti22 rfl
instance sz23:SZ Tryz.prog 23 1:=SZ.of ti23 rfl
instance et23:ET Tryz.prog 23 1:=ET.of ti23 ti22 rfl
instance sz25:SZ Tryz.prog 25 7:=SZ.of ti25 rfl
instance zr25:ZR Tryz.prog 25 [.int .i64 0,.int .u32 0,.int .i64 0,.slice none 0 0,.int .u32 0,.int .i64 0,.int .u32 0]:=ZR.of ti25 rfl rfl rfl
instance ft25_0:FT Tryz.prog 25 0 0:=FT.of ti25 rfl ti3 rfl rfl
instance ft25_1:FT Tryz.prog 25 1 1:=FT.of ti25 rfl ti22 rfl rfl
instance ft25_2:FT Tryz.prog 25 2 2:=FT.of ti25 rfl ti3 rfl rfl
instance ft25_3:FT Tryz.prog 25 3 3:=FT.of ti25 rfl ti23 rfl rfl
instance ft25_4:FT Tryz.prog 25 4 4:=FT.of ti25 rfl ti22 rfl rfl
instance ft25_5:FT Tryz.prog 25 5 5:=FT.of ti25 rfl ti3 rfl rfl
instance ft25_6:FT Tryz.prog 25 6 6:=FT.of ti25 rfl ti22 rfl rfl
instance et29:ET Tryz.prog 29 1:=ET.of ti29 ti2 rfl
instance sz34:SZ Tryz.prog 34 1:=SZ.of ti34 rfl
instance fi265:FI Tryz.prog 265 Tryz.f265:=⟨Tryz.func265,Tryz.call265⟩
instance fi204:FI Tryz.prog 204 Tryz.f204:=⟨Tryz.func204,Tryz.call204⟩
instance fi227:FI Tryz.prog 227 Tryz.f227:=⟨Tryz.func227,Tryz.call227⟩
instance fi278:FI Tryz.prog 278 Tryz.f278:=⟨Tryz.func278,Tryz.call278⟩
instance fi205:FI Tryz.prog 205 Tryz.f205:=⟨Tryz.func205,Tryz.call205⟩
instance fi154:FI Tryz.prog 154 Tryz.f154:=⟨Tryz.func154,Tryz.call154⟩
instance fi229:FI Tryz.prog 229 Tryz.f229:=⟨Tryz.func229,Tryz.call229⟩
instance fi203:FI Tryz.prog 203 Tryz.f203:=⟨Tryz.func203,Tryz.call203⟩
instance fi306:FI Tryz.prog 306 Tryz.f306:=⟨Tryz.func306,Tryz.call306⟩
instance fi249:FI Tryz.prog 249 Tryz.f249:=⟨Tryz.func249,Tryz.call249⟩
instance fi161:FI Tryz.prog 161 Tryz.f161:=⟨Tryz.func161,Tryz.call161⟩
instance fi246:FI Tryz.prog 246 Tryz.f246:=⟨Tryz.func246,Tryz.call246⟩
instance fi138:FI Tryz.prog 138 Tryz.f138:=⟨Tryz.func138,Tryz.call138⟩
instance fi215:FI Tryz.prog 215 Tryz.f215:=⟨Tryz.func215,Tryz.call215⟩
instance fi137:FI Tryz.prog 137 Tryz.f137:=⟨Tryz.func137,Tryz.call137⟩
instance fi214:FI Tryz.prog 214 Tryz.f214:=⟨Tryz.func214,Tryz.call214⟩
instance fi133:FI Tryz.prog 133 Tryz.f133:=⟨Tryz.func133,Tryz.call133⟩
instance fi207:FI Tryz.prog 207 Tryz.f207:=⟨Tryz.func207,Tryz.call207⟩
instance fi132:FI Tryz.prog 132 Tryz.f132:=⟨Tryz.func132,Tryz.call132⟩
instance fi206:FI Tryz.prog 206 Tryz.f206:=⟨Tryz.func206,Tryz.call206⟩
instance fi213:FI Tryz.prog 213 Tryz.f213:=⟨Tryz.func213,Tryz.call213⟩
instance fi266:FI Tryz.prog 266 Tryz.f266:=⟨Tryz.func266,Tryz.call266⟩
instance fi294:FI Tryz.prog 294 Tryz.f294:=⟨Tryz.func294,Tryz.call294⟩
instance fi228:FI Tryz.prog 228 Tryz.f228:=⟨Tryz.func228,Tryz.call228⟩
instance fi279:FI Tryz.prog 279 Tryz.f279:=⟨Tryz.func279,Tryz.call279⟩

set_option maxRecDepth 20000
section
variable {ro:Option Nat} {P:Program} {N:Nat} {Q:Post} {ops:Array Oper} {rest:List Oper} {env:List (Nat × D)} {box:List (Nat × Option Box)} {done:List Rec} {K:List Rec→List (Nat × D)→List (Nat × Option Box)→Prop} {d:Nat} {ty:TypeId} {pos:String} {aft:Array Edge}
theorem r_callR (k:Nat) {x:Operand} {xs:List Operand} {ts:Array TypeId} {f:FuncId} {fn:Func} {ds ads caps:List D} {r r' d0:D} {B B':Box} [hf:FI P f fn] [hod:OldDL ds] [hob:AllOld [(0,B)]] [hnew:NewD r] [hnb:AllNew [(0,B')]] (hden:DenH P f ds [(0,B)] r [(0,B')] []) (hr:r.ren (fun _=>k)=r') (h:RunK P N ops rest ((d,r')::env) ((k,some B')::box) (done++[⟨nsOf box (ads++caps),some d,r',[(k,some B')],[]⟩]) K) (hx:autoParam (Op1 env x d0) aq0._auto_1) (hcl:autoParam ((d0 = .val (.func (.func f) #[] #[])∧caps=[])∨d0 = .clo f caps) aq12._auto_1) (ha:autoParam (Op1L env xs ads) aq3._auto_1) (hb:autoParam (Bl box k B) aq5._auto_1) (hm:memB k (nsOf box (ads++caps))=true:=by kernel_rfl) (hv:autoParam (ArgVL true [k] (nsOf box (ads++caps)) [0] (fun _=>k) (hk box) (ads++caps) ds) aq2._auto_1) (hbf:B'.free (fun _=>false)=true:=by rfl) (hd:Nat.blt d (fsz N)=true:=by rfl):RunK P N ops (⟨some d,.call { callee:=.value x,args:=xs.toArray,argTypes:=ts },ty,pos,aft,none⟩::rest) env box done K:=
 run_put (ws:=[(k,some B')]) (fresh:=[]) (by have:=loc_call (lend:=true) (ρ:=fun _=>k) (P:=P) (N:=N) (o:=⟨some d,.call { callee:=.value x,args:=xs.toArray,argTypes:=ts },ty,pos,aft,none⟩) rfl hd hx.opd hcl ha.opd hden hv (fun x C hm=>by cases hm with | head=>exact hb.eq | tail _ h=>cases h) (fun x hx=>memB_spec hm) rfl rfl (fun h=>⟨hnew,hnb⟩);rw [hr] at this;simp only [outL,List.append_nil,renb_free hbf] at this;exact this) rfl h
theorem c_no {c:Operand} {b:Bool} {x y:Code} (h:AWp ro P N y (lk env) (hk box) Q) (hc:autoParam (Op1 env c (.val (.bool b))) aq0._auto_1) (hb:b=false:=by rfl):AWp ro P N (.cond c x y) (lk env) (hk box) Q:=c_ifB (fun e=>by rw [hb] at e;cases e) (fun _=>h) hc
theorem c_yes {c:Operand} {b:Bool} {x y:Code} (h:AWp ro P N x (lk env) (hk box) Q) (hc:autoParam (Op1 env c (.val (.bool b))) aq0._auto_1) (hb:b=true:=by rfl):AWp ro P N (.cond c x y) (lk env) (hk box) Q:=c_ifB (fun _=>h) (fun e=>by rw [hb] at e;cases e) hc
end
theorem finR {P:Program} {env:List (Nat × D)} {box:List (Nat × Option Box)} {fn:Func} {r:D} {ds:List D} {hs:Hs} 
  (hr:autoParam (Res1 P env box fn.results.toList ds) aq4._auto_1)
  (hd:resD ds=r:=by rfl) (hf:r.free (fun k=>memB k hs.keys)=true:=by rfl) (hb:BoxAll box hs:=by (repeat (first | exact BoxAll.nil | (apply BoxAll.cons;(focus ((repeat (first | exact Bl.here | apply Bl.there rfl));done));(focus (rfl));(focus (rfl)))))):FinS P fn r hs [] (lk env) (hk box):=by
 refine ⟨_,_,Sub.refl _ _,ds,hr.is,fun S a w Z i v hF hv=>?_,fun k B hm=>?_⟩
 ·subst hd
  refine hv.nm hf (fun k x hk e=>?_)
  have hm:=memB_spec hk
  show (if k∈(hs++[]).map (fun y:Nat × Box=>y.1) then i k else none)=some x
  rw [if_pos (by rw [List.append_nil];exact hm)]
  exact e
 ·rw [List.append_nil] at hm
  exact (fun ⟨a,b,c⟩=>⟨a,b,Box.free_mono (fun _ h=>by cases h) c⟩) (hb.at k B hm)

section
variable {ro:Option Nat} {P:Program} {N:Nat} {Q:Post} {c:Code} {env:List (Nat × D)} {box:List (Nat × Option Box)} {fn:Func} {r:D} {hs rs:Hs} {E2:Nat→D} {H2:Nat→Option Box}
end
section
variable {ro:Option Nat} {P:Program} {N:Nat} {Q:Post} {c:Code} {env:List (Nat × D)} {box:List (Nat × Option Box)} {fn:Func} {r:D} {hs rs:Hs}
end
inductive BoxAllN (ks:List Nat) (box:List (Nat × Option Box)):Hs→Prop where
 | nil:BoxAllN ks box []
 | cons {k:Nat} {B:Box} {hs:Hs} (h:Bl box k B) (hm:B.mut=true) (hf:B.free (fun x=>memB x ks)=true) (r:BoxAllN ks box hs):BoxAllN ks box ((k,B)::hs)
theorem BoxAllN.at {ks:List Nat} {box:List (Nat × Option Box)} {hs:Hs} (h:BoxAllN ks box hs):∀ k B,(k,B)∈hs→hk box k=some B∧B.mut=true∧B.free (fun x=>memB x ks)=true:=by
 induction h with
 | nil=>intro k B h;cases h
 | cons h hm hf _ ih=>
  intro k B hkB
  rcases List.mem_cons.1 hkB with e | e
  ·cases e;exact ⟨h.eq,hm,hf⟩
  ·exact ih k B e
theorem finN {P:Program} {env:List (Nat × D)} {box:List (Nat × Option Box)} {fn:Func} {r:D} {ds:List D} {rs:Hs}
  (hr:autoParam (Res1 P env box fn.results.toList ds) aq4._auto_1)
  (hd:resD ds=r:=by rfl) (hf:r.free (fun k=>memB k rs.keys)=true:=by rfl) (hb:BoxAllN rs.keys box rs:=by (repeat (first | exact BoxAllN.nil | (apply BoxAllN.cons;(focus ((repeat (first | exact Bl.here | apply Bl.there rfl));done));(focus (rfl));(focus (rfl)))))):FinS P fn r [] rs (lk env) (hk box):=by
 refine ⟨_,_,Sub.refl _ _,ds,hr.is,fun S a w Z i v hF hv=>?_,fun k B hm=>hb.at k B hm⟩
 subst hd
 refine hv.nm hf (fun k x hk e=>?_)
 show (if k∈([]++rs).map (fun y:Nat × Box=>y.1) then i k else none)=some x
 have hm:k∈([]++rs).map (fun y:Nat × Box=>y.1):=memB_spec hk
 rw [if_pos hm]
 exact e
section
variable {ro:Option Nat} {P:Program} {N:Nat} {Q:Post} {ops:Array Oper} {rest:List Oper} {env:List (Nat × D)} {box:List (Nat × Option Box)} {done:List Rec} {K:List Rec→List (Nat × D)→List (Nat × Option Box)→Prop} {d:Nat} {ty:TypeId} {pos:String} {aft:Array Edge}
end
section
variable {P:Program} {N:Nat} {o:Oper} {E:Nat→D} {H:Nat→Option Box}
end
section
variable {P:Program} {N:Nat} {ops:Array Oper} {rest:List Oper} {env:List (Nat × D)} {box:List (Nat × Option Box)} {done:List Rec} {K:List Rec→List (Nat × D)→List (Nat × Option Box)→Prop} {d:Nat} {ty:TypeId} {pos:String} {aft:Array Edge}
end

abbrev imp:D:=.fz false 1 1 (fun _=>[])
theorem imp_no {Z:Zn} {w:World} {i:Nm} {v:Value} (h:Rep Z w i v imp):False:=by
 cases h with
 | fz _ _ _ _ _ _ _ _ h1 h2 hl ha hr=>have:=hl 0 (by omega);simp at this
def DenX (P:Program) (f:FuncId) (ds:List D) (k:Nat):Prop:=
 ∀ (Zc:Nat→Prop) (w:World) (i:Nm) (args:List Value),(∀ b,Zc b→b<w.heap.size)→(∀ k,i k=none)→RepsI (fun o b=>o=true∧Zc b) w i args ds→Calls P f args.toArray w fun e w'=>e = .panicked (panCh k)∧Kept (fun _=>False) w w'
section
variable {P:Program} {N:Nat}
theorem den_introX {f:FuncId} {fn:Func} {c:Code} {ds:List D} {k:Nat} [hf:FI P f fn] (hb:fn.body=some c) (hn:(Nat.ble ds.length fn.ntmps && Nat.blt fn.ntmps 65536)=true)
  (h:AWp none P (fn.ntmps+65536*(k+1)) c (lk (initE 0 ds)) (hk []) (fun _ _ _=>False)) (hk40:Nat.blt (k+1) 1099511627776=true:=by rfl):DenX P f ds k:=fun Zc w i args hZ hi ha=>by
 rw [Bool.and_eq_true] at hn
 have hn2:fn.ntmps<65536:=by simpa using hn.2
 replace hn:=Nat.le_of_ble_eq_true hn.1
 have hl:args.length=ds.length:=ha.1
 let Z:Zn:=fun o b=>o=true∧Zc b
 let S:Cx:=⟨w,Zc,fun _=>False,fn.ntmps+65536*(k+1),[],i,w,fun _=>False,Z⟩
 have hsz:fsz S.N=fn.ntmps:=by
  show (fn.ntmps+65536*(k+1)) % 65536=fn.ntmps
  rw [Nat.add_mul_mod_self_left,Nat.mod_eq_of_lt hn2]
 have hpn:∀ ch,S.pan ch→ch=panCh k:=fun ch hc=>by
  have:S.pan ch=panAt ((fn.ntmps+65536*(k+1)) / 65536 % 1099511627776) ch:=rfl
  rw [this,Nat.add_mul_div_left _ _ (by omega),Nat.div_eq_of_lt hn2,Nat.zero_add,Nat.mod_eq_of_lt (by simpa using hk40)] at hc
  exact hc
 refine callsIn_wide.1 (callsIn_of_wp_marks (n:=0) hf.func hb trivial ?_)
 have hF:Fits S (lk (initE 0 ds)) (hk []) Z i { tmps:=args.toArray++Array.replicate (fn.ntmps - args.toArray.size) undef,defers:=[] } w:=by
  refine ⟨⟨[],rfl,List.nodup_nil,fun b hb=>by cases hb⟩,by rw [hsz];simp;omega,Kept.refl _ _,Kept.refl _ _,fun _ _ h=>h,fun b hb=>(nomatch hb.1),fun b hb=>⟨hZ b hb.2,fun _=>hb.2⟩,fun b hb=>(nomatch hb.1),fun t=>?_,fun k B hB=>(by cases hB),fun k B b hB=>(by cases hB),fun k _=>hi k,fun k _=>rfl,fun k k' B B' b h1=>(by cases h1),fun _=>rfl⟩
  rw [initE_at]
  by_cases q:0≤t∧t<0+ds.length
  ·rw [if_pos q,Nat.sub_zero]
   have:=ha.2 t (by omega)
   have e:(args.toArray++Array.replicate (fn.ntmps - args.toArray.size) undef).getD t undef=args.getD t undef:=by
    rw [Array.getD_eq_getD_getElem?,List.getD_eq_getElem?_getD,Array.getElem?_append_left (by simp;omega),List.getElem?_toArray]
   rw [e];exact this
  ·rw [if_neg q];exact .any _ _
 refine wpIn_mono (h S _ w rfl ⟨Z,i,hF⟩) (fun e a' w' ⟨E0,H0,he0,hR0⟩=>?_)
 have key:∀ (ms:List Nat) (Z':Zn) (i':Nm) (a':Act) (w':World),Fits S E0 H0 Z' i' a' w'→a'.defers=ms.map mark++[]→ms.Nodup→(∀ b,b∈ms→Z' false b∧w'.heap[b]? = some (.deferred (some []))) →
   LeavesInM (Fw none) 0 P fn a'.tmps (fun e w'=>e = .panicked (panCh k)∧Kept (fun _=>False) w w') a'.defers (.panicking (panCh k)) w':=by
  intro ms
  induction ms with
  | nil=>
   intro Z' i' a' w' hF' hd _ _
   rw [hd]
   exact ⟨rfl,hF'.kept⟩
  | cons D ms ih=>
   intro Z' i' a' w' hF' hd hnd hms
   rw [hd]
   refine ⟨by simp,.inl ⟨D,_,rfl,run_takeDeferred (hms D (by simp)).2,?_⟩⟩
   have hF2:=hF'.unmark hd hms hnd (hF'.zNew D (hms D (by simp)).1) (fun o hz=>absurd (hZ D hz.2) (Nat.not_lt.2 (hF'.zNew D (hms D (by simp)).1)))
   exact ih _ _ _ _ hF2 rfl (List.nodup_cons.1 hnd).2 (fun b hb=>by
    have hne:b≠D:=fun e=>by subst e;exact (List.nodup_cons.1 hnd).1 hb
    exact ⟨⟨(hms b (by simp [hb])).1,hne⟩,(World.putObj_heap_other hne).trans (hms b (by simp [hb])).2⟩)
 obtain ⟨Z',i',hF'⟩:=hR0
 obtain ⟨ms,e1,e2,e3⟩:=hF'.defers
 cases e with
 | panic ch=>
  obtain rfl:=hpn ch (he0.resolve_left id)
  exact key ms Z' i' a' w' hF' e1 e2 e3
 | _=>exact he0.elim
theorem loc_callX {o:Oper} {E:Nat→D} {H:Nat→Option Box} {f:FuncId} {fn:Func} {x:Operand} {xs:List Operand} {ts:Array TypeId} {ds ads caps:List D} {d0:D} {ns:List Nat} {k:Nat} (ho:o.op = .call { callee:=.value x,args:=xs.toArray,argTypes:=ts }) [hf:FI P f fn]
  (hx:Opd E x d0) (hcl:(d0 = .val (.func (.func f) #[] #[])∧caps=[])∨d0 = .clo f caps) (ha:OpdL E xs ads) (hden:DenX P f ds k) (hN:N / 65536 % 1099511627776=k+1) (hv:ArgVL true [] ns [] (fun k=>k) H (ads++caps) ds) [hod:OldDL ds]:Loc P N o E H ⟨ns,o.dst,imp,[],[]⟩:=by
 refine ⟨rfl,by simp [ho],fun E1 H1 h1 h2 h3 S a w hSN hR K Q hX hK=>?_⟩
 obtain ⟨Z,i,hF⟩:=hR
 have hops:o.op.operands=#[x]++xs.toArray:=by simp [ho,Op.operands,Call.operands]
 have e1:=hF.opd (Opd.agree (x:=x) (by simp [hops]) h1 hx)
 have hlen:=ha.len
 have hasr:∀ j,j<ads.length→Rep Z w i ((xs.map a.eval).getD j undef) (dl ads j):=fun j hj=>by
  have hj':j<xs.length:=by omega
  have:=hF.opd (Opd.agree (x:=xs[j]) (by rw [hops];simp) h1 (ha.at j _ (List.getElem?_eq_getElem hj')))
  rw [List.getD_eq_getElem?_getD,List.getElem?_map,List.getElem?_eq_getElem hj']
  exact this
 have hfun:∃ cv:List Value,a.eval x = .func (.func f) #[] cv.toArray∧cv.length=caps.length∧∀ j,j<caps.length→Rep Z w i (cv.getD j undef) (dl caps j):=by
  rcases hcl with ⟨rfl,rfl⟩ | rfl
  ·exact ⟨[],e1.valEq,rfl,fun j hj=>by simp at hj⟩
  ·generalize hq:a.eval x=v at e1
   cases e1 with | clo _ _ vs _ hl hr=>exact ⟨vs,rfl,hl,hr⟩
 obtain ⟨cv,c1,c2,c3⟩:=hfun
 have hrun:(execOp a.eval o).run P w = .ok (.enter f (xs.map a.eval++cv).toArray) w:=by
  have h3:=hf.enters ((xs.map a.eval).toArray++cv.toArray) w
  simp only [execOp,ho,resolve,c1,Deferred.ofValue]
  simp [invoke,Result.andThen] at h3 ⊢
  exact h3
 have hLm:∀ k,k∈([]:List Nat)→∃ B,H1 k=some B∧B.mut=true:=fun k hk=>by cases hk
 let Zc:Nat→Prop:=ZL true [] Z i w true
 have hZc:∀ b,Zc b→b<w.heap.size:=fun b hb=>by
  rcases hb with q | ⟨_,_,q,_⟩
  ·exact (hF.zOld b q).1
  ·exact q
 have hargs:RepsI (fun o b=>o=true∧Zc b) w (fun _=>none) (xs.map a.eval++cv) ds:=by
  have hl:=hv.len
  refine ⟨by simp at hl ⊢;omega,fun j hj=>?_⟩
  have hr:Rep Z w i ((xs.map a.eval++cv).getD j undef) (dl (ads++caps) j):=by
   rw [List.getD_eq_getElem?_getD,dl_eq,List.getD_eq_getElem?_getD]
   by_cases q:j<ads.length
   ·have:=hasr j q
    rw [List.getD_eq_getElem?_getD,dl_eq,List.getD_eq_getElem?_getD] at this
    rw [List.getElem?_append_left (by simpa [hlen] using q),List.getElem?_append_left q]
    exact this
   ·have:=c3 (j - ads.length) (by simp at hl;omega)
    rw [List.getD_eq_getElem?_getD,dl_eq,List.getD_eq_getElem?_getD] at this
    rw [List.getElem?_append_right (by simp [hlen];omega),List.getElem?_append_right (by omega)]
    simpa [hlen] using this
  have:=hv.at j H1 h2 S E1 a w Z i _ hF hLm hr
  simp only [List.not_mem_nil,if_false] at this
  exact (hod.od j).od (fun b hb=>⟨rfl,hb⟩) this
 unfold Oper.wp
 rw [hrun]
 refine (hden Zc w _ _ hZc (fun _=>rfl) hargs).mono (fun e w' ⟨p0,p1⟩=>?_)
 subst p0
 refine hX _ _ _ ?_ ⟨H1,Z,i,?_⟩
 ·show panAt (S.N / 65536 % 1099511627776) _
  rw [hSN,hN]
  rfl
 ·have:=hF.grown (Z':=Z) (w':=w') ⟨p1.os,p1.tape,p1.output,p1.size⟩ (fun b hb=>p1.block b hb id) (fun _ _ h=>h) (fun _ h=>.inl h) (fun b hb=>⟨hF.zsub b hb,hF.zNew b hb⟩)
  exact { this with env:=fun t=>.any _ _ }
end

def isImp:D→Bool
 | .fz o n m f=> !o && (Nat.beq n 1 && (Nat.beq m 1 && (f 0).isEmpty))
 | _=>false
theorem isImp_no {Z:Zn} {w:World} {i:Nm} {v:Value} {d:D} (hd:isImp d=true) (h:Rep Z w i v d):False:=by
 cases d with
 | fz o n m f=>
  simp only [isImp,Bool.and_eq_true,Bool.not_eq_true'] at hd
  obtain ⟨rfl,h1,h2,h3⟩:=hd
  obtain rfl:=Nat.eq_of_beq_eq_true h1
  obtain rfl:=Nat.eq_of_beq_eq_true h2
  cases h with
  | fz _ _ _ _ _ _ _ _ h1 h2 hl ha hr=>
   have:=hl 0 (by omega)
   rw [List.isEmpty_iff] at h3
   rw [h3] at this;simp at this
 | _=>simp [isImp] at hd
def noDefer:Op→Bool
 | .defer _=>false
 | _=>true
section
variable {ro:Option Nat} {P:Program} {N:Nat} {Q:Post} {ops:Array Oper} {o:Oper} {rest:List Oper} {env:List (Nat × D)} {box:List (Nat × Option Box)} {done:List Rec} {K:List Rec→List (Nat × D)→List (Nat × Option Box)→Prop} {d:Nat} {ty:TypeId} {pos:String} {aft:Array Edge}
theorem r_callX {x:Operand} {xs:List Operand} {ts:Array TypeId} {f:FuncId} {fn:Func} {ds ads caps:List D} {d0:D} {k:Nat} [hf:FI P f fn] [hod:OldDL ds] (hden:DenX P f ds k) (h:RunK P N ops rest ((d,imp)::env) box (done++[⟨nsOf box (ads++caps),some d,imp,[],[]⟩]) K) (hN:N / 65536 % 1099511627776=k+1:=by first | rfl | assumption | omega) (hx:autoParam (Op1 env x d0) aq0._auto_1) (hcl:autoParam ((d0 = .val (.func (.func f) #[] #[])∧caps=[])∨d0 = .clo f caps) aq12._auto_1) (ha:autoParam (Op1L env xs ads) aq3._auto_1) (hv:autoParam (ArgVL true [] (nsOf box (ads++caps)) [] (fun k=>k) (hk box) (ads++caps) ds) aq1._auto_1) (hd:Nat.blt d (fsz N)=true:=by rfl):RunK P N ops (⟨some d,.call { callee:=.value x,args:=xs.toArray,argTypes:=ts },ty,pos,aft,none⟩::rest) env box done K:=
 run_put (ws:=[]) (fresh:=[]) (loc_callX (N:=N) (o:=⟨some d,.call { callee:=.value x,args:=xs.toArray,argTypes:=ts },ty,pos,aft,none⟩) rfl hx.opd hcl ha.opd hden hN hv) rfl h
theorem loc_dead {E:Nat→D} {H:Nat→Option Box} (hn:noDefer o.op=true) (hx:(slotsOf o).any (fun t=>isImp (E t))=true):Loc P N o E H ⟨[],o.dst,imp,[],[]⟩:=by
 refine ⟨rfl,fun c hc=>(by rw [hc] at hn;cases hn),fun E1 H1 h1 h2 h3 S a w hSN hR K Q hX hK=>?_⟩
 obtain ⟨t,ht,hi⟩:=List.any_eq_true.1 hx
 obtain ⟨Z,i,hF⟩:=hR
 have:=hF.env t
 rw [h1 t ht] at this
 exact (isImp_no hi this).elim
theorem r_dead {op:Op} (h:RunK P N ops rest ((d,imp)::env) box (done++[⟨[],some d,imp,[],[]⟩]) K) (hn:noDefer op=true:=by rfl) (hx:(slotsOf ⟨some d,op,ty,pos,aft,none⟩).any (fun t=>isImp (lk env t))=true:=by rfl):RunK P N ops (⟨some d,op,ty,pos,aft,none⟩::rest) env box done K:=
 run_put (ws:=[]) (fresh:=[]) (loc_dead hn hx) rfl h
theorem r_deadE {op:Op} (h:RunK P N ops rest env box (done++[⟨[],none,imp,[],[]⟩]) K) (hn:noDefer op=true:=by rfl) (hx:(slotsOf ⟨none,op,ty,pos,aft,none⟩).any (fun t=>isImp (lk env t))=true:=by rfl):RunK P N ops (⟨none,op,ty,pos,aft,none⟩::rest) env box done K:=
 run_eff (ws:=[]) (fresh:=[]) (loc_dead hn hx) rfl h
theorem c_dead (t:Nat) {c:Code} (h:isImp (lk env t)=true:=by rfl):AWp ro P N c (lk env) (hk box) Q:=fun S a w hN hR=>by
 obtain ⟨Z,i,hF⟩:=hR
 exact (isImp_no h (hF.env t)).elim
end

theorem DenH.arg {P:Program} {f:FuncId} {ds ds':List D} {hs hs' rs:Hs} {r:D} (h:DenH P f ds' hs r hs' rs) (hc:CvtL ds ds'):DenH P f ds hs r hs' rs:=fun Zc w i args hZ hi hH ha=>
 h Zc w i args hZ hi hH ⟨ha.1.trans hc.len,fun j hj=>(hc.at j).cv (fun b hb=>by cases hb.1) (ha.2 j (by rw [hc.len];exact hj))⟩
theorem dl_any:∀ {l:List D} {j:Nat},l.length≤j→dl l j = .any
 | [],_,_=>rfl
 | _::_,0,h=>by simp at h
 | _::l,j+1,h=>dl_any (l:=l) (by simpa using h)
theorem dl_seg' {l:List D} {c n j:Nat}:dl (takeL n (dropL c l)) j=if j<n then dl l (c+j) else .any:=by
 by_cases q:j<n
 ·rw [if_pos q,dl_seg q]
 ·rw [if_neg q]
  refine dl_any ?_
  rw [takeL_eq];simp;omega
instance (l:List D) (c n:Nat) [h:OldDL l]:OldDL (takeL n (dropL c l)):=⟨fun j=>by
 rw [dl_seg']
 split
 ·exact h.od _
 ·exact (inferInstance:OldD .any)⟩
instance (l:List D) (c n:Nat) [h:NewDL l]:NewDL (takeL n (dropL c l)):=⟨fun j=>by
 rw [dl_seg']
 split
 ·exact h.nw _
 ·exact (inferInstance:NewD .any)⟩
theorem CvtL.seg {l l':List D} (h:CvtL l l') (s c:Nat):CvtL (takeL s (dropL c l)) (takeL s (dropL c l')):=by
 induction h generalizing s c with
 | nil=>cases c<;>cases s<;>exact .nil
 | cons h k ih=>
  cases c with
  | zero=>
   cases s with
   | zero=>exact .nil
   | succ s=>exact .cons h (ih s 0)
  | succ c=>exact ih s c
instance (s c:Nat) (l l':List D) [h:CvtLI l l']:CvtLI (takeL s (dropL c l)) (takeL s (dropL c l')):=⟨h.cv.seg s c⟩
instance (f:Nat→D):CvtLI (List.map f []) []:=⟨.nil⟩

open Go.RowKit Go.Shelf
attribute [local go_sem] Oper.semAt_some
structure PD where
 n:Int
 prime:Nat
 power:Int
 chain:List Nat
 special:Nat
 weight:Int
 err:Nat
def u32sD (o:Bool) (l:List Nat):D:=.fz o l.length 1 (fun i=>[.val (.int .u32 (l.getD i 0))])
def parL (o:Bool) (p:PD):List D:=[.val (.int .i64 p.n),.val (.int .u32 p.prime),.val (.int .i64 p.power),u32sD o p.chain,.val (.int .u32 p.special),.val (.int .i64 p.weight),.val (.int .u32 p.err)]
theorem rep_val {Z:Zn} {w:World} {i:Nm} {v u:Value} (h:Rep Z w i v (.val u)):v=u:=by cases h;rfl
def KZ (Z0:Nat→Prop) (A B:World):Prop:=∀ b,Z0 b→B.heap[b]? = A.heap[b]?
theorem KZ.cell {Z0:Nat→Prop} {A B:World} (h:KZ Z0 A B) {a:Addr} {v:Value} (hc:A.cell? a=some v) (hz:Z0 a.block):B.cell? a=some v:=(World.cell?_of_block (h a.block hz)).trans hc

instance (p:PD):OldDL (parL true p):=by unfold parL u32sD;infer_instance
instance (p:PD):CvtLI (parL false p) (parL true p):=by unfold parL u32sD;infer_instance
abbrev rowB (n:Nat) (h:Nat→Nat):Box:=.arr 22 n 1 (fun j=>[.val (.int .u32 ((h j:Nat):Int))])
abbrev rowsD (o:Bool) (M n:Nat) (g:Nat→Nat→Nat):D:=.fz o M 1 (fun k=>[.fz o n 1 (fun j=>[.val (.int .u32 ((g k j:Nat):Int))])])
abbrev elL (o:Bool) (lv:Nat) (sp:Bool) (M n:Nat) (g:Nat→Nat→Nat):List D:=[.val (.int .i64 (lv:Int)),.val (.bool sp),rowsD o M n g]

def fillTo (h:Nat→Nat) (j e:Nat):Nat:=if e<j then h e else 0
theorem fillTo_zero (h:Nat→Nat) (e:Nat):fillTo h 0 e=0:=by simp [fillTo]
theorem fillTo_all (h:Nat→Nat) {n e:Nat} (he:e<n):fillTo h n e=h e:=by simp [fillTo,he]
theorem setE_fill {h:Nat→Nat} {j v:Nat} (hv:v=h j) (e:Nat):setE (fun e=>[.val (.int .u32 ((fillTo h j e:Nat):Int))]) j 0 [.val (.int .u32 ((v:Nat):Int))] e=[.val (.int .u32 ((fillTo h (j+1) e:Nat):Int))]:=by
 subst hv
 unfold setE
 by_cases q:e=j
 ·subst q;simp [fillTo,setL,takeL,dropL]
 ·have:fillTo h (j+1) e=fillTo h j e:=by unfold fillTo;by_cases q2:e<j<;>simp [q2]<;>omega
  simp [q,this]
section
variable {P:Program} {fn:Func} {r:D} {hs rs:Hs} {ro:Option Nat} {N:Nat} {Q:Post} {c:Code} {env:List (Nat × D)} {box:List (Nat × Option Box)} {E2:Nat→D} {H2:Nat→Option Box}
theorem row_next (k:Nat) {n j v:Nat} {h:Nat→Nat} (hv:v=h j) (g:Sub (lk env) (hk ((k,some (rowB n (fillTo h (j+1))))::box)) E2 H2) (hb:autoParam (Bl box k (.arr 22 n 1 (setE (fun e=>[.val (.int .u32 ((fillTo h j e:Nat):Int))]) j 0 [.val (.int .u32 ((v:Nat):Int))]))) aq5._auto_1):Sub (lk env) (hk box) E2 H2:=sub_arr k _ (fun e _=>setE_fill hv e) (fun _=>rfl) g hb
end

set_option maxHeartbeats 4000000
def firstI (p:Nat→Bool):Nat→Int
 | 0=> -1
 | n+1=>if 0≤firstI p n then firstI p n else if p n then (n:Int) else -1
def hasI (p:Nat→Bool) (n:Nat):Bool:=decide (0≤firstI p n)
theorem hasI_spec {p:Nat→Bool} {n:Nat}:hasI p n=true↔∃ e,e<n∧p e=true:=by
 unfold hasI
 rw [decide_eq_true_eq]
 induction n with
 | zero=>exact ⟨fun h=>absurd h (by unfold firstI;omega),fun ⟨e,h,_⟩=>by omega⟩
 | succ n ih=>
  unfold firstI
  by_cases q:0≤firstI p n
  ·rw [if_pos q]
   exact ⟨fun _=>by obtain ⟨e,h1,h2⟩:=ih.1 q;exact ⟨e,by omega,h2⟩,fun _=>q⟩
  ·rw [if_neg q]
   by_cases q2:p n=true
   ·rw [if_pos q2];exact ⟨fun _=>⟨n,by omega,q2⟩,fun _=>by omega⟩
   ·rw [if_neg q2]
    refine ⟨fun h=>absurd h (by omega),fun ⟨e,h1,h2⟩=>?_⟩
    by_cases q3:e<n
    ·exact absurd (ih.2 ⟨e,q3,h2⟩) q
    ·obtain rfl:e=n:=by omega
     exact absurd h2 q2

def modOk (q:Nat):Bool:=(decide (3≤q) && decide (q≤2147483647)) && decide (q % 2=1)
structure VP (p:PD):Prop where
 n:p.n=4∨p.n=8∨p.n=16∨p.n=32
 len1:1≤p.chain.length
 len2:p.chain.length≤24
 mods:∀ j,j<p.chain.length→modOk (p.chain.getD j 0)=true
 apart:∀ j,j<p.chain.length→hasI (fun e=>decide (p.chain.getD j 0=p.chain.getD e 0)) j=false
 special:p.special=0∨(modOk p.special=true∧hasI (fun e=>decide (p.special=p.chain.getD e 0)) p.chain.length=false)

instance (p:PD):CvtLI (parL true p) (parL true p):=⟨CvtL.refl _⟩
abbrev errI (b:Bool):Int:=if b then 0 else 2

abbrev intsD (o:Bool) (n:Nat) (f:Nat→Int):D:=.fz o n 1 (fun j=>[.val (.int .i64 (f j))])

theorem sub_toL (L:List Nat) (a b:Nat) {env env1 env':List (Nat × D)} {box box1 box':List (Nat × Option Box)} {E2:Nat→D} {H2:Nat→Option Box} (h:Sub (lk env') (hk box') E2 H2)
  (he:autoParam (KeepE L env env1) aq7._auto_1) (hE:RenEL (toN a b) env1 env':=by (repeat (first | exact RenEL.nil | (apply RenEL.cons;(focus ((first | exact D.ren_free _ rfl | exact ren_eptr (by first | exact to_y rfl | exact to_n rfl) | exact ren_sl (by first | exact to_y rfl | exact to_n rfl) | exact ren_clo (by (repeat (first | exact RenLL.nil | (apply RenLL.cons;(focus ((first | exact D.ren_free _ rfl | exact ren_eptr (by first | exact to_y rfl | exact to_n rfl) | exact ren_sl (by first | exact to_y rfl | exact to_n rfl));done)))))) | exact ren_agg (by (repeat (first | exact RenLL.nil | (apply RenLL.cons;(focus ((first | exact D.ren_free _ rfl | exact ren_eptr (by first | exact to_y rfl | exact to_n rfl) | exact ren_sl (by first | exact to_y rfl | exact to_n rfl));done)))))) | exact ren_tup (by (repeat (first | exact RenLL.nil | (apply RenLL.cons;(focus ((first | exact D.ren_free _ rfl | exact ren_eptr (by first | exact to_y rfl | exact to_n rfl) | exact ren_sl (by first | exact to_y rfl | exact to_n rfl));done)))))));done)))))) (hbk:autoParam (KeepB [b] box box1) aq9._auto_1) (hB:RenBL (toN a b) box1 box':=by (repeat (first | exact RenBL.nil | (apply RenBL.cons;(focus ((first | exact to_y rfl | exact to_n rfl);done));(focus ((first | exact renb_free rfl | exact renb_lit (by (repeat (first | exact RenLL.nil | (apply RenLL.cons;(focus ((first | exact D.ren_free _ rfl | exact ren_eptr (by first | exact to_y rfl | exact to_n rfl) | exact ren_sl (by first | exact to_y rfl | exact to_n rfl));done)))))));done)))))) (h1:Nat.ble 1000 a=true:=by rfl) (h2:(box1.all fun x=>Nat.beq (toN b a (toN a b x.1)) x.1)=true:=by kernel_rfl) (h3:Nat.ble 1000 b=true:=by rfl)
  (hs:Sub (lk env) (hk box) (lk env1) (hk box1):=by exact sub):Sub (lk env) (hk box) E2 H2:=by
 refine hs.trans (Sub.trans ?_ h)
 have:=sub_ren (env:=env1) (two_of (r:=toN a b) (s:=toN b a) (box:=box1) (fun k hk=>to_n (beq_ne (by have:=Nat.le_of_ble_eq_true h1;omega))) h2) (fun k hk=>to_n (beq_ne (by have:=Nat.le_of_ble_eq_true h3;omega)))
 rw [hE.eq,hB.eq] at this
 exact this
structure Lv (p:PD) (n lv:Nat):Prop where
 vp:VP p
 sp:p.special≠0
 n:p.n=(n:Int)
 l1:1≤lv
 l2:lv≤p.chain.length

section
variable {P:Program} {N:Nat} {ops:Array Oper} {rest:List Oper} {env:List (Nat × D)} {box:List (Nat × Option Box)} {done:List Rec} {K:List Rec→List (Nat × D)→List (Nat × Option Box)→Prop}
theorem r_eqS (t:Nat) (d':D) {d:D} (he:d=d') (h:RunK P N ops rest ((t,d')::env) box done K) (ht:autoParam (Lk env t d) aq10._auto_1):RunK P N ops rest env box done K:=by
 have e:lk ((t,d')::env)=lk env:=by
  funext s
  simp only [lk]
  by_cases q:t=s
  ·subst q;simp;rw [← he];exact ht.eq.symm
  ·rw [beq_ne q]
 obtain ⟨Rs,env',box',h1,h2,h3,h4⟩:=h
 rw [e] at h1 h2
 exact ⟨Rs,env',box',h1,h2,h3,h4⟩
end

section
variable {ro:Option Nat} {P:Program} {N:Nat} {Q:Post} {ops:Array Oper} {rest:List Oper} {env:List (Nat × D)} {box:List (Nat × Option Box)} {done:List Rec} {K:List Rec→List (Nat × D)→List (Nat × Option Box)→Prop} {d:Nat} {ty:TypeId} {pos:String} {aft:Array Edge}
theorem r_callA {x:Operand} {xs:List Operand} {ts:Array TypeId} {f:FuncId} {fn:Func} {ds ads caps:List D} {r r' d0:D} {k0:Nat} {t:TypeId} {n m:Nat} {g:Nat→List D} [hf:FI P f fn] [hod:OldDL ds] [hnew:NewD r] [hnb:AllNew [(k0,(.arr t n m g))]] (hden:DenH P f ds [] r [] [(k0,(.arr t n m g))]) (hr:r.ren (fun _=>1000+d)=r') (h:RunK P N ops rest ((d,r')::env) ((1000+d,some (.arr t n m g))::box) (done++[⟨nsOf box (ads++caps),some d,r',[(1000+d,some (.arr t n m g))],[1000+d]⟩]) K) (hx:autoParam (Op1 env x d0) aq0._auto_1) (hcl:autoParam ((d0 = .val (.func (.func f) #[] #[])∧caps=[])∨d0 = .clo f caps) aq12._auto_1) (ha:autoParam (Op1L env xs ads) aq3._auto_1) (hv:autoParam (ArgVL true [] (nsOf box (ads++caps)) [] (fun _=>1000+d) (hk box) (ads++caps) ds) aq1._auto_1) (hd:Nat.blt d (fsz N)=true:=by rfl):RunK P N ops (⟨some d,.call { callee:=.value x,args:=xs.toArray,argTypes:=ts },ty,pos,aft,none⟩::rest) env box done K:=
 run_put (ws:=[(1000+d,some (.arr t n m g))]) (fresh:=[1000+d]) (by have:=loc_call (lend:=true) (ρ:=fun _=>1000+d) (P:=P) (N:=N) (o:=⟨some d,.call { callee:=.value x,args:=xs.toArray,argTypes:=ts },ty,pos,aft,none⟩) rfl hd hx.opd hcl ha.opd hden hv (fun k B hm=>by cases hm) (fun k hk=>by cases hk) rfl rfl (fun h=>⟨hnew,hnb⟩);rw [hr] at this;exact this) rfl h
end
section
variable {P:Program} {N:Nat} {o:Oper} {E:Nat→D} {H:Nat→Option Box}
end
section
variable {P:Program} {N:Nat} {ops:Array Oper} {rest:List Oper} {env:List (Nat × D)} {box:List (Nat × Option Box)} {done:List Rec} {K:List Rec→List (Nat × D)→List (Nat × Option Box)→Prop} {d:Nat} {ty:TypeId} {pos:String} {aft:Array Edge}
end

section
variable {P:Program} {N:Nat} {o:Oper} {E:Nat→D} {H:Nat→Option Box}
theorem loc_buildFz {t el:TypeId} {len:Nat} {xs:List (Nat × Operand)} {ds:List (Nat × D)} {info info':TypeInfo} {d':TypeDesc} {z:Value} {l:List D} {f:Nat→List D} (ho:o.op = .buildSlice t len xs.toArray) (hd:dstLt o N=true) [hT:TI P t info (.slice el)] [hT':TI P el info' d'] (hz:info'.zero=some z) (hm:z.cells.size=info'.size) (h1:(z.cells.toList.all fun z=>z.oneCell')=true) (hb:Nat.ble (len*info'.size) 16777216=true) (hp:Nat.blt 0 (len*info'.size)=true)
  (hx:OpdP E xs ds) (hl:fillD (fun j=>some (j*info'.size,info'.size)) ((List.range (len*info'.size)).map fun j=>.val (z.cells.getD (j % info'.size) undef)) ds=some l) (hf:∀ e,e<len→(f e).length=info'.size∧∀ c,c<info'.size→dl (f e) c=dl l (e*info'.size+c)) (hfr:D.free.freeL (fun _=>false) l=true) :
  Loc P N o E H ⟨[],o.dst,.fz false len info'.size f,[],[]⟩:=by
 refine ⟨rfl,by simp [ho],fun E1 H1 ha hk _ S a w hN hR K Q _ hK=>?_⟩
 obtain ⟨Z,i,hF⟩:=hR
 have hz1:(zeroValue el).run P w = .ok z w:=by simp [zeroValue,typeInfo,hT'.info,hz,Result.andThen]
 have s1:(sizeOf el).run P w = .ok info'.size w:=by simp [sizeOf,typeInfo,hT'.info,Result.andThen]
 replace hb:=Nat.le_of_ble_eq_true hb
 replace hp:0<len*info'.size:=by simpa using hp
 obtain ⟨k1,k2⟩:=hx.spec (E1:=E1) (a:=a) hF (fun x hx d hd=>Opd.agree (x:=x) (by
  obtain ⟨y,hy,rfl⟩:=List.mem_map.1 hx
  simp only [ho,Op.operands]
  simp
  exact ⟨y.1,hy⟩) ha hd)
 have hzero:CellsRep Z w i ((Array.range (len*info'.size)).map (z.cells[· % z.cells.size]!)) ((List.range (len*info'.size)).map fun j=>.val (z.cells.getD (j % info'.size) undef)):=by
  refine ⟨by simp,fun j hj=>?_⟩
  have hj':j<len*info'.size:=by simpa using hj
  have hms:0<info'.size:=by rcases Nat.eq_zero_or_pos info'.size with q | q;rw [q] at hp;omega;exact q
  have hlt:j % info'.size<z.cells.size:=by rw [hm];exact Nat.mod_lt _ hms
  have e1:((Array.range (len*info'.size)).map (z.cells[· % z.cells.size]!)).getD j undef=z.cells.getD (j % info'.size) undef:=by
   simp [Array.getD_eq_getD_getElem?,hj',hm,Array.getElem!_eq_getD,Array.getElem?_eq_getElem hlt]
  have e2:dl ((List.range (len*info'.size)).map fun j=>.val (z.cells.getD (j % info'.size) undef)) j = .val (z.cells.getD (j % info'.size) undef):=by
   rw [dl_eq,List.getD_eq_getElem?_getD,List.getElem?_map,List.getElem?_range hj'];rfl
  rw [e1,e2]
  refine ⟨?_,.val _ _⟩
  have:=List.all_eq_true.1 h1 (z.cells.toList.getD (j % info'.size) undef) (getD_mem _ (by simpa using hlt))
  rwa [← toArray_getD] at this
 obtain ⟨cs,f1,f2⟩:=fill_rep (place:=fun j=>some (j*info'.size,info'.size)) ds _ _ _ l k1 k2 hzero hl
 have hcs:cs.size=len*info'.size:=by
  rw [f2.1]
  have:∀ (ps:List (Nat × D)) (place:Nat→Option (Nat × Nat)) (ds l:List D),fillD place ds ps=some l→l.length=ds.length:=by
   intro ps
   induction ps with
   | nil=>intro place ds l h;cases h;rfl
   | cons x ps ih=>
    intro place ds l h
    obtain ⟨j,d⟩:=x
    simp only [fillD] at h
    cases hpl:place j with
    | none=>rw [hpl] at h;cases h
    | some os=>
     obtain ⟨off,size⟩:=os
     rw [hpl] at h
     simp only at h
     split at h
     ·rename_i hb
      simp only [Bool.and_eq_true] at hb
      rw [ih _ _ _ h,setL_len (Nat.le_of_ble_eq_true hb.2)]
     ·cases h
  rw [this _ _ _ _ hl];simp
 have hne:¬ (len*info'.size=0):=by omega
 have hle:¬ 16777216<len*info'.size:=by omega
 have hr:(Instr.buildSlice t len (parV a.eval xs).toArray).run P w = .ok (.slice (some ⟨w.heap.size,0,none⟩) len len) (w.alloc (.cells cs el (0,0))):=by
  unfold Instr.buildSlice
  simp only [Sem.run_bind,run_underlying hT.under,Result.andThen,s1]
  rw [if_neg (by simpa using hle),if_neg hne]
  simp only [Sem.run_bind,pure_bind,hz1,Result.andThen,Sem.run_pure]
  rw [f1]
  rfl
 unfold Oper.wp
 rw [show (execOp a.eval o).run P w = .ok (.value (.slice (some ⟨w.heap.size,0,none⟩) len len)) (w.alloc (.cells cs el (0,0))) by
  simp only [execOp,ho]
  rw [show (Array.map (fun x=>match x with | (i,x)=>(i,a.eval x)) xs.toArray)=(parV a.eval xs).toArray by simp [parV]]
  rw [Sem.run_bind,hr];rfl]
 have hnew:(w.alloc (.cells cs el (0,0))).heap[w.heap.size]? = some (.cells cs el (0,0)):=by show (w.heap.push _)[w.heap.size]? = some _;exact Array.getElem?_push_size
 have hsz:(w.alloc (.cells cs el (0,0))).heap.size=w.heap.size+1:=by show (w.heap.push _).size=_;exact Array.size_push _
 have hF2:Fits S E1 H1 (fun o b=>Z o b∨b=w.heap.size) i a (w.alloc (.cells cs el (0,0))):=
  hF.grown ⟨rfl,rfl,rfl,by omega⟩ (fun b hb=>Below.heap_alloc w _ b hb) (fun o b h=>.inl h) (fun b h=>h.imp id (fun q=>⟨by omega,by omega⟩)) (fun b h=>by
   rcases h with h | rfl
   ·exact ⟨.inl (hF.zsub b h),hF.zNew b h⟩
   ·exact ⟨.inr rfl,hF.kept.size⟩)
 refine hK _ _ ⟨_,i,hF2.put (by rw [hN];exact dstLt_spec hd) ?_⟩
 have hl63:len≤16777216:=by
  have hms:0<info'.size:=by rcases Nat.eq_zero_or_pos info'.size with q | q;rw [q] at hp;omega;exact q
  exact Nat.le_trans (Nat.le_mul_of_pos_right len hms) hb
 have hseg:∀ e c,e<len→c<info'.size→e*info'.size+c<l.length:=fun e c he hc=>by
  have:(e+1)*info'.size≤len*info'.size:=Nat.mul_le_mul_right _ (by omega)
  rw [Nat.add_mul] at this
  rw [← f2.1,hcs]
  omega
 refine .fz _ _ _ len len info'.size _ (fun e c=>cs.getD (e*info'.size+c) undef) (Nat.le_refl _) (by omega) (fun e he=>(hf e he).1) (fun e c he hc=>⟨w.heap.size,0,rfl,.inr rfl,?_,?_⟩) (fun e c he hc=>?_)
 ·have hlt2:=hseg e c he hc
  have:=(show Bk (w.alloc (.cells cs el (0,0))) w.heap.size el _ from hnew).cell (e*info'.size+c) (by rw [f2.1];exact hlt2)
  rw [Nat.zero_add]
  exact this
 ·exact (f2.2 _ (hseg e c he hc)).1
 ·rw [(hf e he).2 c hc]
  exact ((f2.2 _ (hseg e c he hc)).2.mem (fun o b hz=>⟨.inl hz,Below.heap_alloc w _ b (hF.zOld b (by cases o;exact hF.zsub b hz;exact hz)).1⟩)).nm (freeL_at hfr _ (hseg e c he hc)) (fun k x hk=>by cases hk)
end
section
variable {P:Program} {N:Nat} {ops:Array Oper} {rest:List Oper} {env:List (Nat × D)} {box:List (Nat × Option Box)} {done:List Rec} {K:List Rec→List (Nat × D)→List (Nat × Option Box)→Prop} {d:Nat} {ty:TypeId} {pos:String} {aft:Array Edge}
theorem r_bslF (f:Nat→List D) {t el:TypeId} {len:Nat} {xs:List (Nat × Operand)} {ds:List (Nat × D)} {info info':TypeInfo} {d':TypeDesc} {zv:Value} {l:List D} [hT:TI P t info (.slice el)] [hT':TI P el info' d'] (h:RunK P N ops rest ((d,.fz false len info'.size f)::env) box (done++[⟨[],some d,.fz false len info'.size f,[],[]⟩]) K) (hx:Op1P env xs ds:=by (repeat (first | exact Op1P.nil | apply Op1P.cons (by first | exact Op1.const _ | exact Op1.fn _ | exact Op1.gl _ | (apply Op1.tmp;(repeat constructor);done) | (apply o2;(focus ((repeat constructor);done));assumption) | (apply o3;(focus ((repeat constructor);done));assumption;assumption))))) (hz:info'.zero=some zv:=by rfl) (hm:zv.cells.size=info'.size:=by rfl) (h1:(zv.cells.toList.all fun z=>z.oneCell')=true:=by rfl) (hb:Nat.ble (len*info'.size) 16777216=true:=by rfl) (hp:Nat.blt 0 (len*info'.size)=true:=by rfl) (hl:Fill (fun j=>some (j*info'.size,info'.size)) ((List.range (len*info'.size)).map fun j=>.val (zv.cells.getD (j % info'.size) undef)) ds l:=by (repeat (first | exact Fill.nil | apply Fill.cons rfl rfl rfl rfl (by (repeat (first | exact PutL.nil | apply PutL.cons | apply PutL.skip)))))) (hf:∀ e,e<len→(f e).length=info'.size∧∀ c,c<info'.size→dl (f e) c=dl l (e*info'.size+c)) (hfr:D.free.freeL (fun _=>false) l=true:=by rfl) (hd:Nat.blt d (fsz N)=true:=by rfl):RunK P N ops (⟨some d,.buildSlice t len xs.toArray,ty,pos,aft,none⟩::rest) env box done K:=
 run_put (ws:=[]) (fresh:=[]) (loc_buildFz rfl hd hz hm h1 hb hp hx.opd hl.eq hf hfr) rfl h
end

instance ti9:TI Tryz.prog 9 Tryz.t9 (.string ):=⟨by kernel_rfl,by kernel_rfl⟩
instance ti199:TI Tryz.prog 199 Tryz.t199 (.slice 5):=⟨by kernel_rfl,by kernel_rfl⟩
instance sz9:SZ Tryz.prog 9 1:=SZ.of ti9 rfl
instance et199:ET Tryz.prog 199 1:=ET.of ti199 ti5 rfl
end Go.Proofs.YtdcenblblimkfaaGreat
