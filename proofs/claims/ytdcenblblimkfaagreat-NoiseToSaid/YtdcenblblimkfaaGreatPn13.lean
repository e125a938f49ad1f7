/- The driver, second part: appends, literals, calls, guards, control. No walk.
Ends and loops, by lists. No walk.
The driver: to the end of this region. No walk.
Boxes under other names: for the rounds of a range over a function. No walk.
A range over a function, by data. No walk. -/
import Derived.Test.YtdcenblblimkfaaGreatPn12
set_option linter.unusedSimpArgs false
set_option linter.unusedVariables false
set_option linter.unnecessarySimpa false
set_option linter.unusedSectionVars false
namespace Go.Proofs.YtdcenblblimkfaaGreat
open Go.RowKit
theorem o2 {env:List (Nat × D)} {t:Nat} {d:D} {b:Bool} (h:Lk env t (when b d)) (hb:b=true):Op1 env (.tmp t) d:=.whn (.tmp h) hb
theorem o3 {env:List (Nat × D)} {t:Nat} {d:D} {b c:Bool} (h:Lk env t (when b (when c d))) (hb:b=true) (hc:c=true):Op1 env (.tmp t) d:=.whn (.whn (.tmp h) hb) hc

class CvtLI (l l':List D):Prop where
 cv:CvtL l l'
instance:CvtLI [] []:=⟨.nil⟩
instance (d d':D) (l l':List D) [h:Cvt d d'] [k:CvtLI l l']:CvtLI (d::l) (d'::l'):=⟨.cons h k.cv⟩
instance (n m:Nat) (f f':Nat→List D) [h:∀ e,CvtLI (f e) (f' e)]:Cvt (.fz false n m f) (.fz true n m f'):=⟨fun hz hv=>by
 have hv':=hv
 cases hv with | fz _ _ ao _ cap _ _ vs h1 h2 hl ha hr=>
 exact (Cvt.fz (.inr ⟨rfl,rfl⟩) (fun e he=>⟨by rw [← (h e).cv.len];exact hl e he,fun c _=>(h e).cv.at c⟩)).cv hz hv'⟩
instance (o:Bool) (n m:Nat) (f f':Nat→List D) [h:∀ e,CvtLI (f e) (f' e)]:Cvt (.fz o n m f) (.fz o n m f'):=⟨fun hz hv=>by
 have hv':=hv
 cases hv with | fz _ _ ao _ cap _ _ vs h1 h2 hl ha hr=>
 exact (Cvt.fz (.inl rfl) (fun e he=>⟨by rw [← (h e).cv.len];exact hl e he,fun c _=>(h e).cv.at c⟩)).cv hz hv'⟩
instance (l l':List D) [h:CvtLI l l']:Cvt (.fptr false l) (.fptr true l'):=Cvt.fptr (.inr ⟨rfl,rfl⟩) (Nat.le_of_eq h.cv.len.symm) (fun c _=>h.cv.at c)
instance (o:Bool) (l l':List D) [h:CvtLI l l']:Cvt (.fptr o l) (.fptr o l'):=Cvt.fptr (.inl rfl) (Nat.le_of_eq h.cv.len.symm) (fun c _=>h.cv.at c)
instance (l l':List D) [h:CvtLI l l']:Cvt (.agg l) (.agg l'):=Cvt.agg h.cv
instance (l l':List D) [h:CvtLI l l']:Cvt (.tup l) (.tup l'):=Cvt.tup h.cv
instance (f:FuncId) (l l':List D) [h:CvtLI l l']:Cvt (.clo f l) (.clo f l'):=Cvt.clo h.cv
theorem D.ren_id:∀ (d:D),d.ren (fun k=>k)=d
 | .any=>rfl
 | .val _=>rfl
 | .eptr _ _ _ _=>rfl
 | .sl _ _ _=>rfl
 | .slr _ _ _ _=>rfl
 | .eptrr _ _ _ _ _=>rfl
 | .fz _ _ _ _=>rfl
 | .fptr _ _=>rfl
 | .clo f l=>by simp only [D.ren];rw [ren_idL l]
 | .agg l=>by simp only [D.ren];rw [ren_idL l]
 | .tup l=>by simp only [D.ren];rw [ren_idL l]
where ren_idL:∀ (l:List D),D.ren.renL (fun k=>k) l=l
 | []=>rfl
 | d::l=>by simp only [D.ren.renL];rw [D.ren_id d,ren_idL l]
def nmD:D→List Nat
 | .eptr k _ _ _=>[k]
 | .sl k _ _=>[k]
 | .slr k _ _ _=>[k]
 | .eptrr k _ _ _ _=>[k]
 | .clo _ l=>nmL l
 | .agg l=>nmL l
 | .tup l=>nmL l
 | _=>[]
where nmL:List D→List Nat
 | []=>[]
 | d::l=>nmD d++nmL l
def nmB (box:List (Nat × Option Box)) (k:Nat):List Nat:=match hk box k with
 | some (.lit _ ds)=>nmD.nmL ds
 | _=>[]
def nsOf (box:List (Nat × Option Box)) (l:List D):List Nat:=
 let l1:=nmD.nmL l
 let l2:=l1.flatMap (nmB box)
 l1++l2++l2.flatMap (nmB box)
section
variable {ro:Option Nat} {P:Program} {N:Nat} {Q:Post} {ops:Array Oper} {rest:List Oper} {env:List (Nat × D)} {box:List (Nat × Option Box)} {done:List Rec} {K:List Rec→List (Nat × D)→List (Nat × Option Box)→Prop} {d:Nat} {ty:TypeId} {pos:String} {aft:Array Edge}
theorem r_app {x y:Operand} {t el:TypeId} {k n nb m j:Nat} {f g:Nat→List D} {v:D} {ks:List Nat} {info info':TypeInfo} {d':TypeDesc} {zv:Value} [hT:TI P t info (.slice el)] [hT':TI P el info' d'] (hx:Op1 env x (.sl k m n)) (hy:Op1 env y v) (hbx:Bl box k (.arr el nb m f)) (hs:SrcB box v j m g ks) (hz:info'.zero=some zv) (hm:info'.size=m) (hzs:zv.cells.size=m) (hms:Nat.blt 0 m=true) (h100:Nat.ble 1000 k=true) (hn:n≤nb) (hby:Nat.ble info'.bytes 256=true) (hb:n+j≤549755813888) (h63:n+j≤9223372036854775807) (hd:Nat.blt d (fsz N)=true) (h:RunK P N ops rest ((d,.sl (1000+d) m (n+j))::env) ((1000+d,some (.arr el (n+j) m (appF n f g)))::(k,some .gone)::box) (done++[⟨k::ks,some d,.sl (1000+d) m (n+j),[(1000+d,some (.arr el (n+j) m (appF n f g))),(k,some .gone)],[1000+d]⟩]) K):RunK P N ops (⟨some d,.call { callee:=.builtin .append,args:=#[x,y],argTypes:=#[t,t] },ty,pos,aft,none⟩::rest) env box done K:=
 run_put (ws:=[(1000+d,some (.arr el (n+j) m (appF n f g))),(k,some .gone)]) (fresh:=[1000+d]) (loc_append rfl hd hz hm hzs hms hx.opd hbx.eq hn h100 hy.opd hs.is (bytes_le hby hb) h63) rfl h
theorem r_app0 {x y:Operand} {t el:TypeId} {m j:Nat} {g:Nat→List D} {v:D} {ks:List Nat} {info info':TypeInfo} {d':TypeDesc} {zv:Value} [hT:TI P t info (.slice el)] [hT':TI P el info' d'] (hx:Op1 env x (.val (.slice none 0 0))) (hy:Op1 env y v) (hs:SrcB box v j m g ks) (hz:info'.zero=some zv) (hm:info'.size=m) (hzs:zv.cells.size=m) (hms:Nat.blt 0 m=true) (hby:Nat.ble info'.bytes 256=true) (hb:j≤549755813888) (h63:j≤9223372036854775807) (hd:Nat.blt d (fsz N)=true) (h:RunK P N ops rest ((d,.sl (1000+d) m j)::env) ((1000+d,some (.arr el j m g))::box) (done++[⟨ks,some d,.sl (1000+d) m j,[(1000+d,some (.arr el j m g))],[1000+d]⟩]) K):RunK P N ops (⟨some d,.call { callee:=.builtin .append,args:=#[x,y],argTypes:=#[t,t] },ty,pos,aft,none⟩::rest) env box done K:=
 run_put (ws:=[(1000+d,some (.arr el j m g))]) (fresh:=[1000+d]) (loc_append_nil rfl hd hz hm hzs hms hx.opd hy.opd hs.is (bytes_le hby hb) h63) rfl h
inductive Fill (place:Nat→Option (Nat × Nat)):List D→List (Nat × D)→List D→Prop where
 | nil {l:List D}:Fill place l [] l
 | cons {j off size:Nat} {v:D} {xs cells cells' l:List D} {ps:List (Nat × D)} (hp:place j=some (off,size)) (hf:v.fit=true) (hl:v.cellL=xs) (hn:xs.length=size) (hput:PutL cells off xs cells') (h:Fill place cells' ps l):Fill place cells ((j,v)::ps) l
theorem Fill.eq {place:Nat→Option (Nat × Nat)} {cells l:List D} {ps:List (Nat × D)} (h:Fill place cells ps l):fillD place cells ps=some l:=by
 induction h with
 | nil=>rfl
 | cons hp hf hl hn hput _ ih=>
  subst hl
  simp only [fillD,hp,hf,Bool.true_and]
  rw [show Nat.beq (D.cellL _).length _=true by rw [hn];simp,show Nat.ble (_+(D.cellL _).length) _=true from ble_of hput.set.2]
  simp only [Bool.and_self,hput.set.1]
  exact ih
theorem loc_buildB {o:Oper} {E:Nat→D} {H:Nat→Option Box} {t:TypeId} {xs:List (Nat × Operand)} {ds:List (Nat × D)} {zs:List Value} {ps:List (Nat × Nat)} {l:List D} (ho:o.op = .build t xs.toArray) (hd:dstLt o N=true) [hB:BT P t ps zs] (hx:OpdP E xs ds) (hl:fillD (fun j=>ps[j]?) (valL zs) ds=some l):Loc P N o E H ⟨[],o.dst,.agg l,[],[]⟩:=by
 obtain ⟨info,fs,ns,h1,h2,h3,h4⟩:=hB.bt
 exact loc_build (hT:=h1) ho hd h2 h3 hx (h4▸hl)
theorem r_build {t:TypeId} {xs:List (Nat × Operand)} {ds:List (Nat × D)} {zs:List Value} {ps:List (Nat × Nat)} {l:List D} [hB:BT P t ps zs] (hx:Op1P env xs ds) (hl:Fill (fun j=>ps[j]?) (valL zs) ds l) (hd:Nat.blt d (fsz N)=true) (h:RunK P N ops rest ((d,.agg l)::env) box (done++[⟨[],some d,.agg l,[],[]⟩]) K):RunK P N ops (⟨some d,.build t xs.toArray,ty,pos,aft,none⟩::rest) env box done K:=
 run_put (ws:=[]) (fresh:=[]) (loc_buildB rfl hd hx.opd hl.eq) rfl h
theorem bsl_f {l:List D} {len m:Nat} (h:l.length=len*m):∀ e,e<len→(takeL m (dropL (e*m) l)).length=m∧∀ c,c<m→dl (takeL m (dropL (e*m) l)) c=dl l (e*m+c):=fun e he=>by
 have:(e+1)*m≤len*m:=Nat.mul_le_mul_right _ (by omega)
 rw [Nat.add_mul] at this
 exact ⟨len_seg (by omega),fun c hc=>dl_seg hc⟩
theorem r_bsl {t el:TypeId} {len:Nat} {xs:List (Nat × Operand)} {ds:List (Nat × D)} {info info':TypeInfo} {d':TypeDesc} {zv:Value} {l:List D} [hT:TI P t info (.slice el)] [hT':TI P el info' d'] (hx:Op1P env xs ds) (hz:info'.zero=some zv) (hm:zv.cells.size=info'.size) (h1:(zv.cells.toList.all fun z=>z.oneCell')=true) (hb:Nat.ble (len*info'.size) 16777216=true) (hp:Nat.blt 0 (len*info'.size)=true) (hl:Fill (fun j=>some (j*info'.size,info'.size)) ((List.range (len*info'.size)).map fun j=>.val (zv.cells.getD (j % info'.size) undef)) ds l) (hll:l.length=len*info'.size) (hfr:D.free.freeL (fun _=>false) l=true) (hd:Nat.blt d (fsz N)=true) (h:RunK P N ops rest ((d,.sl (1000+d) info'.size len)::env) ((1000+d,some (.arr el len info'.size fun e=>takeL info'.size (dropL (e*info'.size) l)))::box) (done++[⟨[],some d,.sl (1000+d) info'.size len,[(1000+d,some (.arr el len info'.size fun e=>takeL info'.size (dropL (e*info'.size) l)))],[1000+d]⟩]) K):RunK P N ops (⟨some d,.buildSlice t len xs.toArray,ty,pos,aft,none⟩::rest) env box done K:=
 run_put (ws:=[(1000+d,some (.arr el len info'.size fun e=>takeL info'.size (dropL (e*info'.size) l)))]) (fresh:=[1000+d]) (loc_buildSlice rfl hd hz hm h1 hb hp hx.opd hl.eq (bsl_f hll) hfr) rfl h
theorem r_call {x:Operand} {xs:List Operand} {ts:Array TypeId} {f:FuncId} {fn:Func} {ds ads caps:List D} {r d0:D} [hf:FI P f fn] [hod:OldDL ds] [hnew:NewD r] (hden:Den P f ds r) (h:RunK P N ops rest ((d,r)::env) box (done++[⟨nsOf box (ads++caps),some d,r,[],[]⟩]) K) (hx:autoParam (Op1 env x d0) aq0._auto_1) (hcl:autoParam ((d0 = .val (.func (.func f) #[] #[])∧caps=[])∨d0 = .clo f caps) aq12._auto_1) (ha:autoParam (Op1L env xs ads) aq3._auto_1) (hv:autoParam (ArgVL true [] (nsOf box (ads++caps)) [] (fun k=>k) (hk box) (ads++caps) ds) aq1._auto_1) (hd:Nat.blt d (fsz N)=true:=by rfl):RunK P N ops (⟨some d,.call { callee:=.value x,args:=xs.toArray,argTypes:=ts },ty,pos,aft,none⟩::rest) env box done K:=
 run_put (by have:=loc_call (lend:=true) (ρ:=fun k=>k) (P:=P) (N:=N) (o:=⟨some d,.call { callee:=.value x,args:=xs.toArray,argTypes:=ts },ty,pos,aft,none⟩) rfl hd hx.opd hcl ha.opd hden hv (fun k B hm=>by cases hm) (fun k hk=>by cases hk) rfl rfl (fun h=>⟨hnew,(inferInstance:AllNew [])⟩);rw [D.ren_id] at this;exact this) rfl h
theorem r_callO {x:Operand} {xs:List Operand} {ts:Array TypeId} {f:FuncId} {fn:Func} {ds ads caps:List D} {r d0:D} [hf:FI P f fn] [hod:OldDL ds]  (hden:Den P f ds r) (h:RunK P N ops rest ((d,r)::env) box (done++[⟨nsOf box (ads++caps),some d,r,[],[]⟩]) K) (hx:autoParam (Op1 env x d0) aq0._auto_1) (hcl:autoParam ((d0 = .val (.func (.func f) #[] #[])∧caps=[])∨d0 = .clo f caps) aq12._auto_1) (ha:autoParam (Op1L env xs ads) aq3._auto_1) (hv:autoParam (ArgVL false [] (nsOf box (ads++caps)) [] (fun k=>k) (hk box) (ads++caps) ds) aq1._auto_1) (hd:Nat.blt d (fsz N)=true:=by rfl):RunK P N ops (⟨some d,.call { callee:=.value x,args:=xs.toArray,argTypes:=ts },ty,pos,aft,none⟩::rest) env box done K:=
 run_put (by have:=loc_call (lend:=false) (ρ:=fun k=>k) (P:=P) (N:=N) (o:=⟨some d,.call { callee:=.value x,args:=xs.toArray,argTypes:=ts },ty,pos,aft,none⟩) rfl hd hx.opd hcl ha.opd hden hv (fun k B hm=>by cases hm) (fun k hk=>by cases hk) rfl rfl (fun h=>by cases h);rw [D.ren_id] at this;exact this) rfl h
theorem loc_of_run {o:Oper} {R:Rec} (hg:o.guard=none) (h:RunK P N ops [o] env box [] (fun Rs _ _=>Rs=[R])):Loc P N o (lk env) (hk box) R:=by
 obtain ⟨Rs,_,_,h1,_,_,h4⟩:=h
 rw [List.nil_append] at h4
 subst h4
 cases h1 with
 | exec _ hl _=>exact hl
 | skip hg'=>unfold GuardIs at hg';rw [hg] at hg';cases hg'
 | maybe hg' hd hl _=>
  unfold GuardIs at hg';rw [hg] at hg';subst hg'
  exact hl rfl
theorem g_T {j t:Nat} {c:Bool} {dst:Option Nat} {op:Op} (ht:(ops[j]?).bind (·.dst)=some t) (hx:Lk env t (.val (.bool c))) (h:RunK P N ops (⟨dst,op,ty,pos,aft,none⟩::rest) env box done K):RunK P N ops (⟨dst,op,ty,pos,aft,some (j,c)⟩::rest) env box done K:=run_yes ht hx.eq h
theorem g_F {j t:Nat} {c c':Bool} {op:Op} (ht:(ops[j]?).bind (·.dst)=some t) (hx:Lk env t (.val (.bool c'))) (hc:c' = !c) (hd:Nat.blt d (fsz N)=true) (h:RunK P N ops rest ((d,.any)::env) box (done++[⟨[],some d,.any,[],[]⟩]) K):RunK P N ops (⟨some d,op,ty,pos,aft,some (j,c)⟩::rest) env box done K:=run_no ht (by rw [hx.eq,hc]) hd h
end
theorem go1 {X G:Prop} (h:X) (f:X→G:=by first | ((with_reducible apply r_ld1);(focus ((first | exact Op1.const _ | exact Op1.fn _ | exact Op1.gl _ | (apply Op1.tmp;(repeat constructor);done) | (apply o2;(focus ((repeat constructor);done));assumption) | (apply o3;(focus ((repeat constructor);done));assumption;assumption));done));rfl;(focus (((repeat (first | exact Bl.here | apply Bl.there rfl)));done));(focus (((repeat (first | exact At.here | apply At.there)));done));rfl;rfl) | ((with_reducible apply r_fld);(focus ((first | exact Op1.const _ | exact Op1.fn _ | exact Op1.gl _ | (apply Op1.tmp;(repeat constructor);done) | (apply o2;(focus ((repeat constructor);done));assumption) | (apply o3;(focus ((repeat constructor);done));assumption;assumption));done));rfl) | ((with_reducible apply r_bin);(focus ((first | exact Op1.const _ | exact Op1.fn _ | exact Op1.gl _ | (apply Op1.tmp;(repeat constructor);done) | (apply o2;(focus ((repeat constructor);done));assumption) | (apply o3;(focus ((repeat constructor);done));assumption;assumption));done));(focus ((first | exact Op1.const _ | exact Op1.fn _ | exact Op1.gl _ | (apply Op1.tmp;(repeat constructor);done) | (apply o2;(focus ((repeat constructor);done));assumption) | (apply o3;(focus ((repeat constructor);done));assumption;assumption));done));(focus ((first | exact bn_add (by first | (with_reducible exact NatIs.cast _) | (with_reducible exact NatIs.lit _) | assumption | exact NatIs.cast _) (by first | (with_reducible exact NatIs.cast _) | (with_reducible exact NatIs.lit _) | assumption | exact NatIs.cast _) (by (try dsimp only [topK,InK]);omega) | exact bi_add (by (try dsimp only [topK,InK]);omega) | exact bn_sub (by first | (with_reducible exact NatIs.cast _) | (with_reducible exact NatIs.lit _) | assumption | exact NatIs.cast _) (by first | (with_reducible exact NatIs.cast _) | (with_reducible exact NatIs.lit _) | assumption | exact NatIs.cast _) (by omega) (by (try dsimp only [topK,InK]);omega) | exact bi_sub (by (try dsimp only [topK,InK]);omega) | exact bn_mul (by first | (with_reducible exact NatIs.cast _) | (with_reducible exact NatIs.lit _) | assumption | exact NatIs.cast _) (by first | (with_reducible exact NatIs.cast _) | (with_reducible exact NatIs.lit _) | assumption | exact NatIs.cast _) (by (try dsimp only [topK,InK]);omega) | exact bi_mul (by (try dsimp only [topK,InK]);omega) | exact bn_lss (by first | (with_reducible exact NatIs.cast _) | (with_reducible exact NatIs.lit _) | assumption | exact NatIs.cast _) (by first | (with_reducible exact NatIs.cast _) | (with_reducible exact NatIs.lit _) | assumption | exact NatIs.cast _) | exact bn_eql (by first | (with_reducible exact NatIs.cast _) | (with_reducible exact NatIs.lit _) | assumption | exact NatIs.cast _) (by first | (with_reducible exact NatIs.cast _) | (with_reducible exact NatIs.lit _) | assumption | exact NatIs.cast _) | exact bn_neq (by first | (with_reducible exact NatIs.cast _) | (with_reducible exact NatIs.lit _) | assumption | exact NatIs.cast _) (by first | (with_reducible exact NatIs.cast _) | (with_reducible exact NatIs.lit _) | assumption | exact NatIs.cast _) | exact bn_leq (by first | (with_reducible exact NatIs.cast _) | (with_reducible exact NatIs.lit _) | assumption | exact NatIs.cast _) (by first | (with_reducible exact NatIs.cast _) | (with_reducible exact NatIs.lit _) | assumption | exact NatIs.cast _) | exact bn_gtr (by first | (with_reducible exact NatIs.cast _) | (with_reducible exact NatIs.lit _) | assumption | exact NatIs.cast _) (by first | (with_reducible exact NatIs.cast _) | (with_reducible exact NatIs.lit _) | assumption | exact NatIs.cast _) | exact bn_geq (by first | (with_reducible exact NatIs.cast _) | (with_reducible exact NatIs.lit _) | assumption | exact NatIs.cast _) (by first | (with_reducible exact NatIs.cast _) | (with_reducible exact NatIs.lit _) | assumption | exact NatIs.cast _) | exact bi_lss | exact bi_eql | exact bi_neq | exact bi_leq | exact bi_gtr | exact bi_geq | exact bn_quo (by first | (with_reducible exact NatIs.cast _) | (with_reducible exact NatIs.lit _) | assumption | exact NatIs.cast _) (by first | (with_reducible exact NatIs.cast _) | (with_reducible exact NatIs.lit _) | assumption | exact NatIs.cast _) (by omega) (by (try dsimp only [topK,InK]);omega) | exact bn_rem (by first | (with_reducible exact NatIs.cast _) | (with_reducible exact NatIs.lit _) | assumption | exact NatIs.cast _) (by first | (with_reducible exact NatIs.cast _) | (with_reducible exact NatIs.lit _) | assumption | exact NatIs.cast _) (by omega) | exact bi_rem (by omega) | exact bi_quo (by omega) (by (try dsimp only [topK,InK]);omega) | exact bb_eql | exact bb_neq | exact bs_eql | exact bs_neq | exact bw_add | exact bw_sub | exact bw_mul);done));rfl) | ((with_reducible apply r_move);(focus ((first | exact Op1.const _ | exact Op1.fn _ | exact Op1.gl _ | (apply Op1.whn;(focus (apply Op1.tmp;(repeat (first | exact Lk.here | apply Lk.there rfl));done));assumption) | (apply Op1.tmp;(repeat (first | exact Lk.here | apply Lk.there rfl));done));done));rfl) | ((with_reducible apply r_assign);(focus ((first | exact Op1.const _ | exact Op1.fn _ | exact Op1.gl _ | (apply Op1.whn;(focus (apply Op1.tmp;(repeat (first | exact Lk.here | apply Lk.there rfl));done));assumption) | (apply Op1.tmp;(repeat (first | exact Lk.here | apply Lk.there rfl));done));done));rfl) | ((with_reducible apply r_la1);(focus ((first | exact Op1.const _ | exact Op1.fn _ | exact Op1.gl _ | (apply Op1.tmp;(repeat constructor);done) | (apply o2;(focus ((repeat constructor);done));assumption) | (apply o3;(focus ((repeat constructor);done));assumption;assumption));done));(focus (((first | (apply Ba.arr;(repeat (first | exact Bl.here | apply Bl.there rfl));done) | (apply Ba.ice;(repeat (first | exact Bl.here | apply Bl.there rfl)))));done));(focus (((repeat (first | exact At.here | apply At.there)));done));rfl;rfl;omega;rfl) | ((with_reducible apply r_lf1);(focus ((first | exact Op1.const _ | exact Op1.fn _ | exact Op1.gl _ | (apply Op1.tmp;(repeat constructor);done) | (apply o2;(focus ((repeat constructor);done));assumption) | (apply o3;(focus ((repeat constructor);done));assumption;assumption));done));(focus ((exact At.here);done));rfl;rfl) | ((with_reducible apply r_ldA);(focus ((first | exact Op1.const _ | exact Op1.fn _ | exact Op1.gl _ | (apply Op1.tmp;(repeat constructor);done) | (apply o2;(focus ((repeat constructor);done));assumption) | (apply o3;(focus ((repeat constructor);done));assumption;assumption));done));rfl;(focus (((repeat (first | exact Bl.here | apply Bl.there rfl)));done));(focus (((repeat (first | exact Sg.nil | apply Sg.take | apply Sg.drop)));done));rfl;rfl) | ((with_reducible apply r_ix);(focus ((first | exact Op1.const _ | exact Op1.fn _ | exact Op1.gl _ | (apply Op1.tmp;(repeat constructor);done) | (apply o2;(focus ((repeat constructor);done));assumption) | (apply o3;(focus ((repeat constructor);done));assumption;assumption));done));(focus ((first | exact Op1.const _ | exact Op1.fn _ | exact Op1.gl _ | (apply Op1.tmp;(repeat constructor);done) | (apply o2;(focus ((repeat constructor);done));assumption) | (apply o3;(focus ((repeat constructor);done));assumption;assumption));done));(focus ((first | exact IdxIs.nat (by omega) | exact IdxIs.num (by omega) | exact IdxIs.int (by omega) (by omega));done));rfl) | ((with_reducible apply r_ixf);(focus ((first | exact Op1.const _ | exact Op1.fn _ | exact Op1.gl _ | (apply Op1.tmp;(repeat constructor);done) | (apply o2;(focus ((repeat constructor);done));assumption) | (apply o3;(focus ((repeat constructor);done));assumption;assumption));done));(focus ((first | exact Op1.const _ | exact Op1.fn _ | exact Op1.gl _ | (apply Op1.tmp;(repeat constructor);done) | (apply o2;(focus ((repeat constructor);done));assumption) | (apply o3;(focus ((repeat constructor);done));assumption;assumption));done));(focus ((first | exact IdxIs.nat (by omega) | exact IdxIs.num (by omega) | exact IdxIs.int (by omega) (by omega));done));rfl;rfl) | ((with_reducible apply r_ixL);(focus ((first | exact Op1.const _ | exact Op1.fn _ | exact Op1.gl _ | (apply Op1.tmp;(repeat constructor);done) | (apply o2;(focus ((repeat constructor);done));assumption) | (apply o3;(focus ((repeat constructor);done));assumption;assumption));done));(focus ((first | exact Op1.const _ | exact Op1.fn _ | exact Op1.gl _ | (apply Op1.tmp;(repeat constructor);done) | (apply o2;(focus ((repeat constructor);done));assumption) | (apply o3;(focus ((repeat constructor);done));assumption;assumption));done));(focus ((first | exact IdxIs.nat (by omega) | exact IdxIs.num (by omega) | exact IdxIs.int (by omega) (by omega));done));rfl) | ((with_reducible apply r_conv);(focus ((first | exact Op1.const _ | exact Op1.fn _ | exact Op1.gl _ | (apply Op1.tmp;(repeat constructor);done) | (apply o2;(focus ((repeat constructor);done));assumption) | (apply o3;(focus ((repeat constructor);done));assumption;assumption));done));(focus ((first | exact cn_int (by first | (with_reducible exact NatIs.cast _) | (with_reducible exact NatIs.lit _) | assumption | exact NatIs.cast _) (by (try dsimp only [topK,InK]);omega) | exact ci_int (by (try dsimp only [topK,InK]);omega) | exact cw_int);done));rfl) | ((with_reducible apply r_st);(focus ((first | exact Op1.const _ | exact Op1.fn _ | exact Op1.gl _ | (apply Op1.tmp;(repeat constructor);done) | (apply o2;(focus ((repeat constructor);done));assumption) | (apply o3;(focus ((repeat constructor);done));assumption;assumption));done));(focus ((first | exact Op1.const _ | exact Op1.fn _ | exact Op1.gl _ | (apply Op1.tmp;(repeat constructor);done) | (apply o2;(focus ((repeat constructor);done));assumption) | (apply o3;(focus ((repeat constructor);done));assumption;assumption));done));rfl;(focus (((repeat (first | exact Bl.here | apply Bl.there rfl)));done));rfl;rfl;rfl;(focus (((repeat (first | exact PutL.nil | apply PutL.cons | apply PutL.skip)));done))) | ((with_reducible apply r_sta);(focus ((first | exact Op1.const _ | exact Op1.fn _ | exact Op1.gl _ | (apply Op1.tmp;(repeat constructor);done) | (apply o2;(focus ((repeat constructor);done));assumption) | (apply o3;(focus ((repeat constructor);done));assumption;assumption));done));(focus ((first | exact Op1.const _ | exact Op1.fn _ | exact Op1.gl _ | (apply Op1.tmp;(repeat constructor);done) | (apply o2;(focus ((repeat constructor);done));assumption) | (apply o3;(focus ((repeat constructor);done));assumption;assumption));done));(focus (((repeat (first | exact Bl.here | apply Bl.there rfl)));done));rfl;rfl;rfl;rfl;rfl;omega) | ((with_reducible apply r_flf);(focus ((first | exact Op1.const _ | exact Op1.fn _ | exact Op1.gl _ | (apply Op1.tmp;(repeat constructor);done) | (apply o2;(focus ((repeat constructor);done));assumption) | (apply o3;(focus ((repeat constructor);done));assumption;assumption));done));(focus (((repeat (first | exact Dp.nil | apply Dp.skip)));done));rfl) | ((with_reducible apply r_ext);(focus ((first | exact Op1.const _ | exact Op1.fn _ | exact Op1.gl _ | (apply Op1.tmp;(repeat constructor);done) | (apply o2;(focus ((repeat constructor);done));assumption) | (apply o3;(focus ((repeat constructor);done));assumption;assumption));done));(focus (((repeat (first | exact At.here | apply At.there)));done));rfl) | ((with_reducible apply r_len);(focus ((first | exact Op1.const _ | exact Op1.fn _ | exact Op1.gl _ | (apply Op1.tmp;(repeat constructor);done) | (apply o2;(focus ((repeat constructor);done));assumption) | (apply o3;(focus ((repeat constructor);done));assumption;assumption));done));rfl) | ((with_reducible apply r_lenf);(focus ((first | exact Op1.const _ | exact Op1.fn _ | exact Op1.gl _ | (apply Op1.tmp;(repeat constructor);done) | (apply o2;(focus ((repeat constructor);done));assumption) | (apply o3;(focus ((repeat constructor);done));assumption;assumption));done));rfl) | ((with_reducible apply r_box);(focus ((first | exact Op1.const _ | exact Op1.fn _ | exact Op1.gl _ | (apply Op1.whn;(focus (apply Op1.tmp;(repeat (first | exact Lk.here | apply Lk.there rfl));done));assumption) | (apply Op1.tmp;(repeat (first | exact Lk.here | apply Lk.there rfl));done));done));rfl;rfl;rfl) | ((with_reducible apply r_alloc);rfl) | ((with_reducible apply r_lfA);(focus ((first | exact Op1.const _ | exact Op1.fn _ | exact Op1.gl _ | (apply Op1.tmp;(repeat constructor);done) | (apply o2;(focus ((repeat constructor);done));assumption) | (apply o3;(focus ((repeat constructor);done));assumption;assumption));done));(focus (((repeat (first | exact Sg.nil | apply Sg.take | apply Sg.drop)));done));rfl;rfl) | ((with_reducible apply r_fv1);(focus ((first | exact Op1.const _ | exact Op1.fn _ | exact Op1.gl _ | (apply Op1.tmp;(repeat constructor);done) | (apply o2;(focus ((repeat constructor);done));assumption) | (apply o3;(focus ((repeat constructor);done));assumption;assumption));done));(focus (((repeat (first | exact At.here | apply At.there)));done));rfl) | ((with_reducible apply r_fun);(focus (((repeat (first | exact Op1L.nil | apply Op1L.cons (by first | exact Op1.const _ | exact Op1.fn _ | exact Op1.gl _ | (apply Op1.tmp;(repeat constructor);done) | (apply o2;(focus ((repeat constructor);done));assumption) | (apply o3;(focus ((repeat constructor);done));assumption;assumption)))));done));rfl) | ((with_reducible apply r_un);(focus ((first | exact Op1.const _ | exact Op1.fn _ | exact Op1.gl _ | (apply Op1.tmp;(repeat constructor);done) | (apply o2;(focus ((repeat constructor);done));assumption) | (apply o3;(focus ((repeat constructor);done));assumption;assumption));done));(focus ((first | exact un_not | exact un_neg (by (try dsimp only [topK,InK]);omega));done));rfl) | ((with_reducible apply r_and);(focus ((first | exact Op1.const _ | exact Op1.fn _ | exact Op1.gl _ | (apply Op1.tmp;(repeat constructor);done) | (apply o2;(focus ((repeat constructor);done));assumption) | (apply o3;(focus ((repeat constructor);done));assumption;assumption));done));(focus ((first | exact Op1.const _ | exact Op1.fn _ | exact Op1.gl _ | (apply Op1.tmp;(repeat constructor);done) | (apply o2;(focus ((repeat constructor);done));assumption) | (apply o3;(focus ((repeat constructor);done));assumption;assumption) | (apply Op1.wha;(focus (apply Op1.tmp;(repeat (first | exact Lk.here | apply Lk.there rfl));done));assumption));done));rfl) | ((with_reducible apply r_or);(focus ((first | exact Op1.const _ | exact Op1.fn _ | exact Op1.gl _ | (apply Op1.tmp;(repeat constructor);done) | (apply o2;(focus ((repeat constructor);done));assumption) | (apply o3;(focus ((repeat constructor);done));assumption;assumption));done));(focus ((first | exact Op1.const _ | exact Op1.fn _ | exact Op1.gl _ | (apply Op1.tmp;(repeat constructor);done) | (apply o2;(focus ((repeat constructor);done));assumption) | (apply o3;(focus ((repeat constructor);done));assumption;assumption) | (apply Op1.wha;(focus (apply Op1.tmp;(repeat (first | exact Lk.here | apply Lk.there rfl));done));assumption));done));rfl) | ((with_reducible apply r_pickT);(focus ((first | exact Op1.const _ | exact Op1.fn _ | exact Op1.gl _ | (apply Op1.tmp;(repeat constructor);done) | (apply o2;(focus ((repeat constructor);done));assumption) | (apply o3;(focus ((repeat constructor);done));assumption;assumption));done));(focus ((first | exact Op1.const _ | exact Op1.fn _ | exact Op1.gl _ | (apply Op1.tmp;(repeat constructor);done) | (apply o2;(focus ((repeat constructor);done));assumption) | (apply o3;(focus ((repeat constructor);done));assumption;assumption));done));rfl) | ((with_reducible apply r_pickF);(focus ((first | exact Op1.const _ | exact Op1.fn _ | exact Op1.gl _ | (apply Op1.tmp;(repeat constructor);done) | (apply o2;(focus ((repeat constructor);done));assumption) | (apply o3;(focus ((repeat constructor);done));assumption;assumption));done));(focus ((first | exact Op1.const _ | exact Op1.fn _ | exact Op1.gl _ | (apply Op1.tmp;(repeat constructor);done) | (apply o2;(focus ((repeat constructor);done));assumption) | (apply o3;(focus ((repeat constructor);done));assumption;assumption));done));rfl) | ((with_reducible apply r_lens);(focus ((first | exact Op1.const _ | exact Op1.fn _ | exact Op1.gl _ | (apply Op1.tmp;(repeat constructor);done) | (apply o2;(focus ((repeat constructor);done));assumption) | (apply o3;(focus ((repeat constructor);done));assumption;assumption));done));rfl) | ((with_reducible apply r_slf);(focus ((first | exact Op1.const _ | exact Op1.fn _ | exact Op1.gl _ | (apply Op1.tmp;(repeat constructor);done) | (apply o2;(focus ((repeat constructor);done));assumption) | (apply o3;(focus ((repeat constructor);done));assumption;assumption));done));(focus ((first | exact Op1O.none _ | exact Op1O.some (by first | exact Op1.const _ | exact Op1.fn _ | exact Op1.gl _ | (apply Op1.tmp;(repeat constructor);done) | (apply o2;(focus ((repeat constructor);done));assumption) | (apply o3;(focus ((repeat constructor);done));assumption;assumption)) (by first | (with_reducible exact NatIs.cast _) | (with_reducible exact NatIs.lit _) | assumption | exact NatIs.cast _));done));(focus ((first | exact Op1O.none _ | exact Op1O.some (by first | exact Op1.const _ | exact Op1.fn _ | exact Op1.gl _ | (apply Op1.tmp;(repeat constructor);done) | (apply o2;(focus ((repeat constructor);done));assumption) | (apply o3;(focus ((repeat constructor);done));assumption;assumption)) (by first | (with_reducible exact NatIs.cast _) | (with_reducible exact NatIs.lit _) | assumption | exact NatIs.cast _));done));rfl;omega;omega;rfl) | ((with_reducible apply r_sls);(focus ((first | exact Op1.const _ | exact Op1.fn _ | exact Op1.gl _ | (apply Op1.tmp;(repeat constructor);done) | (apply o2;(focus ((repeat constructor);done));assumption) | (apply o3;(focus ((repeat constructor);done));assumption;assumption));done));(focus ((first | exact Op1O.none _ | exact Op1O.some (by first | exact Op1.const _ | exact Op1.fn _ | exact Op1.gl _ | (apply Op1.tmp;(repeat constructor);done) | (apply o2;(focus ((repeat constructor);done));assumption) | (apply o3;(focus ((repeat constructor);done));assumption;assumption)) (by first | (with_reducible exact NatIs.cast _) | (with_reducible exact NatIs.lit _) | assumption | exact NatIs.cast _));done));(focus ((first | exact Op1O.none _ | exact Op1O.some (by first | exact Op1.const _ | exact Op1.fn _ | exact Op1.gl _ | (apply Op1.tmp;(repeat constructor);done) | (apply o2;(focus ((repeat constructor);done));assumption) | (apply o3;(focus ((repeat constructor);done));assumption;assumption)) (by first | (with_reducible exact NatIs.cast _) | (with_reducible exact NatIs.lit _) | assumption | exact NatIs.cast _));done));omega;rfl) | ((with_reducible apply r_ixa);(focus ((first | exact Op1.const _ | exact Op1.fn _ | exact Op1.gl _ | (apply Op1.tmp;(repeat constructor);done) | (apply o2;(focus ((repeat constructor);done));assumption) | (apply o3;(focus ((repeat constructor);done));assumption;assumption));done));(focus ((first | exact Op1.const _ | exact Op1.fn _ | exact Op1.gl _ | (apply Op1.tmp;(repeat constructor);done) | (apply o2;(focus ((repeat constructor);done));assumption) | (apply o3;(focus ((repeat constructor);done));assumption;assumption));done));(focus ((first | exact IdxIs.nat (by omega) | exact IdxIs.num (by omega) | exact IdxIs.int (by omega) (by omega));done));rfl) | ((with_reducible apply r_mks);(focus ((first | exact Op1.const _ | exact Op1.fn _ | exact Op1.gl _ | (apply Op1.tmp;(repeat constructor);done) | (apply o2;(focus ((repeat constructor);done));assumption) | (apply o3;(focus ((repeat constructor);done));assumption;assumption));done));(focus ((first | exact Op1.const _ | exact Op1.fn _ | exact Op1.gl _ | (apply Op1.tmp;(repeat constructor);done) | (apply o2;(focus ((repeat constructor);done));assumption) | (apply o3;(focus ((repeat constructor);done));assumption;assumption));done));(focus ((first | exact NatIs.cast _ | exact NatIs.lit _ | assumption);done));(focus ((first | exact NatIs.cast _ | exact NatIs.lit _ | assumption);done));rfl;rfl;rfl;rfl;rfl;omega;omega;rfl;rfl) | ((with_reducible apply r_app);(focus ((first | exact Op1.const _ | exact Op1.fn _ | exact Op1.gl _ | (apply Op1.tmp;(repeat constructor);done) | (apply o2;(focus ((repeat constructor);done));assumption) | (apply o3;(focus ((repeat constructor);done));assumption;assumption));done));(focus ((first | exact Op1.const _ | exact Op1.fn _ | exact Op1.gl _ | (apply Op1.tmp;(repeat constructor);done) | (apply o2;(focus ((repeat constructor);done));assumption) | (apply o3;(focus ((repeat constructor);done));assumption;assumption));done));(focus (((repeat (first | exact Bl.here | apply Bl.there rfl)));done));(focus ((first | exact SrcB.fz _ _ _ _ | exact SrcB.nil _ _ | exact SrcB.sl (by (first | (apply Ba.arr;(repeat (first | exact Bl.here | apply Bl.there rfl));done) | (apply Ba.ice;(repeat (first | exact Bl.here | apply Bl.there rfl))))) (by omega));done));rfl;rfl;rfl;rfl;rfl;omega;rfl;omega;omega;rfl) | ((with_reducible apply r_app0);(focus ((first | exact Op1.const _ | exact Op1.fn _ | exact Op1.gl _ | (apply Op1.tmp;(repeat constructor);done) | (apply o2;(focus ((repeat constructor);done));assumption) | (apply o3;(focus ((repeat constructor);done));assumption;assumption));done));(focus ((first | exact Op1.const _ | exact Op1.fn _ | exact Op1.gl _ | (apply Op1.tmp;(repeat constructor);done) | (apply o2;(focus ((repeat constructor);done));assumption) | (apply o3;(focus ((repeat constructor);done));assumption;assumption));done));(focus ((first | exact SrcB.fz _ _ _ _ | exact SrcB.nil _ _ | exact SrcB.sl (by (first | (apply Ba.arr;(repeat (first | exact Bl.here | apply Bl.there rfl));done) | (apply Ba.ice;(repeat (first | exact Bl.here | apply Bl.there rfl))))) (by omega));done));rfl;rfl;rfl;rfl;rfl;omega;omega;rfl) | ((with_reducible apply r_build);(focus (((repeat (first | exact Op1P.nil | apply Op1P.cons (by first | exact Op1.const _ | exact Op1.fn _ | exact Op1.gl _ | (apply Op1.tmp;(repeat constructor);done) | (apply o2;(focus ((repeat constructor);done));assumption) | (apply o3;(focus ((repeat constructor);done));assumption;assumption)))));done));(focus (((repeat (first | exact Fill.nil | apply Fill.cons rfl rfl rfl rfl (by (repeat (first | exact PutL.nil | apply PutL.cons | apply PutL.skip))))));done));rfl) | ((with_reducible apply r_bsl);(focus (((repeat (first | exact Op1P.nil | apply Op1P.cons (by first | exact Op1.const _ | exact Op1.fn _ | exact Op1.gl _ | (apply Op1.tmp;(repeat constructor);done) | (apply o2;(focus ((repeat constructor);done));assumption) | (apply o3;(focus ((repeat constructor);done));assumption;assumption)))));done));rfl;rfl;rfl;rfl;rfl;(focus (((repeat (first | exact Fill.nil | apply Fill.cons rfl rfl rfl rfl (by (repeat (first | exact PutL.nil | apply PutL.cons | apply PutL.skip))))));done));rfl;rfl;rfl)):G:=f h
section
variable {ro:Option Nat} {P:Program} {N:Nat} {Q Q':Post} {ops:Array Oper} {rest:List Oper} {env:List (Nat × D)} {box:List (Nat × Option Box)} {done:List Rec} {K:List Rec→List (Nat × D)→List (Nat × Option Box)→Prop} {d:Nat} {ty:TypeId} {pos:String} {aft:Array Edge} {E:Nat→D} {H:Nat→Option Box} {x y:Code} {id:Nat}
theorem run_fin {Rs:List Rec} (h:done=Rs):RunK P N ops [] env box done (fun R _ _=>R=Rs):=run_nil h
theorem g_M {j t:Nat} {c b:Bool} {op:Op} {r:D} {names:List Nat} (ht:(ops[j]?).bind (·.dst)=some t) (hx:Lk env t (.val (.bool b))) (hd:Nat.blt d (fsz N)=true) (hl:(b == c)=true→RunK P N ops [⟨some d,op,ty,pos,aft,none⟩] env box [] (fun Rs _ _=>Rs=[⟨names,some d,r,[],[]⟩])) (h:RunK P N ops rest ((d,when (b == c) r)::env) box (done++[⟨names,some d,when (b == c) r,[],[]⟩]) K):RunK P N ops (⟨some d,op,ty,pos,aft,some (j,c)⟩::rest) env box done K:=by have:=run_maybe (P:=P) (N:=N) (ops:=ops) (rest:=rest) (box:=box) (done:=done) (K:=K) (ty:=ty) (pos:=pos) (after:=aft) (op:=op) (g:=true) (x:=b) (c:=c) (r:=r) (names:=names) (env:=env) ht hx.eq hd (by rw [Bool.true_and];exact fun hb=>loc_of_run rfl (hl hb)) (by rw [Bool.true_and];exact h);exact this
theorem g_callM {j t:Nat} {c b:Bool} {op:Op} {r:D} {names:List Nat} (ht:(ops[j]?).bind (·.dst)=some t:=by rfl) (hx:Lk env t (.val (.bool b)):=by (repeat (first | (with_reducible exact Lk.here) | apply Lk.there rfl))) (hd:Nat.blt d (fsz N)=true:=by rfl) (hl:(b == c)=true→RunK P N ops [⟨some d,op,ty,pos,aft,none⟩] env box [] (fun Rs _ _=>Rs=[⟨names,some d,r,[],[]⟩])) (h:RunK P N ops rest ((d,when (b == c) r)::env) box (done++[⟨names,some d,when (b == c) r,[],[]⟩]) K):RunK P N ops (⟨some d,op,ty,pos,aft,some (j,c)⟩::rest) env box done K:=g_M ht hx hd hl h
/-! Control -/
theorem c_sreg [hm:Mix P] {l:List Oper} {draw:Bool} (h:RunK P N l.toArray l env box [] (fun Rs env' box'=>okR draw l Rs box=true∧AWp ro P N y (lk env') (hk box') Q)):AWp ro P N (.seq (.region id l.toArray draw) y) (lk env) (hk box) Q:=awp_seq (awp_reg (G:=fun e b=>AWp ro P N y (lk e) (hk b) Q) (fun _ _ h=>h) h)
theorem c_reg [hm:Mix P] {l:List Oper} {draw:Bool} (h:RunK P N l.toArray l env box [] (fun Rs env' box'=>okR draw l Rs box=true∧Q .normal (lk env') (hk box'))):AWp ro P N (.region id l.toArray draw) (lk env) (hk box) Q:=awp_reg (G:=fun e b=>Q .normal (lk e) (hk b)) (fun _ _ h=>h) h
theorem c_end {l:List Oper} {draw:Bool} {box0:List (Nat × Option Box)} {G:List (Nat × D)→List (Nat × Option Box)→Prop} (hok:okR draw l done box0=true) (h:G env box):RunK P N ops [] env box done (fun Rs e b=>okR draw l Rs box0=true∧G e b):=run_nil ⟨hok,h⟩
theorem c_seq (h:AWp ro P N x E H (AThen (fun E' H'=>AWp ro P N y E' H' Q) Q)):AWp ro P N (.seq x y) E H Q:=awp_seq h
theorem c_true {c:Operand} {b:Bool} (hc:Op1 env c (.val (.bool b))) (hb:b=true) (h:AWp ro P N x (lk env) (hk box) Q):AWp ro P N (.cond c x y) (lk env) (hk box) Q:=by subst hb;exact awp_cond hc.opd (by simpa using h)
theorem c_false {c:Operand} {b:Bool} (hc:Op1 env c (.val (.bool b))) (hb:b=false) (h:AWp ro P N y (lk env) (hk box) Q):AWp ro P N (.cond c x y) (lk env) (hk box) Q:=by subst hb;exact awp_cond hc.opd (by simpa using h)
theorem c_if {c:Operand} {p:Prop} [Decidable p] (h1:p→AWp ro P N x (lk env) (hk box) Q) (h2:¬ p→AWp ro P N y (lk env) (hk box) Q) (hc:autoParam (Op1 env c (.val (.bool (decide p)))) aq0._auto_1):AWp ro P N (.cond c x y) (lk env) (hk box) Q:=awp_split hc.opd (fun h=>h1 (of_decide_eq_true h)) (fun h=>h2 (of_decide_eq_false h))
theorem c_ifB {c:Operand} {b:Bool} (h1:b=true→AWp ro P N x (lk env) (hk box) Q) (h2:b=false→AWp ro P N y (lk env) (hk box) Q) (hc:autoParam (Op1 env c (.val (.bool b))) aq0._auto_1):AWp ro P N (.cond c x y) (lk env) (hk box) Q:=awp_split hc.opd h1 h2
theorem p_thenN {n:(Nat→D)→(Nat→Option Box)→Prop} (h:n E H):AThen n Q .normal E H:=h
theorem p_thenR {n:(Nat→D)→(Nat→Option Box)→Prop} (h:Q .ret E H):AThen n Q .ret E H:=h
theorem p_thenX {n:(Nat→D)→(Nat→Option Box)→Prop} {k:Nat} (h:Q (.exit k) E H):AThen n Q (.exit k) E H:=h
theorem p_blkN (h:Q .normal E H):AInBlock id Q .normal E H:=h
theorem p_blkR (h:Q .ret E H):AInBlock id Q .ret E H:=h
theorem p_blkX {k:Nat} (hk:Nat.beq k id=true) (h:Q .normal E H):AInBlock id Q (.exit k) E H:=by simp only [AInBlock,hk];exact h
theorem p_blkY {k:Nat} (hk:Nat.beq k id=false) (h:Q (.exit k) E H):AInBlock id Q (.exit k) E H:=by simp only [AInBlock,hk];exact h
def FinS (P:Program) (fn:Func) (r:D) (hs rs:Hs) (E:Nat→D) (H:Nat→Option Box):Prop:=∃ E' H',Sub E H E' H'∧Fin P fn r hs rs E' H'
theorem FinS.sub {fn:Func} {r:D} {hs rs:Hs} {E':Nat→D} {H':Nat→Option Box} (k:Sub E H E' H') (h:FinS P fn r hs rs E' H'):FinS P fn r hs rs E H:=by
 obtain ⟨E2,H2,q1,q2⟩:=h
 exact ⟨E2,H2,k.trans q1,q2⟩
theorem p_endR {fn:Func} {r:D} {hs rs:Hs} (h:FinS P fn r hs rs E H):Ended P fn r hs rs .ret E H:=h
theorem p_endN {fn:Func} {r:D} {hs rs:Hs} (h:FinS P fn r hs rs E H):Ended P fn r hs rs .normal E H:=h
end
theorem go {G G':Prop} (g:G') (h:Back G' G:=by ((repeat (apply Back.step;(focus (first | (intro h;exact go1 h) | ((with_reducible apply g_T);rfl;(focus ((repeat (first | (with_reducible exact Lk.here) | apply Lk.there rfl));done))) | ((with_reducible apply g_F);rfl;(focus ((repeat (first | (with_reducible exact Lk.here) | apply Lk.there rfl));done));rfl;rfl) | ((with_reducible apply g_M);rfl;(focus ((repeat (first | (with_reducible exact Lk.here) | apply Lk.there rfl));done));rfl;(focus (((intro hb;refine go1 ?_;exact run_fin rfl));done))) | (with_reducible exact c_sreg) | (with_reducible exact c_seq) | ((with_reducible refine c_end ?_);kernel_rfl) | (with_reducible exact c_reg) | ((with_reducible apply c_true);(focus ((first | exact Op1.const _ | exact Op1.fn _ | exact Op1.gl _ | (apply Op1.tmp;(repeat constructor);done) | (apply o2;(focus ((repeat constructor);done));assumption) | (apply o3;(focus ((repeat constructor);done));assumption;assumption));done));(focus ((first | (with_reducible rfl) | assumption | exact decide_eq_true (by omega) | exact decide_eq_true (by first | assumption | decide));done))) | ((with_reducible apply c_false);(focus ((first | exact Op1.const _ | exact Op1.fn _ | exact Op1.gl _ | (apply Op1.tmp;(repeat constructor);done) | (apply o2;(focus ((repeat constructor);done));assumption) | (apply o3;(focus ((repeat constructor);done));assumption;assumption));done));(focus ((first | (with_reducible rfl) | assumption | exact decide_eq_false (by omega) | exact decide_eq_false (by first | assumption | decide));done))) | (with_reducible exact p_thenN) | (with_reducible exact p_thenR) | (with_reducible exact p_thenX) | (with_reducible exact p_blkN) | (with_reducible exact p_blkR) | ((with_reducible refine p_blkX ?_);rfl) | ((with_reducible refine p_blkY ?_);rfl) | (with_reducible exact awp_block) | (with_reducible exact awp_exit) | (with_reducible exact awp_ret) | (with_reducible exact awp_skip) | (with_reducible exact p_endR) | (with_reducible exact p_endN)))));exact Back.refl)):G:=h.go g


inductive EnvL (H:Nat→Option Box) (env:List (Nat × D)):List (Nat × D)→Prop where
 | nil:EnvL H env []
 | cons {t:Nat} {d0 d:D} {l:List (Nat × D)} (hl:Lk env t d0) (h:SlotCv H d0 d) (k:EnvL H env l):EnvL H env ((t,d)::l)
inductive BoxL (H:Nat→Option Box) (box:List (Nat × Option Box)):List (Nat × Option Box)→Prop where
 | nil:BoxL H box []
 | cons {k:Nat} {B0 B:Box} {l:List (Nat × Option Box)} (hb:Bl box k B0) (h:BoxCv H (some B0) B) (r:BoxL H box l):BoxL H box ((k,some B)::l)
theorem EnvL.cv {H:Nat→Option Box} {env l:List (Nat × D)} (h:EnvL H env l):EnvCv H env l:=by
 induction h with
 | nil=>exact .nil
 | cons hl h _ ih=>exact .cons (by rw [hl.eq];exact h) ih
theorem BoxL.cv {H:Nat→Option Box} {box l:List (Nat × Option Box)} (h:BoxL H box l):BoxesCv H box l:=by
 induction h with
 | nil=>exact .nil
 | cons hl h _ ih=>exact .cons (by rw [hl.eq];exact h) ih
def freeOk (env':List (Nat × D)) (box box':List (Nat × Option Box)):Bool:=
 (envFree (fun k=>(hk box' k).isSome) env' && boxFree (fun k=>(hk box' k).isSome) box') && (box.all fun x=>Nat.ble 1000 x.1 || (hk box' x.1).isSome)
section
variable {ro:Option Nat} {P:Program} {N:Nat} {Q:Post} {c:Code} {env env':List (Nat × D)} {box box':List (Nat × Option Box)} {E:Nat→D} {H:Nat→Option Box}
theorem sub_weak (hE:EnvL (hk box) env env') (hB:BoxL (hk box) box box') (hf:freeOk env' box box'=true):Sub (lk env) (hk box) (lk env') (hk box'):=fun S a w hR=>by
 unfold freeOk at hf
 rw [Bool.and_eq_true] at hf
 exact repS_weak env' box' hE.cv hB.cv hf.1 hf.2 hR
theorem c_for (n:Nat) (I:Nat→List (Nat × D)) (B:Nat→List (Nat × Option Box)) (h0:Sub (lk env) (hk box) (lk (I 0)) (hk (B 0)))
  (hr:∀ j,j≤n→AWp ro P N c (lk (I j)) (hk (B j)) (AThen (fun E H=>j<n∧Sub E H (lk (I (j+1))) (hk (B (j+1)))) Q)):AWp ro P N (.loop c) (lk env) (hk box) Q:=by
 refine awp_loop (fun m E H=>∃ j,m=n - j∧j≤n∧Sub E H (lk (I j)) (hk (B j))) n ⟨0,by omega,by omega,h0⟩ (fun m E H ⟨j,hm,hj,hs⟩ S a w hN hR=>?_)
 refine wpIn_mono (hr j hj S a w hN (hs S a w hR)) (fun e a' w' ⟨E',H',h1,h2⟩=>?_)
 cases e with
 | normal=>obtain ⟨g1,g2⟩:=h1;exact ⟨E',H',⟨n - (j+1),by omega,j+1,rfl,by omega,g2⟩,h2⟩
 | _=>exact ⟨E',H',h1,h2⟩
theorem c_while {α:Type} (μ:α→Nat) (ok:α→Prop) (I:α→List (Nat × D)) (B:α→List (Nat × Option Box)) (x0:α) (hx:ok x0) (h0:Sub (lk env) (hk box) (lk (I x0)) (hk (B x0)))
  (hr:∀ x,ok x→AWp ro P N c (lk (I x)) (hk (B x)) (AThen (fun E H=>∃ y,ok y∧μ y<μ x∧Sub E H (lk (I y)) (hk (B y))) Q)):AWp ro P N (.loop c) (lk env) (hk box) Q:=by
 refine awp_loop (fun m E H=>∃ x,m=μ x∧ok x∧Sub E H (lk (I x)) (hk (B x))) (μ x0) ⟨x0,rfl,hx,h0⟩ (fun m E H ⟨x,hm,hj,hs⟩ S a w hN hR=>?_)
 refine wpIn_mono (hr x hj S a w hN (hs S a w hR)) (fun e a' w' ⟨E',H',h1,h2⟩=>?_)
 cases e with
 | normal=>obtain ⟨y,k1,k2,k3⟩:=h1;exact ⟨E',H',⟨μ y,by omega,y,rfl,k1,k3⟩,h2⟩
 | _=>exact ⟨E',H',h1,h2⟩
def dstsOf:Code→List Nat
 | .region _ ops _=>ops.toList.filterMap (·.dst)
 | .seq a b=>dstsOf a++dstsOf b
 | .cond _ a b=>dstsOf a++dstsOf b
 | .block _ b=>dstsOf b
 | .loop b=>dstsOf b
 | .scope b=>dstsOf b
 | .rangeFunc _ ps a b=>ps.toList++dstsOf a++dstsOf b
 | _=>[]
def inN (l:List Nat) (t:Nat):Bool:=l.any (Nat.beq t)
inductive KeepE:List Nat→List (Nat × D)→List (Nat × D)→Prop where
 | nil {ts:List Nat}:KeepE ts [] []
 | drop {ts:List Nat} {t:Nat} {d:D} {l l':List (Nat × D)} (h:inN ts t=true) (k:KeepE ts l l'):KeepE ts ((t,d)::l) l'
 | whn {ts:List Nat} {t:Nat} {b:Bool} {d:D} {l l':List (Nat × D)} (k:KeepE (t::ts) l l'):KeepE ts ((t,when b d)::l) l'
 | keep {ts:List Nat} {t:Nat} {d:D} {l l':List (Nat × D)} (k:KeepE (t::ts) l l'):KeepE ts ((t,d)::l) ((t,d)::l')
inductive KeepB:List Nat→List (Nat × Option Box)→List (Nat × Option Box)→Prop where
 | nil {ts:List Nat}:KeepB ts [] []
 | drop {ts:List Nat} {t:Nat} {d:Option Box} {l l':List (Nat × Option Box)} (h:inN ts t=true) (k:KeepB ts l l'):KeepB ts ((t,d)::l) l'
 | keep {ts:List Nat} {t:Nat} {d:Option Box} {l l':List (Nat × Option Box)} (k:KeepB (t::ts) l l'):KeepB ts ((t,d)::l) ((t,d)::l')
inductive AppL {α:Type}:List α→List α→List α→Prop where
 | nil {l:List α}:AppL [] l l
 | cons {x:α} {l k m:List α} (h:AppL l k m):AppL (x::l) k (x::m)
theorem sub {env env':List (Nat × D)} {box box':List (Nat × Option Box)} (hE:EnvL (hk box) env env':=by (repeat (first | exact EnvL.nil | (apply EnvL.cons;(focus ((repeat (first | exact Lk.here | apply Lk.there rfl));done));(focus ((first | (with_reducible exact SlotCv.refl _) | (with_reducible exact SlotCv.any _) | exact SlotCv.cvt inferInstance | exact SlotCv.eq (by first | rfl | (congr 2;omega) | (congr 3;omega) | simp [*]));done)))))) (hB:BoxL (hk box) box box':=by (repeat (first | exact BoxL.nil | (apply BoxL.cons;(focus ((repeat (first | exact Bl.here | apply Bl.there rfl));done));(focus (first | exact BoxCv.refl _ | exact BoxCv.gone _)))))) (hf:freeOk env' box box'=true:=by kernel_rfl):Sub (lk env) (hk box) (lk env') (hk box'):=sub_weak hE hB hf
section
variable {ro:Option Nat} {P:Program} {N:Nat} {Q:Post} {c:Code} {env env1:List (Nat × D)} {box box1:List (Nat × Option Box)}
theorem c_up (n:Nat) (I:Nat→List (Nat × D)) (B:Nat→List (Nat × Option Box)) {EE:Nat→List (Nat × D)} {BB:Nat→List (Nat × Option Box)}
  (hr:∀ j,j≤n→AWp ro P N c (lk (EE j)) (hk (BB j)) (AThen (fun E H=>j<n∧Sub E H (lk (EE (j+1))) (hk (BB (j+1)))) Q))
  (h1:autoParam (KeepE (dstsOf c++(I 0).map (·.1)) env env1) aq7._auto_1) (h2:autoParam (KeepB ((B 0).map (·.1)) box box1) aq9._auto_1)
  (h3:autoParam (∀ j,AppL (I j) env1 (EE j)) aq13._auto_1) (h4:autoParam (∀ j,AppL (B j) box1 (BB j)) aq13._auto_1)
  (h0:Sub (lk env) (hk box) (lk (EE 0)) (hk (BB 0)):=by exact sub):AWp ro P N (.loop c) (lk env) (hk box) Q:=c_for n EE BB h0 hr
theorem c_down {α:Type} (μ:α→Nat) (ok:α→Prop) (I:α→List (Nat × D)) (B:α→List (Nat × Option Box)) (x0:α) {EE:α→List (Nat × D)} {BB:α→List (Nat × Option Box)}
  (hr:∀ x,ok x→AWp ro P N c (lk (EE x)) (hk (BB x)) (AThen (fun E H=>∃ y,ok y∧μ y<μ x∧Sub E H (lk (EE y)) (hk (BB y))) Q)) (hx:ok x0)
  (h1:autoParam (KeepE (dstsOf c++(I x0).map (·.1)) env env1) aq7._auto_1) (h2:autoParam (KeepB ((B x0).map (·.1)) box box1) aq9._auto_1)
  (h3:autoParam (∀ x,AppL (I x) env1 (EE x)) aq13._auto_1) (h4:autoParam (∀ x,AppL (B x) box1 (BB x)) aq13._auto_1)
  (h0:Sub (lk env) (hk box) (lk (EE x0)) (hk (BB x0)):=by exact sub):AWp ro P N (.loop c) (lk env) (hk box) Q:=c_while μ ok EE BB x0 hx h0 hr
end
/-! Results -/
inductive Res1 (P:Program) (env:List (Nat × D)) (box:List (Nat × Option Box)):List ResultVar→List D→Prop where
 | nil:Res1 P env box [] []
 | tmp {t:Nat} {d:D} {xs:List ResultVar} {ds:List D} (h:Lk env t d) (k:Res1 P env box xs ds):Res1 P env box (.tmp t::xs) (d::ds)
 | one {t k m e c:Nat} {ty t':TypeId} {l:List D} {d:D} {xs:List ResultVar} {ds:List D} {i:TypeInfo} {dsc:TypeDesc} [hT:TI P ty i dsc] (h:Lk env t (.eptr k m e c)) (he:e*m=0) (hb:Bl box k (.lit t' l)) (hg:isAggD dsc=false) (ha:At l c d) (r:Res1 P env box xs ds):Res1 P env box (.cell t ty::xs) (d::ds)
 | agg {t k m e c:Nat} {ty t':TypeId} {l l':List D} {xs:List ResultVar} {ds:List D} {i:TypeInfo} {dsc:TypeDesc} [hT:TI P ty i dsc] (h:Lk env t (.eptr k m e c)) (he:e*m=0) (hb:Bl box k (.lit t' l)) (hg:isAggD dsc=true) (ha:Sg l c i.size l') (r:Res1 P env box xs ds):Res1 P env box (.cell t ty::xs) (.agg l'::ds)
theorem Res1.is {xs:List ResultVar} {ds:List D} (h:Res1 P env box xs ds):ResL P (lk env) (hk box) xs ds:=by
 induction h with
 | nil=>trivial
 | tmp h _ ih=>exact ⟨h.eq,ih⟩
 | one h he hb hg ha _ ih=>exact ⟨⟨_,_,_,_,_,_,_,_,h.eq,he,hb.eq,ld_one hg,ble_of (by have:=ha.spec.1;omega),(ldD_at ha).symm⟩,ih⟩
 | agg h he hb hg ha _ ih=>exact ⟨⟨_,_,_,_,_,_,_,_,h.eq,he,hb.eq,ld_agg hg,ble_of ha.seg.2,(ldD_sg ha).symm⟩,ih⟩
theorem p_fin {fn:Func} {r d:D} {ds:List D} (hr:Res1 P env box fn.results.toList ds) (hd:resD ds=d) (hc:CvV false [] (box.map (·.1)) (hk box) d r):Fin P fn r [] [] (lk env) (hk box):=by
 refine ⟨ds,hr.is,fun S a w Z i v hF hv=>?_,fun k B hm=>by cases hm⟩
 subst hd
 refine ((hc _ (fun _ _=>rfl) S _ a w Z i v hF (fun k hk=>by cases hk) hv).mem (Z':=Z) (fun o b hz=>⟨?_,rfl⟩)).of_noN
 rcases hz with q | ⟨q,_⟩
 ·exact q
 ·cases q
end
theorem cv {lend:Bool} {L ns:List Nat} {box:List (Nat × Option Box)} {d d':D} (h:autoParam (CvV lend L ns (hk box) d d') aq6._auto_1):CvV lend L ns (hk box) d d':=h
section
variable {ro:Option Nat} {P:Program} {N:Nat} {Q:Post} {c:Code} {env:List (Nat × D)} {box:List (Nat × Option Box)} {fn:Func} {r:D} {hs rs:Hs} {E2:Nat→D} {H2:Nat→Option Box}
theorem fin_frz (k:Nat) {t:TypeId} {l:List D} (h:FinS P fn r hs rs (lk env) (hk ((k,some (.ice t 1 l.length (fun _=>l)))::box))) (hb:autoParam (Bl box k (.lit t l)) aq5._auto_1) (h100:Nat.ble 1000 k=true:=by rfl) (hfr:D.free.freeL (fun _=>false) l=true:=by rfl):FinS P fn r hs rs (lk env) (hk box):=h.sub (sub_frz k hb.eq h100 hfr)
theorem fin_freeze (k:Nat) {t:TypeId} {n m:Nat} {f:Nat→List D} (h:FinS P fn r hs rs (lk env) (hk ((k,some (.ice t n m f))::box))) (hb:autoParam (Bl box k (.arr t n m f)) aq5._auto_1) (h100:Nat.ble 1000 k=true:=by rfl):FinS P fn r hs rs (lk env) (hk box):=h.sub (sub_freeze k hb.eq h100)
theorem c_freeze (k:Nat) {t:TypeId} {n m:Nat} {f:Nat→List D} (h:AWp ro P N c (lk env) (hk ((k,some (.ice t n m f))::box)) Q) (hb:autoParam (Bl box k (.arr t n m f)) aq5._auto_1) (h100:Nat.ble 1000 k=true:=by rfl):AWp ro P N c (lk env) (hk box) Q:=awp_sub (sub_freeze k hb.eq h100) h
theorem c_nilcell (kb cc k:Nat) (tt:TypeId) (m:Nat) (f:Nat→List D) {tb:TypeId} {ds ds':List D} (h:AWp ro P N c (lk env) (hk ((kb,some (.lit tb ds'))::(k,some (.arr tt 0 m f))::box)) Q) (hl:autoParam (Bl box kb (.lit tb ds)) aq5._auto_1) (hds:At ds cc (.val (.slice none 0 0)):=by (repeat (first | exact At.here | apply At.there))) (hp:PutL ds cc [.sl k m 0] ds':=by (repeat (first | exact PutL.nil | apply PutL.cons | apply PutL.skip))) (hb:hk box k=none:=by rfl) (h100:Nat.ble 1000 k=true:=by rfl):AWp ro P N c (lk env) (hk box) Q:=
 awp_sub (sub_nilcell kb cc k tt m f hl.eq hds.spec.2 hp.set.1 (blt_of hds.spec.1) hb h100) h
theorem c_nil (t k:Nat) (tt:TypeId) (m:Nat) (f:Nat→List D) (h:AWp ro P N c (lk ((t,.sl k m 0)::env)) (hk ((k,some (.arr tt 0 m f))::box)) Q) (ht:autoParam (Lk env t (.val (.slice none 0 0))) aq10._auto_1) (hb:hk box k=none:=by rfl) (h100:Nat.ble 1000 k=true:=by rfl):AWp ro P N c (lk env) (hk box) Q:=awp_sub (sub_nil t k tt m f ht.eq hb h100) h
theorem c_slot (t:Nat) (d:D) {d0:D} (h:AWp ro P N c (lk ((t,d)::env)) (hk box) Q) (ht:autoParam (Lk env t d0) aq10._auto_1) (hc:autoParam (CvV false [] (box.map (·.1)) (hk box) d0 d) aq6._auto_1):AWp ro P N c (lk env) (hk box) Q:=awp_sub (sub_conv t d ht.eq (.ice hc)) h
end
theorem fin {P:Program} {env:List (Nat × D)} {box:List (Nat × Option Box)} {fn:Func} {r d:D} {ds:List D} (hc:CvV false [] (box.map (·.1)) (hk box) d r)
  (hr:autoParam (Res1 P env box fn.results.toList ds) aq4._auto_1)
  (hd:resD ds=d:=by rfl):FinS P fn r [] [] (lk env) (hk box):=⟨_,_,Sub.refl _ _,p_fin hr hd hc⟩
inductive BoxAll (box:List (Nat × Option Box)):Hs→Prop where
 | nil:BoxAll box []
 | cons {k:Nat} {B:Box} {hs:Hs} (h:Bl box k B) (hm:B.mut=true) (hf:B.free (fun _=>false)=true) (r:BoxAll box hs):BoxAll box ((k,B)::hs)
theorem BoxAll.at {box:List (Nat × Option Box)} {hs:Hs} (h:BoxAll box hs):∀ k B,(k,B)∈hs→hk box k=some B∧B.mut=true∧B.free (fun _=>false)=true:=by
 induction h with
 | nil=>intro k B h;cases h
 | cons h hm hf _ ih=>
  intro k B hkB
  rcases List.mem_cons.1 hkB with e | e
  ·cases e;exact ⟨h.eq,hm,hf⟩
  ·exact ih k B e

section
variable {P:Program} {N:Nat} {o:Oper} {E:Nat→D} {H:Nat→Option Box}
theorem loc_buildSlice0 {t el:TypeId} {k m:Nat} {f:Nat→List D} {info info':TypeInfo} {d':TypeDesc} (ho:o.op = .buildSlice t 0 #[]) (hd:dstLt o N=true) [hT:TI P t info (.slice el)] [hT':TI P el info' d'] :
  Loc P N o E H ⟨[],o.dst,.sl k m 0,[(k,some (.arr el 0 m f))],[k]⟩:=
 loc_new (by simp [ho]) hd rfl (fun E1 H1 S Z i a w hF hA hN=>by
  have s1:(sizeOf el).run P w = .ok info'.size w:=by simp [sizeOf,typeInfo,hT'.info,Result.andThen]
  refine ⟨.slice (some ⟨w.heap.size,0,none⟩) 0 0,.cells #[] el (0,0),0,?_,fun w' h1' hb' hlt i' h2=>⟨#[],hb',by show 0=0*m;simp,Nat.le_refl _,fun e he=>by omega,fun e c he=>by omega⟩,fun w' i' hi=>.sl _ _ _ _ _ hi (Nat.le_refl _) (by show 0≤_;omega)⟩
  have hr:(Instr.buildSlice t 0 #[]).run P w = .ok (.slice (some ⟨w.heap.size,0,none⟩) 0 0) (w.alloc (.cells #[] el (0,0))):=by
   unfold Instr.buildSlice
   simp only [Sem.run_bind,run_underlying hT.under,Result.andThen,s1]
   rw [if_neg (by simp),if_pos (by simp)]
   simp only [Sem.run_bind,pure_bind,Result.andThen,Sem.run_pure]
   rw [show Array.map (fun x=>(#[]:Array Value)[x % (#[]:Array Value).size]!) (Array.range (0*info'.size))=#[] by simp]
   rfl
  simp only [execOp,ho]
  simp only [List.map_toArray,List.map_nil,Array.map_empty]
  rw [Sem.run_bind,hr];rfl)
end
section
variable {ro:Option Nat} {P:Program} {N:Nat} {Q:Post} {ops:Array Oper} {rest:List Oper} {env:List (Nat × D)} {box:List (Nat × Option Box)} {done:List Rec} {K:List Rec→List (Nat × D)→List (Nat × Option Box)→Prop} {d:Nat} {ty:TypeId} {pos:String} {aft:Array Edge}
theorem r_bsl0 (m:Nat) (f:Nat→List D) {t el:TypeId} {info info':TypeInfo} {d':TypeDesc} [hT:TI P t info (.slice el)] [hT':TI P el info' d'] (h:RunK P N ops rest ((d,.sl (1000+d) m 0)::env) ((1000+d,some (.arr el 0 m f))::box) (done++[⟨[],some d,.sl (1000+d) m 0,[(1000+d,some (.arr el 0 m f))],[1000+d]⟩]) K) (hd:Nat.blt d (fsz N)=true:=by rfl):RunK P N ops (⟨some d,.buildSlice t 0 #[],ty,pos,aft,none⟩::rest) env box done K:=
 run_put (ws:=[(1000+d,some (.arr el 0 m f))]) (fresh:=[1000+d]) (loc_buildSlice0 rfl hd) rfl h
end
theorem gor {G G':Prop} (g:G') (h:Back G' G:=by ((repeat (apply Back.step;(focus (first | (intro h;exact go1 h) | ((with_reducible apply g_T);rfl;(focus ((repeat (first | (with_reducible exact Lk.here) | apply Lk.there rfl));done))) | ((with_reducible apply g_F);rfl;(focus ((repeat (first | (with_reducible exact Lk.here) | apply Lk.there rfl));done));rfl;rfl) | ((with_reducible apply g_M);rfl;(focus ((repeat (first | (with_reducible exact Lk.here) | apply Lk.there rfl));done));rfl;(focus (((intro hb;refine go1 ?_;exact run_fin rfl));done))) | ((with_reducible refine c_end ?_);kernel_rfl)))));exact Back.refl)):G:=h.go g


def renE (r:Nat→Nat):List (Nat × D)→List (Nat × D)
 | []=>[]
 | (t,d)::l=>(t,d.ren r)::renE r l
def renB (r:Nat→Nat):List (Nat × Option Box)→List (Nat × Option Box)
 | []=>[]
 | (k,B)::l=>(r k,B.map (Box.ren r))::renB r l
theorem renE_at {r:Nat→Nat}:∀ (l:List (Nat × D)) (t:Nat),lk (renE r l) t=(lk l t).ren r
 | [],_=>rfl
 | (s,d)::l,t=>by
  simp only [renE,lk]
  cases Nat.beq s t
  ·exact renE_at l t
  ·rfl
theorem renB_at {r s:Nat→Nat}:∀ (l:List (Nat × Option Box)),(∀ x,x∈l→s (r x.1)=x.1)→∀ k,hk (renB r l) k=if r (s k)=k then (hk l (s k)).map (Box.ren r) else none
 | [],_,k=>by simp [renB,hk]
 | (x,B)::l,h,k=>by
  have hx:s (r x)=x:=h (x,B) (by simp)
  have ih:=renB_at l (fun y hy=>h y (by simp [hy])) k
  simp only [renB,hk]
  by_cases q:r x=k
  ·subst q
   have e1:Nat.beq (r x) (r x)=true:=by simp
   have e2:Nat.beq x x=true:=by simp
   simp only [e1,hx,e2,if_true]
  ·rw [beq_ne q]
   simp only []
   rw [ih]
   by_cases q2:r (s k)=k
   ·rw [if_pos q2,if_pos q2]
    have:x≠s k:=fun e=>q (by rw [e];exact q2)
    rw [beq_ne this]
   ·rw [if_neg q2,if_neg q2]
open Classical in
noncomputable def nmR (r s:Nat→Nat) (i:Nm):Nm:=fun x=>if r (s x)=x then i (s x) else none
theorem Box.ren_nil {r:Nat→Nat} {B:Box} (h:B = .gone∨(∃ t m f,B = .arr t 0 m f∨B = .ice t 0 m f)∨∃ t t2 m2 n2 g,B = .mat t t2 0 0 m2 n2 g):B.ren r = .gone∨(∃ t m f,B.ren r = .arr t 0 m f∨B.ren r = .ice t 0 m f)∨∃ t t2 m2 n2 g,B.ren r = .mat t t2 0 0 m2 n2 g:=by
 rcases h with rfl | ⟨t,m,f,rfl | rfl⟩ | ⟨t,t2,m2,n2,g,rfl⟩
 ·exact .inl rfl
 ·exact .inr (.inl ⟨t,m,f,.inl rfl⟩)
 ·exact .inr (.inl ⟨t,m,f,.inr rfl⟩)
 ·exact .inr (.inr ⟨t,t2,m2,n2,g,rfl⟩)
section
variable {S:Cx} {env:List (Nat × D)} {box:List (Nat × Option Box)} {Z:Zn} {i:Nm} {a:Act} {w:World} {r s:Nat→Nat}
structure Two (r s:Nat→Nat) (box:List (Nat × Option Box)):Prop where
 low:∀ k,k<1000→r k=k
 back:∀ x,x∈box→s (r x.1)=x.1
theorem hk_mem:∀ {box:List (Nat × Option Box)} {k:Nat},hk box k≠none→∃ x,x∈box∧x.1=k
 | [],k,h=>absurd rfl h
 | (x,B)::l,k,h=>by
  simp only [hk] at h
  by_cases q:x=k
  ·exact ⟨(x,B),by simp,q⟩
  ·rw [beq_ne q] at h
   obtain ⟨y,h1,h2⟩:=hk_mem h
   exact ⟨y,by simp [h1],h2⟩
theorem Two.at (h:Two r s box) {k:Nat} (hk':hk box k≠none):s (r k)=k:=by
 obtain ⟨x,h1,rfl⟩:=hk_mem hk'
 exact h.back x h1
theorem Fits.alive (h:Fits S (lk env) (hk box) Z i a w) {k:Nat} {x:Option (Nat × Cp)} (e:i k=some x):hk box k≠none:=fun q=>by rw [h.nil k q] at e;cases e
theorem Fits.nmR_at (h:Fits S (lk env) (hk box) Z i a w) (hr:Two r s box) {k:Nat} {x:Option (Nat × Cp)} (e:i k=some x):nmR r s i (r k)=some x:=by
 have:=hr.at (h.alive e)
 unfold nmR
 rw [this,if_pos rfl];exact e
end


def zipE:List Nat→List D→List (Nat × D)
 | t::ts,d::ds=>(t,d)::zipE ts ds
 | _,_=>[]
section
variable {P:Program} {N:Nat} {Q:Post} {env:List (Nat × D)} {box:List (Nat × Option Box)} {r s:Nat→Nat}
end
end Go.Proofs.YtdcenblblimkfaaGreat
