/- The driver: one step for each kind of operation, its premises found by looking. No walk. -/
import Derived.Test.YtdcenblblimkfaaGreatPn11
set_option linter.unusedSimpArgs false
set_option linter.unusedVariables false
set_option linter.unnecessarySimpa false
set_option linter.unusedSectionVars false
namespace Go.Proofs.YtdcenblblimkfaaGreat
open Go.RowKit

inductive Lk:List (Nat × D)→Nat→D→Prop where
 | here {t:Nat} {d:D} {l:List (Nat × D)}:Lk ((t,d)::l) t d
 | there {s t:Nat} {d d':D} {l:List (Nat × D)} (h:Nat.beq s t=false) (k:Lk l t d):Lk ((s,d')::l) t d
theorem Lk.eq {l:List (Nat × D)} {t:Nat} {d:D} (h:Lk l t d):lk l t=d:=by
 induction h with
 | here=>simp [lk]
 | there h _ ih=>simp only [lk,h];exact ih
inductive Op1 (env:List (Nat × D)):Operand→D→Prop where
 | tmp {t:Nat} {d:D} (h:Lk env t d):Op1 env (.tmp t) d
 | const (v:Value):Op1 env (.const v) (.val v)
 | gl (g:Nat):Op1 env (.global g) (.val (.pointer (some ⟨g,0,none⟩)))
 | fn (f:FuncId):Op1 env (.func f) (.val (.func (.func f) #[] #[]))
 | whn {x:Operand} {b:Bool} {d:D} (h:Op1 env x (when b d)) (hb:b=true):Op1 env x d
 | wha {x:Operand} {b c:Bool} {d:D} (h:Op1 env x (when (b && c) d)) (hb:b=true):Op1 env x (when c d)
theorem Op1.opd {env:List (Nat × D)} {x:Operand} {d:D} (h:Op1 env x d):Opd (lk env) x d:=by
 induction h with
 | tmp h=>exact h.eq
 | const=>rfl
 | gl=>rfl
 | fn=>rfl
 | whn _ hb ih=>subst hb;exact ih
 | wha _ hb ih=>subst hb;rw [Bool.true_and] at ih;exact ih
inductive Op1L (env:List (Nat × D)):List Operand→List D→Prop where
 | nil:Op1L env [] []
 | cons {x:Operand} {d:D} {xs:List Operand} {ds:List D} (h:Op1 env x d) (k:Op1L env xs ds):Op1L env (x::xs) (d::ds)
theorem Op1L.opd {env:List (Nat × D)} {xs:List Operand} {ds:List D} (h:Op1L env xs ds):OpdL (lk env) xs ds:=by
 induction h with
 | nil=>trivial
 | cons h _ ih=>exact ⟨h.opd,ih⟩
inductive Op1P (env:List (Nat × D)):List (Nat × Operand)→List (Nat × D)→Prop where
 | nil:Op1P env [] []
 | cons {j:Nat} {x:Operand} {d:D} {xs:List (Nat × Operand)} {ds:List (Nat × D)} (h:Op1 env x d) (k:Op1P env xs ds):Op1P env ((j,x)::xs) ((j,d)::ds)
theorem Op1P.opd {env:List (Nat × D)} {xs:List (Nat × Operand)} {ds:List (Nat × D)} (h:Op1P env xs ds):OpdP (lk env) xs ds:=by
 induction h with
 | nil=>trivial
 | cons h _ ih=>exact ⟨rfl,h.opd,ih⟩
inductive Op1O (env:List (Nat × D)):Option Operand→Nat→Nat→Prop where
 | none (n:Nat):Op1O env none n n
 | some {x:Operand} {k:IntKind} {z:Int} {l n:Nat} (h:Op1 env x (.val (.int k z))) (hz:NatIs z l):Op1O env (some x) l n
theorem Op1O.opt {env:List (Nat × D)} {x:Option Operand} {l n:Nat} (h:Op1O env x l n):OptIs (lk env) x l n:=by
 cases h with
 | none=>rfl
 | @some x k z l n h hz=>obtain rfl:=hz;exact ⟨k,h.opd⟩
inductive Bl:List (Nat × Option Box)→Nat→Box→Prop where
 | here {k:Nat} {B:Box} {l:List (Nat × Option Box)}:Bl ((k,some B)::l) k B
 | there {s k:Nat} {B:Box} {B':Option Box} {l:List (Nat × Option Box)} (h:Nat.beq s k=false) (r:Bl l k B):Bl ((s,B')::l) k B
theorem Bl.eq {l:List (Nat × Option Box)} {k:Nat} {B:Box} (h:Bl l k B):hk l k=some B:=by
 induction h with
 | here=>simp [hk]
 | there h _ ih=>simp only [hk,h];exact ih
inductive Ba:List (Nat × Option Box)→Nat→Nat→Nat→(Nat→List D)→Prop where
 | arr {l:List (Nat × Option Box)} {k n m:Nat} {t:TypeId} {f:Nat→List D} (h:Bl l k (.arr t n m f)):Ba l k n m f
 | ice {l:List (Nat × Option Box)} {k n m:Nat} {t:TypeId} {f:Nat→List D} (h:Bl l k (.ice t n m f)):Ba l k n m f
theorem Ba.is {l:List (Nat × Option Box)} {k n m:Nat} {f:Nat→List D} (h:Ba l k n m f):isArr (hk l k) n m f:=by
 cases h with
 | arr h=>exact ⟨_,.inl h.eq⟩
 | ice h=>exact ⟨_,.inr h.eq⟩
inductive At:List D→Nat→D→Prop where
 | here {d:D} {l:List D}:At (d::l) 0 d
 | there {d d':D} {l:List D} {c:Nat} (h:At l c d):At (d'::l) (c+1) d
theorem At.spec {l:List D} {c:Nat} {d:D} (h:At l c d):c<l.length∧dl l c=d:=by
 induction h with
 | here=>exact ⟨by simp,rfl⟩
 | there _ ih=>exact ⟨by simpa using ih.1,ih.2⟩
theorem At.seg {l:List D} {c:Nat} {d:D} (h:At l c d):takeL 1 (dropL c l)=[d]:=by
 induction h with
 | here=>rfl
 | there _ ih=>exact ih
inductive Sg:List D→Nat→Nat→List D→Prop where
 | nil {l:List D}:Sg l 0 0 []
 | take {d:D} {l l':List D} {n:Nat} (h:Sg l 0 n l'):Sg (d::l) 0 (n+1) (d::l')
 | drop {d:D} {l l':List D} {c n:Nat} (h:Sg l c n l'):Sg (d::l) (c+1) n l'
theorem Sg.seg {l:List D} {c n:Nat} {l':List D} (h:Sg l c n l'):takeL n (dropL c l)=l'∧c+n≤l.length:=by
 induction h with
 | nil=>exact ⟨rfl,by simp⟩
 | take _ ih=>exact ⟨by simp only [dropL,takeL] at ih ⊢;rw [ih.1],by have:=ih.2;simp only [List.length_cons];omega⟩
 | drop _ ih=>exact ⟨ih.1,by have:=ih.2;simp only [List.length_cons];omega⟩
inductive PutL:List D→Nat→List D→List D→Prop where
 | nil {l:List D}:PutL l 0 [] l
 | cons {d x:D} {l l' xs:List D} (h:PutL l 0 xs l'):PutL (d::l) 0 (x::xs) (x::l')
 | skip {d:D} {l l' xs:List D} {c:Nat} (h:PutL l c xs l'):PutL (d::l) (c+1) xs (d::l')
theorem PutL.set {l:List D} {c:Nat} {xs l':List D} (h:PutL l c xs l'):setL l c xs=l'∧c+xs.length≤l.length:=by
 induction h with
 | nil=>exact ⟨by simp [setL,takeL,dropL],by simp⟩
 | cons _ ih=>
  refine ⟨?_,by have:=ih.2;simp only [List.length_cons];omega⟩
  have:=ih.1
  simp only [setL,takeL,List.nil_append,Nat.zero_add] at this ⊢
  simp only [List.length_cons,dropL,List.cons_append]
  rw [this]
 | @skip d l l' xs c _ ih=>
  refine ⟨?_,by have:=ih.2;simp only [List.length_cons];omega⟩
  have:=ih.1
  simp only [setL,takeL,List.cons_append] at this ⊢
  rw [show c+1+xs.length=(c+xs.length)+1 by omega]
  simp only [dropL]
  rw [this]
inductive SrcB (box:List (Nat × Option Box)):D→Nat→Nat→(Nat→List D)→List Nat→Prop where
 | fz (q:Bool) (j m:Nat) (g:Nat→List D):SrcB box (.fz q j m g) j m g []
 | sl {k n j m:Nat} {g:Nat→List D} (h:Ba box k n m g) (hj:j≤n):SrcB box (.sl k m j) j m g [k]
 | nil (m:Nat) (g:Nat→List D):SrcB box (.val (.slice none 0 0)) 0 m g []
theorem SrcB.is {box:List (Nat × Option Box)} {d:D} {j m:Nat} {g:Nat→List D} {ks:List Nat} (h:SrcB box d j m g ks):SrcIs (hk box) d j m g ks:=by
 cases h with
 | fz=>exact .fz _ _ _ _
 | sl h hj=>exact .sl h.is hj
 | nil=>exact .nil _ _
theorem ble_of {a b:Nat} (h:a≤b):Nat.ble a b=true:=Nat.ble_eq_true_of_le h
theorem blt_of {a b:Nat} (h:a<b):Nat.blt a b=true:=Nat.ble_eq_true_of_le h
theorem bytes_le {n b:Nat} (h:Nat.ble b 256=true) (hn:n≤549755813888):n*b≤140737488355328:=by
 have:=Nat.le_of_ble_eq_true h
 calc n*b≤n*256:=Nat.mul_le_mul_left _ this
  _≤_:=by omega
structure Back (G' G:Prop):Prop where
 go:G'→G
theorem Back.refl {G:Prop}:Back G G:=⟨id⟩
theorem Back.step {G' X G:Prop} (f:X→G) (h:Back G' X):Back G' G:=⟨fun g=>f (h.go g)⟩
section
variable {ro:Option Nat} {P:Program} {N:Nat} {Q:Post} {ops:Array Oper} {rest:List Oper} {env:List (Nat × D)} {box:List (Nat × Option Box)} {done:List Rec} {K:List Rec→List (Nat × D)→List (Nat × Option Box)→Prop} {d:Nat} {ty:TypeId} {pos:String} {aft:Array Edge}
theorem r_move {x:Operand} {r:D}  (hx:Op1 env x r) (hd:Nat.blt d (fsz N)=true) (h:RunK P N ops rest ((d,r)::env) box (done++[⟨[],some d,r,[],[]⟩]) K):RunK P N ops (⟨some d,.move x,ty,pos,aft,none⟩::rest) env box done K:=
 run_put (ws:=[]) (fresh:=[]) (loc_move (.inl rfl) hd hx.opd) rfl h
theorem r_assign {x:Operand} {r:D}  (hx:Op1 env x r) (hd:Nat.blt d (fsz N)=true) (h:RunK P N ops rest ((d,r)::env) box (done++[⟨[],some d,r,[],[]⟩]) K):RunK P N ops (⟨some d,.assign x,ty,pos,aft,none⟩::rest) env box done K:=
 run_put (ws:=[]) (fresh:=[]) (loc_move (.inr rfl) hd hx.opd) rfl h
theorem ld_one {t:TypeId} {i:TypeInfo} {e:TypeDesc} [hT:TI P t i e] (ha:isAggD e=false):LoadIs P t 1 false:=by have:=LoadIs.mk (P:=P) (t:=t);rw [ha] at this;exact this
theorem ld_agg {t:TypeId} {i:TypeInfo} {e:TypeDesc} [hT:TI P t i e] (ha:isAggD e=true):LoadIs P t i.size true:=by have:=LoadIs.mk (P:=P) (t:=t);rw [ha] at this;exact this
theorem pt_one {t:TypeId} {i:TypeInfo} {e:TypeDesc} [hT:TI P t i e] (ha:isAggD e=false):PartIs P t 1 false:=by have:=PartIs.mk (P:=P) (t:=t);rw [ha] at this;exact this
theorem pt_agg {t:TypeId} {i:TypeInfo} {e:TypeDesc} [hT:TI P t i e] (ha:isAggD e=true):PartIs P t i.size true:=by have:=PartIs.mk (P:=P) (t:=t);rw [ha] at this;exact this
theorem ldD_at {ds:List D} {c:Nat} {r:D} (h:At ds c r):ldD false (takeL 1 (dropL c ds))=r:=by rw [h.seg];rfl
theorem ldD_at0 {ds:List D} {r:D} (h:At ds 0 r):ldD false (takeL 1 ds)=r:=ldD_at h
theorem ldD_sg {ds:List D} {c n:Nat} {l:List D} (h:Sg ds c n l):ldD true (takeL n (dropL c ds)) = .agg l:=by rw [h.seg.1];rfl
theorem ldD_sg0 {ds:List D} {n:Nat} {l:List D} (h:Sg ds 0 n l):ldD true (takeL n ds) = .agg l:=ldD_sg h
theorem r_ld1 {x:Operand} {t t':TypeId} {k m e c:Nat} {ds:List D} {r:D} {i:TypeInfo} {dsc:TypeDesc} [hT:TI P t i dsc] (hx:Op1 env x (.eptr k m e c)) (he:e*m=0) (hb:Bl box k (.lit t' ds)) (ha:At ds c r) (hg:isAggD dsc=false) (hd:Nat.blt d (fsz N)=true) (h:RunK P N ops rest ((d,r)::env) box (done++[⟨[k],some d,r,[],[]⟩]) K):RunK P N ops (⟨some d,.load t x,ty,pos,aft,none⟩::rest) env box done K:=
 run_put (ws:=[]) (fresh:=[]) (ldD_at ha▸loc_load_lit rfl hd (ld_one hg) hx.opd he hb.eq (ble_of (by have:=ha.spec.1;omega))) rfl h
theorem r_ldA {x:Operand} {t t':TypeId} {k m e c:Nat} {ds l:List D} {i:TypeInfo} {dsc:TypeDesc} [hT:TI P t i dsc] (hx:Op1 env x (.eptr k m e c)) (he:e*m=0) (hb:Bl box k (.lit t' ds)) (ha:Sg ds c i.size l) (hg:isAggD dsc=true) (hd:Nat.blt d (fsz N)=true) (h:RunK P N ops rest ((d,.agg l)::env) box (done++[⟨[k],some d,.agg l,[],[]⟩]) K):RunK P N ops (⟨some d,.load t x,ty,pos,aft,none⟩::rest) env box done K:=
 run_put (ws:=[]) (fresh:=[]) (ldD_sg ha▸loc_load_lit rfl hd (ld_agg hg) hx.opd he hb.eq (ble_of ha.seg.2)) rfl h
theorem r_la1 {x:Operand} {t:TypeId} {k m e c n:Nat} {f:Nat→List D} {r:D} {i:TypeInfo} {dsc:TypeDesc} [hT:TI P t i dsc] (hx:Op1 env x (.eptr k m e c)) (hb:Ba box k n m f) (ha:At (f e) c r) (hg:isAggD dsc=false) (hc:Nat.ble (c+1) m=true) (he:e<n) (hd:Nat.blt d (fsz N)=true) (h:RunK P N ops rest ((d,r)::env) box (done++[⟨[k],some d,r,[],[]⟩]) K):RunK P N ops (⟨some d,.load t x,ty,pos,aft,none⟩::rest) env box done K:=
 run_put (ws:=[]) (fresh:=[]) (ldD_at ha▸loc_load_arr rfl hd (ld_one hg) hx.opd hb.is hc he) rfl h
theorem r_lf1 {x:Operand} {t:TypeId} {q:Bool} {l:List D} {r:D} {i:TypeInfo} {dsc:TypeDesc} [hT:TI P t i dsc] (hx:Op1 env x (.fptr q l)) (ha:At l 0 r) (hg:isAggD dsc=false) (hd:Nat.blt d (fsz N)=true) (h:RunK P N ops rest ((d,r)::env) box (done++[⟨[],some d,r,[],[]⟩]) K):RunK P N ops (⟨some d,.load t x,ty,pos,aft,none⟩::rest) env box done K:=
 run_put (ws:=[]) (fresh:=[]) (ldD_at0 ha▸loc_load_fz rfl hd (ld_one hg) hx.opd ha.spec.1) rfl h
theorem r_lfA {x:Operand} {t:TypeId} {q:Bool} {l l':List D} {i:TypeInfo} {dsc:TypeDesc} [hT:TI P t i dsc] (hx:Op1 env x (.fptr q l)) (ha:Sg l 0 i.size l') (hg:isAggD dsc=true) (hd:Nat.blt d (fsz N)=true) (h:RunK P N ops rest ((d,.agg l')::env) box (done++[⟨[],some d,.agg l',[],[]⟩]) K):RunK P N ops (⟨some d,.load t x,ty,pos,aft,none⟩::rest) env box done K:=
 run_put (ws:=[]) (fresh:=[]) (ldD_sg0 ha▸loc_load_fz rfl hd (ld_agg hg) hx.opd (by have:=ha.seg.2;omega)) rfl h
class FT (P:Program) (s:TypeId) (fi:Nat) (off:outParam Nat):Prop where
 ft:FieldIs P s fi off
class FV (P:Program) (s:TypeId) (fi:Nat) (off n:outParam Nat) (ag:outParam Bool):Prop where
 fv:∃ info fs fl,TI P s info (.struct fs)∧fs[fi]? = some fl∧fl.offset=off∧PartIs P fl.type n ag
class ET (P:Program) (t:TypeId) (m:outParam Nat):Prop where
 et:IndexIs P t m
class AR (P:Program) (t:TypeId) (n m:outParam Nat):Prop where
 ar:IndexArr P t n m
class SZ (P:Program) (t:TypeId) (n:outParam Nat):Prop where
 sz:SizeIs P t n
class BT (P:Program) (t:TypeId) (ps:outParam (List (Nat × Nat))) (zs:outParam (List Value)):Prop where
 bt:∃ info fs ns,TI P t info (.struct fs)∧ZeroIs P t zs∧SizesL P fs.toList ns∧plL fs.toList ns=fun j=>ps[j]?
theorem BT.of {P:Program} {t:TypeId} {ps:List (Nat × Nat)} {zs:List Value} {info:TypeInfo} {e:TypeDesc} {fs:Array Field} {ns:List Nat} (h:TI P t info e) (he:e = .struct fs) (hz:ZeroIs P t zs) (hs:SizesL P fs.toList ns) (hp:∀ j,plL fs.toList ns j=ps[j]?):BT P t ps zs:=⟨info,fs,ns,he▸h,hz,hs,funext hp⟩
class ZR (P:Program) (t:TypeId) (zs:outParam (List Value)):Prop where
 zr:ZeroIs P t zs
theorem r_fld {x:Operand} {s:TypeId} {fi off k m e c:Nat} [hF:FT P s fi off] (hx:Op1 env x (.eptr k m e c)) (hd:Nat.blt d (fsz N)=true) (h:RunK P N ops rest ((d,.eptr k m e (c+off))::env) box (done++[⟨[],some d,.eptr k m e (c+off),[],[]⟩]) K):RunK P N ops (⟨some d,.fieldAddr s x fi,ty,pos,aft,none⟩::rest) env box done K:=
 run_put (ws:=[]) (fresh:=[]) (loc_field rfl hd hF.ft hx.opd) rfl h
inductive Dp:List D→Nat→List D→Prop where
 | nil {l:List D}:Dp l 0 l
 | skip {x:D} {l l':List D} {c:Nat} (h:Dp l c l'):Dp (x::l) (c+1) l'
theorem Dp.eq {l:List D} {c:Nat} {l':List D} (h:Dp l c l'):dropL c l=l':=by
 induction h with
 | nil=>rfl
 | skip _ ih=>exact ih
theorem r_flf {x:Operand} {s:TypeId} {fi off:Nat} {q:Bool} {l l':List D} [hF:FT P s fi off] (hx:Op1 env x (.fptr q l)) (hl:Dp l off l') (hd:Nat.blt d (fsz N)=true) (h:RunK P N ops rest ((d,.fptr q l')::env) box (done++[⟨[],some d,.fptr q l',[],[]⟩]) K):RunK P N ops (⟨some d,.fieldAddr s x fi,ty,pos,aft,none⟩::rest) env box done K:=
 run_put (ws:=[]) (fresh:=[]) (hl.eq▸loc_field_fz rfl hd hF.ft hx.opd) rfl h
theorem loc_fieldFV {o:Oper} {E:Nat→D} {H:Nat→Option Box} {s:TypeId} {x:Operand} {fi off n:Nat} {ag:Bool} {l:List D} (ho:o.op = .field s x fi) (hd:dstLt o N=true) [hV:FV P s fi off n ag] (hx:Opd E x (.agg l)) (hc:off+n≤l.length):Loc P N o E H ⟨[],o.dst,ldD ag (takeL n (dropL off l)),[],[]⟩:=by
 obtain ⟨info,fs,fl,h1,h2,rfl,h4⟩:=hV.fv
 exact loc_fieldV (hT:=h1) ho hd h2 h4 hx (ble_of hc)
theorem r_fv1 {x:Operand} {s:TypeId} {fi off:Nat} {l:List D} {r:D} [hV:FV P s fi off 1 false] (hx:Op1 env x (.agg l)) (ha:At l off r) (hd:Nat.blt d (fsz N)=true) (h:RunK P N ops rest ((d,r)::env) box (done++[⟨[],some d,r,[],[]⟩]) K):RunK P N ops (⟨some d,.field s x fi,ty,pos,aft,none⟩::rest) env box done K:=
 run_put (ws:=[]) (fresh:=[]) (ldD_at ha▸loc_fieldFV rfl hd hx.opd (by have:=ha.spec.1;omega)) rfl h
theorem r_ix {x y:Operand} {t:TypeId} {k m len e:Nat} {kd:IntKind} {z:Int} [hF:ET P t m] (hx:Op1 env x (.sl k m len)) (hy:Op1 env y (.val (.int kd z))) (hz:IdxIs z len e) (hd:Nat.blt d (fsz N)=true) (h:RunK P N ops rest ((d,.eptr k m e 0)::env) box (done++[⟨[],some d,.eptr k m e 0,[],[]⟩]) K):RunK P N ops (⟨some d,.indexAddr t x y,ty,pos,aft,none⟩::rest) env box done K:=
 run_put (ws:=[]) (fresh:=[]) (loc_index rfl hd hF.et hx.opd hy.opd hz) rfl h
theorem r_ixf {x y:Operand} {t:TypeId} {q:Bool} {n m e:Nat} {f:Nat→List D} {kd:IntKind} {z:Int} [hF:ET P t m] (hx:Op1 env x (.fz q n m f)) (hy:Op1 env y (.val (.int kd z))) (hz:IdxIs z n e) (hm:Nat.blt 0 m=true) (hd:Nat.blt d (fsz N)=true) (h:RunK P N ops rest ((d,.fptr q (f e))::env) box (done++[⟨[],some d,.fptr q (f e),[],[]⟩]) K):RunK P N ops (⟨some d,.indexAddr t x y,ty,pos,aft,none⟩::rest) env box done K:=
 run_put (ws:=[]) (fresh:=[]) (loc_index_fz rfl hd hF.et hx.opd hy.opd hm hz) rfl h
theorem r_ixL {x y:Operand} {t:TypeId} {k c n m e:Nat} {kd:IntKind} {z:Int} [hF:AR P t n m] (hx:Op1 env x (.eptr k 0 0 c)) (hy:Op1 env y (.val (.int kd z))) (hz:IdxIs z n e) (hd:Nat.blt d (fsz N)=true) (h:RunK P N ops rest ((d,.eptr k 0 0 (c+e*m))::env) box (done++[⟨[],some d,.eptr k 0 0 (c+e*m),[],[]⟩]) K):RunK P N ops (⟨some d,.indexAddr t x y,ty,pos,aft,none⟩::rest) env box done K:=
 run_put (ws:=[]) (fresh:=[]) (loc_index_arrL rfl hd hF.ar hx.opd hy.opd hz) rfl h
theorem r_ixa {x y:Operand} {t:TypeId} {k m n e:Nat} {kd:IntKind} {z:Int} [hF:AR P t n m] (hx:Op1 env x (.eptr k m 0 0)) (hy:Op1 env y (.val (.int kd z))) (hz:IdxIs z n e) (hd:Nat.blt d (fsz N)=true) (h:RunK P N ops rest ((d,.eptr k m e 0)::env) box (done++[⟨[],some d,.eptr k m e 0,[],[]⟩]) K):RunK P N ops (⟨some d,.indexAddr t x y,ty,pos,aft,none⟩::rest) env box done K:=
 run_put (ws:=[]) (fresh:=[]) (loc_index_arr rfl hd hF.ar hx.opd hy.opd hz) rfl h
theorem r_len {x:Operand} {t el:TypeId} {k m n:Nat} {i:TypeInfo} [hT:TI P t i (.slice el)] (hx:Op1 env x (.sl k m n)) (hd:Nat.blt d (fsz N)=true) (h:RunK P N ops rest ((d,.val (.int .i64 (n:Int)))::env) box (done++[⟨[],some d,.val (.int .i64 (n:Int)),[],[]⟩]) K):RunK P N ops (⟨some d,.call { callee:=.builtin .len,args:=#[x],argTypes:=#[t] },ty,pos,aft,none⟩::rest) env box done K:=
 run_put (ws:=[]) (fresh:=[]) (loc_len rfl hd hx.opd) rfl h
theorem r_lenf {x:Operand} {t el:TypeId} {q:Bool} {m n:Nat} {f:Nat→List D} {i:TypeInfo} [hT:TI P t i (.slice el)] (hx:Op1 env x (.fz q n m f)) (hd:Nat.blt d (fsz N)=true) (h:RunK P N ops rest ((d,.val (.int .i64 (n:Int)))::env) box (done++[⟨[],some d,.val (.int .i64 (n:Int)),[],[]⟩]) K):RunK P N ops (⟨some d,.call { callee:=.builtin .len,args:=#[x],argTypes:=#[t] },ty,pos,aft,none⟩::rest) env box done K:=
 run_put (ws:=[]) (fresh:=[]) (loc_len_fz rfl hd hx.opd) rfl h
theorem r_lens {x:Operand} {t:TypeId} {s:ByteArray} {i:TypeInfo} [hT:TI P t i .string] (hx:Op1 env x (.val (.string s))) (hd:Nat.blt d (fsz N)=true) (h:RunK P N ops rest ((d,.val (.int .i64 (s.size:Int)))::env) box (done++[⟨[],some d,.val (.int .i64 (s.size:Int)),[],[]⟩]) K):RunK P N ops (⟨some d,.call { callee:=.builtin .len,args:=#[x],argTypes:=#[t] },ty,pos,aft,none⟩::rest) env box done K:=
 run_put (ws:=[]) (fresh:=[]) (loc_len_str rfl hd hx.opd) rfl h
theorem r_bin {x y:Operand} {op:BinOp} {t t2:TypeId} {vx vy r:Value}  (hx:Op1 env x (.val vx)) (hy:Op1 env y (.val vy)) (hr:BinR P op t x y vx vy r) (hd:Nat.blt d (fsz N)=true) (h:RunK P N ops rest ((d,.val r)::env) box (done++[⟨[],some d,.val r,[],[]⟩]) K):RunK P N ops (⟨some d,.binOp op t x y t2,ty,pos,aft,none⟩::rest) env box done K:=
 run_put (ws:=[]) (fresh:=[]) (loc_bin rfl hd hx.opd hy.opd hr) rfl h
theorem r_conv {x:Operand} {s t:TypeId} {vx r:Value}  (hx:Op1 env x (.val vx)) (hr:ConR P s t vx r) (hd:Nat.blt d (fsz N)=true) (h:RunK P N ops rest ((d,.val r)::env) box (done++[⟨[],some d,.val r,[],[]⟩]) K):RunK P N ops (⟨some d,.convert s t x,ty,pos,aft,none⟩::rest) env box done K:=
 run_put (ws:=[]) (fresh:=[]) (loc_conv rfl hd hx.opd hr) rfl h
theorem r_un {x:Operand} {op:UnOp} {t:TypeId} {vx r:Value}  (hx:Op1 env x (.val vx)) (hr:UnR P op vx r) (hd:Nat.blt d (fsz N)=true) (h:RunK P N ops rest ((d,.val r)::env) box (done++[⟨[],some d,.val r,[],[]⟩]) K):RunK P N ops (⟨some d,.unOp op t x,ty,pos,aft,none⟩::rest) env box done K:=
 run_put (ws:=[]) (fresh:=[]) (loc_un rfl hd hx.opd hr) rfl h
theorem r_ext {x:Operand} {ix:Nat} {l:List D} {r:D}  (hx:Op1 env x (.tup l)) (ha:At l ix r) (hd:Nat.blt d (fsz N)=true) (h:RunK P N ops rest ((d,r)::env) box (done++[⟨[],some d,r,[],[]⟩]) K):RunK P N ops (⟨some d,.extract x ix,ty,pos,aft,none⟩::rest) env box done K:=
 run_put (ws:=[]) (fresh:=[]) (ha.spec.2▸loc_extract rfl hd hx.opd (blt_of ha.spec.1)) rfl h
theorem r_pickT {c x y:Operand} {r:D}  (hc:Op1 env c (.val (.bool true))) (hx:Op1 env x r) (hd:Nat.blt d (fsz N)=true) (h:RunK P N ops rest ((d,r)::env) box (done++[⟨[],some d,r,[],[]⟩]) K):RunK P N ops (⟨some d,.pick c x y,ty,pos,aft,none⟩::rest) env box done K:=
 run_put (ws:=[]) (fresh:=[]) (loc_pick rfl hd hc.opd (fun _=>hx.opd) (fun h=>by cases h)) rfl h
theorem r_pickF {c x y:Operand} {r:D}  (hc:Op1 env c (.val (.bool false))) (hx:Op1 env y r) (hd:Nat.blt d (fsz N)=true) (h:RunK P N ops rest ((d,r)::env) box (done++[⟨[],some d,r,[],[]⟩]) K):RunK P N ops (⟨some d,.pick c x y,ty,pos,aft,none⟩::rest) env box done K:=
 run_put (ws:=[]) (fresh:=[]) (loc_pick rfl hd hc.opd (fun h=>by cases h) (fun _=>hx.opd)) rfl h
theorem r_and {c x:Operand} {b b':Bool}  (hc:Op1 env c (.val (.bool b))) (hx:Op1 env x (when (b == true) (.val (.bool b')))) (hd:Nat.blt d (fsz N)=true) (h:RunK P N ops rest ((d,.val (.bool (b && b')))::env) box (done++[⟨[],some d,.val (.bool (b && b')),[],[]⟩]) K):RunK P N ops (⟨some d,.pick c x (.const (.bool false)),ty,pos,aft,none⟩::rest) env box done K:=
 run_put (ws:=[]) (fresh:=[]) (loc_and rfl hd hc.opd hx.opd) rfl h
theorem r_or {c x:Operand} {b b':Bool}  (hc:Op1 env c (.val (.bool b))) (hx:Op1 env x (when (b == false) (.val (.bool b')))) (hd:Nat.blt d (fsz N)=true) (h:RunK P N ops rest ((d,.val (.bool (b || b')))::env) box (done++[⟨[],some d,.val (.bool (b || b')),[],[]⟩]) K):RunK P N ops (⟨some d,.pick c (.const (.bool true)) x,ty,pos,aft,none⟩::rest) env box done K:=
 run_put (ws:=[]) (fresh:=[]) (loc_or rfl hd hc.opd hx.opd) rfl h
theorem r_fun {fn:FuncId} {xs:List Operand} {l:List D}  (hx:Op1L env xs l) (hd:Nat.blt d (fsz N)=true) (h:RunK P N ops rest ((d,.clo fn l)::env) box (done++[⟨[],some d,.clo fn l,[],[]⟩]) K):RunK P N ops (⟨some d,.makeFunc (.func fn) #[] xs.toArray,ty,pos,aft,none⟩::rest) env box done K:=
 run_put (ws:=[]) (fresh:=[]) (loc_makeFunc rfl hd hx.opd) rfl h
theorem r_slf {x:Operand} {t el:TypeId} {lo hi:Option Operand} {l u n m:Nat} {q:Bool} {f:Nat→List D} {info info':TypeInfo} {d':TypeDesc} [hT:TI P t info (.slice el)] [hT':TI P el info' d'] (hx:Op1 env x (.fz q n m f)) (hlo:Op1O env lo l 0) (hhi:Op1O env hi u n) (hm:m=info'.size) (h1:l≤u) (h2:u≤n) (hd:Nat.blt d (fsz N)=true) (h:RunK P N ops rest ((d,.fz q (u - l) m (fun e=>f (l+e)))::env) box (done++[⟨[],some d,.fz q (u - l) m (fun e=>f (l+e)),[],[]⟩]) K):RunK P N ops (⟨some d,.slice t x lo hi none,ty,pos,aft,none⟩::rest) env box done K:=
 run_put (ws:=[]) (fresh:=[]) (loc_slice_fz rfl hd hx.opd hlo.opt hhi.opt hm h1 h2) rfl h
theorem r_sls {x:Operand} {t el:TypeId} {lo hi:Option Operand} {k u n m:Nat} {info info':TypeInfo} {d':TypeDesc} [hT:TI P t info (.slice el)] [hT':TI P el info' d'] (hx:Op1 env x (.sl k m n)) (hlo:Op1O env lo 0 0) (hhi:Op1O env hi u n) (h2:u≤n) (hd:Nat.blt d (fsz N)=true) (h:RunK P N ops rest ((d,.sl k m u)::env) box (done++[⟨[],some d,.sl k m u,[],[]⟩]) K):RunK P N ops (⟨some d,.slice t x lo hi none,ty,pos,aft,none⟩::rest) env box done K:=
 run_put (ws:=[]) (fresh:=[]) (loc_slice_sl rfl hd hx.opd hlo.opt hhi.opt h2) rfl h
theorem r_alloc {t:TypeId} {zs:List Value} [hz:ZR P t zs] (hd:Nat.blt d (fsz N)=true) (h:RunK P N ops rest ((d,.eptr (1000+d) 0 0 0)::env) ((1000+d,some (.lit t (valL zs)))::box) (done++[⟨[],some d,.eptr (1000+d) 0 0 0,[(1000+d,some (.lit t (valL zs)))],[1000+d]⟩]) K):RunK P N ops (⟨some d,.alloc t,ty,pos,aft,none⟩::rest) env box done K:=
 run_put (ws:=[(1000+d,some (.lit t (valL zs)))]) (fresh:=[1000+d]) (loc_alloc rfl hd hz.zr) rfl h
theorem r_box {x:Operand} {t:TypeId} {v:D} {l:List D}  (hx:Op1 env x v) (hf:v.fit=true) (hl:v.cellL=l) (hd:Nat.blt d (fsz N)=true) (h:RunK P N ops rest ((d,.eptr (1000+d) 0 0 0)::env) ((1000+d,some (.lit t l))::box) (done++[⟨[],some d,.eptr (1000+d) 0 0 0,[(1000+d,some (.lit t l))],[1000+d]⟩]) K):RunK P N ops (⟨some d,.box t x,ty,pos,aft,none⟩::rest) env box done K:=
 run_put (ws:=[(1000+d,some (.lit t l))]) (fresh:=[1000+d]) (hl▸loc_box rfl hd hx.opd hf) rfl h
theorem r_mks {x y:Operand} {t el:TypeId} {n:Nat} {kl kc:IntKind} {z1 z2:Int} {info info':TypeInfo} {d':TypeDesc} {zv:Value} {zs:List D} [hT:TI P t info (.slice el)] [hT':TI P el info' d'] (hx:Op1 env x (.val (.int kl z1))) (hy:Op1 env y (.val (.int kc z2))) (hn1:NatIs z1 n) (hn2:NatIs z2 n) (hz:info'.zero=some zv) (hm:zv.cells.size=info'.size) (h1:(zv.cells.toList.all fun z=>z.oneCell')=true) (hms:Nat.blt 0 info'.size=true) (hby:Nat.ble info'.bytes 256=true) (hb:n≤549755813888) (h63:n≤9223372036854775807) (hzs:valL zv.cells.toList=zs) (hd:Nat.blt d (fsz N)=true) (h:RunK P N ops rest ((d,.sl (1000+d) info'.size n)::env) ((1000+d,some (.arr el n info'.size fun _=>zs))::box) (done++[⟨[],some d,.sl (1000+d) info'.size n,[(1000+d,some (.arr el n info'.size fun _=>zs))],[1000+d]⟩]) K):RunK P N ops (⟨some d,.makeSlice t x y,ty,pos,aft,none⟩::rest) env box done K:=
 run_put (ws:=[(1000+d,some (.arr el n info'.size fun _=>zs))]) (fresh:=[1000+d]) (hzs▸loc_makeSlice rfl hd hz hm h1 hms hx.opd hy.opd hn1 hn2 (Nat.le_trans (bytes_le hby hb) (by decide)) h63) rfl h
theorem r_st {x y:Operand} {t t':TypeId} {k m e c n:Nat} {ds ds' l:List D} {v:D} [hS:SZ P t n] (hx:Op1 env x (.eptr k m e c)) (hy:Op1 env y v) (he:e*m=0) (hb:Bl box k (.lit t' ds)) (hf:v.fit=true) (hl:v.cellL=l) (hn:l.length=n) (hp:PutL ds c l ds') (h:RunK P N ops rest env ((k,some (.lit t' ds'))::box) (done++[⟨[k],none,.any,[(k,some (.lit t' ds'))],[]⟩]) K):RunK P N ops (⟨none,.store t x y,ty,pos,aft,none⟩::rest) env box done K:=
 run_eff (ws:=[(k,some (.lit t' ds'))]) (hp.set.1▸hl▸loc_store rfl rfl hx.opd he hy.opd hf hS.sz (hl▸hn) hb.eq (ble_of (hl▸hp.set.2))) rfl h
theorem r_sta {x y:Operand} {t t':TypeId} {k m e c n n':Nat} {f:Nat→List D} {l:List D} {v:D} [hS:SZ P t n] (hx:Op1 env x (.eptr k m e c)) (hy:Op1 env y v) (hb:Bl box k (.arr t' n' m f)) (hf:v.fit=true) (hl:v.cellL=l) (hn:l.length=n) (hc:Nat.ble (c+n) m=true) (hp:v.free (fun _=>false)=true) (he:e<n') (h:RunK P N ops rest env ((k,some (.arr t' n' m (setE f e c l)))::box) (done++[⟨[k],none,.any,[(k,some (.arr t' n' m (setE f e c l)))],[]⟩]) K):RunK P N ops (⟨none,.store t x y,ty,pos,aft,none⟩::rest) env box done K:=
 run_eff (ws:=[(k,some (.arr t' n' m (setE f e c l)))]) (hl▸loc_store_arr rfl rfl hx.opd hy.opd hf hp hS.sz (hl▸hn) hb.eq (by rw [hl,hn];exact hc) he) rfl h
end
end Go.Proofs.YtdcenblblimkfaaGreat
