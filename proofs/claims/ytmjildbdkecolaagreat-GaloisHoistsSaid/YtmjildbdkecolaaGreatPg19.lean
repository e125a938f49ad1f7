/- The types and functions of this program, as the driver looks them up. No walk.
Rows of rows, by lists: frozen, said otherwise, as results. No walk.
A range over a function whose iterator has a variable of its own. No walk. Printed by mkvpm.py.
A slice of nil slices, as rows that are put in. No walk.
Arguments that were written out. No walk.
A slot, said otherwise, within a region. No walk. -/
import Derived.Test.YtmjildbdkecolaaGreatPg18
set_option linter.unusedSimpArgs false
set_option linter.unusedVariables false
set_option linter.unnecessarySimpa false
set_option linter.unusedSectionVars false
namespace Go.Proofs.YtmjildbdkecolaaGreat
open Go.RowKit
section
variable {P:Program} {t s el:TypeId} {i i':TypeInfo} {e e':TypeDesc}
theorem SZ.of {n:Nat} (h:TI P t i e) (hn:i.size=n):SZ P t n:=⟨hn▸SizeIs.mk⟩
theorem ZR.of {z:Value} {zs:List Value} (h:TI P t i e) (hz:i.zero=some z) (hc:z.cells=zs.toArray) (h1:(zs.all fun z=>z.oneCell')=true):ZR P t zs:=by
 have:=ZeroIs.mk (P:=P) (t:=t) hz (by rw [hc];exact h1)
 rw [hc] at this
 exact ⟨this⟩
theorem FT.of {fs:Array Field} {fl:Field} {k off:Nat} (h:TI P s i (.struct fs)) (hf:fs[k]? = some fl) (h':TI P fl.type i' e') (ho:fl.offset=off) (h0:(i'.size == 0)=false):FT P s k off:=⟨ho▸FieldIs.mk hf h0⟩
theorem FV.agg {fs:Array Field} {fl:Field} {k off n:Nat} (h:TI P s i (.struct fs)) (hf:fs[k]? = some fl) (h':TI P fl.type i' e') (ho:fl.offset=off) (ha:isAggD e'=true) (hn:i'.size=n):FV P s k off n true:=⟨_,_,_,h,hf,ho,hn▸pt_agg ha⟩
theorem ET.of {m:Nat} (h:TI P t i (.slice el)) (h':TI P el i' e') (hm:i'.size=m):ET P t m:=⟨hm▸IndexIs.mk⟩
theorem AR.of {n m:Nat} (h:TI P t i (.array n el)) (h':TI P el i' e') (hm:i'.size=m):AR P t n m:=⟨hm▸IndexArr.mk⟩
end
instance mixP:Mix Tryz.prog:=⟨by kernel_rfl⟩
instance ti2:TI Tryz.prog 2 Tryz.t2 (.int .i64):=⟨by kernel_rfl,by kernel_rfl⟩
instance ti3:TI Tryz.prog 3 Tryz.t3 (.int .i64):=⟨by kernel_rfl,by kernel_rfl⟩
instance ti4:TI Tryz.prog 4 Tryz.t4 (.bool ):=⟨by kernel_rfl,by kernel_rfl⟩
instance ti22:TI Tryz.prog 22 Tryz.t22 (.int .u32):=⟨by kernel_rfl,by kernel_rfl⟩
instance ti23:TI Tryz.prog 23 Tryz.t23 (.slice 22):=⟨by kernel_rfl,by kernel_rfl⟩
instance ti25:TI Tryz.prog 25 Tryz.t25 Tryz.t24.desc:=⟨by kernel_rfl,by kernel_rfl⟩
instance ti26:TI Tryz.prog 26 Tryz.t26 (.slice 35):=⟨by kernel_rfl,by kernel_rfl⟩
instance ti33:TI Tryz.prog 33 Tryz.t33 (.slice 23):=⟨by kernel_rfl,by kernel_rfl⟩
instance ti35:TI Tryz.prog 35 Tryz.t35 Tryz.t34.desc:=⟨by kernel_rfl,by kernel_rfl⟩
instance ti36:TI Tryz.prog 36 Tryz.t36 (.int .i64):=⟨by kernel_rfl,by kernel_rfl⟩
instance ti43:TI Tryz.prog 43 Tryz.t43 Tryz.t42.desc:=⟨by kernel_rfl,by kernel_rfl⟩
instance ti92:TI Tryz.prog 92 Tryz.t92 (.slice 2):=⟨by kernel_rfl,by kernel_rfl⟩
instance ti147:TI Tryz.prog 147 Tryz.t147 (.pointer 25):=⟨by kernel_rfl,by kernel_rfl⟩
instance ti162:TI Tryz.prog 162 Tryz.t162 (.int .u64):=⟨by kernel_rfl,by kernel_rfl⟩
instance ti163:TI Tryz.prog 163 Tryz.t163 Tryz.t163.desc:=⟨by kernel_rfl,by kernel_rfl⟩
instance sz2:SZ Tryz.prog 2 1:=SZ.of ti2 rfl
instance sz3:SZ Tryz.prog 3 1:=SZ.of ti3 rfl
instance zr3:ZR Tryz.prog 3 [.int .i64 0]:=ZR.of ti3 rfl rfl rfl
instance sz4:SZ Tryz.prog 4 1:=SZ.of ti4 rfl
instance sz22:SZ Tryz.prog 22 1:=SZ.of ti22 rfl
instance zr22:ZR Tryz.prog 22 [.int .u32 0]:=ZR.of ti22 rfl rfl rfl
instance sz23:SZ Tryz.prog 23 1:=SZ.of ti23 rfl
instance zr23:ZR Tryz.prog 23 [.slice none 0 0]:=ZR.of ti23 rfl rfl rfl
instance et23:ET Tryz.prog 23 1:=ET.of ti23 ti22 rfl
instance sz25:SZ Tryz.prog 25 7:=SZ.of ti25 rfl
instance zr25:ZR Tryz.prog 25 [.int .i64 0,.int .u32 0,.int .i64 0,.slice none 0 0,.int .u32 0,.int .i64 0,.int .u32 0]:=ZR.of ti25 rfl rfl rfl
instance ft25_0:FT Tryz.prog 25 0 0:=FT.of ti25 rfl ti3 rfl rfl
instance ft25_1:FT Tryz.prog 25 1 1:=FT.of ti25 rfl ti22 rfl rfl
instance ft25_2:FT Tryz.prog 25 2 2:=FT.of ti25 rfl ti3 rfl rfl
instance ft25_3:FT Tryz.prog 25 3 3:=FT.of ti25 rfl ti23 rfl rfl
instance ft25_4:FT Tryz.prog 25 4 4:=FT.of ti25 rfl ti22 rfl rfl
instance ft25_5:FT Tryz.prog 25 5 5:=FT.of ti25 rfl ti3 rfl rfl
instance ft25_6:FT Tryz.prog 25 6 6:=FT.of ti25 rfl ti22 rfl rfl
instance sz26:SZ Tryz.prog 26 1:=SZ.of ti26 rfl
instance zr26:ZR Tryz.prog 26 [.slice none 0 0]:=ZR.of ti26 rfl rfl rfl
instance et26:ET Tryz.prog 26 3:=ET.of ti26 ti35 rfl
instance sz33:SZ Tryz.prog 33 1:=SZ.of ti33 rfl
instance et33:ET Tryz.prog 33 1:=ET.of ti33 ti23 rfl
instance sz35:SZ Tryz.prog 35 3:=SZ.of ti35 rfl
instance zr35:ZR Tryz.prog 35 [.int .i64 0,.bool false,.slice none 0 0]:=ZR.of ti35 rfl rfl rfl
instance bt35:BT Tryz.prog 35 [(0,1),(1,1),(2,1)] [.int .i64 0,.bool false,.slice none 0 0]:=BT.of (ns:=[1,1,1]) ti35 rfl zr35.zr ⟨sz3.sz,⟨sz4.sz,⟨sz33.sz,trivial⟩⟩⟩ (by intro j;repeat (first | rfl | cases j with | zero=>rfl | succ j=>?_))
instance ft35_0:FT Tryz.prog 35 0 0:=FT.of ti35 rfl ti3 rfl rfl
instance ft35_1:FT Tryz.prog 35 1 1:=FT.of ti35 rfl ti4 rfl rfl
instance ft35_2:FT Tryz.prog 35 2 2:=FT.of ti35 rfl ti33 rfl rfl
instance sz36:SZ Tryz.prog 36 1:=SZ.of ti36 rfl
instance zr36:ZR Tryz.prog 36 [.int .i64 0]:=ZR.of ti36 rfl rfl rfl
instance sz43:SZ Tryz.prog 43 3:=SZ.of ti43 rfl
instance zr43:ZR Tryz.prog 43 [.int .i64 0,.int .i64 0,.slice none 0 0]:=ZR.of ti43 rfl rfl rfl
instance bt43:BT Tryz.prog 43 [(0,1),(1,1),(2,1)] [.int .i64 0,.int .i64 0,.slice none 0 0]:=BT.of (ns:=[1,1,1]) ti43 rfl zr43.zr ⟨sz3.sz,⟨sz3.sz,⟨sz26.sz,trivial⟩⟩⟩ (by intro j;repeat (first | rfl | cases j with | zero=>rfl | succ j=>?_))
instance ft43_0:FT Tryz.prog 43 0 0:=FT.of ti43 rfl ti3 rfl rfl
instance ft43_1:FT Tryz.prog 43 1 1:=FT.of ti43 rfl ti3 rfl rfl
instance ft43_2:FT Tryz.prog 43 2 2:=FT.of ti43 rfl ti26 rfl rfl
instance sz92:SZ Tryz.prog 92 1:=SZ.of ti92 rfl
instance et92:ET Tryz.prog 92 1:=ET.of ti92 ti2 rfl
instance sz147:SZ Tryz.prog 147 1:=SZ.of ti147 rfl
instance fi175:FI Tryz.prog 175 Tryz.f175:=⟨Tryz.func175,Tryz.call175⟩
instance fi105:FI Tryz.prog 105 Tryz.f105:=⟨Tryz.func105,Tryz.call105⟩
instance fi106:FI Tryz.prog 106 Tryz.f106:=⟨Tryz.func106,Tryz.call106⟩
instance fi177:FI Tryz.prog 177 Tryz.f177:=⟨Tryz.func177,Tryz.call177⟩
instance fi125:FI Tryz.prog 125 Tryz.f125:=⟨Tryz.func125,Tryz.call125⟩
instance fi44:FI Tryz.prog 44 Tryz.f44:=⟨Tryz.func44,Tryz.call44⟩
instance fi108:FI Tryz.prog 108 Tryz.f108:=⟨Tryz.func108,Tryz.call108⟩
instance fi104:FI Tryz.prog 104 Tryz.f104:=⟨Tryz.func104,Tryz.call104⟩
instance fi123:FI Tryz.prog 123 Tryz.f123:=⟨Tryz.func123,Tryz.call123⟩
instance fi60:FI Tryz.prog 60 Tryz.f60:=⟨Tryz.func60,Tryz.call60⟩
instance fi126:FI Tryz.prog 126 Tryz.f126:=⟨Tryz.func126,Tryz.call126⟩
instance fi80:FI Tryz.prog 80 Tryz.f80:=⟨Tryz.func80,Tryz.call80⟩
instance fi146:FI Tryz.prog 146 Tryz.f146:=⟨Tryz.func146,Tryz.call146⟩
instance fi79:FI Tryz.prog 79 Tryz.f79:=⟨Tryz.func79,Tryz.call79⟩
instance fi145:FI Tryz.prog 145 Tryz.f145:=⟨Tryz.func145,Tryz.call145⟩
instance fi76:FI Tryz.prog 76 Tryz.f76:=⟨Tryz.func76,Tryz.call76⟩
instance fi140:FI Tryz.prog 140 Tryz.f140:=⟨Tryz.func140,Tryz.call140⟩
instance fi75:FI Tryz.prog 75 Tryz.f75:=⟨Tryz.func75,Tryz.call75⟩
instance fi139:FI Tryz.prog 139 Tryz.f139:=⟨Tryz.func139,Tryz.call139⟩
instance fi98:FI Tryz.prog 98 Tryz.f98:=⟨Tryz.func98,Tryz.call98⟩
instance fi170:FI Tryz.prog 170 Tryz.f170:=⟨Tryz.func170,Tryz.call170⟩
instance fi124:FI Tryz.prog 124 Tryz.f124:=⟨Tryz.func124,Tryz.call124⟩
instance fi176:FI Tryz.prog 176 Tryz.f176:=⟨Tryz.func176,Tryz.call176⟩
instance fi200:FI Tryz.prog 200 Tryz.f200:=⟨Tryz.func200,Tryz.call200⟩
instance fi107:FI Tryz.prog 107 Tryz.f107:=⟨Tryz.func107,Tryz.call107⟩
instance fi178:FI Tryz.prog 178 Tryz.f178:=⟨Tryz.func178,Tryz.call178⟩

set_option maxRecDepth 20000
section
variable {ro:Option Nat} {P:Program} {N:Nat} {Q:Post} {c:Code} {env:List (Nat × D)} {box:List (Nat × Option Box)} {fn:Func} {r:D} {hs rs:Hs} {E2:Nat→D} {H2:Nat→Option Box}
theorem fin_freezeM (k:Nat) {t t2:TypeId} {nb n m2 n2:Nat} {g:Nat→Nat→List D} (h:FinS P fn r hs rs (lk env) (hk ((k,some (.ice t n 1 (fun e=>[.fz false n2 m2 (g e)])))::box))) (hb:autoParam (Bl box k (.mat t t2 nb n m2 n2 g)) aq9._auto_1) (h100:Nat.ble 1000 k=true:=by rfl):FinS P fn r hs rs (lk env) (hk box):=h.sub (sub_freezeM k hb.eq h100)
theorem sub_mat (k:Nat) (g':Nat→Nat→List D) {t t2:TypeId} {nb n m2 n2:Nat} {g:Nat→Nat→List D} (he:∀ e x,e<n→x<n2→g e x=g' e x) (hl:∀ e x,(g' e x).length=m2) (h:Sub (lk env) (hk ((k,some (.mat t t2 nb n m2 n2 g'))::box)) E2 H2) (hb:autoParam (Bl box k (.mat t t2 nb n m2 n2 g)) aq9._auto_1):Sub (lk env) (hk box) E2 H2:=
 Sub.trans (sub_box k _ (by rw [hb.eq];exact .mat (fun e he' x hx=>⟨hl e x,fun c hc=>by rw [he e x he' hx];exact inferInstance⟩)) rfl) h
theorem c_mat (k:Nat) (g':Nat→Nat→List D) {t t2:TypeId} {nb n m2 n2:Nat} {g:Nat→Nat→List D} (he:∀ e x,e<n→x<n2→g e x=g' e x) (hl:∀ e x,(g' e x).length=m2) (h:AWp ro P N c (lk env) (hk ((k,some (.mat t t2 nb n m2 n2 g'))::box)) Q) (hb:autoParam (Bl box k (.mat t t2 nb n m2 n2 g)) aq9._auto_1):AWp ro P N c (lk env) (hk box) Q:=awp_sub (sub_mat k g' he hl (Sub.refl _ _) hb) h
theorem fin_mat (k:Nat) (g':Nat→Nat→List D) {t t2:TypeId} {nb n m2 n2:Nat} {g:Nat→Nat→List D} (he:∀ e x,e<n→x<n2→g e x=g' e x) (hl:∀ e x,(g' e x).length=m2) (h:FinS P fn r hs rs (lk env) (hk ((k,some (.mat t t2 nb n m2 n2 g'))::box))) (hb:autoParam (Bl box k (.mat t t2 nb n m2 n2 g)) aq9._auto_1):FinS P fn r hs rs (lk env) (hk box):=h.sub (sub_mat k g' he hl (Sub.refl _ _) hb)
theorem putG_at {n e:Nat} {g:Nat→Nat→List D} {f:Nat→List D} (h:e<n):putG n g f e=g e:=by unfold putG;rw [show Nat.blt e n=true by simpa using h]
theorem putG_new {n:Nat} {g:Nat→Nat→List D} {f:Nat→List D}:putG n g f n=f:=by unfold putG;rw [blt_self]
theorem putG_snoc {n n2:Nat} {g:Nat→Nat→List D} {f:Nat→List D} (h:∀ x,x<n2→f x=g n x):∀ e x,e<n+1→x<n2→putG n g f e x=g e x:=fun e x he hx=>by
 by_cases q:e=n
 ·subst q;rw [putG_new];exact h x hx
 ·rw [putG_at (by omega)]
theorem c_nilcellM (kb cc k:Nat) (tt t2:TypeId) (m2 n2:Nat) (g:Nat→Nat→List D) {tb:TypeId} {ds ds':List D} (h:AWp ro P N c (lk env) (hk ((kb,some (.lit tb ds'))::(k,some (.mat tt t2 0 0 m2 n2 g))::box)) Q) (hl:autoParam (Bl box kb (.lit tb ds)) aq9._auto_1) (hds:At ds cc (.val (.slice none 0 0)):=by (repeat (first | exact At.here | apply At.there))) (hp:PutL ds cc [.sl k 1 0] ds':=by (repeat (first | exact PutL.nil | apply PutL.cons | apply PutL.skip))) (hb:hk box k=none:=by rfl) (h100:Nat.ble 1000 k=true:=by rfl):AWp ro P N c (lk env) (hk box) Q:=
 awp_sub (sub_nilcellB kb cc k 1 _ (.inr ⟨_,_,_,_,_,rfl⟩) hl.eq hds.spec.2 hp.set.1 (blt_of hds.spec.1) hb h100) h
end
section
variable {ro:Option Nat} {P:Program} {N:Nat} {Q:Post} {c:Code} {env:List (Nat × D)} {box:List (Nat × Option Box)} {fn:Func} {r:D} {hs rs:Hs}
end
inductive BoxAllN (ks:List Nat) (box:List (Nat × Option Box)):Hs→Prop where
 | nil:BoxAllN ks box []
 | cons {k:Nat} {B:Box} {hs:Hs} (h:Bl box k B) (hm:B.mut=true) (hf:B.free (fun x=>memB x ks)=true) (r:BoxAllN ks box hs):BoxAllN ks box ((k,B)::hs)
theorem BoxAllN.at {ks:List Nat} {box:List (Nat × Option Box)} {hs:Hs} (h:BoxAllN ks box hs):∀ k B,(k,B)∈hs→hk box k=some B∧B.mut=true∧B.free (fun x=>memB x ks)=true:=by
 induction h with
 | nil=>intro k B h;cases h
 | cons h hm hf _ ih=>
  intro k B hkB
  rcases List.mem_cons.1 hkB with e | e
  ·cases e;exact ⟨h.eq,hm,hf⟩
  ·exact ih k B e
theorem finN {P:Program} {env:List (Nat × D)} {box:List (Nat × Option Box)} {fn:Func} {r:D} {ds:List D} {rs:Hs}
  (hr:autoParam (Res1 P env box fn.results.toList ds) aq3._auto_1)
  (hd:resD ds=r:=by rfl) (hf:r.free (fun k=>memB k rs.keys)=true:=by rfl) (hb:BoxAllN rs.keys box rs:=by (repeat (first | exact BoxAllN.nil | (apply BoxAllN.cons;(focus ((repeat (first | exact Bl.here | apply Bl.there rfl));done));(focus (rfl));(focus (rfl)))))):FinS P fn r [] rs (lk env) (hk box):=by
 refine ⟨_,_,Sub.refl _ _,ds,hr.is,fun S a w Z i v hF hv=>?_,fun k B hm=>hb.at k B hm⟩
 subst hd
 refine hv.nm hf (fun k x hk e=>?_)
 show (if k∈([]++rs).map (fun y:Nat × Box=>y.1) then i k else none)=some x
 have hm:k∈([]++rs).map (fun y:Nat × Box=>y.1):=memB_spec hk
 rw [if_pos hm]
 exact e
section
variable {ro:Option Nat} {P:Program} {N:Nat} {Q:Post} {ops:Array Oper} {rest:List Oper} {env:List (Nat × D)} {box:List (Nat × Option Box)} {done:List Rec} {K:List Rec→List (Nat × D)→List (Nat × Option Box)→Prop} {d:Nat} {ty:TypeId} {pos:String} {aft:Array Edge}
theorem r_callN {x:Operand} {xs:List Operand} {ts:Array TypeId} {f:FuncId} {fn:Func} {ds ads caps:List D} {r r' d0:D} {k0:Nat} {t t2:TypeId} {nb n m2 n2:Nat} {g:Nat→Nat→List D} [hf:FI P f fn] [hod:OldDL ds] [hnew:NewD r] [hnb:AllNew [(k0,(.mat t t2 nb n m2 n2 g))]] (hden:DenH P f ds [] r [] [(k0,(.mat t t2 nb n m2 n2 g))]) (hr:r.ren (fun _=>1000+d)=r') (h:RunK P N ops rest ((d,r')::env) ((1000+d,some (.mat t t2 nb n m2 n2 g))::box) (done++[⟨nsOf box (ads++caps),some d,r',[(1000+d,some (.mat t t2 nb n m2 n2 g))],[1000+d]⟩]) K) (hx:autoParam (Op1 env x d0) aq1._auto_1) (hcl:autoParam ((d0 = .val (.func (.func f) #[] #[])∧caps=[])∨d0 = .clo f caps) aq12._auto_1) (ha:autoParam (Op1L env xs ads) aq5._auto_1) (hv:autoParam (ArgVL true [] (nsOf box (ads++caps)) [] (fun _=>1000+d) (hk box) (ads++caps) ds) aq0._auto_1) (hd:Nat.blt d N=true:=by rfl):RunK P N ops (⟨some d,.call { callee:=.value x,args:=xs.toArray,argTypes:=ts },ty,pos,aft,none⟩::rest) env box done K:=
 run_put (ws:=[(1000+d,some (.mat t t2 nb n m2 n2 g))]) (fresh:=[1000+d]) (by have:=loc_call (lend:=true) (ρ:=fun _=>1000+d) (P:=P) (N:=N) (o:=⟨some d,.call { callee:=.value x,args:=xs.toArray,argTypes:=ts },ty,pos,aft,none⟩) rfl hd hx.opd hcl ha.opd hden hv (fun k B hm=>by cases hm) (fun k hk=>by cases hk) rfl rfl (fun h=>⟨hnew,hnb⟩);rw [hr] at this;exact this) rfl h
end
inductive FrD (k n:Nat) (F:Nat→List D):D→D→Prop where
 | id {d:D} (h:d.free (fun _=>false)=true):FrD k n F d d
 | sl {len:Nat} (h:len≤n):FrD k n F (.sl k 1 len) (.fz false len 1 F)
 | agg1 {d d':D} {l l':List D} (h:FrD k n F d d') (t:FrD k n F (.agg l) (.agg l')):FrD k n F (.agg (d::l)) (.agg (d'::l'))
 | agg0:FrD k n F (.agg []) (.agg [])
 | tup1 {d d':D} {l l':List D} (h:FrD k n F d d') (t:FrD k n F (.tup l) (.tup l')):FrD k n F (.tup (d::l)) (.tup (d'::l'))
 | tup0:FrD k n F (.tup []) (.tup [])
theorem FrD.rep {k n m2 n2 nb:Nat} {t t2:TypeId} {g:Nat→Nat→List D} {Z Z':Zn} {w:World} {i:Nm} {b:Nat} {cp:Cp} (hi:i k=some (some (b,cp))) (hM:MatAt Z w b cp t t2 nb n m2 n2 g) (hz:∀ o x,Z o x→Z' o x) (hf:∀ x,Foot (.mat t t2 nb n m2 n2 g) (i k) x→Z' false x) {d d':D} (h:FrD k n (fun e=>[.fz false n2 m2 (g e)]) d d'):∀ v,Rep Z w i v d→Rep Z' w noN v d':=by
 have mm:∀ {v:Value} {d:D} {j:Nm},Rep Z w j v d→Rep Z' w j v d:=fun h=>h.mem (fun o x hx=>⟨hz o x hx,rfl⟩)
 induction h with
 | id h=>exact fun v hv=>mm (hv.nm h (fun k x hk=>by cases hk))
 | @sl len h=>
  intro v hv
  cases hv with
  | sl0 _ _ _ h'=>rw [hi] at h';cases h'
  | @sl _ b' _ _ _ cap hib h1 h2=>
   rw [hi] at hib;cases hib
   obtain ⟨cs,hB,hcs,hnb,hnn,hrw,_⟩:=hM
   refine .fz _ _ _ len cp.c 1 _ (fun e _=>cs.getD e undef) h1 h2 (fun _ _=>rfl) (fun e c he hc=>⟨b,0,rfl,hf b (.root hi),?_,?_⟩) (fun e c he hc=>?_)
   ·obtain rfl:c=0:=by omega
    rw [Nat.mul_one,Nat.add_zero,Nat.zero_add]
    exact hB.cell _ (by omega)
   ·obtain ⟨b2,c2,p1,p2,p3,p4,p5⟩:=hrw e (by omega)
    rw [p3];rfl
   ·obtain rfl:c=0:=by omega
    obtain ⟨b2,c2,p1,p2,p3,p4,cs2,hB2,hs2,hnc2,hfl2,hall2⟩:=hrw e (by omega)
    have hf2:Foot (.mat t t2 nb n m2 n2 g) (i k) b2:=⟨b,cp,hi,.inr ⟨e,c2,by show e<n;omega,p1⟩⟩
    rw [p3]
    refine .fz _ _ _ n2 c2 m2 (g e) (fun y c=>cs2.getD (y*m2+c) undef) hnc2 p4 hfl2 (fun y c hy hc=>⟨b2,0,rfl,hf b2 hf2,?_,(hall2 y c hy hc).1⟩) (fun y c hy hc=>mm (hall2 y c hy hc).2)
    have hlt:y*m2+c<cs2.size:=by
     have:(y+1)*m2≤c2*m2:=Nat.mul_le_mul_right _ (by omega)
     rw [Nat.add_mul] at this;omega
    rw [Nat.zero_add];exact hB2.cell _ hlt
 | agg0=>intro v hv;cases hv with | agg _ vs _ hl h1 hr=>exact .agg _ vs _ hl h1 (fun j hj=>by simp at hj)
 | tup0=>intro v hv;cases hv with | tup _ vs _ hl hr=>exact .tup _ vs _ hl (fun j hj=>by simp at hj)
 | agg1 h t ih1 ih2=>
  intro v hv
  cases hv with | agg _ vs _ hl h1 hr=>
  match vs,hl with
  | v0::vs,hl=>
   have r0:=ih1 v0 (hr 0 (by simp))
   have r1:=ih2 _ (.agg i vs _ (by simpa using hl) (fun j hj=>by have:=h1 (j+1) (by simpa using hj);simpa using this) (fun j hj=>by have:=hr (j+1) (by simpa using hj);simpa [dl] using this))
   generalize hq:Value.agg vs.toArray=q at r1
   cases r1 with | agg _ us _ hl' h1' hr'=>
   obtain rfl:vs=us:=by simpa using hq
   refine .agg _ (v0::vs) _ (by simpa using hl') (fun j hj=>?_) (fun j hj=>?_)
   ·cases j with
    | zero=>exact h1 0 (by simp)
    | succ j=>have:=h1' j (by simpa using hj);simpa using this
   ·cases j with
    | zero=>exact r0
    | succ j=>have:=hr' j (by simpa using hj);simpa [dl] using this
 | tup1 h t ih1 ih2=>
  intro v hv
  cases hv with | tup _ vs _ hl hr=>
  match vs,hl with
  | v0::vs,hl=>
   have r0:=ih1 v0 (hr 0 (by simp))
   have r1:=ih2 _ (.tup i vs _ (by simpa using hl) (fun j hj=>by have:=hr (j+1) (by simpa using hj);simpa [dl] using this))
   generalize hq:Value.tuple vs.toArray=q at r1
   cases r1 with | tup _ us _ hl' hr'=>
   obtain rfl:vs=us:=by simpa using hq
   refine .tup _ (v0::vs) _ (by simpa using hl') (fun j hj=>?_)
   ·cases j with
    | zero=>exact r0
    | succ j=>have:=hr' j (by simpa using hj);simpa [dl] using this
theorem DenH.frozen {P:Program} {f:FuncId} {ds:List D} {r r2:D} {k0 nb n m2 n2:Nat} {t t2:TypeId} {g:Nat→Nat→List D} (h:DenH P f ds [] r [] [(k0,.mat t t2 nb n m2 n2 g)]) (hn:0<n) (hc:FrD k0 n (fun e=>[.fz false n2 m2 (g e)]) r r2):Den P f ds r2:=fun Zc w i args hZ hi hH ha=>by
 refine (h Zc w i args hZ hi hH ha).mono (fun e w' ⟨v,i',Zn',p0,p1,p2,p3,p4,p5,pfl,p6,p7⟩=>?_)
 obtain ⟨_,⟨b,cp,q1,q2,q3⟩ | ⟨q1,q2⟩⟩:=p6.1 k0 (.mat t t2 nb n m2 n2 g) (by simp)
 ·have hft:∀ x,Foot (.mat t t2 nb n m2 n2 g) (i' k0) x→w.heap.size≤x∧x<w'.heap.size:=fun x hx=>⟨p5 k0 (.mat t t2 nb n m2 n2 g) x (by simp) hx,q3.footLt (q1▸hx)⟩
  refine ⟨v,fun _=>none,fun x=>Zn' x∨Foot (.mat t t2 nb n m2 n2 g) (i' k0) x,p0,p1,fun x hx=>hx.elim (p2 x) (hft x),fun k hk=>by simp [Hs.keys] at hk,fun _ _ _=>rfl,fun k B b hm=>by simp at hm,fun k B hm=>by simp at hm,⟨fun k B hm=>by simp at hm,fun k k' B B' b hm=>by simp at hm⟩,?_⟩
  exact (hc.rep (Z':=Z2 Zc fun x=>Zn' x∨Foot (.mat t t2 nb n m2 n2 g) (i' k0) x) q1 q3 (fun o x hx=>by
   cases o with
   | false=>exact .inl hx
   | true=>exact hx.imp id .inl) (fun x hx=>.inr hx) v p7).of_noN
 ·rcases q2 with ⟨_,_,_,e⟩ | ⟨_,_,_,_,_,e⟩
  ·cases e
  ·cases e;omega
section
variable {P:Program} {N:Nat} {o:Oper} {E:Nat→D} {H:Nat→Option Box}
end
section
variable {P:Program} {N:Nat} {ops:Array Oper} {rest:List Oper} {env:List (Nat × D)} {box:List (Nat × Option Box)} {done:List Rec} {K:List Rec→List (Nat × D)→List (Nat × Option Box)→Prop} {d:Nat} {ty:TypeId} {pos:String} {aft:Array Edge}
end

abbrev GstM (γ:Type):=Nat→γ→(Nat→Prop)→(Nat→Prop)→World→Prop
structure JOkM {γ:Type} (n0 bx:Nat) (tb:TypeId) (u:γ→Value) (J:GstM γ):Prop where
 stable:∀ {k y C Z W W'},J k y C Z W→W'.os=W.os∧W'.tape=W.tape∧W'.output=W.output∧W.heap.size≤W'.heap.size→(∀ b,b<W.heap.size→C b∨Z b∨b<n0→W'.heap[b]? = W.heap[b]?)→J k y C Z W'
 lt:∀ {k y C Z W},J k y C Z W→(∀ b,C b→b<W.heap.size∧¬ Z b)∧∀ b,Z b→b<W.heap.size
 peek:∀ {k y C Z W},J k y C Z W→Bk W bx tb #[u y]∧¬ Z bx∧C bx
 poke:∀ {k y y' C Z W W'},J k y C Z W→W'.os=W.os∧W'.tape=W.tape∧W'.output=W.output∧W'.heap.size=W.heap.size→(∀ b,b≠bx→W'.heap[b]? = W.heap[b]?)→Bk W' bx tb #[u y']→J k y' C Z W'
def ItrDM {γ:Type} (P:Program) (f:FuncId) (c1:D) (tb:TypeId) (u:γ→Value) (y0:γ) (xs:List (List D)):Prop:=
 ∀ (l:Nat) (C0 Z0:Nat→Prop) (W0:World) (v0:Value) (bx:Nat) (J:GstM γ) (Jx:Gst),JOkM W0.heap.size bx tb u J→JOk W0.heap.size Jx→J 0 y0 C0 Z0 W0→Rep (fun o b=>o=true∧Z0 b) W0 noN v0 c1 →
  (∀ k y C Z W x us Zx,xs[k]? = some x→J k y C Z W→(∀ b,Zx b→W0.heap.size≤b∧b<W.heap.size∧¬ C b)→RepsI (Z2 Z Zx) W noN us x→W0.heap.size≤W.heap.size →
   YieldAt (Fw none) 0 P l us.toArray W fun e W'=>(e = .returned (.bool true)∧∃ C' Z',J (k+1) y C' Z' W'∧Kept C W W'∧(∀ b,C' b→C b∨W.heap.size≤b)∧(∀ b,Z b∨Zx b→Z' b))∨(e = .returned (.bool false)∧∃ k' C' Z',Jx k' C' Z' W')) →
  CallsIn (Fw none) 0 P f #[.func (.yield l) #[] #[],v0,.pointer (some ⟨bx,0,none⟩)] W0 fun e W'=>(∃ v,e = .returned v)∧((∃ y C Z,J xs.length y C Z W')∨∃ k C Z,Jx k C Z W')
section
variable {P:Program} {N:Nat} {Q:Post} {env:List (Nat × D)} {box:List (Nat × Option Box)} {r s:Nat→Nat}
set_option maxHeartbeats 1000000
theorem awp_rangeM {α γ : Type} {g : Operand} {ps : Array Tmp} {assign body : Code} {f : FuncId} {c0 c1 : D} {tb : TypeId} {u : γ → Value} (y0 : γ) (kx : Nat) {xs : List (List D)} {fn : Func} [hf : FI P f fn] (hit : ItrDM P f c1 tb u y0 xs) (hg : Opd (lk env) g (.clo f [c0, .eptr kx 0 0 0])) (hcv : Cvt c0 c1) [hod : OldD c1] (hno : c0.free (fun _ => false) = true) (hone : ∀ y, (u y).oneCell' = true)
  (B : Nat → γ → List (Nat × Option Box)) (BX : α → List (Nat × Option Box)) (ok : α → Prop) (ex : α → Code) (F : Nat → Prop) (hF00 : F 0) (hex : ∀ y, ok y → ex y = .ret ∨ ∃ id, ex y = .exit id)
  (hps : (ps.toList.all fun t => Nat.blt t N) = true) (hnd : ps.toList.Nodup) (hlen : ∀ x, x ∈ xs → x.length = ps.size)
  (hr : Two r s box) (hB : ∀ k y x, x ∈ B k y → r (s x.1) = x.1) (hBX : ∀ y x, x ∈ BX y → r (s x.1) = x.1) (hBB : ∀ k y, renB r (renB s (B k y)) = B k y) (hkx : 1000 ≤ kx ∧ r kx < 1000 ∧ s (r kx) = kx) (hpk : ∀ k y, hk (renB s (B k y)) kx = some (.lit tb [.val (u y)])) (hpo : ∀ k y y' x, x ≠ kx → hk (renB s (B k y')) x = hk (renB s (B k y)) x)
  (hfr : envFree (fun k => Nat.blt (r k) 1000 && Nat.beq (s (r k)) k) env = true)
  (h0 : Sub (lk env) (hk box) (lk env) (hk (renB s (B 0 y0))))
  (hround : ∀ k y x l, F k → xs[k]? = some x → AWp (some l) P N assign (lk (renE r (zipE ps.toList x ++ env))) (hk (B k y)) (AThen (fun E1 H1 => AWp (some l) P N body E1 H1 (RndP (F (k + 1)) (B (k + 1) y) BX ok ex)) (fun _ _ _ => False)))
  (hdone : ∀ y, F xs.length → Q .normal (lk env) (hk (renB s (B xs.length y)))) (hstop : ∀ y, ok y → Q (exitOf (ex y)) (lk env) (hk (renB s (BX y)))) : AWp none P N (.rangeFunc g ps assign body) (lk env) (hk box) Q := fun S a w hN hR => by
 obtain ⟨Z, i, hF⟩ := h0 S a w hR
 obtain ⟨v0, bx, cpx, hgv, hv0, hbx⟩ : ∃ (v0 : Value) (bx : Nat) (cp : Cp), a.eval g = .func (.func f) #[] #[v0, .pointer (some ⟨bx, 0, none⟩)] ∧ Rep (fun o b => o = true ∧ Z true b) w noN v0 c1 ∧ i kx = some (some (bx, cp)) := by
  have h1 := hF.opd hg
  generalize a.eval g = v at h1 ⊢
  cases h1 with
  | clo _ _ vs _ hl hr =>
   match vs, hl with
   | [va, vb], _ =>
    have ra : Rep Z w i va c0 := hr 0 (by simp)
    have rb : Rep Z w i vb (.eptr kx 0 0 0) := hr 1 (by simp)
    have r2 : Rep Z w noN va c0 := ra.nm (p := fun _ => false) hno (fun k x hk => by cases hk)
    have r3 : Rep (fun o b => o = true ∧ Z true b) w noN va c1 := hod.od (fun b hb => ⟨rfl, hb⟩) (hcv.cv hF.zsub r2)
    cases rb with | @eptr _ b cp _ _ _ _ hib =>
    exact ⟨va, b, cp, by simp, r3, hib⟩
 refine wpIn_rangeFunc ?_
 intro fnid _
 obtain ⟨rec, hrec⟩ : ∃ rec : LoopState → Option Code → Loop, rec = fun st pe => { state := st, pending := pe, fn := fnid, tmps := a.tmps, params := ps, assign, body, defers := w.heap.size } := ⟨_, rfl⟩
 obtain ⟨W1, hW1⟩ : ∃ W1, (w.alloc (.deferred (some []))).alloc (.loop (rec .ready none)) = W1 := ⟨_, rfl⟩
 have hs1 : W1.heap.size = w.heap.size + 2 := by rw [← hW1]; simp
 have hold1 : ∀ b, b < w.heap.size → W1.heap[b]? = w.heap[b]? := fun b hb => by rw [← hW1]; exact (Below.heap_alloc _ _ _ (by simp; omega)).trans (Below.heap_alloc _ _ _ hb)
 have hL1 : W1.heap[w.heap.size + 1]? = some (.loop (rec .ready none)) := by
  rw [← hW1]; have := World.alloc_heap_new (w.alloc (.deferred (some []))) (.loop (rec .ready none)); rwa [World.size_alloc] at this
 have hK1 : W1.heap[w.heap.size]? = some (.deferred (some [])) := by
  rw [← hW1]; exact (Below.heap_alloc _ _ _ (by simp)).trans (World.alloc_heap_new w _)
 have hF1 : Fits S (lk env) (hk (renB s (B 0 y0))) Z i a W1 := hF.grown (w' := W1) (by rw [← hW1]; exact ⟨rfl, rfl, rfl, by simp; omega⟩) hold1 (fun _ _ h => h) (fun b hb => .inl hb) (fun b hb => ⟨hF.zsub b hb, hF.zNew b hb⟩)
 have hw0 : S.w0.heap.size ≤ w.heap.size := hF.kept.size
 have hw1 : S.w1.heap.size ≤ w.heap.size := hF.kept1.size
 obtain ⟨D, hD⟩ : ∃ D, D = w.heap.size := ⟨_, rfl⟩
 obtain ⟨l, hl⟩ : ∃ l, l = w.heap.size + 1 := ⟨_, rfl⟩
 have hlz1 : ∀ q b, S.Z1 q b → b < w.heap.size := fun q b hb => by
  have := hF.zk1 q b hb
  exact (hF.zOld b (by cases q; exact hF.zsub b this; exact this)).1
 -- what holds between two rounds
 let St : Option Code → List (Nat × Option Box) → (Nat → Prop) → (Nat → Prop) → World → Prop := fun pe bl C Zc W => W.heap[l]? = some (.loop (rec (if pe.isNone then .ready else .done) pe)) ∧ W.heap[D]? = some (.deferred (some [])) ∧ ∃ Zn i, Fits S (lk env) (hk bl) Zn i a W ∧ ¬ Zn true l ∧ ¬ Zn true D ∧ (∀ b, C b ↔ mutsOf (hk bl) i b ∨ b = l ∨ b = D) ∧ (∀ b, Zc b ↔ Zn true b) ∧ ∃ cp, i kx = some (some (bx, cp))
 have stOk : ∀ {pe bl C Zc W}, St pe bl C Zc W → (∀ b, C b → b < W.heap.size ∧ ¬ Zc b) ∧ ∀ b, Zc b → b < W.heap.size := fun {pe bl C Zc W} ⟨h1, h2, Zn, i, h3, h4, h5, h6, h7, h8⟩ => by
  refine ⟨fun b hb => ?_, fun b hb => (h3.zOld b ((h7 b).1 hb)).1⟩
  rw [h7]
  rcases (h6 b).1 hb with q | rfl | rfl
  ·exact ⟨(mutsOf_bk h3 q).1, (mutsOf_bk h3 q).2.1⟩
  ·exact ⟨(Array.getElem?_eq_some_iff.1 h1).1, h4⟩
  ·exact ⟨(Array.getElem?_eq_some_iff.1 h2).1, h5⟩
 have stSt : ∀ {pe bl C Zc W W'}, St pe bl C Zc W → W'.os = W.os ∧ W'.tape = W.tape ∧ W'.output = W.output ∧ W.heap.size ≤ W'.heap.size → (∀ b, b < W.heap.size → C b ∨ Zc b ∨ b < W1.heap.size → W'.heap[b]? = W.heap[b]?) → St pe bl C Zc W' := fun {pe bl C Zc W W'} ⟨h1, h2, Zn, i, h3, h4, h5, h6, h7, h8⟩ hos hk' =>
  ⟨(hk' l (Array.getElem?_eq_some_iff.1 h1).1 (.inl ((h6 l).2 (.inr (.inl rfl))))).trans h1, (hk' D (Array.getElem?_eq_some_iff.1 h2).1 (.inl ((h6 D).2 (.inr (.inr rfl))))).trans h2, Zn, i,
   h3.apart (n0 := W1.heap.size) hos (fun b hb hc => hk' b hb (by rcases hc with q | q | q; exact .inl ((h6 b).2 (.inl q)); exact .inr (.inl ((h7 b).2 q)); exact .inr (.inr q))) (by omega) (by omega), h4, h5, h6, h7, h8⟩
 refine ⟨l, [{ target := .collected D, args := #[] }], W1, { target := .fn (.func f) #[v0, .pointer (some ⟨bx, 0, none⟩)], args := #[.func (.yield l) #[] #[]] }, W1, f, #[.func (.yield l) #[] #[], v0, .pointer (some ⟨bx, 0, none⟩)], W1, ?_, ?_, fun _ _ => trivial, ?_, fun h => (by cases h), ?_⟩
 ·rw [← hW1, hrec, hD, hl]; exact run_enterLoop_outer _ _ _ _ _
 ·simp only [resolve, hgv]
  simp [go_sem]
 ·simp [invoke, go_sem, hf.enters]
 ·have hl0 : ¬ Z true l := fun hz => by have := (hF.zOld l hz).1; omega
  have hD0 : ¬ Z true D := fun hz => by have := (hF.zOld D hz).1; omega
  have pk : ∀ {k : Nat} {y : γ} {C Zc W}, St none (renB s (B k y)) C Zc W → Bk W bx tb #[u y] ∧ ¬ Zc bx ∧ C bx := fun {k y C Zc W} ⟨g1, g2, Zn, i', g3, g4, g5, g6, g7, cp, g8⟩ => by
   rcases g3.box kx _ (hpk k y) with ⟨b, c, e1, e2, e3, e4, cs, e5, e6, e7⟩ | ⟨e1, _⟩
   ·rw [g8] at e1; cases e1
    have := (e7 0 (by simp)).2.valEq
    obtain ⟨l⟩ := cs
    match l, e6 with
    | [c0], _ =>
     simp at this
     subst this
     exact ⟨e5, fun hz => (e3 rfl).1 ((g7 _).1 hz), (g6 _).2 (.inl ⟨kx, _, hpk k y, rfl, .root g8⟩)⟩
   ·rw [g8] at e1; cases e1
  have po : ∀ {k : Nat} {y y' : γ} {C Zc W W'}, St none (renB s (B k y)) C Zc W → W'.os = W.os ∧ W'.tape = W.tape ∧ W'.output = W.output ∧ W'.heap.size = W.heap.size → (∀ b, b ≠ bx → W'.heap[b]? = W.heap[b]?) → Bk W' bx tb #[u y'] → St none (renB s (B k y')) C Zc W' := fun {k y y' C Zc W W'} hst hos ho hb => by
   obtain ⟨p1, p2, _⟩ := pk hst
   obtain ⟨g1, g2, Zn, i', g3, g4, g5, g6, g7, cp, g8⟩ := hst
   have hcl : ∀ {o : Obj} {b : Nat}, W.heap[b]? = some o → (∀ cs t f, o ≠ .cells cs t f) → b ≠ bx := fun {o b} h1 h2 e => by
    subst e
    unfold Bk at p1
    rw [h1] at p1
    exact h2 _ _ _ (Option.some.inj p1)
   have hlx := hcl g1 (fun _ _ _ h => by cases h)
   have hDx := hcl g2 (fun _ _ _ h => by cases h)
   have hiff : ∀ b, mutsOf (hk (renB s (B k y'))) i' b ↔ mutsOf (hk (renB s (B k y))) i' b := fun b => by
    constructor
    ·rintro ⟨q, Bq, q1, q2, q3⟩
     by_cases e : q = kx
     ·subst e; rw [hpk] at q1; cases q1; exact ⟨q, _, hpk k y, rfl, by obtain ⟨cp', e'⟩ := q3.flat rfl; exact .root e'⟩
     ·exact ⟨q, Bq, by rw [← hpo k y y' q e]; exact q1, q2, q3⟩
    ·rintro ⟨q, Bq, q1, q2, q3⟩
     by_cases e : q = kx
     ·subst e; rw [hpk] at q1; cases q1; exact ⟨q, _, hpk k y', rfl, by obtain ⟨cp', e'⟩ := q3.flat rfl; exact .root e'⟩
     ·exact ⟨q, Bq, by rw [hpo k y y' q e]; exact q1, q2, q3⟩
   refine ⟨(ho l hlx).trans g1, (ho D hDx).trans g2, Zn, i', ?_, g4, g5, fun b => by rw [g6, hiff], g7, cp, g8⟩
   refine g3.step (fun x => x = kx) ⟨hos.1, hos.2.1, hos.2.2.1, Nat.le_of_eq hos.2.2.2.symm⟩ (fun b _ hn => ho b (fun e => hn kx _ rfl (hpk k y) rfl (by subst e; exact .root g8))) (fun _ _ => rfl) (fun x hx => hpo k y y' x hx) (fun x hx e => by subst hx; rw [hpk] at e; cases e) (fun x _ e => g3.nil x e) (fun x hx e => g3.nil x e) (fun _ _ h => h) (fun b hb => .inl hb) (fun b hb => ⟨g3.zsub b hb, g3.zNew b hb⟩) (fun x Bq hx hB => ?_) (fun x Bq b hx hB hm hf => .inr ⟨kx, _, rfl, fun h => by omega, hpk k y, rfl, ?_⟩) (fun x x' _ _ _ hx hx' _ _ _ _ _ _ => hx.trans hx'.symm)
   ·subst hx
    rw [hpk] at hB; cases hB
    rcases g3.box x _ (hpk k y) with ⟨b, c, e1, e2, e3, e4, e5⟩ | ⟨e1, _⟩
    ·rw [g8] at e1; cases e1
     refine .inl ⟨bx, _, g8, e2, e3, fun h => (by cases h), #[u y'], hb, rfl, fun j hj => ?_⟩
     obtain rfl : j = 0 := by simpa using hj
     exact ⟨hone y', .val _ _⟩
    ·rw [g8] at e1; cases e1
   ·subst hx
    rw [hpk] at hB; cases hB
    obtain ⟨cp', e'⟩ := hf.flat rfl
    exact .root e'
  refine (hit l (fun b => mutsOf (hk (renB s (B 0 y0))) i b ∨ b = l ∨ b = D) (Z true) W1 v0 bx (fun k y C Zc W => F k ∧ St none (renB s (B k y)) C Zc W) (fun _ C Zc W => ∃ y, ok y ∧ St (some (ex y)) (renB s (BX y)) C Zc W) ⟨fun h a b => ⟨h.1, stSt h.2 a b⟩, fun h => stOk h.2, fun h => pk h.2, fun h a b c => ⟨h.1, po h.2 a b c⟩⟩ ⟨fun ⟨y, hy, h⟩ a b => ⟨y, hy, stSt h a b⟩, fun ⟨y, _, h⟩ => stOk h⟩
   ⟨hF00, hl ▸ hL1, hD ▸ hK1, Z, i, hF1, hl0, hD0, fun _ => Iff.rfl, fun _ => Iff.rfl, cpx, hbx⟩ (hv0.mem (fun q b hb => ⟨hb, hold1 b (hF.zOld b hb.2).1⟩)) ?_).mono ?_
  ·intro k y C Zc W x us Zx hx ⟨hFk, g1, g2, Zn, i', g3, g4, g5, g6, g7, cp8, g8⟩ hZx hus hsz
   replace g1 : W.heap[l]? = some (.loop (rec .ready none)) := g1
   have F1 := g3.more (Zx := Zx) (fun b hb => ⟨by have := (hZx b hb).1; omega, (hZx b hb).2.1, fun hm => (hZx b hb).2.2 ((g6 b).2 (.inl hm))⟩)
   have hxl := hlen x (List.mem_of_getElem? hx)
   have hul : us.length = ps.toList.length := by rw [hus.1, hxl]; simp
   have hlt : l < W.heap.size := (Array.getElem?_eq_some_iff.1 g1).1
   have hDt : D < W.heap.size := (Array.getElem?_eq_some_iff.1 g2).1
   have hlD : l ≠ D := by omega
   have hzx : ∀ b, Zx b → b ≠ l ∧ b ≠ D := fun b hb => ⟨fun e => (hZx b hb).2.2 ((g6 b).2 (.inr (.inl e))), fun e => (hZx b hb).2.2 ((g6 b).2 (.inr (.inr e)))⟩
   have hnl : ∀ q, ¬ (Zn q l ∨ Zx l) := fun q hz => hz.elim (fun h => g4 (by cases q; exact g3.zsub l h; exact h)) (fun h => (hzx l h).1 rfl)
   have hnD : ∀ q, ¬ (Zn q D ∨ Zx D) := fun q hz => hz.elim (fun h => g5 (by cases q; exact g3.zsub D h; exact h)) (fun h => (hzx D h).2 rfl)
   have hnml : ¬ mutsOf (hk (renB s (B k y))) i' l := fun hm => by obtain ⟨_, _, _, t, cs, q⟩ := mutsOf_bk F1 hm; unfold Bk at q; rw [g1] at q; cases q
   have hnmD : ¬ mutsOf (hk (renB s (B k y))) i' D := fun hm => by obtain ⟨_, _, _, t, cs, q⟩ := mutsOf_bk F1 hm; unfold Bk at q; rw [g2] at q; cases q
   have hy := run_yield (P := P) (args := us.toArray) g1 (by rw [hrec]; simp; simpa using hul)
   obtain ⟨tm, htm⟩ : ∃ tm, ((rec .ready none).params.zip us.toArray).foldl (fun tmps (t, a) => tmps.setIfInBounds t a) (rec .ready none).tmps = tm := ⟨_, rfl⟩
   have htm2 : (ps.toList.zip us).foldl (fun a p => a.setIfInBounds p.1 p.2) a.tmps = tm := by
    rw [← htm, hrec, ← Array.foldl_toList]
    simp
   have htwo : Two r s (renB s (B k y)) := ⟨hr.low, fun y9 hy => by
    obtain ⟨z, z1, z2⟩ := renB_mem hy
    rw [z2, hB k y z z1]⟩
   have F2 := F1.round (a2 := { tmps := tm, defers := [] }) (E2 := lk (zipE ps.toList x ++ env)) htwo rfl (by show tm.size = _; rw [← htm2, foldl_size]; exact F1.size) (fun t => by
    show Rep _ _ _ (tm.getD t undef) _
    rw [← htm2]
    refine zip_put ps.toList us x a.tmps env hul (by simpa using hxl) (fun t ht => ?_) hnd (fun j hj => ?_) F1.env t
    ·have := List.all_eq_true.1 hps t ht
     rw [F1.size, hN]; simpa using this
    ·refine ((hus.2 j hj).mem (Z' := fun q b => Zn q b ∨ Zx b) (w' := W) (fun q b hb => ⟨?_, rfl⟩)).ext (fun k x e => by cases e)
     cases q
     ·exact .inr hb
     ·rcases hb with hb | hb
      ·exact .inl ((g7 b).1 hb)
      ·exact .inr hb)
   rw [hBB] at F2
   rw [show (fun t => (lk (zipE ps.toList x ++ env) t).ren r) = lk (renE r (zipE ps.toList x ++ env)) from funext fun t => (renE_at _ t).symm] at F2
   rw [htm] at hy
   refine ⟨fnid, tm, assign, body, by rw [hy, hrec], roundIn_of_wpIn (F := Fw none) trivial ?_⟩
   refine wpIn_mono (hround k y x l hFk hx { S with df := [], i0 := nmR r s i', w1 := W, M1 := mutsOf (hk (renB s (B k y))) i', Z1 := fun q b => Zn q b ∨ Zx b } _ _ hN ⟨_, _, F2⟩) (fun e a1 Wa ⟨E1, H1, q1, q2⟩ => ?_)
   cases e with
   | normal =>
    obtain ⟨Z1, i1, F3⟩ := q2
    have hla : Wa.heap[l]? = some (.loop (rec .ready none)) := (F3.kept1.block l hlt hnml).trans g1
    have hDa : Wa.heap[D]? = some (.deferred (some [])) := (F3.kept1.block D hDt hnmD).trans g2
    have hlta : l < Wa.heap.size := (Array.getElem?_eq_some_iff.1 hla).1
    refine ⟨_, run_beginRound hla (by rw [hrec]), ?_⟩
    obtain ⟨Wb, hWb⟩ : ∃ Wb, Wa.putObj l (.loop { rec .ready none with state := .busy }) = Wb := ⟨_, rfl⟩
    rw [hWb]
    have hlb2 : Wb.heap[l]? = some (.loop { rec .ready none with state := .busy }) := by rw [← hWb]; exact World.putObj_heap_same hlta
    have hob : ∀ b, b ≠ l → Wb.heap[b]? = Wa.heap[b]? := fun b hb => by rw [← hWb]; exact World.putObj_heap_other hb
    have hsb : Wb.heap.size = Wa.heap.size := by rw [← hWb]; simp
    have F3' : Fits { S with df := [], i0 := nmR r s i', w1 := Wa, M1 := fun b => mutsOf H1 i1 b ∨ b = l, Z1 := fun q b => Zn q b ∨ Zx b } E1 H1 Z1 i1 a1 Wa :=
     { F3 with kept1 := Kept.refl _ _, zk1 := F3.zk1, box := fun k B hB => (F3.box k B hB).imp (fun ⟨b, c, e1, e2, e3, e4, e5⟩ => ⟨b, c, e1, e2, fun hm => ⟨(e3 hm).1, .inr (.inl ⟨k, B, hB, hm, .root e1⟩)⟩, e4, e5⟩) id, foot := fun k B b hB hm hf => (fun f => ⟨f.1, f.2.1, f.2.2.1, .inr (.inl ⟨k, B, hB, hm, hf⟩)⟩) (F3.foot k B b hB hm hf) }
    have F4 := F3'.other (l := l) (w' := Wb) hla (fun _ _ _ h => by cases h) (by rw [← hWb]; exact ⟨rfl, rfl, rfl, by simp⟩) hob (by show S.w0.heap.size ≤ l; omega) (.inr (.inr rfl)) hnl (fun ms _ h hm => by have := (h l hm).2; rw [hla] at this; cases this)
    have F5 := F4.now
    refine wpIn_mono (q1 { S with df := [], i0 := nmR r s i', w1 := Wb, M1 := mutsOf H1 i1, Z1 := fun q b => Z1 q b ∧ b ≠ l } _ _ hN ⟨_, _, F5⟩) (fun e a3 W3 ⟨E3, H3, p1, p2⟩ => ?_)
    have hM3 : ∀ b, mutsOf H1 i1 b → W.heap.size ≤ b ∨ mutsOf (hk (renB s (B k y))) i' b := fun b hb => (mutsOf_bk F3 hb).2.2.1
    have fin : ∀ (jump : Option Code) (bl : List (Nat × Option Box)), Sub E3 H3 (lk []) (hk bl) → (∀ x, x ∈ bl → r (s x.1) = x.1) → ∃ W4, (Instr.endRound l jump).run P W3 = .ok (.bool jump.isNone) W4 ∧ ∃ C' Z'', St jump (renB s bl) C' Z'' W4 ∧ Kept C W W4 ∧ (∀ b, C' b → C b ∨ W.heap.size ≤ b) ∧ (∀ b, Zc b ∨ Zx b → Z'' b) := fun jump bl hsub hbl => by
     obtain ⟨Z3, i3, F6⟩ := hsub _ _ _ p2
     have hnl3 : ∀ b, (b = l ∨ b = D) → ¬ mutsOf H1 i1 b := fun b hb hm => by
      obtain ⟨_, _, _, t, cs, q⟩ := mutsOf_bk F5 hm
      unfold Bk at q
      rcases hb with rfl | rfl
      ·rw [hlb2] at q; cases q
      ·rw [hob _ (Ne.symm hlD), hDa] at q; cases q
     have hl3 : W3.heap[l]? = some (.loop { rec .ready none with state := .busy }) := (F6.kept1.block l (by show l < Wb.heap.size; omega) (hnl3 l (.inl rfl))).trans hlb2
     have hD3 : W3.heap[D]? = some (.deferred (some [])) := (F6.kept1.block D (by show D < Wb.heap.size; have := (Array.getElem?_eq_some_iff.1 hDa).1; omega) (hnl3 D (.inr rfl))).trans ((hob D (Ne.symm hlD)).trans hDa)
     have hK : Kept (fun b => mutsOf (hk (renB s (B k y))) i' b ∨ b = l) W W3 := by
      have ka := F3.kept1
      have kb := F6.kept1
      refine ⟨kb.os.trans (by rw [← hWb]; exact ka.os), kb.tape.trans (by rw [← hWb]; exact ka.tape), kb.output.trans (by rw [← hWb]; exact ka.output), Nat.le_trans (Nat.le_trans ka.size (Nat.le_of_eq hsb.symm)) kb.size, fun b hb hn => ?_⟩
      have hba : b < Wa.heap.size := Nat.lt_of_lt_of_le hb ka.size
      refine (kb.block b (by show b < Wb.heap.size; omega) (fun hm => ?_)).trans ((hob b (fun e => hn (.inr e))).trans (ka.block b hb (fun hm => hn (.inl hm))))
      rcases hM3 b hm with q | q
      ·omega
      ·exact hn (.inl q)
     have hzz : ∀ q b, (Zn q b ∨ Zx b) → Z3 q b := fun q b hb => F6.zk1 q b ⟨F3.zk1 q b hb, fun e => hnl q (e ▸ hb)⟩
     have F7 := F1.over htwo F6 rfl rfl rfl rfl hzz hK (fun b hb => hb.imp id (fun e => by subst e; exact ⟨by omega, hnl true⟩)) (by show S.w1.heap.size ≤ Wb.heap.size; have := F3.kept1.size; have : W.heap.size ≤ Wa.heap.size := this; omega) (fun b hb => by
      rcases hM3 b hb with q | q
      ·exact .inl (by have := F1.kept1.size; omega)
      ·exact (mutsOf_bk F1 q).2.2.1) hbl hfr
     obtain ⟨W4, hW4⟩ : ∃ W4, W3.putObj l (.loop (rec (if jump.isNone then .ready else .done) jump)) = W4 := ⟨_, rfl⟩
     have ho4 : ∀ b, b ≠ l → W4.heap[b]? = W3.heap[b]? := fun b hb => by rw [← hW4]; exact World.putObj_heap_other hb
     have hl4 : W4.heap[l]? = some (.loop (rec (if jump.isNone then .ready else .done) jump)) := by rw [← hW4]; exact World.putObj_heap_same (Array.getElem?_eq_some_iff.1 hl3).1
     have hD4 : W4.heap[D]? = some (.deferred (some [])) := (ho4 D (Ne.symm hlD)).trans hD3
     have hs4 : W4.os = W3.os ∧ W4.tape = W3.tape ∧ W4.output = W3.output ∧ W4.heap.size = W3.heap.size := by rw [← hW4]; exact ⟨rfl, rfl, rfl, by simp⟩
     have F8 := F7.other (l := l) (w' := W4) hl3 (fun _ _ _ h => by cases h) hs4 ho4 (by omega) (.inl (by omega)) (fun q hq => by have := hlz1 q l hq; omega) (fun ms _ h hm => by have := (h l hm).2; rw [hl3] at this; cases this)
     have F9 := F8.other (l := D) (w' := W4) hD4 (fun _ _ _ h => by cases h) ⟨rfl, rfl, rfl, rfl⟩ (fun _ _ => rfl) (by omega) (.inl (by omega)) (fun q hq => by have := hlz1 q D hq; omega) (fun ms he _ hm => by
      obtain ⟨ms', d1, d2, d3⟩ := F1.defers
      rw [d1] at he
      rw [← mark_inj he] at hm
      exact hnD _ (d3 D hm).1)
     have hnk : nmR s r i3 kx = some (some (bx, cp8)) := by
      have e1 : i3 (r kx) = nmR r s i' (r kx) := F6.low _ hkx.2.1
      unfold nmR at e1 ⊢
      rw [hkx.2.2] at e1 ⊢
      rw [if_pos rfl] at e1 ⊢
      rw [e1]; exact g8
     refine ⟨W4, ?_, fun b => mutsOf (hk (renB s bl)) (nmR s r i3) b ∨ b = l ∨ b = D, fun b => (Z3 true b ∧ b ≠ l) ∧ b ≠ D, ⟨hl4, hD4, _, _, F9, fun h => h.1.2 rfl, fun h => h.2 rfl, fun _ => Iff.rfl, fun _ => Iff.rfl, cp8, hnk⟩, ⟨hs4.1.trans hK.os, hs4.2.1.trans hK.tape, hs4.2.2.1.trans hK.output, by rw [hs4.2.2.2]; exact hK.size, fun b hb hn => ?_⟩, fun b hb => ?_, fun b hb => ?_⟩
     ·have := run_endRound (P := P) jump hl3
      rw [this, ← hW4, hrec]
     ·refine (ho4 b (fun e => hn ((g6 b).2 (.inr (.inl e))))).trans (hK.block b hb (fun hm => hn ((g6 b).2 ?_)))
      rcases hm with q | q
      ·exact .inl q
      ·exact .inr (.inl q)
     ·rcases hb with q | q
      ·rcases (mutsOf_bk F6 (muts_back hbl q)).2.2.1 with q1 | q1
       ·exact .inr (by have h1 := F3.kept1.size; have h2 : W.heap.size ≤ Wa.heap.size := h1; have h3 : Wb.heap.size ≤ b := q1; omega)
       ·rcases hM3 b q1 with q2 | q2
        ·exact .inr q2
        ·exact .inl ((g6 b).2 (.inl q2))
      ·exact .inl ((g6 b).2 (.inr q))
     ·have hb2 : Zn true b ∨ Zx b := hb.imp (g7 b).1 id
      exact ⟨⟨hzz true b hb2, fun e => hnl true (e ▸ hb2)⟩, fun e => hnD true (e ▸ hb2)⟩
    have fin2 : ∀ e : Exit, (∃ y1, ok y1 ∧ e = exitOf (ex y1) ∧ Sub E3 H3 (lk []) (hk (BX y1))) → e ≠ .normal → roundPost P l (fun e W' => (e = .returned (.bool true) ∧ ∃ C' Z', (F (k + 1) ∧ St none (renB s (B (k + 1) y)) C' Z' W') ∧ Kept C W W' ∧ (∀ b, C' b → C b ∨ W.heap.size ≤ b) ∧ (∀ b, Zc b ∨ Zx b → Z' b)) ∨ (e = .returned (.bool false) ∧ ∃ k' C' Z', ∃ y1, ok y1 ∧ St (some (ex y1)) (renB s (BX y1)) C' Z' W')) e a3 W3 := fun e ⟨y1, hy, he, hsub⟩ hne => by
     obtain ⟨W4, f1, C', Z'', f2, _⟩ := fin (some (ex y1)) (BX y1) hsub (hBX y1)
     subst he
     rcases hex y1 hy with h | ⟨id, h⟩ <;> rw [h] at f1 f2 ⊢
     ·exact ⟨_, _, f1, .inr ⟨rfl, 0, C', Z'', y1, hy, by rw [h]; exact f2⟩⟩
     ·exact ⟨_, _, f1, .inr ⟨rfl, 0, C', Z'', y1, hy, by rw [h]; exact f2⟩⟩
    cases e with
    | normal =>
     obtain ⟨W4, f1, C', Z'', f2, f3, f4, f5⟩ := fin none (B (k + 1) y) p1.2 (hB (k + 1) y)
     exact ⟨_, _, f1, .inl ⟨rfl, C', Z'', ⟨p1.1, f2⟩, f3, f4, f5⟩⟩
    | ret => exact fin2 .ret p1 (by simp)
    | exit id => exact fin2 (.exit id) p1 (by simp)
    | goto t =>
     obtain ⟨y, hy, he, _⟩ := p1
     rcases hex y hy with h | ⟨id, h⟩ <;> rw [h] at he <;> cases he
    | panic c =>
     obtain ⟨y, hy, he, _⟩ := p1
     rcases hex y hy with h | ⟨id, h⟩ <;> rw [h] at he <;> cases he
    | outgrown =>
     obtain ⟨y, hy, he, _⟩ := p1
     rcases hex y hy with h | ⟨id, h⟩ <;> rw [h] at he <;> cases he
   | _ => exact q1.elim
  ·have last : ∀ (pe : Option Code) (bl : List (Nat × Option Box)) (C Zc : Nat → Prop) (W : World), St pe bl C Zc W → ∃ W5, (Instr.endLoop l).run P W = .ok pe W5 ∧ RepS S (lk env) (hk bl) { a with defers := { target := .collected D, args := #[] } :: a.defers } W5 := fun pe bl C Zc W ⟨g1, g2, Zn, i', g3, g4, g5, g6, g7, _⟩ => by
    obtain ⟨W5, hW5⟩ : ∃ W5, W.putObj l (.loop { rec (if pe.isNone then .ready else .done) pe with state := .exhausted }) = W5 := ⟨_, rfl⟩
    have ho5 : ∀ b, b ≠ l → W5.heap[b]? = W.heap[b]? := fun b hb => by rw [← hW5]; exact World.putObj_heap_other hb
    refine ⟨W5, ?_, _, i', ((g3.other (l := l) (w' := W5) g1 (fun _ _ _ h => by cases h) (by rw [← hW5]; exact ⟨rfl, rfl, rfl, by simp⟩) ho5 (by omega) (.inl (by omega)) (fun q hq => by have := hlz1 q l hq; omega) (fun ms _ h hm => by have := (h l hm).2; rw [g1] at this; cases this)).addmark (b := D) ((ho5 D (by omega)).trans g2) (fun h => g5 h.1) (by omega))⟩
    have := run_endLoop (P := P) g1 (by rw [hrec]; cases pe <;> simp)
    rw [this, ← hW5, hrec]
   rintro e W2 ⟨⟨v, rfl⟩, (⟨y, C, Zc, hst⟩ | ⟨k, C, Zc, y, hy, hst⟩)⟩
   ·obtain ⟨W5, e1, e2⟩ := last _ _ _ _ _ hst.2
    exact ⟨none, W5, e1, _, _, hdone y hst.1, e2⟩
   ·obtain ⟨W5, e1, e2⟩ := last _ _ _ _ _ hst
    exact ⟨some (ex y), W5, e1, wpIn_code (hex y hy) ⟨_, _, hstop y hy, e2⟩⟩
end
section
variable {ro:Option Nat} {P:Program} {N:Nat} {Q:Post} {env env1:List (Nat × D)} {box:List (Nat × Option Box)}
theorem hk_first {k:Nat} {a a':Option Box} {l:List (Nat × Option Box)} {x:Nat} (h:x≠k):hk ((k,a')::l) x=hk ((k,a)::l) x:=by
 simp only [hk,beq_ne (Ne.symm h)]
theorem c_rangeM {α γ:Type} (pins:List Nat) (kx:Nat) {f:FuncId} {c0 c1:D} {tb:TypeId} {u:γ→Value} {y0:γ} {xs:List (List D)} (hit:ItrDM P f c1 tb u y0 xs) (n:Nat) (hn:xs.length=n) (X:Nat→List D) (hX:∀ k,k<n→xs[k]? = some (X k)) (B:Nat→γ→List (Nat × Option Box)) (BX:α→List (Nat × Option Box)) (ok:α→Prop) (ex:α→Code) (F:Nat→Prop)
  {g:Operand} {ps:List Tmp} {assign body:Code} {fn:Func} {EZ ER:Nat→List (Nat × D)} {BS:Nat→γ→List (Nat × Option Box)} {BXS:α→List (Nat × Option Box)} [hf:FI P f fn] [hod:OldD c1] [hcv:Cvt c0 c1]
  (hF0:F 0) (hround:∀ k y l,k<n→F k→AWp (some l) P N assign (lk (ER k)) (hk (B k y)) (AThen (fun E1 H1=>AWp (some l) P N body E1 H1 (RndP (F (k+1)) (B (k+1) y) BX ok ex)) (fun _ _ _=>False)))
  (hdone:∀ y,F n→Q .normal (lk env1) (hk (BS n y))) (hstop:∀ y,ok y→Q (exitOf (ex y)) (lk env1) (hk (BXS y)))
  (he:autoParam (KeepE [] env env1) aq10._auto_1) (hBS:∀ k y,RenBL (unpN pins) (B k y) (BS k y):=by (intro k y;(repeat (first | exact RenBL.nil | (apply RenBL.cons;(focus ((first | exact unp_y rfl | exact unp_n rfl);done));(focus ((first | exact renb_free rfl | exact renb_lit (by (repeat (first | exact RenLL.nil | (apply RenLL.cons;(focus ((first | exact D.ren_free _ rfl | exact ren_eptr (by first | exact unp_y rfl | exact unp_n rfl) | exact ren_sl (by first | exact unp_y rfl | exact unp_n rfl));done)))))));done))))))) (hpo:∀ k y y' x,x≠kx→hk (BS k y') x=hk (BS k y) x:=by (intro k y y' x hx;exact hk_first hx)) (hone:∀ y,(u y).oneCell'=true:=by (intro y;rfl)) (hpk:∀ k y,hk (BS k y) kx=some (.lit tb [.val (u y)]):=by (intro k y;rfl)) (hkx:(Nat.ble 1000 kx && (Nat.blt (pinN pins kx) 1000 && Nat.beq (unpN pins (pinN pins kx)) kx))=true:=by rfl) (hBX:autoParam (∀ y,RenBL (unpN pins) (BX y) (BXS y)) aq7._auto_1) (hEZ:∀ k,ZipL ps (X k) env1 (EZ k):=by (intro k;(repeat (first | exact ZipL.nil | apply ZipL.cons)))) (hER:autoParam (∀ k,RenEL (pinN pins) (EZ k) (ER k)) aq2._auto_1)
  (hg:autoParam (Op1 env1 g (.clo f [c0,.eptr kx 0 0 0])) aq1._auto_1) (h0:Sub (lk env) (hk box) (lk env1) (hk (BS 0 y0)):=by exact sub)
  (hex:∀ y,ok y→ex y = .ret∨∃ id,ex y = .exit id:=by (intro y _;first | exact .inl rfl | exact .inr ⟨_,rfl⟩ | exact y.elim)) (hno:c0.free (fun _=>false)=true:=by rfl) (hps:(ps.all fun t=>Nat.blt t N)=true:=by rfl) (hnd:ps.Nodup:=by decide) (hlen:∀ k,(X k).length=ps.length:=by (intro k;rfl))
  (h1:∀ k y,((B k y).all fun x=>Nat.beq (pinN pins (unpN pins x.1)) x.1)=true:=by (intro k y;kernel_rfl)) (h2:∀ y,((BX y).all fun x=>Nat.beq (pinN pins (unpN pins x.1)) x.1)=true:=by (intro k;kernel_rfl)) (h3:∀ k y,RenBL (pinN pins) (BS k y) (B k y):=by (intro k y;(repeat (first | exact RenBL.nil | (apply RenBL.cons;(focus ((first | exact pin_y rfl | exact pin_n rfl);done));(focus ((first | exact renb_free rfl | exact renb_lit (by (repeat (first | exact RenLL.nil | (apply RenLL.cons;(focus ((first | exact D.ren_free _ rfl | exact ren_eptr (by first | exact pin_y rfl | exact pin_n rfl) | exact ren_sl (by first | exact pin_y rfl | exact pin_n rfl));done)))))));done))))))) (h4:(pins.all fun k=>Nat.ble 1000 k)=true:=by rfl)
  (hfr:envFree (fun k=>Nat.blt (pinN pins k) 1000 && Nat.beq (unpN pins (pinN pins k)) k) env1=true:=by kernel_rfl):AWp none P N (.rangeFunc g ps.toArray assign body) (lk env) (hk box) Q:=by
 have hB:∀ k y x,x∈B k y→pinN pins (unpN pins x.1)=x.1:=fun k y x hx=>by simpa using List.all_eq_true.1 (h1 k y) x hx
 simp only [Bool.and_eq_true] at hkx
 have hB':∀ y x,x∈BX y→pinN pins (unpN pins x.1)=x.1:=fun k x hx=>by simpa using List.all_eq_true.1 (h2 k) x hx
 refine awp_sub h0 ?_
 rw [← (hBS 0 y0).eq]
 refine awp_rangeM (r:=pinN pins) (s:=unpN pins) y0 kx hit hg.opd hcv hno hone B BX ok ex F hF0 hex hps hnd (fun x hx=>?_) ⟨fun k hk=>pin_low h4 k hk,fun x hx=>?_⟩ hB hB' (fun k y=>by rw [(hBS k y).eq,(h3 k y).eq]) ⟨Nat.le_of_ble_eq_true hkx.1,by simpa using hkx.2.1,Nat.eq_of_beq_eq_true hkx.2.2⟩ (fun k y=>by rw [(hBS k y).eq];exact hpk k y) (fun k y y' x hx=>by rw [(hBS k y).eq,(hBS k y').eq];exact hpo k y y' x hx) hfr (Sub.refl _ _) (fun k y x l hFk hx=>?_) (fun y=>by rw [hn,(hBS n y).eq];exact hdone y) (fun y hy=>by rw [(hBX y).eq];exact hstop y hy)
 ·obtain ⟨k,hk,rfl⟩:=List.getElem_of_mem hx
  have:=hX k (by omega)
  rw [List.getElem?_eq_getElem hk] at this
  rw [Option.some.inj this]
  simpa using hlen k
 ·obtain ⟨y,y1,y2⟩:=renB_mem hx
  rw [y2,hB 0 y0 y y1]
 ·have hk:k<n:=by rw [← hn];exact (List.getElem?_eq_some_iff.1 hx).1
  rw [hX k hk] at hx
  cases hx
  have:=hround k y l hk hFk
  rw [← (hER k).eq,← (hEZ k).eq] at this
  simpa using this
end
section
variable {ro:Option Nat} {P:Program} {N:Nat} {Q:Post} {ops:Array Oper} {rest:List Oper} {env:List (Nat × D)} {box:List (Nat × Option Box)} {done:List Rec} {K:List Rec→List (Nat × D)→List (Nat × Option Box)→Prop} {d:Nat} {ty:TypeId} {pos:String} {aft:Array Edge}
theorem r_callL {x:Operand} {xs:List Operand} {ts:Array TypeId} {f:FuncId} {fn:Func} {ds ads caps:List D} {r r' d0:D} {k0:Nat} {tp:TypeId} {l:List D} [hf:FI P f fn] [hod:OldDL ds] (hden:DenH P f ds [] r [] [(k0,(.lit tp l))]) (hr:r.ren (fun _=>1000+d)=r') (hl:D.ren.renL (fun _=>1000+d) l=l) (h:RunK P N ops rest ((d,r')::env) ((1000+d,some (.lit tp l))::box) (done++[⟨nsOf box (ads++caps),some d,r',[(1000+d,some (.lit tp l))],[1000+d]⟩]) K) (hx:autoParam (Op1 env x d0) aq1._auto_1) (hcl:autoParam ((d0 = .val (.func (.func f) #[] #[])∧caps=[])∨d0 = .clo f caps) aq12._auto_1) (ha:autoParam (Op1L env xs ads) aq5._auto_1) (hv:autoParam (ArgVL false [] (nsOf box (ads++caps)) [] (fun _=>1000+d) (hk box) (ads++caps) ds) aq0._auto_1) (hd:Nat.blt d N=true:=by rfl):RunK P N ops (⟨some d,.call { callee:=.value x,args:=xs.toArray,argTypes:=ts },ty,pos,aft,none⟩::rest) env box done K:=
 run_put (ws:=[(1000+d,some (.lit tp l))]) (fresh:=[1000+d]) (by have:=loc_call (lend:=false) (ρ:=fun _=>1000+d) (P:=P) (N:=N) (o:=⟨some d,.call { callee:=.value x,args:=xs.toArray,argTypes:=ts },ty,pos,aft,none⟩) rfl hd hx.opd hcl ha.opd hden hv (fun k B hm=>by cases hm) (fun k hk=>by cases hk) rfl rfl (fun h=>by cases h);rw [hr] at this;simp only [outL,List.nil_append,Box.ren,hl] at this;exact this) rfl h
end

def D.rf (k:Nat):D→Bool
 | .slr k' _ _ _=> !(Nat.beq k' k)
 | .eptrr k' _ _ _ _=> !(Nat.beq k' k)
 | .clo _ l=>rfL k l
 | .agg l=>rfL k l
 | .tup l=>rfL k l
 | _=>true
where rfL (k:Nat):List D→Bool
 | []=>true
 | d::l=>D.rf k d && rfL k l
theorem rfL_at {k:Nat}:∀ {l:List D},D.rf.rfL k l=true→∀ j,(dl l j).rf k=true
 | [],_,j=>rfl
 | d::l,h,0=>by simp only [D.rf.rfL,Bool.and_eq_true] at h;exact h.1
 | d::l,h,j+1=>by simp only [D.rf.rfL,Bool.and_eq_true] at h;exact rfL_at h.2 j
def norow (k:Nat) (i:Nm):Nm:=fun x=>if x=k then (match i k with | some (some (b,cp))=>some (some (b,⟨cp.c,noR⟩)) | o=>o) else i x
theorem norow_other {k x:Nat} {i:Nm} (h:x≠k):norow k i x=i x:=if_neg h
theorem norow_some {k b:Nat} {cp:Cp} {i:Nm} (h:i k=some (some (b,cp))):norow k i k=some (some (b,⟨cp.c,noR⟩)):=by unfold norow;rw [if_pos rfl,h]
theorem norow_nil {k:Nat} {i:Nm} (h:i k=some none):norow k i k=some none:=by unfold norow;rw [if_pos rfl,h]
theorem norow_get {k x b:Nat} {cp:Cp} {i:Nm} (h:i x=some (some (b,cp))):∃ cp',norow k i x=some (some (b,cp'))∧cp'.c=cp.c:=by
 by_cases q:x=k
 ·subst q;exact ⟨_,norow_some h,rfl⟩
 ·exact ⟨cp,(norow_other q).trans h,rfl⟩
theorem norow_back {k x b:Nat} {cp:Cp} {i:Nm} (h:norow k i x=some (some (b,cp))):∃ cp',i x=some (some (b,cp')):=by
 by_cases q:x=k
 ·subst q
  unfold norow at h
  rw [if_pos rfl] at h
  cases e:i x with
  | none=>rw [e] at h;cases h
  | some o=>
   cases o with
   | none=>rw [e] at h;cases h
   | some bc=>obtain ⟨b',c'⟩:=bc;rw [e] at h;cases h;exact ⟨_,rfl⟩
 ·rw [norow_other q] at h;exact ⟨cp,h⟩
section
variable {Z:Zn} {w:World} {i:Nm} {v:Value} {d:D} {k:Nat}
theorem Rep.norow (h:Rep Z w i v d):d.rf k=true→Rep Z w (Go.Proofs.YtmjildbdkecolaaGreat.norow k i) v d:=by
 induction h with
 | any i v=>intro _;exact .any _ _
 | val i v=>intro _;exact .val _ _
 | eptr i k' m e c h=>intro _;obtain ⟨cp',e1,_⟩:=norow_get (k:=k) h;exact .eptr _ _ _ _ _ e1
 | sl i k' m len cap h h1 h2=>intro _;obtain ⟨cp',e1,e2⟩:=norow_get (k:=k) h;rw [← e2] at h1 h2 ⊢;exact .sl _ _ _ _ _ e1 h1 h2
 | sl0 i k' m h=>
  intro _
  refine .sl0 _ _ _ ?_
  by_cases q:k'=k
  ·subst q;exact norow_nil h
  ·rw [norow_other q];exact h
 | slr i k' e m len b cap h hr h1 h2=>
  intro hf
  have q:k'≠k:=fun e=>by subst e;simp [D.rf] at hf
  exact .slr _ _ _ _ _ _ _ ((norow_other q).trans h) hr h1 h2
 | eptrr i k' e m x c h hr=>
  intro hf
  have q:k'≠k:=fun e=>by subst e;simp [D.rf] at hf
  exact .eptrr _ _ _ _ _ _ ((norow_other q).trans h) hr
 | fz i o ao n cap m f vs h1 h2 hl ha hr ih=>intro _;exact .fz _ o ao n cap m f vs h1 h2 hl ha hr
 | fptr i o b q l vs ha hr ih=>intro _;exact .fptr _ o b q l vs ha hr
 | clo i fn vs l hl hr ih=>intro hf;exact .clo _ fn vs l hl (fun j hj=>ih j hj (rfL_at hf j))
 | agg i vs l hl h1 hr ih=>intro hf;exact .agg _ vs l hl h1 (fun j hj=>ih j hj (rfL_at hf j))
 | tup i vs l hl hr ih=>intro hf;exact .tup _ vs l hl (fun j hj=>ih j hj (rfL_at hf j))
end
def envRf (k:Nat) (env:List (Nat × D)):Bool:=env.all fun x=>x.2.rf k
def Box.rf (k:Nat):Box→Bool
 | .lit _ ds=>D.rf.rfL k ds
 | _=>true
def boxRf (k:Nat) (box:List (Nat × Option Box)):Bool:=box.all fun x=>match x.2 with | some B=>B.rf k | none=>true
theorem envRf_at {k:Nat}:∀ {env:List (Nat × D)},envRf k env=true→∀ t,(lk env t).rf k=true
 | [],_,t=>rfl
 | (s,d)::l,h,t=>by
  simp only [envRf,List.all_cons,Bool.and_eq_true] at h
  simp only [lk]
  cases Nat.beq s t with
  | true=>exact h.1
  | false=>exact envRf_at h.2 t
theorem boxRf_at {k:Nat}:∀ {box:List (Nat × Option Box)},boxRf k box=true→∀ x B,hk box x=some B→B.rf k=true
 | [],_,x,B,h=>by cases h
 | (s,o)::l,h,x,B,hB=>by
  simp only [boxRf,List.all_cons,Bool.and_eq_true] at h
  simp only [hk] at hB
  cases q:Nat.beq s x with
  | true=>rw [q] at hB;simp only at hB;subst hB;exact h.1
  | false=>rw [q] at hB;exact boxRf_at h.2 x B hB
theorem sub_mat0 {env:List (Nat × D)} {box:List (Nat × Option Box)} (k:Nat) (t2:TypeId) (m2 n2:Nat) (g:Nat→Nat→List D) {t:TypeId} {n:Nat} {f:Nat→List D} (hb:hk box k=some (.arr t n 1 f)) (h100:Nat.ble 1000 k=true) (he:envRf k env=true) (hx:boxRf k box=true) :
  Sub (lk env) (hk box) (lk env) (hk ((k,some (.mat t t2 n 0 m2 n2 g))::box)):=fun S a w hR=>by
 obtain ⟨Z,i,hF⟩:=hR
 replace h100:=Nat.le_of_ble_eq_true h100
 have hs:∀ x,hk ((k,some (.mat t t2 n 0 m2 n2 g))::box) x=if k=x then some (.mat t t2 n 0 m2 n2 g) else hk box x:=fun x=>by
  simp only [hk]
  by_cases q:k=x
  ·subst q;simp
  ·rw [beq_ne q,if_neg q]
 have foot:∀ x C b,hk ((k,some (.mat t t2 n 0 m2 n2 g))::box) x=some C→C.mut=true→Foot C (norow k i x) b→∃ C0,hk box x=some C0∧C0.mut=true∧Foot C0 (i x) b:=fun x C b hC hm hf=>by
  rw [hs] at hC
  by_cases q:k=x
  ·subst q;rw [if_pos rfl] at hC;cases hC
   obtain ⟨cp,e⟩:=hf.flat rfl
   obtain ⟨cp',e'⟩:=norow_back e
   exact ⟨_,hb,rfl,.root e'⟩
  ·rw [if_neg q] at hC
   rw [norow_other (Ne.symm q)] at hf
   exact ⟨C,hC,hm,hf⟩
 refine ⟨Z,norow k i,{ hF with env:=fun s=>(hF.env s).norow (envRf_at he s),box:=fun x C hC=>?_,foot:=fun x C b hC hm hf=>?_,nil:=fun x hC=>?_,low:=fun x hl=>?_,inj:=fun x x' C C' b h1 h2 m1 m2 f1 f2=>?_ }⟩
 ·rw [hs] at hC
  by_cases q:k=x
  ·subst q;rw [if_pos rfl] at hC;cases hC
   rcases hF.box k _ hb with ⟨b,cap,e1,e2,e3,e4,cs,f1,f2,f3,f4,f5⟩ | ⟨e1,e2⟩
   ·exact .inl ⟨b,_,norow_some e1,e2,fun _=>e3 rfl,fun h=>(by cases h),cs,f1,by rw [f2,Nat.mul_one],f3,Nat.zero_le _,fun e he=>absurd he (Nat.not_lt_zero _),fun _ _ _ _ _ h=>absurd h (Nat.not_lt_zero _),fun _ _=>rfl⟩
   ·refine .inr ⟨norow_nil e1,?_⟩
    rcases e2 with e2 | ⟨t',m',f2,e2 | e2⟩ | ⟨_,_,_,_,_,e2⟩
    ·cases e2
    ·cases e2;exact .inr (.inr ⟨_,_,_,_,_,rfl⟩)
    ·cases e2
    ·cases e2
  ·rw [if_neg q] at hC
   rcases hF.box x C hC with ⟨b,cap,e1,e2,e3,e4,e5⟩ | ⟨e1,e2⟩
   ·refine .inl ⟨b,cap,(norow_other (Ne.symm q)).trans e1,e2,e3,e4,?_⟩
    cases C with
    | lit t ds=>
     obtain ⟨cs,g1,g2,g3⟩:=e5
     have hr:=boxRf_at hx x _ hC
     exact ⟨cs,g1,g2,fun j hj=>⟨(g3 j hj).1,(g3 j hj).2.norow (rfL_at hr j)⟩⟩
    | _=>exact e5
   ·exact .inr ⟨(norow_other (Ne.symm q)).trans e1,e2⟩
 ·obtain ⟨C0,g1,g2,g3⟩:=foot x C b hC hm hf
  have r:=hF.foot x C0 b g1 g2 g3
  exact ⟨r.1,r.2.1.imp id (fun ⟨p1,p2,c,p3⟩=>⟨p1,p2,by rw [norow_other (by omega)];exact ⟨c,p3⟩⟩),r.2.2⟩
 ·rw [hs] at hC
  by_cases q:k=x
  ·rw [if_pos q] at hC;cases hC
  ·rw [if_neg q] at hC;rw [norow_other (Ne.symm q)];exact hF.nil x hC
 ·rw [norow_other (by omega)];exact hF.low x hl
 ·obtain ⟨C0,g1,g2,g3⟩:=foot x C b h1 m1 f1
  obtain ⟨C0',g1',g2',g3'⟩:=foot x' C' b h2 m2 f2
  exact hF.inj x x' C0 C0' b g1 g1' g2 g2' g3 g3'
section
variable {ro:Option Nat} {P:Program} {N:Nat} {Q:Post} {c:Code} {env:List (Nat × D)} {box:List (Nat × Option Box)}
theorem c_mat0 (k:Nat) (t2:TypeId) (m2 n2:Nat) (g:Nat→Nat→List D) {t:TypeId} {n:Nat} {f:Nat→List D} (h:AWp ro P N c (lk env) (hk ((k,some (.mat t t2 n 0 m2 n2 g))::box)) Q) (hb:autoParam (Bl box k (.arr t n 1 f)) aq9._auto_1) (h100:Nat.ble 1000 k=true:=by rfl) (he:envRf k env=true:=by kernel_rfl) (hx:boxRf k box=true:=by kernel_rfl):AWp ro P N c (lk env) (hk box) Q:=awp_sub (sub_mat0 k t2 m2 n2 g hb.eq h100 he hx) h
end

theorem DenH.arg {P:Program} {f:FuncId} {ds ds':List D} {hs hs' rs:Hs} {r:D} (h:DenH P f ds' hs r hs' rs) (hc:CvtL ds ds'):DenH P f ds hs r hs' rs:=fun Zc w i args hZ hi hH ha=>
 h Zc w i args hZ hi hH ⟨ha.1.trans hc.len,fun j hj=>(hc.at j).cv (fun b hb=>by cases hb.1) (ha.2 j (by rw [hc.len];exact hj))⟩
theorem dl_any:∀ {l:List D} {j:Nat},l.length≤j→dl l j = .any
 | [],_,_=>rfl
 | _::_,0,h=>by simp at h
 | _::l,j+1,h=>dl_any (l:=l) (by simpa using h)
theorem dl_seg' {l:List D} {c n j:Nat}:dl (takeL n (dropL c l)) j=if j<n then dl l (c+j) else .any:=by
 by_cases q:j<n
 ·rw [if_pos q,dl_seg q]
 ·rw [if_neg q]
  refine dl_any ?_
  rw [takeL_eq];simp;omega
instance (l:List D) (c n:Nat) [h:OldDL l]:OldDL (takeL n (dropL c l)):=⟨fun j=>by
 rw [dl_seg']
 split
 ·exact h.od _
 ·exact (inferInstance:OldD .any)⟩
instance (l:List D) (c n:Nat) [h:NewDL l]:NewDL (takeL n (dropL c l)):=⟨fun j=>by
 rw [dl_seg']
 split
 ·exact h.nw _
 ·exact (inferInstance:NewD .any)⟩
theorem CvtL.seg {l l':List D} (h:CvtL l l') (s c:Nat):CvtL (takeL s (dropL c l)) (takeL s (dropL c l')):=by
 induction h generalizing s c with
 | nil=>cases c<;>cases s<;>exact .nil
 | cons h k ih=>
  cases c with
  | zero=>
   cases s with
   | zero=>exact .nil
   | succ s=>exact .cons h (ih s 0)
  | succ c=>exact ih s c
instance (s c:Nat) (l l':List D) [h:CvtLI l l']:CvtLI (takeL s (dropL c l)) (takeL s (dropL c l')):=⟨h.cv.seg s c⟩
instance (f:Nat→D):CvtLI (List.map f []) []:=⟨.nil⟩
abbrev litA (s n:Nat) (l:List D):D:=.fz true n s (fun e=>takeL s (dropL (e*s) l))
theorem Cvt.litA {s n:Nat} {l:List D} {f:Nat→List D} (h:∀ e,e<n→takeL s (dropL (e*s) l)=f e) (hl:∀ e,e<n→(f e).length=s):Cvt (litA s n l) (.fz true n s f):=Cvt.fz (.inl rfl) (fun e he=>⟨hl e he,fun c _=>by rw [h e he];exact inferInstance⟩)

section
variable {P:Program} {N:Nat} {ops:Array Oper} {rest:List Oper} {env:List (Nat × D)} {box:List (Nat × Option Box)} {done:List Rec} {K:List Rec→List (Nat × D)→List (Nat × Option Box)→Prop}
theorem r_eqS (t:Nat) (d':D) {d:D} (he:d=d') (h:RunK P N ops rest ((t,d')::env) box done K) (ht:autoParam (Lk env t d) aq13._auto_1):RunK P N ops rest env box done K:=by
 have e:lk ((t,d')::env)=lk env:=by
  funext s
  simp only [lk]
  by_cases q:t=s
  ·subst q;simp;rw [← he];exact ht.eq.symm
  ·rw [beq_ne q]
 obtain ⟨Rs,env',box',h1,h2,h3,h4⟩:=h
 rw [e] at h1 h2
 exact ⟨Rs,env',box',h1,h2,h3,h4⟩
end
end Go.Proofs.YtmjildbdkecolaaGreat
