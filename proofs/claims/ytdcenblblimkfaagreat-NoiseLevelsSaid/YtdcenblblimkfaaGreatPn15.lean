/- The program's own panics: an interface value is made, and the call ends. By data. No walk.
Calls that turn one box which nobody looks at any more; they come back with a plain value, or panic. No walk.
make with more room than elements. No walk.
Shifts and bits, by data. No walk.
Strings, by data: a byte of a string. No walk.
Strings and their bytes; the string of a number. Plain.
Wide integers: words, bytes, signs; what the walks speak of. Plain.
A labelled loop's scope, through which the run goes without a goto. No walk. -/
import Derived.Test.YtdcenblblimkfaaGreatPn14
import Derived.Test.YtdcenblblimkfaaGreatPn01
import Derived.Test.YtdcenblblimkfaaGreatPn02
import Derived.Laws.Build
import Derived.Laws.BitsAllLaws
import Derived.Laws.Shifts
import Derived.Laws.Strings
import Derived.Laws.BytesString
import Derived.Laws.Cells
import Derived.Scope
set_option linter.unusedSimpArgs false
set_option linter.unusedVariables false
set_option linter.unnecessarySimpa false
set_option linter.unusedSectionVars false
namespace Go.Proofs.YtdcenblblimkfaaGreat
open Go.RowKit
section
variable {P:Program} {N:Nat} {o:Oper} {E:Nat→D} {H:Nat→Option Box}
theorem loc_mkif {t:TypeId} {x:Operand} {u:Value} (ho:o.op = .makeInterface t x) (hd:dstLt o N=true) (hc:P.concrete t=true) (hx:Opd E x (.agg [.val u])):Loc P N o E H ⟨[],o.dst,.val (.iface t (.agg #[u])),[],[]⟩:=
 loc_run (by simp [ho]) hd (fun E1 H1 S Z i a w hF hA _=>by
  have h1:=hF.opd (hA x (by simp [ho,Op.operands]) _ hx)
  have h2:a.eval x = .agg #[u]:=by
   generalize hq:a.eval x=v at h1
   cases h1 with
   | agg _ vs _ hl _ hr=>
    have h3:=(hr 0 (by simp)).valEq
    match vs,hl with
    | [y],_=>
     have:y=u:=by simpa using h3
     subst this;rfl
  refine ⟨_,?_,.val _ _⟩
  simp only [execOp,ho,h2]
  rw [Sem.run_bind,run_makeInterface w t _ hc]
  rfl)
theorem loc_panic {x:Operand} {t e k:Nat} (ho:o.op = .panic x) (hd:o.dst=none) (hx:Opd E x (.val (.iface t (.agg #[.int .i64 (e:Int)])))) (hN:N / 65536 % 1099511627776=k+1) (hk:k=1000*t+e) (he:e<1000) (kb:Nat):Loc P N o E H ⟨[],none,.any,[(kb,some (.lit 0 [imp]))],[kb]⟩:=by
 refine ⟨hd.symm,by simp [ho],fun E1 H1 h1 h2 h3 S a w hSN hR K Q hX hK=>?_⟩
 obtain ⟨Z,i,hF⟩:=hR
 have e1:=(hF.opd (Opd.agree (x:=x) (by simp [ho,Op.operands]) h1 hx)).valEq
 unfold Oper.wp
 have hrun:(execOp a.eval o).run P w = .halt (.panic (.iface t (.agg #[.int .i64 (e:Int)]))) w:=by
  simp only [execOp,ho,e1]
  rfl
 rw [hrun]
 refine hX _ _ _ ?_ ⟨H1,Z,i,{ hF with env:=fun t=>.any _ _ }⟩
 show panAt (S.N / 65536 % 1099511627776) _
 rw [hSN,hN]
 show _=panCh k
 unfold panCh
 rw [show k / 1000=t by omega,show k % 1000=e by omega]
end
section
variable {ro:Option Nat} {P:Program} {N:Nat} {Q:Post} {ops:Array Oper} {o:Oper} {rest:List Oper} {env:List (Nat × D)} {box:List (Nat × Option Box)} {done:List Rec} {K:List Rec→List (Nat × D)→List (Nat × Option Box)→Prop} {d:Nat} {ty:TypeId} {pos:String} {aft:Array Edge}
theorem r_mkif {t:TypeId} {x:Operand} {u:Value} (h:RunK P N ops rest ((d,.val (.iface t (.agg #[u])))::env) box (done++[⟨[],some d,.val (.iface t (.agg #[u])),[],[]⟩]) K) (hc:P.concrete t=true:=by kernel_rfl) (hx:Op1 env x (.agg [.val u]):=by (apply Op1.tmp;(repeat (first | exact Lk.here | apply Lk.there rfl));done)) (hd:Nat.blt d (fsz N)=true:=by rfl):RunK P N ops (⟨some d,.makeInterface t x,ty,pos,aft,none⟩::rest) env box done K:=
 run_put (ws:=[]) (fresh:=[]) (loc_mkif rfl hd hc hx.opd) rfl h
theorem r_panic {x:Operand} {t:TypeId} (e k:Nat) (hk:k=1000*t+e) (he:e<1000) (h:RunK P N ops rest env ((1999,some (.lit 0 [imp]))::box) (done++[⟨[],none,.any,[(1999,some (.lit 0 [imp]))],[1999]⟩]) K) (hN:N / 65536 % 1099511627776=k+1:=by first | rfl | assumption | omega) (hx:Op1 env x (.val (.iface t (.agg #[.int .i64 (e:Int)]))):=by (apply Op1.tmp;(repeat (first | exact Lk.here | apply Lk.there rfl));done)):RunK P N ops (⟨none,.panic x,ty,pos,aft,none⟩::rest) env box done K:=
 run_eff (ws:=[(1999,some (.lit 0 [imp]))]) (fresh:=[1999]) (loc_panic rfl rfl hx.opd hN hk he 1999) rfl h
theorem c_deadB (k:Nat) {c:Code} {t:TypeId} {l:List D} (h:hk box k=some (.lit t (imp::l)):=by rfl):AWp ro P N c (lk env) (hk box) Q:=fun S a w hN hR=>by
 obtain ⟨Z,i,hF⟩:=hR
 rcases hF.box k _ h with ⟨b,cap,_,_,_,_,cs,_,_,h5⟩ | ⟨_,h2⟩
 ·exact (imp_no (h5 0 (by simp)).2).elim
 ·rcases h2 with h2 | ⟨_,_,_,h2 | h2⟩ | ⟨_,_,_,_,_,h2⟩<;>cases h2
end

def DenU (P:Program) (f:FuncId) (ds:List D) (B:Box) (e0:Ending):Prop:=
 ∀ (Zc:Nat→Prop) (w:World) (i:Nm) (args:List Value),(∀ b,Zc b→b<w.heap.size)→(∀ k,k ∉ Hs.keys [(1998,B)]→i k=none)→HsAt (fun o b=>o=true∧Zc b) w i [(1998,B)]→RepsI (fun o b=>o=true∧Zc b) w i args ds →
  Calls P f args.toArray w fun e w'=>e=e0∧Kept (fun b=>∃ k c,k∈Hs.keys [(1998,B)]∧i k=some (some (b,c))) w w'
section
variable {P:Program} {N:Nat}
theorem fits_one {f:FuncId} {fn:Func} {ds:List D} {B:Box} {Zc:Nat→Prop} {w:World} {i:Nm} {args:List Value} (hZ:∀ b,Zc b→b<w.heap.size) (hi:∀ k,k ∉ Hs.keys [(1998,B)]→i k=none) (hH:HsAt (fun o b=>o=true∧Zc b) w i [(1998,B)]) (ha:RepsI (fun o b=>o=true∧Zc b) w i args ds) (hB0:Nat.beq B.nrows 0=true) (hn:ds.length≤fn.ntmps) (N:Nat) (hsz0:fsz N=fn.ntmps) :
  let Z:Zn:=fun o b=>o=true∧Zc b
  Fits ⟨{ w with heap:=#[] },Zc,fun _=>False,N,[],i,w,fun b=>∃ k c,k∈Hs.keys [(1998,B)]∧i k=some (some (b,c)),fun _ _=>False⟩ (lk (initE 0 ds)) (hk (hsH [(1998,B)])) Z i { tmps:=args.toArray++Array.replicate (fn.ntmps - args.toArray.size) undef,defers:=[] } w:=by
 intro Z
 let S:Cx:=⟨{ w with heap:=#[] },Zc,fun _=>False,N,[],i,w,fun b=>∃ k c,k∈Hs.keys [(1998,B)]∧i k=some (some (b,c)),fun _ _=>False⟩
 have hsz:fsz S.N=fn.ntmps:=hsz0
 have hl:args.length=ds.length:=ha.1
 have hflat:∀ k B',(k,B')∈([(1998,B)]:Hs)→B'.nrows=0:=fun k B' hm=>by
  cases hm with
  | head=>simpa using hB0
  | tail _ h=>cases h
 have hF:Fits S (lk (initE 0 ds)) (hk (hsH [(1998,B)])) Z i { tmps:=args.toArray++Array.replicate (fn.ntmps - args.toArray.size) undef,defers:=[] } w:=by
  refine ⟨⟨[],rfl,List.nodup_nil,fun b hb=>by cases hb⟩,by rw [hsz];simp;omega,⟨rfl,rfl,rfl,Nat.zero_le _,fun b hb=>absurd hb (Nat.not_lt_zero _)⟩,Kept.refl _ _,fun _ _ h=>h.elim,fun b hb=>(nomatch hb.1),fun b hb=>⟨hZ b hb.2,fun _=>hb.2⟩,fun b hb=>(nomatch hb.1),fun t=>?_,fun k B' hB=>?_,fun k B' b hB hm hf=>?_,fun k hk=>hi k (hsH_none hk),fun k _=>rfl,fun k k' B1 B2 b h1 h2 _ _ f1 f2=>hH.2 k k' B1 B2 b (hsH_mem h1) (hsH_mem h2) f1 f2,fun _=>rfl⟩
  ·rw [initE_at]
   by_cases q:0≤t∧t<0+ds.length
   ·rw [if_pos q,Nat.sub_zero]
    have:=ha.2 t (by omega)
    have e:(args.toArray++Array.replicate (fn.ntmps - args.toArray.size) undef).getD t undef=args.getD t undef:=by
     rw [Array.getD_eq_getD_getElem?,List.getD_eq_getElem?_getD,Array.getElem?_append_left (by simp;omega),List.getElem?_toArray]
    rw [e];exact this
   ·rw [if_neg q];exact .any _ _
  ·have hm:=hsH_mem hB
   have hkk:k∈Hs.keys [(1998,B)]:=List.mem_map.2 ⟨_,hm,rfl⟩
   obtain ⟨m1,⟨b,cap,e1,e2,e3⟩ | ⟨e1,e2⟩⟩:=hH.1 k B' hm
   ·exact .inl ⟨b,cap,e1,.inl (Nat.zero_le _),fun _=>⟨e2 b (.root e1),.inr ⟨k,cap,hkk,e1⟩⟩,fun hi=>(by cases B'<;>simp [Box.mut,Box.isIce] at m1 hi),e3⟩
   ·exact .inr ⟨e1,.inr (e2.imp (fun ⟨t,m,f,e⟩=>⟨t,m,f,.inl e⟩) id)⟩
  ·have hmm:=hsH_mem hB
   have hkk:k∈Hs.keys [(1998,B)]:=List.mem_map.2 ⟨_,hmm,rfl⟩
   obtain ⟨cp,e⟩:=hf.flat (hflat k B' hmm)
   obtain ⟨m1,⟨b',cap,e1,e2,e3⟩ | ⟨e1,e2⟩⟩:=hH.1 k B' hmm
   ·rw [e] at e1;cases e1
    exact ⟨e3.lt,.inl (Nat.zero_le _),e2 b (.root e),.inr ⟨k,cp,hkk,e⟩⟩
   ·rw [e] at e1;cases e1
 exact hF
theorem den_introUX {f:FuncId} {fn:Func} {c:Code} {ds:List D} {B:Box} {k:Nat} [hf:FI P f fn] (hb:fn.body=some c) (hn:(Nat.ble ds.length fn.ntmps && Nat.blt fn.ntmps 65536)=true) (hB0:Nat.beq B.nrows 0=true)
  (h:AWp none P (fn.ntmps+65536*(k+1+1099511627776)) c (lk (initE 0 ds)) (hk (hsH [(1998,B)])) (fun _ _ _=>False)) (hk40:Nat.blt (k+1) 1099511627776=true:=by rfl):DenU P f ds B (.panicked (panCh k)):=fun Zc w i args hZ hi hH ha=>by
 rw [Bool.and_eq_true] at hn
 have hn2:fn.ntmps<65536:=by simpa using hn.2
 replace hn:=Nat.le_of_ble_eq_true hn.1
 replace hk40:k+1<1099511627776:=by simpa using hk40
 have hsz:fsz (fn.ntmps+65536*(k+1+1099511627776))=fn.ntmps:=by
  show (fn.ntmps+65536*(k+1+1099511627776)) % 65536=fn.ntmps
  rw [Nat.add_mul_mod_self_left,Nat.mod_eq_of_lt hn2]
 have hF:=fits_one (f:=f) (fn:=fn) hZ hi hH ha hB0 hn (fn.ntmps+65536*(k+1+1099511627776)) hsz
 refine callsIn_wide.1 (callsIn_of_wp_marks (n:=0) hf.func hb trivial ?_)
 refine wpIn_mono (h _ _ w rfl ⟨_,i,hF⟩) (fun e a' w' ⟨E0,H0,he0,hR0⟩=>?_)
 have hpn:∀ ch,panAt ((fn.ntmps+65536*(k+1+1099511627776)) / 65536 % 1099511627776) ch→ch=panCh k:=fun ch hc=>by
  rw [Nat.add_mul_div_left _ _ (by omega),Nat.div_eq_of_lt hn2,Nat.zero_add,Nat.add_mod_right,Nat.mod_eq_of_lt hk40] at hc
  exact hc
 obtain ⟨Z',i',hF'⟩:=hR0
 have hd:a'.defers=[]:=hF'.plain (by show 72057594037927936≤fn.ntmps+65536*(k+1+1099511627776);omega)
 cases e with
 | panic ch=>
  obtain rfl:=hpn ch (he0.resolve_left id)
  show LeavesInM _ _ _ _ _ _ a'.defers _ _
  rw [hd]
  exact ⟨rfl,hF'.kept1⟩
 | _=>exact he0.elim
theorem den_introU {f:FuncId} {fn:Func} {c:Code} {ds:List D} {B:Box} {r:D} {v0:Value} [hf:FI P f fn] (hb:fn.body=some c) (hn:(Nat.ble ds.length fn.ntmps && Nat.blt fn.ntmps 65536)=true) (hB0:Nat.beq B.nrows 0=true) (hr:∀ Z w i v,Rep Z w i v r→v=v0)
  (h:AWp none P (fn.ntmps+65536*1099511627776) c (lk (initE 0 ds)) (hk (hsH [(1998,B)])) (Ended P fn r [] [])):DenU P f ds B (.returned v0):=fun Zc w i args hZ hi hH ha=>by
 rw [Bool.and_eq_true] at hn
 have hn2:fn.ntmps<65536:=by simpa using hn.2
 replace hn:=Nat.le_of_ble_eq_true hn.1
 have hsz:fsz (fn.ntmps+65536*1099511627776)=fn.ntmps:=by
  show (fn.ntmps+65536*1099511627776) % 65536=fn.ntmps
  rw [Nat.add_mul_mod_self_left,Nat.mod_eq_of_lt hn2]
 have hF:=fits_one (f:=f) (fn:=fn) hZ hi hH ha hB0 hn (fn.ntmps+65536*1099511627776) hsz
 refine callsIn_wide.1 (callsIn_of_wp_marks (n:=0) hf.func hb trivial ?_)
 refine wpIn_mono (h _ _ w rfl ⟨_,i,hF⟩) (fun e a' w' ⟨E0,H0,he0,hR0⟩=>?_)
 replace he0:=he0.no (fun ch h=>by
  have h:panAt ((fn.ntmps+65536*1099511627776) / 65536 % 1099511627776) ch:=h
  rw [Nat.add_mul_div_left _ _ (by omega),Nat.div_eq_of_lt hn2,Nat.zero_add,Nat.mod_self] at h
  exact h)
 have hend:(e = .normal∨e = .ret)∧∃ E' H',RepS (⟨{ w with heap:=#[] },Zc,fun _=>False,fn.ntmps+65536*1099511627776,[],i,w,fun b=>∃ k c,k∈Hs.keys [(1998,B)]∧i k=some (some (b,c)),fun _ _=>False⟩:Cx) E' H' a' w'∧Fin P fn r [] [] E' H':=by
  cases e with
  | normal=>obtain ⟨E2,H2,q1,q2⟩:=he0;exact ⟨.inl rfl,E2,H2,q1 _ a' w' hR0,q2⟩
  | ret=>obtain ⟨E2,H2,q1,q2⟩:=he0;exact ⟨.inr rfl,E2,H2,q1 _ a' w' hR0,q2⟩
  | _=>exact he0.elim
 obtain ⟨hee,E',H',⟨Z',i',hF'⟩,rs0,h1,h2,_⟩:=hend
 have hd:a'.defers=[]:=hF'.plain (by show 72057594037927936≤fn.ntmps+65536*1099511627776;omega)
 have key:LeavesInM (Fw none) 0 P fn a'.tmps (fun e w'=>e = .returned v0∧Kept (fun b=>∃ k c,k∈Hs.keys [(1998,B)]∧i k=some (some (b,c))) w w') a'.defers .returning w':=by
  rw [hd]
  obtain ⟨v,h4,h5⟩:=results_run h1 hF'
  refine ⟨v,h4,?_,hF'.kept1⟩
  rw [hr _ _ _ _ (h2 _ a' w' Z' i' v hF' h5)]
 rcases hee with rfl | rfl
 ·exact key
 ·exact key
end
section
variable {P:Program} {N:Nat} {o:Oper} {E:Nat→D} {H:Nat→Option Box}
theorem Fits.spoiled {S:Cx} {Z:Zn} {i:Nm} {a:Act} {w w':World} {k0:Nat} {B:Box} (hF:Fits S E H Z i a w) (hB:H k0=some B) (hm:B.mut=true) (hn:B.nrows=0) {M:Nat→Prop} (hM:∀ b,M b→∃ c,i k0=some (some (b,c))) (p1:Kept M w w'):Fits S E (updH H [(k0,some .gone)]) Z i a w':=by
 refine hF.step (fun x=>x=k0) ⟨p1.os,p1.tape,p1.output,p1.size⟩ (fun b hb hn'=>p1.block b hb (fun q=>?_)) (fun _ _=>rfl) (fun x hx=>?_) (fun x hx e=>?_) (fun x hx e=>hF.nil x e) (fun x _ e=>hF.nil x e) (fun o b hb=>hb) (fun b hb=>.inl hb) (fun b hb=>⟨hF.zsub b hb,hF.zNew b hb⟩) (fun x C hx hC=>?_) (fun x C b1 hx hC hmu _=>?_) (fun x x' B1 B2 b hx hx' _ _ _ _ _ _=>hx.trans hx'.symm)
 ·obtain ⟨c,q⟩:=hM b q
  exact hn' k0 B rfl hB hm (.root q)
 ·simp only [updH];exact if_neg (Ne.symm hx)
 ·subst hx;simp [updH] at e
 ·subst hx
  simp only [updH,if_true] at hC
  cases hC
  rcases hF.box x B hB with ⟨b,c,e1,e2,e3,e4,e5⟩ | ⟨e1,_⟩
  ·refine .inl ⟨b,c,e1,e2,fun h=>(by cases h),fun h=>(by cases h),?_⟩
   exact Nat.lt_of_lt_of_le (e5.footLt (.root rfl)) p1.size
  ·exact .inr ⟨e1,.inl rfl⟩
 ·subst hx
  simp only [updH,if_true] at hC
  cases hC;cases hmu
theorem loc_callU {f : FuncId} {fn : Func} {x : Operand} {xs : List Operand} {ts : Array TypeId} {ds ads caps : List D} {r d0 : D} {B0 : Box} {v0 : Value} {k0 : Nat} {ns : List Nat} {ρ : Nat → Nat} (hρ : ρ = fun _ => k0) (ho : o.op = .call { callee := .value x, args := xs.toArray, argTypes := ts }) (hd : dstLt o N = true) [hf : FI P f fn]
  (hx : Opd E x d0) (hcl : (d0 = .val (.func (.func f) #[] #[]) ∧ caps = []) ∨ d0 = .clo f caps) (ha : OpdL E xs ads) (hden : DenU P f ds B0 (.returned v0)) (hv : ArgVL true [k0] ns [1998] ρ H (ads ++ caps) ds)
  [hod : OldDL ds] [hob : AllOld [(1998, B0)]] (hH : ∀ k C, (k, C) ∈ ([(1998, B0)] : Hs) → H k0 = some C) (hns : ∀ k, k ∈ Hs.keys [(1998, B0)] → k0 ∈ ns) (hr0 : ∀ Z w i, Rep Z w i v0 r) :
  Loc P N o E H ⟨ns, o.dst, r, [(k0, some .gone)], []⟩ := by
 subst hρ
 refine ⟨rfl, by simp [ho], fun E1 H1 h1 h2 h3 S a w hN hR K Q _ hK => ?_⟩
 obtain ⟨Z, i, hF⟩ := hR
 have hops : o.op.operands = #[x] ++ xs.toArray := by simp [ho, Op.operands, Call.operands]
 have e1 := hF.opd (Opd.agree (x := x) (by simp [hops]) h1 hx)
 have hlen := ha.len
 have hasr : ∀ j, j < ads.length → Rep Z w i ((xs.map a.eval).getD j undef) (dl ads j) := fun j hj => by
  have hj' : j < xs.length := by omega
  have := hF.opd (Opd.agree (x := xs[j]) (by rw [hops]; simp) h1 (ha.at j _ (List.getElem?_eq_getElem hj')))
  rw [List.getD_eq_getElem?_getD, List.getElem?_map, List.getElem?_eq_getElem hj']
  exact this
 -- the function's value, and what it captured
 have hfun : ∃ cv : List Value, a.eval x = .func (.func f) #[] cv.toArray ∧ cv.length = caps.length ∧ ∀ j, j < caps.length → Rep Z w i (cv.getD j undef) (dl caps j) := by
  rcases hcl with ⟨rfl, rfl⟩ | rfl
  ·exact ⟨[], e1.valEq, rfl, fun j hj => by simp at hj⟩
  ·generalize hq : a.eval x = v at e1
   cases e1 with | clo _ _ vs _ hl hr => exact ⟨vs, rfl, hl, hr⟩
 obtain ⟨cv, c1, c2, c3⟩ := hfun
 have hrun : (execOp a.eval o).run P w = .ok (.enter f (xs.map a.eval ++ cv).toArray) w := by
  have h3 := hf.enters ((xs.map a.eval).toArray ++ cv.toArray) w
  simp only [execOp, ho, resolve, c1, Deferred.ofValue]
  simp [invoke, Result.andThen] at h3 ⊢
  exact h3
 have hLm : ∀ k, k ∈ [k0] → ∃ B, H1 k = some B ∧ B.mut = true := fun k hk => by
  obtain rfl : k = k0 := by simpa using hk
  exact ⟨B0, (h2 _ (hns 1998 (by simp [Hs.keys]))).trans (hH 1998 B0 (by simp)), (hob.od 1998 B0 (by simp)).2.1⟩
 obtain ⟨ic, hic⟩ : ∃ ic : Nm, (fun k => if k ∈ Hs.keys [(1998, B0)] then i k0 else none) = ic := ⟨_, rfl⟩
 have hic1 : ∀ k, k ∈ Hs.keys [(1998, B0)] → ic k = i k0 := fun k hk => by rw [← hic]; exact if_pos hk
 have hic2 : ∀ k, k ∉ Hs.keys [(1998, B0)] → ic k = none := fun k hk => by rw [← hic]; exact if_neg hk
 let Zc : Nat → Prop := ZL true ([k0]) Z i w true
 have hsub := ZL.sub (lend := true) (L := [k0]) (i := i) (w := w) hF.zsub
 have hZc : ∀ b, Zc b → b < w.heap.size := fun b hb => by
  rcases hb with q | ⟨_, _, q, _⟩
  ·exact (hF.zOld b q).1
  ·exact q
 have hbox : ∀ k B, (k, B) ∈ ([(1998, B0)] : Hs) → BoxHas (fun o b => o = true ∧ Zc b) w ic k B := fun k B hm => by
  have hkk : k ∈ Hs.keys [(1998, B0)] := List.mem_map.2 ⟨_, hm, rfl⟩
  have q3 := (h2 _ (hns k hkk)).trans (hH k B hm)
  obtain ⟨g1, g2, g3, g4⟩ := hob.od k B hm
  refine ⟨g2, ?_⟩
  rw [hic1 k hkk]
  rcases hF.box _ B q3 with ⟨b, c, p1, _, p3, _, p5⟩ | ⟨p1, p2⟩
  ·refine .inl ⟨b, c, p1, fun x hf hz => ?_, g1.od (fun b hb => ⟨rfl, .inl hb⟩) ((noN_bx p5 g3).ext (fun k x e => by cases e))⟩
   obtain ⟨cp, e⟩ := hf.flat g4
   rw [p1] at e; cases e
   rcases hz.2 with hz | ⟨_, _, _, hz⟩
   ·exact (p3 g2).1 hz
   ·exact hz _ c (by simp) p1
  ·refine .inr ⟨p1, ?_⟩
   rcases p2 with rfl | ⟨t, m, f, p2 | rfl⟩ | p2
   ·cases g2
   ·exact .inl ⟨t, m, f, p2⟩
   ·cases g2
   ·exact .inr p2
 have hkeyBox : ∀ k, k ∈ Hs.keys [(1998, B0)] → ∃ B, (k, B) ∈ ([(1998, B0)] : Hs) ∧ H1 k0 = some B ∧ B.mut = true := fun k hk => by
  obtain ⟨⟨k2, B⟩, hm, rfl⟩ := List.mem_map.1 hk
  exact ⟨B, hm, (h2 _ (hns k2 hk)).trans (hH k2 B hm), (hob.od k2 B hm).2.1⟩
 have hHs : HsAt (fun o b => o = true ∧ Zc b) w ic [(1998, B0)] := ⟨hbox, fun k k' B B' b hm hm' f1 f2 => by
  have hk : k ∈ Hs.keys [(1998, B0)] := List.mem_map.2 ⟨_, hm, rfl⟩
  have hk' : k' ∈ Hs.keys [(1998, B0)] := List.mem_map.2 ⟨_, hm', rfl⟩
  obtain ⟨c, p1⟩ := f1.flat (hob.od k B hm).2.2.2
  obtain ⟨c', p2⟩ := f2.flat (hob.od k' B' hm').2.2.2
  obtain ⟨B1, _, g1, g2⟩ := hkeyBox k hk
  obtain ⟨B1', _, g1', g2'⟩ := hkeyBox k' hk'
  rw [hic1 k hk] at p1
  rw [hic1 k' hk'] at p2
  simp [Hs.keys] at hk hk'; omega⟩
 have hargs : RepsI (fun o b => o = true ∧ Zc b) w ic (xs.map a.eval ++ cv) ds := by
  have hl := hv.len
  refine ⟨by simp at hl ⊢; omega, fun j hj => ?_⟩
  have hr : Rep Z w i ((xs.map a.eval ++ cv).getD j undef) (dl (ads ++ caps) j) := by
   rw [List.getD_eq_getElem?_getD, dl_eq, List.getD_eq_getElem?_getD]
   by_cases q : j < ads.length
   ·have := hasr j q
    rw [List.getD_eq_getElem?_getD, dl_eq, List.getD_eq_getElem?_getD] at this
    rw [List.getElem?_append_left (by simpa [hlen] using q), List.getElem?_append_left q]
    exact this
   ·have := c3 (j - ads.length) (by simp at hl; omega)
    rw [List.getD_eq_getElem?_getD, dl_eq, List.getD_eq_getElem?_getD] at this
    rw [List.getElem?_append_right (by simp [hlen]; omega), List.getElem?_append_right (by omega)]
    simpa [hlen] using this
  have := hv.at j H1 h2 S E1 a w Z i _ hF hLm hr
  rw [show (fun k => if k ∈ [1998] then i ((fun x => k0) k) else none) = ic from hic] at this
  exact (hod.od j).od (fun b hb => ⟨rfl, hb⟩) this
 unfold Oper.wp
 rw [hrun]
 refine (hden Zc w ic _ hZc hic2 hHs hargs).mono (fun e w' ⟨p0, p1⟩ => ?_)
 subst p0
 obtain ⟨C, hC, hC1, hC2⟩ := hkeyBox 1998 (by simp [Hs.keys])
 have hCB : C.nrows = 0 := (hob.od 1998 C hC).2.2.2
 have hF2 := hF.spoiled hC1 hC2 hCB (M := fun b => ∃ k c, k ∈ Hs.keys [(1998, B0)] ∧ ic k = some (some (b, c))) (fun b ⟨k, c, q1, q2⟩ => ⟨c, by rw [← hic1 k q1]; exact q2⟩) p1
 exact hK _ _ ⟨Z, i, hF2.put (by rw [hN]; exact dstLt_spec hd) (hr0 _ _ _)⟩
theorem loc_callUX {f : FuncId} {fn : Func} {x : Operand} {xs : List Operand} {ts : Array TypeId} {ds ads caps : List D} {d0 : D} {B0 : Box} {k : Nat} {k0 : Nat} {ns : List Nat} {ρ : Nat → Nat} (hρ : ρ = fun _ => k0) (ho : o.op = .call { callee := .value x, args := xs.toArray, argTypes := ts }) [hf : FI P f fn]
  (hx : Opd E x d0) (hcl : (d0 = .val (.func (.func f) #[] #[]) ∧ caps = []) ∨ d0 = .clo f caps) (ha : OpdL E xs ads) (hden : DenU P f ds B0 (.panicked (panCh k))) (hNk : N / 65536 % 1099511627776 = k + 1) (hv : ArgVL true [k0] ns [1998] ρ H (ads ++ caps) ds)
  [hod : OldDL ds] [hob : AllOld [(1998, B0)]] (hH : ∀ k C, (k, C) ∈ ([(1998, B0)] : Hs) → H k0 = some C) (hns : ∀ k, k ∈ Hs.keys [(1998, B0)] → k0 ∈ ns) :
  Loc P N o E H ⟨ns, o.dst, imp, [], []⟩ := by
 subst hρ
 refine ⟨rfl, by simp [ho], fun E1 H1 h1 h2 h3 S a w hN hR K Q hX hK => ?_⟩
 obtain ⟨Z, i, hF⟩ := hR
 have hops : o.op.operands = #[x] ++ xs.toArray := by simp [ho, Op.operands, Call.operands]
 have e1 := hF.opd (Opd.agree (x := x) (by simp [hops]) h1 hx)
 have hlen := ha.len
 have hasr : ∀ j, j < ads.length → Rep Z w i ((xs.map a.eval).getD j undef) (dl ads j) := fun j hj => by
  have hj' : j < xs.length := by omega
  have := hF.opd (Opd.agree (x := xs[j]) (by rw [hops]; simp) h1 (ha.at j _ (List.getElem?_eq_getElem hj')))
  rw [List.getD_eq_getElem?_getD, List.getElem?_map, List.getElem?_eq_getElem hj']
  exact this
 -- the function's value, and what it captured
 have hfun : ∃ cv : List Value, a.eval x = .func (.func f) #[] cv.toArray ∧ cv.length = caps.length ∧ ∀ j, j < caps.length → Rep Z w i (cv.getD j undef) (dl caps j) := by
  rcases hcl with ⟨rfl, rfl⟩ | rfl
  ·exact ⟨[], e1.valEq, rfl, fun j hj => by simp at hj⟩
  ·generalize hq : a.eval x = v at e1
   cases e1 with | clo _ _ vs _ hl hr => exact ⟨vs, rfl, hl, hr⟩
 obtain ⟨cv, c1, c2, c3⟩ := hfun
 have hrun : (execOp a.eval o).run P w = .ok (.enter f (xs.map a.eval ++ cv).toArray) w := by
  have h3 := hf.enters ((xs.map a.eval).toArray ++ cv.toArray) w
  simp only [execOp, ho, resolve, c1, Deferred.ofValue]
  simp [invoke, Result.andThen] at h3 ⊢
  exact h3
 have hLm : ∀ k, k ∈ [k0] → ∃ B, H1 k = some B ∧ B.mut = true := fun k hk => by
  obtain rfl : k = k0 := by simpa using hk
  exact ⟨B0, (h2 _ (hns 1998 (by simp [Hs.keys]))).trans (hH 1998 B0 (by simp)), (hob.od 1998 B0 (by simp)).2.1⟩
 obtain ⟨ic, hic⟩ : ∃ ic : Nm, (fun k => if k ∈ Hs.keys [(1998, B0)] then i k0 else none) = ic := ⟨_, rfl⟩
 have hic1 : ∀ k, k ∈ Hs.keys [(1998, B0)] → ic k = i k0 := fun k hk => by rw [← hic]; exact if_pos hk
 have hic2 : ∀ k, k ∉ Hs.keys [(1998, B0)] → ic k = none := fun k hk => by rw [← hic]; exact if_neg hk
 let Zc : Nat → Prop := ZL true ([k0]) Z i w true
 have hsub := ZL.sub (lend := true) (L := [k0]) (i := i) (w := w) hF.zsub
 have hZc : ∀ b, Zc b → b < w.heap.size := fun b hb => by
  rcases hb with q | ⟨_, _, q, _⟩
  ·exact (hF.zOld b q).1
  ·exact q
 have hbox : ∀ k B, (k, B) ∈ ([(1998, B0)] : Hs) → BoxHas (fun o b => o = true ∧ Zc b) w ic k B := fun k B hm => by
  have hkk : k ∈ Hs.keys [(1998, B0)] := List.mem_map.2 ⟨_, hm, rfl⟩
  have q3 := (h2 _ (hns k hkk)).trans (hH k B hm)
  obtain ⟨g1, g2, g3, g4⟩ := hob.od k B hm
  refine ⟨g2, ?_⟩
  rw [hic1 k hkk]
  rcases hF.box _ B q3 with ⟨b, c, p1, _, p3, _, p5⟩ | ⟨p1, p2⟩
  ·refine .inl ⟨b, c, p1, fun x hf hz => ?_, g1.od (fun b hb => ⟨rfl, .inl hb⟩) ((noN_bx p5 g3).ext (fun k x e => by cases e))⟩
   obtain ⟨cp, e⟩ := hf.flat g4
   rw [p1] at e; cases e
   rcases hz.2 with hz | ⟨_, _, _, hz⟩
   ·exact (p3 g2).1 hz
   ·exact hz _ c (by simp) p1
  ·refine .inr ⟨p1, ?_⟩
   rcases p2 with rfl | ⟨t, m, f, p2 | rfl⟩ | p2
   ·cases g2
   ·exact .inl ⟨t, m, f, p2⟩
   ·cases g2
   ·exact .inr p2
 have hkeyBox : ∀ k, k ∈ Hs.keys [(1998, B0)] → ∃ B, (k, B) ∈ ([(1998, B0)] : Hs) ∧ H1 k0 = some B ∧ B.mut = true := fun k hk => by
  obtain ⟨⟨k2, B⟩, hm, rfl⟩ := List.mem_map.1 hk
  exact ⟨B, hm, (h2 _ (hns k2 hk)).trans (hH k2 B hm), (hob.od k2 B hm).2.1⟩
 have hHs : HsAt (fun o b => o = true ∧ Zc b) w ic [(1998, B0)] := ⟨hbox, fun k k' B B' b hm hm' f1 f2 => by
  have hk : k ∈ Hs.keys [(1998, B0)] := List.mem_map.2 ⟨_, hm, rfl⟩
  have hk' : k' ∈ Hs.keys [(1998, B0)] := List.mem_map.2 ⟨_, hm', rfl⟩
  obtain ⟨c, p1⟩ := f1.flat (hob.od k B hm).2.2.2
  obtain ⟨c', p2⟩ := f2.flat (hob.od k' B' hm').2.2.2
  obtain ⟨B1, _, g1, g2⟩ := hkeyBox k hk
  obtain ⟨B1', _, g1', g2'⟩ := hkeyBox k' hk'
  rw [hic1 k hk] at p1
  rw [hic1 k' hk'] at p2
  simp [Hs.keys] at hk hk'; omega⟩
 have hargs : RepsI (fun o b => o = true ∧ Zc b) w ic (xs.map a.eval ++ cv) ds := by
  have hl := hv.len
  refine ⟨by simp at hl ⊢; omega, fun j hj => ?_⟩
  have hr : Rep Z w i ((xs.map a.eval ++ cv).getD j undef) (dl (ads ++ caps) j) := by
   rw [List.getD_eq_getElem?_getD, dl_eq, List.getD_eq_getElem?_getD]
   by_cases q : j < ads.length
   ·have := hasr j q
    rw [List.getD_eq_getElem?_getD, dl_eq, List.getD_eq_getElem?_getD] at this
    rw [List.getElem?_append_left (by simpa [hlen] using q), List.getElem?_append_left q]
    exact this
   ·have := c3 (j - ads.length) (by simp at hl; omega)
    rw [List.getD_eq_getElem?_getD, dl_eq, List.getD_eq_getElem?_getD] at this
    rw [List.getElem?_append_right (by simp [hlen]; omega), List.getElem?_append_right (by omega)]
    simpa [hlen] using this
  have := hv.at j H1 h2 S E1 a w Z i _ hF hLm hr
  rw [show (fun k => if k ∈ [1998] then i ((fun x => k0) k) else none) = ic from hic] at this
  exact (hod.od j).od (fun b hb => ⟨rfl, hb⟩) this
 unfold Oper.wp
 rw [hrun]
 refine (hden Zc w ic _ hZc hic2 hHs hargs).mono (fun e w' ⟨p0, p1⟩ => ?_)
 subst p0
 obtain ⟨C, hC, hC1, hC2⟩ := hkeyBox 1998 (by simp [Hs.keys])
 have hCB : C.nrows = 0 := (hob.od 1998 C hC).2.2.2
 have hF2 := hF.spoiled hC1 hC2 hCB (M := fun b => ∃ k c, k ∈ Hs.keys [(1998, B0)] ∧ ic k = some (some (b, c))) (fun b ⟨k, c, q1, q2⟩ => ⟨c, by rw [← hic1 k q1]; exact q2⟩) p1
 refine hX _ _ _ ?_ ⟨_, Z, i, { hF2 with env := fun t => .any _ _ }⟩
 show panAt (S.N / 65536 % 1099511627776) _
 rw [hN, hNk]
 rfl
end
section
variable {P:Program} {N:Nat} {ops:Array Oper} {rest:List Oper} {env:List (Nat × D)} {box:List (Nat × Option Box)} {done:List Rec} {K:List Rec→List (Nat × D)→List (Nat × Option Box)→Prop} {d:Nat} {ty:TypeId} {pos:String} {aft:Array Edge}
theorem r_callU (k:Nat) {x:Operand} {xs:List Operand} {ts:Array TypeId} {f:FuncId} {fn:Func} {ds ads caps:List D} {r d0:D} {B:Box} {v0:Value} [hf:FI P f fn] [hod:OldDL ds] [hob:AllOld [(1998,B)]] (hden:DenU P f ds B (.returned v0)) (hr0:∀ Z w i,Rep Z w i v0 r) (h:RunK P N ops rest ((d,r)::env) ((k,some .gone)::box) (done++[⟨nsOf box (ads++caps),some d,r,[(k,some .gone)],[]⟩]) K) (hx:autoParam (Op1 env x d0) aq0._auto_1) (hcl:autoParam ((d0 = .val (.func (.func f) #[] #[])∧caps=[])∨d0 = .clo f caps) aq12._auto_1) (ha:autoParam (Op1L env xs ads) aq3._auto_1) (hb:autoParam (Bl box k B) aq5._auto_1) (hm:memB k (nsOf box (ads++caps))=true:=by kernel_rfl) (hv:autoParam (ArgVL true [k] (nsOf box (ads++caps)) [1998] (fun _=>k) (hk box) (ads++caps) ds) aq2._auto_1) (hd:Nat.blt d (fsz N)=true:=by rfl):RunK P N ops (⟨some d,.call { callee:=.value x,args:=xs.toArray,argTypes:=ts },ty,pos,aft,none⟩::rest) env box done K:=
 run_put (ws:=[(k,some .gone)]) (fresh:=[]) (loc_callU (ρ:=fun _=>k) (P:=P) (N:=N) (o:=⟨some d,.call { callee:=.value x,args:=xs.toArray,argTypes:=ts },ty,pos,aft,none⟩) rfl rfl hd hx.opd hcl ha.opd hden hv (fun x C hm=>by cases hm with | head=>exact hb.eq | tail _ h=>cases h) (fun x hx=>memB_spec hm) hr0) rfl h
theorem r_callUX (k:Nat) {x:Operand} {xs:List Operand} {ts:Array TypeId} {f:FuncId} {fn:Func} {ds ads caps:List D} {d0:D} {B:Box} {e:Nat} [hf:FI P f fn] [hod:OldDL ds] [hob:AllOld [(1998,B)]] (hden:DenU P f ds B (.panicked (panCh e))) (h:RunK P N ops rest ((d,imp)::env) box (done++[⟨nsOf box (ads++caps),some d,imp,[],[]⟩]) K) (hN:N / 65536 % 1099511627776=e+1:=by first | rfl | assumption | omega) (hx:autoParam (Op1 env x d0) aq0._auto_1) (hcl:autoParam ((d0 = .val (.func (.func f) #[] #[])∧caps=[])∨d0 = .clo f caps) aq12._auto_1) (ha:autoParam (Op1L env xs ads) aq3._auto_1) (hb:autoParam (Bl box k B) aq5._auto_1) (hm:memB k (nsOf box (ads++caps))=true:=by kernel_rfl) (hv:autoParam (ArgVL true [k] (nsOf box (ads++caps)) [1998] (fun _=>k) (hk box) (ads++caps) ds) aq2._auto_1):RunK P N ops (⟨some d,.call { callee:=.value x,args:=xs.toArray,argTypes:=ts },ty,pos,aft,none⟩::rest) env box done K:=
 run_put (ws:=[]) (fresh:=[]) (loc_callUX (ρ:=fun _=>k) (P:=P) (N:=N) (o:=⟨some d,.call { callee:=.value x,args:=xs.toArray,argTypes:=ts },ty,pos,aft,none⟩) rfl rfl hx.opd hcl ha.opd hden hN hv (fun x C hm=>by cases hm with | head=>exact hb.eq | tail _ h=>cases h) (fun x hx=>memB_spec hm)) rfl h
end

instance (n e:Nat) (f g:Nat→List D) [h1:∀ e,OldDL (f e)] [h2:∀ e,OldDL (g e)]:OldDL (appF n f g e):=by
 unfold appF
 split
 ·exact h1 e
 ·exact h2 _
instance (n e:Nat) (f g:Nat→List D) [h1:∀ e,NewDL (f e)] [h2:∀ e,NewDL (g e)]:NewDL (appF n f g e):=by
 unfold appF
 split
 ·exact h1 e
 ·exact h2 _
instance (f:Nat→D):OldDL (List.map f []):=(inferInstance:OldDL [])
instance (f:Nat→D):NewDL (List.map f []):=(inferInstance:NewDL [])
theorem SlotCv.eptr0 {H:Nat→Option Box} (k m m':Nat):SlotCv H (.eptr k m 0 0) (.eptr k m' 0 0):=fun S E a w Z i v hF hv=>by
 cases hv with
 | eptr _ _ _ _ _ h=>
  rw [show 0*m+0=0*m'+0 by rw [Nat.zero_mul,Nat.zero_mul]]
  exact .eptr i k m' 0 0 h
theorem ArrAt.congr {Z:Zn} {w:World} {b cap:Nat} {t:TypeId} {n m:Nat} {f f1:Nat→List D} (he:∀ e,e<n→f e=f1 e) (h:ArrAt Z w b cap t n m f):ArrAt Z w b cap t n m f1:=by
 obtain ⟨cs,h1,h2,h3,h4,h5⟩:=h
 exact ⟨cs,h1,h2,h3,fun e q=>by rw [← he e q];exact h4 e q,fun e c q hc=>by rw [← he e q];exact h5 e c q hc⟩
theorem DenH.boxA {P:Program} {F:FuncId} {ds:List D} {k n m:Nat} {t:TypeId} {f:Nat→List D} {r:D} {hs' rs:Hs} (f1:Nat→List D) (he:∀ e,e<n→f e=f1 e) (h:DenH P F ds [(k,.arr t n m f1)] r hs' rs):DenH P F ds [(k,.arr t n m f)] r hs' rs:=fun Zc w i args hZ hi hH ha=>by
 refine h Zc w i args hZ hi ⟨fun k' B' hm=>?_,fun k1 k2 B1 B2 b h1 h2 _ _=>?_⟩ ha
 ·obtain ⟨rfl,rfl⟩:k'=k∧B' = .arr t n m f1:=by simpa using hm
  obtain ⟨_,h2⟩:=hH.1 k' (.arr t n m f) (by simp)
  refine ⟨rfl,?_⟩
  rcases h2 with ⟨b,cap,h3,h4,h5⟩ | ⟨h3,h4⟩
  ·exact .inl ⟨b,cap,h3,h4,ArrAt.congr he h5⟩
  ·refine .inr ⟨h3,.inl ?_⟩
   rcases h4 with ⟨t',m',f',h4⟩ | ⟨_,_,_,_,_,h4⟩
   ·cases h4;exact ⟨_,_,_,rfl⟩
   ·cases h4
 ·obtain ⟨rfl,_⟩:k1=k∧B1 = .arr t n m f1:=by simpa using h1
  obtain ⟨rfl,_⟩:k2=k1∧B2 = .arr t n m f1:=by simpa using h2
  rfl
section
variable {ro:Option Nat} {P:Program} {N:Nat} {Q:Post} {c:Code} {env:List (Nat × D)} {box:List (Nat × Option Box)}
theorem sub_frzA (k n:Nat) (f:Nat→List D) {t:TypeId} {l:List D} (hn:l.length=n) (hf:∀ e,e<n→(f e).length=1∧dl (f e) 0=dl l e) (hb:hk box k=some (.lit t l)) (h100:Nat.ble 1000 k=true) (hfr:D.free.freeL (fun _=>false) l=true):Sub (lk env) (hk box) (lk env) (hk ((k,some (.ice t n 1 f))::box)):=fun S a w hR=>by
 obtain ⟨Z,i,hF⟩:=hR
 replace h100:=Nat.le_of_ble_eq_true h100
 have hs:∀ x,hk ((k,some (.ice t n 1 f))::box) x=if k=x then some (.ice t n 1 f) else hk box x:=fun x=>by
  simp only [hk]
  by_cases q:k=x
  ·subst q;simp
  ·rw [beq_ne q,if_neg q]
 rcases hF.box k _ hb with ⟨b,cap,e1,e2,e3,_,e5⟩ | ⟨e1,e2⟩
 ·have hbn:S.w0.heap.size≤b:=by rcases e2 with e2 | ⟨e2,_⟩;exact e2;omega
  obtain ⟨cs,f1,f2,f3⟩:=e5
  refine ⟨fun o x=>Z o x∨x=b,i,?_⟩
  refine hF.step (fun x=>x=k) ⟨rfl,rfl,rfl,Nat.le_refl _⟩ (fun _ _ _=>rfl) (fun _ _=>rfl) (fun x hx=>by rw [hs];exact if_neg (Ne.symm hx)) (fun x hx e=>?_) (fun x hx e=>hF.nil x e) (fun x _ e=>hF.nil x e) (fun o b hb=>.inl hb) (fun x hx=>?_) (fun x hx=>?_) (fun x B hx hB=>?_) (fun x B b1 hx hB hm _=>by rw [hs,if_pos hx.symm] at hB;cases hB;cases hm) (fun x x' B B' b1 hx hx' _ _ _ _ _ _=>hx.trans hx'.symm)
  ·rw [hs,if_pos hx.symm] at e;cases e
  ·rcases hx with hx | rfl
   ·exact .inl hx
   ·exact .inr ⟨f1.lt,hbn,.inr ⟨k,_,rfl,hb,rfl,.root e1⟩,fun y B hy hB hm _=>by rw [hs,if_pos hy.symm] at hB;cases hB;cases hm⟩
  ·rcases hx with hx | rfl
   ·exact ⟨.inl (hF.zsub x hx),hF.zNew x hx⟩
   ·exact ⟨.inr rfl,hbn⟩
  ·rw [hs,if_pos hx.symm] at hB;cases hB
   subst hx
   refine .inl ⟨b,cap,e1,e2,fun h=>(by cases h),fun _=>.inr rfl,n,cs,f1,by rw [f2,hn];simp,Nat.le_refl _,fun e he=>(hf e he).1,fun e c he hc=>?_⟩
   obtain rfl:c=0:=by omega
   rw [Nat.mul_one,Nat.add_zero,(hf e he).2]
   have hc':e<l.length:=by omega
   exact ⟨(f3 e hc').1,((f3 e hc').2.nm (i':=noN) (freeL_at hfr e hc') (fun k x hk=>by cases hk)).mem (fun o y hy=>⟨.inl hy,rfl⟩)⟩
 ·rcases e2 with e2 | ⟨t',m',f2,e2 | e2⟩ | ⟨_,_,_,_,_,e2⟩<;>cases e2
theorem c_frzA (k n:Nat) (f:Nat→List D) {t:TypeId} {l:List D} (hn:l.length=n) (hf:∀ e,e<n→(f e).length=1∧dl (f e) 0=dl l e) (h:AWp ro P N c (lk env) (hk ((k,some (.ice t n 1 f))::box)) Q) (hb:autoParam (Bl box k (.lit t l)) aq5._auto_1) (h100:Nat.ble 1000 k=true:=by rfl) (hfr:D.free.freeL (fun _=>false) l=true:=by rfl):AWp ro P N c (lk env) (hk box) Q:=awp_sub (sub_frzA k n f hn hf hb.eq h100 hfr) h
theorem flat_free (g:Nat→Value) (l:List Nat):D.free.freeL (fun _=>false) (l.flatMap (fun e=>[D.val (g e)]))=true:=by
 induction l with
 | nil=>rfl
 | cons a l ih=>simpa [D.free.freeL,D.free] using ih
variable {env1:List (Nat × D)} {box1:List (Nat × Option Box)}
theorem c_cutB (I:List (Nat × D)) (B:List (Nat × Option Box)) {y:Code} {env2:List (Nat × D)} {box2:List (Nat × Option Box)} (h1:AWp ro P N c (lk env) (hk box) (AThen (fun E H=>Sub E H (lk env2) (hk box2)) Q)) (h2:AWp ro P N y (lk env2) (hk box2) Q) (he:autoParam (KeepE (dstsOf c++I.map (·.1)) env env1) aq7._auto_1) (ha:AppL I env1 env2:=by (repeat (first | exact AppL.nil | apply AppL.cons))) (hb:autoParam (KeepB (B.map (·.1)) box box1) aq9._auto_1) (hc:AppL B box1 box2:=by (repeat (first | exact AppL.nil | apply AppL.cons))):AWp ro P N c (lk env) (hk box) (AThen (fun E H=>AWp ro P N y E H Q) Q):=
 h1.mono (fun e E H h=>by
  cases e with
  | normal=>exact awp_sub h h2
  | _=>exact h)
theorem c_less (ts:List Nat) (h:AWp ro P N c (lk env1) (hk box1) Q)
  (h1:autoParam (KeepE ts env env1) aq7._auto_1) (h2:autoParam (KeepB [] box box1) aq9._auto_1)
  (h0:Sub (lk env) (hk box) (lk env1) (hk box1):=by exact sub):AWp ro P N c (lk env) (hk box) Q:=awp_sub h0 h
end
theorem appF_lt {n e:Nat} {f g:Nat→List D} (h:e<n):appF n f g e=f e:=by
 unfold appF
 rw [show Nat.blt e n=true by simpa using h]
theorem appF_ge {n e:Nat} {f g:Nat→List D} (h:n≤e):appF n f g e=g (e - n):=by
 unfold appF
 rw [show Nat.blt e n=false by cases q:Nat.blt e n<;>simp_all<;>omega]
section
variable {P:Program} {N:Nat} {o:Oper} {E:Nat→D} {H:Nat→Option Box}
theorem loc_makeSliceC {t el:TypeId} {x y:Operand} {k n c:Nat} {kl kc:IntKind} {z1 z2:Int} {info info':TypeInfo} {d':TypeDesc} {z:Value} (ho:o.op = .makeSlice t x y) (hd:dstLt o N=true) [hT:TI P t info (.slice el)] [hT':TI P el info' d'] (hz:info'.zero=some z) (hm:z.cells.size=info'.size) (h1:(z.cells.toList.all fun z=>z.oneCell')=true) (hms:Nat.blt 0 info'.size=true) (hx:Opd E x (.val (.int kl z1))) (hy:Opd E y (.val (.int kc z2))) (e1:z1=(n:Int)) (e2:z2=(c:Int)) (hnc:n≤c) (hb:c*info'.bytes≤281474976710656) (h63:c≤9223372036854775807) :
  Loc P N o E H ⟨[],o.dst,.sl k info'.size n,[(k,some (.arr el n info'.size fun _=>valL z.cells.toList))],[k]⟩:=
 loc_new (by simp [ho]) hd rfl (fun E1 H1 S Z i a w hF hA hN=>by
  have a1:=(hF.opd (hA x (by simp [ho,Op.operands]) _ hx)).valEq
  have a2:=(hF.opd (hA y (by simp [ho,Op.operands]) _ hy)).valEq
  subst e1 e2
  replace hms:0<info'.size:=by simpa using hms
  have hb':(info'.bytes:Int)*(c:Int)≤281474976710656:=by
   have h:((c*info'.bytes:Nat):Int)≤281474976710656:=by omega
   rwa [Int.natCast_mul,Int.mul_comm] at h
  have hr:=run_make (P:=P) w t el info' z hT.under hT'.info hz kl kc (n:Int) (c:Int) (by omega) (by omega) hb' (by omega)
  simp only [Int.toNat_natCast] at hr
  refine ⟨_,.cells (madeCells z.cells (c*info'.size)) el (0,0),c,?_,fun w' h1' hb' hlt i' h2=>⟨_,hb',by simp [size_madeCells],hnc,fun e he=>by rw [valL_len,← hm];simp,fun e c' he hc=>?_⟩,fun w' i' hi=>.sl _ _ _ _ _ hi hnc h63⟩
  ·simp only [execOp,ho,a1,a2]
   rw [Sem.run_bind,hr];rfl
  ·have hlt2:e*info'.size+c'<c*info'.size:=by
    have:(e+1)*info'.size≤c*info'.size:=Nat.mul_le_mul_right _ (by omega)
    rw [Nat.add_mul] at this
    omega
   have e1:(madeCells z.cells (c*info'.size)).getD (e*info'.size+c') undef=z.cells.getD c' undef:=by
    have:(e*info'.size+c') % z.cells.size=c':=by rw [hm,Nat.mul_comm,Nat.mul_add_mod,Nat.mod_eq_of_lt hc]
    simp [madeCells,Array.getD_eq_getD_getElem?,hlt2,this,Array.getElem!_eq_getD,Array.getElem?_eq_getElem (show c'<z.cells.size by omega)]
   rw [e1]
   have hc2:c'<z.cells.toList.length:=by simp;omega
   rw [valL_at hc2,← toArray_getD]
   simp only [Array.toArray_toList]
   have:=List.all_eq_true.1 h1 (z.cells.toList.getD c' undef) (getD_mem _ hc2)
   rw [← toArray_getD] at this
   exact ⟨by simpa using this,.val _ _⟩)
end
section
variable {P:Program} {N:Nat} {ops:Array Oper} {rest:List Oper} {env:List (Nat × D)} {box:List (Nat × Option Box)} {done:List Rec} {K:List Rec→List (Nat × D)→List (Nat × Option Box)→Prop} {d:Nat} {ty:TypeId} {pos:String} {aft:Array Edge}
theorem r_mkc {x y:Operand} {t el:TypeId} (n c:Nat) {kl kc:IntKind} {z1 z2:Int} {info info':TypeInfo} {d':TypeDesc} {zv:Value} {zs:List D} [hT:TI P t info (.slice el)] [hT':TI P el info' d'] (hn1:NatIs z1 n) (hn2:NatIs z2 c) (hnc:n≤c) (hb:c≤549755813888) (h:RunK P N ops rest ((d,.sl (1000+d) info'.size n)::env) ((1000+d,some (.arr el n info'.size fun _=>zs))::box) (done++[⟨[],some d,.sl (1000+d) info'.size n,[(1000+d,some (.arr el n info'.size fun _=>zs))],[1000+d]⟩]) K) (hx:autoParam (Op1 env x (.val (.int kl z1))) aq11._auto_1) (hy:autoParam (Op1 env y (.val (.int kc z2))) aq11._auto_1) (hz:info'.zero=some zv:=by rfl) (hm:zv.cells.size=info'.size:=by rfl) (h1:(zv.cells.toList.all fun z=>z.oneCell')=true:=by rfl) (hms:Nat.blt 0 info'.size=true:=by rfl) (hby:Nat.ble info'.bytes 256=true:=by rfl) (hzs:valL zv.cells.toList=zs:=by rfl) (hd:Nat.blt d (fsz N)=true:=by rfl):RunK P N ops (⟨some d,.makeSlice t x y,ty,pos,aft,none⟩::rest) env box done K:=
 run_put (ws:=[(1000+d,some (.arr el n info'.size fun _=>zs))]) (fresh:=[1000+d]) (hzs▸loc_makeSliceC rfl hd hz hm h1 hms hx.opd hy.opd hn1 hn2 hnc (Nat.le_trans (bytes_le hby hb) (by decide)) (by omega)) rfl h
end
section
variable {P:Program} {N:Nat} {ops:Array Oper} {rest:List Oper} {env:List (Nat × D)} {box:List (Nat × Option Box)} {done:List Rec} {K:List Rec→List (Nat × D)→List (Nat × Option Box)→Prop} {d:Nat} {ty:TypeId} {pos:String} {aft:Array Edge} {x y:Operand} {t t2:TypeId} {u:Int}
theorem mask32 (a:Nat) (ha:a<18446744073709551616):bits .and .u64 (a:Int) 4294967295=((a % 4294967296:Nat):Int):=by
 have h:=u64_and_nat a 4294967295 ha (by omega)
 rw [show (a &&& 4294967295)=a % 4294967296 from Nat.and_two_pow_sub_one_eq_mod a 32] at h
 exact h
theorem r_mask32 (a:Nat) (hz:NatIs u a) (ha:a<18446744073709551616) (h:RunK P N ops rest ((d,.val (.int .u64 ((a % 4294967296:Nat):Int)))::env) box (done++[⟨[],some d,.val (.int .u64 ((a % 4294967296:Nat):Int)),[],[]⟩]) K) (hx:autoParam (Op1 env x (.val (.int .u64 u))) aq8._auto_1) (hy:autoParam (Op1 env y (.val (.int .u64 4294967295))) aq8._auto_1) (hd:Nat.blt d (fsz N)=true:=by rfl):RunK P N ops (⟨some d,.binOp .and t x y t2,ty,pos,aft,none⟩::rest) env box done K:=
 r_bin hx hy (fun w=>by
  obtain rfl:=hz
  rw [← mask32 a ha]
  simp [eqGuard,binOp,Op.intBits,Result.andThen]
  rfl) hd h
end

section
variable {P:Program} {t:TypeId} {ox oy:Operand} {yk k:IntKind} {x y:Int} {a b s:Nat}
theorem bn_shr (hx:NatIs x a) (hy:NatIs y s) (hs:s≤k.bits):BinR P .shr t ox oy (.int k x) (.int yk y) (.int k ((a / 2 ^ s:Nat):Int)):=fun w=>by
 obtain rfl:=hx;obtain rfl:=hy
 have e:min ((s:Int).toNat) k.bits=s:=by rw [Int.toNat_natCast];omega
 simp [eqGuard,binOp,shift_shr_any,Nat.min_eq_left hs,Result.andThen]
theorem bn_shl64 (hx:NatIs x a) (hy:NatIs y s) (hs:s≤64):BinR P .shl t ox oy (.int .u64 x) (.int yk y) (.int .u64 ((a*2 ^ s % 18446744073709551616:Nat):Int)):=fun w=>by
 obtain rfl:=hx;obtain rfl:=hy
 have e:min s IntKind.u64.bits=s:=Nat.min_eq_left hs
 have e2:IntKind.u64.wrap ((a:Int)*2 ^ s)=((a*2 ^ s % 18446744073709551616:Nat):Int):=by
  simp [IntKind.wrap,IntKind.bits,IntKind.signed]
 simp [eqGuard,binOp,shift_shl_any,e,Result.andThen]
 rw [e2]
 simp
theorem bn_shl32 (hx:NatIs x a) (hy:NatIs y s) (hs:s≤32):BinR P .shl t ox oy (.int .u32 x) (.int yk y) (.int .u32 ((a*2 ^ s % 4294967296:Nat):Int)):=fun w=>by
 obtain rfl:=hx;obtain rfl:=hy
 have e:min s IntKind.u32.bits=s:=Nat.min_eq_left hs
 have e2:IntKind.u32.wrap ((a:Int)*2 ^ s)=((a*2 ^ s % 4294967296:Nat):Int):=by
  simp [IntKind.wrap,IntKind.bits,IntKind.signed]
 simp [eqGuard,binOp,shift_shl_any,e,Result.andThen]
 rw [e2]
 simp
theorem bw_or:BinR P .or t ox oy (.int k x) (.int k y) (.int k (bits .or k x y)):=fun w=>by
 simp [eqGuard,binOp,Op.intBits,Result.andThen]
 rfl
theorem bn_or64 (hx:NatIs x a) (hy:NatIs y b) (ha:a<18446744073709551616) (hb:b<18446744073709551616):BinR P .or t ox oy (.int .u64 x) (.int .u64 y) (.int .u64 ((a ||| b:Nat):Int)):=fun w=>by
 obtain rfl:=hx;obtain rfl:=hy
 have:=u64_or_nat a b ha hb
 rw [← this]
 exact bw_or w
theorem bn_or32 (hx:NatIs x a) (hy:NatIs y b) (ha:a<4294967296) (hb:b<4294967296):BinR P .or t ox oy (.int .u32 x) (.int .u32 y) (.int .u32 ((a ||| b:Nat):Int)):=fun w=>by
 obtain rfl:=hx;obtain rfl:=hy
 have:=u32_or_nat a b ha hb
 rw [← this]
 exact bw_or w
end
theorem or_add {a c j:Nat} (h:a<2 ^ j):(a ||| 2 ^ j*c)=a+2 ^ j*c:=by
 rw [Nat.or_comm,← Nat.two_pow_add_eq_or_of_lt h,Nat.add_comm]
section
variable {P:Program} {N:Nat} {ops:Array Oper} {rest:List Oper} {env:List (Nat × D)} {box:List (Nat × Option Box)} {done:List Rec} {K:List Rec→List (Nat × D)→List (Nat × Option Box)→Prop} {d:Nat} {ty:TypeId} {pos:String} {aft:Array Edge} {x y:Operand} {t t2:TypeId} {k yk:IntKind} {u v:Int}
theorem r_shr (a s:Nat) (ha:NatIs u a) (hs:NatIs v s) (hk:s≤k.bits) (h:RunK P N ops rest ((d,.val (.int k (((a / 2 ^ s:Nat):Int))))::env) box (done++[⟨[],some d,.val (.int k (((a / 2 ^ s:Nat):Int))),[],[]⟩]) K) (hx:autoParam (Op1 env x (.val (.int k u))) aq0._auto_1) (hy:autoParam (Op1 env y (.val (.int yk v))) aq0._auto_1) (hd:Nat.blt d (fsz N)=true:=by rfl):RunK P N ops (⟨some d,.binOp .shr t x y t2,ty,pos,aft,none⟩::rest) env box done K:=r_bin hx hy (bn_shr ha hs hk) hd h
theorem r_shl64 (a s:Nat) (ha:NatIs u a) (hs:NatIs v s) (hk:s≤64) (h:RunK P N ops rest ((d,.val (.int .u64 (((a*2 ^ s % 18446744073709551616:Nat):Int))))::env) box (done++[⟨[],some d,.val (.int .u64 (((a*2 ^ s % 18446744073709551616:Nat):Int))),[],[]⟩]) K) (hx:autoParam (Op1 env x (.val (.int .u64 u))) aq0._auto_1) (hy:autoParam (Op1 env y (.val (.int yk v))) aq0._auto_1) (hd:Nat.blt d (fsz N)=true:=by rfl):RunK P N ops (⟨some d,.binOp .shl t x y t2,ty,pos,aft,none⟩::rest) env box done K:=r_bin hx hy (bn_shl64 ha hs hk) hd h
theorem r_shl32 (a s:Nat) (ha:NatIs u a) (hs:NatIs v s) (hk:s≤32) (h:RunK P N ops rest ((d,.val (.int .u32 (((a*2 ^ s % 4294967296:Nat):Int))))::env) box (done++[⟨[],some d,.val (.int .u32 (((a*2 ^ s % 4294967296:Nat):Int))),[],[]⟩]) K) (hx:autoParam (Op1 env x (.val (.int .u32 u))) aq0._auto_1) (hy:autoParam (Op1 env y (.val (.int yk v))) aq0._auto_1) (hd:Nat.blt d (fsz N)=true:=by rfl):RunK P N ops (⟨some d,.binOp .shl t x y t2,ty,pos,aft,none⟩::rest) env box done K:=r_bin hx hy (bn_shl32 ha hs hk) hd h
theorem r_or64 (a b:Nat) (ha:NatIs u a) (hb:NatIs v b) (h1:a<18446744073709551616) (h2:b<18446744073709551616) (h:RunK P N ops rest ((d,.val (.int .u64 (((a ||| b:Nat):Int))))::env) box (done++[⟨[],some d,.val (.int .u64 (((a ||| b:Nat):Int))),[],[]⟩]) K) (hx:autoParam (Op1 env x (.val (.int .u64 u))) aq0._auto_1) (hy:autoParam (Op1 env y (.val (.int .u64 v))) aq0._auto_1) (hd:Nat.blt d (fsz N)=true:=by rfl):RunK P N ops (⟨some d,.binOp .or t x y t2,ty,pos,aft,none⟩::rest) env box done K:=r_bin hx hy (bn_or64 ha hb h1 h2) hd h
theorem r_or32 (a b:Nat) (ha:NatIs u a) (hb:NatIs v b) (h1:a<4294967296) (h2:b<4294967296) (h:RunK P N ops rest ((d,.val (.int .u32 (((a ||| b:Nat):Int))))::env) box (done++[⟨[],some d,.val (.int .u32 (((a ||| b:Nat):Int))),[],[]⟩]) K) (hx:autoParam (Op1 env x (.val (.int .u32 u))) aq0._auto_1) (hy:autoParam (Op1 env y (.val (.int .u32 v))) aq0._auto_1) (hd:Nat.blt d (fsz N)=true:=by rfl):RunK P N ops (⟨some d,.binOp .or t x y t2,ty,pos,aft,none⟩::rest) env box done K:=r_bin hx hy (bn_or32 ha hb h1 h2) hd h
end

section
variable {P:Program} {N:Nat} {o:Oper} {E:Nat→D} {H:Nat→Option Box}
def byteAt (s:ByteArray) (k:Nat):Nat:=if h:k<s.size then (s[k]'h).toNat else 0
theorem loc_index_str {t:TypeId} {x y:Operand} {s:ByteArray} {k:IntKind} {z:Int} {n:Nat} {info:TypeInfo} (ho:o.op = .index t x y) (hd:dstLt o N=true) [hT:TI P t info .string] (hx:Opd E x (.val (.string s))) (hy:Opd E y (.val (.int k z))) (hz:NatIs z n) (hn:n<s.size):Loc P N o E H ⟨[],o.dst,.val (.int .u8 ((byteAt s n:Nat):Int)),[],[]⟩:=
 loc_run (by simp [ho]) hd (fun E1 H1 S Z i a w hF hA hN=>by
  have h1:=(hF.opd (hA x (by simp [ho,Op.operands]) _ hx)).valEq
  have h2:=(hF.opd (hA y (by simp [ho,Op.operands]) _ hy)).valEq
  obtain rfl:=hz
  refine ⟨.int .u8 ((byteAt s n:Nat):Int),?_,.val _ _⟩
  have h3:=run_index_string (P:=P) w t s k (n:Int) hT.under
  rw [dif_pos ⟨by omega,by omega⟩] at h3
  have h4:((s[((n:Nat):Int).toNat]'(by omega)).toNat:Int)=((byteAt s n:Nat):Int):=by
   unfold byteAt
   rw [dif_pos hn]
   rfl
  rw [h4] at h3
  simp only [execOp,ho,h1,h2]
  rw [Sem.run_bind,h3]
  rfl)
def strOf (n:Nat) (g:Nat→Nat):ByteArray:=((List.range n).map (fun j=>((g j:Nat):Int))).foldl (fun r z=>r.push (UInt8.ofNat z.toNat)) ByteArray.empty
theorem loc_conv_str {s t e t':TypeId} {x:Operand} {k n n':Nat} {g:Nat→Nat} {i1 i2 i3:TypeInfo} (ho:o.op = .convert s t x) (hd:dstLt o N=true) [h1:TI P s i1 (.slice e)] [h2:TI P e i2 (.int .u8)] [h3:TI P t i3 .string] (hx:Opd E x (.sl k 1 n)) (hk:H k=some (.arr t' n' 1 (fun j=>[.val (.int .u8 ((g j:Nat):Int))]))) (hn:n≤n'):Loc P N o E H ⟨[k],o.dst,.val (.string (strOf n g)),[],[]⟩:=
 loc_run (by simp [ho]) hd (fun E1 H1 S Z i a w hF hA hN=>by
  have hv:=hF.opd (hA x (by simp [ho,Op.operands]) _ hx)
  have hk1:=hN k (by simp)
  rw [hk] at hk1
  generalize hve:a.eval x=v at hv
  refine ⟨.string (strOf n g),?_,.val _ _⟩
  cases hv with
  | @sl _ b _ _ _ cap hib q1 q2=>
   rcases hF.box k _ hk1 with ⟨b',_,e1,_,_,_,hA'⟩ | ⟨q,_⟩
   ·rw [hib] at e1;cases e1
    have hl:(loadCells ⟨b,0,none⟩ n).run P w = .ok (((List.range n).map (fun j=>((g j:Nat):Int))).map (Value.int .u8)).toArray w:=by
     rw [run_loadCells w ⟨b,0,none⟩ n (fun j=>.int .u8 ((g j:Nat):Int)) (fun j hj=>by
      obtain ⟨u,c1,_,c3⟩:=ArrAt.cellAt hA' (show j<n' by omega) (show 0<1 by omega)
      have:=c3.valEq
      rw [addr_add,Nat.zero_add]
      rw [Nat.mul_one,Nat.add_zero] at c1
      rw [c1,this])]
     rw [List.map_map]
     rfl
    have hc:=run_bytesToString (P:=P) w ⟨b,0,none⟩ n cap.c _ hl
    have hcv:=run_convert_bytes_string (P:=P) w s t e (some ⟨b,0,none⟩) n cap.c h1.under h2.under h3.under
    simp only [execOp,ho,hve]
    rw [Sem.run_bind,hcv,hc]
    rfl
   ·rw [hib] at q;cases q
  | sl0=>
   have hcv:=run_convert_bytes_string (P:=P) w s t e none 0 0 h1.under h2.under h3.under
   simp only [execOp,ho,hve]
   rw [Sem.run_bind,hcv]
   rfl)
end
section
variable {P:Program} {N:Nat} {ops:Array Oper} {rest:List Oper} {env:List (Nat × D)} {box:List (Nat × Option Box)} {done:List Rec} {K:List Rec→List (Nat × D)→List (Nat × Option Box)→Prop} {d:Nat} {ty:TypeId} {pos:String} {aft:Array Edge} {x y:Operand} {t:TypeId} {k:IntKind} {u:Int}
theorem r_sidx (s:ByteArray) (n:Nat) (hz:NatIs u n) (hn:n<s.size) {info:TypeInfo} [hT:TI P t info .string] (h:RunK P N ops rest ((d,.val (.int .u8 ((byteAt s n:Nat):Int)))::env) box (done++[⟨[],some d,.val (.int .u8 ((byteAt s n:Nat):Int)),[],[]⟩]) K) (hx:autoParam (Op1 env x (.val (.string s))) aq0._auto_1) (hy:autoParam (Op1 env y (.val (.int k u))) aq0._auto_1) (hd:Nat.blt d (fsz N)=true:=by rfl):RunK P N ops (⟨some d,.index t x y,ty,pos,aft,none⟩::rest) env box done K:=
 run_put (ws:=[]) (fresh:=[]) (loc_index_str rfl hd hx.opd hy.opd hz hn) rfl h
theorem r_cstr (k:Nat) {s e t':TypeId} {n n':Nat} {g:Nat→Nat} {i1 i2 i3:TypeInfo} [h1:TI P s i1 (.slice e)] [h2:TI P e i2 (.int .u8)] [h3:TI P t i3 .string] (hn:n≤n') (h:RunK P N ops rest ((d,.val (.string (strOf n g)))::env) box (done++[⟨[k],some d,.val (.string (strOf n g)),[],[]⟩]) K) (hx:autoParam (Op1 env x (.sl k 1 n)) aq11._auto_1) (hb:autoParam (Bl box k (.arr t' n' 1 (fun j=>[.val (.int .u8 ((g j:Nat):Int))]))) aq5._auto_1) (hd:Nat.blt d (fsz N)=true:=by rfl):RunK P N ops (⟨some d,.convert s t x,ty,pos,aft,none⟩::rest) env box done K:=
 run_put (ws:=[]) (fresh:=[]) (loc_conv_str rfl hd hx.opd hb.eq hn) rfl h
end

theorem foldl_push (ns:List Int):∀ s:ByteArray,(ns.foldl (fun r z=>r.push (UInt8.ofNat z.toNat)) s).data.toList=s.data.toList++ns.map (fun z=>UInt8.ofNat z.toNat):=by
 induction ns with
 | nil=>intro s;simp
 | cons z ns ih=>
  intro s
  rw [List.foldl_cons,ih]
  show (s.data.push (UInt8.ofNat z.toNat)).toList++_=_
  simp
theorem strOf_data (n:Nat) (g:Nat→Nat):(strOf n g).data.toList=(List.range n).map (fun j=>UInt8.ofNat (g j)):=by
 unfold strOf
 rw [foldl_push]
 show []++_=_
 rw [List.nil_append,List.map_map]
 rfl
theorem size_data (s:ByteArray):s.size=s.data.toList.length:=by
 show s.data.size=_
 simp
theorem strOf_size {n:Nat} {g:Nat→Nat}:(strOf n g).size=n:=by rw [size_data,strOf_data];simp
theorem byteAt_data (s:ByteArray) (k:Nat):byteAt s k=(s.data.toList.getD k 0).toNat:=by
 unfold byteAt
 split
 ·rename_i h
  have h2:k<s.data.toList.length:=by rw [← size_data];exact h
  rw [List.getD_eq_getElem?_getD,List.getElem?_eq_getElem h2]
  rfl
 ·rename_i h
  rw [List.getD_eq_getElem?_getD,List.getElem?_eq_none (by rw [← size_data];omega)]
  rfl
theorem byteAt_strOf {n k:Nat} {g:Nat→Nat} (hk:k<n) (hg:g k<256):byteAt (strOf n g) k=g k:=by
 rw [byteAt_data,strOf_data,List.getD_eq_getElem?_getD,List.getElem?_map,List.getElem?_range hk]
 simp only [Option.map_some,Option.getD_some]
 rw [UInt8.toNat_ofNat']
 exact Nat.mod_eq_of_lt hg
theorem str_ext {s t:ByteArray} (hs:s.size=t.size) (h:∀ k,k<s.size→byteAt s k=byteAt t k):s=t:=by
 have h1:s.data.toList=t.data.toList:=by
  apply List.ext_getElem
  ·rw [← size_data,← size_data];exact hs
  ·intro i h1 h2
   have h3:=h i (by rw [size_data];exact h1)
   rw [byteAt_data,byteAt_data,List.getD_eq_getElem?_getD,List.getElem?_eq_getElem h1,List.getD_eq_getElem?_getD,List.getElem?_eq_getElem h2] at h3
   exact UInt8.toNat_inj.1 h3
 cases s;cases t
 congr 1
 exact Array.toList_inj.1 h1
def numS (s:ByteArray):Nat:=vB s.data.toList
def strN (A:Nat):ByteArray:=strOf (nD 8 A) (fun i=>dg 256 A (nD 8 A - 1 - i))
theorem numS_lt (s:ByteArray):numS s<256 ^ s.size:=by rw [size_data];exact vB_lt _
theorem byteAt_num (s:ByteArray) (k:Nat) (h:k<s.size):byteAt s k=dg 256 (numS s) (s.size - 1 - k):=by
 rw [byteAt_data]
 unfold numS
 have hl:=size_data s
 rw [dg_vB _ _ (by omega),← hl]
 congr 2
 omega
theorem strN_size {A:Nat}:(strN A).size=nD 8 A:=strOf_size
theorem numS_strN {A:Nat}:numS (strN A)=A:=by
 have h1:=numS_lt (strN A)
 rw [strN_size] at h1
 have h2:A<256 ^ nD 8 A:=nD_lt (k:=8) (by omega)
 refine dg_ext h1 h2 (fun i hi=>?_)
 have h3:=byteAt_num (strN A) (nD 8 A - 1 - i) (by rw [strN_size];omega)
 rw [strN_size,show nD 8 A - 1 - (nD 8 A - 1 - i)=i by omega] at h3
 rw [← h3]
 unfold strN
 refine (byteAt_strOf (g:=fun j=>dg 256 A (nD 8 A - 1 - j)) (by omega) (dg_lt (by omega))).trans ?_
 show dg 256 A (nD 8 A - 1 - (nD 8 A - 1 - i))=_
 congr 1
 omega
theorem strN_numS {s:ByteArray} (h:s.size=0∨byteAt s 0≠0):strN (numS s)=s:=by
 have hn:nD 8 (numS s)=s.size:=by
  by_cases h0:s.size=0
  ·have:=numS_lt s
   rw [h0,Nat.pow_zero] at this
   rw [h0,show numS s=0 by omega];rfl
  ·have h1:=h.resolve_left h0
   obtain ⟨n,hn⟩:∃ n,s.size=n+1:=⟨s.size - 1,by omega⟩
   rw [byteAt_num s 0 (by omega),hn] at h1
   have h2:=numS_lt s
   rw [hn] at h2 ⊢
   exact nD_of_top (k:=8) (by omega) h2 (by simpa using h1)
 apply str_ext
 ·rw [strN_size,hn]
 ·intro k hk
  rw [strN_size,hn] at hk
  rw [byteAt_num s k hk]
  unfold strN
  rw [hn]
  exact byteAt_strOf (g:=fun i=>dg 256 (numS s) (s.size - 1 - i)) hk (dg_lt (by omega))
theorem strN_top {A:Nat} (h:A≠0):byteAt (strN A) 0≠0:=by
 have h1:=nD_pos (k:=8) h
 rw [byteAt_num _ _ (by rw [strN_size];exact h1),strN_size,numS_strN]
 exact dg_top (k:=8) (by omega) h

theorem nw_lt {A:Nat}:A<4294967296 ^ nD 32 A:=by simpa using nD_lt (k:=32) (A:=A) (by omega)
theorem nw_le {A n:Nat} (h:A<4294967296 ^ n):nD 32 A≤n:=nD_le_of_lt (k:=32) (by omega) (by simpa using h)
theorem nw_top {A n:Nat} (h:A<4294967296 ^ (n+1)) (ht:dg 4294967296 A n≠0):nD 32 A=n+1:=nD_of_top (k:=32) (by omega) (by simpa using h) (by simpa using ht)
theorem nw_ne {A:Nat} (h:A≠0):dg 4294967296 A (nD 32 A - 1)≠0:=by simpa using dg_top (k:=32) (by omega) h
theorem dgw {A i:Nat}:dg 4294967296 A i<4294967296:=dg_lt (by omega)
theorem dgb {A i:Nat}:dg 256 A i<256:=dg_lt (by omega)
theorem nb_lt {A:Nat}:A<256 ^ nD 8 A:=by simpa using nD_lt (k:=8) (A:=A) (by omega)
theorem nb_le {A n:Nat} (h:A<256 ^ n):nD 8 A≤n:=nD_le_of_lt (k:=8) (by omega) (by simpa using h)
theorem nD_eq_zero {k A:Nat}:nD k A=0↔A=0:=by
 constructor
 ·intro h
  apply Classical.byContradiction
  intro h0
  have:=nD_pos (k:=k) h0
  omega
 ·intro h;subst h;rfl
theorem nw_nb {A:Nat}:nD 32 A=(nD 8 A+3) / 4:=by
 unfold nD
 split<;>omega
theorem nb_top {A:Nat} (h:A≠0):nD 8 A=4*nD 32 A - (32 - lenBits (dg 4294967296 A (nD 32 A - 1))) / 8∧0<lenBits (dg 4294967296 A (nD 32 A - 1))∧lenBits (dg 4294967296 A (nD 32 A - 1))≤32:=by
 have h1:=nw_ne h
 have h2:=nw_lt (A:=A)
 have h3:nD 32 A=A.log2 / 32+1:=by unfold nD;rw [if_neg h]
 have h4:nD 8 A=A.log2 / 8+1:=by unfold nD;rw [if_neg h]
 have e1:dg 4294967296 A (nD 32 A - 1)=A / 2 ^ (32*(A.log2 / 32)):=by
  unfold dg
  rw [h3,Nat.add_sub_cancel]
  rw [show (4294967296:Nat) ^ (A.log2 / 32)=2 ^ (32*(A.log2 / 32)) by rw [Nat.pow_mul]]
  apply Nat.mod_eq_of_lt
  apply Nat.div_lt_of_lt_mul
  rw [h3] at h2
  rw [show 2 ^ (32*(A.log2 / 32))*4294967296=(4294967296:Nat) ^ (A.log2 / 32+1) by rw [Nat.pow_succ,Nat.pow_mul]]
  exact h2
 have e2:lenBits (dg 4294967296 A (nD 32 A - 1))=A.log2 % 32+1:=by
  unfold lenBits
  rw [if_neg h1,e1]
  congr 1
  have l1:=Nat.log2_self_le h
  have l2:=Nat.lt_log2_self (n:=A)
  rw [Nat.log2_eq_iff (by rw [← e1];exact h1)]
  have e3:A.log2=32*(A.log2 / 32)+A.log2 % 32:=(Nat.div_add_mod _ _).symm
  generalize A.log2 / 32=x at *
  generalize A.log2 % 32=y at *
  rw [e3] at l1 l2
  constructor
  ·rw [Nat.le_div_iff_mul_le (Nat.pow_pos (by omega)),← Nat.pow_add,Nat.add_comm];exact l1
  ·apply Nat.div_lt_of_lt_mul
   rw [← Nat.pow_add]
   rw [show 32*x+(y+1)=32*x+y+1 by omega]
   exact l2
 rw [e2,h3,h4]
 omega
def hiB (A k:Nat):Nat:=A / 256 ^ k*256 ^ k
theorem hiB_zero {A:Nat}:hiB A 0=A:=by unfold hiB;simp
theorem hiB_top {A k:Nat} (h:A<256 ^ k):hiB A k=0:=by unfold hiB;rw [Nat.div_eq_of_lt h,Nat.zero_mul]
theorem hiB_step {A k:Nat}:hiB A k=hiB A (k+1)+256 ^ k*dg 256 A k:=by
 unfold hiB
 conv=>lhs;rw [sh_aux (W:=256)]
 rw [Nat.add_mul,Nat.pow_succ,Nat.mul_assoc,Nat.mul_comm 256,Nat.mul_comm (dg 256 A k)]
theorem hiB_dg {A k:Nat}:dg 256 (hiB A (k+1)) k=0:=by
 unfold hiB dg
 rw [Nat.pow_succ,Nat.mul_comm (256 ^ k) 256,← Nat.mul_assoc,Nat.mul_div_cancel _ (Nat.pow_pos (by omega)),Nat.mul_mod_left]
theorem hiB_mul {A k:Nat}:∃ c,dg 4294967296 (hiB A (k+1)) (k / 4)=2 ^ (8*(k % 4)+8)*c:=by
 have e1:(256:Nat) ^ (k+1)=4294967296 ^ (k / 4)*256 ^ (k % 4+1):=by
  rw [show k+1=4*(k / 4)+(k % 4+1) by omega,Nat.pow_add,Nat.pow_mul]
 unfold hiB dg
 generalize A / 256 ^ (k+1)=a
 rw [e1,Nat.mul_comm (4294967296 ^ (k / 4)),← Nat.mul_assoc,Nat.mul_div_cancel _ (Nat.pow_pos (by omega))]
 have h4:k % 4<4:=Nat.mod_lt _ (by omega)
 rw [show 2 ^ (8*(k % 4)+8)=(256:Nat) ^ (k % 4+1) by rw [show 8*(k % 4)+8=8*(k % 4+1) by omega,Nat.pow_mul]]
 have e2:(4294967296:Nat)=256 ^ (k % 4+1)*256 ^ (3 - k % 4):=by
  rw [← Nat.pow_add,show k % 4+1+(3 - k % 4)=4 by omega]
 refine ⟨a % 256 ^ (3 - k % 4),?_⟩
 rw [Nat.mul_comm a]
 conv=>lhs;rw [e2]
 rw [Nat.mul_mod_mul_left]
theorem hiB_or {A k:Nat}:(dg 4294967296 (hiB A (k+1)) (k / 4) ||| (dg 256 A k*2 ^ (8*(k % 4)) % 4294967296))=dg 4294967296 (hiB A k) (k / 4):=by
 obtain ⟨c,hc⟩:=hiB_mul (A:=A) (k:=k)
 have h4:k % 4<4:=Nat.mod_lt _ (by omega)
 have hd:=dgb (A:=A) (i:=k)
 have e0:=dg_put (w:=256) (m:=4) (x:=hiB A (k+1)) (k:=k) (d:=dg 256 A k) (by omega) (by omega) hiB_dg hd (k / 4)
 rw [← hiB_step,if_pos rfl,show (256:Nat) ^ 4=4294967296 by rfl] at e0
 have hlt:dg 256 A k*2 ^ (8*(k % 4))<2 ^ (8*(k % 4)+8):=by
  rw [Nat.pow_add,Nat.mul_comm]
  exact Nat.mul_lt_mul_of_pos_left hd (Nat.pow_pos (by omega))
 have hle:2 ^ (8*(k % 4)+8)≤2 ^ 32:=Nat.pow_le_pow_right (by omega) (by omega)
 rw [Nat.mod_eq_of_lt (by omega),hc,Nat.or_comm,or_add hlt,← hc,e0,Nat.add_comm]
 congr 1
 rw [Nat.pow_mul,Nat.mul_comm]
theorem hiB_other {A k j:Nat} (h:j≠k / 4):dg 4294967296 (hiB A k) j=dg 4294967296 (hiB A (k+1)) j:=by
 have e0:=dg_put (w:=256) (m:=4) (x:=hiB A (k+1)) (k:=k) (d:=dg 256 A k) (by omega) (by omega) hiB_dg dgb j
 rw [← hiB_step,if_neg h,show (256:Nat) ^ 4=4294967296 by rfl] at e0
 exact e0
theorem byte_word {A k:Nat}:dg 4294967296 A (k / 4) / 2 ^ (8*(k % 4)) % 256=dg 256 A k:=by
 have:=dg_split (w:=256) (m:=4) (A:=A) (i:=k / 4) (c:=k % 4) (Nat.mod_lt _ (by omega))
 rw [Nat.div_add_mod,show (256:Nat) ^ 4=4294967296 by rfl] at this
 rw [← this,Nat.pow_mul]
theorem strN_byte {A i:Nat} (h:i<nD 8 A):byteAt (strN A) i=dg 256 A (nD 8 A - 1 - i):=by
 rw [byteAt_num _ _ (by rw [strN_size];exact h),strN_size,numS_strN]
theorem strN_inj {A B:Nat} (h:strN A=strN B):A=B:=by rw [← numS_strN (A:=A),h,numS_strN]
theorem strOf_congr {n:Nat} {f g:Nat→Nat} (h:∀ j,j<n→f j=g j):strOf n f=strOf n g:=by
 unfold strOf
 congr 1
 apply List.map_congr_left
 intro j hj
 rw [h j (List.mem_range.1 hj)]
abbrev wS (neg:Bool) (s:ByteArray):D:=.agg [.val (.bool neg),.val (.string s)]
abbrev wN (neg:Bool) (A:Nat):D:=wS neg (strN A)
abbrev wZ:D:=wS false ByteArray.empty
def vldB (neg:Bool) (s:ByteArray):Bool:=if s.size=0 then !neg else (decide (byteAt s 0≠0) && decide (s.size≤256))
structure Vw (neg:Bool) (A:Nat):Prop where
 lt:nD 8 A≤256
 z:A=0→neg=false
theorem vldB_num {neg:Bool} {s:ByteArray} (h:vldB neg s=true):∃ A,Vw neg A∧s=strN A:=by
 unfold vldB at h
 split at h
 ·rename_i h0
  refine ⟨0,⟨by rw [nD_zero];omega,fun _=>by simpa using h⟩,?_⟩
  have:=strN_numS (.inl h0)
  have h2:=numS_lt s
  rw [h0,Nat.pow_zero] at h2
  rw [← this,show numS s=0 by omega]
 ·rename_i h0
  simp only [Bool.and_eq_true,decide_eq_true_eq] at h
  have h1:=strN_numS (s:=s) (.inr h.1)
  refine ⟨numS s,⟨by rw [← strN_size,h1];exact h.2,fun e=>?_⟩,h1.symm⟩
  exfalso
  rw [e] at h1
  apply h0
  rw [← h1];rfl
theorem Vw.ok {neg:Bool} {A:Nat} (h:Vw neg A):vldB neg (strN A)=true:=by
 unfold vldB
 rw [strN_size]
 split
 ·rename_i h0
  rw [h.z (nD_eq_zero.1 h0)];rfl
 ·rename_i h0
  have:=strN_top (A:=A) (fun e=>h0 (by subst e;rfl))
  simp [this,h.lt]
theorem Vw.words {neg:Bool} {A:Nat} (h:Vw neg A):nD 32 A≤64:=by have:=h.lt;rw [nw_nb];omega
def zI (neg:Bool) (A:Nat):Int:=if neg then -(A:Int) else (A:Int)

theorem stepR_scope {P:Program} {b:Frame} {a:Act} {k:List Item} {cs:List Frame} {w:World} {c:Code}:step P (lone (b.atR a (.code (.scope c)::k)) cs w) = .next (lone (b.atR a (.code c :: .inScope c::k)) cs w):=
 step_lone_go (by simp [stepG,stepG.exec,Frame.atR])
theorem stepR_inScope {P:Program} {b:Frame} {a:Act} {k:List Item} {cs:List Frame} {w:World} {c:Code}:step P (lone (b.atR a (.inScope c::k)) cs w) = .next (lone (b.atR a k) cs w):=
 step_lone_go (by simp [stepG,stepG.exec,Frame.atR])
theorem wpIn_scope {F:Fence} {n:Nat} {P:Program} {a:Act} {w:World} {Q:Exit→Act→World→Prop} {c:Code} (h:c.wpIn F n P (Exit.noGoto Q) a w):(Code.scope c).wpIn F n P Q a w:=by
 intro b k cs hro hb hr
 have h0:(lone (b.atR a (.code (.scope c)::k)) cs w).fenced P F:=fenced_calm hb hr rfl
 obtain ⟨e,a₁,w₁,hq,harr⟩:=h b (.inScope c::k) cs hro hb hr
 cases e with
 | normal=>exact ⟨.normal,a₁,w₁,hq,.head h0 stepR_scope (StepsIn.trans harr (.one (fenced_calm hb hr rfl) stepR_inScope))⟩
 | exit id=>
  have hx:exitTo id (.inScope c::k)=exitTo id k:=by simp [exitTo]
  exact ⟨_,a₁,w₁,hq,fun k' hk=>.head h0 stepR_scope (harr.1 k' (by rw [hx];exact hk)),
   fun hr' hk=>let ⟨k₁,h1,h2⟩:=harr.2 hr' (by rw [hx];exact hk);⟨k₁,h1,.head h0 stepR_scope h2⟩⟩
 | goto l=>exact hq.elim
 | ret=>exact ⟨_,a₁,w₁,hq,.of_steps (.one h0 stepR_scope) harr⟩
 | panic ch=>exact ⟨_,a₁,w₁,hq,.of_steps (.one h0 stepR_scope) harr⟩
 | outgrown=>exact ⟨_,a₁,w₁,hq,.of_steps (.one h0 stepR_scope) harr⟩
theorem awp_scope {ro:Option Nat} {P:Program} {N:Nat} {c:Code} {E:Nat→D} {H:Nat→Option Box} {Q:Post} (hng:∀ l E H,Q (.goto l) E H→False) (h:AWp ro P N c E H Q):AWp ro P N (.scope c) E H Q:=fun S a w hN hR=>by
 refine wpIn_scope (wpIn_mono (h S a w hN hR) (fun e a' w' ⟨E',H',h1,h2⟩=>?_))
 cases e with
 | goto l=>exact (hng l E' H' (by simpa [QP] using h1)).elim
 | _=>exact ⟨E',H',h1,h2⟩
theorem awp_label {ro:Option Nat} {P:Program} {N:Nat} {l:Nat} {E:Nat→D} {H:Nat→Option Box} {Q:Post} (h:Q .normal E H):AWp ro P N (.label l) E H Q:=fun S a w hN hR=>wpIn_label ⟨E,H,QP.of h,hR⟩
def cPath:List Nat→Code→Code
 | [],c=>c
 | 0::l,.seq x _=>cPath l x
 | _::l,.seq _ y=>cPath l y
 | 0::l,.cond _ x _=>cPath l x
 | _::l,.cond _ _ y=>cPath l y
 | _::l,.loop c=>cPath l c
 | _::l,.block _ c=>cPath l c
 | _::l,.scope c=>cPath l c
 | _,c=>c
def fPath (f:Func) (l:List Nat):Code:=match f.body with | some c=>cPath l c | none=>.skip
end Go.Proofs.YtdcenblblimkfaaGreat
