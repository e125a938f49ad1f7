/- Laws of ciphertexts' parts: plain. No walk.
Valid ciphertexts among any: by data. No walk.
Supplies of bits by data: what the elder walks of the reference say.
Arguments as the rows lay them, by data.
Supplies of bits by data: the reference's.
Supplies of bits by data: the program's.
Rescaling, by data: fewer primes.
The reference's ring, by data: sums and multiples, rows of the call's own or not.
The reference's multiples, whose root is the call's own, by data.
The program's ring, by data: elements whose rows are the call's own.
The reference's products of elements, by data.
The reference's sums of elements, by data.
The reference's division by a prime, by data.
The small parameters of the examples; literal lists as arguments: by data.
Rescaling: the reference's results are the program's. Plain.
The law on exponents, by data: for any results that are alike on both sides.
Sums of products of elements: what the program and its reference add is one and the same.
Automorphisms of rows, as the reference writes them; digits under them. Plain.
Secrets: weights, powers, automorphisms. Plain. -/
import Derived.Test.YtdcenblblimkfaaGreatPk38
import Derived.Test.YtdcenblblimkfaaGreatPk36
import Derived.Test.YtdcenblblimkfaaGreatPk23
import Derived.Test.YtdcenblblimkfaaGreatPk22
import Derived.Test.YtdcenblblimkfaaGreatPk24
import Derived.Test.YtdcenblblimkfaaGreatPk20
import Derived.Test.YtdcenblblimkfaaGreatPk21
import Derived.Tactics
import Derived.Tactics2
import Derived.StillTactics
import Derived.Laws.Small
import Derived.Laws.StructEq
import Derived.KernelRfl
import Derived.Laws.Pointers
set_option linter.unusedSimpArgs false
set_option linter.unusedVariables false
set_option linter.unnecessarySimpa false
set_option linter.unusedSectionVars false
namespace Go.Proofs.YtdcenblblimkfaaGreat
open Go.RowKit
section
variable {p:PD} {n lv:Nat}
theorem subV_eq (h:Lv p n lv) (A:Nat→Nat→Nat) {B:Nat→Nat→Nat} (hB:Vg p lv B):subV p lv A B=addV p lv A (mulIntV p lv (-1) B):=by
 funext r j;unfold subV addV mulIntV
 have h1:=hB r j
 have h2:=h.q0 r
 rw [resI_m1 h2,neg_mod h2 h1,Nat.add_mod_mod,Nat.add_sub_assoc (by omega)]
def constX (c:Int) (j:Nat):Int:=if j=0 then c else 0
end

structure Dflt (c:CG):Prop where
 k:c.k≤9223372036854775807
 m:∀ i,(c.P i).m≤9223372036854775807
 l:∀ i k,(c.P i).ln k≤9223372036854775807
 o1:∀ i,c.k≤i→(c.P i).m=0
 o2:∀ i k,(c.P i).m≤k→(c.P i).ln k=0
 o3:∀ i k j,(c.P i).ln k≤j→(c.P i).g k j=0
section
variable {p:PD} {n lv:Nat}
end
noncomputable abbrev oneD (n:Nat) (c:Int):D:=.fz true n Tryz.t2.size (setE (fun _=>valL (Value.int .i64 0).cells.toList) (Int.toNat 0) 0 (D.val (.int .i64 c)).cellL)
noncomputable abbrev twoD (n:Nat) (c d:Int):D:=.fz true n Tryz.t2.size (setE (setE (fun _=>valL (Value.int .i64 0).cells.toList) (Int.toNat 0) 0 (D.val (.int .i64 c)).cellL) (Int.toNat 0) 0 (D.val (.int .i64 d)).cellL)
theorem one_f (c:Int):setE (fun _=>valL (Value.int .i64 0).cells.toList) (Int.toNat 0) 0 (D.val (.int .i64 c)).cellL=fun j=>[.val (.int .i64 (constX c j))]:=by
 funext e
 unfold setE constX
 by_cases q:e=0
 ·subst q;rfl
 ·rw [if_neg (show ¬ e=Int.toNat 0 from q),if_neg q];rfl
theorem two_f (c d:Int):setE (setE (fun _=>valL (Value.int .i64 0).cells.toList) (Int.toNat 0) 0 (D.val (.int .i64 c)).cellL) (Int.toNat 0) 0 (D.val (.int .i64 d)).cellL=fun j=>[.val (.int .i64 (constX d j))]:=by
 rw [one_f]
 funext e
 unfold setE constX
 by_cases q:e=0
 ·subst q;rfl
 ·rw [if_neg (show ¬ e=Int.toNat 0 from q)]
  show [D.val (.int .i64 (if e=0 then c else 0))]=[D.val (.int .i64 (if e=0 then d else 0))]
  rw [if_neg q,if_neg q]
theorem one_eq (n:Nat) (c:Int):oneD n c=intsD true n (constX c):=by unfold oneD;rw [one_f];rfl
theorem two_eq (n:Nat) (c d:Int):twoD n c d=intsD true n (constX d):=by unfold twoD;rw [two_f];rfl
instance (n:Nat) (c:Int):OldD (oneD n c):=by rw [one_eq];infer_instance
instance (n:Nat) (c d:Int):OldD (twoD n c d):=by rw [two_eq];infer_instance

instance ti9:TI Tryz.prog 9 Tryz.t9 (.string ):=⟨by kernel_rfl,by kernel_rfl⟩
instance ti142:TI Tryz.prog 142 Tryz.t142 Tryz.t141.desc:=⟨by kernel_rfl,by kernel_rfl⟩
instance ti144:TI Tryz.prog 144 Tryz.t144 Tryz.t143.desc:=⟨by kernel_rfl,by kernel_rfl⟩
instance sz9:SZ Tryz.prog 9 1:=SZ.of ti9 rfl
instance zr142:ZR Tryz.prog 142 [.string { data:=#[] },.int .i64 0,.bool false]:=ZR.of ti142 rfl rfl rfl
instance bt142:BT Tryz.prog 142 [(0,1),(1,1),(2,1)] [.string { data:=#[] },.int .i64 0,.bool false]:=BT.of (ns:=[1,1,1]) ti142 rfl zr142.zr ⟨sz9.sz,⟨sz3.sz,⟨sz4.sz,trivial⟩⟩⟩ (by intro j;repeat (first | rfl | cases j with | zero=>rfl | succ j=>?_))
instance ft142_1:FT Tryz.prog 142 1 1:=FT.of ti142 rfl ti3 rfl rfl
instance ft142_2:FT Tryz.prog 142 2 2:=FT.of ti142 rfl ti4 rfl rfl
instance zr144:ZR Tryz.prog 144 [.string { data:=#[] },.int .i64 0]:=ZR.of ti144 rfl rfl rfl
instance bt144:BT Tryz.prog 144 [(0,1),(1,1)] [.string { data:=#[] },.int .i64 0]:=BT.of (ns:=[1,1]) ti144 rfl zr144.zr ⟨sz9.sz,⟨sz3.sz,trivial⟩⟩ (by intro j;repeat (first | rfl | cases j with | zero=>rfl | succ j=>?_))
instance ft144_1:FT Tryz.prog 144 1 1:=FT.of ti144 rfl ti3 rfl rfl
instance fi53:FI Tryz.prog 53 Tryz.f53:=⟨Tryz.func53,Tryz.call53⟩
instance fi220:FI Tryz.prog 220 Tryz.f220:=⟨Tryz.func220,Tryz.call220⟩
instance fi144:FI Tryz.prog 144 Tryz.f144:=⟨Tryz.func144,Tryz.call144⟩
instance fi58:FI Tryz.prog 58 Tryz.f58:=⟨Tryz.func58,Tryz.call58⟩
instance fi52:FI Tryz.prog 52 Tryz.f52:=⟨Tryz.func52,Tryz.call52⟩
instance fi135:FI Tryz.prog 135 Tryz.f135:=⟨Tryz.func135,Tryz.call135⟩
instance fi136:FI Tryz.prog 136 Tryz.f136:=⟨Tryz.func136,Tryz.call136⟩
instance fi57:FI Tryz.prog 57 Tryz.f57:=⟨Tryz.func57,Tryz.call57⟩
set_option maxRecDepth 20000
set_option maxHeartbeats 4000000
abbrev listD (kd:IntKind) (o:Bool) (l:List Int):D:=.fz o l.length 1 (fun k=>[.val (.int kd (l.getD k 0))])
theorem rep_list {Z:Zn} {w:World} {i:Nm} {e:TypeId} {kd:IntKind} {v:Value} {l:List Int} (h:w.ownsRow 0 e 1 v l.length (l.map (Value.int kd))) (hZ:∀ b,v.ownBlock=some b→Z false b):Rep Z w i v (listD kd false l):=by
 rcases h.2 with ⟨rfl,h0⟩ | ⟨g,cap,cur,rfl,_,hB,hn,hm,hs,ht⟩
 ·obtain rfl:l=[]:=List.eq_nil_of_length_eq_zero h0
  exact .fz i false none 0 0 1 _ (fun _ _=>undef) (Nat.le_refl _) (by omega) (fun e he=>absurd he (Nat.not_lt_zero _)) (fun e c he=>absurd he (Nat.not_lt_zero _)) (fun e c he=>absurd he (Nat.not_lt_zero _))
 ·have hc:∀ k,k<l.length→cur.getD k undef = .int kd (l.getD k 0):=fun k hk=>by
   have h1:(cur.toList.take (l.length*1))[k]? = cur.toList[k]?:=by rw [List.getElem?_take,if_pos (by omega)]
   rw [ht,List.getElem?_map,List.getElem?_eq_getElem hk,Array.getElem?_toList] at h1
   rw [Array.getD_eq_getD_getElem?,← h1,List.getD_eq_getElem?_getD,List.getElem?_eq_getElem hk];rfl
  refine .fz i false _ l.length cap 1 _ (fun k _=>.int kd (l.getD k 0)) hn (by unfold maxLen at hm;omega) (fun _ _=>rfl) (fun k c hk hc'=>?_) (fun k c hk hc'=>?_)
  ·obtain rfl:c=0:=by omega
   refine ⟨g,0,rfl,hZ g rfl,?_,rfl⟩
   have:=(show Bk w g e cur from hB).cell k (by omega)
   rw [hc k hk] at this
   rw [show 0+(k*1+0)=k by omega]
   exact this
  ·obtain rfl:c=0:=by omega
   exact .val _ _
theorem den_state {P:Program} {f:FuncId} {t:TypeId} {us us':List Value} {es:List Value} {r:D} (hb0:(us.all fun u=>u.oneCell')=true) (hb1:(us'.all fun u=>u.oneCell')=true)
  (h:∀ b w,Bk w b t us.toArray→Calls P f ((.pointer (some ⟨b,0,none⟩)::es).toArray) w fun e w'=>∃ v,e = .returned v∧Bk w' b t us'.toArray∧STurn w w' [b]∧∃ Zn':Nat→Prop,(∀ x,Zn' x→w.heap.size≤x∧x<w'.heap.size)∧∀ (Z:Zn) i,(∀ x,Zn' x→Z false x)→Rep Z w' i v r) :
  DenH P f (.eptr 0 0 0 0::es.map .val) [(0,.lit t (us.map .val))] r [(0,.lit t (us'.map .val))] []:=fun Zc w i args hZ hi hH ha=>by
 obtain ⟨hl,hr⟩:=ha
 match args,hl with
 | v0::vs,hl=>
  have r0:Rep _ w i v0 (.eptr 0 0 0 0):=hr 0 (by simp)
  obtain ⟨b,cap,h0,rfl⟩:∃ b cap,i 0=some (some (b,cap))∧v0 = .pointer (some ⟨b,0,none⟩):=by
   cases r0 with | @eptr _ b cap _ _ _ _ h=>exact ⟨b,cap,h,rfl⟩
  have hvs:vs=es:=by
   refine List.ext_getElem (by simpa using hl) (fun j h1 h2=>?_)
   have:=hr (j+1) (by simp;omega)
   rw [show dl (D.eptr 0 0 0 0::es.map .val) (j+1) = .val es[j] by rw [dl,dl_eq,List.getD_eq_getElem?_getD,List.getElem?_map,List.getElem?_eq_getElem h2];rfl] at this
   have:=rep_val this
   rw [List.getD_eq_getElem?_getD,List.getElem?_cons_succ,List.getElem?_eq_getElem h1] at this
   exact this
  subst hvs
  have hB:Bk w b t us.toArray∧∀ x,Foot (.lit t (us.map .val)) (i 0) x→¬ Zc x:=by
   obtain ⟨_,h1 | ⟨h1,_⟩⟩:=hH.1 0 _ (List.mem_singleton.2 rfl)
   ·obtain ⟨b',cap',e1,e2,cs,e3,e4,e5⟩:=h1
    rw [h0] at e1;cases e1
    have:cs=us.toArray:=by
     refine Array.ext (by simpa using e4) (fun j h1 h2=>?_)
     have hj:j<us.length:=by simpa using h2
     have:=(e5 j (by simpa using hj)).2
     rw [show dl (us.map D.val) j = .val us[j] by rw [dl_eq,List.getD_eq_getElem?_getD,List.getElem?_map,List.getElem?_eq_getElem hj];rfl] at this
     have:=rep_val this
     rw [Array.getD_eq_getD_getElem?,Array.getElem?_eq_getElem h1] at this
     simpa using this
    subst this
    exact ⟨e3,fun x hx hz=>e2 x hx ⟨rfl,hz⟩⟩
   ·rw [h0] at h1;cases h1
  refine (h b w hB.1).mono fun e w' ⟨v,he,hB',ht,Zn',hz1,hz2⟩=>?_
  refine ⟨v,i,Zn',he,⟨ht.os,ht.tape,ht.output,ht.size,fun x hx hM=>ht.block x hx (fun hm=>hM ?_)⟩,hz1,fun k _=>rfl,fun k hk _=>hi k hk,fun k B x hm=>by simp at hm,fun k B hm=>?_,⟨fun k B hm=>?_,fun k k' B B' x h1 h2 _ _=>?_⟩,hz2 _ _ (fun x hx=>hx)⟩
  ·obtain rfl:=List.mem_singleton.1 hm
   exact ⟨0,cap,by simp [Hs.keys],h0⟩
  ·obtain ⟨rfl,rfl⟩:=Prod.mk.inj (List.mem_singleton.1 hm);rfl
  ·rw [List.append_nil] at hm
   obtain ⟨rfl,rfl⟩:=Prod.mk.inj (List.mem_singleton.1 hm)
   refine ⟨rfl,.inl ⟨b,cap,h0,fun x hx hz=>?_,us'.toArray,hB',by simp,fun j hj=>?_⟩⟩
   ·obtain ⟨cp,e⟩:=hx.flat rfl
    rw [h0] at e;cases e
    rcases hz with hz | hz
    ·exact hB.2 b (.root h0) hz
    ·have:=(hz1 b hz).1;have:=hB.1.lt;omega
   ·have hj:j<us'.length:=by simpa using hj
    have e:us'.toArray.getD j undef=us'[j]:=by rw [Array.getD_eq_getD_getElem?];simp [hj]
    rw [e]
    refine ⟨List.all_eq_true.1 hb1 _ (List.getElem_mem hj),?_⟩
    rw [show dl (us'.map D.val) j = .val us'[j] by rw [dl_eq,List.getD_eq_getElem?_getD,List.getElem?_map,List.getElem?_eq_getElem hj];rfl]
    exact .val _ _
  ·rw [List.append_nil] at h1 h2
   rw [(Prod.mk.inj (List.mem_singleton.1 h1)).1,(Prod.mk.inj (List.mem_singleton.1 h2)).1]

open Go.ChangeShapes Go.WideShapes Go.ChangeAt Go.RowKit Go.Deep Go.Joins

section
variable {H:Type} {enc:TypeId × Value→H} {w:World} {base:Nat} {spare:Nat→Bool} {held:Bool} {fuel:Nat} {x:DataW H × List MemPlace} {v:Value}
theorem slice_in {t e:TypeId} {k:Nat} (ht:Tryz.prog.underlying t=some (.slice e)) (hk:Tryz.prog.cellsOf e=k) (hk0:0<k) (h:DataW.trod enc Tryz.prog w base spare held fuel t [v]=some x) :
  ∃ ao len cap,v = .slice ao len cap∧len≤cap∧cap≤maxLen∧∃ n,∀ i,i<len→∃ b o cs y,ao=some ⟨b,o,none⟩∧cs.length=k∧(∀ j,j<k→w.cell? ⟨b,o+i*k+j,none⟩=cs[j]?)∧DataW.trod enc Tryz.prog w base spare held n e cs=some y:=by
 rcases DataW.trod_slice ht h with ⟨h0,_⟩ | ⟨a,len,cap,elems,rest,n,_,h0,_,hb,hl,hm,hlen,hel,_⟩
 ·exact ⟨none,0,0,by simpa using h0,by omega,by omega,0,fun i hi=>by omega⟩
 ·have hv:v = .slice (some a) len cap:=by simpa using h0
  rw [hk] at hel
  refine ⟨some a,len,cap,hv,hl,hm,n,fun i hi=>?_⟩
  have h2:=hel i hi
  rw [List.getElem?_eq_getElem (by omega)] at h2
  obtain ⟨cs,h3,h4⟩:=Option.bind_eq_some_iff.1 h2
  obtain ⟨_,h5,h6⟩:=World.cells?_some h3
  have ha:a=⟨a.block,a.off,none⟩:=by
   have h2':=hel 0 (by omega)
   rw [List.getElem?_eq_getElem (by omega)] at h2'
   obtain ⟨cs',h3',_⟩:=Option.bind_eq_some_iff.1 h2'
   obtain ⟨_,h5',h6'⟩:=World.cells?_some h3'
   have h7:=h6' 0 hk0
   rw [List.getElem?_eq_getElem (by omega),Nat.zero_mul] at h7
   exact addr_of_cell h7
  refine ⟨a.block,a.off,cs,_,by rw [← ha],h5,fun j hj=>?_,h4⟩
  have h7:=h6 j hj
  rw [ha,add_zero_addr,add_zero_addr] at h7
  exact h7
end
def Zw (w:World):Zn:=fun o b=>o=true∧b<w.heap.size
theorem cell_lt {w:World} {b o:Nat} {u:Value} (h:w.cell? ⟨b,o,none⟩=some u):b<w.heap.size:=by
 unfold World.cell? at h
 by_cases q:b<w.heap.size
 ·exact q
 ·rw [Array.getElem?_eq_none (by show w.heap.size≤b;omega)] at h;cases h
open Classical in
theorem choose_fun {α:Type} (d:α) (n:Nat) (Q:Nat→α→Prop) (h:∀ i,i<n→∃ x,Q i x):∃ F:Nat→α,(∀ i,i<n→Q i (F i))∧∀ i,n≤i→F i=d:=by
 refine ⟨fun i=>if q:i<n then Classical.choose (h i q) else d,fun i hi=>?_,fun i hi=>dif_neg (by omega)⟩
 show Q i (dite _ _ _)
 rw [dif_pos hi]
 exact Classical.choose_spec (h i hi)
section
variable {H:Type} {enc:TypeId × Value→H} {w:World} {base:Nat} {spare:Nat→Bool} {held:Bool} {fuel:Nat} {x:DataW H × List MemPlace} {v:Value}
theorem slice_rep {t e:TypeId} {k:Nat} (ht:Tryz.prog.underlying t=some (.slice e)) (hk:Tryz.prog.cellsOf e=k) (hk0:0<k) (h:DataW.trod enc Tryz.prog w base spare held fuel t [v]=some x) {Q:List D→Prop}
  (hel:∀ (n:Nat) (cs:List Value) (y:DataW H × List MemPlace),cs.length=k→DataW.trod enc Tryz.prog w base spare held n e cs=some y→∃ ds:List D,ds.length=k∧Q ds∧∀ j,j<k→(cs.getD j undef).oneCell'=true∧Rep (Zw w) w noN (cs.getD j undef) (dl ds j)) :
  ∃ (len:Nat) (f:Nat→List D),len≤9223372036854775807∧(∀ i,i<len→Q (f i))∧∀ f':Nat→List D,(∀ i,i<len→f' i=f i)→Rep (Zw w) w noN v (.fz true len k f'):=by
 obtain ⟨ao,len,cap,rfl,hl,hm,n,hq⟩:=slice_in ht hk hk0 h
 unfold maxLen at hm
 have hx:∀ i,i<len→∃ ds:List D,Q ds∧ds.length=k∧∃ b o,ao=some ⟨b,o,none⟩∧∀ j,j<k→∃ u,w.cell? ⟨b,o+(i*k+j),none⟩=some u∧u.oneCell'=true∧Rep (Zw w) w noN u (dl ds j):=fun i hi=>by
  obtain ⟨b,o,cs,y,e1,e2,e3,e4⟩:=hq i hi
  obtain ⟨ds,d1,d2,d3⟩:=hel n cs y e2 e4
  refine ⟨ds,d2,d1,b,o,e1,fun j hj=>⟨cs.getD j undef,?_,d3 j hj⟩⟩
  rw [← Nat.add_assoc,e3 j hj,List.getD_eq_getElem?_getD,List.getElem?_eq_getElem (by omega)];rfl
 obtain ⟨f,hf,_⟩:=choose_fun [] len _ hx
 refine ⟨len,f,by omega,fun i hi=>(hf i hi).1,fun f' hf'=>?_⟩
 cases ao with
 | none=>
  have:len=0:=by
   rcases Nat.eq_zero_or_pos len with q | q
   ·exact q
   ·obtain ⟨_,_,_,_,e,_⟩:=hf 0 q;cases e
  subst this
  exact .fz _ _ none 0 cap k f' (fun _ _=>undef) hl (by omega) (fun e he=>by omega) (fun e c he=>by omega) (fun e c he=>by omega)
 | some ad=>
  obtain ⟨B,O,sp⟩:=ad
  refine .fz _ _ (some ⟨B,O,sp⟩) len cap k f' (fun e c=>(w.cell? ⟨B,O+(e*k+c),none⟩).getD undef) hl (by omega) (fun e he=>by rw [hf' e he];exact (hf e he).2.1) (fun e c he hc=>?_) (fun e c he hc=>?_)
  ·obtain ⟨_,_,b,o,e1,e2⟩:=hf e he
   cases e1
   obtain ⟨u,u1,u2,_⟩:=e2 c hc
   refine ⟨B,O,rfl,⟨rfl,cell_lt u1⟩,?_,?_⟩
   ·simp [u1]
   ·simpa [u1] using u2
  ·obtain ⟨_,_,b,o,e1,e2⟩:=hf e he
   cases e1
   obtain ⟨u,u1,_,u3⟩:=e2 c hc
   rw [hf' e he]
   simpa [u1] using u3
end
theorem Den.row {P:Program} {f:FuncId} {ds:List D} {u:Value} (h:Den P f ds (.val u)) {w:World} {args:List Value} (ha:RepsI (Zw w) w noN args ds):Calls P f args.toArray w fun e w'=>e = .returned u∧Below w.heap.size w w':=
 (h (fun b=>b<w.heap.size) w noN args (fun b hb=>hb) (fun _ _=>rfl) ⟨fun k B hm=>by simp at hm,fun k k' B B' b hm=>by simp at hm⟩ ha).mono (fun e w' ⟨v,i',Zn',p0,p1,_,_,_,_,_,_,p7⟩=>⟨by rw [p0,p7.valEq],⟨p1.os,p1.tape,p1.output,p1.size,fun b hb=>p1.block b hb (fun ⟨k,c,hk,_⟩=>by simp [Hs.keys] at hk)⟩⟩)

abbrev rfD (s:ByteArray) (c:Nat):List D:=[.val (.string s),.val (.int .i64 (c:Int))]
theorem own_lt {w:World} {e:TypeId} {n:Nat} {v:Value} {xs:List Value} (h:w.ownsRow 0 e 1 v n xs) {x:Nat} (hx:v.ownBlock=some x):x<w.heap.size:=by
 rcases h.2 with ⟨rfl,_⟩ | ⟨g,cap,cur,rfl,_,hB,_⟩
 ·cases hx
 ·cases hx;exact (show Bk w g e cur from hB).lt
theorem rep_tup2 {Z:Zn} {w:World} {i:Nm} {a b:Value} {da db:D} (ha:Rep Z w i a da) (hb:Rep Z w i b db):Rep Z w i (.tuple #[a,b]) (.tup [da,db]):=
 .tup i [a,b] _ rfl fun j hj=>match j,hj with
  | 0,_=>ha
  | 1,_=>hb
theorem refUniform_den (s:ByteArray) (c q:Nat) (n:Int) (hs:s.size≤1048576) (hc:c≤8*s.size) (hq:q≤4294967295):DenH Tryz.prog 220 [.eptr 0 0 0 0,.val (.int .i64 n),.val (.int .u32 (q:Int))] [(0,.lit 144 (rfD s c))] (.tup [listD .u32 false (uniformR s c n q).1,.val (.int .i64 (uniformR s c n q).2.1)]) [(0,.lit 144 (rfD s (uniformR s c n q).2.2))] []:=
 den_state (us:=[.string s,.int .i64 c]) (us':=[.string s,.int .i64 ((uniformR s c n q).2.2:Nat)]) (es:=[.int .i64 n,.int .u32 q]) rfl rfl (fun b w hb=>(runiform b s c q n w hs hc hq hb).mono fun e w' ⟨v,h1,h2,h3,h4,h5⟩=>
  ⟨_,h1,h4,h5,fun x=>v.ownBlock=some x,fun x hx=>⟨h3 x hx,own_lt h2 hx⟩,fun Z i hZ=>rep_tup2 (rep_list h2 hZ) (.val _ _)⟩)
theorem refBounded_den (s:ByteArray) (c q:Nat) (n:Int) (hs:s.size≤1048576) (hc:c≤8*s.size) (hq:q≤4294967295):DenH Tryz.prog 144 [.eptr 0 0 0 0,.val (.int .i64 n),.val (.int .u32 (q:Int))] [(0,.lit 144 (rfD s c))] (.tup [listD .i64 false (boundedR s c n q).1,.val (.int .i64 (boundedR s c n q).2.1)]) [(0,.lit 144 (rfD s (boundedR s c n q).2.2))] []:=
 den_state (us:=[.string s,.int .i64 c]) (us':=[.string s,.int .i64 ((boundedR s c n q).2.2:Nat)]) (es:=[.int .i64 n,.int .u32 q]) rfl rfl (fun b w hb=>(rbounded b s c q n w hs hc hq hb).mono fun e w' ⟨v,h1,h2,h3,h4,h5⟩=>
  ⟨_,h1,h4,h5,fun x=>v.ownBlock=some x,fun x hx=>⟨h3 x hx,own_lt h2 hx⟩,fun Z i hZ=>rep_tup2 (rep_list h2 hZ) (.val _ _)⟩)
theorem refNew_den (s:ByteArray) (hs:s.size≤1048576):DenH Tryz.prog 53 [.val (.string s)] [] (.eptr 1008 0 0 0) [] [(1008,.lit 144 (rfD s 0))]:=by
 refine den_intro (fn:=Tryz.f53) rfl rfl rfl rfl rfl ?_
 refine go ?_
 exact finN
theorem refTaken_den (s:ByteArray) (c:Nat):Den Tryz.prog 58 [.fptr true (rfD s c)] (.val (.int .i64 (c:Int))):=by
 refine den_intro (fn:=Tryz.f58) rfl rfl rfl rfl rfl ?_
 refine go ?_
 refine fin ?_
 exact cv

instance fi152:FI Tryz.prog 152 Tryz.f152:=⟨Tryz.func152,Tryz.call152⟩
abbrev suD (s:ByteArray) (c:Nat):List D:=[.val (.string s),.val (.int .i64 (c:Int)),.val (.bool true)]
theorem supUniform_den (s:ByteArray) (c q:Nat) (n:Int) (hs:s.size≤1048576) (hc:c≤8*s.size) (hq:q≤4294967295):DenH Tryz.prog 135 [.eptr 0 0 0 0,.val (.int .i64 n),.val (.int .u32 (q:Int))] [(0,.lit 142 (suD s c))] (.tup [listD .u32 false (uniformR s c n q).1,.val (.int .i64 (uniformR s c n q).2.1)]) [(0,.lit 142 (suD s (uniformR s c n q).2.2))] []:=
 den_state (us:=[.string s,.int .i64 c,.bool true]) (us':=[.string s,.int .i64 ((uniformR s c n q).2.2:Nat),.bool true]) (es:=[.int .i64 n,.int .u32 q]) rfl rfl (fun b w hb=>(uniform_sup b s c q n w hs hc hq hb).mono fun e w' ⟨v,h1,h2,h3,h4,h5⟩=>
  ⟨_,h1,h4,h5,fun x=>v.ownBlock=some x,fun x hx=>⟨h3 x hx,own_lt h2 hx⟩,fun Z i hZ=>rep_tup2 (rep_list h2 hZ) (.val _ _)⟩)
theorem supBounded_den (s:ByteArray) (c q:Nat) (n:Int) (hs:s.size≤1048576) (hc:c≤8*s.size) (hq:q≤4294967295):DenH Tryz.prog 136 [.eptr 0 0 0 0,.val (.int .i64 n),.val (.int .u32 (q:Int))] [(0,.lit 142 (suD s c))] (.tup [listD .i64 false (boundedR s c n q).1,.val (.int .i64 (boundedR s c n q).2.1)]) [(0,.lit 142 (suD s (boundedR s c n q).2.2))] []:=
 den_state (us:=[.string s,.int .i64 c,.bool true]) (us':=[.string s,.int .i64 ((boundedR s c n q).2.2:Nat),.bool true]) (es:=[.int .i64 n,.int .u32 q]) rfl rfl (fun b w hb=>(bounded_sup b s c q n w hs hc hq hb).mono fun e w' ⟨v,h1,h2,h3,h4,h5⟩=>
  ⟨_,h1,h4,h5,fun x=>v.ownBlock=some x,fun x hx=>⟨h3 x hx,own_lt h2 hx⟩,fun Z i hZ=>rep_tup2 (rep_list h2 hZ) (.val _ _)⟩)
theorem supNew_den (s:ByteArray) (hs:s.size≤1048576):DenH Tryz.prog 52 [.val (.string s)] [] (.eptr 1008 0 0 0) [] [(1008,.lit 142 (suD s 0))]:=by
 refine den_intro (fn:=Tryz.f52) rfl rfl rfl rfl rfl ?_
 refine go ?_
 exact finN
theorem loc_pnil {P:Program} {N:Nat} {o:Oper} {E:Nat→D} {H:Nat→Option Box} {t ty:TypeId} {x:Operand} {q:Bool} {l:List D} (ho:o.op = .binOp .eql t x (.const (.pointer none)) ty) (hd:dstLt o N=true) (hx:Opd E x (.fptr q l)) (hp:P.underlying t=some (.pointer (P.pointee t))):Loc P N o E H ⟨[],o.dst,.val (.bool false),[],[]⟩:=
 loc_run (by simp [ho]) hd (fun E1 H1 S Z i a w hF hA _=>by
  have h1:=hF.opd (hA x (by simp [ho,Op.operands]) _ hx)
  generalize hu:a.eval x=u at h1
  cases h1 with
  | fptr _ _ b p' _ vs ha hr=>
   refine ⟨.bool false,?_,.val _ _⟩
   have e2:a.eval (.const (.pointer none)) = .pointer none:=rfl
   simp only [execOp,ho,hu,e2]
   have:=run_eql_pointer_nil (P:=P) w t (some ⟨b,p',none⟩) hp
   simp [eqGuard,this])
section
variable {P:Program} {N:Nat} {ops:Array Oper} {rest:List Oper} {env:List (Nat × D)} {box:List (Nat × Option Box)} {done:List Rec} {K:List Rec→List (Nat × D)→List (Nat × Option Box)→Prop} {d:Nat} {ty:TypeId} {pos:String} {aft:Array Edge}
theorem r_pnil {x:Operand} {t t2:TypeId} {q:Bool} {l:List D} (hp:P.underlying t=some (.pointer (P.pointee t))) (h:RunK P N ops rest ((d,.val (.bool false))::env) box (done++[⟨[],some d,.val (.bool false),[],[]⟩]) K) (hx:autoParam (Op1 env x (.fptr q l)) aq1._auto_1) (hd:Nat.blt d (fsz N)=true:=by rfl):RunK P N ops (⟨some d,.binOp .eql t x (.const (.pointer none)) t2,ty,pos,aft,none⟩::rest) env box done K:=run_put (ws:=[]) (fresh:=[]) (loc_pnil rfl hd hx.opd hp) rfl h
end
theorem supNone_den (s:ByteArray) (c:Nat):Den Tryz.prog 152 [.fptr true (suD s c)] (.val (.bool false)):=by
 refine den_intro (fn:=Tryz.f152) rfl rfl rfl rfl rfl ?_
 refine go ?_
 refine r_pnil Tryz.underlying77 ?_
 refine go ?_
 refine fin ?_
 exact cv
theorem supTaken_den (s:ByteArray) (c:Nat):Den Tryz.prog 57 [.fptr true (suD s c)] (.val (.int .i64 (c:Int))):=by
 refine den_intro (fn:=Tryz.f57) rfl rfl rfl rfl rfl ?_
 refine go ?_
 refine r_call (supNone_den s c) ?_
 refine go ?_
 refine fin ?_
 exact cv

instance fi134:FI Tryz.prog 134 Tryz.f134:=⟨Tryz.func134,Tryz.call134⟩
instance fi208:FI Tryz.prog 208 Tryz.f208:=⟨Tryz.func208,Tryz.call208⟩
theorem den_elder3 {P:Program} {f:FuncId} {x y z u:Value} (h:∀ w:World,Calls P f #[x,y,z] w fun e w'=>e = .returned u∧Below w.heap.size w w'):Den P f [.val x,.val y,.val z] (.val u):=fun Zc w i args hZ hi hH ha=>by
 obtain ⟨hl,hr⟩:=ha
 match args,hl with
 | [a,b,c],_=>
  have e1:=rep_val (hr 0 (by simp))
  have e2:=rep_val (hr 1 (by simp))
  have e3:=rep_val (hr 2 (by simp))
  change a=x at e1
  change b=y at e2
  change c=z at e3
  subst e1 e2 e3
  refine (h w).mono fun e w' ⟨he,hb⟩=>?_
  have hi':∀ k,i k=none:=fun k=>hi k (by simp [Hs.keys])
  exact ⟨u,i,fun _=>False,he,Kept.of_below hb _,fun b hb=>hb.elim,fun k hk=>by simp [Hs.keys] at hk,fun k _ _=>hi' k,fun k B b hm=>by simp at hm,fun k B hm=>by simp at hm,⟨fun k B hm=>by simp at hm,fun k k' B B' b hm=>by simp at hm⟩,.val _ _⟩
theorem pModulus_den (p:PD) (hp:PFit p) (lv:Int) (ex:Nat) (hst:St p lv (ex:Int)):Den Tryz.prog 134 [.agg (parL true p),.val (.int .i64 (ex:Int))] (.tup [.val (.int .i64 ((p.prime ^ ex:Nat):Int)),.val (.int .i64 0)]):=by
 refine den_intro (fn:=Tryz.f134) rfl rfl rfl rfl rfl ?_
 obtain ⟨n,hn,n4,n32⟩:=good_n hst.good
 have g:=hst.good
 have e1:=hst.e1
 have e2:=hst.e2
 have p2:=hp.power2
 have hd:n=4∨n=8∨n=16∨n=32:=by
  rcases g.1 with q | q | q | q<;>(simp only [PD.par] at q;omega)
 have hpl:PlainOk n p.prime (ex:Int):=by
  obtain ⟨a,b,c,d,e,f⟩:=g.2.2.2.2.2.2.1
  simp only [PD.par] at a b c d e f
  rw [hn,Int.toNat_natCast] at d
  exact ⟨a,b,c,d,e1,by rw [Int.toNat_natCast];exact Nat.le_trans (Nat.pow_le_pow_right (by omega) (by omega)) f⟩
 have hd3:Den Tryz.prog 208 [.val (.int .i64 p.n),.val (.int .u32 (p.prime:Int)),.val (.int .i64 (ex:Int))] (.val (.int .i64 ((p.prime ^ ex:Nat):Int))):=by
  rw [hn]
  refine den_elder3 fun w=>?_
  have:=ppower_walk n p.prime (ex:Int) w hd hp.prime (by omega) (by omega)
  rw [plainV_pos hpl,Int.toNat_natCast] at this
  exact this
 refine go ?_
 refine r_call (pcheck_den p hp) ?_
 rw [show errI (goodB p)=0 by rw [goodB_iff.2 g];rfl]
 refine go ?_
 rw [decide_eq_false (show ¬ ex<1 by omega),decide_eq_false (show ¬ p.power<(ex:Int) by omega)]
 refine c_no ?_
 refine go ?_
 refine r_call hd3 ?_
 refine go ?_
 refine fin ?_
 exact cv

instance fi271:FI Tryz.prog 271 Tryz.f271:=⟨Tryz.func271,Tryz.call271⟩
instance fi276:FI Tryz.prog 276 Tryz.f276:=⟨Tryz.func276,Tryz.call276⟩
instance fi225:FI Tryz.prog 225 Tryz.f225:=⟨Tryz.func225,Tryz.call225⟩
instance fi222:FI Tryz.prog 222 Tryz.f222:=⟨Tryz.func222,Tryz.call222⟩
instance fi148:FI Tryz.prog 148 Tryz.f148:=⟨Tryz.func148,Tryz.call148⟩
instance fi145:FI Tryz.prog 145 Tryz.f145:=⟨Tryz.func145,Tryz.call145⟩
def sumV (p:PD) (lv:Nat) (z:Int) (ga gb:Nat→Nat→Nat) (i j:Nat):Nat:=(ga i j+gb i j*resI z (modQ p lv i)) % modQ p lv i
theorem vg_sum {p:PD} {n lv:Nat} (h:Lv p n lv) (z:Int) (A B:Nat→Nat→Nat):Vg p lv (sumV p lv z A B):=fun r j=>Nat.mod_lt _ (h.q0 r)
theorem FrD.el {k n:Nat} {F:Nat→List D} (lv:Nat) (sp:Bool):FrD k n F (.agg [.val (.int .i64 (lv:Int)),.val (.bool sp),.sl k 1 n]) (.agg [.val (.int .i64 (lv:Int)),.val (.bool sp),.fz false n 1 F]):=.agg1 (.id rfl) (.agg1 (.id rfl) (.agg1 (.sl (Nat.le_refl _)) .agg0))
theorem r09sum_own (p:PD) (n lv:Nat) (sp:Bool) (h:Lv p n lv) (ga gb:Nat→Nat→Nat) (z:Int) (hz : -9223372036854775808≤z∧z≤9223372036854775807) (ha:Vg p lv ga) (hb:Vg p lv gb):DenH Tryz.prog 271 [.agg (parL true p),.agg (elL true lv sp (modN p lv sp) n ga),.agg (elL true lv sp (modN p lv sp) n gb),.val (.int .i64 z)] [] (.agg (elM lv sp 1900 (modN p lv sp))) [] [(1900,u32M (modN p lv sp) n (sumV p lv z ga gb))]:=by
 refine den_intro (fn:=Tryz.f271) rfl rfl rfl rfl rfl ?_
 have hN:NatIs p.n n:=h.n
 have h32:=h.n32
 have h4:=h.n4
 have l1:=h.l1
 have l2:=h.l2
 have l24:=h.vp.len2
 have hm:=modQ_in h.vp h.sp h.l2
 have hM:modN p lv sp≤1001:=by unfold modN;split<;>omega
 obtain ⟨M,hMM⟩:∃ M,M=modN p lv sp:=⟨_,rfl⟩
 rw [← hMM] at hM ⊢
 refine go ?_
 have hmod:=r09Moduli_den p lv sp h.l2 (by omega)
 rw [← hMM] at hmod
 refine r_call hmod ?_
 refine go ?_
 refine c_nilcellM 1009 2 1900 23 22 1 n (fun k j=>[.val (.int .u32 ((sumV p lv z ga gb k j:Nat):Int))]) ?_
 refine c_up M (fun i=>[(11,.val (.int .i64 (i:Nat)))]) (fun i=>[(1009,some (.lit 93 [.val (.int .i64 (lv:Int)),.val (.bool sp),.sl 1900 1 i])),(1900,some (.mat 23 22 i i 1 n (fun k j=>[.val (.int .u32 ((sumV p lv z ga gb k j:Nat):Int))])))]) (fun i hi=>?_)
 refine go ?_
 have hq:=hm i
 refine c_if (fun h3=>?_) (fun h3=>?_)
 ·refine go ?_
  refine c_nil 12 1901 22 1 (fun j=>[.val (.int .u32 ((sumV p lv z ga gb i j:Nat):Int))]) ?_
  refine c_up n (fun j=>[(12,.sl 1901 1 j),(13,.val (.int .i64 (j:Nat)))]) (fun j=>[(1901,some (.arr 22 j 1 (fun j=>[.val (.int .u32 ((sumV p lv z ga gb i j:Nat):Int))])))]) (fun j hj=>?_)
  have hr:=resI_lt (x:=z) (show 0<modQ p lv i by omega)
  have ha':=ha i j
  have hb':=hb i j
  have hp:gb i j*resI z (modQ p lv i)≤2147483647*2147483647:=Nat.mul_le_mul (by omega) (by omega)
  have hs:sumV p lv z ga gb i j<modQ p lv i:=vg_sum h z ga gb i j
  unfold sumV at hs
  refine go ?_
  refine c_if (fun h4=>?_) (fun h4=>?_)
  ·refine go ?_
   refine r_callO (r09residue_den z (modQ p lv i) (by omega) (by omega) hz) ?_
   refine go ?_
   refine ⟨h4,?_⟩
   refine sub_arr (1000+72) (fun j=>[.val (.int .u32 ((sumV p lv z ga gb i j:Nat):Int))]) (appF_snoc rfl) (fun _=>rfl) ?_
   refine sub_toL [37] (1000+72) 1901 ?_
   exact sub
  ·obtain rfl:j=n:=by omega
   refine go ?_
   refine ⟨h3,?_⟩
   refine sub_mat (1000+77) (fun k j=>[.val (.int .u32 ((sumV p lv z ga gb k j:Nat):Int))]) (putG_snoc (fun _ _=>rfl)) (fun _ _=>rfl) ?_
   refine sub_toL [74] (1000+77) 1900 ?_
   exact sub
 ·obtain rfl:i=M:=by omega
  refine go ?_
  exact finN
theorem r09sum_den (p:PD) (n lv:Nat) (sp:Bool) (h:Lv p n lv) (ga gb:Nat→Nat→Nat) (z:Int) (hz : -9223372036854775808≤z∧z≤9223372036854775807) (ha:Vg p lv ga) (hb:Vg p lv gb):Den Tryz.prog 271 [.agg (parL true p),.agg (elL true lv sp (modN p lv sp) n ga),.agg (elL true lv sp (modN p lv sp) n gb),.val (.int .i64 z)] (.agg (elL false lv sp (modN p lv sp) n (sumV p lv z ga gb))):=
 (r09sum_own p n lv sp h ga gb z hz ha hb).frozen (by have:=h.l1;unfold modN;split<;>omega) (FrD.el lv sp)
theorem r09two_den (p:PD) (n lv:Nat) (sp:Bool) (h:Lv p n lv) (ga gb:Nat→Nat→Nat) (ha:Vg p lv ga) (hb:Vg p lv gb):Den Tryz.prog 276 [.agg (parL true p),.agg (elL true lv sp (modN p lv sp) n ga),.agg (elL true lv sp (modN p lv sp) n gb)] (.val (.bool true)):=by
 refine den_intro (fn:=Tryz.f276) rfl rfl rfl rfl rfl ?_
 have h32:=h.n32
 have l1:=h.l2
 have l2:=h.vp.len2
 have hM:modN p lv sp≤1000000:=by unfold modN;split<;>omega
 have c1:=r09Check_den0 p h.vp h.sp (lv:Int) sp (modN p lv sp) (fun _=>n) ga (fun _=>by omega) hM
 have c2:=r09Check_den0 p h.vp h.sp (lv:Int) sp (modN p lv sp) (fun _=>n) gb (fun _=>by omega) hM
 rw [elOk_valid (sp:=sp) h ha] at c1
 rw [elOk_valid (sp:=sp) h hb] at c2
 refine go ?_
 refine r_call c1 ?_
 refine go ?_
 refine g_callM (hl:=fun hb=>r_call c2 (run_fin rfl)) (h:=?_)
 refine go ?_
 refine fin ?_
 rw [show (decide ((0:Nat)=0) && decide ((0:Nat)=0) && decide (lv=lv) && sp == sp)=true by simp]
 exact cv
theorem r09Sub_own (p:PD) (n lv:Nat) (sp:Bool) (h:Lv p n lv) (ga gb:Nat→Nat→Nat) (ha:Vg p lv ga) (hb:Vg p lv gb):DenH Tryz.prog 225 [.agg (parL true p),.agg (elL true lv sp (modN p lv sp) n ga),.agg (elL true lv sp (modN p lv sp) n gb)] [] (.tup [.agg (elM lv sp 1017 (modN p lv sp)),.val (.int .i64 0)]) [] [(1017,u32M (modN p lv sp) n (sumV p lv (-1) ga gb))]:=by
 refine den_intro (fn:=Tryz.f225) rfl rfl rfl rfl rfl ?_
 refine go ?_
 refine r_call (r09two_den p n lv sp h ga gb ha hb) ?_
 refine go ?_
 refine c_no ?_
 refine go ?_
 refine r_callN (r09sum_own p n lv sp h ga gb (-1) (by omega) ha hb) (r':=.agg (elM lv sp 1017 (modN p lv sp))) rfl ?_
 refine go ?_
 exact finN
theorem r13Sub_own (p:PD) (n lv:Nat) (sp:Bool) (h:Lv p n lv) (ga gb:Nat→Nat→Nat) (ha:Vg p lv ga) (hb:Vg p lv gb):DenH Tryz.prog 148 [.agg (parL true p),.agg (elL true lv sp (modN p lv sp) n ga),.agg (elL true lv sp (modN p lv sp) n gb)] [] (.agg (elM lv sp 1013 (modN p lv sp))) [] [(1013,u32M (modN p lv sp) n (sumV p lv (-1) ga gb))]:=by
 refine den_intro (fn:=Tryz.f148) rfl rfl rfl rfl rfl ?_
 refine go ?_
 refine r_callN (r09Sub_own p n lv sp h ga gb ha hb) (r':=.tup [.agg (elM lv sp 1013 (modN p lv sp)),.val (.int .i64 0)]) rfl ?_
 refine go ?_
 exact finN
theorem r09Zero_den (p:PD) (n lv:Nat) (sp:Bool) (h:Lv p n lv):Den Tryz.prog 223 [.agg (parL true p),.val (.int .i64 (lv:Int)),.val (.bool sp),zerosD n] (.tup [.agg (elL false lv sp (modN p lv sp) n (fun _ _=>0)),.val (.int .i64 0)]):=by
 have:=r09FromInts_den p n lv sp h (fun _=>0) (fun _=>by omega)
 rw [resI_f] at this
 exact this
theorem sumV_0 {p:PD} {lv:Nat} {z:Int} {g:Nat→Nat→Nat}:sumV p lv z (fun _ _=>0) g=mulIntV p lv z g:=by
 funext i j
 unfold sumV mulIntV
 rw [Nat.zero_add]
theorem r09MulInt_den (p:PD) (n lv:Nat) (sp:Bool) (h:Lv p n lv) (g:Nat→Nat→Nat) (z:Int) (hz : -9223372036854775808≤z∧z≤9223372036854775807) (hg:Vg p lv g):Den Tryz.prog 222 [.agg (parL true p),.agg (elL true lv sp (modN p lv sp) n g),.val (.int .i64 z)] (.tup [.agg (elL false lv sp (modN p lv sp) n (mulIntV p lv z g)),.val (.int .i64 0)]):=by
 refine den_intro (fn:=Tryz.f222) rfl rfl rfl rfl rfl ?_
 have hN:NatIs p.n n:=h.n
 have h32:=h.n32
 have l1:=h.l2
 have l2:=h.vp.len2
 have hM:modN p lv sp≤1000000:=by unfold modN;split<;>omega
 have c1:=r09Check_den0 p h.vp h.sp (lv:Int) sp (modN p lv sp) (fun _=>n) g (fun _=>by omega) hM
 rw [elOk_valid (sp:=sp) h hg] at c1
 have hs:=r09sum_den p n lv sp h (fun _ _=>0) g z hz (fun r _=>h.q0 r) hg
 rw [sumV_0] at hs
 refine go ?_
 refine r_call c1 ?_
 refine go ?_
 refine r_call (r09Zero_den p n lv sp h) ?_
 refine go ?_
 refine r_call hs ?_
 refine go ?_
 refine fin ?_
 exact cv
theorem r13Scale_den (p:PD) (n lv:Nat) (sp:Bool) (h:Lv p n lv) (g:Nat→Nat→Nat) (z:Int) (hz : -9223372036854775808≤z∧z≤9223372036854775807) (hg:Vg p lv g):Den Tryz.prog 145 [.agg (parL true p),.agg (elL true lv sp (modN p lv sp) n g),.val (.int .i64 z)] (.agg (elL false lv sp (modN p lv sp) n (mulIntV p lv z g))):=by
 refine den_intro (fn:=Tryz.f145) rfl rfl rfl rfl rfl ?_
 refine go ?_
 refine r_call (r09MulInt_den p n lv sp h g z hz hg) ?_
 refine go ?_
 refine fin ?_
 exact cv

theorem r09sum_rows (p:PD) (n lv:Nat) (sp:Bool) (h:Lv p n lv) (ga gb:Nat→Nat→Nat) (z:Int) (hz : -9223372036854775808≤z∧z≤9223372036854775807) (ha:Vg p lv ga) (hb:Vg p lv gb):DenH Tryz.prog 271 [.agg (parL true p),.agg (elL true lv sp (modN p lv sp) n ga),.agg (elL true lv sp (modN p lv sp) n gb),.val (.int .i64 z)] [] (.agg [.val (.int .i64 (lv:Int)),.val (.bool sp),.sl 1900 1 (modN p lv sp)]) [] [(1900,.arr 23 (modN p lv sp) 1 (fun k=>[u32sF false n (sumV p lv z ga gb k)]))]:=by
 refine den_intro (fn:=Tryz.f271) rfl rfl rfl rfl rfl ?_
 have hN:NatIs p.n n:=h.n
 have h32:=h.n32
 have h4:=h.n4
 have l1:=h.l1
 have l2:=h.l2
 have l24:=h.vp.len2
 have hm:=modQ_in h.vp h.sp h.l2
 have hM:modN p lv sp≤1001:=by unfold modN;split<;>omega
 obtain ⟨M,hMM⟩:∃ M,M=modN p lv sp:=⟨_,rfl⟩
 rw [← hMM] at hM ⊢
 refine go ?_
 have hmod:=r09Moduli_den p lv sp h.l2 (by omega)
 rw [← hMM] at hmod
 refine r_call hmod ?_
 refine go ?_
 refine c_nilcell 1009 2 1900 23 1 (fun k=>[u32sF false n (sumV p lv z ga gb k)]) ?_
 refine c_up M (fun i=>[(11,.val (.int .i64 (i:Nat)))]) (fun i=>[(1009,some (.lit 93 [.val (.int .i64 (lv:Int)),.val (.bool sp),.sl 1900 1 i])),(1900,some (.arr 23 i 1 (fun k=>[u32sF false n (sumV p lv z ga gb k)])))]) (fun i hi=>?_)
 refine go ?_
 have hq:=hm i
 refine c_if (fun h3=>?_) (fun h3=>?_)
 ·refine go ?_
  refine c_nil 12 1901 22 1 (fun j=>[.val (.int .u32 ((sumV p lv z ga gb i j:Nat):Int))]) ?_
  refine c_up n (fun j=>[(12,.sl 1901 1 j),(13,.val (.int .i64 (j:Nat)))]) (fun j=>[(1901,some (.arr 22 j 1 (fun j=>[.val (.int .u32 ((sumV p lv z ga gb i j:Nat):Int))])))]) (fun j hj=>?_)
  have hr:=resI_lt (x:=z) (show 0<modQ p lv i by omega)
  have ha':=ha i j
  have hb':=hb i j
  have hp:gb i j*resI z (modQ p lv i)≤2147483647*2147483647:=Nat.mul_le_mul (by omega) (by omega)
  have hs:sumV p lv z ga gb i j<modQ p lv i:=vg_sum h z ga gb i j
  unfold sumV at hs
  refine go ?_
  refine c_if (fun h4=>?_) (fun h4=>?_)
  ·refine go ?_
   refine r_callO (r09residue_den z (modQ p lv i) (by omega) (by omega) hz) ?_
   refine go ?_
   refine ⟨h4,?_⟩
   refine sub_arr (1000+72) (fun j=>[.val (.int .u32 ((sumV p lv z ga gb i j:Nat):Int))]) (appF_snoc rfl) (fun _=>rfl) ?_
   refine sub_toL [37] (1000+72) 1901 ?_
   exact sub
  ·obtain rfl:j=n:=by omega
   refine c_freeze 1901 ?_
   refine c_slot 12 (u32sF false j (sumV p lv z ga gb i)) ?_
   refine go ?_
   refine ⟨h3,?_⟩
   refine sub_arr (1000+77) (fun k=>[u32sF false j (sumV p lv z ga gb k)]) (appF_snoc rfl) (fun _=>rfl) ?_
   refine sub_toL [74] (1000+77) 1900 ?_
   exact sub
 ·obtain rfl:i=M:=by omega
  refine go ?_
  exact finN
abbrev elA (lv:Nat) (sp:Bool) (k M:Nat):List D:=[.val (.int .i64 (lv:Int)),.val (.bool sp),.sl k 1 M]
theorem r09MulInt_rows (p:PD) (n lv:Nat) (sp:Bool) (h:Lv p n lv) (g:Nat→Nat→Nat) (z:Int) (hz : -9223372036854775808≤z∧z≤9223372036854775807) (hg:Vg p lv g):DenH Tryz.prog 222 [.agg (parL true p),.agg (elL true lv sp (modN p lv sp) n g),.val (.int .i64 z)] [] (.tup [.agg (elA lv sp 1031 (modN p lv sp)),.val (.int .i64 0)]) [] [(1031,.arr 23 (modN p lv sp) 1 (fun k=>[u32sF false n (mulIntV p lv z g k)]))]:=by
 refine den_intro (fn:=Tryz.f222) rfl rfl rfl rfl rfl ?_
 have hN:NatIs p.n n:=h.n
 have h32:=h.n32
 have l1:=h.l2
 have l2:=h.vp.len2
 have hM:modN p lv sp≤1000000:=by unfold modN;split<;>omega
 have c1:=r09Check_den0 p h.vp h.sp (lv:Int) sp (modN p lv sp) (fun _=>n) g (fun _=>by omega) hM
 rw [elOk_valid (sp:=sp) h hg] at c1
 have hs:=r09sum_rows p n lv sp h (fun _ _=>0) g z hz (fun r _=>h.q0 r) hg
 rw [sumV_0] at hs
 refine go ?_
 refine r_call c1 ?_
 refine go ?_
 refine r_call (r09Zero_den p n lv sp h) ?_
 refine go ?_
 refine r_callA hs (r':=.agg (elA lv sp 1031 (modN p lv sp))) rfl ?_
 refine go ?_
 exact finN
theorem r13Scale_rows (p:PD) (n lv:Nat) (sp:Bool) (h:Lv p n lv) (g:Nat→Nat→Nat) (z:Int) (hz : -9223372036854775808≤z∧z≤9223372036854775807) (hg:Vg p lv g):DenH Tryz.prog 145 [.agg (parL true p),.agg (elL true lv sp (modN p lv sp) n g),.val (.int .i64 z)] [] (.agg (elA lv sp 1013 (modN p lv sp))) [] [(1013,.arr 23 (modN p lv sp) 1 (fun k=>[u32sF false n (mulIntV p lv z g k)]))]:=by
 refine den_intro (fn:=Tryz.f145) rfl rfl rfl rfl rfl ?_
 refine go ?_
 refine r_callA (r09MulInt_rows p n lv sp h g z hz hg) (r':=.tup [.agg (elA lv sp 1013 (modN p lv sp)),.val (.int .i64 0)]) rfl ?_
 refine go ?_
 exact finN

theorem rgeach2_own (p:PD) (n lv:Nat) (sp:Bool) (hn:p.n=(n:Int)) (h0:0<n) (h32:n≤32) (h1:1≤lv) (h2:lv≤p.chain.length) (h24:p.chain.length≤1000) (hq:∀ k,modQ p lv k<4294967296) {fl:FuncId} {fn:Func} [FI Tryz.prog fl fn] (l1 l2:List D) [OldDL l1] [OldDL l2] (g:Nat→Nat→Nat)
  (hfill:∀ k,k<modN p lv sp→DenH Tryz.prog fl [.val (.int .i64 (k:Int)),.val (.int .u64 ((modQ p lv k:Nat):Int)),.sl 0 1 n,.fptr true l1,.fptr true l2] [(0,rowB n fun _=>0)] (.tup []) [(0,rowB n (g k))] []) :
  DenH Tryz.prog 205 [.fptr true (parL true p),.val (.int .i64 (lv:Int)),.val (.bool sp),.clo fl [.fptr true l1,.fptr true l2]] [] (.agg (elM lv sp 1937 (modN p lv sp))) [] [(1937,u32M (modN p lv sp) n g)]:=by
 have hN:NatIs p.n n:=hn▸NatIs.cast n
 refine den_intro (fn:=Tryz.f205) rfl rfl rfl rfl rfl ?_
 refine go ?_
 refine r_callO (rgmoduli_den _ lv sp) ?_
 refine go ?_
 refine c_nilcellM 1009 2 1937 23 22 1 n (fun k j=>[.val (.int .u32 ((g k j:Nat):Int))]) ?_
 refine c_range (α:=Empty) [1004,1007,1008,1009] (moduli1_itr _ lv sp h1 h2) _ (modL_len _ lv sp) (fun k=>[.val (.int .i64 (k:Nat)),.val (.int .u32 ((modQ p lv k:Nat):Int))]) (fun k hk=>modL_at _ lv sp hk)
  (fun k=>[(109,some (.lit 93 [.val (.int .i64 (lv:Int)),.val (.bool sp),.sl 1937 1 k])),(1937,some (.mat 23 22 k k 1 n (fun k j=>[.val (.int .u32 ((g k j:Nat):Int))]))),(108,some (.lit 93 [.val (.int .i64 0),.val (.bool false),.val (.slice none 0 0)])),(107,some (.lit 220 [.clo fl [.fptr true l1,.fptr true l2]])),(104,some (.lit 217 [.fptr true (parL true p)]))])
  (fun _=>[]) (fun _=>False) (fun _=>.ret) (fun _=>True) trivial (fun k l hk _=>?_) (fun _=>?_) (fun y=>y.elim)
 ·have hq1:=hq k
  have hM:modN p lv sp≤1001:=by unfold modN;split<;>omega
  refine go ?_
  refine r_callM (1000+26) (hfill k hk) ?_
  refine c_end (by kernel_rfl) ?_
  refine go ?_
  refine ⟨trivial,?_⟩
  refine sub_mat (1000+37) (fun k j=>[.val (.int .u32 ((g k j:Nat):Int))]) (putG_snoc (fun _ _=>rfl)) (fun _ _=>rfl) ?_
  refine sub_toE (1000+37) 1937 ?_
  exact sub
 ·refine go ?_
  exact finN
theorem rgSub_own (p:PD) (n lv:Nat) (sp:Bool) (h:Lv p n lv) (ga gb:Nat→Nat→Nat) (ha:Vg p lv ga) (hb:Vg p lv gb):DenH Tryz.prog 138 [.agg (parL true p),.agg (elL true lv sp (modN p lv sp) n ga),.agg (elL true lv sp (modN p lv sp) n gb)] [] (.tup [.agg (elM lv sp 1019 (modN p lv sp)),.val (.int .i64 0)]) [] [(1019,u32M (modN p lv sp) n (fun i j=>(ga i j+modQ p lv i - gb i j) % modQ p lv i))]:=by
 refine den_intro (fn:=Tryz.f138) rfl rfl rfl rfl rfl ?_
 have h32:=h.n32
 have l2:=h.vp.len2
 have hm:=modQ_in h.vp h.sp h.l2
 have hM:modN p lv sp≤1001:=by have:=h.l2;unfold modN;split<;>omega
 refine go ?_
 refine r_call (rgalike_den p n lv sp h ga gb ha hb) ?_
 refine go ?_
 refine c_no ?_
 refine go ?_
 refine r_callN (rgeach2_own p n lv sp h.n (by have:=h.n4;omega) h32 h.l1 h.l2 (by omega) (fun k=>by have:=hm k;omega) (elL true lv sp (modN p lv sp) n ga) (elL true lv sp (modN p lv sp) n gb) (fun i j=>(ga i j+modQ p lv i - gb i j) % modQ p lv i) (fun k hk=>rgSub1_den k (modQ p lv k) n lv (modN p lv sp) sp ga gb hk hM h32 (by have:=hm k;omega) (by have:=hm k;omega) (fun i j=>by have:=ha i j;have:=hm i;omega) (fun i j=>by have:=hb i j;have:=hm i;omega) (fun j=>by have:=hb k j;omega))) (r':=.agg (elM lv sp 1019 (modN p lv sp))) rfl ?_
 refine go ?_
 exact finN

def prdV (p:PD) (lv n:Nat) (ga gb:Nat→Nat→Nat) (r j:Nat):Nat:=mulR (ga r) (gb r) (modQ p lv r) n j
theorem vg_prd {p:PD} {n lv:Nat} (h:Lv p n lv) (ga gb:Nat→Nat→Nat):Vg p lv (prdV p lv n ga gb):=fun r j=>Nat.mod_lt _ (h.q0 r)
theorem r09Mul_den (p:PD) (n lv:Nat) (sp:Bool) (h:Lv p n lv) (ga gb:Nat→Nat→Nat) (ha:Vg p lv ga) (hb:Vg p lv gb):Den Tryz.prog 226 [.agg (parL true p),.agg (elL true lv sp (modN p lv sp) n ga),.agg (elL true lv sp (modN p lv sp) n gb)] (.tup [.agg (elL false lv sp (modN p lv sp) n (prdV p lv n ga gb)),.val (.int .i64 0)]):=by
 refine den_intro (fn:=Tryz.f226) rfl rfl rfl rfl rfl ?_
 have hN:NatIs p.n n:=h.n
 have h32:=h.n32
 have hn4:=h.n4
 have l1:=h.l2
 have l2:=h.vp.len2
 have hm:=modQ_in h.vp h.sp h.l2
 have hM:modN p lv sp≤1001:=by unfold modN;split<;>omega
 have htwo:=r09two_den p n lv sp h ga gb ha hb
 have hmod:=r09Moduli_den p lv sp h.l2 (by omega)
 have hV:∀ r j,mulR (ga r) (gb r) (modQ p lv r) n j=prdV p lv n ga gb r j:=fun _ _=>rfl
 obtain ⟨V,hVV⟩:∃ V,prdV p lv n ga gb=V:=⟨_,rfl⟩
 rw [hVV] at hV ⊢
 obtain ⟨M,hMM⟩:∃ M,M=modN p lv sp:=⟨_,rfl⟩
 rw [← hMM] at hM hmod htwo ⊢
 refine go ?_
 refine r_call htwo ?_
 refine go ?_
 refine c_no ?_
 refine go ?_
 refine r_call hmod ?_
 refine go ?_
 refine c_nilcell 1008 2 1900 23 1 (fun k=>[.fz false n 1 (fun j=>[.val (.int .u32 ((V k j:Nat):Int))])]) ?_
 refine c_up M (fun i=>[(10,.val (.int .i64 (i:Nat)))]) (fun i=>[(1008,some (.lit 93 [.val (.int .i64 (lv:Int)),.val (.bool sp),.sl 1900 1 i])),(1900,some (.arr 23 i 1 fun k=>[.fz false n 1 (fun j=>[.val (.int .u32 ((V k j:Nat):Int))])]))]) (fun i hi=>?_)
 refine go ?_
 have hq:=hm i
 refine c_if (fun h3=>?_) (fun h3=>?_)
 ·have hpr:=r06Product_den (modQ p lv i) n (ga i) (gb i) (by omega) h32 (by omega) (by omega) (fun j=>by have:=ha i j;omega) (fun j=>by have:=hb i j;omega)
  simp only [hV] at hpr
  refine go ?_
  refine r_callO hpr ?_
  refine go ?_
  refine ⟨h3,?_⟩
  refine sub_arr (1000+52) (fun k=>[.fz false n 1 (fun j=>[.val (.int .u32 ((V k j:Nat):Int))])]) (appF_snoc rfl) (fun _=>rfl) ?_
  refine sub_toL [35] (1000+52) 1900 ?_
  exact sub
 ·obtain rfl:i=M:=by omega
  refine go ?_
  refine fin_freeze 1900 ?_
  refine fin ?_
  exact cv
theorem r13Mul_den (p:PD) (n lv:Nat) (sp:Bool) (h:Lv p n lv) (ga gb:Nat→Nat→Nat) (ha:Vg p lv ga) (hb:Vg p lv gb):Den Tryz.prog 149 [.agg (parL true p),.agg (elL true lv sp (modN p lv sp) n ga),.agg (elL true lv sp (modN p lv sp) n gb)] (.agg (elL false lv sp (modN p lv sp) n (prdV p lv n ga gb))):=by
 refine den_intro (fn:=Tryz.f149) rfl rfl rfl rfl rfl ?_
 refine go ?_
 refine r_call (r09Mul_den p n lv sp h ga gb ha hb) ?_
 refine go ?_
 refine fin ?_
 exact cv

instance fi224:FI Tryz.prog 224 Tryz.f224:=⟨Tryz.func224,Tryz.call224⟩
instance fi147:FI Tryz.prog 147 Tryz.f147:=⟨Tryz.func147,Tryz.call147⟩
theorem r09Add_den (p:PD) (n lv:Nat) (sp:Bool) (h:Lv p n lv) (ga gb:Nat→Nat→Nat) (ha:Vg p lv ga) (hb:Vg p lv gb):Den Tryz.prog 224 [.agg (parL true p),.agg (elL true lv sp (modN p lv sp) n ga),.agg (elL true lv sp (modN p lv sp) n gb)] (.tup [.agg (elL false lv sp (modN p lv sp) n (sumV p lv 1 ga gb)),.val (.int .i64 0)]):=by
 refine den_intro (fn:=Tryz.f224) rfl rfl rfl rfl rfl ?_
 refine go ?_
 refine r_call (r09two_den p n lv sp h ga gb ha hb) ?_
 refine go ?_
 refine c_no ?_
 refine go ?_
 refine r_call (r09sum_den p n lv sp h ga gb 1 (by omega) ha hb) ?_
 refine go ?_
 refine fin ?_
 exact cv
theorem r13Add_den (p:PD) (n lv:Nat) (sp:Bool) (h:Lv p n lv) (ga gb:Nat→Nat→Nat) (ha:Vg p lv ga) (hb:Vg p lv gb):Den Tryz.prog 147 [.agg (parL true p),.agg (elL true lv sp (modN p lv sp) n ga),.agg (elL true lv sp (modN p lv sp) n gb)] (.agg (elL false lv sp (modN p lv sp) n (sumV p lv 1 ga gb))):=by
 refine den_intro (fn:=Tryz.f147) rfl rfl rfl rfl rfl ?_
 refine go ?_
 refine r_call (r09Add_den p n lv sp h ga gb ha hb) ?_
 refine go ?_
 refine fin ?_
 exact cv

def fill2 (F G:Nat→Nat→Nat) (j i r x:Nat):Nat:=if r<j∨(r=j∧x<i) then F r x else G r x
theorem fill2_at {F G:Nat→Nat→Nat} {i x:Nat}:fill2 F G i x i x=G i x:=by unfold fill2;rw [if_neg (by omega)]
theorem fill2_set {F G:Nat→Nat→Nat} {i x v:Nat} (hv:v=F i x) (r y:Nat):setG (fun k j=>[.val (.int .u32 ((fill2 F G i x k j:Nat):Int))]) i (setE (fun j=>[.val (.int .u32 ((fill2 F G i x i j:Nat):Int))]) x 0 [.val (.int .u32 ((v:Nat):Int))]) r y=[.val (.int .u32 ((fill2 F G i (x+1) r y:Nat):Int))]:=by
 subst hv
 unfold setG
 by_cases q:r=i
 ·subst q
  rw [if_pos rfl]
  unfold setE
  by_cases q2:y=x
  ·subst q2
   rw [if_pos rfl]
   unfold fill2
   rw [if_pos (by omega)];rfl
  ·rw [if_neg q2]
   have:fill2 F G r x r y=fill2 F G r (x+1) r y:=by
    unfold fill2
    by_cases q3:y<x
    ·rw [if_pos (by omega),if_pos (by omega)]
    ·rw [if_neg (by omega),if_neg (by omega)]
   show [D.val (.int .u32 ((fill2 F G r x r y:Nat):Int))]=_
   rw [this]
 ·rw [if_neg q]
  have:fill2 F G i x r y=fill2 F G i (x+1) r y:=by
   unfold fill2
   by_cases q3:r<i
   ·rw [if_pos (by omega),if_pos (by omega)]
   ·rw [if_neg (by omega),if_neg (by omega)]
  show [D.val (.int .u32 ((fill2 F G i x r y:Nat):Int))]=_
  rw [this]

instance (p:PD):NewDL (parL false p):=by unfold parL u32sD;infer_instance
def p4:PD:=⟨4,17,1,[2147481209],2147483249,4,2⟩
theorem p4_good:Good p4.par:=good4
theorem p4_fit:PFit p4:=⟨by decide,by decide,by decide,by decide,by decide,fun i hi=>by
 have:i=0:=by simp [p4] at hi;omega
 subst this;decide,by decide,by decide,by decide,by decide⟩
theorem small13_den:Den Tryz.prog 62 [.val (.int .i64 1)] (.agg (parL false p4)):=by
 refine den_intro (fn:=Tryz.f62) rfl rfl rfl rfl rfl ?_
 refine go ?_
 refine r_call (r12default_den 4 17 1 17 2147483249 1 [2147481209] (by omega) (by omega) (by omega) (by omega) (by omega) (by omega) (plainV_pos plain417) (by omega) (by omega) (by omega) (by omega) chain4 rfl) ?_
 refine go ?_
 refine fin ?_
 exact cv
theorem p4_n:p4.n=((4:Nat):Int):=rfl

theorem resI_small {a q:Nat} (h:a<q):resI (a:Int) q=a:=by
 unfold resI
 rw [Int.emod_eq_of_lt (by omega) (by omega)]
 exact Int.toNat_natCast a
theorem resI_mul {x t:Int} {q:Nat} (h:0<q):resI x q*resI t q % q=resI (x*t) q:=by
 have e:((resI x q*resI t q % q:Nat):Int)=((resI (x*t) q:Nat):Int):=by
  rw [Int.natCast_emod,Int.natCast_mul,resI_cast h,resI_cast h,resI_cast h,← Int.mul_emod]
 exact Int.ofNat.inj e

theorem DenH.res {P:Program} {f:FuncId} {ds:List D} {hs hs' rs:Hs} {r r':D} (h:DenH P f ds hs r hs' rs) (hc:Cvt r r'):DenH P f ds hs r' hs' rs:=fun Zc w i args hZ hi hH ha=>
 (h Zc w i args hZ hi hH ha).mono fun e w' ⟨v,i',Zn',p0,p1,p2,p3,p4,p5,pfl,p6,p7⟩=>⟨v,i',Zn',p0,p1,p2,p3,p4,p5,pfl,p6,hc.cv (fun b hb=>.inr hb) p7⟩
theorem zero_res {o:Bool} {n:Nat} {x:Int} {G:Nat→Nat→Nat→Nat}:Cvt (.tup [.agg zeroC,.val (.int .i64 x)]) (.tup [.agg (ciV o 0 0 0 n G),.val (.int .i64 x)]):=
 Cvt.tup (.cons (Cvt.agg (.cons (.of_eq rfl) (.cons (.of_eq rfl) (.cons (Cvt.nil _ _ _) .nil)))) (.cons (.of_eq rfl) .nil))

theorem cvt_el {o:Bool} {lv:Nat} {sp:Bool} {M n:Nat} {A B:Nat→Nat→Nat} (h:∀ r j,r<M→j<n→A r j=B r j):Cvt (.agg (elL o lv sp M n A)) (.agg (elL o lv sp M n B)):=
 Cvt.agg (.cons (.of_eq rfl) (.cons (.of_eq rfl) (.cons (Cvt.fz (.inl rfl) (fun r hr=>⟨rfl,fun c hc=>by
  obtain rfl:c=0:=by have:c<1:=hc;omega
  exact Cvt.fz (.inl rfl) (fun j hj=>⟨rfl,fun c hc=>by
   obtain rfl:c=0:=by have:c<1:=hc;omega
   exact .of_eq (by show D.val (.int .u32 ((A r j:Nat):Int))=D.val (.int .u32 ((B r j:Nat):Int));rw [h r j hr hj])⟩)⟩)) .nil)))
theorem resI_1 {q:Nat} (h:2≤q):resI 1 q=1:=by
 have:=resI_small (show 1<q by omega)
 simpa using this
theorem sumV_1 {p:PD} {n lv:Nat} (h:Lv p n lv) (A B:Nat→Nat→Nat):sumV p lv 1 A B=addV p lv A B:=by
 funext r j
 have hm:=modQ_in h.vp h.sp h.l2 r
 unfold sumV addV
 rw [resI_1 (by omega),Nat.mul_one]

def auA (n k j:Nat):Nat:=j*k % (2*n)
def auP (n k j:Nat):Nat:=if auA n k j<n then auA n k j else auA n k j - n
theorem auA_lt {n k j:Nat} (hn:0<n):auA n k j<2*n:=Nat.mod_lt _ (by omega)
theorem auP_lt {n k j:Nat} (hn:0<n):auP n k j<n:=by
 have:=auA_lt (k:=k) (j:=j) hn
 unfold auP
 split<;>omega
theorem auP_lo {n k j:Nat} (h:j*k % (2*n)<n):auP n k j=j*k % (2*n):=if_pos h
theorem auP_hi {n k j:Nat} (h:¬ j*k % (2*n)<n):auP n k j=j*k % (2*n) - n:=if_neg h

def wt (x:Nat→Int):Nat→Nat
 | 0=>0
 | k+1=>if x k=0 then wt x k else wt x k+1
theorem wt_le (x:Nat→Int):∀ k,wt x k≤k
 | 0=>Nat.le_refl _
 | k+1=>by unfold wt;have:=wt_le x k;split<;>omega
def triB (x:Nat→Int) (k:Nat):Bool:=decide (-1≤x k) && decide (x k≤1)
def zk (a x:Nat→Int) (n i t:Nat):Nat→Int
 | 0=>0
 | k+1=>zk a x n i t k+(if i+k=t then a i*x k else if i+k=t+n then -(a i*x k) else 0)
def zi (a x:Nat→Int) (n t:Nat):Nat→Int
 | 0=>0
 | i+1=>zi a x n t i+zk a x n i t n
def zS (a x:Nat→Int) (n i k t:Nat):Int:=zi a x n t i+zk a x n i t k
theorem zS_next (a x:Nat→Int) (n i t:Nat):zS a x n i n t=zS a x n (i+1) 0 t:=by unfold zS;simp only [zi,zk];omega
theorem zS_lo {a x:Nat→Int} {n i k:Nat} (h:i+k<n):zS a x n i (k+1) (i+k)=zS a x n i k (i+k)+a i*x k:=by
 unfold zS;simp only [zk];rw [if_pos trivial];omega
theorem zS_hi {a x:Nat→Int} {n i k:Nat} (h:¬ i+k<n) (h2:0<n):zS a x n i (k+1) (i+k - n)=zS a x n i k (i+k - n) - a i*x k:=by
 unfold zS;simp only [zk];rw [if_neg (by omega),if_pos (by omega)];omega
theorem zS_other {a x:Nat→Int} {n i k t:Nat} (ht:t<n) (h1:i+k≠t) (h2:i+k≠t+n):zS a x n i (k+1) t=zS a x n i k t:=by
 unfold zS;simp only [zk];rw [if_neg h1,if_neg h2];omega
theorem mul_tri {a b:Int} {M:Nat} (ha : -(M:Int)≤a∧a≤M) (hb : -1≤b∧b≤1) : -(M:Int)≤a*b∧a*b≤M:=by
 obtain rfl | rfl | rfl:b = -1∨b=0∨b=1:=by omega
 ·omega
 ·omega
 ·omega
theorem zk_in {a x:Nat→Int} {n M:Nat} (ha:∀ j, -(M:Int)≤a j∧a j≤M) (hx:∀ j, -1≤x j∧x j≤1) (i t:Nat):∀ k, -((k*M:Nat):Int)≤zk a x n i t k∧zk a x n i t k≤((k*M:Nat):Int)
 | 0=>by simp [zk]
 | k+1=>by
  have h1:=zk_in (n:=n) ha hx i t k
  have h2:=mul_tri (ha i) (hx k)
  have h3:(k+1)*M=k*M+M:=Nat.succ_mul k M
  rw [h3]
  simp only [zk]
  split
  ·omega
  ·split<;>omega
theorem zi_in {a x:Nat→Int} {n M:Nat} (ha:∀ j, -(M:Int)≤a j∧a j≤M) (hx:∀ j, -1≤x j∧x j≤1) (t:Nat):∀ i, -((i*(n*M):Nat):Int)≤zi a x n t i∧zi a x n t i≤((i*(n*M):Nat):Int)
 | 0=>by simp [zi]
 | i+1=>by
  have h1:=zi_in (n:=n) ha hx t i
  have h2:=zk_in (n:=n) ha hx i t n
  have h3:(i+1)*(n*M)=i*(n*M)+n*M:=Nat.succ_mul i _
  rw [h3]
  simp only [zi]
  omega
theorem zS_in {a x:Nat→Int} {n M:Nat} (ha:∀ j, -(M:Int)≤a j∧a j≤M) (hx:∀ j, -1≤x j∧x j≤1) (hn:n≤32) (hM:M≤2000) {i k:Nat} (hi:i≤32) (hk:k≤32) (t:Nat) : -4000000≤zS a x n i k t∧zS a x n i k t≤4000000:=by
 have h1:=zi_in (n:=n) ha hx t i
 have h2:=zk_in (n:=n) ha hx i t k
 have h3:n*M≤32*2000:=Nat.mul_le_mul hn hM
 have h4:i*(n*M)≤32*(32*2000):=Nat.mul_le_mul hi h3
 have h5:k*M≤32*2000:=Nat.mul_le_mul hk hM
 unfold zS
 omega
def pw (x:Nat→Int) (n:Nat):Nat→Nat→Int
 | 0,t=>if t=0 then 1 else 0
 | m+1,t=>if t<n then zi (pw x n m) x n t n else 0
theorem zk_zero {a x:Nat→Int} {n i t:Nat} (h:a i=0):∀ k,zk a x n i t k=0
 | 0=>rfl
 | k+1=>by simp only [zk];rw [zk_zero h k,h];simp
theorem zk_one {x:Nat→Int} {n t:Nat} (ht:t<n):∀ k,k≤n→zk (pw x n 0) x n 0 t k=if t<k then x t else 0
 | 0,_=>rfl
 | k+1,hk=>by
  simp only [zk]
  rw [zk_one ht k (by omega),if_neg (show ¬ 0+k=t+n by omega)]
  have e:pw x n 0 0=1:=rfl
  rw [e,Int.one_mul]
  by_cases q:0+k=t
  ·obtain rfl:k=t:=by omega
   rw [if_neg (Nat.lt_irrefl k),if_pos (by omega),if_pos (by omega)];omega
  ·rw [if_neg q]
   by_cases q2:t<k
   ·rw [if_pos q2,if_pos (by omega)];omega
   ·rw [if_neg q2,if_neg (by omega)];rfl
theorem zi_one {x:Nat→Int} {n t:Nat} (ht:t<n):∀ i,1≤i→zi (pw x n 0) x n t i=x t
 | 1,_=>by
  simp only [zi]
  rw [zk_one ht n (Nat.le_refl n),if_pos ht];omega
 | i+2,_=>by
  have:=zi_one (x:=x) ht (i+1) (by omega)
  show zi (pw x n 0) x n t (i+1)+zk (pw x n 0) x n (i+1) t n=x t
  rw [this,zk_zero (show pw x n 0 (i+1)=0 from if_neg (by omega))];omega
theorem pw_one {x:Nat→Int} {n t:Nat} (ht:t<n):pw x n 1 t=x t:=by
 unfold pw
 rw [if_pos ht]
 exact zi_one ht n (by omega)
theorem pw0_in {x:Nat→Int} {n:Nat} (j:Nat) : -((1:Nat):Int)≤pw x n 0 j∧pw x n 0 j≤((1:Nat):Int):=by
 unfold pw
 split<;>omega
theorem pw1_in {x:Nat→Int} {n:Nat} (hn:n≤32) (hx:∀ j, -1≤x j∧x j≤1) (j:Nat) : -((1024:Nat):Int)≤pw x n 1 j∧pw x n 1 j≤((1024:Nat):Int):=by
 unfold pw
 split
 ·have:=zi_in (n:=n) (pw0_in (x:=x) (n:=n)) hx j n
  have h:n*(n*1)≤32*(32*1):=Nat.mul_le_mul hn (by omega)
  omega
 ·omega
def tR (n k:Nat) (x:Nat→Int):Nat→Nat→Int
 | 0=>fun _=>0
 | j+1=>fun e=>if e=auP n k j then (if auA n k j<n then x j else -x j) else tR n k x j e
theorem tR_in {n k:Nat} {x:Nat→Int} (hx:∀ j, -1≤x j∧x j≤1) (e:Nat):∀ j, -1≤tR n k x j e∧tR n k x j e≤1
 | 0=>by simp [tR]
 | j+1=>by
  have h1:=tR_in (n:=n) (k:=k) hx e j
  have h2:=hx j
  simp only [tR]
  split
  ·split<;>omega
  ·exact h1
theorem tR_lo {n k j:Nat} {x:Nat→Int} {v:Int} (h:j*k % (2*n)<n) (hv:v=x j):v=tR n k x (j+1) (j*k % (2*n)):=by
 rw [← auP_lo h]
 simp only [tR]
 rw [if_pos trivial,if_pos (show auA n k j<n from h)];exact hv
theorem tR_hi {n k j:Nat} {x:Nat→Int} {v:Int} (h:¬ j*k % (2*n)<n) (hv:v = -x j):v=tR n k x (j+1) (j*k % (2*n) - n):=by
 rw [← auP_hi h]
 simp only [tR]
 rw [if_pos trivial,if_neg (show ¬ auA n k j<n from h)];exact hv
theorem tR_other {n k j e:Nat} {x:Nat→Int} (h:e≠auP n k j):tR n k x (j+1) e=tR n k x j e:=by
 simp only [tR]
 rw [if_neg h]
end Go.Proofs.YtdcenblblimkfaaGreat
