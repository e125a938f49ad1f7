/- append whose run is known, as one step of a region that draws its order.
The map of paths: what lookups and updates do.
The memory of the program's search.
The memory of the program's search: how it begins, what is taken.
One step of the program's search. -/
import Derived.Test.YtmjildbdkecolaaGreatRows
import Derived.Test.YtmjildbdkecolaaGreatPg09
import Derived.Test.YtmjildbdkecolaaGreatPg10
import Derived.WalkKit
import Derived.Deep.RegionLaw
import Derived.Maps.OwnSet
import Derived.Maps.Views
import Derived.Carry
import Derived.Deep.RegionHeld3
import Derived.Deep.DrawnRows
import Derived.Deep.DeepCutAuto
set_option linter.unusedSimpArgs false
set_option linter.unusedVariables false
set_option linter.unnecessarySimpa false
set_option linter.unusedSectionVars false
namespace Go.Proofs.YtmjildbdkecolaaGreat
open Go.RowKit

theorem step_append_run {P:Program} {ops:Array Oper} {o:Oper} {a:Act} {w:World} {K:Act→World→Prop} {Q:Exit→Act→World→Prop} {E:Prop}
  (hg:o.guard=none) (s x:Operand) (t:TypeId) (hop:o.op=Op.call { callee:=Callee.builtin Builtin.append,args:=#[s,x],argTypes:=#[t,t] })
  (vs vx:Value) (hs:a.eval s=vs) (hx:a.eval x=vx) (v':Value) (w':World) (hr:(Builtin.append_ #[t,t] o.type #[vs,vx]).run P w = .ok v' w')
  (hK:K (a.put o.dst v') w') :
  if Region.wanted o (yielded ops a.tmps)=true then Oper.wp P o a w K Q else E:=by
 have hw:Region.wanted o (yielded ops a.tmps)=true:=by simp [Region.wanted,hg]
 rw [if_pos hw]
 unfold Oper.wp
 simp [execOp,hop,resolve,invoke,builtin,hs,hx,hr,Result.andThen]
 exact hK

open Go.RowKit Go.Shelf
open Go.Maps (Keyed)

def rdV (v:Value):Option (DataW Value × List MemPlace):=some (.held v,[])
def Mp (w:World) (b n:Nat) (f:Int→Option Value):Prop:=
 ∃ D:DataW Value,w.ownsMap Tryz.prog 3 rdV b n D∧∀ k z,(Lit.int .i64 k).wf=true→D.atKey (.int .i64 k) z=(match f k with | some v=>.held v | none=>z)
theorem keyedInt:Keyed Tryz.prog 3:=Maps.int_keyed Tryz.underlying3
theorem zeroSint (w:World):(zeroValue 106).run Tryz.prog w = .ok (.slice none 0 0) w:=by kernel_rfl
theorem wf_int {k:Int} (h1 : -9223372036854775808≤k) (h2:k≤9223372036854775807):(Lit.int .i64 k).wf=true:=by
 simp [Lit.wf,IntKind.min,IntKind.max,IntKind.signed,IntKind.bits]
 omega
section
variable {w w':World} {b n:Nat} {f:Int→Option Value} {S:List Nat}
theorem Mp.made (w:World):Mp (w.alloc (.map #[] 0)) w.heap.size 0 (fun _=>none):=⟨_,World.ownsMap_made w _ _ _,fun _ _ _=>rfl⟩
theorem Mp.lt (h:Mp w b n f):b<w.heap.size:=by obtain ⟨D,h,_⟩:=h;exact h.lt
theorem Mp.turn (h:Mp w b n f) (hT:Turn w w' S) (hb:b ∉ S):Mp w' b n f:=by
 obtain ⟨D,h,hf⟩:=h
 have hlt:=h.lt
 obtain ⟨es,clock,hh,F,hs,hD⟩:=h
 exact ⟨D,⟨es,clock,(hT.block b hlt hb).trans hh,F,hs,hD⟩,hf⟩
theorem Mp.look_none (h:Mp w b n f) {k:Int} (h1 : -9223372036854775808≤k) (h2:k≤9223372036854775807) (hk:f k=none) :
  ∃ v,(Instr.lookup 166 (.map (some b)) (.int .i64 k) true).run Tryz.prog w = .ok (.tuple #[v,.bool false]) w:=by
 obtain ⟨D,h,hf⟩:=h
 have e:∀ z,D.atKey (.int .i64 k) z=z:=fun z=>by rw [hf k z (wf_int h1 h2),hk]
 obtain ⟨v,ps,hr,_⟩:=h.look_ok keyedInt Tryz.underlying166 (zeroSint w) (zd:=.held (.slice none 0 0)) (zp:=[]) rfl (Maps.keyOf_int_mk Tryz.underlying3 (wf_int h1 h2))
 rw [Maps.has_false_of_atKey e] at hr
 exact ⟨v,hr⟩
theorem Mp.look_some (h:Mp w b n f) {k:Int} (h1 : -9223372036854775808≤k) (h2:k≤9223372036854775807) {v:Value} (hk:f k=some v) :
  (Instr.lookup 166 (.map (some b)) (.int .i64 k) true).run Tryz.prog w = .ok (.tuple #[v,.bool true]) w∧(Instr.lookup 166 (.map (some b)) (.int .i64 k) false).run Tryz.prog w = .ok v w:=by
 obtain ⟨D,h,hf⟩:=h
 have e:∀ z,D.atKey (.int .i64 k) z = .held v:=fun z=>by rw [hf k z (wf_int h1 h2),hk]
 obtain ⟨u,ps,hr,hu⟩:=h.look_ok keyedInt Tryz.underlying166 (zeroSint w) (zd:=.held (.slice none 0 0)) (zp:=[]) rfl (Maps.keyOf_int_mk Tryz.underlying3 (wf_int h1 h2))
 obtain ⟨u2,ps2,hr2,hu2⟩:=h.lookup keyedInt Tryz.underlying166 (zeroSint w) (zd:=.held (.slice none 0 0)) (zp:=[]) rfl (Maps.keyOf_int_mk Tryz.underlying3 (wf_int h1 h2))
 rw [e] at hu hu2
 simp only [rdV,Option.some.injEq,Prod.mk.injEq,DataW.held.injEq] at hu hu2
 rw [Maps.has_true_of_atKey e,hu.1] at hr
 rw [hu2.1] at hr2
 exact ⟨hr,hr2⟩
def fput (f:Int→Option Value) (k:Int) (v:Value):Int→Option Value:=fun j=>if j=k then some v else f j
theorem fput_same (f:Int→Option Value) (k:Int) (v:Value):fput f k v k=some v:=by simp [fput]
theorem fput_other (f:Int→Option Value) {k j:Int} (v:Value) (h:j≠k):fput f k v j=f j:=by simp [fput,h]
theorem Mp.update (h:Mp w b n f) {k:Int} (h1 : -9223372036854775808≤k) (h2:k≤9223372036854775807) (v:Value) (hn:n≤1000000) :
  ∃ w',(Instr.mapUpdate 166 (.map (some b)) (.int .i64 k) v).run Tryz.prog w = .ok () w'∧Mp w' b (n+1) (fput f k v)∧Turn w w' [b]:=by
 obtain ⟨D,h,hf⟩:=h
 have hm:=h.isMap
 obtain ⟨w',hr,ho,hg⟩:=h.update keyedInt Tryz.underlying166 (by unfold maxLen;omega) (Maps.keyOf_int_mk Tryz.underlying3 (wf_int h1 h2)) (val:=v) (d:=.held v) (ps:=[]) rfl
 refine ⟨w',hr,⟨_,ho,?_⟩,Turn.of_grown hg (fun j hj=>.inl (by simp at hj;simp [hj]))⟩
 intro j z hj
 by_cases hjk:j=k
 ·subst hjk
  rw [Maps.atKey_put_same hm (keyedInt.key (Maps.keyOf_int_mk Tryz.underlying3 hj)),fput_same]
 ·rw [Maps.atKey_put_other (by intro e;injection e with e1 e2;exact hjk e2),fput_other f v hjk]
  exact hf j z hj
end


theorem OwI.append_full {w:World} {lo g off:Nat} {c:Nat} {l:List Int} {bs:List Nat} (h:OwI w lo (.slice (some ⟨g,off,none⟩) l.length c) l bs) (hlo:lo≤w.heap.size) (hlen:l.length≤1000000) (ty:TypeId) (ad:Addr) (cx:Nat) (x:Int)
  (hx:w.cell? ad=some (.int .i64 x)) :
  ∃ b' c' w' ,(Builtin.append_ #[106,106] ty #[.slice (some ⟨g,off,none⟩) l.length l.length,.slice (some ad) 1 cx]).run Tryz.prog w = .ok (.slice (some ⟨b',0,none⟩) (l.length+1) c') w' ∧
   OwI w' lo (.slice (some ⟨b',0,none⟩) (l.length+1) c') (l++[x]) [b']∧Turn w w' []∧w.heap.size≤b':=by
 obtain ⟨i0,hi,hz0,hz1,hz2⟩:=info_parts ginfo_i64
 have hnews:∀ j u,([.int .i64 x]:List Value)[j]? = some u→w.cell? (ad.add j)=some u:=by
  intro j u hj
  match j,hj with
  | 0,hj=>
   simp at hj
   subst hj
   have:ad.add 0=ad:=by unfold Addr.add;split<;>simp_all
   rw [this]
   exact hx
 obtain ⟨ao,cap,e,hrd⟩:=h.rd
 simp only [Value.slice.injEq,true_and] at e
 obtain ⟨rfl,rfl⟩:=e
 have holds:∀ j u,(l.map (Value.int .i64))[j]? = some u→w.cell? ((⟨g,off,none⟩:Addr).add j)=some u:=by
  intro j u hj
  simp only [List.getElem?_map,Option.map_eq_some_iff] at hj
  obtain ⟨y,hy,rfl⟩:=hj
  obtain ⟨hjl,hy'⟩:=List.getElem?_eq_some_iff.1 hy
  obtain ⟨b,o,e,hc⟩:=hrd j hjl
  simp only [Option.some.injEq,Addr.mk.injEq,and_true] at e
  obtain ⟨rfl,rfl⟩:=e
  have:=hc j hjl
  rw [List.getD_eq_getElem?_getD,hy,Option.getD_some] at this
  rw [add_zero_addr]
  exact this
 obtain ⟨v',w',hr,ho,hg⟩:=run_append_arg_grows (P:=Tryz.prog) w 106 ty 3 i0 (.int .i64 0) 1 8 Tryz.underlying106 hi hz0 hz1 hz2 rfl (by decide) ⟨g,off,none⟩ l.length l.length (l.map (Value.int .i64)) (by simp) holds ad 1 cx [.int .i64 x] rfl hnews
  (by omega) (by unfold maxLen;omega) (by omega)
 rcases ho.2 with ⟨_,h0⟩ | ⟨b',cap,cur,rfl,hge,hh,hnc,hml,hcs,htk⟩
 ·omega
 ·refine ⟨b',cap,w',hr,.inr ⟨b',0,cap,cur,by simp,rfl,by omega,hh,by simp;omega,hml,by omega,?_⟩,Turn.of_grown hg (fun k hk=>by simp at hk),hge⟩
  intro j hj
  rw [Nat.zero_add,← Array.getElem?_toList]
  have e:=congrArg (·[j]?) htk
  rw [Nat.mul_one,List.getElem?_take,if_pos (by simpa using hj)] at e
  rw [e]
  rcases Nat.lt_or_ge j l.length with hjl | hjl
  ·rw [List.getElem?_append_left (by simpa using hjl)]
   simp [List.getD_eq_getElem?_getD,List.getElem?_append_left hjl,hjl]
  ·have:j=l.length:=by simp at hj;omega
   subst this
   simp [List.getD_eq_getElem?_getD]

def PMem (w:World) (lo mb q d:Nat) (S:List (Int × List Int)) (X:List Nat):Prop:=
 ∃ (f:Int→Option Value) (vals:List Value) (qv:Value) (bs:List Nat) (m:Nat),Mp w mb m f∧m≤S.length∧vals.length=S.length∧(∀ j,j<S.length→f (S.getD j (0,[])).1=some (vals.getD j undef))∧(∀ k,k ∉ S.map Prod.fst→f k=none) ∧
  Blk w q 168 #[qv]∧OwI w lo qv ((S.drop d).map Prod.fst) bs∧mb ∉ bs∧q ∉ bs∧mb≠q∧lo≤mb∧lo≤q∧(∀ x,x∈X→x ∉ bs∧x≠mb∧x≠q∧x<w.heap.size) ∧
  ∀ j,j<S.length→∃ pb g off c,vals.getD j undef = .slice (some ⟨g,off,none⟩) (S.getD j (0,[])).2.length c∧OwI w lo (vals.getD j undef) (S.getD j (0,[])).2 pb∧∀ g,g∈pb→g ∉ bs∧g≠mb∧g≠q
theorem PMem.known {w:World} {lo mb q d:Nat} {S:List (Int × List Int)} {X:List Nat} (h:PMem w lo mb q d S X) {a:Nat} {x:Int} {px:List Int} (ha:S[a]? = some (x,px)) (h1 : -9223372036854775808≤x) (h2:x≤9223372036854775807) :
  ∃ g off c bs,(Instr.lookup 166 (.map (some mb)) (.int .i64 x) true).run Tryz.prog w = .ok (.tuple #[.slice (some ⟨g,off,none⟩) px.length c,.bool true]) w ∧
   (Instr.lookup 166 (.map (some mb)) (.int .i64 x) false).run Tryz.prog w = .ok (.slice (some ⟨g,off,none⟩) px.length c) w∧OwI w lo (.slice (some ⟨g,off,none⟩) px.length c) px bs:=by
 obtain ⟨f,vals,qv,bs,m,hM,hm,hl,hf,_,_,_,_,_,_,_,_,_,hp⟩:=h
 obtain ⟨hal,_⟩:=List.getElem?_eq_some_iff.1 ha
 have e:S.getD a (0,[])=(x,px):=by rw [List.getD_eq_getElem?_getD,ha,Option.getD_some]
 obtain ⟨pb,g,off,c,hv,hO,_⟩:=hp a hal
 have hfa:=hf a hal
 rw [e] at hfa hv hO
 simp only at hfa hv hO
 rw [hv] at hfa hO
 obtain ⟨r1,r2⟩:=hM.look_some h1 h2 hfa
 exact ⟨g,off,c,pb,r1,r2,hO⟩
theorem PMem.new {w:World} {lo mb q d:Nat} {S:List (Int × List Int)} {X:List Nat} (h:PMem w lo mb q d S X) {x:Int} (hx:x ∉ S.map Prod.fst) (h1 : -9223372036854775808≤x) (h2:x≤9223372036854775807) :
  ∃ v,(Instr.lookup 166 (.map (some mb)) (.int .i64 x) true).run Tryz.prog w = .ok (.tuple #[v,.bool false]) w:=by
 obtain ⟨f,vals,qv,bs,m,hM,hm,hl,hf,hn,_⟩:=h
 exact hM.look_none h1 h2 (hn x hx)
theorem PMem.grow {w:World} {lo mb q d:Nat} {S:List (Int × List Int)} {X:List Nat} (h:PMem w lo mb q d S X) (hd:d≤S.length) (hn64:S.length≤1000) (hlo:lo≤w.heap.size) {a:Nat} {x:Int} {px:List Int} (ha:S[a]? = some (x,px)) (hpl:px.length≤1000)
  (h1 : -9223372036854775808≤x) (h2:x≤9223372036854775807) {nx:Int} (hx:nx ∉ S.map Prod.fst) (n1 : -9223372036854775808≤nx) (n2:nx≤9223372036854775807) (i:Nat) :
  ∃ g off c b' c' u1 u2 qv bs,
   (Instr.lookup 166 (.map (some mb)) (.int .i64 x) false).run Tryz.prog w.drew = .ok (.slice (some ⟨g,off,none⟩) px.length c) w.drew ∧
   (Instr.lookup 166 (.map (some mb)) (.int .i64 x) false).run Tryz.prog (w.drew.alloc (.cells #[.int .i64 i] 3)) = .ok (.slice (some ⟨g,off,none⟩) px.length c) (w.drew.alloc (.cells #[.int .i64 i] 3))∧px.length≤c∧c≤maxLen ∧
   (Builtin.append_ #[106,106] 106 #[.slice (some ⟨g,off,none⟩) px.length px.length,.slice (some ⟨w.heap.size,0,none⟩) 1 1]).run Tryz.prog (w.drew.alloc (.cells #[.int .i64 i] 3)) = .ok (.slice (some ⟨b',0,none⟩) (px.length+1) c') u1 ∧
   (Instr.mapUpdate 166 (.map (some mb)) (.int .i64 nx) (.slice (some ⟨b',0,none⟩) (px.length+1) c')).run Tryz.prog u1 = .ok () u2 ∧
   (∀ w',Turn w w' []→(Instr.lookup 166 (.map (some mb)) (.int .i64 x) false).run Tryz.prog w' = .ok (.slice (some ⟨g,off,none⟩) px.length c) w')∧(Instr.lookup 166 (.map (some mb)) (.int .i64 x) false).run Tryz.prog u2 = .ok (.slice (some ⟨g,off,none⟩) px.length c) u2 ∧
   Turn w u1 []∧Turn w u2 [mb]∧Blk u2 q 168 #[qv]∧OwI u2 lo qv ((S.drop d).map Prod.fst) bs∧q ∉ bs ∧
   ∀ w',PutPost u2 w' lo q ((S.drop d).map Prod.fst++[nx]) bs→PMem w' lo mb q d (S++[(nx,px++[(i:Int)])]) X∧Turn w w' (mb::q::bs)∧(∀ y,y∈X→y ∉ mb::q::bs)∧(∀ y,y∈mb::q::bs→lo≤y):=by
 obtain ⟨f,vals,qv,bs,m,hM,hm,hl,hf,hn,hQ,hqO,hmb,hqb,hmq,hlm,hlq,hX,hp⟩:=h
 obtain ⟨hal,_⟩:=List.getElem?_eq_some_iff.1 ha
 have e:S.getD a (0,[])=(x,px):=by rw [List.getD_eq_getElem?_getD,ha,Option.getD_some]
 obtain ⟨pb,g,off,c,hv,hO,hpd⟩:=hp a hal
 have hfa:=hf a hal
 rw [e] at hfa hv hO
 simp only at hfa hv hO
 rw [hv] at hfa hO
 have T0:Turn w w.drew []:=(Turn.refl w []).drew
 have T1:Turn w (w.drew.alloc (.cells #[.int .i64 (i:Int)] 3)) []:=T0.alloc _
 have hM0:=hM.turn T0 (by simp)
 have hM1:=hM.turn T1 (by simp)
 have hO1:=hO.turn T1 (fun _ _=>by simp)
 have hcap:px.length≤c∧c≤maxLen:=by
  rcases hO with ⟨hh,_⟩ | ⟨_,_,_,_,hh,_,_,_,k1,k2,_⟩
  ·simp at hh
  ·simp only [Value.slice.injEq,true_and] at hh
   omega
 obtain ⟨b',c',u1,hr,hOn,hTu1,hb'⟩:=hO1.append_full (by rw [World.size_alloc];exact Nat.le_succ_of_le hlo) (by omega) 106 ⟨w.heap.size,0,none⟩ 1 i ((Blk.new w.drew _ _).cell 0)
 have hsb:w.heap.size+1≤b':=by rw [World.size_alloc] at hb';exact hb'
 have Tw1:Turn w u1 []:=T1.trans hTu1
 obtain ⟨u2,hru,hMu,hTu2⟩:=(hM.turn Tw1 (by simp)).update n1 n2 (.slice (some ⟨b',0,none⟩) (px.length+1) c') (by omega)
 have Tw2:Turn w u2 [mb]:=(Tw1.mono (fun _ k=>by simp at k)).trans hTu2
 have hbl:b'<u1.heap.size:=(hOn.lt (by simp)).1
 have hmbl:=hM.lt
 have hql:=hQ.lt
 have hbsl:∀ y,y∈bs→y<w.heap.size:=fun y hy=>(hqO.lt hy).1
 have hs2:=hTu2.size
 have hs02:=Tw2.size
 have hQ2:=hQ.turn Tw2 (by simpa using fun k=>hmq k.symm)
 have hqO2:=hqO.turn Tw2 (fun y hy k=>by simp at k;subst k;exact hmb hy)
 refine ⟨g,off,c,b',c',u1,u2,qv,bs,(hM0.look_some h1 h2 hfa).2,(hM1.look_some h1 h2 hfa).2,hcap.1,hcap.2,hr,hru,fun w' hT=>((hM.turn hT (by simp)).look_some h1 h2 hfa).2,(hMu.look_some h1 h2 (by
  rw [fput_other _ _ (fun k=>hx (by rw [← k];exact List.mem_map.2 ⟨_,List.mem_of_getElem? ha,rfl⟩))]
  exact hfa)).2,Tw1,Tw2,hQ2,hqO2,hqb,?_⟩
 rintro w' ⟨v',bs',hBq,hqO',hTp,hN⟩
 have Tw':Turn w w' (mb::q::bs):=(Tw2.mono (fun y k=>by simp at k;simp [k])).trans (hTp.mono (fun y k=>by simp at k ⊢;exact .inr k))
 have hbf:∀ y,y∈bs'→y∈bs∨u2.heap.size≤y:=fun y hy=>by
  rcases hN with k | k
  ·exact .inl (k▸hy)
  ·exact .inr (k y hy)
 have hXn:∀ y,y∈X→y ∉ mb::q::bs:=fun y hy k=>by
  obtain ⟨k1,k2,k3,_⟩:=hX y hy
  simp only [List.mem_cons] at k
  rcases k with k | k | k
  ·exact k2 k
  ·exact k3 k
  ·exact k1 k
 refine ⟨⟨fput f nx (.slice (some ⟨b',0,none⟩) (px.length+1) c'),vals++[.slice (some ⟨b',0,none⟩) (px.length+1) c'],v',bs',m+1,?_,by simp;omega,by simp [hl],?_,?_,hBq,?_,?_,?_,hmq,hlm,hlq,?_,?_⟩,Tw',hXn,?_⟩
 ·exact hMu.turn hTp (fun k=>by
   simp only [List.mem_cons] at k
   rcases k with k | k
   ·exact hmq k
   ·exact hmb k)
 ·intro j hj
  rcases Nat.lt_or_ge j S.length with hjl | hjl
  ·have e1:(S++[(nx,px++[(i:Int)])]).getD j (0,[])=S.getD j (0,[]):=by rw [List.getD_eq_getElem?_getD,List.getElem?_append_left hjl,← List.getD_eq_getElem?_getD]
   have e2:(vals++[Value.slice (some ⟨b',0,none⟩) (px.length+1) c']).getD j undef=vals.getD j undef:=by rw [List.getD_eq_getElem?_getD,List.getElem?_append_left (by omega),← List.getD_eq_getElem?_getD]
   rw [e1,e2,fput_other f _ (fun k=>hx (by rw [← k];exact List.mem_map.2 ⟨S.getD j (0,[]),by rw [List.getD_eq_getElem?_getD,List.getElem?_eq_getElem hjl,Option.getD_some];exact List.getElem_mem hjl,rfl⟩))]
   exact hf j hjl
  ·have:j=S.length:=by simp at hj;omega
   subst this
   have e1:(S++[(nx,px++[(i:Int)])]).getD S.length (0,[])=(nx,px++[(i:Int)]):=by simp [List.getD_eq_getElem?_getD]
   have e2:(vals++[Value.slice (some ⟨b',0,none⟩) (px.length+1) c']).getD S.length undef=Value.slice (some ⟨b',0,none⟩) (px.length+1) c':=by simp [List.getD_eq_getElem?_getD,← hl]
   rw [e1,e2]
   exact fput_same f nx _
 ·intro k hk
  simp only [List.map_append,List.mem_append,not_or,List.map_cons,List.map_nil,List.mem_singleton] at hk
  rw [fput_other f _ hk.2]
  exact hn k hk.1
 ·rw [List.drop_append_of_le_length hd,List.map_append]
  exact hqO'
 ·intro k
  rcases hbf mb k with k | k
  ·exact hmb k
  ·omega
 ·intro k
  rcases hbf q k with k | k
  ·exact hqb k
  ·omega
 ·intro y hy
  obtain ⟨k1,k2,k3,k4⟩:=hX y hy
  refine ⟨fun k=>?_,k2,k3,by have:=Tw'.size;omega⟩
  rcases hbf y k with k | k
  ·exact k1 k
  ·omega
 ·intro j hj
  rcases Nat.lt_or_ge j S.length with hjl | hjl
  ·have e1:(S++[(nx,px++[(i:Int)])]).getD j (0,[])=S.getD j (0,[]):=by rw [List.getD_eq_getElem?_getD,List.getElem?_append_left hjl,← List.getD_eq_getElem?_getD]
   have e2:(vals++[Value.slice (some ⟨b',0,none⟩) (px.length+1) c']).getD j undef=vals.getD j undef:=by rw [List.getD_eq_getElem?_getD,List.getElem?_append_left (by omega),← List.getD_eq_getElem?_getD]
   rw [e1,e2]
   obtain ⟨pb2,g2,off2,c2,hv2,hO2,hpd2⟩:=hp j hjl
   refine ⟨pb2,g2,off2,c2,hv2,hO2.turn Tw' (fun y hy k=>?_),fun y hy=>⟨fun k=>?_,(hpd2 y hy).2⟩⟩
   ·obtain ⟨k1,k2,k3⟩:=hpd2 y hy
    simp only [List.mem_cons] at k
    rcases k with k | k | k
    ·exact k2 k
    ·exact k3 k
    ·exact k1 k
   ·have:=(hO2.lt hy).1
    rcases hbf y k with k | k
    ·exact (hpd2 y hy).1 k
    ·omega
  ·have:j=S.length:=by simp at hj;omega
   subst this
   have e1:(S++[(nx,px++[(i:Int)])]).getD S.length (0,[])=(nx,px++[(i:Int)]):=by simp [List.getD_eq_getElem?_getD]
   have e2:(vals++[Value.slice (some ⟨b',0,none⟩) (px.length+1) c']).getD S.length undef=Value.slice (some ⟨b',0,none⟩) (px.length+1) c':=by simp [List.getD_eq_getElem?_getD,← hl]
   rw [e1,e2]
   have Tu1':Turn u1 w' (mb::q::bs):=(hTu2.mono (fun y k=>by simp at k;simp [k])).trans (hTp.mono (fun y k=>by simp at k ⊢;exact .inr k))
   refine ⟨[b'],b',0,c',by simp,hOn.turn Tu1' (fun y hy k=>?_),fun y hy=>⟨fun k=>?_,?_,?_⟩⟩
   ·simp only [List.mem_singleton] at hy
    subst hy
    simp only [List.mem_cons] at k
    rcases k with k | k | k
    ·omega
    ·omega
    ·have:=hbsl _ k;omega
   ·simp only [List.mem_singleton] at hy
    subst hy
    rcases hbf _ k with k | k
    ·have:=hbsl _ k;omega
    ·omega
   ·simp only [List.mem_singleton] at hy
    omega
   ·simp only [List.mem_singleton] at hy
    omega
 ·intro y hy
  simp only [List.mem_cons] at hy
  rcases hy with rfl | rfl | hy
  ·exact hlm
  ·exact hlq
  ·exact (hqO.lt hy).2


def StepPost (w w':World) (lo mb q d:Nat) (S:List (Int × List Int)) (X:List Nat):Prop:=
 PMem w' lo mb q d S X∧∃ T,Turn w w' T∧(∀ y,y∈X→y ∉ T)∧∀ y,y∈T→lo≤y
section
variable {w w' w2:World} {lo mb q d:Nat} {S S':List (Int × List Int)} {X Y:List Nat}
theorem PMem.step0 (h:PMem w lo mb q d S X):StepPost w w lo mb q d S X:=⟨h,[],Turn.refl _ _,fun _ _=>by simp,fun _ hy=>by simp at hy⟩
theorem StepPost.trans {d':Nat} (h:StepPost w w' lo mb q d S X) (k:StepPost w' w2 lo mb q d' S' X):StepPost w w2 lo mb q d' S' X:=by
 obtain ⟨_,T,t1,t2,t3⟩:=h
 obtain ⟨k0,U,u1,u2,u3⟩:=k
 refine ⟨k0,T++U,(t1.mono (fun y hy=>List.mem_append_left _ hy)).trans (u1.mono (fun y hy=>List.mem_append_right _ hy)),fun y hy hc=>?_,fun y hy=>?_⟩
 ·rcases List.mem_append.1 hc with hc | hc
  ·exact t2 y hy hc
  ·exact u2 y hy hc
 ·rcases List.mem_append.1 hy with hc | hc
  ·exact t3 y hc
  ·exact u3 y hc
theorem PMem.sub (h:PMem w lo mb q d S X) (hs:∀ y,y∈Y→y∈X):PMem w lo mb q d S Y:=by
 obtain ⟨f,vals,qv,bs,m,hM,hm,hl,hf,hn,hQ,hqO,hmb,hqb,hmq,hlm,hlq,hX,hp⟩:=h
 exact ⟨f,vals,qv,bs,m,hM,hm,hl,hf,hn,hQ,hqO,hmb,hqb,hmq,hlm,hlq,fun y hy=>hX y (hs y hy),hp⟩
theorem StepPost.sub (h:StepPost w w' lo mb q d S X) (hs:∀ y,y∈Y→y∈X):StepPost w w' lo mb q d S Y:=⟨h.1.sub hs,by
 obtain ⟨_,T,t1,t2,t3⟩:=h
 exact ⟨T,t1,fun y hy=>t2 y (hs y hy),t3⟩⟩
theorem StepPost.blk (h:StepPost w w' lo mb q d S X) {g:Nat} {t:TypeId} {cs:Array Value} (hb:Blk w g t cs) (hg:g∈X):Blk w' g t cs:=by
 obtain ⟨_,T,t1,t2,t3⟩:=h
 exact hb.turn t1 (t2 g hg)
theorem StepPost.belowN (h:StepPost w w' lo mb q d S X) {B:Nat} (hB:B≤w.heap.size) (hlo:B≤lo):Below B w w':=by
 obtain ⟨_,T,t1,t2,t3⟩:=h
 exact t1.belowN hB (fun k hk=>Nat.le_trans hlo (t3 k hk))
theorem PMem.below (h:PMem w lo mb q d S X) (hT:Below w.heap.size w w'):PMem w' lo mb q d S X:=by
 obtain ⟨f,vals,qv,bs,m,hM,hm,hl,hf,hn,hQ,hqO,hmb,hqb,hmq,hlm,hlq,hX,hp⟩:=h
 have T:Turn w w' []:=Turn.of_below hT
 exact ⟨f,vals,qv,bs,m,hM.turn T (by simp),hm,hl,hf,hn,hQ.turn T (by simp),hqO.turn T (by simp),hmb,hqb,hmq,hlm,hlq,fun y hy=>⟨(hX y hy).1,(hX y hy).2.1,(hX y hy).2.2.1,Nat.lt_of_lt_of_le (hX y hy).2.2.2 hT.size⟩,fun j hj=>by
  obtain ⟨pb,g,off,c,h1,h2,h3⟩:=hp j hj
  exact ⟨pb,g,off,c,h1,h2.turn T (by simp),h3⟩⟩
theorem PMem.keep (h:PMem w lo mb q d S X) (y:Nat) (hy:w.heap.size≤y) (hy':y<w'.heap.size) (hT:Below w.heap.size w w'):PMem w' lo mb q d S (y::X):=by
 obtain ⟨f,vals,qv,bs,m,hM,hm,hl,hf,hn,hQ,hqO,hmb,hqb,hmq,hlm,hlq,hX,hp⟩:=h
 have T:Turn w w' []:=Turn.of_below hT
 have h1:=hM.lt
 have h2:=hQ.lt
 refine ⟨f,vals,qv,bs,m,hM.turn T (by simp),hm,hl,hf,hn,hQ.turn T (by simp),hqO.turn T (by simp),hmb,hqb,hmq,hlm,hlq,fun z hz=>?_,fun j hj=>?_⟩
 ·rcases List.mem_cons.1 hz with rfl | hz
  ·exact ⟨fun k=>by have:=(hqO.lt k).1;omega,by omega,by omega,hy'⟩
  ·exact ⟨(hX z hz).1,(hX z hz).2.1,(hX z hz).2.2.1,Nat.lt_of_lt_of_le (hX z hz).2.2.2 hT.size⟩
 ·obtain ⟨pb,g,off,c,h1,h2,h3⟩:=hp j hj
  exact ⟨pb,g,off,c,h1,h2.turn T (by simp),h3⟩
theorem PMem.apart (h:PMem w lo mb q d S X) {y:Nat} (hy:y∈X):y≠mb:=by
 obtain ⟨f,vals,qv,bs,m,hM,hm,hl,hf,hn,hQ,hqO,hmb,hqb,hmq,hlm,hlq,hX,hp⟩:=h
 exact (hX y hy).2.1
theorem PMem.out (h:PMem w lo mb q d S X) (hd:S.length≤d):∃ qv bs,Blk w q 168 #[qv]∧OwI w lo qv [] bs:=by
 obtain ⟨f,vals,qv,bs,m,hM,hm,hl,hf,hn,hQ,hqO,_⟩:=h
 rw [List.drop_of_length_le hd] at hqO
 exact ⟨qv,bs,hQ,hqO⟩
theorem PMem.take (h:PMem w lo mb q d S X) {x:Int} {px:List Int} (hd:S[d]? = some (x,px)):∃ qv bs,Blk w q 168 #[qv]∧OwI w lo qv (x::(S.drop (d+1)).map Prod.fst) bs∧q ∉ bs ∧
  ∀ w',GTakePost w w' lo q ((S.drop (d+1)).map Prod.fst) bs→PMem w' lo mb q (d+1) S X∧Turn w w' [q]∧(∀ y,y∈X→y ∉ [q])∧lo≤q:=by
 obtain ⟨f,vals,qv,bs,m,hM,hm,hl,hf,hn,hQ,hqO,hmb,hqb,hmq,hlm,hlq,hX,hp⟩:=h
 have e:S.drop d=(x,px)::S.drop (d+1):=by
  obtain ⟨h1,h2⟩:=List.getElem?_eq_some_iff.1 hd
  rw [List.drop_eq_getElem_cons h1,h2]
 rw [e] at hqO
 refine ⟨qv,bs,hQ,hqO,hqb,?_⟩
 rintro w' ⟨v',hQ',hO',hT⟩
 refine ⟨⟨f,vals,v',bs,m,hM.turn hT (by simpa using hmq),hm,hl,hf,hn,hQ',hO',hmb,hqb,hmq,hlm,hlq,fun y hy=>⟨(hX y hy).1,(hX y hy).2.1,(hX y hy).2.2.1,Nat.lt_of_lt_of_le (hX y hy).2.2.2 hT.size⟩,fun j hj=>?_⟩,hT,fun y hy k=>(hX y hy).2.2.1 (by simpa using k),hlq⟩
 obtain ⟨pb,g,off,c,h1,h2,h3⟩:=hp j hj
 exact ⟨pb,g,off,c,h1,h2.turn hT (fun y hy k=>(h3 y hy).2.2 (by simpa using k)),h3⟩
theorem PMem.start {u:World} {g:Nat} (hM:Mp u mb 1 (fput (fun _=>none) 1 (.slice (some ⟨g,0,none⟩) 0 0))) (hg:OwI u lo (.slice (some ⟨g,0,none⟩) 0 0) [] [g]) (hmq:mb≠q) (hgm:g≠mb) (hgq:g≠q) (hlm:lo≤mb) (hlq:lo≤q) (hqu:q<u.heap.size)
  (hX:∀ y,y∈X→y≠mb∧y≠q∧y<u.heap.size) (hput:PutPost u w lo q [1] []):PMem w lo mb q 0 [(1,[])] X:=by
 obtain ⟨v',bs',hQ,hO,hT,hN⟩:=hput
 have hml:=hM.lt
 have hgl:=(hg.lt (g:=g) (by simp)).1
 have hbs:∀ y,y∈bs'→u.heap.size≤y:=by
  rcases hN with rfl | h
  ·intro y hy;simp at hy
  ·exact h
 refine ⟨_,[.slice (some ⟨g,0,none⟩) 0 0],v',bs',1,hM.turn hT (by simpa using hmq),by simp,by simp,?_,?_,hQ,hO,fun k=>by have:=hbs _ k;omega,fun k=>by have:=hbs _ k;omega,hmq,hlm,hlq,?_,?_⟩
 ·intro j hj
  have:j=0:=by simp at hj;omega
  subst this
  exact fput_same _ _ _
 ·intro k hk
  exact fput_other _ _ (by simpa using hk)
 ·intro y hy
  obtain ⟨k1,k2,k3⟩:=hX y hy
  exact ⟨fun k=>by have:=hbs _ k;omega,k1,k2,Nat.lt_of_lt_of_le k3 hT.size⟩
 ·intro j hj
  have:j=0:=by simp at hj;omega
  subst this
  refine ⟨[g],g,0,0,rfl,hg.turn hT (by simpa using hgq),fun y hy=>?_⟩
  have:y=g:=by simpa using hy
  subst this
  exact ⟨fun k=>by have:=hbs _ k;omega,hgm,hgq⟩
end

attribute [local go_sem ↓] Go.wp_at_zero Go.wp_at_succ

theorem mul_bounds' {x k z:Int} (h:x*k=z) (hx:0≤x) (hx2:x≤64) (hk:0≤k) (hk2:k≤64):0≤z∧z≤4096:=by
 rw [← h]
 exact ⟨Int.mul_nonneg hx hk,Int.mul_le_mul hx2 hk2 hk (by omega)⟩
set_option maxHeartbeats 6400000 in
set_option maxRecDepth 100000 in
theorem gstep_walk (ba bp bm lo mb q d a i:Nat) (n x k:Int) (px:List Int) (S:List (Int × List Int)) (X:List Nat) (w:World) (hM:PMem w lo mb q d S X) (hd:d≤S.length) (hn64:S.length≤1000) (hlo:lo≤w.heap.size)
  (ha:S[a]? = some (x,px)) (hpl:px.length≤1000) (h4:4≤n) (h32:n≤32) (hx0:0≤x) (hx1:x<2*n) (hk0:1≤k) (hk1:k<2*n) (hAX:ba∈X) (hMX:bm∈X)
  (cA:w.cell? ⟨ba,0,none⟩=some (.int .i64 x)) (cP:w.cell? ⟨bp,0,none⟩=some (.int .i64 n)) (cM:w.cell? ⟨bm,0,none⟩=some (.map (some mb))) :
  Calls Tryz.prog 133 #[.int .i64 i,.int .i64 k,.pointer (some ⟨ba,0,none⟩),.pointer (some ⟨bp,0,none⟩),.pointer (some ⟨bm,0,none⟩),.pointer (some ⟨q,0,none⟩)] w fun e w'=>e = .returned (.tuple #[])∧StepPost w w' lo mb q d (bstep (2*n) x px S i k) X:=by
 obtain ⟨z,hz⟩:∃ z,x*k=z:=⟨_,rfl⟩
 have hzb:=mul_bounds' hz hx0 (by omega) (by omega) (by omega)
 obtain ⟨nx,hnx⟩:∃ nx,z % (2*n)=nx:=⟨_,rfl⟩
 have hnx0:0≤nx∧nx<64:=by rw [← hnx];exact ⟨Int.emod_nonneg _ (by omega),Int.lt_of_lt_of_le (Int.emod_lt_of_pos _ (by omega)) (by omega)⟩
 have HNX:Hid (x*k % (2*n)=nx):=Lib.hid (by rw [hz,hnx])
 by_cases hcon:nx∈S.map Prod.fst
 ·have HST:Hid (bstep (2*n) x px S i k=S):=Lib.hid (by unfold bstep;rw [HNX.out,if_pos (by simpa using hcon)])
  obtain ⟨p,hp,hp1⟩:=List.mem_map.1 hcon
  obtain ⟨j,hj,hj'⟩:=List.mem_iff_getElem.1 hp
  obtain ⟨p1,p2⟩:=p
  simp only at hp1
  subst hp1
  obtain ⟨g,off,c,bs,hr1,_,_⟩:=hM.known (a:=j) (x:=p1) (px:=p2) (by rw [List.getElem?_eq_getElem hj,hj']) (by omega) (by omega)
  have HM:=Lib.hid hM
  clear hM hcon hp hj' ha
  go_enter Tryz.func133,Tryz.ntmps133
  go_wp2
  refine bodyPost_end (results_none rfl _ _ _) rfl ?_
  rw [HST.out]
  exact ⟨rfl,HM.out,[],Turn.refl _ _,fun _ _=>by simp,fun _ hy=>by simp at hy⟩
 ·have HST:Hid (bstep (2*n) x px S i k=S++[(nx,px++[(i:Int)])]):=Lib.hid (by unfold bstep;rw [HNX.out,if_neg (by simpa using hcon)])
  obtain ⟨v0,hr0⟩:=hM.new hcon (by omega) (by omega)
  obtain ⟨g,off,c,b',c',u1,u2,qv,bs,hl1,hl2,hc1,hc2,hr,hu,hlk,hlk2,T1,T2,hQ,hO,hqb,hfin⟩:=hM.grow hd hn64 hlo ha hpl (by omega) (by omega) hcon (by omega) (by omega) i
  have hXa:=hM.apart (y:=ba) hAX
  have hXm:=hM.apart (y:=bm) hMX
  have cM2:u2.cell? ⟨bm,0,none⟩=some (.map (some mb)):=T2.cell cM (by simpa using hXm)
  have cA2:u2.cell? ⟨ba,0,none⟩=some (.int .i64 x):=T2.cell cA (by simpa using hXa)
  have hput:=qput_walk q lo qv ((S.drop d).map Prod.fst) bs nx u2 hQ hO (by have:=T2.size;omega) (by rw [List.length_map,List.length_drop];omega) hqb
  have HPUT:=Lib.hid hput
  have HFIN:=Lib.hid hfin
  obtain ⟨pl,hpl'⟩:∃ pl,px.length=pl:=⟨_,rfl⟩
  rw [hpl'] at hl2 hc1 hr hu hpl hlk hlk2
  have HS2:Hid (u2.cell? ⟨ba,0,none⟩=some (.int .i64 x)∧u2.cell? ⟨bm,0,none⟩=some (.map (some mb))∧(Instr.lookup 166 (.map (some mb)) (.int .i64 x) false).run Tryz.prog u2 = .ok (.slice (some ⟨g,off,none⟩) pl c) u2):=Lib.hid ⟨cA2,cM2,hlk2⟩
  have HS:Hid (∀ w',Turn w w' []→w'.cell? ⟨ba,0,none⟩=some (.int .i64 x)∧w'.cell? ⟨bm,0,none⟩=some (.map (some mb))∧(Instr.lookup 166 (.map (some mb)) (.int .i64 x) false).run Tryz.prog w' = .ok (.slice (some ⟨g,off,none⟩) pl c) w'):=
   Lib.hid (fun w' hT=>⟨hT.cell cA (by simp),hT.cell cM (by simp),hlk w' hT⟩)
  have HT1:=Lib.hid T1
  have hr:(Builtin.append_ #[106,106] 106 #[.slice (some ⟨g,off,none⟩) pl pl,.slice (some ⟨w.heap.size,0,none⟩) 1 1]).run Tryz.prog ((w.alloc (.cells #[.int .i64 i] 3)).drew) = .ok (.slice (some ⟨b',0,none⟩) (pl+1) c') u1:=hr
  have hc3:c≤9223372036854775807:=by unfold maxLen at hc2;omega
  have hpl0:(0:Int)≤(pl:Int):=Int.natCast_nonneg _
  have hplc:(pl:Int)≤(c:Int):=by omega
  clear hl1 hM hcon ha T1 T2 hQ hO hput hfin hpl' hc2 hlk hlk2 cA2 cM2 hl2
  rcases Nat.eq_zero_or_pos pl with rfl | hpos
  ·skip
   go_enter Tryz.func133,Tryz.ntmps133
   go_wp2
   go_region_held3 (fun w'=>w'.cell? ⟨ba,0,none⟩=some (.int .i64 x)∧w'.cell? ⟨bm,0,none⟩=some (.map (some mb))∧(Instr.lookup 166 (.map (some mb)) (.int .i64 x) false).run Tryz.prog w' = .ok (.slice (some ⟨g,off,none⟩) 0 c) w')
    (first | exact HS.out _ (Turn.refl w []).drew | exact HS.out _ ((Turn.refl w []).alloc _).drew | exact HS.out _ HT1.out | exact HS2.out)
    (refine step_append_run (by rfl) (.tmp 39) (.tmp 41) 106 (by rfl) _ _ (by rfl) (by rfl) _ _ hr ?_)
   all_goals (
    go_wp2_with fail
    (with_reducible refine Calls.mono HPUT.out ?_)
    rintro e w3 ⟨rfl,hp⟩
    obtain ⟨k1,k2,k3,k4⟩:=HFIN.out w3 hp
    have HM:=Lib.hid k1
    have HT:Hid (∃ T,Turn w w3 T∧(∀ y,y∈X→y ∉ T)∧∀ y,y∈T→lo≤y):=Lib.hid ⟨_,k2,k3,k4⟩
    clear k1 k2 k3 k4 hp
    go_wp2
    refine bodyPost_end (results_none rfl _ _ _) rfl ?_
    rw [HST.out]
    exact ⟨rfl,HM.out,HT.out⟩)
  ·have hpne:¬ pl=0:=by omega
   go_enter Tryz.func133,Tryz.ntmps133
   go_wp2
   go_region_held3 (fun w'=>w'.cell? ⟨ba,0,none⟩=some (.int .i64 x)∧w'.cell? ⟨bm,0,none⟩=some (.map (some mb))∧(Instr.lookup 166 (.map (some mb)) (.int .i64 x) false).run Tryz.prog w' = .ok (.slice (some ⟨g,off,none⟩) pl c) w')
    (first | exact HS.out _ (Turn.refl w []).drew | exact HS.out _ ((Turn.refl w []).alloc _).drew | exact HS.out _ HT1.out | exact HS2.out)
    (refine step_append_run (by rfl) (.tmp 39) (.tmp 41) 106 (by rfl) _ _ (by rfl) (by rfl) _ _ hr ?_)
   all_goals (
    go_wp2_with fail
    (with_reducible refine Calls.mono HPUT.out ?_)
    rintro e w3 ⟨rfl,hp⟩
    obtain ⟨k1,k2,k3,k4⟩:=HFIN.out w3 hp
    have HM:=Lib.hid k1
    have HT:Hid (∃ T,Turn w w3 T∧(∀ y,y∈X→y ∉ T)∧∀ y,y∈T→lo≤y):=Lib.hid ⟨_,k2,k3,k4⟩
    clear k1 k2 k3 k4 hp
    go_wp2
    refine bodyPost_end (results_none rfl _ _ _) rfl ?_
    rw [HST.out]
    exact ⟨rfl,HM.out,HT.out⟩)
end Go.Proofs.YtmjildbdkecolaaGreat
