/- Shortest paths of both sides, by data: from the elder walks.
A ciphertext under a wanted automorphism: both sides make the same.
The law GaloisReaches, given awake: by data.
awake of the layer's law: from the elder walk (GalK). -/
import Derived.Test.YtmjildbdkecolaaGreatPg44
import Derived.Test.YtmjildbdkecolaaGreatPg39
import Derived.Test.YtmjildbdkecolaaGreatPg42
import Derived.Test.YtmjildbdkecolaaGreatPg37
set_option linter.unusedSimpArgs false
set_option linter.unusedVariables false
set_option linter.unnecessarySimpa false
set_option linter.unusedSectionVars false
namespace Go.Proofs.YtmjildbdkecolaaGreat
open Go.RowKit
set_option maxRecDepth 20000
set_option maxHeartbeats 4000000
open Classical in
noncomputable def pathL (p:Par) (h:List Int) (want:Int):List Int × Int:=
 if PathOk p h want then match pathR p h want with | some l=>(l,0) | none=>([],4) else ([],2)
theorem den_path (p:PD) (hp:PFit p) (h:List Int) (want:Int) (f:FuncId) 
  (hf:∀ ca cc ao hc w,ParIn w p.par ca cc→RdI w ao h→Calls Tryz.prog f #[.agg (p.par.cells ca cc),.slice ao h.length hc,.int .i64 want] w fun e w'=>PathEnd w.heap.size p.par h want e w'∧Below w.heap.size w w') :
  Den Tryz.prog f [.agg (parL true p),listD .i64 true h,.val (.int .i64 want)] (.tup [listD .i64 false (pathL p.par h want).1,.val (.int .i64 (pathL p.par h want).2)]):=fun Zc w i args hZ hi hH ha=>by
 obtain ⟨hl,hr⟩:=ha
 match args,hl with
 | [a,b,c],_=>
  obtain ⟨ca,cc,rfl,hin⟩:=rep_par hp (hr 0 (by simp))
  have e3:=rep_val (hr 2 (by simp))
  change c=_ at e3
  subst e3
  have hb:∃ ao hc,b = .slice ao h.length hc∧RdI w ao h:=by
   have:=hr 1 (by simp)
   change Rep _ _ _ b (listD .i64 true h) at this
   cases this with
   | fz _ _ ao n cap m f vs h1 h2 hl ha hr=>
    refine ⟨ao,cap,rfl,fun k hk=>?_⟩
    obtain ⟨b,o,e1,_,_⟩:=ha k 0 hk (by omega)
    refine ⟨b,o,e1,fun j hj=>?_⟩
    obtain ⟨b',o',e1',_,e3,_⟩:=ha j 0 hj (by omega)
    rw [e1] at e1'
    cases e1'
    rw [show o+(j*1+0)=o+j by omega] at e3
    rw [e3]
    have:=rep_val (hr j 0 hj (by omega))
    rw [this]
  obtain ⟨ao,hc,rfl,hrd⟩:=hb
  refine (hf ca cc ao hc w hin hrd).mono fun e w' ⟨he,hb⟩=>?_
  have hi':∀ k,i k=none:=fun k=>hi k (by simp [Hs.keys])
  suffices h':∃ v,e = .returned v∧Rep (Z2 Zc (fun b=>w.heap.size≤b∧b<w'.heap.size)) w' i v (.tup [listD .i64 false (pathL p.par h want).1,.val (.int .i64 (pathL p.par h want).2)]) by
   obtain ⟨v,h1,h2⟩:=h'
   exact ⟨v,i,fun b=>w.heap.size≤b∧b<w'.heap.size,h1,Kept.of_below hb _,fun b hb=>hb,fun k hk=>by simp [Hs.keys] at hk,fun k _ _=>hi' k,fun k B b hm=>by simp at hm,fun k B hm=>by simp at hm,⟨fun k B hm=>by simp at hm,fun k k' B B' b hm=>by simp at hm⟩,h2⟩
  have nil:∀ x:Int,Rep (Z2 Zc (fun b=>w.heap.size≤b∧b<w'.heap.size)) w' i (.tuple #[.slice none 0 0,.int .i64 x]) (.tup [listD .i64 false [],.val (.int .i64 x)]):=fun x=>
   .tup _ [_,_] _ rfl (fun j hj=>match j,hj with
    | 0,_=>.fz _ false none 0 0 1 _ (fun _ _=>undef) (Nat.le_refl _) (by omega) (fun e he=>absurd he (Nat.not_lt_zero _)) (fun e c he=>absurd he (Nat.not_lt_zero _)) (fun e c he=>absurd he (Nat.not_lt_zero _))
    | 1,_=>.val _ _)
  rcases he with ⟨h1,rfl⟩ | ⟨h1,h2,rfl⟩ | ⟨l,ao',c',h1,h2,h3,rfl,h4,h5,h6,h7⟩
  ·refine ⟨_,rfl,?_⟩
   unfold pathL
   rw [if_neg h1]
   exact nil 2
  ·refine ⟨_,rfl,?_⟩
   unfold pathL
   rw [if_pos h1,h2]
   exact nil 4
  ·refine ⟨_,rfl,?_⟩
   unfold pathL
   rw [if_pos h1,h2]
   refine .tup _ [_,_] _ rfl (fun j hj=>match j,hj with
    | 0,_=>?_
    | 1,_=>.val _ _)
   refine .fz _ false ao' l.length c' 1 _ (fun k _=>.int .i64 (l.getD k 0)) h5 (by unfold maxLen at h6;omega) (fun _ _=>rfl) (fun k c hk hc'=>?_) (fun k c hk hc'=>?_)
   ·obtain rfl:c=0:=by omega
    obtain ⟨b,o,e1,e2⟩:=h4 k hk
    have e3:=e2 k hk
    refine ⟨b,o,e1,?_,by rw [show o+(k*1+0)=o+k by omega];exact e3,rfl⟩
    have:w.heap.size≤b:=h7 b o none e1
    have:b<w'.heap.size:=World.block_lt_of_cell? w' _ e3
    exact ⟨by omega,by omega⟩
   ·obtain rfl:c=0:=by omega
    exact .val _ _
section
variable (p:PD) (hp:PFit p) (h:List Int) (want:Int) (hlen:h.length≤200) (hh:∀ i,i<h.length → -9223372036854775808≤h.getD i 0∧h.getD i 0≤9223372036854775807) (hw1 : -9223372036854775808≤want) (hw2:want≤9223372036854775807)
include hp hlen hh hw1 hw2
theorem gpath_den:Den Tryz.prog 64 [.agg (parL true p),listD .i64 true h,.val (.int .i64 want)] (.tup [listD .i64 false (pathL p.par h want).1,.val (.int .i64 (pathL p.par h want).2)]):=
 den_path p hp h want _ fun ca cc ao hc w hin hrd=>gpath_walk p.par ca cc ao hc h want w hin hrd hlen hh hw1 hw2
theorem r19path_den:Den Tryz.prog 102 [.agg (parL true p),listD .i64 true h,.val (.int .i64 want)] (.tup [listD .i64 false (pathL p.par h want).1,.val (.int .i64 (pathL p.par h want).2)]):=
 den_path p hp h want _ fun ca cc ao hc w hin hrd=>r19path_walk p.par ca cc ao hc h want w hin hrd hlen hh hw1 hw2
end

def InQ (m:Nat) (q:List Int):Prop:=∀ i,i∈q→0≤i∧i<(m:Int)
theorem bround_in {m x:Int} {h px:List Int} {S:List (Int × List Int)} (hS:∀ s,s∈S→InQ h.length s.2) (hp:InQ h.length px):∀ j,j≤h.length→∀ s,s∈bround m h x px S j→InQ h.length s.2
 | 0,_=>hS
 | j+1,hj=>fun s hs=>by
  have ih:=bround_in (m:=m) (x:=x) hS hp j (by omega)
  unfold bround bstep at hs
  split at hs
  ·exact ih s hs
  ·rcases List.mem_append.1 hs with q | q
   ·exact ih s q
   ·obtain rfl:=List.mem_singleton.1 q
    intro i hi
    rcases List.mem_append.1 hi with q | q
    ·exact hp i q
    ·obtain rfl:=List.mem_singleton.1 q
     omega
theorem bfs_in {m want:Int} {h:List Int}:∀ (f a:Nat) (S:List (Int × List Int)) (px:List Int),(∀ s,s∈S→InQ h.length s.2)→bfs m h want f a S=some px→InQ h.length px
 | 0,_,_,_,_,e=>by cases e
 | f+1,a,S,px,hS,e=>by
  unfold bfs at e
  cases q:S[a]? with
  | none=>rw [q] at e;cases e
  | some s=>
   obtain ⟨x,p⟩:=s
   rw [q] at e
   have hp:=hS (x,p) (List.mem_of_getElem? q)
   simp only at e
   split at e
   ·cases e;exact hp
   ·exact bfs_in f (a+1) _ px (bround_in hS hp h.length (Nat.le_refl _)) e
theorem pathL_in (p:Par) (h:List Int) (want:Int):InQ h.length (pathL p h want).1:=by
 unfold pathL
 split
 ·cases q:pathR p h want with
  | none=>intro i hi;cases hi
  | some l=>exact bfs_in 65 0 _ l (fun s hs=>by obtain rfl:=List.mem_singleton.1 hs;intro i hi;cases hi) q
 ·intro i hi;cases hi
theorem bfs_len {m want:Int} {h:List Int}:∀ (f a:Nat) (S:List (Int × List Int)) (px:List Int),BLen S→bfs m h want f a S=some px→px.length<a+f
 | 0,_,_,_,_,e=>by cases e
 | f+1,a,S,px,hS,e=>by
  unfold bfs at e
  cases q:S[a]? with
  | none=>rw [q] at e;cases e
  | some s=>
   obtain ⟨x,p⟩:=s
   rw [q] at e
   simp only at e
   split at e
   ·cases e
    have:=hS a _ q
    simp only at this
    omega
   ·have:=bfs_len f (a+1) _ px (hS.round q h.length) e
    omega
theorem pathL_64 (p:Par) (h:List Int) (want:Int):(pathL p h want).1.length≤64:=by
 unfold pathL
 split
 ·cases q:pathR p h want with
  | none=>simp
  | some l=>
   have:=bfs_len 65 0 _ l BLen.start q
   show l.length≤64
   omega
 ·simp
theorem pathL_e (p:Par) (h:List Int) (want:Int):0≤(pathL p h want).2∧(pathL p h want).2≤4:=by
 unfold pathL
 split
 ·cases q:pathR p h want with
  | none=>simp
  | some l=>simp
 ·simp
theorem paths_den (p:PD) (hp:PFit p) (m:Nat) (hm:m≤200) (F:Nat→Int) (hF:∀ i,i<m → -1000≤F i∧F i≤1000) (want:Int) (hw : -9223372036854775808≤want∧want≤9223372036854775807) :
  ∃ (len:Nat) (e:Int) (w:Nat→Nat),len≤64∧(0≤e∧e≤4)∧(∀ k,k<len→w k<m)∧Den Tryz.prog 64 [.agg (parL true p),haveD true m F,.val (.int .i64 want)] (.tup [natsD false len w,.val (.int .i64 e)])∧Den Tryz.prog 102 [.agg (parL true p),haveD true m F,.val (.int .i64 want)] (.tup [natsD false len w,.val (.int .i64 e)]):=by
 obtain ⟨h,hh⟩:∃ h,(List.range m).map (fun k=> -(F k))=h:=⟨_,rfl⟩
 have hl:h.length=m:=by rw [← hh];simp
 have hg:∀ k,k<m→h.getD k 0 = -(F k):=fun k hk=>by rw [← hh,List.getD_eq_getElem?_getD];simp [hk]
 have hb:∀ i,i<h.length → -9223372036854775808≤h.getD i 0∧h.getD i 0≤9223372036854775807:=fun i hi=>by
  rw [hl] at hi
  rw [hg i hi]
  have:=hF i hi
  omega
 have d1:=gpath_den p hp h want (by omega) hb hw.1 hw.2
 have d2:=r19path_den p hp h want (by omega) hb hw.1 hw.2
 have hin:=pathL_in p.par h want
 have h64:=pathL_64 p.par h want
 have he:=pathL_e p.par h want
 generalize (pathL p.par h want).1=l at *
 generalize (pathL p.par h want).2=e at *
 have ca:CvtL [.agg (parL true p),haveD true m F,.val (.int .i64 want)] [.agg (parL true p),listD .i64 true h,.val (.int .i64 want)]:=.cons (.of_eq rfl) (.cons (by
  show Cvt (.fz true m 1 _) (.fz true h.length 1 _)
  rw [hl]
  refine Cvt.fz (.inl rfl) (fun k hk=>⟨rfl,fun c hc=>?_⟩)
  obtain rfl:c=0:=by omega
  refine .of_eq ?_
  show D.val (.int .i64 (-(F k)))=D.val (.int .i64 (h.getD k 0))
  rw [hg k hk]) (.cons (.of_eq rfl) .nil))
 have hw':∀ k,k<l.length→0≤l.getD k 0∧l.getD k 0<(m:Int):=fun k hk=>by
  have:=hin (l.getD k 0) (by rw [List.getD_eq_getElem?_getD,List.getElem?_eq_getElem hk];exact List.getElem_mem hk)
  rw [hl] at this
  exact this
 have cr:Cvt (.tup [listD .i64 false l,.val (.int .i64 e)]) (.tup [natsD false l.length (fun k=>(l.getD k 0).toNat),.val (.int .i64 e)]):=Cvt.tup (.cons (by
  refine Cvt.fz (.inl rfl) (fun k hk=>⟨rfl,fun c hc=>?_⟩)
  obtain rfl:c=0:=by omega
  refine .of_eq ?_
  show D.val (.int .i64 (l.getD k 0))=D.val (.int .i64 (((l.getD k 0).toNat:Nat):Int))
  rw [Int.toNat_of_nonneg (hw' k hk).1]) (.cons (.of_eq rfl) .nil))
 refine ⟨l.length,e,fun k=>(l.getD k 0).toNat,h64,he,fun k hk=>?_,(d1.arg ca).res cr,(d2.arg ca).res cr⟩
 have:=hw' k hk
 show (l.getD k 0).toNat<m
 omega
section
variable (p:PD) (lv n ex:Nat) (Ls kk:Nat→Nat) (KA KB:Nat→Nat→Nat→Nat→Nat) (w:Nat→Nat) (G:Nat→Nat→Nat→Nat)
noncomputable def reG:Nat→Nat→Nat→Nat→Nat
 | 0=>G
 | k+1=>tuR p lv n ex (Ls (w k)) (kk (w k)) (KA (w k)) (KB (w k)) (reG k)
theorem vc_tu (hL:Lv p n lv) (L0 k:Nat) (A B:Nat→Nat→Nat→Nat):Vc p lv (tuR p lv n ex L0 k A B G):=fun i=>by
 unfold tuR
 split
 ·exact vg_add hL _ _
 ·exact vg_dwn hL _ _ _ _
theorem vc_re (hL:Lv p n lv) (hG:Vc p lv G):∀ k,Vc p lv (reG p lv n ex Ls kk KA KB w G k)
 | 0=>hG
 | k+1=>vc_tu p lv n ex (reG p lv n ex Ls kk KA KB w G k) hL _ _ _ _
end
def AlikeT (f g:FuncId) (ds:List D):Prop:=∃ (l x k n:Nat) (e:Int) (G:Nat→Nat→Nat→Nat),(l≤1000∧k≤3∧n≤32)∧Den Tryz.prog f ds (.tup [.agg (ciV false l x k n G),.val (.int .i64 e)])∧Den Tryz.prog g ds (.tup [.agg (ciV true l x k n G),.val (.int .i64 e)])
theorem AlikeT.zero {f g:FuncId} {ds:List D} {e:Int} (h1:Den Tryz.prog f ds (.tup [.agg zeroC,.val (.int .i64 e)])) (h2:Den Tryz.prog g ds (.tup [.agg zeroC,.val (.int .i64 e)])):AlikeT f g ds:=
 ⟨0,0,0,0,e,fun _ _ _=>0,by omega,h1.res (Cvt.tup (.cons (Cvt.agg (.cons (.of_eq rfl) (.cons (.of_eq rfl) (.cons (Cvt.nil _ _ _) .nil)))) (.cons (.of_eq rfl) .nil))),h2.res (Cvt.tup (.cons (Cvt.agg (.cons (.of_eq rfl) (.cons (.of_eq rfl) (.cons (Cvt.nil _ _ _) .nil)))) (.cons (.of_eq rfl) .nil)))⟩
theorem alike_reach (p:PD) (hp:PFit p) (n:Nat) (hn:Good p.par→p.n=(n:Int)) (c:CG) (hd:Dflt c) (hs:smallC c=true) (m:Nat) (hm:m≤200) (F:Nat→Int) (Ls:Nat→Nat) (KA KB:Nat→Nat→Nat→Nat→Nat) (hKy:∀ i,i<m→Ky p n (Ls i) (F i) (KA i) (KB i)) (want:Int) (hw : -9223372036854775808≤want∧want≤9223372036854775807) :
  AlikeT 38 39 [.agg (parL true p),keysL true m n F Ls KA KB,.agg (ciD true c),.val (.int .i64 want)]:=by
 obtain ⟨s1,s2,s3⟩:=hd.small hs
 have htw:=gatwo_den p hp c s1 s2 s3
 cases q:(decide (c.k=2) && ciOk p c) with
 | false=>
  rw [q] at htw
  exact .zero (gaReach_no1 p n m (by omega) F Ls KA KB want c htw) (r19Reach_no1 p hp n m (by omega) F Ls KA KB want c s1 s2 s3 q)
 | true=>
  rw [q] at htw
  obtain ⟨lv,ex,hC,hG,hcc⟩:=twoC_of hp hn hd q
  have hL:=hC.lv
  have h32:=hL.n32
  have h4:=hL.n4
  have l2:=hL.l2
  have l24:=hL.vp.len2
  have hca:CvtL [.agg (parL true p),keysL true m n F Ls KA KB,.agg (ciD true c),.val (.int .i64 want)] [.agg (parL true p),keysL true m n F Ls KA KB,.agg (ciV true lv ex 2 n (partG c)),.val (.int .i64 want)]:=.cons (.of_eq rfl) (.cons (.of_eq rfl) (.cons hcc (.cons (.of_eq rfl) .nil)))
  have hb:∀ i,i<m→kT p n (F i) (Ls i) (KA i) (KB i)=true → -1000≤F i∧F i≤1000:=fun i hi ht=>by
   obtain ⟨k,hk,h1,h2,_⟩:=(hKy i hi).k ht
   omega
  rcases first_false (fun i=>kT p n (F i) (Ls i) (KA i) (KB i)) m with hT | ⟨j,hj,hj0,hj1⟩
  ·have hF:∀ i,i<m → -1000≤F i∧F i≤1000:=fun i hi=>hb i hi (hT i hi)
   obtain ⟨len,e,w,hlen,he,hwm,d1,d2⟩:=paths_den p hp m hm F hF want hw
   have t1:∀ i,i<m→Den Tryz.prog 69 [.agg (parL true p),.agg (keyV true (F i) (Ls i) n (KA i) (KB i))] (.val (.bool true)):=fun i hi=>by
    have:=(hKy i hi).turn hp
    rw [hT i hi] at this
    exact this
   have t2:∀ i,i<m→Den Tryz.prog 66 [.agg (parL true p),.agg (keyV true (F i) (Ls i) n (KA i) (KB i))] (.val (.bool true)):=fun i hi=>by
    have:=(hKy i hi).turn19 hp
    rw [hT i hi] at this
    exact this
   by_cases e0:e=0
   ·have hkk:∃ kk:Nat→Nat,∀ j,j<m → -(F j)=(kk j:Int)∧1≤kk j∧kk j<2*n∧kk j % 2=1:=by
     refine ⟨fun j=>(-(F j)).toNat,fun j hj=>?_⟩
     obtain ⟨k,hk⟩:=(hKy j hj).k (hT j hj)
     have:(-(F j)).toNat=k:=by omega
     simp only [this]
     exact hk
    obtain ⟨kk,hkk⟩:=hkk
    have hv:=vc_re p lv n ex Ls kk KA KB w (partG c) hL hG
    have g1:=gaReach_ok p n m (by omega) F Ls KA KB want t1 hF len hlen e w d1 lv ex hC (partG c) hG (gatwoV_den p n lv ex hC (partG c) hG) e0 hwm (reG p lv n ex Ls kk KA KB w (partG c)) rfl (fun k hk=>by
     have hi:=hwm k hk
     have g2:=gaSeveral_kv p n lv ex 1 hC (fun _=>F (w k)) (fun _=>Ls (w k)) (fun _=>KA (w k)) (fun _=>KB (w k)) (reG p lv n ex Ls kk KA KB w (partG c) k) (hv k) (fun _=>kk (w k)) (by omega) (fun _ _=>hKy _ hi) (fun _ _=>hT _ hi) (fun _ _=>hkk _ hi)
     exact gaApply_ok p n (fun _=>F (w k)) (fun _=>Ls (w k)) (fun _=>KA (w k)) (fun _=>KB (w k)) (cgV lv ex 2 n (reG p lv n ex Ls kk KA KB w (partG c) k)) lv ex 2 n _ g2)
    have g3:=r19Reach_ok p n m (by omega) F Ls KA KB want lv ex hC (partG c) hG t2 hF len hlen e w d2 e0 hwm (reG p lv n ex Ls kk KA KB w (partG c)) rfl (fun k hk=>by
     have hi:=hwm k hk
     exact r19Apply_kv p n lv ex hC _ (hv k) (Ls (w k)) (F (w k)) (KA (w k)) (KB (w k)) (hKy _ hi) (hT _ hi) (kk (w k)) (hkk _ hi).1 (hkk _ hi).2.1 (hkk _ hi).2.2.1 (hkk _ hi).2.2.2)
    exact ⟨lv,ex,2,n,0,_,by omega,g1.arg hca,g3.arg hca⟩
   ·exact .zero (gaReach_no3 p n m (by omega) F Ls KA KB want t1 hF len hlen e w d1 c htw e0) ((r19Reach_no3 p n m (by omega) F Ls KA KB want lv ex hC (partG c) hG t2 hF len hlen e w d2 e0).arg hca)
  ·exact .zero (gaReach_no2 p n m (by omega) F Ls KA KB want c htw (fun i=>kT p n (F i) (Ls i) (KA i) (KB i)) (fun i hi=>(hKy i hi).turn hp) j hj hj0 hj1 (fun i hi=>hb i (by omega) (hj1 i hi)))
    ((r19Reach_no2 p n m (by omega) F Ls KA KB want lv ex hC (partG c) hG (fun i=>kT p n (F i) (Ls i) (KA i) (KB i)) (fun i hi=>(hKy i hi).turn19 hp) j hj hj0 hj1 (fun i hi=>hb i (by omega) (hj1 i hi))).arg hca)

instance ti76:TI Tryz.prog 76 Tryz.t76 Tryz.t75.desc:=⟨by kernel_rfl,by kernel_rfl⟩
instance ft76_0:FT Tryz.prog 76 0 0:=FT.of ti76 rfl ti54 rfl rfl
instance ft76_1:FT Tryz.prog 76 1 1:=FT.of ti76 rfl ti3 rfl rfl
instance fi8:FI Tryz.prog 8 Tryz.f8:=⟨Tryz.func8,Tryz.call8⟩
abbrev wishL (o:Bool) (m:Nat) (K:Nat→Int) (O:Nat→Bool) (S:Nat→ByteArray) (want:Int):List D:=[turnsL o m K O S,.val (.int .i64 want)]
section
variable (p:PD) (ns:Nat) (x:Nat→Int) (c:CG) (m n:Nat) (K:Nat→Int) (O:Nat→Bool) (S:Nat→ByteArray) (want:Int) (F:Nat→Int) (Ls:Nat→Nat) (KA KB:Nat→Nat→Nat→Nat→Nat) (haw:Den Tryz.prog 21 [] (.val (.bool true)))
include haw
theorem gaReaches_no1 (hk:Den Tryz.prog 20 [.agg (parL true p),.agg (scL true ns x),turnsL true m K O S] (.tup [.val (.slice none 0 0),.val (.bool false)])) :
  Den Tryz.prog 8 [.agg (ownL true p ns x),.agg (ciD true c),.agg (wishL true m K O S want)] (.val (.bool true)):=by
 refine den_intro (fn:=Tryz.f8) rfl rfl rfl rfl rfl ?_
 refine go ?_
 refine r_call hk ?_
 refine go ?_
 refine r_call haw ?_
 refine go ?_
 refine fin ?_
 exact cv
theorem gaReaches_no2 (hlg:Den Tryz.prog 16 [.agg (ciD true c)] (.val (.bool true)))
  (hk:Den Tryz.prog 20 [.agg (parL true p),.agg (scL true ns x),turnsL true m K O S] (.tup [keysL false m n F Ls KA KB,.val (.bool true)])) :
  Den Tryz.prog 8 [.agg (ownL true p ns x),.agg (ciD true c),.agg (wishL true m K O S want)] (.val (.bool true)):=by
 refine den_intro (fn:=Tryz.f8) rfl rfl rfl rfl rfl ?_
 refine go ?_
 refine r_call hk ?_
 refine go ?_
 refine g_callM (hl:=fun hb=>r_call hlg (run_fin rfl)) (h:=?_)
 refine go ?_
 refine c_ifB (fun q=>?_) (fun q=>?_)
 ·refine go ?_
  refine r_call haw ?_
  refine go ?_
  refine fin ?_
  exact cv
 ·exfalso
  simp at q
theorem gaReaches_gen (hlg:Den Tryz.prog 16 [.agg (ciD true c)] (.val (.bool false)))
  (hk:Den Tryz.prog 20 [.agg (parL true p),.agg (scL true ns x),turnsL true m K O S] (.tup [keysL false m n F Ls KA KB,.val (.bool true)]))
  (l y k n2:Nat) (e:Int) (G:Nat→Nat→Nat→Nat) (hb:l≤1000∧k≤3∧n2≤32)
  (h1:Den Tryz.prog 38 [.agg (parL true p),keysL true m n F Ls KA KB,.agg (ciD true c),.val (.int .i64 want)] (.tup [.agg (ciV false l y k n2 G),.val (.int .i64 e)]))
  (h2:Den Tryz.prog 39 [.agg (parL true p),keysL true m n F Ls KA KB,.agg (ciD true c),.val (.int .i64 want)] (.tup [.agg (ciV true l y k n2 G),.val (.int .i64 e)])) :
  Den Tryz.prog 8 [.agg (ownL true p ns x),.agg (ciD true c),.agg (wishL true m K O S want)] (.val (.bool true)):=by
 refine den_intro (fn:=Tryz.f8) rfl rfl rfl rfl rfl ?_
 refine go ?_
 refine r_call hk ?_
 refine go ?_
 refine g_callM (hl:=fun hb=>r_call hlg (run_fin rfl)) (h:=?_)
 refine go ?_
 refine c_ifB (fun q=>?_) (fun q=>?_)
 ·exfalso
  simp at q
 clear q
 refine go ?_
 refine r_call h1 ?_
 refine go ?_
 refine r_callO h2 ?_
 refine go ?_
 refine r_call (r14SameV_den l y k n2 hb.1 hb.2.1 hb.2.2 G G (fun _ _ _ _ _ _=>rfl)) ?_
 refine go ?_
 refine g_callM (hl:=fun hb=>r_call haw (run_fin rfl)) (h:=?_)
 refine go ?_
 refine fin ?_
 rw [decide_eq_true (show e=e from rfl)]
 exact CvV.id rfl
end
theorem gaReaches_den (p:PD) (hp:PFit p) (ns:Nat) (hns:ns≤9223372036854775807) (hcl:p.chain.length≤9223372036854775807) (x:Nat→Int) (hx:∀ j, -128≤x j∧x j≤127) (hx0:∀ j,ns≤j→x j=0) (c:CG) (hd:Dflt c) (m:Nat) (hm:m≤9223372036854775807) (K:Nat→Int) (O:Nat→Bool) (S:Nat→ByteArray) (hK:∀ i, -9223372036854775808≤K i∧K i≤9223372036854775807) (hS:∀ i,(S i).size≤9223372036854775807) (want:Int) (hw : -9223372036854775808≤want∧want≤9223372036854775807) (haw:Den Tryz.prog 21 [] (.val (.bool true))) :
  Den Tryz.prog 8 [.agg (ownL true p ns x),.agg (ciD true c),.agg (wishL true m K O S want)] (.val (.bool true)):=by
 obtain ⟨n,hn32,hn⟩:=n_of p
 by_cases h:m≤6∧ns≤200∧p.chain.length≤3
 ·rcases first_false (fun i=>decide ((S i).size≤60000)) m with h4 | ⟨j,hj,hj0,hj1⟩
  ·obtain ⟨F,Ls,KA,KB,hKy,hk⟩:=law19keys_ok p hp n hn32 hn ns x hx hx0 m K O S hK h.1 h.2.1 h.2.2 (fun i hi=>by simpa using h4 i hi)
   have hlg:=large14_den c hd.k hd.m hd.l
   cases hs:smallC c with
   | false=>
    rw [hs] at hlg
    exact gaReaches_no2 p ns x c m n K O S want F Ls KA KB haw hlg hk
   | true=>
    rw [hs] at hlg
    obtain ⟨l,y,k,n2,e,G,hb,h1,h2⟩:=alike_reach p hp n hn c hd hs m (by omega) F Ls KA KB hKy want hw
    exact gaReaches_gen p ns x c m n K O S want F Ls KA KB haw hlg hk l y k n2 e G hb h1 h2
  ·exact gaReaches_no1 p ns x c m K O S want haw (law19keys_no2 p hp n hn32 hn ns x hx hx0 m K O S hK h.1 h.2.1 h.2.2 j hj (fun i hi=>by simpa using hj1 i hi) (by simpa using hj0) (hS j))
 ·exact gaReaches_no1 p ns x c m K O S want haw (law19keys_no1 p ns x m K O S hm hns hcl h)

theorem awake19_den:Den Tryz.prog 21 [] (.val (.bool true)):=den_elder0 awake19_walk
end Go.Proofs.YtmjildbdkecolaaGreat
