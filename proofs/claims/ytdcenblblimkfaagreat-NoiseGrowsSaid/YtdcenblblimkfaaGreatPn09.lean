/- append and copy. No walk.
A region, whatever its order. No walk.
A region, whatever its order: from the trace to the machine. No walk. -/
import Derived.Test.YtdcenblblimkfaaGreatPn04
import Derived.OrdersHeld
import Derived.RegionCalls
set_option linter.unusedSimpArgs false
set_option linter.unusedVariables false
set_option linter.unnecessarySimpa false
set_option linter.unusedSectionVars false
namespace Go.Proofs.YtdcenblblimkfaaGreat
open Go.RowKit

inductive SrcIs (H:Nat→Option Box):D→Nat→Nat→(Nat→List D)→List Nat→Prop where
 | fz (q:Bool) (j m:Nat) (g:Nat→List D):SrcIs H (.fz q j m g) j m g []
 | sl {k n j m:Nat} {g:Nat→List D} (h:isArr (H k) n m g) (hj:j≤n):SrcIs H (.sl k m j) j m g [k]
 | nil (m:Nat) (g:Nat→List D):SrcIs H (.val (.slice none 0 0)) 0 m g []
section
variable {P:Program} {N:Nat} {o:Oper} {E E1:Nat→D} {H H1:Nat→Option Box} {S:Cx} {Z:Zn} {i:Nm} {a:Act} {w w':World}
theorem SrcIs.agree {d:D} {j m:Nat} {g:Nat→List D} {ks:List Nat} (h:SrcIs H d j m g ks) (hk:∀ k,k∈ks→H1 k=H k):SrcIs H1 d j m g ks:=by
 cases h with
 | fz q=>exact .fz q _ _ _
 | sl h hj=>exact .sl (by rw [hk _ (by simp)];exact h) hj
 | nil=>exact .nil _ _
theorem SrcIs.elems (hF:Fits S E H Z i a w) {d:D} {j m:Nat} {g:Nat→List D} {ks:List Nat} (h:SrcIs H d j m g ks) {v:Value} (hv:Rep Z w i v d):∃ (ao:Option Addr) (cap:Nat) (vs:Nat→Nat→Value),v = .slice ao j cap∧j≤cap∧(∀ e,e<j→(g e).length=m)∧∀ e c,e<j→c<m→∃ b p,ao=some ⟨b,p,none⟩∧w.cell? ⟨b,p+(e*m+c),none⟩=some (vs e c)∧(vs e c).oneCell'=true∧Rep Z w noN (vs e c) (dl (g e) c):=by
 cases h with
 | fz q=>
  cases hv with | fz _ _ ao _ cap _ _ vs h1 h2 hl ha hr=>
  exact ⟨ao,cap,vs,rfl,h1,hl,fun e c he hc=>by obtain ⟨b,p,r1,_,r3,r4⟩:=ha e c he hc;exact ⟨b,p,r1,r3,r4,hr e c he hc⟩⟩
 | @sl k n _ _ _ h hj=>
  cases hv with
  | @sl _ b _ _ _ cap hib h1 h2=>
   obtain ⟨t,cp,hA⟩:=hF.arr h hib
   have hA2:=hA
   obtain ⟨cs,_,_,_,hfl,_⟩:=hA2
   refine ⟨_,cap.c,fun e c=>(w.cell? ⟨b,e*m+c,none⟩).getD undef,rfl,h1,fun e he=>hfl e (by omega),fun e c he hc=>?_⟩
   obtain ⟨u,u1,u2,u3⟩:=hA.cellAt (e:=e) (c:=c) (by omega) hc
   refine ⟨b,0,rfl,?_,?_,?_⟩
   ·simp [u1]
   ·simpa [u1] using u2
   ·simpa [u1] using u3
  | sl0=>exact ⟨none,0,fun _ _=>undef,rfl,Nat.le_refl _,fun e he=>by omega,fun e c he=>by omega⟩
 | nil=>cases hv;exact ⟨none,0,fun _ _=>undef,rfl,Nat.le_refl _,fun e he=>by omega,fun e c he=>by omega⟩
def rowL (j m:Nat) (vs:Nat→Nat→Value):List Value:=(List.range (j*m)).map fun q=>vs (q / m) (q % m)
theorem rowL_len (j m:Nat) (vs:Nat→Nat→Value):(rowL j m vs).length=j*m:=by simp [rowL]
theorem rowL_at {j m e c:Nat} {vs:Nat→Nat→Value} (he:e<j) (hc:c<m):(rowL j m vs)[e*m+c]? = some (vs e c):=by
 have hlt:e*m+c<j*m:=by
  have:(e+1)*m≤j*m:=Nat.mul_le_mul_right _ (by omega)
  rw [Nat.add_mul] at this;omega
 rw [rowL,List.getElem?_map,List.getElem?_range hlt]
 have h1:(e*m+c) / m=e:=by rw [Nat.mul_comm,Nat.mul_add_div (by omega),Nat.div_eq_of_lt hc];omega
 have h2:(e*m+c) % m=c:=by rw [Nat.mul_comm,Nat.mul_add_mod,Nat.mod_eq_of_lt hc]
 simp [h1,h2]
theorem rowL_ind {j m q:Nat} (hq:q<j*m):∃ e c,e<j∧c<m∧q=e*m+c:=by
 have hm:0<m:=by rcases Nat.eq_zero_or_pos m with h | h;subst h;simp at hq;exact h
 exact ⟨q / m,q % m,Nat.div_lt_of_lt_mul (by rw [Nat.mul_comm];exact hq),Nat.mod_lt _ hm,by rw [Nat.mul_comm];exact (Nat.div_add_mod q m).symm⟩
theorem append_core {t ty el:TypeId} {info info':TypeInfo} {d':TypeDesc} {z:Value} {m:Nat} [hT:TI P t info (.slice el)] [hT':TI P el info' d'] (hz:info'.zero=some z) (hm:info'.size=m) (hzs:z.cells.size=m) (hms:0<m)
  (v:Value) (n:Nat) (xs:List Value) (hown:w.ownsRow 0 el m v n xs) (ao:Option Addr) (j cap:Nat) (vs:Nat→Nat→Value) (hne:j=0∨∃ b p,ao=some ⟨b,p,none⟩) (hc:∀ e c,e<j→c<m→∃ b p,ao=some ⟨b,p,none⟩∧w.cell? ⟨b,p+(e*m+c),none⟩=some (vs e c)∧(vs e c).oneCell'=true)
  (hb:(n+j)*info'.bytes≤140737488355328) (h63:n+j≤9223372036854775807) :
  ∃ v' w',(Builtin.append_ #[t,t] ty #[v,.slice ao j cap]).run P w = .ok v' w'∧(w'.os=w.os∧w'.tape=w.tape∧w'.output=w.output∧w.heap.size≤w'.heap.size)∧(∀ b,b<w.heap.size→some b≠v.ownBlock→w'.heap[b]? = w.heap[b]?) ∧
   w'.ownsRow 0 el m v' (n+j) (xs++rowL j m vs)∧(v'.ownBlock=v.ownBlock∨v'.ownBlock=some w.heap.size):=by
 cases ao with
 | none=>
  obtain rfl:j=0:=by rcases hne with h | ⟨b,p,h⟩;exact h;cases h
  have e0:rowL 0 m vs=[]:=by simp [rowL]
  refine ⟨v,w,?_,⟨rfl,rfl,rfl,Nat.le_refl _⟩,fun _ _ _=>rfl,by rw [e0,List.append_nil];exact hown,.inl rfl⟩
  have s1:(sizeOf el).run P w = .ok m w:=by simp [sizeOf,typeInfo,hT'.info,Result.andThen,hm]
  rcases hown.2 with ⟨rfl,rfl⟩ | ⟨g,cap,cur,rfl,_,_,h3,_⟩
  ·simp [Builtin.append_,run_underlying hT.under,s1,Builtin.lenOf,Builtin.firstCells]
  ·simp [Builtin.append_,run_underlying hT.under,s1,Builtin.lenOf,Builtin.firstCells,h3,storeCells]
 | some ad=>
  have hnews:∀ q u,(rowL j m vs)[q]? = some u→w.cell? (ad.add q)=some u:=fun q u hq=>by
   have hlt:q<j*m:=by have:=(List.getElem?_eq_some_iff.1 hq).1;rwa [rowL_len] at this
   obtain ⟨e,c,he,hc',rfl⟩:=rowL_ind hlt
   rw [rowL_at he hc'] at hq
   cases hq
   obtain ⟨b,p,e1,e2,_⟩:=hc e c he hc'
   cases e1
   rw [addr_add]
   exact e2
  have h1:∀ u∈rowL j m vs,u.oneCell'=true:=fun u hu=>by
   obtain ⟨q,hq,rfl⟩:=List.mem_map.1 hu
   obtain ⟨e,c,he,hc',rfl⟩:=rowL_ind (List.mem_range.1 hq)
   have e1:(e*m+c) / m=e:=by rw [Nat.mul_comm,Nat.mul_add_div (by omega),Nat.div_eq_of_lt hc'];omega
   have e2:(e*m+c) % m=c:=by rw [Nat.mul_comm,Nat.mul_add_mod,Nat.mod_eq_of_lt hc']
   rw [e1,e2]
   obtain ⟨b,p,_,_,e3⟩:=hc e c he hc'
   exact e3
  obtain ⟨v',w',r1,r2,r3,_,r5⟩:=run_append_own_at (P:=P) w 0 t ty el info' z m info'.bytes hT.under hT'.info hz hm rfl hzs hms v n xs hown ad j cap (rowL j m vs) (rowL_len _ _ _) hnews h1 (by unfold maxLen;omega) hb (Nat.zero_le _)
  exact ⟨v',w',r1,⟨r3.os,r3.tape,r3.output,r3.size⟩,r3.block,r2,r5⟩
theorem run_appendOp {x y:Operand} {t:TypeId} {v':Value} (ho:o.op = .call { callee:=.builtin .append,args:=#[x,y],argTypes:=#[t,t] }) (h:(Builtin.append_ #[t,t] o.type #[a.eval x,a.eval y]).run P w = .ok v' w'):(execOp a.eval o).run P w = .ok (.value v') w':=by
 simp only [execOp,ho,resolve,invoke,builtin]
 simp [h,Result.andThen]
theorem blt_no {a b:Nat} (h:Nat.blt a b=false):¬ a<b:=fun q=>by rw [← Nat.blt_eq,h] at q;cases q
def appF (n:Nat) (f g:Nat→List D) (e:Nat):List D:=match Nat.blt e n with | true=>f e | false=>g (e - n)
theorem own_of_row {v':Value} {n m j:Nat} {el:TypeId} {f g:Nat→List D} {xs:List Value} {vs:Nat→Nat→Value} {k':Nat} (hm:0<m) (h:w'.ownsRow 0 el m v' (n+j) (xs++rowL j m vs)) (hx:∀ e c,e<n→c<m→∃ u,xs[e*m+c]? = some u∧u.oneCell'=true∧Rep Z w' noN u (dl (f e) c)) (hxl:xs.length=n*m) (hfl:∀ e,e<n→(f e).length=m) (hg:∀ e c,e<j→c<m→(vs e c).oneCell'=true∧Rep Z w' noN (vs e c) (dl (g e) c)) (hgl:∀ e,e<j→(g e).length=m) :
  ∃ ik,(∀ i':Nm,i' k'=some ik→Rep Z w' i' v' (.sl k' m (n+j)))∧((ik=none∧n+j=0∧v'.ownBlock=none)∨∃ b cap,ik=some (b,cap)∧v'.ownBlock=some b∧ArrAt Z w' b cap.c el (n+j) m (appF n f g)):=by
 rcases h.2 with ⟨rfl,h0⟩ | ⟨b,cap,cur,rfl,_,hB,hnc,hml,hcs,htk⟩
 ·refine ⟨none,fun i' hi'=>?_,.inl ⟨rfl,h0,rfl⟩⟩
  rw [h0];exact .sl0 _ _ _ hi'
 ·refine ⟨some (b,(cap:Cp)),fun i' hi'=>.sl _ _ _ _ _ hi' hnc (by show cap≤_;unfold maxLen at hml;omega),.inr ⟨b,(cap:Cp),rfl,rfl,cur,hB,hcs,hnc,fun e he=>?_,fun e c he hc=>?_⟩⟩
  ·unfold appF
   cases q:Nat.blt e n with
   | true=>exact hfl e (by simpa using q)
   | false=>exact hgl _ (by have:=blt_no q;omega)
  ·have hlt:e*m+c<(n+j)*m:=by
    have:(e+1)*m≤(n+j)*m:=Nat.mul_le_mul_right _ (by omega)
    rw [Nat.add_mul] at this;omega
   have e1:cur.toList[e*m+c]? = (xs++rowL j m vs)[e*m+c]?:=by rw [← htk,List.getElem?_take,if_pos hlt]
   have e2:cur.getD (e*m+c) undef=((xs++rowL j m vs)[e*m+c]?).getD undef:=by
    rw [← e1,Array.getElem?_toList,Array.getD_eq_getD_getElem?]
   rw [e2]
   unfold appF
   cases q:Nat.blt e n with
   | true=>
    have q':e<n:=by simpa using q
    have:(e+1)*m≤n*m:=Nat.mul_le_mul_right _ (by omega)
    rw [Nat.add_mul] at this
    rw [List.getElem?_append_left (by omega)]
    obtain ⟨u,u1,u2,u3⟩:=hx e c q' hc
    rw [u1];exact ⟨u2,u3⟩
   | false=>
    have q':=blt_no q
    have hge:n*m≤e*m:=Nat.mul_le_mul_right _ (by omega)
    have hsub:e*m+c - n*m=(e - n)*m+c:=by rw [Nat.sub_mul];omega
    rw [List.getElem?_append_right (by omega),hxl,hsub,rowL_at (by omega) hc]
    exact hg (e - n) c (by omega) hc
theorem SrcIs.hne {ao:Option Addr} {j m:Nat} {vs:Nat→Nat→Value} (hm:0<m) (h:∀ e c,e<j→c<m→∃ b p,ao=some ⟨b,p,none⟩∧w.cell? ⟨b,p+(e*m+c),none⟩=some (vs e c)∧(vs e c).oneCell'=true):j=0∨∃ b p,ao=some ⟨b,p,none⟩:=by
 rcases Nat.eq_zero_or_pos j with q | q
 ·exact .inl q
 ·obtain ⟨b,p,e,_⟩:=h 0 0 q hm;exact .inr ⟨b,p,e⟩
def goneL:Option Nat→List (Nat × Option Box)
 | some x=>[(x,some .gone)]
 | none=>[]
theorem Fits.appended (hF : Fits S E H Z i a w) {k : Option Nat} {k' : Nat} {el : TypeId} {n m : Nat} {f : Nat → List D} {v v' : Value} {ik : Option (Nat × Cp)} (hk' : H k' = none) (h100 : 1000 ≤ k')
    (hk : ∀ x, k = some x → 1000 ≤ x ∧ ∃ t nb fb, H x = some (.arr t nb m fb)) (hv : ∀ b, v.ownBlock = some b → ∃ x cap, k = some x ∧ i x = some (some (b, cap)))
    (hos : w'.os = w.os ∧ w'.tape = w.tape ∧ w'.output = w.output ∧ w.heap.size ≤ w'.heap.size) (hb : ∀ b, b < w.heap.size → some b ≠ v.ownBlock → w'.heap[b]? = w.heap[b]?) (hvb : v'.ownBlock = v.ownBlock ∨ v'.ownBlock = some w.heap.size)
    (hA : (ik = none ∧ n = 0 ∧ v'.ownBlock = none) ∨ ∃ b cap, ik = some (b, cap) ∧ v'.ownBlock = some b ∧ ArrAt Z w' b cap.c el n m f) :
    Fits S E (updH H ((k', some (.arr el n m f)) :: goneL k)) Z (fun x => if x = k' then some ik else i x) a w' := by
  have hsz := hF.kept.size
  have hkk : ∀ x, k = some x → x ≠ k' := fun x hx e => by obtain ⟨_, t, nb, fb, h⟩ := hk x hx; rw [e, hk'] at h; cases h
  obtain ⟨H2, hH2⟩ : ∃ H2, updH H ((k', some (.arr el n m f)) :: goneL k) = H2 := ⟨_, rfl⟩
  have hHk : H2 k' = some (.arr el n m f) := by rw [← hH2]; simp [updH]
  have hHx : ∀ x, k = some x → H2 x = some .gone := fun x hx => by
    rw [← hH2, hx]; simp only [updH, goneL]; rw [if_neg (Ne.symm (hkk x hx))]; simp
  have hHo : ∀ x, x ≠ k' → k ≠ some x → H2 x = H x := fun x h1 h2 => by
    rw [← hH2]
    simp only [updH]; rw [if_neg (Ne.symm h1)]
    cases k with
    | none => rfl
    | some y => simp only [updH, goneL]; exact if_neg (fun e => h2 (by rw [e]))
  rw [hH2]
  -- the block of the new slice
  have hblk : ∀ b, v'.ownBlock = some b → (∃ x cap, k = some x ∧ i x = some (some (b, cap))) ∨ b = w.heap.size := fun b hb' => by
    rcases hvb with q | q
    · exact .inl (hv b (q ▸ hb'))
    · rw [q] at hb'; cases hb'; exact .inr rfl
  have hbok : ∀ b, v'.ownBlock = some b → (¬ Z true b ∧ (S.w1.heap.size ≤ b ∨ S.M1 b)) ∧ S.w0.heap.size ≤ b := fun b hb' => by
    rcases hblk b hb' with ⟨x, cap, q1, q2⟩ | q
    · obtain ⟨h100, t, nb, fb, h⟩ := hk x q1
      rcases hF.box x _ h with ⟨b', c', e1, e2, e3, _⟩ | ⟨e1, _⟩
      · rw [q2] at e1; cases e1
        exact ⟨e3 rfl, by rcases e2 with e2 | ⟨e2, _⟩; exact e2; omega⟩
      · rw [q2] at e1; cases e1
    · subst q; exact ⟨⟨fun hz => by have := (hF.zOld _ hz).1; omega, .inl hF.kept1.size⟩, hsz⟩
  have hi' : ∀ x, x ≠ k' → (fun x => if x = k' then some ik else i x) x = i x := fun x hx => if_neg hx
  have hv' : ∀ b, v.ownBlock = some b → ∃ x cap, (x = k' ∨ k = some x) ∧ (∃ B, H x = some B ∧ B.mut = true) ∧ i x = some (some (b, cap)) := fun b hb' => by
    obtain ⟨x, cap, q1, q2⟩ := hv b hb'
    obtain ⟨_, t, nb, fb, h⟩ := hk x q1
    exact ⟨x, cap, .inr q1, ⟨_, h, rfl⟩, q2⟩
  refine hF.step (fun x => x = k' ∨ k = some x) hos (fun b hbl hn => hb b hbl (fun e => ?_)) (fun x hx => hi' x (fun e => hx (e ▸ hk'))) (fun x hx => hHo x (fun e => hx (.inl e)) (fun e => hx (.inr e))) (fun x hx e => ?_) (fun x hx e => ?_) (fun x hx e => ?_) (fun o b hb => hb) (fun b hb => .inl hb) (fun b hb => ⟨hF.zsub b hb, hF.zNew b hb⟩) (fun x B hx hB => ?_) (fun x B b hx hB hm hf => ?_) (fun x x' B1 B2 b hx hx' h1 h2 m1 m2 _ _ => ?_)
  · obtain ⟨x, cap, q1, ⟨B, q2, q3⟩, q4⟩ := hv' b e.symm
    exact hn x B q1 q2 q3 (.root q4)
  · rcases hx with hx | hx
    · subst hx; rw [hHk] at e; cases e
    · rw [hHx x hx] at e; cases e
  · show (if x = k' then some ik else i x) = none
    rw [if_neg (fun e => hx (.inl e))]; exact hF.nil x e
  · show (if x = k' then some ik else i x) = none
    rw [if_neg (by omega)]; exact hF.nil x e
  · rcases hx with hx | hx
    · subst hx
      rw [hHk] at hB; cases hB
      rcases hA with ⟨q1, q2, _⟩ | ⟨b, cap, q1, q2, q3⟩
      · exact .inr ⟨by show (if x = x then some ik else i x) = _; rw [if_pos rfl, q1], .inr (.inl ⟨_, _, _, .inl (by rw [q2])⟩)⟩
      · exact .inl ⟨b, cap, by show (if x = x then some ik else i x) = _; rw [if_pos rfl, q1], .inl (hbok b q2).2, fun _ => (hbok b q2).1, fun h => (by cases h), q3⟩
    · rw [hHx x hx] at hB; cases hB
      obtain ⟨_, t, nb, fb, h⟩ := hk x hx
      rcases hF.box x _ h with ⟨b, c, e1, e2, _, _, e5⟩ | ⟨e1, e2⟩
      · exact .inl ⟨b, c, (hi' x (hkk x hx)).trans e1, e2, fun h => (by cases h), fun h => (by cases h), Nat.lt_of_lt_of_le e5.lt hos.2.2.2⟩
      · exact .inr ⟨(hi' x (hkk x hx)).trans e1, .inl rfl⟩
  · rcases hx with hx | hx
    · subst hx
      rw [hHk] at hB; cases hB
      obtain ⟨cp, e⟩ := hf.flat rfl
      have e' : ik = some (b, cp) := by have : some ik = some (some (b, cp)) := by rw [← e]; exact (if_pos rfl).symm
                                        cases this; rfl
      rcases hA with ⟨q1, _, _⟩ | ⟨b2, cap, q1, q2, q3⟩
      · rw [q1] at e'; cases e'
      · rw [q1] at e'; cases e'
        rcases hblk b q2 with ⟨y, cy, y1, y2⟩ | y
        · obtain ⟨y3, t, nb, fb, h⟩ := hk y y1
          exact .inr ⟨y, _, .inr y1, fun h _ => absurd h (by omega), h, rfl, .root y2⟩
        · obtain ⟨cs, hB, _⟩ := q3
          exact .inl ⟨by omega, hB.lt⟩
    · rw [hHx x hx] at hB; cases hB; cases hm
  · rcases hx with hx | hx
    · rcases hx' with hx' | hx'
      · exact hx.trans hx'.symm
      · rw [hHx x' hx'] at h2; cases h2; cases m2
    · rw [hHx x hx] at h1; cases h1; cases m1
theorem loc_append {t el : TypeId} {x y : Operand} {k k' n nb m j : Nat} {f g : Nat → List D} {d : D} {ks : List Nat} {info info' : TypeInfo} {d' : TypeDesc} {z : Value} (ho : o.op = .call { callee := .builtin .append, args := #[x, y], argTypes := #[t, t] }) (hd : dstLt o N = true) [hT : TI P t info (.slice el)] [hT' : TI P el info' d'] (hz : info'.zero = some z) (hm : info'.size = m) (hzs : z.cells.size = m) (hms : Nat.blt 0 m = true)
  (hx : Opd E x (.sl k m n)) (hk : H k = some (.arr el nb m f)) (hn : n ≤ nb) (h100 : Nat.ble 1000 k = true) (hy : Opd E y d) (hs : SrcIs H d j m g ks) (hb : (n + j) * info'.bytes ≤ 140737488355328) (h63 : n + j ≤ 9223372036854775807) :
  Loc P N o E H ⟨k :: ks, o.dst, .sl k' m (n + j), [(k', some (.arr el (n + j) m (appF n f g))), (k, some .gone)], [k']⟩ := by
 refine ⟨rfl, by simp [ho], fun E1 H1 h1 h2 h3 S a w hN hR K Q _ hK => ?_⟩
 obtain ⟨Z, i, hF⟩ := hR
 replace hms : 0 < m := by simpa using hms
 have e1 := hF.opd (Opd.agree (x := x) (by simp [ho, Op.operands, Call.operands]) h1 hx)
 have e2 := hF.opd (Opd.agree (x := y) (by simp [ho, Op.operands, Call.operands]) h1 hy)
 have hk1 := (h2 k (by simp)).trans hk
 have hs1 := hs.agree (H1 := H1) (fun k hk => h2 k (by simp [hk]))
 obtain ⟨ao, cap, vs, s1, s2, s3, s4⟩ := hs1.elems hF e2
 have hc : ∀ e c, e < j → c < m → ∃ b p, ao = some ⟨b, p, none⟩ ∧ w.cell? ⟨b, p + (e * m + c), none⟩ = some (vs e c) ∧ (vs e c).oneCell' = true := fun e c he hc => by obtain ⟨b, p, q1, q2, q3, _⟩ := s4 e c he hc; exact ⟨b, p, q1, q2, q3⟩
 have hne := SrcIs.hne hms hc
 -- the slice that is appended to
 have hown : ∃ v xs, a.eval x = v ∧ w.ownsRow 0 el m v n xs ∧ xs.length = n * m ∧ (∀ e c, e < n → c < m → ∃ u, xs[e * m + c]? = some u ∧ u.oneCell' = true ∧ Rep Z w noN u (dl (f e) c)) ∧ (∀ e, e < n → (f e).length = m) ∧ (∀ b, v.ownBlock = some b → ∃ x cap, some k = some x ∧ i x = some (some (b, cap))) := by
  generalize hv : a.eval x = v at e1
  cases e1 with
  | @sl _ b _ _ _ cap hib q1 q2 =>
   rcases hF.box k _ hk1 with ⟨b', c', r1, _, _, _, cs, hB, hcs, hnc, hfl, hall⟩ | ⟨r1, _⟩
   ·rw [hib] at r1; cases r1
    have hle : n * m ≤ cap.c * m := Nat.mul_le_mul_right _ q1
    refine ⟨_, cs.toList.take (n * m), rfl, ⟨by simp; omega, .inr ⟨b, cap.c, cs, rfl, Nat.zero_le _, hB, q1, by unfold maxLen; omega, hcs, rfl⟩⟩, by simp; omega, fun e c he hc => ?_, fun e he => hfl e (by omega), fun b2 hb2 => ?_⟩
    ·have hlt : (e + 1) * m ≤ n * m := Nat.mul_le_mul_right _ (by omega)
     rw [Nat.add_mul] at hlt
     refine ⟨cs.getD (e * m + c) undef, ?_, hall e c (by omega) hc⟩
     rw [List.getElem?_take, if_pos (by omega), Array.getElem?_toList, Array.getD_eq_getD_getElem?, Array.getElem?_eq_getElem (by omega)]; rfl
    ·cases hb2; exact ⟨k, cap, rfl, hib⟩
   ·rw [hib] at r1; cases r1
  | sl0 _ _ _ hib =>
   exact ⟨_, [], rfl, World.ownsRow_nil w 0 el m, by simp, fun e c he => by omega, fun e he => by omega, fun b hb => by cases hb⟩
 obtain ⟨v, xs, hv, o1, o2, o3, o4, o5⟩ := hown
 obtain ⟨v', w', r1, r2, r3, r4, r5⟩ := append_core (P := P) (ty := o.type) (w := w) (t := t) (el := el) hz hm hzs hms v n xs o1 ao j cap vs hne hc hb h63
 have hrun := run_appendOp (P := P) (a := a) (w := w) (w' := w') ho (by rw [hv, s1]; exact r1)
 unfold Oper.wp
 rw [hrun]
 have hZo : ∀ o x, Z o x → w'.heap[x]? = w.heap[x]? := fun o x hx => by
  have hxt : Z true x := by cases o; exact hF.zsub x hx; exact hx
  refine r3 x (hF.zOld x hxt).1 (fun e => ?_)
  obtain ⟨y, cy, y1, y2⟩ := o5 x e.symm
  cases y1
  rcases hF.box k _ hk1 with ⟨b', c', q1, _, q3, _⟩ | ⟨q1, _⟩
  ·rw [y2] at q1; cases q1; exact (q3 rfl).1 hxt
  ·rw [y2] at q1; cases q1
 have mr : ∀ {v : Value} {d : D}, Rep Z w noN v d → Rep Z w' noN v d := fun hv => hv.mem (fun o x hx => ⟨hx, hZo o x hx⟩)
 obtain ⟨ik, p1, p2⟩ := own_of_row (k' := k') (f := f) (g := g) (Z := Z) hms r4 (fun e c he hc => by obtain ⟨u, u1, u2, u3⟩ := o3 e c he hc; exact ⟨u, u1, u2, mr u3⟩) o2 o4 (fun e c he hc => by obtain ⟨b, p, _, _, q3, q4⟩ := s4 e c he hc; exact ⟨q3, mr q4⟩) s3
 have hF2 := hF.appended (k := some k) (k' := k') (el := el) (n := n + j) (m := m) (f := appF n f g) (v := v) (v' := v') (ik := ik) (h3 k' (by simp)).1 (h3 k' (by simp)).2 (fun x hx => by cases hx; exact ⟨Nat.le_of_ble_eq_true h100, el, nb, f, hk1⟩) o5 r2 r3 r5 p2
 exact hK _ _ ⟨Z, _, hF2.put (by rw [hN]; exact dstLt_spec hd) (p1 _ (if_pos rfl))⟩
theorem loc_append_nil {t el:TypeId} {x y:Operand} {k' m j:Nat} {g:Nat→List D} {d:D} {ks:List Nat} {info info':TypeInfo} {d':TypeDesc} {z:Value} (ho:o.op = .call { callee:=.builtin .append,args:=#[x,y],argTypes:=#[t,t] }) (hd:dstLt o N=true) [hT:TI P t info (.slice el)] [hT':TI P el info' d'] (hz:info'.zero=some z) (hm:info'.size=m) (hzs:z.cells.size=m) (hms:Nat.blt 0 m=true)
  (hx:Opd E x (.val (.slice none 0 0))) (hy:Opd E y d) (hs:SrcIs H d j m g ks) (hb:j*info'.bytes≤140737488355328) (h63:j≤9223372036854775807) :
  Loc P N o E H ⟨ks,o.dst,.sl k' m j,[(k',some (.arr el j m g))],[k']⟩:=by
 refine ⟨rfl,by simp [ho],fun E1 H1 h1 h2 h3 S a w hN hR K Q _ hK=>?_⟩
 obtain ⟨Z,i,hF⟩:=hR
 replace hms:0<m:=by simpa using hms
 have e1:=(hF.opd (Opd.agree (x:=x) (by simp [ho,Op.operands,Call.operands]) h1 hx)).valEq
 have e2:=hF.opd (Opd.agree (x:=y) (by simp [ho,Op.operands,Call.operands]) h1 hy)
 have hs1:=hs.agree (H1:=H1) (fun k hk=>h2 k hk)
 obtain ⟨ao,cap,vs,s1,s2,s3,s4⟩:=hs1.elems hF e2
 have hc:∀ e c,e<j→c<m→∃ b p,ao=some ⟨b,p,none⟩∧w.cell? ⟨b,p+(e*m+c),none⟩=some (vs e c)∧(vs e c).oneCell'=true:=fun e c he hc=>by obtain ⟨b,p,q1,q2,q3,_⟩:=s4 e c he hc;exact ⟨b,p,q1,q2,q3⟩
 have hne:=SrcIs.hne hms hc
 obtain ⟨v',w',r1,r2,r3,r4,r5⟩:=append_core (P:=P) (ty:=o.type) (w:=w) (t:=t) (el:=el) hz hm hzs hms (.slice none 0 0) 0 [] (World.ownsRow_nil w 0 el m) ao j cap vs hne hc (by rw [Nat.zero_add];exact hb) (by omega)
 have hrun:=run_appendOp (P:=P) (a:=a) (w:=w) (w':=w') ho (by rw [e1,s1];exact r1)
 unfold Oper.wp
 rw [hrun]
 have hZo:∀ o x,Z o x→w'.heap[x]? = w.heap[x]?:=fun o x hx=>by
  have hxt:Z true x:=by cases o;exact hF.zsub x hx;exact hx
  exact r3 x (hF.zOld x hxt).1 (fun e=>by cases e)
 have mr:∀ {v:Value} {d:D},Rep Z w noN v d→Rep Z w' noN v d:=fun hv=>hv.mem (fun o x hx=>⟨hx,hZo o x hx⟩)
 obtain ⟨ik,p1,p2⟩:=own_of_row (n:=0) (k':=k') (f:=g) (g:=g) (Z:=Z) hms r4 (fun e c he=>by omega) (by simp) (fun e he=>by omega) (fun e c he hc=>by obtain ⟨b,p,_,_,q3,q4⟩:=s4 e c he hc;exact ⟨q3,mr q4⟩) s3
 have ef:appF 0 g g=g:=by funext e;rfl
 rw [Nat.zero_add,ef] at p2
 rw [Nat.zero_add] at p1
 have hF2:=hF.appended (k:=none) (k':=k') (el:=el) (n:=j) (m:=m) (f:=g) (v:=.slice none 0 0) (v':=v') (ik:=ik) (h3 k' (by simp)).1 (h3 k' (by simp)).2 (fun x hx=>by cases hx) (fun b hb=>by cases hb) r2 r3 r5 p2
 exact hK _ _ ⟨Z,_,hF2.put (by rw [hN];exact dstLt_spec hd) (p1 _ (if_pos rfl))⟩
end


def Clsd (md:Region.Mode) (ops:Array Oper) (listed:Array Bool):Prop:=∀ (j:Nat) (o:Oper) (e:_),ops[j]? = some o→listed.getD j false=true→e∈o.after→Region.binds md e=true→listed.getD e.on false=true
theorem Clsd.start {md:Region.Mode} {ops:Array Oper}:Clsd md ops (Array.replicate ops.size false):=fun j o e _ h=>by
 unfold Array.getD at h
 split at h<;>simp at h
theorem Clsd.step {md:Region.Mode} {ops:Array Oper} {listed:Array Bool} {j:Nat} (h:Clsd md ops listed) (hj:j∈Region.ready md ops listed):Clsd md ops (listed.setIfInBounds j true):=fun k o e ho hl he hb=>by
 apply getD_set_true
 rcases Classical.em (j=k) with q | q
 ·subst q
  obtain ⟨_,o',ho',hall⟩:=mem_ready.1 hj
  rw [ho] at ho'
  cases ho'
  exact hall e he hb
 ·rw [getD_set_ne false q] at hl
  exact h k o e ho hl he hb
abbrev Fw (ro:Option Nat):Fence:={ Fence.wide with round:=ro }
def GuardIs (ops:Array Oper) (E:Nat→D) (o:Oper) (b:Bool):Prop:=
 match o.guard with
 | none=>b=true
 | some (j,c)=>∃ t g x,(ops[j]?).bind (·.dst)=some t∧E t=when g (.val (.bool x))∧b=(g && (x == c))
inductive Tr (P:Program) (N:Nat) (ops:Array Oper):List Oper→(Nat→D)→(Nat→Option Box)→List Rec→Prop where
 | nil (E:Nat→D) (H:Nat→Option Box):Tr P N ops [] E H []
 | exec {o:Oper} {rest:List Oper} {E:Nat→D} {H:Nat→Option Box} {R:Rec} {Rs:List Rec} (hg:GuardIs ops E o true) (hl:Loc P N o E H R) (ht:Tr P N ops rest (updE E R.dst R.r) (updH H R.ws) Rs):Tr P N ops (o::rest) E H (R::Rs)
 | skip {o:Oper} {rest:List Oper} {E:Nat→D} {H:Nat→Option Box} {Rs:List Rec} (hg:GuardIs ops E o false) (hd:dstLt o N=true) (ht:Tr P N ops rest (updE E o.dst .any) H Rs):Tr P N ops (o::rest) E H (⟨[],o.dst,.any,[],[]⟩::Rs)
 | maybe {o:Oper} {rest:List Oper} {E:Nat→D} {H:Nat→Option Box} {Rs:List Rec} {b:Bool} {r:D} {names:List Nat} (hg:GuardIs ops E o b) (hd:dstLt o N=true) (hl:b=true→Loc P N o E H ⟨names,o.dst,r,[],[]⟩) (ht:Tr P N ops rest (updE E o.dst (when b r)) H Rs):Tr P N ops (o::rest) E H (⟨names,o.dst,when b r,[],[]⟩::Rs)
section
variable {P:Program} {N:Nat} {ops:Array Oper} {o:Oper} {E E1 E0:Nat→D} {H H1 H0:Nat→Option Box} {S:Cx} {Z:Zn} {i:Nm} {a:Act} {w:World}
theorem Fits.wanted (h:Fits S E H Z i a w) {b:Bool} (hg:GuardIs ops E o b):Region.wanted o (yielded ops a.tmps)=b:=by
 unfold GuardIs at hg
 unfold Region.wanted
 cases ho:o.guard with
 | none=>rw [ho] at hg;exact hg.symm
 | some gw=>
  obtain ⟨j,c⟩:=gw
  rw [ho] at hg
  obtain ⟨t,g,x,h1,h2,rfl⟩:=hg
  cases g with
  | false=>
   have h3:a.tmps.getD t undef=undef:=(h2▸h.env t:Rep Z w i _ (when false (.val (.bool x)))).valEq
   have:yielded ops a.tmps j=none:=by
    unfold yielded
    rw [h1]
    rw [Array.getD_eq_getD_getElem?] at h3
    cases hq:a.tmps[t]? with
    | none=>simp [hq]
    | some v=>rw [hq] at h3;simp at h3;subst h3;simp [hq,undef]
   simp only [this]
   cases c<;>rfl
  | true=>
  have h3:a.tmps.getD t undef = .bool x:=(h2▸h.env t:Rep Z w i _ (when true (.val (.bool x)))).valEq
  have h4:a.tmps[t]? = some (.bool x):=by
   rw [Array.getD_eq_getD_getElem?] at h3
   cases hq:a.tmps[t]? with
   | none=>rw [hq] at h3;cases h3
   | some v=>rw [hq] at h3;exact congrArg some h3
  have:yielded ops a.tmps j=some x:=by
   unfold yielded
   rw [h1]
   simp [h4]
  simp only [this]
  cases x<;>cases c<;>rfl
theorem GuardIs.agree {b:Bool} (hg:GuardIs ops E o b) (h:∀ t,t∈o.looksAt ops→E1 t=E t):GuardIs ops E1 o b:=by
 unfold GuardIs at *
 cases ho:o.guard with
 | none=>rw [ho] at hg;exact hg
 | some gw=>
  obtain ⟨j,c⟩:=gw
  rw [ho] at hg
  obtain ⟨t,g,x,h1,h2,h3⟩:=hg
  exact ⟨t,g,x,h1,(h t (by simp [Oper.looksAt,ho,h1])).trans h2,h3⟩
def Does (P:Program) (N:Nat) (ops:Array Oper) (o:Oper) (E:Nat→D) (H:Nat→Option Box) (R:Rec):Prop:=
 (GuardIs ops E o true∧Loc P N o E H R)∨(GuardIs ops E o false∧dstLt o N=true∧R=⟨[],o.dst,.any,[],[]⟩)∨∃ b r names,GuardIs ops E o b∧dstLt o N=true∧(b=true→Loc P N o E H ⟨names,o.dst,r,[],[]⟩)∧R=⟨names,o.dst,when b r,[],[]⟩
def foldE (S:Nat→Bool):Nat→List Rec→(Nat→D)→(Nat→D)
 | _,[],E=>E
 | k,R::Rs,E=>foldE S (k+1) Rs (if S k=true then updE E R.dst R.r else E)
def foldH (S:Nat→Bool):Nat→List Rec→(Nat→Option Box)→(Nat→Option Box)
 | _,[],H=>H
 | k,R::Rs,H=>foldH S (k+1) Rs (if S k=true then updH H R.ws else H)
def runE (E:Nat→D):List Rec→(Nat→D)
 | []=>E
 | R::Rs=>runE (updE E R.dst R.r) Rs
def runH (H:Nat→Option Box):List Rec→(Nat→Option Box)
 | []=>H
 | R::Rs=>runH (updH H R.ws) Rs
theorem foldE_all (S:Nat→Bool):∀ (Rs:List Rec) (k:Nat) (E:Nat→D),(∀ j,j<Rs.length→S (k+j)=true)→foldE S k Rs E=runE E Rs
 | [],_,_,_=>rfl
 | R::Rs,k,E,h=>by
  have h0:S k=true:=h 0 (by simp)
  simp only [foldE,runE,h0,if_true]
  exact foldE_all S Rs (k+1) _ (fun j hj=>by rw [Nat.add_assoc,Nat.add_comm 1 j];exact h (j+1) (by simpa using hj))
theorem foldH_all (S:Nat→Bool):∀ (Rs:List Rec) (k:Nat) (H:Nat→Option Box),(∀ j,j<Rs.length→S (k+j)=true)→foldH S k Rs H=runH H Rs
 | [],_,_,_=>rfl
 | R::Rs,k,H,h=>by
  have h0:S k=true:=h 0 (by simp)
  simp only [foldH,runH,h0,if_true]
  exact foldH_all S Rs (k+1) _ (fun j hj=>by rw [Nat.add_assoc,Nat.add_comm 1 j];exact h (j+1) (by simpa using hj))
theorem foldE_none (S:Nat→Bool):∀ (Rs:List Rec) (k:Nat) (E:Nat→D),(∀ j,k≤j→S j=false)→foldE S k Rs E=E
 | [],_,_,_=>rfl
 | R::Rs,k,E,h=>by
  have h0:=h k (Nat.le_refl _)
  simp only [foldE,h0,Bool.false_eq_true,if_false]
  exact foldE_none S Rs (k+1) E (fun j hj=>h j (by omega))
theorem foldH_none (S:Nat→Bool):∀ (Rs:List Rec) (k:Nat) (H:Nat→Option Box),(∀ j,k≤j→S j=false)→foldH S k Rs H=H
 | [],_,_,_=>rfl
 | R::Rs,k,H,h=>by
  have h0:=h k (Nat.le_refl _)
  simp only [foldH,h0,Bool.false_eq_true,if_false]
  exact foldH_none S Rs (k+1) H (fun j hj=>h j (by omega))
theorem updE_no {E:Nat→D} {dst:Option Nat} {r:D} {t:Nat} (h:dst≠some t):updE E dst r t=E t:=by
 cases dst with
 | none=>rfl
 | some d=>simp only [updE];rw [if_neg (fun e=>h (congrArg some e))]
theorem updE_yes {E:Nat→D} {r:D} {t:Nat}:updE E (some t) r t=r:=by simp [updE]
theorem updH_no {H:Nat→Option Box} {k:Nat}:∀ {ws:List (Nat × Option Box)},k ∉ ws.map (·.1)→updH H ws k=H k
 | [],_=>rfl
 | (x,B)::l,h=>by
  simp only [List.map_cons,List.mem_cons,not_or] at h
  simp only [updH];rw [if_neg (fun e=>h.1 e.symm)];exact updH_no h.2
theorem updH_yes {H H':Nat→Option Box} {k:Nat}:∀ {ws:List (Nat × Option Box)},k∈ws.map (·.1)→updH H ws k=updH H' ws k
 | [],h=>by simp at h
 | (x,B)::l,h=>by
  simp only [updH]
  by_cases q:x=k
  ·rw [if_pos q,if_pos q]
  ·rw [if_neg q,if_neg q]
   exact updH_yes (by simpa [Ne.symm q] using h)
theorem foldE_congr (S S':Nat→Bool) (t:Nat):∀ (Rs:List Rec) (k:Nat) (E E':Nat→D),E t=E' t→(∀ j R,Rs[j]? = some R→R.dst=some t→S (k+j)=S' (k+j))→foldE S k Rs E t=foldE S' k Rs E' t
 | [],_,_,_,h,_=>h
 | R::Rs,k,E,E',h,hS=>by
  simp only [foldE]
  refine foldE_congr S S' t Rs (k+1) _ _ ?_ (fun j R' hj hd=>by rw [Nat.add_assoc,Nat.add_comm 1 j];exact hS (j+1) R' (by simpa using hj) hd)
  by_cases hw:R.dst=some t
  ·have:S k=S' k:=hS 0 R (by simp) hw
   rw [this]
   split
   ·rw [hw];exact updE_yes.trans updE_yes.symm
   ·exact h
  ·have e1:(if S k=true then updE E R.dst R.r else E) t=E t:=by
    split
    ·exact updE_no hw
    ·rfl
   have e2:(if S' k=true then updE E' R.dst R.r else E') t=E' t:=by
    split
    ·exact updE_no hw
    ·rfl
   rw [e1,e2];exact h
theorem foldH_congr (S S':Nat→Bool) (x:Nat):∀ (Rs:List Rec) (k:Nat) (H H':Nat→Option Box),H x=H' x→(∀ j R,Rs[j]? = some R→x∈R.ws.map (·.1)→S (k+j)=S' (k+j))→foldH S k Rs H x=foldH S' k Rs H' x
 | [],_,_,_,h,_=>h
 | R::Rs,k,H,H',h,hS=>by
  simp only [foldH]
  refine foldH_congr S S' x Rs (k+1) _ _ ?_ (fun j R' hj hd=>by rw [Nat.add_assoc,Nat.add_comm 1 j];exact hS (j+1) R' (by simpa using hj) hd)
  by_cases hw:x∈R.ws.map (·.1)
  ·have:S k=S' k:=hS 0 R (by simp) hw
   rw [this]
   split
   ·exact updH_yes hw
   ·exact h
  ·have e1:(if S k=true then updH H R.ws else H) x=H x:=by
    split
    ·exact updH_no hw
    ·rfl
   have e2:(if S' k=true then updH H' R.ws else H') x=H' x:=by
    split
    ·exact updH_no hw
    ·rfl
   rw [e1,e2];exact h
theorem foldE_last (S:Nat→Bool) (t:Nat):∀ (Rs:List Rec) (k i:Nat) (E:Nat→D) (R:Rec),Rs[i]? = some R→R.dst=some t→S (k+i)=true→(∀ j R',i<j→Rs[j]? = some R'→R'.dst=some t→S (k+j)=false)→foldE S k Rs E t=R.r
 | [],_,_,_,_,h,_,_,_=>by simp at h
 | R0::Rs,k,0,E,R,h,hd,hS,hl=>by
  obtain rfl:R0=R:=by simpa using h
  have h0:S k=true:=hS
  simp only [foldE,h0,if_true]
  have:=foldE_congr S (fun _=>false) t Rs (k+1) (updE E R0.dst R0.r) (updE E R0.dst R0.r) rfl (fun j R' hj hd'=>by rw [Nat.add_assoc,Nat.add_comm 1 j];exact hl (j+1) R' (by omega) (by simpa using hj) hd')
  rw [this,foldE_none _ _ _ _ (fun _ _=>rfl),hd]
  exact updE_yes
 | R0::Rs,k,i+1,E,R,h,hd,hS,hl=>by
  simp only [foldE]
  exact foldE_last S t Rs (k+1) i _ R (by simpa using h) hd (by rw [Nat.add_assoc,Nat.add_comm 1 i];exact hS) (fun j R' hj hR hd'=>by rw [Nat.add_assoc,Nat.add_comm 1 j];exact hl (j+1) R' (by omega) (by simpa using hR) hd')
theorem foldH_last (S:Nat→Bool) (x:Nat) (H':Nat→Option Box):∀ (Rs:List Rec) (k i:Nat) (H:Nat→Option Box) (R:Rec),Rs[i]? = some R→x∈R.ws.map (·.1)→S (k+i)=true→(∀ j R',i<j→Rs[j]? = some R'→x∈R'.ws.map (·.1)→S (k+j)=false)→foldH S k Rs H x=updH H' R.ws x
 | [],_,_,_,_,h,_,_,_=>by simp at h
 | R0::Rs,k,0,H,R,h,hd,hS,hl=>by
  obtain rfl:R0=R:=by simpa using h
  have h0:S k=true:=hS
  simp only [foldH,h0,if_true]
  have:=foldH_congr S (fun _=>false) x Rs (k+1) (updH H R0.ws) (updH H R0.ws) rfl (fun j R' hj hd'=>by rw [Nat.add_assoc,Nat.add_comm 1 j];exact hl (j+1) R' (by omega) (by simpa using hj) hd')
  rw [this,foldH_none _ _ _ _ (fun _ _=>rfl)]
  exact updH_yes hd
 | R0::Rs,k,i+1,H,R,h,hd,hS,hl=>by
  simp only [foldH]
  exact foldH_last S x H' Rs (k+1) i _ R (by simpa using h) hd (by rw [Nat.add_assoc,Nat.add_comm 1 i];exact hS) (fun j R' hj hR hd'=>by rw [Nat.add_assoc,Nat.add_comm 1 j];exact hl (j+1) R' (by omega) (by simpa using hR) hd')
theorem Tr.at {rest:List Oper} {Rs:List Rec} (h:Tr P N ops rest E H Rs):∀ (k i:Nat) (o:Oper),rest[i]? = some o→∃ R,Rs[i]? = some R∧Does P N ops o (foldE (fun j=>decide (j<k+i)) k Rs E) (foldH (fun j=>decide (j<k+i)) k Rs H) R:=by
 induction h with
 | nil E H=>intro k i o h;simp at h
 | @exec o rest E H R Rs hg hl ht ih=>
  intro k i o' h
  cases i with
  | zero=>
   obtain rfl:o=o':=by simpa using h
   refine ⟨R,by simp,?_⟩
   rw [foldE_none _ _ _ _ (fun j hj=>by simp;omega),foldH_none _ _ _ _ (fun j hj=>by simp;omega)]
   exact .inl ⟨hg,hl⟩
  | succ i=>
   obtain ⟨R',h1,h2⟩:=ih (k+1) i o' (by simpa using h)
   refine ⟨R',by simpa using h1,?_⟩
   simp only [foldE,foldH,show decide (k<k+(i+1))=true by simp,if_true]
   rw [show k+(i+1)=k+1+i by omega]
   exact h2
 | @skip o rest E H Rs hg hd ht ih=>
  intro k i o' h
  cases i with
  | zero=>
   obtain rfl:o=o':=by simpa using h
   refine ⟨⟨[],o.dst,.any,[],[]⟩,by simp,?_⟩
   rw [foldE_none _ _ _ _ (fun j hj=>by simp;omega),foldH_none _ _ _ _ (fun j hj=>by simp;omega)]
   exact .inr (.inl ⟨hg,hd,rfl⟩)
  | succ i=>
   obtain ⟨R',h1,h2⟩:=ih (k+1) i o' (by simpa using h)
   refine ⟨R',by simpa using h1,?_⟩
   simp only [foldE,foldH,show decide (k<k+(i+1))=true by simp,if_true,updH]
   rw [show k+(i+1)=k+1+i by omega]
   exact h2
 | @maybe o rest E H Rs b r names hg hd hl ht ih=>
  intro k i o' h
  cases i with
  | zero=>
   obtain rfl:o=o':=by simpa using h
   refine ⟨⟨names,o.dst,when b r,[],[]⟩,by simp,?_⟩
   rw [foldE_none _ _ _ _ (fun j hj=>by simp;omega),foldH_none _ _ _ _ (fun j hj=>by simp;omega)]
   exact .inr (.inr ⟨b,r,names,hg,hd,hl,rfl⟩)
  | succ i=>
   obtain ⟨R',h1,h2⟩:=ih (k+1) i o' (by simpa using h)
   refine ⟨R',by simpa using h1,?_⟩
   simp only [foldE,foldH,show decide (k<k+(i+1))=true by simp,if_true,updH]
   rw [show k+(i+1)=k+1+i by omega]
   exact h2
theorem Tr.len {rest:List Oper} {Rs:List Rec} (h:Tr P N ops rest E H Rs):Rs.length=rest.length:=by
 induction h<;>simp_all
theorem wpIn_of_wp {ro:Option Nat} {K:Act→World→Prop} {Q:Exit→Act→World→Prop} (hnd:∀ c,o.op ≠ .defer c) (h:o.wp P a w K Q):o.wpIn (Fw ro) 0 P a w K Q:=by
 refine ⟨fun _ _=>trivial,?_⟩
 rw [show o.semAt (Fw ro).round a.eval=execOp a.eval o from Oper.semAt_eq _ _ _ hnd]
 unfold Oper.wp at h
 generalize (execOp a.eval o).run P w=r at *
 have hde:((Fw ro).depth.isSome=true→1≤0):=fun h=>by cases h
 cases r with
 | ok x w'=>
  cases x<;>simp only [Oper.upon] at h<;>simp only [Oper.uponIn]<;>first
   | exact h
   | exact ⟨hde,callsIn_wide.2 h⟩
   | exact h.elim
   | exact ⟨hde,fun c cs hr=>by obtain ⟨v,w',r,s⟩:=h c cs;exact ⟨v,w',r,stepsIn_wide.2 s⟩⟩
 | halt x w'=>cases x<;>simp only [Oper.upon] at h<;>simp only [Oper.uponIn]<;>first | exact h | exact h.elim
theorem Does.step {ro:Option Nat} {R:Rec} (h:Does P N ops o E H R) (hE:∀ t,t∈o.looksAt ops→E1 t=E t) (hH:∀ k,k∈R.names→H1 k=H k) (hF:∀ k,k∈R.fresh→H1 k=none∧1000≤k) (hN:S.N=N) (hS:RepS S E1 H1 a w) {j:Nat} (hj:ops[j]? = some o) {K:Act→World→Prop} {Q:Exit→Act→World→Prop} (hX:∀ ch a' w',S.pan ch→RepX S a' w'→Q (.panic ch) a' w')
  (hK:∀ a' w',RepS S (updE E1 R.dst R.r) (updH H1 R.ws) a' w'→K a' w'):wpOpIn (Fw ro) 0 P ops Q j K a w:=by
 unfold wpOpIn
 rw [hj]
 have hS':=hS
 obtain ⟨Z,i,hFi⟩:=hS
 have yes:∀ {R:Rec},Loc P N o E H R→GuardIs ops E o true→(∀ k,k∈R.names→H1 k=H k)→(∀ k,k∈R.fresh→H1 k=none∧1000≤k)→(∀ a' w',RepS S (updE E1 R.dst R.r) (updH H1 R.ws) a' w'→K a' w')→(if Region.wanted o (yielded ops a.tmps) then o.wpIn (Fw ro) 0 P a w K Q else (∀ f,o.about P w a.eval=some f→(Fw ro).fn f)∧K (a.put o.dst undef) w):=fun hl hg hH hF hK=>by
  have hw:=hFi.wanted (hg.agree hE)
  simp only [hw,if_true]
  exact wpIn_of_wp hl.2.1 (hl.2.2 E1 H1 (fun t ht=>hE t (List.mem_append_left _ ht)) hH hF S a w hN hS' K Q hX hK)
 have no:∀ r,(∀ Z w i,Rep Z w i undef r)→GuardIs ops E o false→dstLt o N=true→(∀ a' w',RepS S (updE E1 o.dst r) H1 a' w'→K a' w')→(if Region.wanted o (yielded ops a.tmps) then o.wpIn (Fw ro) 0 P a w K Q else (∀ f,o.about P w a.eval=some f→(Fw ro).fn f)∧K (a.put o.dst undef) w):=fun r hr hg hd hK=>by
  have hw:=hFi.wanted (hg.agree hE)
  simp only [hw,Bool.false_eq_true,if_false]
  exact ⟨fun _ _=>trivial,hK _ _ ⟨Z,i,hFi.put (by rw [hN];exact dstLt_spec hd) (hr _ _ _)⟩⟩
 rcases h with ⟨hg,hl⟩ | ⟨hg,hd,rfl⟩ | ⟨b,r,names,hg,hd,hl,rfl⟩
 ·exact yes hl hg hH hF hK
 ·exact no _ (fun _ _ _=>.any _ _) hg hd hK
 ·cases b with
  | true=>exact yes (hl rfl) hg hH (fun k hk=>by cases hk) hK
  | false=>exact no _ (fun _ _ _=>.val _ _) hg hd hK
end


inductive Anc (ops:Array Oper) (j:Nat):Nat→Prop where
 | edge {i:Nat} {o:Oper} {e:Edge} (ho:ops[i]? = some o) (he:e∈o.after) (hb:Region.binds .any e=true) (hj:e.on=j):Anc ops j i
 | step {i:Nat} {o:Oper} {e:Edge} (ho:ops[i]? = some o) (he:e∈o.after) (hb:Region.binds .any e=true) (h:Anc ops j e.on):Anc ops j i
def maskOf (ms:List Nat) (l:List Edge):Nat:=l.foldl (fun s e=>match Region.binds .any e with | true=>Nat.lor (Nat.lor s (2 ^ e.on)) (ms.getD e.on 0) | false=>s) 0
def masks:List Oper→List Nat→List Nat
 | [],ms=>ms
 | o::rest,ms=>masks rest (ms++[maskOf ms o.after.toList])
def bit (m j:Nat):Bool:=Nat.beq (Nat.land (Nat.shiftRight m j) 1) 1
theorem bit_eq (m j:Nat):bit m j=m.testBit j:=by
 unfold bit
 show Nat.beq ((m >>> j) &&& 1) 1=_
 rw [Nat.testBit_eq_decide_div_mod_eq,Nat.and_one_is_mod,Nat.shiftRight_eq_div_pow]
 cases h:decide (m / 2 ^ j % 2=1) with
 | true=>simp at h;rw [h];rfl
 | false=>
  simp at h
  have:m / 2 ^ j % 2=0:=by omega
  rw [this];rfl
theorem maskOf_spec {ops:Array Oper} {ms:List Nat} {i j:Nat} {o:Oper} (ho:ops[i]? = some o) (hm:∀ k j,(ms.getD k 0).testBit j=true→Anc ops j k):∀ (l:List Edge) (s:Nat),(∀ e,e∈l→e∈o.after)→(s.testBit j=true→Anc ops j i) →
  (l.foldl (fun s e=>match Region.binds .any e with | true=>Nat.lor (Nat.lor s (2 ^ e.on)) (ms.getD e.on 0) | false=>s) s).testBit j=true→Anc ops j i
 | [],s,_,hs,h=>hs h
 | e::l,s,he,hs,h=>by
  refine maskOf_spec ho hm l _ (fun x hx=>he x (by simp [hx])) (fun hb=>?_) h
  dsimp only at hb
  cases q:Region.binds .any e with
  | false=>rw [q] at hb;exact hs hb
  | true=>
   rw [q] at hb
   change ((s ||| 2 ^ e.on) ||| ms.getD e.on 0).testBit j=true at hb
   rw [Nat.testBit_or,Nat.testBit_or,Bool.or_eq_true,Bool.or_eq_true] at hb
   rcases hb with (hb | hb) | hb
   ·exact hs hb
   ·rw [Nat.testBit_two_pow] at hb
    exact .edge ho (he e (by simp)) q (of_decide_eq_true hb)
   ·exact .step ho (he e (by simp)) q (hm _ _ hb)
theorem masks_spec {ops:Array Oper}:∀ (rest:List Oper) (ms:List Nat),(∀ j,rest[j]? = ops[ms.length+j]?)→(∀ k j,(ms.getD k 0).testBit j=true→Anc ops j k)→∀ k j,((masks rest ms).getD k 0).testBit j=true→Anc ops j k
 | [],ms,_,hm=>hm
 | o::rest,ms,hr,hm=>by
  have h0:ops[ms.length]? = some o:=by have:=hr 0;simpa using this.symm
  refine masks_spec rest (ms++[maskOf ms o.after.toList]) (fun j=>?_) (fun k j hb=>?_)
  ·have:=hr (j+1)
   simp only [List.getElem?_cons_succ] at this
   rw [this,List.length_append,List.length_singleton]
   congr 1
   omega
  ·rcases Nat.lt_trichotomy k ms.length with q | q | q
   ·rw [List.getD_eq_getElem?_getD,List.getElem?_append_left q,← List.getD_eq_getElem?_getD] at hb
    exact hm k j hb
   ·subst q
    rw [List.getD_eq_getElem?_getD,List.getElem?_append_right (Nat.le_refl _)] at hb
    simp only [Nat.sub_self,List.getElem?_cons_zero,Option.getD_some] at hb
    exact maskOf_spec h0 hm o.after.toList 0 (fun e he=>by simpa using he) (fun h=>by simp at h) hb
   ·rw [List.getD_eq_getElem?_getD,List.getElem?_append_right (by omega),List.getElem?_eq_none (by simp;omega)] at hb
    simp at hb
def meets (l m:List Nat):Bool:=l.any fun x=>m.any fun y=>Nat.beq x y
theorem meets_no {l m:List Nat} (h:meets l m=false) {x:Nat} (hx:x∈l):x ∉ m:=fun hm=>by
 unfold meets at h
 have:=List.any_eq_false.1 h x hx
 rw [List.any_eq_true.2 ⟨x,hm,by simp⟩] at this
 exact this rfl
def Rec.keys (R:Rec):List Nat:=R.ws.map (·.1)
def clash (ops:Array Oper) (oi:Oper) (Ri:Rec) (Rj:Rec):Bool:=
 meets Rj.dst.toList (oi.looksAt ops++Ri.dst.toList) || meets Rj.keys (Ri.names++Ri.keys)
def pairOk (ops:Array Oper) (ms:List Nat) (l:List (Oper × Rec)):Bool:=
 (List.range l.length).all fun i=>match l[i]? with
  | none=>true
  | some (oi,Ri)=>
   (oi.after.all fun e=>(!Region.binds .any e) || Nat.blt e.on i) &&
   (List.range l.length).all fun j=>match l[j]? with
    | none=>true
    | some (_,Rj)=>Nat.beq i j || (((match clash ops oi Ri Rj with | false=>true | true=>(match Nat.blt j i with | true=>bit (ms.getD i 0) j | false=>bit (ms.getD j 0) i)) && (bit (ms.getD j 0) i || !meets Rj.keys Ri.fresh)))
def regOk (ops:List Oper) (Rs:List Rec):Bool:=pairOk ops.toArray (masks ops []) (ops.zip Rs)

section
variable {P:Program} {N:Nat} {ops:Array Oper} {E E0:Nat→D} {H H0:Nat→Option Box} {S:Cx} {ro:Option Nat} {Rs:List Rec}
theorem Anc.listed {listed:Array Bool} {i j:Nat} (h:Anc ops j i) (hC:Clsd .any ops listed):(listed.getD i false=true∨i∈Region.ready .any ops listed)→listed.getD j false=true:=by
 induction h with
 | @edge i o e ho he hb hj=>
  rintro (hi | hi)
  ·exact hj▸hC i o e ho hi he hb
  ·obtain ⟨_,o',ho',hall⟩:=mem_ready.1 hi
   rw [ho] at ho';cases ho'
   exact hj▸hall e he hb
 | @step i o e ho he hb h ih=>
  rintro (hi | hi)
  ·exact ih (.inl (hC i o e ho hi he hb))
  ·obtain ⟨_,o',ho',hall⟩:=mem_ready.1 hi
   rw [ho] at ho';cases ho'
   exact ih (.inl (hall e he hb))
theorem none_fold (S:Nat→Bool) (k:Nat):∀ (Rs:List Rec) (m:Nat) (H:Nat→Option Box),H k=none→(∀ j R,Rs[j]? = some R→S (m+j)=true→k ∉ R.keys)→foldH S m Rs H k=none
 | [],_,_,h,_=>h
 | R::Rs,m,H,h,hR=>by
  refine none_fold S k Rs (m+1) _ ?_ (fun j R' hj hs=>hR (j+1) R' (by simpa using hj) (by rw [Nat.add_comm j 1,← Nat.add_assoc];exact hs))
  by_cases q:S m=true
  ·rw [if_pos q,updH_no (hR 0 R (by simp) q)];exact h
  ·rw [if_neg q];exact h
theorem wpAny_trace (hN : S.N = N) (hT : Tr P N ops ops.toList E0 H0 Rs) (hO : pairOk ops (masks ops.toList []) (ops.toList.zip Rs) = true) (hF : ∀ R, R ∈ Rs → ∀ k, k ∈ R.fresh → H0 k = none ∧ 1000 ≤ k) {Q : Exit → Act → World → Prop} (hX : ∀ ch a' w', S.pan ch → RepX S a' w' → Q (.panic ch) a' w') (hQ : ∀ a w, RepS S (runE E0 Rs) (runH H0 Rs) a w → Q .normal a w) :
  ∀ (fuel : Nat) (listed : Array Bool) (a : Act) (w : World), listed.size = ops.size → Clsd .any ops listed → ((List.range ops.size).countP fun j => !listed.getD j true) ≤ fuel →
   RepS S (foldE (fun j => listed.getD j false) 0 Rs E0) (foldH (fun j => listed.getD j false) 0 Rs H0) a w → wpAnyIn (Fw ro) 0 P .any ops Q fuel listed a w := by
 have hlen : Rs.length = ops.size := by rw [hT.len]; simp
 have hzip : ∀ i o R, ops[i]? = some o → Rs[i]? = some R → (ops.toList.zip Rs)[i]? = some (o, R) := fun i o R h1 h2 => by
  rw [List.getElem?_zip_eq_some]; exact ⟨by simpa using h1, h2⟩
 have hzl : (ops.toList.zip Rs).length = ops.size := by simp [hlen]
 have hpair : ∀ i oi Ri, ops[i]? = some oi → Rs[i]? = some Ri → (∀ e, e ∈ oi.after → Region.binds .any e = true → e.on < i) ∧ ∀ j oj Rj, ops[j]? = some oj → Rs[j]? = some Rj → i ≠ j → (clash ops oi Ri Rj = true → (j < i → Anc ops j i) ∧ (i < j → Anc ops i j)) ∧ (¬ Anc ops i j → ∀ k, k ∈ Ri.fresh → k ∉ Rj.keys) := by
  intro i oi Ri h1 h2
  have hi : i < ops.size := (Array.getElem?_eq_some_iff.1 h1).1
  unfold pairOk at hO
  have k1 := List.all_eq_true.1 hO i (List.mem_range.2 (by rw [hzl]; exact hi))
  rw [hzip i oi Ri h1 h2] at k1
  simp only [Bool.and_eq_true] at k1
  obtain ⟨k0, k2⟩ := k1
  refine ⟨fun e he hb => ?_, fun j oj Rj h3 h4 hij => ?_⟩
  ·have := Array.all_eq_true_iff_forall_mem.1 k0 e he
   rw [hb] at this
   simpa using this
  have hj : j < ops.size := (Array.getElem?_eq_some_iff.1 h3).1
  have k3 := List.all_eq_true.1 k2 j (List.mem_range.2 (by rw [hzl]; exact hj))
  rw [hzip j oj Rj h3 h4] at k3
  have hb : Nat.beq i j = false := by
   rcases Bool.eq_false_or_eq_true (Nat.beq i j) with q | q
   ·exact absurd (Nat.eq_of_beq_eq_true q) hij
   ·exact q
  have hA : ∀ x y, bit ((masks ops.toList []).getD x 0) y = true → Anc ops y x := fun x y h => masks_spec ops.toList [] (fun j => by simp) (fun k j h => by simp at h) x y (by rwa [bit_eq] at h)
  simp only [hb, Bool.false_or, Bool.and_eq_true, Bool.or_eq_true] at k3
  obtain ⟨k4, k5⟩ := k3
  refine ⟨fun hc => ?_, fun hn k hk => ?_⟩
  ·rw [hc] at k4
   simp only at k4
   constructor
   ·intro hlt
    rw [show Nat.blt j i = true by simpa using hlt] at k4
    exact hA _ _ k4
   ·intro hlt
    rw [show Nat.blt j i = false by
     rcases Bool.eq_false_or_eq_true (Nat.blt j i) with q | q
     ·rw [Nat.blt_eq] at q; omega
     ·exact q] at k4
    exact hA _ _ k4
  ·rcases k5 with k5 | k5
   ·exact absurd (hA _ _ k5) hn
   ·exact fun hkj => meets_no (by simpa using k5) hkj hk
 intro fuel
 induction fuel with
 | zero =>
  intro listed a w hs hC hcnt hR
  have hall : ∀ j, j < ops.size → listed.getD j true = true := fun j hj => by
   have h0 : ((List.range ops.size).countP fun j => !listed.getD j true) = 0 := by omega
   have := (List.countP_eq_zero.1 h0) j (List.mem_range.2 hj)
   simpa using this
  have hall' : ∀ j, j < ops.size → listed.getD j false = true := fun j hj => by
   have := hall j hj
   have hj' : j < listed.size := by omega
   simpa [Array.getD, hj'] using this
  refine ⟨?_, hQ a w ?_⟩
  ·rw [List.eq_nil_iff_forall_not_mem]
   intro i hi
   obtain ⟨h0, o, ho, _⟩ := mem_ready.1 hi
   rw [hall i (Array.getElem?_eq_some_iff.1 ho).1] at h0
   cases h0
  ·rw [foldE_all _ _ _ _ (fun j hj => by rw [Nat.zero_add]; exact hall' j (by omega)), foldH_all _ _ _ _ (fun j hj => by rw [Nat.zero_add]; exact hall' j (by omega))] at hR
   exact hR
 | succ fuel ih =>
  intro listed a w hs hC hcnt hR
  refine ⟨fun hr => ?_, fun i hi => ?_⟩
  ·have hall' : ∀ n j, j < n → j < ops.size → listed.getD j false = true := by
    intro n
    induction n with
    | zero => intro j hj; omega
    | succ n ihn =>
     intro j hj hjs
     rcases Nat.lt_or_ge j n with q | q
     ·exact ihn j q hjs
     obtain rfl : j = n := by omega
     rcases Bool.eq_false_or_eq_true (listed.getD j false) with q | q
     ·exact q
     exfalso
     have hoj : ops[j]? = some ops[j] := Array.getElem?_eq_getElem hjs
     obtain ⟨Rj, hRj, _⟩ := hT.at 0 j ops[j] (by rw [Array.getElem?_toList]; exact hoj)
     have hp := (hpair j _ _ hoj hRj).1
     have : j ∈ Region.ready .any ops listed := mem_ready.2 ⟨by
      have hj' : j < listed.size := by omega
      simpa [Array.getD, hj'] using q, _, hoj, fun e he hb => ihn e.on (hp e he hb) (by have := hp e he hb; omega)⟩
     rw [hr] at this
     cases this
   refine hQ a w ?_
   rw [foldE_all _ _ _ _ (fun j hj => by rw [Nat.zero_add]; exact hall' (j + 1) j (by omega) (by omega)), foldH_all _ _ _ _ (fun j hj => by rw [Nat.zero_add]; exact hall' (j + 1) j (by omega) (by omega))] at hR
   exact hR
  ·obtain ⟨h0, o, ho, hall⟩ := mem_ready.1 hi
   have his : i < ops.size := (Array.getElem?_eq_some_iff.1 ho).1
   have hil : i < listed.size := by omega
   obtain ⟨R, hRi, hD⟩ := hT.at 0 i o (by simpa using ho)
   simp only [Nat.zero_add] at hD
   have h0' : listed.getD i false = false := by simpa [Array.getD, hil] using h0
   -- what clashes is in order
   have hclash : ∀ j oj Rj, ops[j]? = some oj → Rs[j]? = some Rj → i ≠ j → clash ops o R Rj = true → listed.getD j false = decide (j < i) := by
    intro j oj Rj h3 h4 hij hc
    obtain ⟨c1, _⟩ := (hpair i o R ho hRi).2 j oj Rj h3 h4 hij
    obtain ⟨c2, c3⟩ := c1 hc
    rcases Nat.lt_or_ge j i with q | q
    ·rw [(c2 q).listed hC (.inr hi)]; simpa using q
    ·have hlt : i < j := by omega
     rcases Bool.eq_false_or_eq_true (listed.getD j false) with q2 | q2
     ·rw [(c3 hlt).listed hC (.inl q2)] at h0'; cases h0'
     ·rw [q2]; simpa using q
   have hops : ∀ j Rj, Rs[j]? = some Rj → ∃ oj, ops[j]? = some oj := fun j Rj h => by
    have : j < Rs.length := (List.getElem?_eq_some_iff.1 h).1
    exact ⟨ops[j]'(by omega), Array.getElem?_eq_getElem (by omega)⟩
   have hcE : ∀ t, t ∈ o.looksAt ops ++ R.dst.toList → ∀ j Rj, Rs[j]? = some Rj → Rj.dst = some t → i ≠ j → listed.getD j false = decide (j < i) := by
    intro t ht j Rj hj hd hij
    obtain ⟨oj, hoj⟩ := hops j Rj hj
    refine hclash j oj Rj hoj hj hij ?_
    unfold clash
    rw [Bool.or_eq_true]
    refine .inl ?_
    rw [hd]
    unfold meets
    exact List.any_eq_true.2 ⟨t, by simp, List.any_eq_true.2 ⟨t, ht, by simp⟩⟩
   have hcH : ∀ x, x ∈ R.names ++ R.keys → ∀ j Rj, Rs[j]? = some Rj → x ∈ Rj.ws.map (·.1) → i ≠ j → listed.getD j false = decide (j < i) := by
    intro x hx j Rj hj hd hij
    obtain ⟨oj, hoj⟩ := hops j Rj hj
    refine hclash j oj Rj hoj hj hij ?_
    unfold clash
    rw [Bool.or_eq_true]
    refine .inr ?_
    unfold meets
    exact List.any_eq_true.2 ⟨x, hd, List.any_eq_true.2 ⟨x, hx, by simp⟩⟩
   refine hD.step (fun t ht => ?_) (fun x hx => ?_) (fun k hk => ?_) hN hR ho hX (fun a' w' hR' => ih _ a' w' (by simp [hs]) (hC.step hi) ?_ ?_)
   ·refine foldE_congr _ _ t Rs 0 E0 E0 rfl (fun j Rj hj hd => ?_)
    rw [Nat.zero_add]
    by_cases hij : i = j
    ·subst hij; rw [h0']; simp
    ·exact hcE t (List.mem_append_left _ ht) j Rj hj hd hij
   ·refine foldH_congr _ _ x Rs 0 H0 H0 rfl (fun j Rj hj hd => ?_)
    rw [Nat.zero_add]
    by_cases hij : i = j
    ·subst hij; rw [h0']; simp
    ·exact hcH x (List.mem_append_left _ hx) j Rj hj hd hij
   ·refine ⟨none_fold _ k Rs 0 H0 (hF R (List.mem_of_getElem? hRi) k hk).1 (fun j Rj hj hs' => ?_), (hF R (List.mem_of_getElem? hRi) k hk).2⟩
    rw [Nat.zero_add] at hs'
    obtain ⟨oj, hoj⟩ := hops j Rj hj
    have hij : i ≠ j := fun e => by subst e; rw [h0'] at hs'; cases hs'
    exact ((hpair i o R ho hRi).2 j oj Rj hoj hj hij).2 (fun hA => by rw [hA.listed hC (.inl hs')] at h0'; cases h0') k hk
   ·have hle : ((List.range ops.size).countP fun j => !(listed.setIfInBounds i true).getD j true) + 1 ≤ (List.range ops.size).countP fun j => !listed.getD j true := by
     have key : ∀ (l : List Nat), l.Nodup → i ∈ l → (l.countP fun j => !(listed.setIfInBounds i true).getD j true) + 1 = l.countP fun j => !listed.getD j true := by
      intro l
      induction l with
      | nil => intro _ h; cases h
      | cons x l ihl =>
       intro hn hm
       obtain ⟨hx, hn'⟩ := List.nodup_cons.1 hn
       rw [List.countP_cons, List.countP_cons]
       by_cases q : x = i
       ·subst q
        have e1 : (!(listed.setIfInBounds x true).getD x true) = false := by simp [Array.getD, hil]
        have e2 : (!listed.getD x true) = true := by rw [h0]; rfl
        rw [e1, e2]
        have e3 : (l.countP fun j => !(listed.setIfInBounds x true).getD j true) = l.countP fun j => !listed.getD j true := List.countP_congr (fun j hj => by
         have q2 : x ≠ j := by rintro rfl; exact hx hj
         rw [getD_set_ne true q2])
        rw [e3]; simp
       ·have e1 : (!(listed.setIfInBounds i true).getD x true) = !listed.getD x true := by rw [getD_set_ne true (Ne.symm q)]
        rw [e1, ← ihl hn' (by rcases List.mem_cons.1 hm with h | h; exact absurd h.symm q; exact h)]
        omega
     exact Nat.le_of_eq (key _ List.nodup_range (List.mem_range.2 his))
    omega
   ·have gset : ∀ j, j ≠ i → (listed.setIfInBounds i true).getD j false = listed.getD j false := fun j hj => getD_set_ne false (Ne.symm hj)
    have gi : (listed.setIfInBounds i true).getD i false = true := by simp [Array.getD, hil]
    have eE : foldE (fun j => (listed.setIfInBounds i true).getD j false) 0 Rs E0 = updE (foldE (fun j => listed.getD j false) 0 Rs E0) R.dst R.r := by
     funext t
     by_cases hd : R.dst = some t
     ·rw [foldE_last _ t Rs 0 i E0 R hRi hd (by rw [Nat.zero_add]; exact gi) (fun j Rj hij hj hdj => by
       rw [Nat.zero_add, gset j (by omega), hcE t (List.mem_append_right _ (by rw [hd]; simp)) j Rj hj hdj (by omega)]
       simp; omega), hd]
      exact updE_yes.symm
     ·rw [updE_no hd]
      refine foldE_congr _ _ t Rs 0 E0 E0 rfl (fun j Rj hj hdj => ?_)
      rw [Nat.zero_add]
      refine gset j (fun e => ?_)
      subst e
      rw [hRi] at hj; cases hj
      exact hd hdj
    have eH : foldH (fun j => (listed.setIfInBounds i true).getD j false) 0 Rs H0 = updH (foldH (fun j => listed.getD j false) 0 Rs H0) R.ws := by
     funext x
     by_cases hd : x ∈ R.ws.map (·.1)
     ·rw [foldH_last _ x (foldH (fun j => listed.getD j false) 0 Rs H0) Rs 0 i H0 R hRi hd (by rw [Nat.zero_add]; exact gi) (fun j Rj hij hj hdj => by
       rw [Nat.zero_add, gset j (by omega), hcH x (List.mem_append_right _ hd) j Rj hj hdj (by omega)]
       simp; omega)]
     ·rw [updH_no hd]
      refine foldH_congr _ _ x Rs 0 H0 H0 rfl (fun j Rj hj hdj => ?_)
      rw [Nat.zero_add]
      refine gset j (fun e => ?_)
      subst e
      rw [hRi] at hj; cases hj
      exact hd hdj
    rw [eE, eH]
    exact hR'
end
end Go.Proofs.YtdcenblblimkfaaGreat
