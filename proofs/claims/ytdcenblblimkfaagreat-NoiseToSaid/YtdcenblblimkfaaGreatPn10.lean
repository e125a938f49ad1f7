/- Control, over states of data, in a fence. No walk.
Frozen views, calls, results. No walk.
From a body to a contract; a call by contract; what may be forgotten, frozen, said otherwise. No walk. -/
import Derived.Test.YtdcenblblimkfaaGreatPn09
import Derived.RangeFuncLeaves
import Derived.RangeFuncRecord
set_option linter.unusedSimpArgs false
set_option linter.unusedVariables false
set_option linter.unnecessarySimpa false
set_option linter.unusedSectionVars false
namespace Go.Proofs.YtdcenblblimkfaaGreat
open Go.RowKit

class Mix (P:Program):Prop where
 mix:P.follows .mixedOrders=true
def Sub (E:Nat→D) (H:Nat→Option Box) (E':Nat→D) (H':Nat→Option Box):Prop:=∀ S a w,RepS S E H a w→RepS S E' H' a w
theorem Sub.refl (E:Nat→D) (H:Nat→Option Box):Sub E H E H:=fun _ _ _ h=>h
theorem Sub.trans {E E' E2:Nat→D} {H H' H2:Nat→Option Box} (h:Sub E H E' H') (k:Sub E' H' E2 H2):Sub E H E2 H2:=fun S a w hR=>k S a w (h S a w hR)
abbrev Post:=Exit→(Nat→D)→(Nat→Option Box)→Prop
def QP (S:Cx) (Q:Post):Post
 | .panic ch,E,H=>Q (.panic ch) E H∨S.pan ch
 | e,E,H=>Q e E H
theorem QP.mono {S:Cx} {Q Q':Post} (hq:∀ e E H,Q e E H→Q' e E H) {e:Exit} {E:Nat→D} {H:Nat→Option Box} (h:QP S Q e E H):QP S Q' e E H:=by
 cases e<;>first | exact h.imp (hq _ _ _) id | exact hq _ _ _ h
theorem QP.of {S:Cx} {Q:Post} {e:Exit} {E:Nat→D} {H:Nat→Option Box} (h:Q e E H):QP S Q e E H:=by
 cases e<;>first | exact .inl h | exact h
theorem QP.no {S:Cx} {Q:Post} (hp:∀ ch,¬ S.pan ch) {e:Exit} {E:Nat→D} {H:Nat→Option Box} (h:QP S Q e E H):Q e E H:=by
 cases e<;>first | exact h.resolve_right (hp _) | exact h
def AWp (ro:Option Nat) (P:Program) (N:Nat) (c:Code) (E:Nat→D) (H:Nat→Option Box) (Q:Post):Prop:=
 ∀ S a w,S.N=N→RepS S E H a w→c.wpIn (Fw ro) 0 P (fun e a' w'=>∃ E' H',QP S Q e E' H'∧RepS S E' H' a' w') a w
def AThen (next:(Nat→D)→(Nat→Option Box)→Prop) (Q:Post):Post
 | .normal,E,H=>next E H
 | e,E,H=>Q e E H
def AInBlock (id:Nat) (Q:Post):Post
 | .exit id',E,H=>match Nat.beq id' id with | true=>Q .normal E H | false=>Q (.exit id') E H
 | e,E,H=>Q e E H
section
variable {ro:Option Nat} {P:Program} {N:Nat} {E E':Nat→D} {H H':Nat→Option Box} {Q:Post} {S:Cx} {a:Act} {w:World}
theorem AWp.mono {c:Code} {Q':Post} (h:AWp ro P N c E H Q) (hq:∀ e E H,Q e E H→Q' e E H):AWp ro P N c E H Q':=fun S a w hN hR=>wpIn_mono (h S a w hN hR) (fun e a w ⟨E',H',h1,h2⟩=>⟨E',H',h1.mono hq,h2⟩)
theorem awp_sub {c:Code} (hs:Sub E H E' H') (h:AWp ro P N c E' H' Q):AWp ro P N c E H Q:=fun S a w hN hR=>h S a w hN (hs S a w hR)
theorem awp_skip (h:Q .normal E H):AWp ro P N .skip E H Q:=fun S a w hN hR=>wpIn_skip ⟨E,H,h,hR⟩
theorem awp_exit {id:Nat} (h:Q (.exit id) E H):AWp ro P N (.exit id) E H Q:=fun S a w hN hR=>wpIn_exit ⟨E,H,h,hR⟩
theorem awp_ret (h:Q .ret E H):AWp ro P N .ret E H Q:=fun S a w hN hR=>wpIn_ret ⟨E,H,h,hR⟩
theorem awp_seq {x y:Code} (h:AWp ro P N x E H (AThen (fun E' H'=>AWp ro P N y E' H' Q) Q)):AWp ro P N (.seq x y) E H Q:=fun S a w hN hR=>by
 refine wpIn_seq (wpIn_mono (h S a w hN hR) (fun e a' w' ⟨E',H',h1,h2⟩=>?_))
 cases e with
 | normal=>exact h1 S a' w' hN h2
 | _=>exact ⟨E',H',h1,h2⟩
theorem awp_block {id:Nat} {c:Code} (h:AWp ro P N c E H (AInBlock id Q)):AWp ro P N (.block id c) E H Q:=fun S a w hN hR=>by
 refine wpIn_block (wpIn_mono (h S a w hN hR) (fun e a' w' ⟨E',H',h1,h2⟩=>?_))
 cases e with
 | exit id'=>
  replace h1:AInBlock id Q (.exit id') E' H':=h1
  simp only [AInBlock] at h1
  simp only [Exit.inBlock]
  by_cases q:id'=id
  ·subst q
   rw [if_pos rfl]
   rw [show Nat.beq id' id'=true by simp] at h1
   exact ⟨E',H',h1,h2⟩
  ·rw [if_neg q]
   have:Nat.beq id' id=false:=by
    cases hb:Nat.beq id' id
    ·rfl
    ·exact absurd (Nat.eq_of_beq_eq_true hb) q
   rw [this] at h1
   exact ⟨E',H',h1,h2⟩
 | _=>exact ⟨E',H',h1,h2⟩
theorem awp_cond {c:Operand} {x y:Code} {t:Bool} (hc:Opd E c (.val (.bool t))) (h:AWp ro P N (if t=true then x else y) E H Q):AWp ro P N (.cond c x y) E H Q:=fun S a w hN hR=>by
 obtain ⟨Z,i,hF⟩:=hR
 exact wpIn_cond (hF.opd hc).valEq (h S a w hN ⟨Z,i,hF⟩)
theorem awp_split {c:Operand} {x y:Code} {t:Bool} (hc:Opd E c (.val (.bool t))) (h1:t=true→AWp ro P N x E H Q) (h2:t=false→AWp ro P N y E H Q):AWp ro P N (.cond c x y) E H Q:=awp_cond hc (by
 cases t
 ·simpa using h2 rfl
 ·simpa using h1 rfl)
theorem least (p:Nat→Prop) (h:∃ n,p n):∃ n,p n∧∀ m,p m→n≤m:=by
 obtain ⟨n,hn⟩:=h
 induction n using Nat.strongRecOn with
 | _ n ih=>
  by_cases q:∃ m,m<n∧p m
  ·obtain ⟨m,hm,hp⟩:=q
   exact ih m hm hp
  ·refine ⟨n,hn,fun m hm=>?_⟩
   rcases Nat.lt_or_ge m n with q2 | q2
   ·exact absurd ⟨m,q2,hm⟩ q
   ·exact q2
theorem awp_loop {c:Code} (I:Nat→(Nat→D)→(Nat→Option Box)→Prop) (n:Nat) (h0:I n E H) (round:∀ n E H,I n E H→AWp ro P N c E H (AThen (fun E' H'=>∃ n',n'<n∧I n' E' H') Q)):AWp ro P N (.loop c) E H Q:=fun S a w hN hR=>by
 classical
 let J:Nat→Act→World→Prop:=fun n a w=>∃ E H,I n E H∧RepS S E H a w
 refine wpIn_loop (fun a w=>∃ n,J n a w) (fun a w=>if h:∃ n,J n a w then Classical.choose (least _ h) else 0) ⟨n,E,H,h0,hR⟩ (fun a w hI=>?_)
 have hm:=(Classical.choose_spec (least _ hI)).1
 obtain ⟨E1,H1,i1,r1⟩:=hm
 refine wpIn_mono (round _ E1 H1 i1 S a w hN r1) (fun e a' w' ⟨E2,H2,h1,h2⟩=>?_)
 cases e with
 | normal=>
  obtain ⟨n',hn,hI'⟩:=h1
  have hJ:J n' a' w':=⟨E2,H2,hI',h2⟩
  refine ⟨⟨n',hJ⟩,?_⟩
  show dite _ _ _<dite _ _ _
  rw [dif_pos hI,dif_pos ⟨n',hJ⟩]
  exact Nat.lt_of_le_of_lt ((Classical.choose_spec (least _ ⟨n',hJ⟩)).2 n' hJ) hn
 | _=>exact ⟨E2,H2,h1,h2⟩
theorem Fits.grown {Z Z':Zn} {i:Nm} {w':World} (h:Fits S E H Z i a w) (hos:w'.os=w.os∧w'.tape=w.tape∧w'.output=w.output∧w.heap.size≤w'.heap.size) (hk:∀ b,b<w.heap.size→w'.heap[b]? = w.heap[b]?) (hZ:∀ o b,Z o b→Z' o b) (hZ2:∀ b,Z' true b→Z true b∨(w.heap.size≤b∧b<w'.heap.size)) (hZ3:∀ b,Z' false b→Z' true b∧S.w0.heap.size≤b):Fits S E H Z' i a w':=by
 have hsz:=h.kept.size
 refine h.step (fun _=>False) hos (fun b hb _=>hk b hb) (fun _ _=>rfl) (fun _ _=>rfl) (fun _ h=>h.elim) (fun x _ e=>h.nil x e) (fun x _ e=>h.nil x e) hZ (fun b hb=>(hZ2 b hb).imp id (fun q=>⟨q.2,by omega,.inl q.1,fun _ _ h=>h.elim⟩)) hZ3 (fun _ _ h=>h.elim) (fun _ _ _ h=>h.elim) (fun _ _ _ _ _ h=>h.elim)
theorem RepS.drew (h:RepS S E H a w):RepS S E H a w.drew:=by
 obtain ⟨Z,i,h⟩:=h
 exact ⟨Z,i,h.grown (w':=w.drew) ⟨rfl,rfl,rfl,Nat.le_refl _⟩ (fun _ _=>rfl) (fun _ _ h=>h) (fun _ h=>.inl h) (fun b hb=>⟨h.zsub b hb,h.zNew b hb⟩)⟩
def seqOk (seen:List Nat):List Rec→Bool
 | []=>true
 | R::Rs=> !meets seen R.fresh && seqOk (R.keys++seen) Rs
theorem seqOk_spec:∀ {Rs:List Rec} {seen:List Nat},seqOk seen Rs=true→∀ (i:Nat) (R:Rec),Rs[i]? = some R→∀ k,k∈R.fresh→k ∉ seen∧∀ (j:Nat) (R':Rec),j<i→Rs[j]? = some R'→k ∉ R'.keys
 | [],_,_,i,R,h,_,_=>by simp at h
 | R0::Rs,seen,h,i,R,hi,k,hk=>by
  simp only [seqOk,Bool.and_eq_true] at h
  cases i with
  | zero=>
   obtain rfl:R0=R:=by simpa using hi
   exact ⟨fun hs=>meets_no (by simpa using h.1) hs hk,fun j _ hj=>by omega⟩
  | succ i=>
   obtain ⟨q1,q2⟩:=seqOk_spec h.2 i R (by simpa using hi) k hk
   refine ⟨fun hs=>q1 (by simp [hs]),fun j R' hj hR'=>?_⟩
   cases j with
   | zero=>
    obtain rfl:R0=R':=by simpa using hR'
    exact fun hs=>q1 (by simp [hs])
   | succ j=>exact q2 j R' (by omega) (by simpa using hR')
theorem wpOps_trace (hN:S.N=N) {ops:Array Oper} {E0:Nat→D} {H0:Nat→Option Box} {Rs:List Rec} (hT:Tr P N ops ops.toList E0 H0 Rs) (hO:seqOk [] Rs=true) (hF:∀ R,R∈Rs→∀ k,k∈R.fresh→H0 k=none∧1000≤k) {Q:Exit→Act→World→Prop} (hX:∀ ch a' w',S.pan ch→RepX S a' w'→Q (.panic ch) a' w') (hQ:∀ a w,RepS S (runE E0 Rs) (runH H0 Rs) a w→Q .normal a w) :
  ∀ (m k:Nat) (a:Act) (w:World),k+m=ops.size→RepS S (foldE (fun j=>decide (j<k)) 0 Rs E0) (foldH (fun j=>decide (j<k)) 0 Rs H0) a w→wpOpsIn (Fw ro) 0 P ops Q (List.range' k m) a w:=by
 have hlen:Rs.length=ops.size:=by rw [hT.len];simp
 intro m
 induction m with
 | zero=>
  intro k a w hk hR
  refine hQ a w ?_
  rw [foldE_all _ _ _ _ (fun j hj=>by simp;omega),foldH_all _ _ _ _ (fun j hj=>by simp;omega)] at hR
  exact hR
 | succ m ih=>
  intro k a w hk hR
  rw [List.range'_succ,wpOpsIn_cons]
  have ho:ops[k]? = some (ops[k]'(by omega)):=Array.getElem?_eq_getElem (by omega)
  obtain ⟨R,hRi,hD⟩:=hT.at 0 k _ (by rw [Array.getElem?_toList];exact ho)
  simp only [Nat.zero_add] at hD
  refine hD.step (fun _ _=>rfl) (fun _ _=>rfl) (fun x hx=>?_) hN hR ho hX (fun a' w' hR'=>ih (k+1) a' w' (by omega) ?_)
  ·refine ⟨none_fold _ x Rs 0 H0 (hF R (List.mem_of_getElem? hRi) x hx).1 (fun j Rj hj hs=>?_),(hF R (List.mem_of_getElem? hRi) x hx).2⟩
   simp only [Nat.zero_add,decide_eq_true_eq] at hs
   exact (seqOk_spec hO k R hRi x hx).2 j Rj hs hj
  ·have eE:foldE (fun j=>decide (j<k+1)) 0 Rs E0=updE (foldE (fun j=>decide (j<k)) 0 Rs E0) R.dst R.r:=by
    funext t
    by_cases hd:R.dst=some t
    ·rw [foldE_last _ t Rs 0 k E0 R hRi hd (by simp) (fun j Rj hij hj hdj=>by simp;omega),hd]
     exact updE_yes.symm
    ·rw [updE_no hd]
     refine foldE_congr _ _ t Rs 0 E0 E0 rfl (fun j Rj hj hdj=>?_)
     have:j≠k:=fun e=>by subst e;rw [hRi] at hj;cases hj;exact hd hdj
     rw [Nat.zero_add]
     exact decide_eq_decide.2 (by omega)
   have eH:foldH (fun j=>decide (j<k+1)) 0 Rs H0=updH (foldH (fun j=>decide (j<k)) 0 Rs H0) R.ws:=by
    funext x
    by_cases hd:x∈R.ws.map (·.1)
    ·rw [foldH_last _ x (foldH (fun j=>decide (j<k)) 0 Rs H0) Rs 0 k H0 R hRi hd (by simp) (fun j Rj hij hj hdj=>by simp;omega)]
    ·rw [updH_no hd]
     refine foldH_congr _ _ x Rs 0 H0 H0 rfl (fun j Rj hj hdj=>?_)
     have:j≠k:=fun e=>by subst e;rw [hRi] at hj;cases hj;exact hd hdj
     rw [Nat.zero_add]
     exact decide_eq_decide.2 (by omega)
   rw [eE,eH]
   exact hR'
end
/-! ### By lists -/
def lk:List (Nat × D)→Nat→D
 | [],_=>.any
 | (s,d)::l,t=>match Nat.beq s t with | true=>d | false=>lk l t
def hk:List (Nat × Option Box)→Nat→Option Box
 | [],_=>none
 | (s,B)::l,k=>match Nat.beq s k with | true=>B | false=>hk l k
theorem beq_ne {a b:Nat} (h:a≠b):Nat.beq a b=false:=by
 cases hb:Nat.beq a b
 ·rfl
 ·exact absurd (Nat.eq_of_beq_eq_true hb) h
theorem lk_upd {env:List (Nat × D)} {d:Nat} {r:D}:updE (lk env) (some d) r=lk ((d,r)::env):=by
 funext t
 simp only [updE,lk]
 by_cases q:d=t
 ·subst q;simp
 ·rw [if_neg q,beq_ne q]
theorem hk_upd {box:List (Nat × Option Box)}:∀ {ws:List (Nat × Option Box)},updH (hk box) ws=hk (ws++box)
 | []=>rfl
 | (x,B)::l=>by
  funext t
  simp only [updH,hk,List.cons_append]
  by_cases q:x=t
  ·subst q;simp
  ·rw [if_neg q,beq_ne q]
   exact congrFun hk_upd t
section
variable {ro:Option Nat} {P:Program} {N:Nat} {Q:Post}
def RunK (P:Program) (N:Nat) (ops:Array Oper) (rest:List Oper) (env:List (Nat × D)) (box:List (Nat × Option Box)) (done:List Rec) (K:List Rec→List (Nat × D)→List (Nat × Option Box)→Prop):Prop:=
 ∃ Rs env' box',Tr P N ops rest (lk env) (hk box) Rs∧runE (lk env) Rs=lk env'∧runH (hk box) Rs=hk box'∧K (done++Rs) env' box'
variable {ops:Array Oper} {o:Oper} {rest:List Oper} {env:List (Nat × D)} {box:List (Nat × Option Box)} {done:List Rec} {K:List Rec→List (Nat × D)→List (Nat × Option Box)→Prop}
theorem run_nil (h:K done env box):RunK P N ops [] env box done K:=⟨[],env,box,.nil _ _,rfl,rfl,by simpa using h⟩
theorem run_put {d:Nat} {names:List Nat} {r:D} {ws:List (Nat × Option Box)} {fresh:List Nat} (hl:Loc P N o (lk env) (hk box) ⟨names,some d,r,ws,fresh⟩) (hg:o.guard=none)
  (h:RunK P N ops rest ((d,r)::env) (ws++box) (done++[⟨names,some d,r,ws,fresh⟩]) K):RunK P N ops (o::rest) env box done K:=by
 obtain ⟨Rs,env',box',h1,h2,h3,h4⟩:=h
 rw [← lk_upd,← hk_upd] at h1
 rw [← lk_upd] at h2
 rw [← hk_upd] at h3
 exact ⟨_::Rs,env',box',.exec (by unfold GuardIs;rw [hg]) hl h1,h2,h3,by simpa using h4⟩
theorem run_eff {names:List Nat} {r:D} {ws:List (Nat × Option Box)} {fresh:List Nat} (hl:Loc P N o (lk env) (hk box) ⟨names,none,r,ws,fresh⟩) (hg:o.guard=none)
  (h:RunK P N ops rest env (ws++box) (done++[⟨names,none,r,ws,fresh⟩]) K):RunK P N ops (o::rest) env box done K:=by
 obtain ⟨Rs,env',box',h1,h2,h3,h4⟩:=h
 rw [← hk_upd] at h1
 rw [← hk_upd] at h3
 exact ⟨_::Rs,env',box',.exec (by unfold GuardIs;rw [hg]) hl h1,h2,h3,by simpa using h4⟩
theorem run_yes {j t:Nat} {c:Bool} {dst:Option Nat} {op:Op} {ty:TypeId} {pos:String} {after:Array Edge} (ht:(ops[j]?).bind (·.dst)=some t) (hx:lk env t = .val (.bool c)) (h:RunK P N ops (⟨dst,op,ty,pos,after,none⟩::rest) env box done K):RunK P N ops (⟨dst,op,ty,pos,after,some (j,c)⟩::rest) env box done K:=by
 obtain ⟨Rs,env',box',h1,h2,h3,h4⟩:=h
 cases h1 with
 | exec hg hl ht'=>exact ⟨_,env',box',.exec ⟨t,true,c,ht,hx,by simp⟩ hl ht',h2,h3,h4⟩
 | skip hg hd ht'=>cases hg
 | maybe hg hd hl ht'=>
  obtain rfl:_=true:=hg
  exact ⟨_,env',box',.maybe ⟨t,true,c,ht,hx,by simp⟩ hd hl ht',h2,h3,h4⟩
theorem run_no {j t d:Nat} {c:Bool} {op:Op} {ty:TypeId} {pos:String} {after:Array Edge} (ht:(ops[j]?).bind (·.dst)=some t) (hx:lk env t = .val (.bool (!c))) (hd:Nat.blt d (fsz N)=true) (h:RunK P N ops rest ((d,.any)::env) box (done++[⟨[],some d,.any,[],[]⟩]) K):RunK P N ops (⟨some d,op,ty,pos,after,some (j,c)⟩::rest) env box done K:=by
 obtain ⟨Rs,env',box',h1,h2,h3,h4⟩:=h
 rw [← lk_upd] at h1 h2
 exact ⟨⟨[],some d,.any,[],[]⟩::Rs,env',box',.skip ⟨t,true, !c,ht,hx,by cases c<;>rfl⟩ hd h1,h2,h3,by simpa using h4⟩
theorem run_maybe {j t d:Nat} {c x g:Bool} {op:Op} {ty:TypeId} {pos:String} {after:Array Edge} {r:D} {names:List Nat} (ht:(ops[j]?).bind (·.dst)=some t) (hx:lk env t=when g (.val (.bool x))) (hd:Nat.blt d (fsz N)=true) (hl:(g && (x == c))=true→Loc P N ⟨some d,op,ty,pos,after,none⟩ (lk env) (hk box) ⟨names,some d,r,[],[]⟩) (h:RunK P N ops rest ((d,when (g && (x == c)) r)::env) box (done++[⟨names,some d,when (g && (x == c)) r,[],[]⟩]) K):RunK P N ops (⟨some d,op,ty,pos,after,some (j,c)⟩::rest) env box done K:=by
 obtain ⟨Rs,env',box',h1,h2,h3,h4⟩:=h
 rw [← lk_upd] at h1 h2
 exact ⟨⟨names,some d,when (g && (x == c)) r,[],[]⟩::Rs,env',box',.maybe ⟨t,g,x,ht,hx,rfl⟩ hd hl h1,h2,h3,by simpa using h4⟩
def okR (draw:Bool) (l:List Oper) (Rs:List Rec) (box:List (Nat × Option Box)):Bool:=
 (Rs.all fun R=>R.fresh.all fun k=>(hk box k).isNone && Nat.ble 1000 k) && match draw with | true=>regOk l Rs | false=>seqOk [] Rs
theorem awp_reg [hm:Mix P] {id:Nat} {l:List Oper} {draw:Bool} {G:List (Nat × D)→List (Nat × Option Box)→Prop} (hG:∀ e b,G e b→Q .normal (lk e) (hk b)) (h:RunK P N l.toArray l env box [] (fun Rs env' box'=>okR draw l Rs box=true∧G env' box')):AWp ro P N (.region id l.toArray draw) (lk env) (hk box) Q:=fun S a w hN hR=>by
 obtain ⟨Rs,env',box',h1,h2,h3,h4,h6⟩:=h
 rw [List.nil_append] at h4
 unfold okR at h4
 rw [Bool.and_eq_true] at h4
 obtain ⟨h5,h4⟩:=h4
 have hfr:∀ R,R∈Rs→∀ k,k∈R.fresh→hk box k=none∧1000≤k:=fun R hR k hk'=>by
  have:=List.all_eq_true.1 (List.all_eq_true.1 h5 R hR) k hk'
  simpa using this
 have hQ:∀ a w,RepS S (runE (lk env) Rs) (runH (hk box) Rs) a w→(fun e a' w'=>∃ E' H',QP S Q e E' H'∧RepS S E' H' a' w') .normal a w:=fun a w hR=>⟨_,_,hG _ _ h6,by rw [← h2,← h3];exact hR⟩
 cases draw with
 | false=>
  refine wpIn_region ?_
  have:=wpOps_trace (ro:=ro) hN (ops:=l.toArray) (by simpa using h1) h4 hfr (Q:=fun e a' w'=>∃ E' H',QP S Q e E' H'∧RepS S E' H' a' w') (fun ch a' w' hp ⟨_,hr⟩=>⟨_,_,.inr hp,hr⟩) hQ l.toArray.size 0 a w (by omega) (by
   rw [foldE_none _ _ _ _ (fun j hj=>by simp),foldH_none _ _ _ _ (fun j hj=>by simp)];exact hR)
  rwa [List.range_eq_range']
 | true=>
  refine wpIn_region_any hm.mix ?_
  unfold regOk at h4
  have hno:∀ j,(Array.replicate l.toArray.size false).getD j false=false:=fun j=>by
   unfold Array.getD
   split<;>simp
  refine wpAny_trace (ro:=ro) hN (ops:=l.toArray) (by simpa using h1) (by simpa using h4) hfr (Q:=fun e a' w'=>∃ E' H',QP S Q e E' H'∧RepS S E' H' a' w') (fun ch a' w' hp ⟨_,hr⟩=>⟨_,_,.inr hp,hr⟩) hQ l.toArray.size _ a w.drew (by simp) Clsd.start ?_ ?_
  ·exact Nat.le_trans List.countP_le_length (by simp)
  ·rw [foldE_none _ _ _ _ (fun j _=>hno j),foldH_none _ _ _ _ (fun j _=>hno j)];exact hR.drew
end


def ZL (lend:Bool) (L:List Nat) (Z:Zn) (i:Nm) (w:World):Zn:=fun o b=>Z o b∨(lend=true∧o=true∧b<w.heap.size∧∀ k c,k∈L→i k≠some (some (b,c)))
def CvV (lend:Bool) (L ns:List Nat) (H0:Nat→Option Box) (d d':D):Prop:=∀ H,(∀ k,k∈ns→H k=H0 k)→∀ S E a w Z i v,Fits S E H Z i a w→(∀ k,k∈L→∃ B,H k=some B∧B.mut=true)→Rep Z w i v d→Rep (ZL lend L Z i w) w noN v d'
def memB (k:Nat):List Nat→Bool
 | []=>false
 | x::l=>Nat.beq x k || memB k l
theorem memB_spec {k:Nat}:∀ {l:List Nat},memB k l=true→k∈l
 | [],h=>by cases h
 | x::l,h=>by
  simp only [memB,Bool.or_eq_true] at h
  rcases h with h | h
  ·rw [Nat.eq_of_beq_eq_true h];simp
  ·exact List.mem_cons_of_mem _ (memB_spec h)
theorem memB_no {k:Nat}:∀ {l:List Nat},memB k l=false→k ∉ l
 | [],_=>by simp
 | x::l,h=>by
  simp only [memB,Bool.or_eq_false_iff] at h
  have:=memB_no h.2
  intro hm
  rcases List.mem_cons.1 hm with rfl | hm
  ·simp at h
  ·exact this hm
section
variable {lend:Bool} {L ns:List Nat} {S:Cx} {E:Nat→D} {H H':Nat→Option Box} {Z:Zn} {i:Nm} {a:Act} {w:World}
theorem ZL.sub (h:∀ b,Z false b→Z true b):∀ b,ZL lend L Z i w false b→ZL lend L Z i w true b:=fun b hb=>by
 rcases hb with q | ⟨_,q,_⟩
 ·exact .inl (h b q)
 ·cases q
theorem CvV.id {d:D} (h:d.free (fun _=>false)=true):CvV lend L ns H d d   :=fun H1 hH S E a w Z i v hF _ hv=>(hv.nm h (fun k x hk=>by cases hk)).mem (fun o b hz=>⟨.inl hz,rfl⟩)
theorem CvV.cvt {d d1 d2:D} (h:CvV lend L ns H d d1) (k:Cvt d1 d2):CvV lend L ns H d d2   :=fun H1 hH S E a w Z i v hF hL hv=>k.cv (ZL.sub hF.zsub) (h H1 hH S E a w Z i v hF hL hv)
theorem Fits.lent (hF:Fits S E H Z i a w) (hL:∀ k,k∈L→∃ B,H k=some B∧B.mut=true) {k b:Nat} {cap:Cp} {B:Box} (hk:H k=some B) (hm:B.mut=true) (hi:i k=some (some (b,cap))) (hkL:k ∉ L) (hb:b<w.heap.size):ZL true L Z i w true b:=
 .inr ⟨rfl,rfl,hb,fun k' c hk' e=>by
  obtain ⟨B',h1,h2⟩:=hL k' hk'
  exact hkL (hF.injR k k' B B' b cap c hk h1 hm h2 hi e▸hk')⟩
theorem CvV.sl {k n m len:Nat} {f:Nat→List D} (h:isArr (H k) n m f) (hn:len≤n) (hkL:memB k L=false) (hns:memB k ns=true):CvV true L ns H (.sl k m len) (.fz true len m f)   :=fun H1 hH S E a w Z i v hF hL hv=>by
 rw [← hH k (memB_spec hns)] at h
 cases hv with
 | @sl _ b _ _ _ cap hib h1 h2=>
  obtain ⟨t,cp,hA⟩:=hF.arr h hib
  have hz:ZL true L Z i w true b:=by
   obtain ⟨t',hk | hk⟩:=h
   ·obtain ⟨cs,hB,_⟩:=hA
    exact hF.lent hL hk rfl hib (memB_no hkL) hB.lt
   ·rcases hF.box k _ hk with ⟨b',c',e1,_,_,e4,_⟩ | ⟨e1,_⟩
    ·rw [hib] at e1;cases e1;exact .inl (hF.zsub _ (e4 rfl))
    ·rw [hib] at e1;cases e1
  obtain ⟨cs,hB,hs,hnc,hfl,hall⟩:=hA
  refine .fz _ _ _ len cap.c m f (fun e c=>cs.getD (e*m+c) undef) h1 h2 (fun e he=>hfl e (by omega)) (fun e c he hc=>⟨b,0,rfl,hz,?_,(hall e c (by omega) hc).1⟩) (fun e c he hc=>(hall e c (by omega) hc).2.mem (fun o b hz=>⟨.inl hz,rfl⟩))
  have hlt:e*m+c<cs.size:=by
   have:(e+1)*m≤cp*m:=Nat.mul_le_mul_right _ (by omega)
   rw [Nat.add_mul] at this;omega
  rw [Nat.zero_add];exact hB.cell _ hlt
 | sl0=>exact .fz _ _ none 0 0 m f (fun _ _=>undef) (Nat.le_refl _) (by omega) (fun e he=>by omega) (fun e c he=>by omega) (fun e c he=>by omega)
theorem CvV.ice {k n m len:Nat} {t:TypeId} {f:Nat→List D} (h:H k=some (.ice t n m f)) (hn:len≤n) (hns:memB k ns=true):CvV lend L ns H (.sl k m len) (.fz false len m f)   :=fun H1 hH S E a w Z i v hF hL hv=>by
 rw [← hH k (memB_spec hns)] at h
 cases hv with
 | @sl _ b _ _ _ cap hib h1 h2=>
  rcases hF.box k _ h with ⟨b',c',e1,_,_,e4,cp,cs,hB,hs,hnc,hfl,hall⟩ | ⟨e1,_⟩
  ·rw [hib] at e1;cases e1
   refine .fz _ _ _ len cap.c m f (fun e c=>cs.getD (e*m+c) undef) h1 h2 (fun e he=>hfl e (by omega)) (fun e c he hc=>⟨b,0,rfl,.inl (e4 rfl),?_,(hall e c (by omega) hc).1⟩) (fun e c he hc=>(hall e c (by omega) hc).2.mem (fun o b hz=>⟨.inl hz,rfl⟩))
   have hlt:e*m+c<cs.size:=by
    have:(e+1)*m≤cp*m:=Nat.mul_le_mul_right _ (by omega)
    rw [Nat.add_mul] at this;omega
   rw [Nat.zero_add];exact hB.cell _ hlt
  ·rw [hib] at e1;cases e1
 | sl0=>exact .fz _ _ none 0 0 m f (fun _ _=>undef) (Nat.le_refl _) (by omega) (fun e he=>by omega) (fun e c he=>by omega) (fun e c he=>by omega)
inductive CvVL (lend:Bool) (L ns:List Nat) (H:Nat→Option Box):List D→List D→Prop where
 | nil:CvVL lend L ns H [] []
 | cons {d d':D} {l l':List D} (h:CvV lend L ns H d d') (k:CvVL lend L ns H l l'):CvVL lend L ns H (d::l) (d'::l')
theorem CvVL.len {l l':List D} (h:CvVL lend L ns H l l'):l.length=l'.length:=by induction h with | nil=>rfl | cons _ _ ih=>simp [ih]
theorem CvVL.at {l l':List D} (h:CvVL lend L ns H l l'):∀ j,CvV lend L ns H (dl l j) (dl l' j):=by
 induction h with
 | nil=>intro j H1 hH S E a w Z i v _ _ _;exact .any _ _
 | cons h _ ih=>intro j;cases j with
  | zero=>exact h
  | succ j=>exact ih j
theorem CvV.agg {l l':List D} (h:CvVL lend L ns H l l'):CvV lend L ns H (.agg l) (.agg l')   :=fun H1 hH S E a w Z i v hF hL hv=>by
 cases hv with | agg _ vs _ hl h1 hr=>exact .agg _ vs _ (hl.trans h.len) (fun j hj=>h1 j (by rw [h.len];exact hj)) (fun j hj=>h.at j H1 hH S E a w Z i _ hF hL (hr j (by rw [h.len];exact hj)))
theorem CvV.tup {l l':List D} (h:CvVL lend L ns H l l'):CvV lend L ns H (.tup l) (.tup l')   :=fun H1 hH S E a w Z i v hF hL hv=>by
 cases hv with | tup _ vs _ hl hr=>exact .tup _ vs _ (hl.trans h.len) (fun j hj=>h.at j H1 hH S E a w Z i _ hF hL (hr j (by rw [h.len];exact hj)))
theorem CvV.clo {fn:FuncId} {l l':List D} (h:CvVL lend L ns H l l'):CvV lend L ns H (.clo fn l) (.clo fn l')   :=fun H1 hH S E a w Z i v hF hL hv=>by
 cases hv with | clo _ _ vs _ hl hr=>exact .clo _ fn vs _ (hl.trans h.len) (fun j hj=>h.at j H1 hH S E a w Z i _ hF hL (hr j (by rw [h.len];exact hj)))
theorem CvV.lit {k m e c:Nat} {t:TypeId} {ds ds':List D} (h:H k=some (.lit t ds)) (he:e*m=0) (hc:CvVL true L ns H ds ds') (hkL:memB k L=false) (hns:memB k ns=true):CvV true L ns H (.eptr k m e c) (.fptr true (dropL c ds'))   :=fun H1 hH S E a w Z i v hF hL hv=>by
 rw [← hH k (memB_spec hns)] at h
 cases hv with | @eptr _ b cap _ _ _ _ hib=>
 rcases hF.box k _ h with ⟨b',c',e1,_,_,_,cs,hB,hs,hall⟩ | ⟨e1,_⟩
 ·rw [hib] at e1;cases e1
  have hz:=hF.lent hL h rfl hib (memB_no hkL) hB.lt
  have hl:(dropL c ds').length=ds.length - c:=by rw [dropL_eq,List.length_drop,hc.len]
  rw [he,Nat.zero_add]
  refine .fptr _ _ b c _ (fun j=>cs.getD (c+j) undef) (fun j hj=>⟨hz,hB.cell _ (by omega),(hall _ (by omega)).1⟩) (fun j hj=>?_)
  rw [dl_drop]
  exact hc.at (c+j) H1 hH S E a w Z i _ hF hL (hall (c+j) (by omega)).2
 ·rw [hib] at e1;cases e1
theorem CvV.icep {k n m e c:Nat} {t:TypeId} {f:Nat→List D} (h:H k=some (.ice t n m f)) (he:e<n) (hns:memB k ns=true):CvV lend L ns H (.eptr k m e c) (.fptr false (dropL c (f e)))   :=fun H1 hH S E a w Z i v hF hL hv=>by
 rw [← hH k (memB_spec hns)] at h
 cases hv with | @eptr _ b cap _ _ _ _ hib=>
 rcases hF.box k _ h with ⟨b',c',e1,_,_,e4,cp,hA⟩ | ⟨e1,_⟩
 ·rw [hib] at e1;cases e1
  have hA:ArrAt Z w b cp t n m f:=hA
  have hfe:(f e).length=m:=by obtain ⟨cs,_,_,_,hfl,_⟩:=hA;exact hfl e he
  have hl:(dropL c (f e)).length=m - c:=by rw [dropL_eq,List.length_drop,hfe]
  refine .fptr _ _ b _ _ (fun j=>(w.cell? ⟨b,e*m+(c+j),none⟩).getD undef) (fun j hj=>?_) (fun j hj=>?_)
  ·obtain ⟨u,u1,u2,u3⟩:=hA.cellAt (e:=e) (c:=c+j) he (by omega)
   refine ⟨.inl (e4 rfl),?_,?_⟩
   ·rw [Nat.add_assoc];simp [u1]
   ·simpa [u1] using u2
  ·obtain ⟨u,u1,u2,u3⟩:=hA.cellAt (e:=e) (c:=c+j) he (by omega)
   rw [dl_drop]
   simp only [u1,Option.getD_some]
   exact u3.mem (fun o b hz=>⟨.inl hz,rfl⟩)
 ·rw [hib] at e1;cases e1
theorem CvV.icel {k n m e c:Nat} {t:TypeId} {f:Nat→List D} {l:List D} (h:H k=some (.ice t 1 n f)) (he:e*m=0) (hns:memB k ns=true) (hd:dropL c (f 0)=l):CvV lend L ns H (.eptr k m e c) (.fptr false l)   :=fun H1 hH S E a w Z i v hF hL hv=>by
 subst hd
 refine CvV.icep (lend:=lend) (L:=L) (e:=0) (m:=n) h (by omega) hns H1 hH S E a w Z i v hF hL ?_
 cases hv with | @eptr _ b cap _ _ _ _ hib=>
 have:=Rep.eptr (Z:=Z) (w:=w) i k n 0 c hib
 rw [Nat.zero_mul] at this
 rw [he];exact this
theorem CvV.iceT {k n m e c:Nat} {t:TypeId} {f:Nat→List D} {l:List D} (h:H k=some (.ice t 1 n f)) (he:e*m=0) (hns:memB k ns=true) (hd:dropL c (f 0)=l):CvV lend L ns H (.eptr k m e c) (.fptr true l):=(CvV.icel h he hns hd).cvt (Cvt.fptr (.inr ⟨rfl,rfl⟩) (Nat.le_refl _) (fun _ _=>.of_eq rfl))
end
class NewD (d:D):Prop where
 nw:∀ {Z Z':Zn} {w:World} {i:Nm} {v:Value},(∀ b,Z false b→Z' false b)→Rep Z w i v d→Rep Z' w i v d
instance:NewD .any:=⟨fun _ _=>.any _ _⟩
instance (v:Value):NewD (.val v):=⟨fun _ h=>by cases h;exact .val _ _⟩
instance (k m e c:Nat):NewD (.eptr k m e c):=⟨fun _ h=>by cases h with | eptr _ _ _ _ _ h=>exact .eptr _ _ _ _ _ h⟩
instance (k m n:Nat):NewD (.sl k m n):=⟨fun _ h=>by
 cases h with
 | sl _ _ _ _ _ h h1 h2=>exact .sl _ _ _ _ _ h h1 h2
 | sl0 _ _ _ h=>exact .sl0 _ _ _ h⟩
instance (k e m n:Nat):NewD (.slr k e m n):=⟨fun _ h=>by cases h with | slr _ _ _ _ _ _ _ h h1 h2 h3=>exact .slr _ _ _ _ _ _ _ h h1 h2 h3⟩
instance (k e m x c:Nat):NewD (.eptrr k e m x c):=⟨fun _ h=>by cases h with | eptrr _ _ _ _ _ _ h h1=>exact .eptrr _ _ _ _ _ _ h h1⟩
class NewDL (l:List D):Prop where
 nw:∀ j,NewD (dl l j)
instance:NewDL []:=⟨fun j=>(inferInstance:NewD .any)⟩
instance (d:D) (l:List D) [h:NewD d] [k:NewDL l]:NewDL (d::l):=⟨fun j=>by cases j with | zero=>exact h | succ j=>exact k.nw j⟩
instance (n m:Nat) (f:Nat→List D) [h:∀ e,NewDL (f e)]:NewD (.fz false n m f):=⟨fun hz hv=>by
 cases hv with | fz _ _ ao _ cap _ _ vs h1 h2 hl ha hr=>
 refine .fz _ _ ao n cap m f vs h1 h2 hl (fun e c he hc=>?_) (fun e c he hc=>((h e).nw c).nw hz (hr e c he hc))
 obtain ⟨b,p,r1,r2,r3⟩:=ha e c he hc
 exact ⟨b,p,r1,hz b r2,r3⟩⟩
instance (l:List D) [h:NewDL l]:NewD (.fptr false l):=⟨fun hz hv=>by
 cases hv with | fptr _ _ b p _ vs ha hr=>exact .fptr _ _ b p l vs (fun c hc=>⟨hz b (ha c hc).1,(ha c hc).2⟩) (fun c hc=>(h.nw c).nw hz (hr c hc))⟩
instance (l:List D) [h:NewDL l]:NewD (.agg l):=⟨fun hz hv=>by
 cases hv with | agg _ vs _ hl h1 hr=>exact .agg _ vs _ hl h1 (fun j hj=>(h.nw j).nw hz (hr j hj))⟩
instance (l:List D) [h:NewDL l]:NewD (.tup l):=⟨fun hz hv=>by
 cases hv with | tup _ vs _ hl hr=>exact .tup _ vs _ hl (fun j hj=>(h.nw j).nw hz (hr j hj))⟩
class NewB (B:Box):Prop where
 nw:∀ {Z Z':Zn} {w:World} {i:Nm} {b:Nat} {cap:Cp},(∀ b,Z false b→Z' false b)→BoxAt Z w i b cap B→BoxAt Z' w i b cap B
instance (t:TypeId) (n m:Nat) (f:Nat→List D) [h:∀ e,NewDL (f e)]:NewB (.arr t n m f):=⟨fun hz ⟨cs,h1,h2,h3,h4,h5⟩=>⟨cs,h1,h2,h3,h4,fun e c he hc=>⟨(h5 e c he hc).1,((h e).nw c).nw hz (h5 e c he hc).2⟩⟩⟩
instance (t t2:TypeId) (nb n m2 n2:Nat) (g:Nat→Nat→List D) [h:∀ e x,NewDL (g e x)]:NewB (.mat t t2 nb n m2 n2 g):=⟨fun hz hB=>MatAt.map hB rfl (fun e x c he hx ⟨cs,h1,h2,h3,h4,h5⟩=>⟨cs,h1,h2,h3,h4,fun y c hy hc=>⟨(h5 y c hy hc).1,((h e y).nw c).nw hz (h5 y c hy hc).2⟩⟩)⟩
instance (t:TypeId) (l:List D) [h:NewDL l]:NewB (.lit t l):=⟨fun hz ⟨cs,h1,h2,h3⟩=>⟨cs,h1,h2,fun j hj=>⟨(h3 j hj).1,(h.nw j).nw hz (h3 j hj).2⟩⟩⟩
class OldD (d:D):Prop where
 od:∀ {Z Z':Zn} {w:World} {i:Nm} {v:Value},(∀ b,Z true b→Z' true b)→Rep Z w i v d→Rep Z' w i v d
instance:OldD .any:=⟨fun _ _=>.any _ _⟩
instance (v:Value):OldD (.val v):=⟨fun _ h=>by cases h;exact .val _ _⟩
instance (k m e c:Nat):OldD (.eptr k m e c):=⟨fun _ h=>by cases h with | eptr _ _ _ _ _ h=>exact .eptr _ _ _ _ _ h⟩
instance (k m n:Nat):OldD (.sl k m n):=⟨fun _ h=>by
 cases h with
 | sl _ _ _ _ _ h h1 h2=>exact .sl _ _ _ _ _ h h1 h2
 | sl0 _ _ _ h=>exact .sl0 _ _ _ h⟩
instance (k e m n:Nat):OldD (.slr k e m n):=⟨fun _ h=>by cases h with | slr _ _ _ _ _ _ _ h h1 h2 h3=>exact .slr _ _ _ _ _ _ _ h h1 h2 h3⟩
instance (k e m x c:Nat):OldD (.eptrr k e m x c):=⟨fun _ h=>by cases h with | eptrr _ _ _ _ _ _ h h1=>exact .eptrr _ _ _ _ _ _ h h1⟩
class OldDL (l:List D):Prop where
 od:∀ j,OldD (dl l j)
instance:OldDL []:=⟨fun j=>(inferInstance:OldD .any)⟩
instance (d:D) (l:List D) [h:OldD d] [k:OldDL l]:OldDL (d::l):=⟨fun j=>by cases j with | zero=>exact h | succ j=>exact k.od j⟩
instance (n m:Nat) (f:Nat→List D) [h:∀ e,OldDL (f e)]:OldD (.fz true n m f):=⟨fun hz hv=>by
 cases hv with | fz _ _ ao _ cap _ _ vs h1 h2 hl ha hr=>
 refine .fz _ _ ao n cap m f vs h1 h2 hl (fun e c he hc=>?_) (fun e c he hc=>((h e).od c).od hz (hr e c he hc))
 obtain ⟨b,p,r1,r2,r3⟩:=ha e c he hc
 exact ⟨b,p,r1,hz b r2,r3⟩⟩
instance (l:List D) [h:OldDL l]:OldD (.fptr true l):=⟨fun hz hv=>by
 cases hv with | fptr _ _ b p _ vs ha hr=>exact .fptr _ _ b p l vs (fun c hc=>⟨hz b (ha c hc).1,(ha c hc).2⟩) (fun c hc=>(h.od c).od hz (hr c hc))⟩
instance (l:List D) [h:OldDL l]:OldD (.agg l):=⟨fun hz hv=>by
 cases hv with | agg _ vs _ hl h1 hr=>exact .agg _ vs _ hl h1 (fun j hj=>(h.od j).od hz (hr j hj))⟩
instance (l:List D) [h:OldDL l]:OldD (.tup l):=⟨fun hz hv=>by
 cases hv with | tup _ vs _ hl hr=>exact .tup _ vs _ hl (fun j hj=>(h.od j).od hz (hr j hj))⟩
instance (f:FuncId) (l:List D) [h:OldDL l]:OldD (.clo f l):=⟨fun hz hv=>by
 cases hv with | clo _ _ vs _ hl hr=>exact .clo _ _ vs _ hl (fun j hj=>(h.od j).od hz (hr j hj))⟩
instance (f:FuncId) (l:List D) [h:NewDL l]:NewD (.clo f l):=⟨fun hz hv=>by
 cases hv with | clo _ _ vs _ hl hr=>exact .clo _ _ vs _ hl (fun j hj=>(h.nw j).nw hz (hr j hj))⟩
class OldB (B:Box):Prop where
 od:∀ {Z Z':Zn} {w:World} {i:Nm} {b:Nat} {cap:Cp},(∀ b,Z true b→Z' true b)→BoxAt Z w i b cap B→BoxAt Z' w i b cap B
instance (t:TypeId) (n m:Nat) (f:Nat→List D) [h:∀ e,OldDL (f e)]:OldB (.arr t n m f):=⟨fun hz ⟨cs,h1,h2,h3,h4,h5⟩=>⟨cs,h1,h2,h3,h4,fun e c he hc=>⟨(h5 e c he hc).1,((h e).od c).od hz (h5 e c he hc).2⟩⟩⟩
instance (t:TypeId) (l:List D) [h:OldDL l]:OldB (.lit t l):=⟨fun hz ⟨cs,h1,h2,h3⟩=>⟨cs,h1,h2,fun j hj=>⟨(h3 j hj).1,(h.od j).od hz (h3 j hj).2⟩⟩⟩
class AllOld (hs:List (Nat × Box)):Prop where
 od:∀ k B,(k,B)∈hs→OldB B∧B.mut=true∧B.free (fun _=>false)=true∧B.nrows=0
instance:AllOld []:=⟨fun k B h=>by cases h⟩
instance (k:Nat) (t:TypeId) (n m:Nat) (f:Nat→List D) (l:List (Nat × Box)) [h:OldB (.arr t n m f)] [g:AllOld l]:AllOld ((k,.arr t n m f)::l):=⟨fun k' B' hm=>by
 rcases List.mem_cons.1 hm with e | hm
 ·cases e;exact ⟨h,rfl,rfl,rfl⟩
 ·exact g.od k' B' hm⟩
class NoName (l:List D):Prop where
 no:D.free.freeL (fun _=>false) l=true
instance (k:Nat) (t:TypeId) (ds:List D) (l:List (Nat × Box)) [h:OldB (.lit t ds)] [n:NoName ds] [g:AllOld l]:AllOld ((k,.lit t ds)::l):=⟨fun k' B' hm=>by
 rcases List.mem_cons.1 hm with e | hm
 ·cases e;exact ⟨h,rfl,n.no,rfl⟩
 ·exact g.od k' B' hm⟩
class AllNew (hs:List (Nat × Box)):Prop where
 nw:∀ k B,(k,B)∈hs→NewB B
instance:AllNew []:=⟨fun k B h=>by cases h⟩
instance (k:Nat) (B:Box) (l:List (Nat × Box)) [h:NewB B] [g:AllNew l]:AllNew ((k,B)::l):=⟨fun k' B' hm=>by
 rcases List.mem_cons.1 hm with e | hm
 ·cases e;exact h
 ·exact g.nw k' B' hm⟩
def Z2 (Zc Zn':Nat→Prop):Zn:=fun o b=>match o with | false=>Zn' b | true=>Zc b∨Zn' b
abbrev Hs:=List (Nat × Box)
def Hs.keys (hs:Hs):List Nat:=hs.map (·.1)
def BoxHas (Z:Zn) (w:World) (i:Nm) (k:Nat) (B:Box):Prop:=B.mut=true∧((∃ b cap,i k=some (some (b,cap))∧(∀ x,Foot B (i k) x→¬ Z true x)∧BoxAt Z w i b cap B)∨(i k=some none∧((∃ t m f,B = .arr t 0 m f)∨∃ t t2 m2 n2 g,B = .mat t t2 0 0 m2 n2 g)))
def HsAt (Z:Zn) (w:World) (i:Nm) (hs:Hs):Prop:=(∀ k B,(k,B)∈hs→BoxHas Z w i k B)∧∀ k k' B B' b,(k,B)∈hs→(k',B')∈hs→Foot B (i k) b→Foot B' (i k') b→k=k'
def RepsI (Z:Zn) (w:World) (i:Nm) (args:List Value) (ds:List D):Prop:=args.length=ds.length∧∀ j,j<ds.length→Rep Z w i (args.getD j undef) (dl ds j)
def DenH (P:Program) (f:FuncId) (ds:List D) (hs:Hs) (r:D) (hs' rs:Hs):Prop:=
 ∀ (Zc:Nat→Prop) (w:World) (i:Nm) (args:List Value),(∀ b,Zc b→b<w.heap.size)→(∀ k,k ∉ hs.keys→i k=none)→HsAt (fun o b=>o=true∧Zc b) w i hs→RepsI (fun o b=>o=true∧Zc b) w i args ds →
  Calls P f args.toArray w fun e w'=>∃ v i' Zn',e = .returned v∧Kept (fun b=>∃ k c,k∈hs.keys∧i k=some (some (b,c))) w w'∧(∀ b,Zn' b→w.heap.size≤b∧b<w'.heap.size)∧(∀ k,k∈hs.keys→i' k=i k)∧(∀ k,k ∉ hs.keys→k ∉ rs.keys→i' k=none) ∧
   (∀ k B b,(k,B)∈rs→Foot B (i' k) b→w.heap.size≤b)∧(∀ k B,(k,B)∈hs'→B.nrows=0)∧HsAt (Z2 Zc Zn') w' i' (hs'++rs)∧Rep (Z2 Zc Zn') w' i' v r
abbrev Den (P:Program) (f:FuncId) (ds:List D) (r:D):Prop:=DenH P f ds [] r [] []


section
variable {ro:Option Nat} {P:Program} {N:Nat} {E E':Nat→D} {H H':Nat→Option Box} {Q:Post} {S:Cx} {Z:Zn} {i:Nm} {a:Act} {w:World}
/-! ### Results -/
def ResD (P:Program) (E:Nat→D) (H:Nat→Option Box) (rv:ResultVar) (d:D):Prop:=
 match rv with
 | .tmp t=>E t=d
 | .cell t ty=>∃ k m e c n ag t' ds,E t = .eptr k m e c∧e*m=0∧H k=some (.lit t' ds)∧LoadIs P ty n ag∧Nat.ble (c+n) ds.length=true∧d=ldD ag (takeL n (dropL c ds))
def rvS (a:Act) (rv:ResultVar):Sem Value:=match rv with | .tmp t=>pure (a.tmps.getD t undef) | .cell t ty=>do loadVar ty (← asAddr (a.tmps.getD t undef))
theorem ResD.run {rv:ResultVar} {d:D} (h:ResD P E H rv d) (hF:Fits S E H Z i a w):∃ v,(rvS a rv).run P w = .ok v w∧Rep Z w i v d:=by
 cases rv with
 | tmp t=>obtain rfl:=h;exact ⟨_,rfl,hF.env t⟩
 | cell t ty=>
  obtain ⟨k,m,e,c,n,ag,t',ds,h1,he,hk,hL,hc,rfl⟩:=h
  replace hc:=Nat.le_of_ble_eq_true hc
  have hv:=h1▸hF.env t
  generalize hq:a.tmps.getD t undef=v at hv
  cases hv with | @eptr _ b cp _ _ _ _ hib=>
  rcases hF.box k _ hk with ⟨b',_,e1,_,_,_,cs,hB,hs,hall⟩ | ⟨q,_⟩
  ·rw [hib] at e1;cases e1
   have hl:=hL.2 ⟨b,e*m+c,none⟩ (fun j=>cs.getD (c+j) undef) w (fun j hj=>by
    rw [addr_add,he,Nat.zero_add];exact hB.cell _ (by omega))
   refine ⟨_,?_,ldD_rep hL.1 (len_seg hc) (fun j hj=>by rw [dl_seg hj];exact hall (c+j) (by omega))⟩
   simp only [rvS,hq]
   simp only [asAddr,pure_bind]
   exact hl
  ·rw [hib] at q;cases q
def ResL (P:Program) (E:Nat→D) (H:Nat→Option Box):List ResultVar→List D→Prop
 | [],[]=>True
 | x::xs,d::ds=>ResD P E H x d∧ResL P E H xs ds
 | _,_=>False
theorem ResL.run (hF:Fits S E H Z i a w):∀ {rvs:List ResultVar} {ds:List D},ResL P E H rvs ds→∃ vs:List Value,(rvs.mapM (rvS a)).run P w = .ok vs w∧vs.length=ds.length∧∀ j,j<ds.length→Rep Z w i (vs.getD j undef) (dl ds j)
 | [],[],_=>⟨[],rfl,rfl,fun j hj=>by simp at hj⟩
 | x::xs,d::ds,h=>by
  obtain ⟨v,h1,h2⟩:=h.1.run hF
  obtain ⟨vs,h3,h4,h5⟩:=ResL.run hF h.2
  refine ⟨v::vs,?_,by simp [h4],fun j hj=>?_⟩
  ·rw [List.mapM_cons]
   simp [h1,h3,Result.andThen]
  ·cases j with
   | zero=>exact h2
   | succ j=>exact h5 j (by simpa using hj)
 | [],_::_,h=>h.elim
 | _::_,[],h=>h.elim
def resD:List D→D
 | [d]=>d
 | ds=>.tup ds
theorem results_run {fn:Func} {ds:List D} (h:ResL P E H fn.results.toList ds) (hF:Fits S E H Z i a w):∃ v,(results fn a.tmps).run P w = .ok v w∧Rep Z w i v (resD ds):=by
 obtain ⟨vs,h1,h2,h3⟩:=ResL.run hF h
 have e:(results fn a.tmps)=(do let vs ← fn.results.mapM (rvS a);pure (if h:vs.size=1 then vs[0] else .tuple vs):Sem Value):=rfl
 have hm:(fn.results.mapM (rvS a)).run P w = .ok vs.toArray w:=by
  rw [Array.mapM_eq_mapM_toList]
  simp [h1,Result.andThen]
 refine ⟨if h:vs.toArray.size=1 then vs.toArray[0] else .tuple vs.toArray,?_,?_⟩
 ·rw [e,Sem.run_bind,hm]
  rfl
 ·match ds,vs,h2,h3 with
  | [d],[v],_,h3=>exact h3 0 (by simp)
  | [],[],_,_=>exact .tup _ [] [] rfl (fun j hj=>by simp at hj)
  | d::d'::ds,v::v'::vs,h2,h3=>
   have h4:¬ (v::v'::vs).toArray.size=1:=by simp
   rw [dif_neg h4]
   exact .tup i _ _ h2 h3
def initE:Nat→List D→List (Nat × D)
 | _,[]=>[]
 | k,d::l=>(k,d)::initE (k+1) l
theorem initE_at:∀ (ds:List D) (k t:Nat),lk (initE k ds) t=if k≤t∧t<k+ds.length then dl ds (t - k) else .any
 | [],k,t=>by rw [if_neg (fun h=>by simp at h;omega)];rfl
 | d::ds,k,t=>by
  simp only [initE,lk]
  by_cases q:k=t
  ·subst q
   rw [if_pos (by simp)]
   simp [dl]
  ·rw [beq_ne q]
   simp only
   rw [initE_at ds (k+1) t]
   by_cases q2:k≤t∧t<k+(d::ds).length
   ·rw [if_pos q2,if_pos (by simp at q2;omega)]
    obtain ⟨m,hm⟩:∃ m,t - k=m+1:=⟨t - k - 1,by omega⟩
    rw [hm,show t - (k+1)=m by omega]
    rfl
   ·rw [if_neg q2,if_neg (by simp at q2 ⊢;omega)]
theorem ArrAt.memC {Z Z':Zn} {w w':World} {b cap:Nat} {t:TypeId} {n m:Nat} {f:Nat→List D} (h:ArrAt Z w b cap t n m f) (hb:w'.heap[b]? = w.heap[b]?) (hZ:∀ o b p u,Z o b→w.cell? ⟨b,p,none⟩=some u→Z' o b∧w'.cell? ⟨b,p,none⟩=some u):ArrAt Z' w' b cap t n m f:=by
 obtain ⟨cs,h1,h2,h3,h4,h5⟩:=h
 exact ⟨cs,hb.trans h1,h2,h3,h4,fun e c he hc=>⟨(h5 e c he hc).1,(h5 e c he hc).2.memC hZ⟩⟩
theorem BoxAt.memC {Z Z':Zn} {w w':World} {i:Nm} {b:Nat} {cap:Cp} {B:Box} (h:BoxAt Z w i b cap B) (hs:w.heap.size≤w'.heap.size) (hb:B ≠ .gone→∀ x,Foot B (some (some (b,cap))) x→w'.heap[x]? = w.heap[x]?) (hZ:∀ o b p u,Z o b→w.cell? ⟨b,p,none⟩=some u→Z' o b∧w'.cell? ⟨b,p,none⟩=some u):BoxAt Z' w' i b cap B:=by
 cases B with
 | lit t ds=>obtain ⟨cs,h1,h2,h3⟩:=h;exact ⟨cs,(hb (by simp) b (.root rfl)).trans h1,h2,fun j hj=>⟨(h3 j hj).1,(h3 j hj).2.memC hZ⟩⟩
 | arr t n m f=>exact ArrAt.memC h (hb (by simp) b (.root rfl)) hZ
 | mat t t2 nb n m2 n2 g=>exact MatAt.map h (hb (by simp) b (.root rfl)) (fun e x c he hx hA=>ArrAt.memC hA (hb (by simp) x ⟨b,cap,rfl,.inr ⟨e,c,he,hx⟩⟩) hZ)
 | ice t n m f=>exact h.imp fun _ h=>ArrAt.memC h (hb (by simp) b (.root rfl)) hZ
 | gone=>exact Nat.lt_of_lt_of_le h hs
theorem Fits.unmark (h:Fits S E H Z i a w) {D:Nat} {ms:List Nat} (ha:a.defers=(D::ms).map mark++S.df) (hms:∀ b,b∈D::ms→Z false b∧w.heap[b]? = some (.deferred (some []))) (hnd:(D::ms).Nodup) (hD1:S.w1.heap.size≤D) (hD2:∀ o,¬ S.Z1 o D) :
  Fits S E H (fun o b=>Z o b∧b≠D) i { a with defers:=ms.map mark++S.df } (w.putObj D (.deferred none)):=by
 obtain ⟨hz,hD⟩:=hms D (by simp)
 have hoth:∀ b,b≠D→(w.putObj D (.deferred none)).heap[b]? = w.heap[b]?:=fun b hb=>World.putObj_heap_other hb
 have hcl:∀ {b:Nat} {t:TypeId} {cs:Array Value},Bk w b t cs→b≠D:=fun hB e=>by subst e;unfold Bk at hB;rw [hD] at hB;cases hB
 have hm:∀ o b p u,Z o b→w.cell? ⟨b,p,none⟩=some u→(Z o b∧b≠D)∧(w.putObj D (.deferred none)).cell? ⟨b,p,none⟩=some u:=fun o b p u hz hu=>by
  have:b≠D:=fun e=>by subst e;simp [World.cell?,hD] at hu
  exact ⟨⟨hz,this⟩,(World.cell?_of_block (w:=w) (a:=⟨b,p,none⟩) (hoth b this)).trans hu⟩
 refine ⟨⟨ms,rfl,(List.nodup_cons.1 hnd).2,fun b hb=>?_⟩,h.size,⟨h.kept.os,h.kept.tape,h.kept.output,by simp;exact h.kept.size,fun b hb hM=>?_⟩,⟨h.kept1.os,h.kept1.tape,h.kept1.output,by simp;exact h.kept1.size,fun b hb hM=>(hoth b (fun e=>by omega)).trans (h.kept1.block b hb hM)⟩,fun o b hb=>⟨h.zk1 o b hb,fun e=>hD2 o (e▸hb)⟩,fun b hb=>⟨h.zsub b hb.1,hb.2⟩,fun b hb=>⟨by simp;exact (h.zOld b hb.1).1,(h.zOld b hb.1).2⟩,fun b hb=>h.zNew b hb.1,fun t=>(h.env t).memC hm,fun k B hB=>?_,fun k B b hB hmu hf=>(fun f=>⟨by simp;exact f.1,f.2.1,fun hz=>f.2.2.1 hz.1,f.2.2.2⟩) (h.foot k B b hB hmu hf),h.nil,h.low,h.inj,fun q=>by have:=h.plain q;rw [ha] at this;have:=congrArg List.length this;simp at this;omega⟩
 ·have hne:b≠D:=fun e=>by subst e;exact (List.nodup_cons.1 hnd).1 hb
  exact ⟨⟨(hms b (by simp [hb])).1,hne⟩,(hoth b hne).trans (hms b (by simp [hb])).2⟩
 ·refine (hoth b (fun e=>?_)).trans (h.kept.block b hb hM)
  subst e
  have:=h.zNew b hz
  omega
 ·rcases h.box k B hB with ⟨b,c,e1,e2,e3,e4,e5⟩ | q
  ·refine .inl ⟨b,c,e1,e2,fun hmu=>⟨fun hzz=>(e3 hmu).1 hzz.1,(e3 hmu).2⟩,fun hic=>⟨e4 hic,?_⟩,e5.memC (by simp) (fun hg=>?_) hm⟩
   ·cases B<;>simp [Box.isIce] at hic
    obtain ⟨_,cs,hB,_⟩:=e5
    exact hcl hB
   ·intro x hf
    obtain ⟨t,cs,q⟩:=e5.footBk hg hf
    exact hoth x (hcl q)
  ·exact .inr q
def hsH:Hs→List (Nat × Option Box)
 | []=>[]
 | (k,B)::l=>(k,some B)::hsH l
theorem hsH_mem:∀ {hs:Hs} {k:Nat} {B:Box},hk (hsH hs) k=some B→(k,B)∈hs
 | [],k,B,h=>by cases h
 | (x,C)::l,k,B,h=>by
  simp only [hsH,hk] at h
  by_cases q:x=k
  ·subst q;simp at h;subst h;simp
  ·rw [beq_ne q] at h;exact List.mem_cons_of_mem _ (hsH_mem h)
theorem hsH_none:∀ {hs:Hs} {k:Nat},hk (hsH hs) k=none→k ∉ hs.keys
 | [],k,h=>by simp [Hs.keys]
 | (x,C)::l,k,h=>by
  simp only [hsH,hk] at h
  by_cases q:x=k
  ·subst q;simp at h
  ·rw [beq_ne q] at h
   have:=hsH_none h
   simp only [Hs.keys,List.map_cons,List.mem_cons,not_or] at this ⊢
   exact ⟨fun e=>q e.symm,this⟩
def Fin (P:Program) (fn:Func) (r:D) (hs' rs:Hs) (E:Nat→D) (H:Nat→Option Box):Prop:=
 ∃ ds,ResL P E H fn.results.toList ds∧(∀ S a w Z i v,Fits S E H Z i a w→Rep Z w i v (resD ds)→Rep Z w (fun k=>if k∈(hs'++rs).map (·.1) then i k else none) v r)∧∀ k B,(k,B)∈hs'++rs→H k=some B∧B.mut=true∧B.free (fun x=>memB x ((hs'++rs).map (·.1)))=true
def Ended (P:Program) (fn:Func) (r:D) (hs' rs:Hs):Post:=fun e E H=>match e with
 | .normal=>∃ E' H',Sub E H E' H'∧Fin P fn r hs' rs E' H'
 | .ret=>∃ E' H',Sub E H E' H'∧Fin P fn r hs' rs E' H'
 | _=>False
theorem noN_bx {Z:Zn} {w:World} {i:Nm} {b:Nat} {cap:Cp} {B:Box} (h:BoxAt Z w i b cap B) (hf:B.free (fun _=>false)=true):BoxAt Z w noN b cap B:=h.nm hf (fun k x hk=>by cases hk)
theorem HsAt.key {Z:Zn} {w:World} {i:Nm} {hs:Hs} (h:HsAt Z w i hs) {k:Nat} (hk:k∈hs.keys):∃ B,(k,B)∈hs∧BoxHas Z w i k B:=by
 obtain ⟨⟨k',B⟩,hm,rfl⟩:=List.mem_map.1 hk
 exact ⟨B,hm,h.1 _ _ hm⟩
theorem den_intro {f:FuncId} {fn:Func} {c:Code} {ds:List D} {hs hs' rs:Hs} {r:D} [hf:FI P f fn] (hb:fn.body=some c) (hn:(Nat.ble ds.length fn.ntmps && Nat.blt fn.ntmps 65536)=true) (hkeys:hs'.keys=hs.keys) (hlow:hs.keys.all (fun k=>Nat.blt k 1000)=true) (hhigh:(rs.keys.all (fun k=>Nat.ble 1000 k) && (hs++hs').all (fun x=>Nat.beq x.2.nrows 0))=true)
  (h:AWp none P fn.ntmps c (lk (initE 0 ds)) (hk (hsH hs)) (Ended P fn r hs' rs)):DenH P f ds hs r hs' rs:=fun Zc w i args hZ hi hH ha=>by
 rw [Bool.and_eq_true] at hn
 have hn2:fn.ntmps<65536:=by simpa using hn.2
 replace hn:=Nat.le_of_ble_eq_true hn.1
 have hl:args.length=ds.length:=ha.1
 have hiff:∀ k,k∈hs.keys→k<1000:=fun k hk=>by simpa using List.all_eq_true.1 hlow k hk
 rw [Bool.and_eq_true] at hhigh
 have hrs:∀ k,k∈rs.keys→1000≤k:=fun k hk=>by simpa using List.all_eq_true.1 hhigh.1 k hk
 have hflat:∀ k B,(k,B)∈hs++hs'→B.nrows=0:=fun k B hm=>by simpa using List.all_eq_true.1 hhigh.2 (k,B) hm
 let Z:Zn:=fun o b=>o=true∧Zc b
 let S:Cx:=⟨w,Zc,fun b=>∃ k c,k∈hs.keys∧i k=some (some (b,c)),fn.ntmps,[],i,w,fun b=>∃ k c,k∈hs.keys∧i k=some (some (b,c)),Z⟩
 refine callsIn_wide.1 (callsIn_of_wp_marks (n:=0) hf.func hb trivial ?_)
 have hF:Fits S (lk (initE 0 ds)) (hk (hsH hs)) Z i { tmps:=args.toArray++Array.replicate (fn.ntmps - args.toArray.size) undef,defers:=[] } w:=by
  refine ⟨⟨[],rfl,List.nodup_nil,fun b hb=>by cases hb⟩,by simp [S,fsz,Nat.mod_eq_of_lt hn2];omega,Kept.refl _ _,Kept.refl _ _,fun _ _ h=>h,fun b hb=>(nomatch hb.1),fun b hb=>⟨hZ b hb.2,fun _=>hb.2⟩,fun b hb=>(nomatch hb.1),fun t=>?_,fun k B hB=>?_,fun k B b hB hm hf=>?_,fun k hk=>hi k (hsH_none hk),fun k _=>rfl,fun k k' B B' b h1 h2 _ _ f1 f2=>hH.2 k k' B B' b (hsH_mem h1) (hsH_mem h2) f1 f2,fun _=>rfl⟩
  ·rw [initE_at]
   by_cases q:0≤t∧t<0+ds.length
   ·rw [if_pos q,Nat.sub_zero]
    have:=ha.2 t (by omega)
    have e:(args.toArray++Array.replicate (fn.ntmps - args.toArray.size) undef).getD t undef=args.getD t undef:=by
     rw [Array.getD_eq_getD_getElem?,List.getD_eq_getElem?_getD,Array.getElem?_append_left (by simp;omega),List.getElem?_toArray]
    rw [e];exact this
   ·rw [if_neg q];exact .any _ _
  ·have hm:=hsH_mem hB
   have hkk:k∈hs.keys:=List.mem_map.2 ⟨_,hm,rfl⟩
   obtain ⟨m1,⟨b,cap,e1,e2,e3⟩ | ⟨e1,e2⟩⟩:=hH.1 k B hm
   ·exact .inl ⟨b,cap,e1,.inr ⟨hiff k hkk,k,cap,hkk,e1⟩,fun _=>⟨e2 b (.root e1),.inr ⟨k,cap,hkk,e1⟩⟩,fun hi=>(by cases B<;>simp [Box.mut,Box.isIce] at m1 hi),e3⟩
   ·exact .inr ⟨e1,.inr (e2.imp (fun ⟨t,m,f,e⟩=>⟨t,m,f,.inl e⟩) id)⟩
  ·have hmm:=hsH_mem hB
   have hkk:k∈hs.keys:=List.mem_map.2 ⟨_,hmm,rfl⟩
   obtain ⟨cp,e⟩:=hf.flat (hflat k B (List.mem_append_left _ hmm))
   obtain ⟨m1,⟨b',cap,e1,e2,e3⟩ | ⟨e1,e2⟩⟩:=hH.1 k B hmm
   ·rw [e] at e1;cases e1
    exact ⟨e3.lt,.inr ⟨hiff k hkk,⟨k,cp,hkk,e⟩,cp,e⟩,e2 b (.root e),.inr ⟨k,cp,hkk,e⟩⟩
   ·rw [e] at e1;cases e1
 refine wpIn_mono (h S _ w rfl ⟨Z,i,hF⟩) (fun e a' w' ⟨E0,H0,he0,hR0⟩=>?_)
 replace he0:=he0.no (fun ch h=>by
  have:S.pan ch=panAt (fn.ntmps / 65536 % 1099511627776) ch:=rfl
  rw [this,Nat.div_eq_of_lt hn2] at h
  exact h)
 have hend:(e = .normal∨e = .ret)∧∃ E' H',RepS S E' H' a' w'∧Fin P fn r hs' rs E' H':=by
  cases e with
  | normal=>obtain ⟨E2,H2,q1,q2⟩:=he0;exact ⟨.inl rfl,E2,H2,q1 S a' w' hR0,q2⟩
  | ret=>obtain ⟨E2,H2,q1,q2⟩:=he0;exact ⟨.inr rfl,E2,H2,q1 S a' w' hR0,q2⟩
  | _=>exact he0.elim
 obtain ⟨hee,E',H',⟨Z',i',hF'⟩,he⟩:=hend
 have key:Fin P fn r hs' rs E' H'→∀ (ms:List Nat) (Z':Zn) (a':Act) (w':World),Fits S E' H' Z' i' a' w'→a'.defers=ms.map mark++[]→ms.Nodup→(∀ b,b∈ms→Z' false b∧w'.heap[b]? = some (.deferred (some [])))→LeavesInM (Fw none) 0 P fn a'.tmps (fun e w'=>∃ v i2 Zn',e = .returned v∧Kept (fun b=>∃ k c,k∈hs.keys∧i k=some (some (b,c))) w w'∧(∀ b,Zn' b→w.heap.size≤b∧b<w'.heap.size)∧(∀ k,k∈hs.keys→i2 k=i k)∧(∀ k,k ∉ hs.keys→k ∉ rs.keys→i2 k=none) ∧
   (∀ k B b,(k,B)∈rs→Foot B (i2 k) b→w.heap.size≤b)∧(∀ k B,(k,B)∈hs'→B.nrows=0)∧HsAt (Z2 Zc Zn') w' i2 (hs'++rs)∧Rep (Z2 Zc Zn') w' i2 v r) a'.defers .returning w':=by
  rintro ⟨rs0,h1,h2,h3⟩ ms
  induction ms with
  | nil=>
   intro Z' a' w' hF' hd _ _
   rw [hd]
   obtain ⟨v,h4,h5⟩:=results_run h1 hF'
   refine ⟨v,h4,v,fun k=>if k∈(hs'++rs).map (·.1) then i' k else none,fun b=>Z' false b∨(Z' true b∧w.heap.size≤b),rfl,hF'.kept,fun b hb=>?_,fun k hk=>?_,fun k h6 h7=>?_,fun k B b hm hf=>?_,fun k B hm=>hflat k B (List.mem_append_right _ hm),⟨fun k B hm=>?_,fun k k' B B' b hm hm' f1 f2=>?_⟩,?_⟩
   ·rcases hb with hb | ⟨hb,q⟩
    ·exact ⟨hF'.zNew b hb,(hF'.zOld b (hF'.zsub b hb)).1⟩
    ·exact ⟨q,(hF'.zOld b hb).1⟩
   ·have:k∈(hs'++rs).map (·.1):=by
     rw [List.map_append,List.mem_append]
     exact .inl (by have:=hkeys;unfold Hs.keys at this;rw [this];exact hk)
    simp only [if_pos this]
    exact hF'.low k (hiff k hk)
   ·have:k ∉ (hs'++rs).map (·.1):=by
     rw [List.map_append,List.mem_append]
     rintro (q | q)
     ·exact h6 (by rw [← hkeys];exact q)
     ·exact h7 q
    simp only [if_neg this]
   ·have hk:k∈rs.keys:=List.mem_map.2 ⟨_,hm,rfl⟩
    have hmem:k∈(hs'++rs).map (·.1):=by rw [List.map_append,List.mem_append];exact .inr hk
    simp only [if_pos hmem] at hf
    obtain ⟨q1,q2,_⟩:=h3 k B (List.mem_append.2 (.inr hm))
    rcases (hF'.foot k B b q1 q2 hf).2.1 with e2 | ⟨e2,_⟩
    ·exact e2
    ·have:=hrs k hk;omega
   ·obtain ⟨q1,q2,q3⟩:=h3 k B hm
    have hmem:k∈(hs'++rs).map (·.1):=List.mem_map.2 ⟨_,hm,rfl⟩
    have hzz:∀ o b,Z' o b→Z2 Zc (fun b=>Z' false b∨(Z' true b∧w.heap.size≤b)) o b∧w'.heap[b]? = w'.heap[b]?:=fun o b hz=>⟨by
     cases o with
     | false=>exact .inl hz
     | true=>
      rcases Nat.lt_or_ge b w.heap.size with q | q
      ·exact .inl ((hF'.zOld b hz).2 q)
      ·exact .inr (.inr ⟨hz,q⟩),rfl⟩
    refine ⟨q2,?_⟩
    simp only [if_pos hmem]
    rcases hF'.box k B q1 with ⟨b,c,e1,e2,e3,_,e5⟩ | ⟨e1,e2⟩
    ·refine .inl ⟨b,c,e1,fun x hf hz=>?_,(e5.nm (i':=fun k=>if k∈(hs'++rs).map (·.1) then i' k else none) q3 (fun k x hp e=>by rw [if_pos (memB_spec hp)];exact e)).mem (Nat.le_refl _) (fun _ _=>rfl) hzz⟩
     have f:=hF'.foot k B x q1 q2 hf
     rcases hz with hz | hz | ⟨hz,_⟩
     ·rcases f.2.1 with e2 | ⟨e2,⟨k2,c2,e6,e7⟩,_⟩
      ·have h1:w.heap.size≤x:=e2
       have:=hZ x hz;omega
      ·obtain ⟨B2,hm2,hB2⟩:=hH.key e6
       rcases hB2.2 with ⟨b3,c3,e8,e9,_⟩ | ⟨e8,_⟩
       ·exact e9 x (.root e7) ⟨rfl,hz⟩
       ·rw [e7] at e8;cases e8
     ·exact f.2.2.1 (hF'.zsub x hz)
     ·exact f.2.2.1 hz
    ·refine .inr ⟨e1,?_⟩
     rcases e2 with rfl | ⟨t,m,f,e2 | rfl⟩ | e2
     ·cases q2
     ·exact .inl ⟨t,m,f,e2⟩
     ·cases q2
     ·exact .inr e2
   ·obtain ⟨q1,q2,_⟩:=h3 k B hm
    obtain ⟨q1',q2',_⟩:=h3 k' B' hm'
    have hk2:k∈(hs'++rs).map (·.1):=List.mem_map.2 ⟨_,hm,rfl⟩
    have hk2':k'∈(hs'++rs).map (·.1):=List.mem_map.2 ⟨_,hm',rfl⟩
    simp only [if_pos hk2] at f1
    simp only [if_pos hk2'] at f2
    exact hF'.inj k k' B B' b q1 q1' q2 q2' f1 f2
   ·refine (h2 S a' w' Z' i' v hF' h5).mem (fun o b hz=>⟨?_,rfl⟩)
    cases o with
    | false=>exact .inl hz
    | true=>
     rcases Nat.lt_or_ge b w.heap.size with q | q
     ·exact .inl ((hF'.zOld b hz).2 q)
     ·exact .inr (.inr ⟨hz,q⟩)
  | cons D ms ih=>
   intro Z' a' w' hF' hd hnd hms
   rw [hd]
   refine ⟨by simp,.inl ⟨D,_,rfl,run_takeDeferred (hms D (by simp)).2,?_⟩⟩
   have hF2:=hF'.unmark hd hms hnd (hF'.zNew D (hms D (by simp)).1) (fun o hz=>absurd (hZ D hz.2) (Nat.not_lt.2 (hF'.zNew D (hms D (by simp)).1)))
   have:=ih _ _ _ hF2 rfl (List.nodup_cons.1 hnd).2 (fun b hb=>by
    have hne:b≠D:=fun e=>by subst e;exact (List.nodup_cons.1 hnd).1 hb
    exact ⟨⟨(hms b (by simp [hb])).1,hne⟩,(World.putObj_heap_other hne).trans (hms b (by simp [hb])).2⟩)
   exact this
 obtain ⟨ms,e1,e2,e3⟩:=hF'.defers
 rcases hee with rfl | rfl
 ·exact key he ms Z' a' w' hF' e1 e2 e3
 ·exact key he ms Z' a' w' hF' e1 e2 e3
end
end Go.Proofs.YtdcenblblimkfaaGreat
