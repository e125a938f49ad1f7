/- The program's supply: Below, with its closure.
The program's supply: taking with a closure that fills some blocks; the methods New, Bits and Below.
The program's supply: Uniform, with its closure.
The reference's supply: a number below n; New, Left, Taken, Skip, Bits, Below.
Results that are lists: what Uniform, Ternary and Bounded come to; the zero rows that they make.
The program's supply: the method Bounded, with its closure.
The program's supply: the method Uniform, with its closure.
The reference's supply: Uniform.
The reference's supply: Bounded. -/
import Derived.Test.YtdcenblblimkfaaGreatPk35
import Derived.Test.YtdcenblblimkfaaGreatPk25
import Derived.Test.YtdcenblblimkfaaGreatPk26
import Derived.Deep.OwnRows
set_option linter.unusedSimpArgs false
set_option linter.unusedVariables false
set_option linter.unnecessarySimpa false
set_option linter.unusedSectionVars false
namespace Go.Proofs.YtdcenblblimkfaaGreat
open Go.RowKit Go.Shelf

theorem none_sup (b:Nat) (s:ByteArray) (c:Nat) (w:World) (hS:SupAt w b s c) :
  Calls Tryz.prog 152 #[.pointer (some ⟨b,0,none⟩)] w fun e w'=>e = .returned (.bool false)∧w'=w:=by
 have h2:=hS.c2
 go_enter Tryz.func152,Tryz.ntmps152
 go_wp2
 go_ret
 exact ⟨rfl,rfl⟩


theorem turn_takeWorld (W:World) (b c:Nat) (S:List Nat):STurn W (takeWorld W b c) S:=((((STurn.refl W S).alloc _).alloc _).alloc _)

theorem take_yes (fn:FuncId) (caps:Array Value) (henter:∀ args w,(callFunc fn args).run Tryz.prog w = .ok (.enter fn args) w) (b:Nat) (s:ByteArray) (c d:Nat) (W:World) (hS:SupAt W b s c) (T:List Nat) (hT:∀ k,k∈T→k<W.heap.size)
  (P:World→Prop) (hP:∀ w2 p u,P w2→W.heap.size≤p.block→P (w2.setCell p u))
  (hcall:Calls Tryz.prog fn caps (takeWorld W b c) fun e w2=>e = .returned (.bool true)∧(SupAt w2 b s d∧P w2∧STurn (takeWorld W b c) w2 T)) :
  Calls Tryz.prog 209 #[.pointer (some ⟨b,0,none⟩),.func (.func fn) #[] caps] W fun e w'=>e = .returned (.int .i64 0)∧SupAt w' b s d∧P w'∧STurn W w' T:=by
 refine (taking_ok fn caps henter b s c W hS (fun w2=>SupAt w2 b s d∧P w2∧STurn (takeWorld W b c) w2 T) hcall ?_).mono ?_
 ·rintro w2 ⟨_,_,h⟩ k h1 h2
  exact h.block k (by rw [takeWorld_size];exact h2) (fun hk=>by have:=hT k hk;omega)
 ·rintro e w' ⟨rfl,w2,⟨h1,h2,h3⟩,rfl⟩
  exact ⟨rfl,h1.other (by have:=hS.lt;simp;omega) _,hP _ _ _ h2 (by simp),((turn_takeWorld W b c T).new h3 (fun j hj=>.inr hj)).setCell (.inr (by simp)) _⟩

theorem take_no (fn:FuncId) (caps:Array Value) (henter:∀ args w,(callFunc fn args).run Tryz.prog w = .ok (.enter fn args) w) (b:Nat) (s:ByteArray) (c:Nat) (W:World) (hS:SupAt W b s c) (T:List Nat) (hT:∀ k,k∈T→k<W.heap.size) (hb:b∈T)
  (hcall:Calls Tryz.prog fn caps (takeWorld W b c) fun e w2=>e = .returned (.bool false)∧((∃ d,SupAt w2 b s d)∧STurn (takeWorld W b c) w2 T)) :
  Calls Tryz.prog 209 #[.pointer (some ⟨b,0,none⟩),.func (.func fn) #[] caps] W fun e w'=>e = .returned (.int .i64 4)∧SupAt w' b s c∧STurn W w' T:=by
 refine (taking_no fn caps henter b s c W hS (fun w2=>(∃ d,SupAt w2 b s d)∧STurn (takeWorld W b c) w2 T) hcall ?_ (fun w2 h=>h.1)).mono ?_
 ·rintro w2 ⟨_,h⟩ k h1 h2
  exact h.block k (by rw [takeWorld_size];exact h2) (fun hk=>by have:=hT k hk;omega)
 ·rintro e w' ⟨rfl,w2,⟨⟨d,h1⟩,h3⟩,rfl⟩
  exact ⟨rfl,(h1.other (by have:=hS.lt;simp;omega) _).set c,(((turn_takeWorld W b c T).new h3 (fun j hj=>.inr hj)).setCell (.inr (by simp)) _).setCell (.inl hb) _⟩

theorem three_at (w:World) (o1 o2 o3:Obj):(((w.alloc o1).alloc o2).alloc o3).heap.size=w.heap.size+3∧(((w.alloc o1).alloc o2).alloc o3).heap[w.heap.size]? = some o1 ∧
  (((w.alloc o1).alloc o2).alloc o3).heap[w.heap.size+1]? = some o2∧(((w.alloc o1).alloc o2).alloc o3).heap[w.heap.size+1+1]? = some o3:=by
 have e2:=heap_alloc_new (w.alloc o1) o2
 have e3:=heap_alloc_new ((w.alloc o1).alloc o2) o3
 simp only [World.size_alloc] at e2 e3
 refine ⟨by simp,?_,?_,e3⟩
 ·rw [heap_past _ _ _ (by simp;omega),heap_past _ _ _ (by simp)];exact heap_alloc_new w o1
 ·rw [heap_past _ _ _ (by simp)];exact e2
theorem four_at (w:World) (o1 o2 o3 o4:Obj):((((w.alloc o1).alloc o2).alloc o3).alloc o4).heap.size=w.heap.size+4∧((((w.alloc o1).alloc o2).alloc o3).alloc o4).heap[w.heap.size]? = some o1 ∧
  ((((w.alloc o1).alloc o2).alloc o3).alloc o4).heap[w.heap.size+1]? = some o2∧((((w.alloc o1).alloc o2).alloc o3).alloc o4).heap[w.heap.size+1+1]? = some o3∧((((w.alloc o1).alloc o2).alloc o3).alloc o4).heap[w.heap.size+1+1+1]? = some o4:=by
 obtain ⟨h1,h2,h3,h4⟩:=three_at w o1 o2 o3
 have e4:=heap_alloc_new (((w.alloc o1).alloc o2).alloc o3) o4
 rw [h1] at e4
 refine ⟨by simp,?_,?_,?_,e4⟩
 ·rw [heap_past _ _ _ (by rw [h1];omega)];exact h2
 ·rw [heap_past _ _ _ (by rw [h1];omega)];exact h3
 ·rw [heap_past _ _ _ (by rw [h1];omega)];exact h4


theorem enters_uniformC:∀ args w,(callFunc 210 args).run Tryz.prog w = .ok (.enter 210 args) w:=enters_of Tryz.func210 (by kernel_rfl) rfl

def FillPost (w:World) (b g:Nat) (s:ByteArray) (e:TypeId) (kd:IntKind) (f:Nat→Int) (r:Option (List Nat × Nat)) (en:Ending) (w':World):Prop:=
 match r with
 | some (l,d)=>en = .returned (.bool true)∧SupAt w' b s d∧IntRow w' g e kd (l.map f)∧STurn w w' [b,g]
 | none=>en = .returned (.bool false)∧(∃ d,SupAt w' b s d)∧STurn w w' [b,g]

set_option maxHeartbeats 1000000 in
theorem uniformC_any (b o p q g:Nat) (s:ByteArray) (c n m:Nat) (w:World) (hs:s.size≤1048576) (hc:c≤8*s.size) (hm:1≤m) (hm2:m≤4294967295) (hn:n≤4096) (hS:SupAt w b s c)
  (ho:w.cell? ⟨o,0,none⟩=some (.slice (some ⟨g,0,none⟩) n n)) (hp:w.cell? ⟨p,0,none⟩=some (.pointer (some ⟨b,0,none⟩))) (hq:w.cell? ⟨q,0,none⟩=some (.int .u32 m)) (hg:IntRow w g 22 .u32 (List.replicate n 0))
  (n1:o≠b) (n2:o≠g) (n3:p≠b) (n4:p≠g) (n5:q≠b) (n6:q≠g) (n7:g≠b) :
  Calls Tryz.prog 210 #[.pointer (some ⟨o,0,none⟩),.pointer (some ⟨p,0,none⟩),.pointer (some ⟨q,0,none⟩)] w (FillPost w b g s 22 .u32 (fun v:Nat=>(v:Int)) (tkL s m n c)):=by
 obtain ⟨r,hr⟩:∃ r,tkL s m n c=r:=⟨_,rfl⟩
 rw [hr]
 have HR:=Lib.hid hr
 clear hr
 go_enter Tryz.func210,Tryz.ntmps210
 go_wp2
 go_loopw [9] (fun i wr=>∃ (k d:Nat) (l:List Nat),k≤n∧i = .int .i64 k∧d≤8*s.size∧Hid (tkL s m k c=some (l,d))∧SupAt wr b s d∧IntRow wr g 22 .u32 (l.map (fun v:Nat=>(v:Int))++List.replicate (n - k) 0)∧STurn w wr [b,g]) (fun i _=>n - (intOf i).toNat)
 case atStart=>exact ⟨0,c,[],Nat.zero_le _,rfl,hc,Lib.hid rfl,hS,hg,STurn.refl _ _⟩
 case round=>
  obtain ⟨k,d,l,hk,rfl,hd,HT,hSr,hgr,hT⟩:=hrel
  have go:=hT.cell ho (by simp [n1,n2])
  have gp:=hT.cell hp (by simp [n3,n4])
  have gq:=hT.cell hq (by simp [n5,n6])
  by_cases hlt:k<n
  ·rcases hb:belowL s m d with _ | ⟨v,d'⟩
   ·have H:=below_any b s d m wr hs hd hm (by omega) hSr
    rw [hb] at H
    have HB:=Lib.hid hb
    have HH:=Lib.hid H
    clear hb H
    go_wp2_with fail
    refine HH.out.mono ?_
    rintro e w1 ⟨rfl,⟨d2,hd2,hS1⟩,hg1⟩
    go_wp2
    go_ret
    have hn:=tkL_none (tkL_stop HT.out HB.out) n (by omega)
    rw [← HR.out,hn]
    exact ⟨rfl,⟨d2,hS1⟩,hT.trans (STurn.of_grown hg1 (by simp))⟩
   ·have H:=below_any b s d m wr hs hd hm (by omega) hSr
    rw [hb] at H
    have hbs:=belowL_spec hb
    have hv:v≤4294967295:=by omega
    have HB:=Lib.hid hb
    have HH:=Lib.hid H
    clear hb H
    go_wp2_with fail
    refine HH.out.mono ?_
    rintro e w1 ⟨rfl,hS1,hg1⟩
    have hT1:=STurn.of_grown hg1 (S:=[b]) (by simp)
    have hT2:=hT.trans (STurn.of_grown hg1 (S:=[b,g]) (by simp))
    have go1:=hT2.cell ho (by simp [n1,n2])
    have hgr1:=hgr.turn hT1 (by simpa using n7)
    have hl:=tkL_spec1 hc HT.out
    have hcell:=hgr1.cell k (by simp [hl];omega)
    have hfree:=hgr1.free k
    have HL:=Lib.hid hl
    clear hl
    go_wp2
    go_roundw
    case rel=>
     refine ⟨k+1,d',l++[v],by omega,by go_num,hbs.2.2,Lib.hid (tkL_more HT.out HB.out),hS1.other n7.symm _,?_,hT2.setCell (.inl (by simp)) _⟩
     have hset:=hgr1.set k v
     have e1:=fill_set (l.map (fun v:Nat=>(v:Int))) (v:Int) 0 n (by simp [HL.out];omega)
     rw [List.length_map,HL.out] at e1
     rw [e1] at hset
     rw [List.map_append]
     exact hset
    case measure=>simp [intOf];omega
  ·go_wp2
   go_ret
   obtain rfl:k=n:=by omega
   rw [← HR.out,HT.out]
   rw [Nat.sub_self,List.replicate_zero,List.append_nil] at hgr
   exact ⟨rfl,hSr,hgr,hT⟩


def RBelowPost (w:World) (b:Nat) (s:ByteArray) (r:Option (Nat × Nat)) (e:Ending) (w':World):Prop:=
 match r with
 | some (v,d)=>e = .returned (.tuple #[.int .u64 v,.bool true])∧RefAt w' b s d∧w.grownBy w' (some b)
 | none=>e = .returned (.tuple #[.int .u64 0,.bool false])∧(∃ d,d≤8*s.size∧RefAt w' b s d)∧w.grownBy w' (some b)

set_option maxHeartbeats 1000000 in
theorem rbelow_any (b:Nat) (s:ByteArray) (c n:Nat) (w:World) (hs:s.size≤1048576) (hc:c≤8*s.size) (hn:1≤n) (hn2:n≤18446744073709551615) (hS:RefAt w b s c) :
  Calls Tryz.prog 221 #[.pointer (some ⟨b,0,none⟩),.int .u64 n] w (RBelowPost w b s (belowL s n c)):=by
 obtain ⟨r,hr⟩:∃ r,belowL s n c=r:=⟨_,rfl⟩
 rw [hr]
 have HR:=Lib.hid hr
 clear hr
 have hk64':lenBits (n - 1)≤64:=lenBits_le (by omega)
 obtain ⟨k,hk⟩:∃ k,lenBits (n - 1)=k:=⟨_,rfl⟩
 have hk64:k≤64:=by omega
 have HK:=Lib.hid hk
 clear hk hk64'
 go_enter Tryz.func221,Tryz.ntmps221
 go_wp2
 go_loop [6,7] (fun i m=>∃ j x:Nat,i = .int .i64 j∧m = .int .u64 x∧x≤18446744073709551615∧j≤64∧Hid (j+lenBits x=k)) (fun _ m=>(intOf m).toNat)
 case atStart=>exact ⟨0,n - 1,rfl,by go_num,by omega,by omega,Lib.hid (by rw [Nat.zero_add];exact HK.out)⟩
 case round=>
  obtain ⟨j,x,rfl,rfl,hx,hj,HJ⟩:=hrel
  by_cases hx0:0<x
  ·have hj1:j+1≤64:=by have h1:=HJ.out;have h2:=lenBits_pos hx0;omega
   go_wp2
   go_round
   case rel=>exact ⟨j+1,x / 2,by go_num,by go_num,by omega,by omega,Lib.hid (by have h1:=HJ.out;have h2:=lenBits_half hx0;omega)⟩
   case measure=>simp [intOf];omega
  ·have hjk:j=k:=by
    have h1:=HJ.out
    have:x=0:=by omega
    subst this
    rw [lenBits_zero] at h1;omega
   subst hjk
   go_wp2
   go_loopg [8,9] (8*s.size - c) (fun g _ _ wr=>∃ d:Nat,d≤8*s.size∧Hid (g=8*s.size - d)∧Hid (belowL s n d=r)∧RefAt wr b s d∧w.grownBy wr (some b))
   case atStart=>exact ⟨c,hc,Lib.hid rfl,HR,hS,only_refl _ _⟩
   case round=>
    obtain ⟨d,hd,HG,HB,hSr,hg⟩:=hrel
    by_cases hlt:8*s.size<d+j
    ·have hb:=belowL_none (s:=s) (n:=n) hd (by rw [HK.out];exact hlt)
     have Hb:=Lib.hid hb
     clear hb
     go_wp2_with fail
     refine (rsome_no b s d j _ hs hk64 hd hlt hSr).mono ?_
     rintro e w1 ⟨rfl,hS1,hg1⟩
     go_wp2
     go_ret2
     rw [← HB.out,Hb.out]
     exact ⟨rfl,⟨_,Nat.le_refl _,hS1⟩,only_trans hg hg1⟩
    ·have hle:d+j≤8*s.size:=by omega
     by_cases hv:valAt s d j<n
     ·have Hb:Hid (belowL s n d=some (valAt s d j,d+j)):=by
       have:=belowL_some (s:=s) (n:=n) (a:=d) (by rw [HK.out];exact hle) (by rw [HK.out];exact hv)
       rw [HK.out] at this
       exact this
      go_wp2_with fail
      refine (rsome_yes b s d j _ hs hk64 hle hSr).mono ?_
      rintro e w1 ⟨rfl,hS1,hg1⟩
      go_wp2
      go_ret2
      rw [← HB.out,Hb.out]
      exact ⟨rfl,hS1,only_trans hg hg1⟩
     ·have hk0:0<j:=by
       rcases Nat.eq_zero_or_pos j with h0 | h0
       ·exfalso;apply hv;rw [h0];exact hn
       ·exact h0
      have Hb:Hid (belowL s n d=belowL s n (d+j)):=by
       have:=belowL_again (s:=s) (n:=n) (a:=d) hn (by rw [HK.out];exact hle) (by rw [HK.out];exact hv)
       rw [HK.out] at this
       exact this
      go_wp2_with fail
      refine (rsome_yes b s d j _ hs hk64 hle hSr).mono ?_
      rintro e w1 ⟨rfl,hS1,hg1⟩
      go_wp2
      go_roundg (8*s.size - (d+j))
      case measure=>have:=HG.out;omega
      case rel=>exact ⟨d+j,hle,Lib.hid rfl,Lib.hid (Hb.out.symm.trans HB.out),hS1,only_trans hg hg1⟩


def zeroRow (kd:IntKind) (n:Nat):Array Value:=((List.replicate n (0:Int)).map (Value.int kd)).toArray
theorem zeroRow_made (kd:IntKind) (n:Nat):madeCells #[Value.int kd 0] n=zeroRow kd n:=by
 apply Array.toList_inj.1
 rw [toList_madeCells_one]
 simp [zeroRow]
theorem zeroRow_is {w:World} {g n:Nat} {e:TypeId} {kd:IntKind} (h:w.heap[g]? = some (.cells (zeroRow kd n) e (0,0))):IntRow w g e kd (List.replicate n 0):=h

theorem s_info_u32:(Tryz.prog.info? 22).map (fun i=>(i.zero,i.size,i.bytes))=some (some (.int .u32 0),1,4):=by kernel_rfl
theorem info_i64:(Tryz.prog.info? 2).map (fun i=>(i.zero,i.size,i.bytes))=some (some (.int .i64 0),1,8):=by kernel_rfl
theorem mk_u32 (n:Nat) (hn:n≤100000) (W:World):(Instr.makeSlice 23 (.int .i64 (n:Int)) (.int .i64 (n:Int))).run Tryz.prog W = .ok (.slice (some ⟨W.heap.size,0,none⟩) n n) (W.alloc (.cells (zeroRow .u32 n) 22)):=by
 rw [← zeroRow_made]
 exact run_make_row' 23 22 (.int .u32 0) 4 Tryz.underlying23 s_info_u32 rfl .i64 .i64 n (by omega) (by omega) W
theorem mk_i64 (n:Nat) (hn:n≤100000) (W:World):(Instr.makeSlice 29 (.int .i64 (n:Int)) (.int .i64 (n:Int))).run Tryz.prog W = .ok (.slice (some ⟨W.heap.size,0,none⟩) n n) (W.alloc (.cells (zeroRow .i64 n) 2)):=by
 rw [← zeroRow_made]
 exact run_make_row' 29 2 (.int .i64 0) 8 Tryz.underlying29 info_i64 rfl .i64 .i64 n (by omega) (by omega) W
def ListPost (w:World) (b:Nat) (s:ByteArray) (e:TypeId) (kd:IntKind) (r:List Int × Int × Nat) (en:Ending) (w':World):Prop:=
 ∃ v,en = .returned (.tuple #[v,.int .i64 r.2.1])∧w'.ownsRow 0 e 1 v r.1.length (r.1.map (Value.int kd))∧(∀ k,v.ownBlock=some k→w.heap.size≤k)∧SupAt w' b s r.2.2∧STurn w w' [b]
theorem listPost_nil {w w':World} {b:Nat} {s:ByteArray} {e:TypeId} {kd:IntKind} {er:Int} {d:Nat} (h:SupAt w' b s d) (ht:STurn w w' [b]) :
  ListPost w b s e kd ([],er,d) (.returned (.tuple #[.slice none 0 0,.int .i64 er])) w':=
 ⟨_,rfl,World.ownsRow_nil _ _ _ _,fun k hk=>by simp [Value.ownBlock] at hk,h,ht⟩
theorem listPost_row {w w':World} {b g n:Nat} {s:ByteArray} {e:TypeId} {kd:IntKind} {l:List Int} {d:Nat} (hr:IntRow w' g e kd l) (hl:l.length=n) (hn:n≤100000) (hg:w.heap.size≤g) (h:SupAt w' b s d) (ht:STurn w w' [b]) :
  ListPost w b s e kd (l,0,d) (.returned (.tuple #[.slice (some ⟨g,0,none⟩) n n,.int .i64 0])) w':=by
 subst hl
 exact ⟨_,rfl,hr.owns rfl (by unfold maxLen;omega),fun k hk=>by simp [Value.ownBlock] at hk;omega,h,ht⟩

def uniformR (s:ByteArray) (c:Nat) (n:Int) (q:Nat):List Int × Int × Nat:=if n<0∨4096<n∨q<1 then ([],2,c) else match tkL s q n.toNat c with
 | some (l,d)=>(l.map (fun v:Nat=>(v:Int)),0,d)
 | none=>([],4,c)
def boundedR (s:ByteArray) (c:Nat) (n:Int) (q:Nat):List Int × Int × Nat:=if n<0∨4096<n∨2147483647<q then ([],2,c) else match tkL s (2*q+1) n.toNat c with
 | some (l,d)=>(l.map (fun v:Nat=>(v:Int) - (q:Int)),0,d)
 | none=>([],4,c)


theorem enters_boundedC:∀ args w,(callFunc 212 args).run Tryz.prog w = .ok (.enter 212 args) w:=enters_of Tryz.func212 (by kernel_rfl) rfl

set_option maxHeartbeats 1000000 in
theorem boundedC_any (b o p q g:Nat) (s:ByteArray) (c n m:Nat) (w:World) (hs:s.size≤1048576) (hc:c≤8*s.size) (hm:m≤2147483647) (hn:n≤4096) (hS:SupAt w b s c)
  (ho:w.cell? ⟨o,0,none⟩=some (.slice (some ⟨g,0,none⟩) n n)) (hp:w.cell? ⟨p,0,none⟩=some (.pointer (some ⟨b,0,none⟩))) (hq:w.cell? ⟨q,0,none⟩=some (.int .u32 m)) (hg:IntRow w g 2 .i64 (List.replicate n 0))
  (n1:o≠b) (n2:o≠g) (n3:p≠b) (n4:p≠g) (n5:q≠b) (n6:q≠g) (n7:g≠b) :
  Calls Tryz.prog 212 #[.pointer (some ⟨o,0,none⟩),.pointer (some ⟨p,0,none⟩),.pointer (some ⟨q,0,none⟩)] w (FillPost w b g s 2 .i64 (fun v:Nat=>(v:Int) - (m:Int)) (tkL s (2*m+1) n c)):=by
 obtain ⟨r,hr⟩:∃ r,tkL s (2*m+1) n c=r:=⟨_,rfl⟩
 rw [hr]
 have HR:=Lib.hid hr
 clear hr
 go_enter Tryz.func212,Tryz.ntmps212
 go_wp2
 go_loopw [9] (fun i wr=>∃ (k d:Nat) (l:List Nat),k≤n∧i = .int .i64 k∧d≤8*s.size∧Hid (tkL s (2*m+1) k c=some (l,d))∧SupAt wr b s d∧IntRow wr g 2 .i64 (l.map (fun v:Nat=>(v:Int) - (m:Int))++List.replicate (n - k) 0)∧STurn w wr [b,g]) (fun i _=>n - (intOf i).toNat)
 case atStart=>exact ⟨0,c,[],Nat.zero_le _,rfl,hc,Lib.hid rfl,hS,hg,STurn.refl _ _⟩
 case round=>
  obtain ⟨k,d,l,hk,rfl,hd,HT,hSr,hgr,hT⟩:=hrel
  have go:=hT.cell ho (by simp [n1,n2])
  have gp:=hT.cell hp (by simp [n3,n4])
  have gq:=hT.cell hq (by simp [n5,n6])
  by_cases hlt:k<n
  ·rcases hb:belowL s (2*m+1) d with _ | ⟨v,d'⟩
   ·have H:=below_any b s d (2*m+1) wr hs hd (by omega) (by omega) hSr
    rw [hb] at H
    have HB:=Lib.hid hb
    have HH:=Lib.hid H
    clear hb H
    go_wp2_with fail
    refine HH.out.mono ?_
    rintro e w1 ⟨rfl,⟨d2,hd2,hS1⟩,hg1⟩
    go_wp2
    go_ret
    have hn:=tkL_none (tkL_stop HT.out HB.out) n (by omega)
    rw [← HR.out,hn]
    exact ⟨rfl,⟨d2,hS1⟩,hT.trans (STurn.of_grown hg1 (by simp))⟩
   ·have H:=below_any b s d (2*m+1) wr hs hd (by omega) (by omega) hSr
    rw [hb] at H
    have hbs:=belowL_spec hb
    have hv:v≤4294967295:=by omega
    have HB:=Lib.hid hb
    have HH:=Lib.hid H
    clear hb H
    go_wp2_with fail
    refine HH.out.mono ?_
    rintro e w1 ⟨rfl,hS1,hg1⟩
    have hT1:=STurn.of_grown hg1 (S:=[b]) (by simp)
    have hT2:=hT.trans (STurn.of_grown hg1 (S:=[b,g]) (by simp))
    have go1:=hT2.cell ho (by simp [n1,n2])
    have gq1:=hT2.cell hq (by simp [n5,n6])
    have hgr1:=hgr.turn hT1 (by simpa using n7)
    have hl:=tkL_spec1 hc HT.out
    have hcell:=hgr1.cell k (by simp [hl];omega)
    have hfree:=hgr1.free k
    have HL:=Lib.hid hl
    clear hl
    go_wp2
    go_roundw
    case rel=>
     refine ⟨k+1,d',l++[v],by omega,by go_num,hbs.2.2,Lib.hid (tkL_more HT.out HB.out),hS1.other n7.symm _,?_,hT2.setCell (.inl (by simp)) _⟩
     have hset:=hgr1.set k ((v:Int) - (m:Int))
     have e1:=fill_set (l.map (fun v:Nat=>(v:Int) - (m:Int))) ((v:Int) - (m:Int)) 0 n (by simp [HL.out];omega)
     rw [List.length_map,HL.out] at e1
     rw [e1] at hset
     rw [List.map_append]
     exact hset
    case measure=>simp [intOf];omega
  ·go_wp2
   go_ret
   obtain rfl:k=n:=by omega
   rw [← HR.out,HT.out]
   rw [Nat.sub_self,List.replicate_zero,List.append_nil] at hgr
   exact ⟨rfl,hSr,hgr,hT⟩

def boundedWorld (w:World) (b q n:Nat):World:=((((w.alloc (.cells #[.pointer (some ⟨b,0,none⟩)] 77)).alloc (.cells #[.int .u32 q] 22)).alloc (.cells (zeroRow .i64 n) 2)).alloc (.cells #[.slice (some ⟨w.heap.size+1+1,0,none⟩) n n] 29))
theorem takeBounded_yes (b:Nat) (s:ByteArray) (c n q d:Nat) (l:List Nat) (w:World) (hs:s.size≤1048576) (hc:c≤8*s.size) (hn:n≤4096) (hq:q≤2147483647) (hS:SupAt w b s c) (hL:tkL s (2*q+1) n c=some (l,d)) :
  Calls Tryz.prog 209 #[.pointer (some ⟨b,0,none⟩),.func (.func 212) #[] #[.pointer (some ⟨w.heap.size+1+1+1,0,none⟩),.pointer (some ⟨w.heap.size,0,none⟩),.pointer (some ⟨w.heap.size+1,0,none⟩)]] (boundedWorld w b q n)
   fun e w'=>e = .returned (.int .i64 0)∧SupAt w' b s d∧(IntRow w' (w.heap.size+1+1) 2 .i64 (l.map (fun v:Nat=>(v:Int) - (q:Int)))∧w'.heap[w.heap.size+1+1+1]? = some (.cells #[.slice (some ⟨w.heap.size+1+1,0,none⟩) n n] 29 (0,0)))∧STurn w w' [b]:=by
 have hb:=hS.lt
 obtain ⟨z0,z1,z2,z3,z4⟩:=four_at w (.cells #[.pointer (some ⟨b,0,none⟩)] 77) (.cells #[.int .u32 q] 22) (.cells (zeroRow .i64 n) 2) (.cells #[.slice (some ⟨w.heap.size+1+1,0,none⟩) n n] 29)
 have hS3:SupAt (boundedWorld w b q n) b s c:=(((hS.alloc _).alloc _).alloc _).alloc _
 have hT:∀ k,k∈[b,w.heap.size+1+1]→k<(boundedWorld w b q n).heap.size:=by intro k hk;simp at hk;unfold boundedWorld;rw [z0];omega
 refine (take_yes 212 _ enters_boundedC b s c d (boundedWorld w b q n) hS3 [b,w.heap.size+1+1] hT (fun w2=>IntRow w2 (w.heap.size+1+1) 2 .i64 (l.map (fun v:Nat=>(v:Int) - (q:Int)))∧w2.heap[w.heap.size+1+1+1]? = some (.cells #[.slice (some ⟨w.heap.size+1+1,0,none⟩) n n] 29 (0,0))) ?_ ?_).mono ?_
 ·rintro w2 p u ⟨h1,h3⟩ h2
  unfold boundedWorld at h2;rw [z0] at h2
  exact ⟨h1.other (by omega) u,(heap_other _ _ _ _ (by omega)).trans h3⟩
 ·have ht:=turn_takeWorld (boundedWorld w b q n) b c []
  have H:=boundedC_any b (w.heap.size+1+1+1) w.heap.size (w.heap.size+1) (w.heap.size+1+1) s c n q _ hs hc hq hn (hS3.turn ht (by simp)) (cell_of_one (ht.at z4 (by simp))) (cell_of_one (ht.at z1 (by simp))) (cell_of_one (ht.at z2 (by simp))) (zeroRow_is (ht.at z3 (by simp)))
   (by omega) (by omega) (by omega) (by omega) (by omega) (by omega) (by omega)
  rw [hL] at H
  refine H.mono ?_
  rintro e w2 ⟨rfl,h1,h2,h3⟩
  exact ⟨rfl,h1,⟨h2,h3.at (ht.at z4 (by simp)) (by simp;omega)⟩,h3⟩
 ·rintro e w' ⟨rfl,h1,h2,h3⟩
  exact ⟨rfl,h1,h2,(((((STurn.refl w [b]).alloc _).alloc _).alloc _).alloc _).new h3 (fun j hj=>by simp at hj;rcases hj with rfl | rfl;exact .inr (by simp);exact .inl (by omega))⟩
theorem takeBounded_no (b:Nat) (s:ByteArray) (c n q:Nat) (w:World) (hs:s.size≤1048576) (hc:c≤8*s.size) (hn:n≤4096) (hq:q≤2147483647) (hS:SupAt w b s c) (hL:tkL s (2*q+1) n c=none) :
  Calls Tryz.prog 209 #[.pointer (some ⟨b,0,none⟩),.func (.func 212) #[] #[.pointer (some ⟨w.heap.size+1+1+1,0,none⟩),.pointer (some ⟨w.heap.size,0,none⟩),.pointer (some ⟨w.heap.size+1,0,none⟩)]] (boundedWorld w b q n)
   fun e w'=>e = .returned (.int .i64 4)∧SupAt w' b s c∧STurn w w' [b]:=by
 have hb:=hS.lt
 obtain ⟨z0,z1,z2,z3,z4⟩:=four_at w (.cells #[.pointer (some ⟨b,0,none⟩)] 77) (.cells #[.int .u32 q] 22) (.cells (zeroRow .i64 n) 2) (.cells #[.slice (some ⟨w.heap.size+1+1,0,none⟩) n n] 29)
 have hS3:SupAt (boundedWorld w b q n) b s c:=(((hS.alloc _).alloc _).alloc _).alloc _
 have hT:∀ k,k∈[b,w.heap.size+1+1]→k<(boundedWorld w b q n).heap.size:=by intro k hk;simp at hk;unfold boundedWorld;rw [z0];omega
 refine (take_no 212 _ enters_boundedC b s c (boundedWorld w b q n) hS3 [b,w.heap.size+1+1] hT (by simp) ?_).mono ?_
 ·have ht:=turn_takeWorld (boundedWorld w b q n) b c []
  have H:=boundedC_any b (w.heap.size+1+1+1) w.heap.size (w.heap.size+1) (w.heap.size+1+1) s c n q _ hs hc hq hn (hS3.turn ht (by simp)) (cell_of_one (ht.at z4 (by simp))) (cell_of_one (ht.at z1 (by simp))) (cell_of_one (ht.at z2 (by simp))) (zeroRow_is (ht.at z3 (by simp)))
   (by omega) (by omega) (by omega) (by omega) (by omega) (by omega) (by omega)
  rw [hL] at H
  exact H
 ·rintro e w' ⟨rfl,h1,h3⟩
  exact ⟨rfl,h1,(((((STurn.refl w [b]).alloc _).alloc _).alloc _).alloc _).new h3 (fun j hj=>by simp at hj;rcases hj with rfl | rfl;exact .inr (by simp);exact .inl (by omega))⟩

set_option maxHeartbeats 1000000 in
theorem bounded_sup (b:Nat) (s:ByteArray) (c q:Nat) (n:Int) (w:World) (hs:s.size≤1048576) (hc:c≤8*s.size) (hq:q≤4294967295) (hS:SupAt w b s c) :
  Calls Tryz.prog 136 #[.pointer (some ⟨b,0,none⟩),.int .i64 n,.int .u32 q] w (ListPost w b s 2 .i64 (boundedR s c n q)):=by
 have hmf:=hmf
 have hb:=hS.lt
 obtain ⟨r,hr⟩:∃ r,boundedR s c n q=r:=⟨_,rfl⟩
 rw [hr]
 have HR:=Lib.hid hr
 clear hr
 by_cases h1:n<0∨4096<n∨2147483647<q
 ·have e:r=([],2,c):=by rw [← HR.out,boundedR,if_pos h1]
  subst e
  rcases h1 with h1 | h1 | h1
  ·go_enter Tryz.func136,Tryz.ntmps136
   go_wp2_with fail
   refine (none_sup b s c _ ((hS.alloc _).alloc _)).mono ?_
   rintro e w' ⟨rfl,rfl⟩
   go_wp2
   go_ret2
   exact listPost_nil ((hS.alloc _).alloc _) (((STurn.refl _ _).alloc _).alloc _)
  ·have h2:¬ n<0:=by omega
   go_enter Tryz.func136,Tryz.ntmps136
   go_wp2_with fail
   refine (none_sup b s c _ ((hS.alloc _).alloc _)).mono ?_
   rintro e w' ⟨rfl,rfl⟩
   go_wp2
   go_ret2
   exact listPost_nil ((hS.alloc _).alloc _) (((STurn.refl _ _).alloc _).alloc _)
  ·by_cases h2:n<0
   ·go_enter Tryz.func136,Tryz.ntmps136
    go_wp2_with fail
    refine (none_sup b s c _ ((hS.alloc _).alloc _)).mono ?_
    rintro e w' ⟨rfl,rfl⟩
    go_wp2
    go_ret2
    exact listPost_nil ((hS.alloc _).alloc _) (((STurn.refl _ _).alloc _).alloc _)
   by_cases h3:4096<n
   ·go_enter Tryz.func136,Tryz.ntmps136
    go_wp2_with fail
    refine (none_sup b s c _ ((hS.alloc _).alloc _)).mono ?_
    rintro e w' ⟨rfl,rfl⟩
    go_wp2
    go_ret2
    exact listPost_nil ((hS.alloc _).alloc _) (((STurn.refl _ _).alloc _).alloc _)
   ·go_enter Tryz.func136,Tryz.ntmps136
    go_wp2_with fail
    refine (none_sup b s c _ ((hS.alloc _).alloc _)).mono ?_
    rintro e w' ⟨rfl,rfl⟩
    go_wp2
    go_ret2
    exact listPost_nil ((hS.alloc _).alloc _) (((STurn.refl _ _).alloc _).alloc _)
 ·have e:r=boundedR s c n q:=HR.out.symm
  rw [boundedR,if_neg h1] at e
  have h2:¬ n<0:=by omega
  have h3:¬ 4096<n:=by omega
  have h4:¬ 2147483647<q:=by omega
  clear h1
  obtain ⟨k,rfl⟩:=Int.eq_ofNat_of_zero_le (show 0≤n by omega)
  rw [Int.toNat_natCast] at e
  have HE:=Lib.hid e
  clear e
  have hmk:=mk_i64 k (by omega)
  go_enter Tryz.func136,Tryz.ntmps136
  go_wp2_with fail
  refine (none_sup b s c _ ((hS.alloc _).alloc _)).mono ?_
  rintro e w' ⟨rfl,rfl⟩
  go_wp2_with fail
  rcases hL:tkL s (2*q+1) k c with _ | ⟨l,d⟩
  ·refine (takeBounded_no b s c k q w hs hc (by omega) (by omega) hS hL).mono ?_
   rintro e w' ⟨rfl,h1,h2⟩
   have HL:=Lib.hid hL
   clear hL
   go_wp2
   go_ret2
   have e:r=([],4,c):=by rw [HE.out,HL.out]
   subst e
   exact listPost_nil h1 h2
  ·refine (takeBounded_yes b s c k q d l w hs hc (by omega) (by omega) hS hL).mono ?_
   rintro e w' ⟨rfl,h1,⟨h2,h5⟩,h6⟩
   have hlen:=tkL_spec1 hc hL
   have hcell:=cell_of_one h5
   have HL:=Lib.hid hL
   have Hlen:=Lib.hid hlen
   clear h5 hL hlen
   go_wp2
   go_ret2
   have e:r=(l.map (fun v:Nat=>(v:Int) - (q:Int)),0,d):=by rw [HE.out,HL.out]
   subst e
   exact listPost_row h2 (by rw [List.length_map];exact Hlen.out) (by omega) (by omega) h1 h6


def uniformWorld (w:World) (b q n:Nat):World:=((((w.alloc (.cells #[.pointer (some ⟨b,0,none⟩)] 77)).alloc (.cells #[.int .u32 q] 22)).alloc (.cells (zeroRow .u32 n) 22)).alloc (.cells #[.slice (some ⟨w.heap.size+1+1,0,none⟩) n n] 23))
theorem takeUniform_yes (b:Nat) (s:ByteArray) (c n q d:Nat) (l:List Nat) (w:World) (hs:s.size≤1048576) (hc:c≤8*s.size) (hn:n≤4096) (hq:1≤q) (hq2:q≤4294967295) (hS:SupAt w b s c) (hL:tkL s q n c=some (l,d)) :
  Calls Tryz.prog 209 #[.pointer (some ⟨b,0,none⟩),.func (.func 210) #[] #[.pointer (some ⟨w.heap.size+1+1+1,0,none⟩),.pointer (some ⟨w.heap.size,0,none⟩),.pointer (some ⟨w.heap.size+1,0,none⟩)]] (uniformWorld w b q n)
   fun e w'=>e = .returned (.int .i64 0)∧SupAt w' b s d∧(IntRow w' (w.heap.size+1+1) 22 .u32 (l.map (fun v:Nat=>(v:Int)))∧w'.heap[w.heap.size+1+1+1]? = some (.cells #[.slice (some ⟨w.heap.size+1+1,0,none⟩) n n] 23 (0,0)))∧STurn w w' [b]:=by
 have hb:=hS.lt
 obtain ⟨z0,z1,z2,z3,z4⟩:=four_at w (.cells #[.pointer (some ⟨b,0,none⟩)] 77) (.cells #[.int .u32 q] 22) (.cells (zeroRow .u32 n) 22) (.cells #[.slice (some ⟨w.heap.size+1+1,0,none⟩) n n] 23)
 have hS3:SupAt (uniformWorld w b q n) b s c:=(((hS.alloc _).alloc _).alloc _).alloc _
 have hT:∀ k,k∈[b,w.heap.size+1+1]→k<(uniformWorld w b q n).heap.size:=by intro k hk;simp at hk;unfold uniformWorld;rw [z0];omega
 refine (take_yes 210 _ enters_uniformC b s c d (uniformWorld w b q n) hS3 [b,w.heap.size+1+1] hT (fun w2=>IntRow w2 (w.heap.size+1+1) 22 .u32 (l.map (fun v:Nat=>(v:Int)))∧w2.heap[w.heap.size+1+1+1]? = some (.cells #[.slice (some ⟨w.heap.size+1+1,0,none⟩) n n] 23 (0,0))) ?_ ?_).mono ?_
 ·rintro w2 p u ⟨h1,h3⟩ h2
  unfold uniformWorld at h2;rw [z0] at h2
  exact ⟨h1.other (by omega) u,(heap_other _ _ _ _ (by omega)).trans h3⟩
 ·have ht:=turn_takeWorld (uniformWorld w b q n) b c []
  have H:=uniformC_any b (w.heap.size+1+1+1) w.heap.size (w.heap.size+1) (w.heap.size+1+1) s c n q _ hs hc hq hq2 hn (hS3.turn ht (by simp)) (cell_of_one (ht.at z4 (by simp))) (cell_of_one (ht.at z1 (by simp))) (cell_of_one (ht.at z2 (by simp))) (zeroRow_is (ht.at z3 (by simp)))
   (by omega) (by omega) (by omega) (by omega) (by omega) (by omega) (by omega)
  rw [hL] at H
  refine H.mono ?_
  rintro e w2 ⟨rfl,h1,h2,h3⟩
  exact ⟨rfl,h1,⟨h2,h3.at (ht.at z4 (by simp)) (by simp;omega)⟩,h3⟩
 ·rintro e w' ⟨rfl,h1,h2,h3⟩
  exact ⟨rfl,h1,h2,(((((STurn.refl w [b]).alloc _).alloc _).alloc _).alloc _).new h3 (fun j hj=>by simp at hj;rcases hj with rfl | rfl;exact .inr (by simp);exact .inl (by omega))⟩
theorem takeUniform_no (b:Nat) (s:ByteArray) (c n q:Nat) (w:World) (hs:s.size≤1048576) (hc:c≤8*s.size) (hn:n≤4096) (hq:1≤q) (hq2:q≤4294967295) (hS:SupAt w b s c) (hL:tkL s q n c=none) :
  Calls Tryz.prog 209 #[.pointer (some ⟨b,0,none⟩),.func (.func 210) #[] #[.pointer (some ⟨w.heap.size+1+1+1,0,none⟩),.pointer (some ⟨w.heap.size,0,none⟩),.pointer (some ⟨w.heap.size+1,0,none⟩)]] (uniformWorld w b q n)
   fun e w'=>e = .returned (.int .i64 4)∧SupAt w' b s c∧STurn w w' [b]:=by
 have hb:=hS.lt
 obtain ⟨z0,z1,z2,z3,z4⟩:=four_at w (.cells #[.pointer (some ⟨b,0,none⟩)] 77) (.cells #[.int .u32 q] 22) (.cells (zeroRow .u32 n) 22) (.cells #[.slice (some ⟨w.heap.size+1+1,0,none⟩) n n] 23)
 have hS3:SupAt (uniformWorld w b q n) b s c:=(((hS.alloc _).alloc _).alloc _).alloc _
 have hT:∀ k,k∈[b,w.heap.size+1+1]→k<(uniformWorld w b q n).heap.size:=by intro k hk;simp at hk;unfold uniformWorld;rw [z0];omega
 refine (take_no 210 _ enters_uniformC b s c (uniformWorld w b q n) hS3 [b,w.heap.size+1+1] hT (by simp) ?_).mono ?_
 ·have ht:=turn_takeWorld (uniformWorld w b q n) b c []
  have H:=uniformC_any b (w.heap.size+1+1+1) w.heap.size (w.heap.size+1) (w.heap.size+1+1) s c n q _ hs hc hq hq2 hn (hS3.turn ht (by simp)) (cell_of_one (ht.at z4 (by simp))) (cell_of_one (ht.at z1 (by simp))) (cell_of_one (ht.at z2 (by simp))) (zeroRow_is (ht.at z3 (by simp)))
   (by omega) (by omega) (by omega) (by omega) (by omega) (by omega) (by omega)
  rw [hL] at H
  exact H
 ·rintro e w' ⟨rfl,h1,h3⟩
  exact ⟨rfl,h1,(((((STurn.refl w [b]).alloc _).alloc _).alloc _).alloc _).new h3 (fun j hj=>by simp at hj;rcases hj with rfl | rfl;exact .inr (by simp);exact .inl (by omega))⟩

set_option maxHeartbeats 1000000 in
theorem uniform_sup (b:Nat) (s:ByteArray) (c q:Nat) (n:Int) (w:World) (hs:s.size≤1048576) (hc:c≤8*s.size) (hq:q≤4294967295) (hS:SupAt w b s c) :
  Calls Tryz.prog 135 #[.pointer (some ⟨b,0,none⟩),.int .i64 n,.int .u32 q] w (ListPost w b s 22 .u32 (uniformR s c n q)):=by
 have hmf:=hmf
 have hb:=hS.lt
 obtain ⟨r,hr⟩:∃ r,uniformR s c n q=r:=⟨_,rfl⟩
 rw [hr]
 have HR:=Lib.hid hr
 clear hr
 by_cases h1:n<0∨4096<n∨q<1
 ·have e:r=([],2,c):=by rw [← HR.out,uniformR,if_pos h1]
  subst e
  rcases h1 with h1 | h1 | h1
  ·go_enter Tryz.func135,Tryz.ntmps135
   go_wp2_with fail
   refine (none_sup b s c _ ((hS.alloc _).alloc _)).mono ?_
   rintro e w' ⟨rfl,rfl⟩
   go_wp2
   go_ret2
   exact listPost_nil ((hS.alloc _).alloc _) (((STurn.refl _ _).alloc _).alloc _)
  ·have h2:¬ n<0:=by omega
   go_enter Tryz.func135,Tryz.ntmps135
   go_wp2_with fail
   refine (none_sup b s c _ ((hS.alloc _).alloc _)).mono ?_
   rintro e w' ⟨rfl,rfl⟩
   go_wp2
   go_ret2
   exact listPost_nil ((hS.alloc _).alloc _) (((STurn.refl _ _).alloc _).alloc _)
  ·by_cases h2:n<0
   ·go_enter Tryz.func135,Tryz.ntmps135
    go_wp2_with fail
    refine (none_sup b s c _ ((hS.alloc _).alloc _)).mono ?_
    rintro e w' ⟨rfl,rfl⟩
    go_wp2
    go_ret2
    exact listPost_nil ((hS.alloc _).alloc _) (((STurn.refl _ _).alloc _).alloc _)
   by_cases h3:4096<n
   ·go_enter Tryz.func135,Tryz.ntmps135
    go_wp2_with fail
    refine (none_sup b s c _ ((hS.alloc _).alloc _)).mono ?_
    rintro e w' ⟨rfl,rfl⟩
    go_wp2
    go_ret2
    exact listPost_nil ((hS.alloc _).alloc _) (((STurn.refl _ _).alloc _).alloc _)
   ·go_enter Tryz.func135,Tryz.ntmps135
    go_wp2_with fail
    refine (none_sup b s c _ ((hS.alloc _).alloc _)).mono ?_
    rintro e w' ⟨rfl,rfl⟩
    go_wp2
    go_ret2
    exact listPost_nil ((hS.alloc _).alloc _) (((STurn.refl _ _).alloc _).alloc _)
 ·have e:r=uniformR s c n q:=HR.out.symm
  rw [uniformR,if_neg h1] at e
  have h2:¬ n<0:=by omega
  have h3:¬ 4096<n:=by omega
  have h4:¬ q<1:=by omega
  clear h1
  obtain ⟨k,rfl⟩:=Int.eq_ofNat_of_zero_le (show 0≤n by omega)
  rw [Int.toNat_natCast] at e
  have HE:=Lib.hid e
  clear e
  have hmk:=mk_u32 k (by omega)
  go_enter Tryz.func135,Tryz.ntmps135
  go_wp2_with fail
  refine (none_sup b s c _ ((hS.alloc _).alloc _)).mono ?_
  rintro e w' ⟨rfl,rfl⟩
  go_wp2_with fail
  rcases hL:tkL s q k c with _ | ⟨l,d⟩
  ·refine (takeUniform_no b s c k q w hs hc (by omega) (by omega) hq hS hL).mono ?_
   rintro e w' ⟨rfl,h1,h2⟩
   have HL:=Lib.hid hL
   clear hL
   go_wp2
   go_ret2
   have e:r=([],4,c):=by rw [HE.out,HL.out]
   subst e
   exact listPost_nil h1 h2
  ·refine (takeUniform_yes b s c k q d l w hs hc (by omega) (by omega) hq hS hL).mono ?_
   rintro e w' ⟨rfl,h1,⟨h2,h5⟩,h6⟩
   have hlen:=tkL_spec1 hc hL
   have hcell:=cell_of_one h5
   have HL:=Lib.hid hL
   have Hlen:=Lib.hid hlen
   clear h5 hL hlen
   go_wp2
   go_ret2
   have e:r=(l.map (fun v:Nat=>(v:Int)),0,d):=by rw [HE.out,HL.out]
   subst e
   exact listPost_row h2 (by rw [List.length_map];exact Hlen.out) (by omega) (by omega) h1 h6


def RListPost (w:World) (b:Nat) (s:ByteArray) (e:TypeId) (kd:IntKind) (r:List Int × Int × Nat) (en:Ending) (w':World):Prop:=
 ∃ v,en = .returned (.tuple #[v,.int .i64 r.2.1])∧w'.ownsRow 0 e 1 v r.1.length (r.1.map (Value.int kd))∧(∀ k,v.ownBlock=some k→w.heap.size≤k)∧RefAt w' b s r.2.2∧STurn w w' [b]
theorem rlistPost_nil {w w':World} {b:Nat} {s:ByteArray} {e:TypeId} {kd:IntKind} {er:Int} {d:Nat} (h:RefAt w' b s d) (ht:STurn w w' [b]) :
  RListPost w b s e kd ([],er,d) (.returned (.tuple #[.slice none 0 0,.int .i64 er])) w':=
 ⟨_,rfl,World.ownsRow_nil _ _ _ _,fun k hk=>by simp [Value.ownBlock] at hk,h,ht⟩
theorem owns_base {w:World} {base:Nat} {e:TypeId} {size n:Nat} {v:Value} {xs:List Value} (h:w.ownsRow base e size v n xs):w.ownsRow 0 e size v n xs:=by
 refine ⟨h.1,?_⟩
 rcases h.2 with h2 | ⟨g,cap,cur,hv,hb,hh,r⟩
 ·exact .inl h2
 ·exact .inr ⟨g,cap,cur,hv,Nat.zero_le _,hh,r⟩

set_option maxRecDepth 100000 in
set_option maxHeartbeats 4000000 in
theorem runiform (b:Nat) (s:ByteArray) (c q:Nat) (n:Int) (w:World) (hs:s.size≤1048576) (hc:c≤8*s.size) (hq:q≤4294967295) (hS:RefAt w b s c) :
  Calls Tryz.prog 220 #[.pointer (some ⟨b,0,none⟩),.int .i64 n,.int .u32 q] w (RListPost w b s 22 .u32 (uniformR s c n q)):=by
 have h0:=hS.c1
 have hb:=hS.lt
 obtain ⟨i0,hi,hz0,hz1,hz2⟩:=info_parts s_info_u32
 obtain ⟨r,hr⟩:∃ r,uniformR s c n q=r:=⟨_,rfl⟩
 rw [hr]
 have HR:=Lib.hid hr
 clear hr
 by_cases h1:n<0∨4096<n∨q<1
 ·have e:r=([],2,c):=by rw [← HR.out,uniformR,if_pos h1]
  subst e
  by_cases h2:n<0
  ·go_enter Tryz.func220,Tryz.ntmps220
   go_wp2
   go_ret2
   exact rlistPost_nil hS (STurn.refl _ _)
  by_cases h3:4096<n
  ·go_enter Tryz.func220,Tryz.ntmps220
   go_wp2
   go_ret2
   exact rlistPost_nil hS (STurn.refl _ _)
  ·have h4:q<1:=by omega
   clear h1
   go_enter Tryz.func220,Tryz.ntmps220
   go_wp2
   go_ret2
   exact rlistPost_nil hS (STurn.refl _ _)
 ·have e:r=uniformR s c n q:=HR.out.symm
  rw [uniformR,if_neg h1] at e
  have h2:¬ n<0:=by omega
  have h3:¬ 4096<n:=by omega
  have h4:¬ q<1:=by omega
  clear h1
  obtain ⟨k,rfl⟩:=Int.eq_ofNat_of_zero_le (show 0≤n by omega)
  rw [Int.toNat_natCast] at e
  have HE:=Lib.hid e
  clear e
  go_enter Tryz.func220,Tryz.ntmps220
  go_wp2
  go_loopw [9,10] (fun v i wr=>∃ (j d:Nat) (l:List Nat),j≤k∧i = .int .i64 j∧d≤8*s.size∧Hid (tkL s q j c=some (l,d))∧RefAt wr b s d∧wr.ownsRow w.heap.size 22 1 v j ((l.map (fun v:Nat=>(v:Int))).map (Value.int .u32))∧STurn w wr [b]) (fun _ i _=>k - (intOf i).toNat)
  case atStart=>exact ⟨0,c,[],Nat.zero_le _,rfl,hc,Lib.hid rfl,hS,World.ownsRow_nil _ _ _ _,STurn.refl _ _⟩
  case round=>
   obtain ⟨j,d,l,hj,rfl,hd,HT,hSr,hown,hT⟩:=hrel
   by_cases hlt:j<k
   ·have H:=rbelow_any b s d q _ hs hd (by omega) (by omega) hSr
    rcases hL:belowL s q d with _ | ⟨x,d'⟩
    ·rw [hL] at H
     have HH:=Lib.hid H
     have HL:=Lib.hid hL
     clear H hL
     go_wp2_with fail
     refine HH.out.mono ?_
     rintro e w1 ⟨rfl,⟨d2,hd2,hS1⟩,hg⟩
     have k1:=hS1.c1
     have k2:=hS1.f1
     go_wp2
     go_ret2
     have hn:=tkL_none (tkL_stop HT.out HL.out) k (by omega)
     have e:r=([],4,c):=by rw [HE.out,hn]
     subst e
     exact rlistPost_nil (hS1.set c) ((hT.trans (STurn.of_grown hg (by simp))).setCell (.inl (by simp)) _)
    ·rw [hL] at H
     have hbs:=belowL_spec hL
     have HH:=Lib.hid H
     have HL:=Lib.hid hL
     clear H hL
     have hx:x≤4294967295:=by omega
     go_wp2_with fail
     refine HH.out.mono ?_
     rintro e w1 ⟨rfl,hS1,hg⟩
     have hvb:=hown.lt
     have hown1:=hown.kept hg (.inr (fun e=>by have:=hvb b e;omega))
     have hT1:=hT.trans (STurn.of_grown hg (S:=[b]) (by simp))
     have hw1:=hT1.size
     have HV:=Lib.hid hvb
     clear hvb
     go_wp2_with (at_builtin;refine wpList_append_own _ rfl _ _ 23 rfl w.heap.size 22 i0 (.int .u32 0) 1 4 Tryz.underlying23 hi hz0 hz1 hz2 rfl (by decide) _ _ _ rfl (hown1.alloc _) ⟨w1.heap.size,0,none⟩ 1 1 [.int .u32 x] rfl rfl ?c1 ?c2 ?c3 ?c4 ?c5 ?_)
     case c1=>
      intro t u ht
      match t,ht with
      | 0,ht=>simp at ht;subst ht;simp [Addr.add]
     case c2=>intro u hu;simp at hu;subst hu;rfl
     case c3=>unfold maxLen;omega
     case c4=>omega
     case c5=>simp;omega
     ·intro v' w2 hown2 hg2 _
      have HO:=Lib.hid hown2
      clear hown2
      go_wp2
      go_roundw
      case rel=>
       refine ⟨j+1,d',l++[x],by omega,by go_num,hbs.2.2,Lib.hid (tkL_more HT.out HL.out),?_,?_,?_⟩
       ·exact (hS1.alloc _).kept hg2 (fun e=>by have:=HV.out b e.symm;omega)
       ·have h:=HO.out
        rw [List.map_append,List.map_append,List.map_map]
        exact h
       ·have ht:=hT1.alloc (.cells #[.int .u32 x] 22)
        exact ⟨hg2.os.trans ht.os,hg2.tape.trans ht.tape,hg2.output.trans ht.output,Nat.le_trans ht.size hg2.size,fun i hi hne=>(hg2.block i (Nat.lt_of_lt_of_le hi ht.size) (fun e=>by have:=HV.out i e.symm;omega)).trans (ht.block i hi hne)⟩
      case measure=>simp [intOf];omega
   ·go_wp2
    go_ret2
    obtain rfl:j=k:=by omega
    have hlen:=tkL_spec1 hc HT.out
    have e:r=(l.map (fun v:Nat=>(v:Int)),0,d):=by rw [HE.out,HT.out]
    subst e
    refine ⟨_,rfl,?_,fun i hi=>(hown.lt i hi).1,hSr,hT⟩
    have e1:(l.map (fun v:Nat=>(v:Int))).length=j:=by rw [List.length_map];exact hlen
    rw [e1]
    exact owns_base hown


set_option maxRecDepth 100000 in
set_option maxHeartbeats 4000000 in
theorem rbounded (b:Nat) (s:ByteArray) (c q:Nat) (n:Int) (w:World) (hs:s.size≤1048576) (hc:c≤8*s.size) (hq:q≤4294967295) (hS:RefAt w b s c) :
  Calls Tryz.prog 144 #[.pointer (some ⟨b,0,none⟩),.int .i64 n,.int .u32 q] w (RListPost w b s 2 .i64 (boundedR s c n q)):=by
 have h0:=hS.c1
 have hb:=hS.lt
 obtain ⟨i0,hi,hz0,hz1,hz2⟩:=info_parts info_i64
 obtain ⟨r,hr⟩:∃ r,boundedR s c n q=r:=⟨_,rfl⟩
 rw [hr]
 have HR:=Lib.hid hr
 clear hr
 by_cases h1:n<0∨4096<n∨2147483647<q
 ·have e:r=([],2,c):=by rw [← HR.out,boundedR,if_pos h1]
  subst e
  by_cases h2:n<0
  ·go_enter Tryz.func144,Tryz.ntmps144
   go_wp2
   go_ret2
   exact rlistPost_nil hS (STurn.refl _ _)
  by_cases h3:4096<n
  ·go_enter Tryz.func144,Tryz.ntmps144
   go_wp2
   go_ret2
   exact rlistPost_nil hS (STurn.refl _ _)
  ·have h4:2147483647<q:=by omega
   clear h1
   go_enter Tryz.func144,Tryz.ntmps144
   go_wp2
   go_ret2
   exact rlistPost_nil hS (STurn.refl _ _)
 ·have e:r=boundedR s c n q:=HR.out.symm
  rw [boundedR,if_neg h1] at e
  have h2:¬ n<0:=by omega
  have h3:¬ 4096<n:=by omega
  have h4:¬ 2147483647<q:=by omega
  clear h1
  obtain ⟨k,rfl⟩:=Int.eq_ofNat_of_zero_le (show 0≤n by omega)
  rw [Int.toNat_natCast] at e
  have HE:=Lib.hid e
  clear e
  go_enter Tryz.func144,Tryz.ntmps144
  go_wp2
  go_loopw [9,10] (fun v i wr=>∃ (j d:Nat) (l:List Nat),j≤k∧i = .int .i64 j∧d≤8*s.size∧Hid (tkL s (2*q+1) j c=some (l,d))∧RefAt wr b s d∧wr.ownsRow w.heap.size 2 1 v j ((l.map (fun v:Nat=>(v:Int) - (q:Int))).map (Value.int .i64))∧STurn w wr [b]) (fun _ i _=>k - (intOf i).toNat)
  case atStart=>exact ⟨0,c,[],Nat.zero_le _,rfl,hc,Lib.hid rfl,hS,World.ownsRow_nil _ _ _ _,STurn.refl _ _⟩
  case round=>
   obtain ⟨j,d,l,hj,rfl,hd,HT,hSr,hown,hT⟩:=hrel
   by_cases hlt:j<k
   ·have H:=rbelow_any b s d (2*q+1) _ hs hd (by omega) (by omega) hSr
    rcases hL:belowL s (2*q+1) d with _ | ⟨x,d'⟩
    ·rw [hL] at H
     have HH:=Lib.hid H
     have HL:=Lib.hid hL
     clear H hL
     go_wp2_with fail
     refine HH.out.mono ?_
     rintro e w1 ⟨rfl,⟨d2,hd2,hS1⟩,hg⟩
     have k1:=hS1.c1
     have k2:=hS1.f1
     go_wp2
     go_ret2
     have hn:=tkL_none (tkL_stop HT.out HL.out) k (by omega)
     have e:r=([],4,c):=by rw [HE.out,hn]
     subst e
     exact rlistPost_nil (hS1.set c) ((hT.trans (STurn.of_grown hg (by simp))).setCell (.inl (by simp)) _)
    ·rw [hL] at H
     have hbs:=belowL_spec hL
     have HH:=Lib.hid H
     have HL:=Lib.hid hL
     clear H hL
     have hx:x≤4294967295:=by omega
     go_wp2_with fail
     refine HH.out.mono ?_
     rintro e w1 ⟨rfl,hS1,hg⟩
     have hvb:=hown.lt
     have hown1:=hown.kept hg (.inr (fun e=>by have:=hvb b e;omega))
     have hT1:=hT.trans (STurn.of_grown hg (S:=[b]) (by simp))
     have hw1:=hT1.size
     have HV:=Lib.hid hvb
     clear hvb
     go_wp2_with (at_builtin;refine wpList_append_own _ rfl _ _ 29 rfl w.heap.size 2 i0 (.int .i64 0) 1 8 Tryz.underlying29 hi hz0 hz1 hz2 rfl (by decide) _ _ _ rfl (hown1.alloc _) ⟨w1.heap.size,0,none⟩ 1 1 [.int .i64 ((x:Int) - (q:Int))] rfl rfl ?c1 ?c2 ?c3 ?c4 ?c5 ?_)
     case c1=>
      intro t u ht
      match t,ht with
      | 0,ht=>simp at ht;subst ht;simp [Addr.add]
     case c2=>intro u hu;simp at hu;subst hu;rfl
     case c3=>unfold maxLen;omega
     case c4=>omega
     case c5=>simp;omega
     ·intro v' w2 hown2 hg2 _
      have HO:=Lib.hid hown2
      clear hown2
      go_wp2
      go_roundw
      case rel=>
       refine ⟨j+1,d',l++[x],by omega,by go_num,hbs.2.2,Lib.hid (tkL_more HT.out HL.out),?_,?_,?_⟩
       ·exact (hS1.alloc _).kept hg2 (fun e=>by have:=HV.out b e.symm;omega)
       ·have h:=HO.out
        rw [List.map_append,List.map_append,List.map_map]
        exact h
       ·have ht:=hT1.alloc (.cells #[.int .i64 ((x:Int) - (q:Int))] 2)
        exact ⟨hg2.os.trans ht.os,hg2.tape.trans ht.tape,hg2.output.trans ht.output,Nat.le_trans ht.size hg2.size,fun i hi hne=>(hg2.block i (Nat.lt_of_lt_of_le hi ht.size) (fun e=>by have:=HV.out i e.symm;omega)).trans (ht.block i hi hne)⟩
      case measure=>simp [intOf];omega
   ·go_wp2
    go_ret2
    obtain rfl:j=k:=by omega
    have hlen:=tkL_spec1 hc HT.out
    have e:r=(l.map (fun v:Nat=>(v:Int) - (q:Int)),0,d):=by rw [HE.out,HT.out]
    subst e
    refine ⟨_,rfl,?_,fun i hi=>(hown.lt i hi).1,hSr,hT⟩
    have e1:(l.map (fun v:Nat=>(v:Int) - (q:Int))).length=j:=by rw [List.length_map];exact hlen
    rw [e1]
    exact owns_base hown
end Go.Proofs.YtdcenblblimkfaaGreat
