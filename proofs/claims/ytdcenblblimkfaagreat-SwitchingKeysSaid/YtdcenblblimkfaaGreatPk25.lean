/- The program's supply: taking, its deferred closure. -/
import Derived.Test.YtdcenblblimkfaaGreatPk01
import Derived.WalkKit
import Derived.WalkSpells
import Derived.WalkLawsBesides
import Derived.BigQuiet
import Derived.Outline
import Derived.Defers
import Derived.Lib.Hide
import Derived.Shelf.Abstract
set_option linter.unusedSimpArgs false
set_option linter.unusedVariables false
set_option linter.unnecessarySimpa false
set_option linter.unusedSectionVars false
namespace Go.Proofs.YtdcenblblimkfaaGreat
open Go.RowKit Go.Shelf

theorem hmf:∀ (fn:Fn) (first cap:Array Value) (w:World),(Instr.makeFunc fn first cap).run Tryz.prog w = .ok (.func fn first cap) w:=fun _ _ _ _=>rfl

theorem takingD_ok (pe pw ps:Nat) (u:FrameMode) (w:World) (he:w.cell? ⟨pe,0,none⟩=some (.int .i64 0)) :
  CallsD Tryz.prog 267 #[.pointer (some ⟨pe,0,none⟩),.pointer (some ⟨pw,0,none⟩),.pointer (some ⟨ps,0,none⟩)] u w fun e u' w'=>u'=u∧(e = .returned (.tuple #[])∧w'=w):=by
 go_enter_d Tryz.func267,Tryz.ntmps267
 go_wp2
 go_end0
 exact ⟨rfl,rfl⟩

theorem takingD_back (pe pw ps b:Nat) (c d:Nat) (s:ByteArray) (u:FrameMode) (w:World) (he:w.cell? ⟨pe,0,none⟩=some (.int .i64 4)) (hw:w.cell? ⟨pw,0,none⟩=some (.int .i64 c)) (hp:w.cell? ⟨ps,0,none⟩=some (.pointer (some ⟨b,0,none⟩))) (hS:SupAt w b s d) :
  CallsD Tryz.prog 267 #[.pointer (some ⟨pe,0,none⟩),.pointer (some ⟨pw,0,none⟩),.pointer (some ⟨ps,0,none⟩)] u w fun e u' w'=>u'=u∧(e = .returned (.tuple #[])∧w'=w.setCell ⟨b,1,none⟩ (.int .i64 c)):=by
 have h1:=hS.c1
 have h2:=hS.f1
 go_enter_d Tryz.func267,Tryz.ntmps267
 go_wp2
 go_end0
 exact ⟨rfl,rfl⟩

def takeWorld (w:World) (b c:Nat):World:=
 ((w.alloc (.cells #[.pointer (some ⟨b,0,none⟩)] 77)).alloc (.cells #[.int .i64 0] 34)).alloc (.cells #[.int .i64 c] 3)

theorem takeWorld_size (w:World) (b c:Nat):(takeWorld w b c).heap.size=w.heap.size+3:=by simp [takeWorld]
theorem takeWorld_at0 (w:World) (b c:Nat):(takeWorld w b c).heap[w.heap.size]? = some (.cells #[.pointer (some ⟨b,0,none⟩)] 77 (0,0)):=by
 unfold takeWorld
 rw [Below.heap_alloc _ _ _ (by simp;omega),Below.heap_alloc _ _ _ (by simp)]
 exact heap_alloc_new w _
theorem takeWorld_at1 (w:World) (b c:Nat):(takeWorld w b c).heap[w.heap.size+1]? = some (.cells #[.int .i64 0] 34 (0,0)):=by
 unfold takeWorld
 rw [Below.heap_alloc _ _ _ (by simp)]
 have:=heap_alloc_new (w.alloc (.cells #[.pointer (some ⟨b,0,none⟩)] 77)) (.cells #[.int .i64 0] 34)
 rw [World.size_alloc] at this
 exact this
theorem takeWorld_at2 (w:World) (b c:Nat):(takeWorld w b c).heap[w.heap.size+2]? = some (.cells #[.int .i64 c] 3 (0,0)):=by
 have:=heap_alloc_new ((w.alloc (.cells #[.pointer (some ⟨b,0,none⟩)] 77)).alloc (.cells #[.int .i64 0] 34)) (.cells #[.int .i64 c] 3)
 rw [World.size_alloc,World.size_alloc] at this
 exact this

def TakePost (n:Int) (R:World→Prop) (F:World→World) (e:Ending) (w':World):Prop:=e = .returned (.int .i64 n)∧∃ w2,R w2∧w'=F w2

set_option maxHeartbeats 400000 in
theorem taking_ok (g:FuncId) (caps:Array Value) (hg:∀ args w,(callFunc g args).run Tryz.prog w = .ok (.enter g args) w) (b:Nat) (s:ByteArray) (c:Nat) (w:World) (hS:SupAt w b s c) (R:World→Prop)
  (hcall:Calls Tryz.prog g caps (takeWorld w b c) fun e w2=>e = .returned (.bool true)∧R w2) (hk:∀ w2,R w2→∀ k,w.heap.size≤k→k<w.heap.size+3→w2.heap[k]? = (takeWorld w b c).heap[k]?) :
  Calls Tryz.prog 209 #[.pointer (some ⟨b,0,none⟩),.func (.func g) #[] caps] w (TakePost 0 R fun w2=>w2.setCell ⟨w.heap.size+1,0,none⟩ (.int .i64 0)):=by
 have hmf:=hmf
 have h1:=hS.c1
 have hb:=hS.lt
 have HK:=Lib.hid hk
 clear hk
 go_enter_defers Tryz.func209,Tryz.ntmps209
 go_wp2_with fail
 refine hcall.mono ?_
 rintro e w2 ⟨rfl,hR⟩
 clear hcall
 have hb1:=(HK.out w2 hR (w.heap.size+1) (by omega) (by omega)).trans (takeWorld_at1 w b c)
 have k1:=cell_of_one hb1
 have k2:=free_of_one hb1
 clear hb1
 have HR:=Lib.hid hR
 clear hR
 go_wp2
 refine leaves_cons (f:=267) (args:=#[.pointer (some ⟨w.heap.size+1,0,none⟩),.pointer (some ⟨w.heap.size+2,0,none⟩),.pointer (some ⟨w.heap.size,0,none⟩)]) (by simp) (by simp [go_sem]) ?_
 refine (takingD_ok (w.heap.size+1) (w.heap.size+2) w.heap.size .returning _ ?_).mono ?_
 ·simp [go_sem,k1]
 rintro e u' w'' ⟨rfl,rfl,rfl⟩
 simp [Leaves,settle,results,Tryz.results209,go_sem,k1]
 exact ⟨rfl,w2,HR.out,rfl⟩

set_option maxHeartbeats 400000 in
theorem taking_no (g:FuncId) (caps:Array Value) (hg:∀ args w,(callFunc g args).run Tryz.prog w = .ok (.enter g args) w) (b:Nat) (s:ByteArray) (c:Nat) (w:World) (hS:SupAt w b s c) (R:World→Prop)
  (hcall:Calls Tryz.prog g caps (takeWorld w b c) fun e w2=>e = .returned (.bool false)∧R w2) (hk:∀ w2,R w2→∀ k,w.heap.size≤k→k<w.heap.size+3→w2.heap[k]? = (takeWorld w b c).heap[k]?)
  (hs2:∀ w2,R w2→∃ d,SupAt w2 b s d) :
  Calls Tryz.prog 209 #[.pointer (some ⟨b,0,none⟩),.func (.func g) #[] caps] w (TakePost 4 R fun w2=>(w2.setCell ⟨w.heap.size+1,0,none⟩ (.int .i64 4)).setCell ⟨b,1,none⟩ (.int .i64 c)):=by
 have hmf:=hmf
 have h1:=hS.c1
 have hb:=hS.lt
 have HK:=Lib.hid hk
 clear hk
 go_enter_defers Tryz.func209,Tryz.ntmps209
 go_wp2_with fail
 refine hcall.mono ?_
 rintro e w2 ⟨rfl,hR⟩
 clear hcall
 have hb1:=(HK.out w2 hR (w.heap.size+1) (by omega) (by omega)).trans (takeWorld_at1 w b c)
 have k1:=cell_of_one hb1
 have k2:=free_of_one hb1
 clear hb1
 have hb0:=cell_of_one ((HK.out w2 hR w.heap.size (by omega) (by omega)).trans (takeWorld_at0 w b c))
 have hb2:=cell_of_one ((HK.out w2 hR (w.heap.size+2) (by omega) (by omega)).trans (takeWorld_at2 w b c))
 obtain ⟨d,hS2⟩:=hs2 w2 hR
 have HR:=Lib.hid hR
 clear hR hs2
 go_wp2
 refine leaves_cons (f:=267) (args:=#[.pointer (some ⟨w.heap.size+1,0,none⟩),.pointer (some ⟨w.heap.size+2,0,none⟩),.pointer (some ⟨w.heap.size,0,none⟩)]) (by simp) (by simp [go_sem]) ?_
 refine (takingD_back (w.heap.size+1) (w.heap.size+2) w.heap.size b c d s .returning _ ?_ ?_ ?_ ?_).mono ?_
 ·simp [go_sem,k1]
 ·simp [go_sem,hb2]
 ·simp [go_sem,hb0]
 ·exact hS2.other (by show b≠w.heap.size+1;omega) _
 rintro e u' w'' ⟨rfl,rfl,rfl⟩
 simp [Leaves,settle,results,Tryz.results209,go_sem,k1]
 exact ⟨rfl,w2,HR.out,rfl⟩
end Go.Proofs.YtdcenblblimkfaaGreat
