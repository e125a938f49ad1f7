/- Equal lists, elements, ciphertexts: by data.
Ciphertexts without a key: by data.
Ciphertexts without a key: by data.
Digits of elements, by data: which parameters have them.
The digits of a number, by data: the iterator's making.
The digits of a number: what the iterator yields.
The digits of an element, by data.
The digits of an element, one by one: what the iterator yields.
The reference's ciphertexts without a key: memory of the call's own.
The small parameters of the examples; literal lists as arguments: by data.
Arithmetic with ciphertexts, by data: valid ones, parts made one by one.
Arithmetic with ciphertexts, by data: multiples, plain polynomials, products.
Arithmetic with ciphertexts, by data: sums and products with plain polynomials, tensors.
Arithmetic with ciphertexts, by data: tensors. -/
import Derived.Test.YtmjildbdkecolaaGreatPsr48
import Derived.Test.YtmjildbdkecolaaGreatPsr27
import Derived.Test.YtmjildbdkecolaaGreatPsr28
import Derived.Test.YtmjildbdkecolaaGreatPsr30
import Derived.Test.YtmjildbdkecolaaGreatPsr31
import Derived.Test.YtmjildbdkecolaaGreatPsr29
import Derived.Test.YtmjildbdkecolaaGreatPsr32
import Derived.RangeFuncBox
import Derived.RangeFuncNested
import Derived.RangeFuncBound
import Derived.RangeFuncCalls
import Derived.RangeFuncLeaves
import Derived.RangeFuncWrites
import Derived.Shelf.Abstract
import Derived.Shelf.RegionOpen
import Derived.WalkKit
import Derived.OwnWalkIn
import Derived.TacticsInMore
import Derived.LoopNIn
import Derived.LoopIn
import Derived.Sort.QuietIn
import Derived.Lib.Hide
set_option linter.unusedSimpArgs false
set_option linter.unusedVariables false
set_option linter.unnecessarySimpa false
namespace Go.Proofs.YtmjildbdkecolaaGreat
open Go.RowKit
set_option maxRecDepth 20000
set_option maxHeartbeats 4000000
instance ti138 : TI Tryz.prog 138 Tryz.t138 Tryz.t137.desc := ⟨by kernel_rfl, by kernel_rfl⟩
instance sz138 : SZ Tryz.prog 138 3 := SZ.of ti138 rfl
instance zr138 : ZR Tryz.prog 138 [.int .i64 0, .int .i64 0, .int .i64 0] := ZR.of ti138 rfl rfl rfl
instance bt138 : BT Tryz.prog 138 [(0, 1), (1, 1), (2, 1)] [.int .i64 0, .int .i64 0, .int .i64 0] := BT.of (ns := [1, 1, 1]) ti138 rfl zr138.zr ⟨sz3.sz, ⟨sz3.sz, ⟨sz3.sz, trivial⟩⟩⟩ (by intro j; repeat (first | rfl | cases j with | zero => rfl | succ j => ?_))
instance ft138_0 : FT Tryz.prog 138 0 0 := FT.of ti138 rfl ti3 rfl rfl
instance fv138_0 : FV Tryz.prog 138 0 0 1 false := FV.one ti138 rfl ti3 rfl rfl
instance ft138_1 : FT Tryz.prog 138 1 1 := FT.of ti138 rfl ti3 rfl rfl
instance fv138_1 : FV Tryz.prog 138 1 1 1 false := FV.one ti138 rfl ti3 rfl rfl
instance ft138_2 : FT Tryz.prog 138 2 2 := FT.of ti138 rfl ti3 rfl rfl
instance fv138_2 : FV Tryz.prog 138 2 2 1 false := FV.one ti138 rfl ti3 rfl rfl
instance fi171 : FI Tryz.prog 171 Tryz.f171 := ⟨Tryz.func171, Tryz.call171⟩
instance fi169 : FI Tryz.prog 169 Tryz.f169 := ⟨Tryz.func169, Tryz.call169⟩
instance fi36 : FI Tryz.prog 36 Tryz.f36 := ⟨Tryz.func36, Tryz.call36⟩
instance fi97 : FI Tryz.prog 97 Tryz.f97 := ⟨Tryz.func97, Tryz.call97⟩
instance fi57 : FI Tryz.prog 57 Tryz.f57 := ⟨Tryz.func57, Tryz.call57⟩
instance fi13 : FI Tryz.prog 13 Tryz.f13 := ⟨Tryz.func13, Tryz.call13⟩
instance fi19 : FI Tryz.prog 19 Tryz.f19 := ⟨Tryz.func19, Tryz.call19⟩
/-- Equal lists. -/
def sameW (n m : Nat) (x y : Nat → Nat) : Bool := decide (n = m) && evry (fun j => decide (x j = y j)) n
theorem sameW_1 {n m : Nat} {x y : Nat → Nat} (h : n ≠ m) : sameW n m x y = false := by unfold sameW; rw [decide_eq_false h]; rfl
theorem sameW_2 {n j : Nat} {x y : Nat → Nat} (hj : j < n) (h : x j ≠ y j) : sameW n n x y = false := by unfold sameW; rw [evry_no hj (decide_eq_false h)]; simp
theorem sameW_3 {n : Nat} {x y : Nat → Nat} (h : ∀ j, j < n → x j = y j) : sameW n n x y = true := by unfold sameW; rw [evry_iff.2 (fun j hj => decide_eq_true (h j hj))]; simp
def sameR (m m' : Nat) (ln ln' : Nat → Nat) (g g' : Nat → Nat → Nat) : Bool := decide (m = m') && evry (fun k => sameW (ln k) (ln' k) (g k) (g' k)) m
theorem sameR_1 {m m' : Nat} {ln ln' : Nat → Nat} {g g' : Nat → Nat → Nat} (h : m ≠ m') : sameR m m' ln ln' g g' = false := by unfold sameR; rw [decide_eq_false h]; rfl
theorem sameR_2 {m j : Nat} {ln ln' : Nat → Nat} {g g' : Nat → Nat → Nat} (hj : j < m) (h : sameW (ln j) (ln' j) (g j) (g' j) = false) : sameR m m ln ln' g g' = false := by unfold sameR; rw [evry_no hj h]; simp
theorem sameR_3 {m : Nat} {ln ln' : Nat → Nat} {g g' : Nat → Nat → Nat} (h : ∀ j, j < m → sameW (ln j) (ln' j) (g j) (g' j) = true) : sameR m m ln ln' g g' = true := by unfold sameR; rw [evry_iff.2 h]; simp
/-- Equal elements. -/
def sameE (a b : EG) : Bool := decide (a.lv = b.lv) && (a.sp == b.sp) && sameR a.m b.m a.ln b.ln a.g b.g
def sameC (a b : CG) : Bool := decide (a.lv = b.lv) && decide (a.ex = b.ex) && decide (a.k = b.k) && evry (fun i => sameE (a.P i) (b.P i)) a.k
theorem r05Same_den (n m : Nat) (x y : Nat → Nat) (hn : n ≤ 1000000) (hm : m ≤ 1000000) : Den Tryz.prog 57 [u32sF true n x, u32sF true m y] (.val (.bool (sameW n m x y))) := by
 refine den_intro (fn := Tryz.f57) rfl rfl rfl rfl rfl ?_
 refine go ?_
 refine c_if (fun h1 => ?_) (fun h1 => ?_)
 ·refine go ?_
  refine fin ?_
  rw [sameW_1 h1]
  exact cv
 ·obtain rfl : n = m := by omega
  refine go ?_
  refine c_down (fun j => n - j) (fun j => j ≤ n ∧ ∀ k, k < j → x k = y k) (fun j : Nat => [(5, .val (.int .i64 (j : Int)))]) (fun _ => []) 0 (fun j ⟨hj, hp⟩ => ?_) ⟨by omega, fun e he => by omega⟩
  refine go ?_
  refine c_if (fun h3 => ?_) (fun h3 => ?_)
  ·refine go ?_
   refine c_if (fun h4 => ?_) (fun h4 => ?_)
   ·refine go ?_
    refine fin ?_
    rw [sameW_2 h3 h4]
    exact cv
   ·refine go ?_
    refine ⟨j + 1, ⟨by omega, fun k hk => ?_⟩, by omega, ?_⟩
    ·by_cases q : k < j
     ·exact hp k q
     ·obtain rfl : k = j := by omega
      omega
    ·exact sub
  ·refine go ?_
   obtain rfl : j = n := by omega
   refine fin ?_
   rw [sameW_3 hp]
   exact cv
theorem r09Same_den (a b : EG) (hm : a.m ≤ 1000000) (hm' : b.m ≤ 1000000) (hl : ∀ k, a.ln k ≤ 1000000) (hl' : ∀ k, b.ln k ≤ 1000000) : Den Tryz.prog 13 [.agg (elD true a), .agg (elD true b)] (.val (.bool (sameE a b))) := by
 refine den_intro (fn := Tryz.f13) rfl rfl rfl rfl rfl ?_
 refine go ?_
 refine c_ifB (fun h1 => ?_) (fun h1 => ?_)
 ·refine go ?_
  refine fin ?_
  rw [show sameE a b = false by
   unfold sameE
   by_cases q1 : a.lv = b.lv
   ·by_cases q2 : a.sp = b.sp
    ·by_cases q3 : a.m = b.m
     ·exfalso
      simp [q1, q2, q3] at h1
     ·rw [sameR_1 q3]; simp
    ·simp [q2]
   ·simp [q1]]
  exact cv
 ·have q : a.lv = b.lv ∧ a.sp = b.sp ∧ a.m = b.m := by
   simp at h1
   exact ⟨h1.1.1, h1.1.2, h1.2⟩
  have hE : sameE a b = sameR a.m a.m a.ln b.ln a.g b.g := by unfold sameE; rw [q.1, q.2.1, ← q.2.2]; simp
  refine go ?_
  refine c_down (fun j => a.m - j) (fun j => j ≤ a.m ∧ ∀ k, k < j → sameW (a.ln k) (b.ln k) (a.g k) (b.g k) = true) (fun j : Nat => [(5, .val (.int .i64 (j : Int)))]) (fun _ => []) 0 (fun j ⟨hj, hp⟩ => ?_) ⟨by omega, fun e he => by omega⟩
  refine go ?_
  refine c_if (fun h3 => ?_) (fun h3 => ?_)
  ·have h3' : j < b.m := by omega
   refine go ?_
   refine r_callO (r05Same_den (a.ln j) (b.ln j) (a.g j) (b.g j) (hl j) (hl' j)) ?_
   refine go ?_
   refine c_ifB (fun h4 => ?_) (fun h4 => ?_)
   ·refine go ?_
    refine fin ?_
    rw [hE, sameR_2 h3 (by simpa using h4)]
    exact cv
   ·refine go ?_
    refine ⟨j + 1, ⟨by omega, fun k hk => ?_⟩, by omega, ?_⟩
    ·by_cases q : k < j
     ·exact hp k q
     ·obtain rfl : k = j := by omega
      simpa using h4
    ·exact sub
  ·refine go ?_
   obtain rfl : j = a.m := by omega
   refine fin ?_
   rw [hE, sameR_3 hp]
   exact cv
open Go.RowKit
set_option maxRecDepth 20000
set_option maxHeartbeats 4000000
theorem st_Lv {p : PD} {lv ex : Int} (h : St p lv ex) {n l : Nat} (hn : p.n = (n : Int)) (hl : lv = (l : Int)) : Lv p n l := ⟨good_VP h.good, good_special h.good, hn, by have := h.l1; omega, by have := h.l2; omega⟩
theorem good_n {p : PD} (h : Good p.par) : ∃ n : Nat, p.n = (n : Int) ∧ 4 ≤ n ∧ n ≤ 32 := by
 rcases h.1 with q | q | q | q
 ·exact ⟨4, q, by omega, by omega⟩
 ·exact ⟨8, q, by omega, by omega⟩
 ·exact ⟨16, q, by omega, by omega⟩
 ·exact ⟨32, q, by omega, by omega⟩
theorem good_pow {p : PD} (h : Good p.par) {ex : Nat} (he : (ex : Int) ≤ p.power) : (∀ i, i ≤ ex → p.prime ^ i ≤ 2147483647) ∧ 3 ≤ p.prime ∧ 1 ≤ p.prime ^ ex := by
 have h7 := h.2.2.2.2.2.2.1
 obtain ⟨a, b, c, d, e, f⟩ := h7
 simp only [PD.par] at a f
 refine ⟨fun i hi => Nat.le_trans (Nat.pow_le_pow_right (by omega) (by omega)) f, a, Nat.pow_pos (by omega)⟩
theorem r13Of_den (p : PD) (n lv : Nat) (sp : Bool) (h : Lv p n lv) (r0 : D) [OldD r0] (hr0 : r0.one = true) (x : Nat → Int) (hx : ∀ j, -9223372036854775808 ≤ x j ∧ x j ≤ 9223372036854775807) : Den Tryz.prog 51 [.agg (parL true p), .agg [.val (.int .i64 (lv : Int)), .val (.bool sp), r0], intsD true n x] (.agg (elL false lv sp (modN p lv sp) n (fun k j => resI (x j) (modQ p lv k)))) := by
 refine den_intro (fn := Tryz.f51) rfl rfl rfl rfl rfl ?_
 refine go ?_
 refine r_call (r09FromInts_den p n lv sp h x hx) ?_
 refine go ?_
 refine fin ?_
 exact cv
open Go.RowKit
set_option maxRecDepth 20000
set_option maxHeartbeats 4000000
noncomputable abbrev zerosD (n : Nat) : D := .fz true n Tryz.t2.size (fun _ => valL (Value.int .i64 0).cells.toList)
instance (n : Nat) : OldD (zerosD n) := (inferInstance : OldD (intsD true n (fun _ => 0)))
theorem resI_0 (q : Nat) : resI 0 q = 0 := by unfold resI; simp
theorem resI_f (q : Nat → Nat) : (fun k (j : Nat) => resI ((fun _ : Nat => (0 : Int)) j) (q k)) = fun _ _ => 0 := by funext k j; exact resI_0 _
theorem rgZero_den (p : PD) (n lv : Nat) (sp : Bool) (h : Lv p n lv) : Den Tryz.prog 75 [.agg (parL true p), .val (.int .i64 (lv : Int)), .val (.bool sp), zerosD n] (.tup [.agg (elL false lv sp (modN p lv sp) n (fun _ _ => 0)), .val (.int .i64 0)]) := by
 have := rgFromInts_den p n lv sp h (fun _ => 0) (fun _ => by omega)
 rw [resI_f] at this
 exact this
theorem r13Zero_den (p : PD) (n lv : Nat) (sp : Bool) (h : Lv p n lv) (r0 : D) [OldD r0] (hr0 : r0.one = true) : Den Tryz.prog 51 [.agg (parL true p), .agg [.val (.int .i64 (lv : Int)), .val (.bool sp), r0], zerosD n] (.agg (elL false lv sp (modN p lv sp) n (fun _ _ => 0))) := by
 have := r13Of_den p n lv sp h r0 hr0 (fun _ => 0) (fun _ => by omega)
 rw [resI_f] at this
 exact this
theorem good_ex {b ex : Nat} (h : ∀ i, i ≤ ex → b ^ i ≤ 2147483647) (hb : 3 ≤ b) : ex ≤ 1000000 := by
 by_cases q : ex ≤ 1000000
 ·exact q
 ·have h1 := h 32 (by omega)
  have h2 := Nat.pow_le_pow_left hb 32
  omega
open Go.RowKit
set_option maxRecDepth 20000
set_option maxHeartbeats 4000000
instance fi224 : FI Tryz.prog 224 Tryz.f224 := ⟨Tryz.func224, Tryz.call224⟩
instance fi214 : FI Tryz.prog 214 Tryz.f214 := ⟨Tryz.func214, Tryz.call214⟩
instance fi197 : FI Tryz.prog 197 Tryz.f197 := ⟨Tryz.func197, Tryz.call197⟩
instance fi198 : FI Tryz.prog 198 Tryz.f198 := ⟨Tryz.func198, Tryz.call198⟩
instance fi174 : FI Tryz.prog 174 Tryz.f174 := ⟨Tryz.func174, Tryz.call174⟩
instance fi199 : FI Tryz.prog 199 Tryz.f199 := ⟨Tryz.func199, Tryz.call199⟩
instance fi215 : FI Tryz.prog 215 Tryz.f215 := ⟨Tryz.func215, Tryz.call215⟩
instance ti212 : TI Tryz.prog 212 Tryz.t212 (.pointer 217) := ⟨by kernel_rfl, by kernel_rfl⟩
instance ti217 : TI Tryz.prog 217 Tryz.t217 Tryz.t216.desc := ⟨by kernel_rfl, by kernel_rfl⟩
instance sz212 : SZ Tryz.prog 212 1 := SZ.of ti212 rfl
instance zr212 : ZR Tryz.prog 212 [.pointer none] := ZR.of ti212 rfl rfl rfl
instance sz217 : SZ Tryz.prog 217 3 := SZ.of ti217 rfl
instance zr217 : ZR Tryz.prog 217 [.pointer none, .int .i64 0, .int .i64 0] := ZR.of ti217 rfl rfl rfl
instance bt217 : BT Tryz.prog 217 [(0, 1), (1, 1), (2, 1)] [.pointer none, .int .i64 0, .int .i64 0] := BT.of (ns := [1, 1, 1]) ti217 rfl zr217.zr ⟨sz147.sz, ⟨sz3.sz, ⟨sz3.sz, trivial⟩⟩⟩ (by intro j; repeat (first | rfl | cases j with | zero => rfl | succ j => ?_))
instance ft217_0 : FT Tryz.prog 217 0 0 := FT.of ti217 rfl ti147 rfl rfl
instance fv217_0 : FV Tryz.prog 217 0 0 1 false := FV.one ti217 rfl ti147 rfl rfl
instance ft217_1 : FT Tryz.prog 217 1 1 := FT.of ti217 rfl ti3 rfl rfl
instance fv217_1 : FV Tryz.prog 217 1 1 1 false := FV.one ti217 rfl ti3 rfl rfl
instance ft217_2 : FT Tryz.prog 217 2 2 := FT.of ti217 rfl ti3 rfl rfl
instance fv217_2 : FV Tryz.prog 217 2 2 1 false := FV.one ti217 rfl ti3 rfl rfl
theorem gdapart_den (a b : Nat) (ha : a ≤ 4294967295) (h2 : 2 ≤ b) (hb : b ≤ 2147483647) (h : invB (a % b) b = true) : Den Tryz.prog 224 [.val (.int .u32 (a : Int)), .val (.int .u32 (b : Int))] (.val (.bool true)) := by
 refine den_intro (fn := Tryz.f224) rfl rfl rfl rfl rfl ?_
 have hm := Nat.mod_lt a (show 0 < b by omega)
 have hi := mInverse_den (a % b) b h2 hb hm
 rw [h] at hi
 refine go ?_
 refine r_call hi ?_
 refine go ?_
 refine fin ?_
 exact cv
theorem gdmade_den (p : PD) (n : Nat) (hp : PFit p) (hg : Good p.par) (hn : p.n = (n : Int)) : Den Tryz.prog 214 [.fptr true (parL true p), .val (.int .i64 31)] (.tup [.fptr false [.fptr true (parL true p), .val (.int .i64 31), .val (.int .i64 1)], .val (.bool true)]) := by
 refine den_intro (fn := Tryz.f214) rfl rfl rfl rfl rfl ?_
 have hL : Lv p n 1 := ⟨good_VP hg, good_special hg, hn, by omega, hg.2.1⟩
 have h32 := hL.n32
 have hN : NatIs p.n n := hn
 have hM : NatIs (max 0 (min p.n 32)) n := by show _ = _; omega
 have hv : p.chain.length ≤ 24 := hg.2.2.1
 have hch := hp.chain
 refine go ?_
 refine c_no ?_
 refine go ?_
 refine r_call (rgZero_den p n 1 false hL) ?_
 refine go ?_
 refine c_up p.chain.length (fun i => [(39, .val (.int .i64 (i : Nat)))]) (fun i => []) (fun i hi => ?_)
 refine go ?_
 refine c_if (fun h3 => ?_) (fun h3 => ?_)
 ·have hci := hch i h3
  refine go ?_
  refine c_up i (fun j => [(51, .val (.int .i64 (j : Nat)))]) (fun j => []) (fun j hj => ?_)
  refine go ?_
  refine c_if (fun h4 => ?_) (fun h4 => ?_)
  ·have h5 := hL.vp.mods j (by omega)
   simp only [modOk, Bool.and_eq_true, decide_eq_true_eq] at h5
   refine go ?_
   refine r_call (gdapart_den (p.chain.getD i 0) (p.chain.getD (0 + j) 0) hci (by rw [Nat.zero_add]; omega) (by rw [Nat.zero_add]; omega) (by rw [Nat.zero_add]; exact good_apart hg (by omega) h3)) ?_
   refine go ?_
   refine c_no ?_
   refine go ?_
   refine ⟨by omega, ?_⟩
   exact sub
  ·refine go ?_
   refine ⟨h3, ?_⟩
   exact sub
 ·refine go ?_
  refine fin_frz 1069 ?_
  refine fin ?_
  exact cv
theorem gdlevel_den (p : PD) (lv : Int) : Den Tryz.prog 198 [.fptr true [.fptr true (parL true p), .val (.int .i64 31), .val (.int .i64 1)], .val (.int .i64 lv)] (.val (.bool (decide (1 ≤ lv) && decide (lv ≤ (p.chain.length : Int))))) := by
 refine den_intro (fn := Tryz.f198) rfl rfl rfl rfl rfl ?_
 refine go ?_
 refine fin ?_
 exact cv
theorem gdasked_den (p : PD) (n : Nat) (hp : PFit p) (hg : Good p.par) (hn : p.n = (n : Int)) (lv : Int) : Den Tryz.prog 197 [.fptr true (parL true p), .val (.int .i64 31), .val (.int .i64 lv), .val (.func (.func 198) #[] #[])] (.tup [.fptr false [.fptr true (parL true p), .val (.int .i64 31), .val (.int .i64 1)], .val (.bool (decide (1 ≤ lv) && decide (lv ≤ (p.chain.length : Int))))]) := by
 refine den_intro (fn := Tryz.f197) rfl rfl rfl rfl rfl ?_
 refine go ?_
 refine r_callO (gdmade_den p n hp hg hn) ?_
 refine go ?_
 refine r_callO (gdlevel_den p lv) ?_
 refine go ?_
 refine fin ?_
 exact cv
open Go.RowKit
set_option maxRecDepth 20000
set_option maxHeartbeats 4000000
/-- A cutter of whole residues. -/
abbrev cutL (p : PD) : List D := [.fptr true (parL true p), .val (.int .i64 31), .val (.int .i64 1)]
theorem SlotCv.clo {H : Nat → Option Box} {fn : FuncId} {l l' : List D} (h : SlotCvL H l l') : SlotCv H (.clo fn l) (.clo fn l') := fun S E a w Z i v hF hv => by
 cases hv with | clo _ _ vs _ hl hr => exact .clo _ fn vs _ (hl.trans h.len) (fun j hj => h.at j S E a w Z i _ hF (hr j (by rw [h.len]; exact hj)))
section
variable {P : Program} {fn : Func} {r : D} {hs rs : Hs} {env : List (Nat × D)} {box : List (Nat × Option Box)}
theorem fin_slot (t : Nat) (d : D) {d0 : D} (hc : SlotCv (hk box) d0 d) (h : FinS P fn r hs rs (lk ((t, d) :: env)) (hk box)) (ht : Lk env t d0 := by (repeat (first | exact Lk.here | apply Lk.there rfl))) : FinS P fn r hs rs (lk env) (hk box) := h.sub (sub_conv t d ht.eq hc)
end
theorem gddigits_den (p : PD) (x : Int) : DenH Tryz.prog 199 [.fptr true (cutL p), .val (.int .i64 x)] [] (.clo 215 [.fptr false [.fptr true (cutL p)], .eptr 1003 0 0 0]) [] [(1003, .lit 2 [.val (.int .i64 x)])] := by
 refine den_intro (fn := Tryz.f199) rfl rfl rfl rfl rfl ?_
 refine go ?_
 refine fin_frz 1002 ?_
 refine fin_slot 4 (.clo 215 [.fptr false [.fptr true (cutL p)], .eptr 1003 0 0 0]) (.clo (.cons (.ice (ns := [1002]) (CvV.icel (t := 212) (n := 1) rfl rfl rfl rfl)) (.cons (.refl _) .nil))) ?_
 exact finN
open Go.RowKit Go.Shelf
attribute [local go_sem] Oper.semAt_some
set_option maxRecDepth 100000 in
set_option maxHeartbeats 2000000 in
theorem gddigits1_itr (p : PD) (x : Int) (hx1 : -1073741824 ≤ x) (hx2 : x ≤ 1073741824) : ItrDM Tryz.prog 215 (.fptr true [.fptr true (cutL p)]) 2 (fun z : Int => .int .i64 z) x [[.val (.int .i64 0), .val (.int .i64 x)]] := fun l C0 Z0 W0 v0 bx J Jx hJ hJx hJ0 hv hY => by
 obtain ⟨b1, o1, rfl, h1⟩ := rep_fptr hv
 obtain ⟨u1, c1, z1, r1⟩ := h1 0 (by simp)
 obtain ⟨bc, oc, rfl, hc⟩ := rep_fptr r1
 obtain ⟨u2, c2, z2, r2⟩ := hc 1 (by simp)
 obtain ⟨u3, c3, z3, r3⟩ := hc 2 (by simp)
 obtain rfl := rep_val r2
 obtain rfl := rep_val r3
 simp only [Nat.add_zero] at c1 c2 c3
 replace z1 := z1.2
 replace z2 := z2.2
 have HJ := Lib.hid hJ
 have round : ∀ C Z W (wm : KZ Z0 W0 W) (hz : ∀ b, Z0 b → Z b), J 0 x C Z W → W0.heap.size ≤ W.heap.size → YieldAt (Fw none) 0 Tryz.prog l #[.int .i64 0, .int .i64 x] W fun e W' =>
   (e = .returned (.bool true) ∧ ∃ C' Z', J 1 x C' Z' W' ∧ KZ Z0 W0 W' ∧ (∀ b, Z0 b → Z' b) ∧ W0.heap.size ≤ W'.heap.size) ∨ (e = .returned (.bool false) ∧ ∃ k' C' Z', Jx k' C' Z' W') := fun C Z W wm hz hJk hsz => by
  refine (hY 0 x C Z W _ [.int .i64 0, .int .i64 x] (fun _ => False) rfl hJk (fun _ h => h.elim) ⟨rfl, fun j hj => ?_⟩ hsz).mono ?_
  ·match j, hj with
   | 0, _ => exact .val _ _
   | 1, _ => exact .val _ _
  ·rintro e W' (⟨rfl, C', Z', q1, q2, q3, q4⟩ | q)
   ·exact .inl ⟨rfl, C', Z', q1, fun b hb => (q2.block b ((hJ.lt hJk).2 b (hz b hb)) (fun hc => ((hJ.lt hJk).1 b hc).2 (hz b hb))).trans (wm b hb), fun b hb => q4 b (.inl (hz b hb)), Nat.le_trans hsz q2.size⟩
   ·exact .inr q
 have HR := Lib.hid round
 clear hJ hY round hv h1 hc r1 r2 r3
 refine callsIn_of_wp Tryz.func215 rfl trivial ?_ rfl
 simp only [Tryz.ntmps215, List.size_toArray, List.length_cons, List.length_nil, Nat.reduceAdd, Nat.reduceSub, Array.replicate_succ, Array.replicate_zero, List.push_toArray, List.append_toArray, List.nil_append, List.cons_append]
 gi_wp2
 gi_loopw [17] (fun i wr => ∃ (k : Nat) (y : Int) (C Z : Nat → Prop), k ≤ 1 ∧ (k = 0 → y = x) ∧ i = .int .i64 k ∧ J k y C Z wr ∧ KZ Z0 W0 wr ∧ (∀ b, Z0 b → Z b) ∧ W0.heap.size ≤ wr.heap.size)
  (fun i _ => 1 - (intOf i).toNat)
 case atStart => exact ⟨0, x, C0, Z0, Nat.zero_le _, fun _ => rfl, rfl, HJ.out.stable hJ0 ⟨rfl, rfl, rfl, Nat.le_refl _⟩ (fun _ _ _ => rfl), fun _ _ => rfl, fun _ h => h, Nat.le_refl _⟩
 case round =>
  obtain ⟨k, y, C, Z, hk, hy0, rfl, hJs, hnx, hzz, hsz⟩ := hrel
  by_cases hlt : k < 1
  ·obtain rfl : k = 0 := by omega
   obtain rfl := hy0 rfl
   obtain ⟨fn, tmps, assign, body, hy, hR⟩ := HR.out C Z wr hnx hzz hJs hsz
   have d1 := hnx.cell c1 z1
   have d2 := hnx.cell c2 z2
   have d3 := hnx.cell c3 z2
   have dx : wr.cell? ⟨bx, 0, none⟩ = some (.int .i64 y) := (HJ.out.peek hJs).1.cell 0 (by simp)
   gi_wp2
   refine ⟨rfl, hR.mono ?_⟩
   rintro e W3 (⟨rfl, C', Z', hJ3, hk3, hz3, hs3⟩ | ⟨rfl, hJx3⟩)
   ·clear d1 d2 d3 dx
    have d1 := hk3.cell c1 z1
    have d2 := hk3.cell c2 z2
    have d3 := hk3.cell c3 z2
    have dx : W3.cell? ⟨bx, 0, none⟩ = some (.int .i64 y) := (HJ.out.peek hJ3).1.cell 0 (by simp)
    have fx : W3.frozen? ⟨bx, 0, none⟩ = false := by
     have := (HJ.out.peek hJ3).1
     unfold Bk at this
     simp [World.frozen?, this]
    gi_wp2
    gi_region
    gi_wp2
    go_roundw
    case rel =>
     have hb := (HJ.out.peek hJ3).1
     have hX : ∀ b, b ≠ bx → (W3.setCell ⟨bx, 0, none⟩ (.int .i64 0)).drew.heap[b]? = W3.heap[b]? := fun b hb => by
      show (W3.setCell ⟨bx, 0, none⟩ (.int .i64 0)).heap[b]? = _
      simp [World.setCell, Array.getElem?_modify, Ne.symm hb]
     have hsz3 : (W3.setCell ⟨bx, 0, none⟩ (.int .i64 0)).drew.heap.size = W3.heap.size := by show (W3.setCell ⟨bx, 0, none⟩ (.int .i64 0)).heap.size = _; simp
     refine ⟨1, 0, C', Z', Nat.le_refl _, fun h => absurd h (by omega), rfl, HJ.out.poke (W' := (W3.setCell ⟨bx, 0, none⟩ (.int .i64 0)).drew) hJ3 ⟨rfl, rfl, rfl, hsz3⟩ hX ?_, fun b hzb => (hX b (fun e => ?_)).trans (hk3 b hzb), hz3, by rw [hsz3]; exact hs3⟩
     ·unfold Bk at hb ⊢
      show (W3.setCell ⟨bx, 0, none⟩ (.int .i64 0)).heap[bx]? = _
      simp [World.setCell, Array.getElem?_modify, hb]
     ·subst e
      exact (HJ.out.peek hJ3).2.1 (hz3 _ hzb)
    case measure => simp [intOf]
   ·gi_wp2
    refine bodyPost_ret (results_none rfl _ _ _) rfl ?_
    exact ⟨⟨_, rfl⟩, .inr hJx3⟩
  ·obtain rfl : k = 1 := by omega
   gi_wp2
   go_end0
   exact ⟨⟨_, rfl⟩, .inl ⟨y, C, Z, hJs⟩⟩
open Go.RowKit
set_option maxRecDepth 20000
set_option maxHeartbeats 4000000
instance ti193 : TI Tryz.prog 193 Tryz.t193 (.slice 92) := ⟨by kernel_rfl, by kernel_rfl⟩
instance sz193 : SZ Tryz.prog 193 1 := SZ.of ti193 rfl
instance zr193 : ZR Tryz.prog 193 [.slice none 0 0] := ZR.of ti193 rfl rfl rfl
instance et193 : ET Tryz.prog 193 1 := ET.of ti193 ti92 rfl
theorem rgCheckV_den (p : PD) (n lv : Nat) (sp : Bool) (h : Lv p n lv) (g : Nat → Nat → Nat) (hg : Vg p lv g) : Den Tryz.prog 44 [.agg (parL true p), .agg (elL true lv sp (modN p lv sp) n g)] (.val (.int .i64 0)) := by
 have h32 := h.n32
 have l2 := h.l2
 have l24 := h.vp.len2
 have hM : modN p lv sp ≤ 1000000 := by unfold modN; split <;> omega
 have := rgCheck_den p h.vp (lv : Int) sp (modN p lv sp) (fun _ => n) g (fun _ => by show n ≤ _; omega) hM
 rw [elOk_valid h hg] at this
 exact this
/-- Rows of balanced residues. -/
abbrev balR (p : PD) (lv : Nat) (g : Nat → Nat → Nat) (i j : Nat) : Int := balI (g i j) (modQ p lv i)
/-- Digits put in, row by row. -/
abbrev putI (V : Nat → Nat → Int) (i j e x : Nat) : Int := if e < i ∨ e = i ∧ x < j then V e x else 0
theorem putI_step {V : Nat → Nat → Int} {i i' j : Nat} {v : Int} (hi : i' = i) (hv : v = V i j) (e x : Nat) : setG (fun e x => [.val (.int .i64 (putI V i j e x))]) i' (setE (fun x => [.val (.int .i64 (putI V i j i' x))]) j 0 [.val (.int .i64 v)]) e x = [.val (.int .i64 (putI V i (j + 1) e x))] := by
 subst hi hv
 unfold setG
 by_cases q : e = i'
 ·subst q
  rw [if_pos rfl]
  unfold setE
  by_cases q2 : x = j
  ·subst q2; simp [putI, setL, takeL, dropL]
  ·have : putI V e (j + 1) e x = putI V e j e x := by unfold putI; by_cases q3 : x < j <;> simp [q3] <;> omega
   simp only [q2, if_false, this]
 ·rw [if_neg q]
  simp [putI, q]
theorem putI_row {V : Nat → Nat → Int} {i n e x : Nat} (hx : x < n) : putI V i n e x = putI V (i + 1) 0 e x := by
 unfold putI
 by_cases q : e < i ∨ e = i
 ·rw [if_pos (by omega), if_pos (by omega)]
 ·rw [if_neg (by omega), if_neg (by omega)]
theorem putI_zero {V : Nat → Nat → Int} (e x : Nat) : putI V 0 0 e x = 0 := if_neg (by omega)
theorem putI_all {V : Nat → Nat → Int} {m e x : Nat} (h : e < m) : putI V m 0 e x = V e x := if_pos (.inl h)
theorem gdasked_ok (p : PD) (n lv : Nat) (hp : PFit p) (hg : Good p.par) (h : Lv p n lv) : Den Tryz.prog 197 [.fptr true (parL true p), .val (.int .i64 31), .val (.int .i64 (lv : Int)), .val (.func (.func 198) #[] #[])] (.tup [.fptr false [.fptr true (parL true p), .val (.int .i64 31), .val (.int .i64 1)], .val (.bool true)]) := by
 have l1 := h.l1
 have l2 := h.l2
 have := gdasked_den p n hp hg h.n (lv : Int)
 rw [decide_eq_true (show (1 : Int) ≤ (lv : Int) by omega), decide_eq_true (show (lv : Int) ≤ (p.chain.length : Int) by omega)] at this
 exact this
theorem gdDigits0_den (p : PD) (n lv : Nat) (hp : PFit p) (hg : Good p.par) (h : Lv p n lv) (g : Nat → Nat → Nat) (hv : Vg p lv g) : Den Tryz.prog 174 [.agg (parL true p), .val (.int .i64 31), .agg (elL true lv false lv n g)]
  (.tup [.fz false (lv * 1) 1 (fun i => [.fz false n 1 (fun j => [.val (.int .i64 (balR p lv g i j))])]), .val (.int .i64 0)]) := by
 refine den_intro (fn := Tryz.f174) rfl rfl rfl rfl rfl ?_
 have h32 := h.n32
 have hN : NatIs p.n n := h.n
 have l1 := h.l1
 have l2 := h.l2
 have l24 := h.vp.len2
 have n4 := h.n4
 refine c_sreg ?_
 refine gor ?_
 refine c_frz 1003 ?_
 refine c_frz 1005 ?_
 refine c_slot 3 (.fptr false (parL true p)) ?_
 refine c_slot 5 (.fptr false (elL true lv false lv n g)) ?_
 refine go ?_
 refine r_callO (gdasked_ok p n lv hp hg h) ?_
 refine go ?_
 refine r_eqS 33 (.val (.bool false)) rfl ?_
 refine r_eqS 34 (.agg (parL true p)) rfl ?_
 refine r_eqS 35 (.agg (elL true lv false lv n g)) rfl ?_
 refine go ?_
 refine r_call (rgCheckV_den p n lv false h g hv) ?_
 refine go ?_
 refine c_no ?_
 refine go ?_
 refine c_mat0 1046 2 Tryz.t2.size n (fun _ _ => [.val (.int .i64 0)]) ?_
 refine c_up (lv * 1) (fun i => [(49, .val (.int .i64 (i : Nat)))]) (fun i => [(1046, some (.mat 92 2 (lv * 1) i Tryz.t2.size n (fun _ _ => [.val (.int .i64 0)])))]) (fun i hi => ?_)
 refine go ?_
 refine c_if (fun h3 => ?_) (fun h3 => ?_)
 ·refine go ?_
  refine ⟨h3, ?_⟩
  refine sub_mat 1046 (fun _ _ => [.val (.int .i64 0)]) (putG_snoc (fun _ _ => rfl)) (fun _ _ => rfl) ?_
  exact sub
 ·obtain rfl : i = lv * 1 := by omega
  refine go ?_
  refine c_mat 1046 (fun e x => [.val (.int .i64 (putI (balR p lv g) 0 0 e x))]) (fun e x _ _ => by rw [putI_zero]) (fun _ _ => rfl) ?_
  refine c_up lv (fun i => [(62, .val (.int .i64 (i : Nat)))]) (fun i => [(1046, some (.mat 92 2 (lv * 1) (lv * 1) Tryz.t2.size n (fun e x => [.val (.int .i64 (putI (balR p lv g) i 0 e x))])))]) (fun i hi => ?_)
  refine go ?_
  refine c_if (fun h4 => ?_) (fun h4 => ?_)
  ·refine go ?_
   refine c_up n (fun j => [(69, .val (.int .i64 (j : Nat)))]) (fun j => [(1046, some (.mat 92 2 (lv * 1) (lv * 1) Tryz.t2.size n (fun e x => [.val (.int .i64 (putI (balR p lv g) i j e x))])))]) (fun j hj => ?_)
   refine go ?_
   refine c_if (fun h5 => ?_) (fun h5 => ?_)
   ·have hq := hv i j
    have hqe : modQ p lv i = p.chain.getD i 0 := if_pos h4
    have hm := h.vp.mods i (by omega)
    simp only [modOk, Bool.and_eq_true, decide_eq_true_eq] at hm
    have hbx : balR p lv g i j = balI (g i j) (p.chain.getD i 0) := by unfold balR; rw [hqe]
    rw [hqe] at hq
    refine go ?_
    refine c_cut0 [(16, .val (.int .i64 (balI (g i j) (p.chain.getD i 0))))] ?_ ?_
    ·refine c_if (fun h6 => ?_) (fun h6 => ?_)
     ·unfold balI
      rw [if_pos (by omega)]
      refine go ?_
      exact sub
     ·unfold balI
      rw [if_neg (by omega)]
      refine go ?_
      exact sub
    ·have hb : -1073741824 ≤ balI (g i j) (p.chain.getD i 0) ∧ balI (g i j) (p.chain.getD i 0) ≤ 1073741824 := by unfold balI; split <;> omega
     generalize balI (g i j) (p.chain.getD i 0) = X at *
     refine go ?_
     refine r_callL (gddigits_den p X) (r' := .clo 215 [.fptr false [.fptr true (cutL p)], .eptr 1091 0 0 0]) rfl rfl ?_
     refine go ?_
     refine c_rangeM (α := Empty) [1008, 1010, 1012, 1014, 1046, 1091] 1091 (gddigits1_itr p X hb.1 hb.2) 1 rfl (fun _ => [.val (.int .i64 0), .val (.int .i64 X)]) (fun k hk => match k, hk with | 0, _ => rfl)
      (fun k y => [(191, some (.lit 2 [.val (.int .i64 y)])), (146, some (.mat 92 2 (lv * 1) (lv * 1) Tryz.t2.size n (fun e x => [.val (.int .i64 (putI (balR p lv g) i (j + k) e x))]))), (110, some (.lit 193 [.sl 146 Tryz.t92.size (lv * 1)])), (112, some (.lit 3 [.val (.int .i64 (i : Int))])), (114, some (.lit 3 [.val (.int .i64 (j : Int))])), (108, some (.lit 212 [.fptr false [.fptr true (parL true p), .val (.int .i64 31), .val (.int .i64 1)]])), (1005, some (.ice 35 1 3 (fun _ => elL true lv false lv n g))), (1003, some (.ice 25 1 7 (fun _ => parL true p)))])
      (fun _ => []) (fun _ => False) (fun _ => .ret) (fun _ => True) trivial (fun k y l hk _ => ?_) (fun y _ => ?_) (fun y => y.elim)
     ·obtain rfl : k = 0 := by omega
      refine go ?_
      refine ⟨trivial, ?_⟩
      refine sub_mat 146 (fun e x => [.val (.int .i64 (putI (balR p lv g) i (j + (0 + 1)) e x))]) (fun e x _ _ => ?_) (fun _ _ => rfl) ?_
      ·exact putI_step (by omega) hbx.symm e x
      ·exact sub
     ·refine go ?_
      refine ⟨h5, ?_⟩
      exact sub
   ·obtain rfl : j = n := by omega
    refine go ?_
    refine ⟨h4, ?_⟩
    refine sub_mat 1046 (fun e x => [.val (.int .i64 (putI (balR p lv g) (i + 1) 0 e x))]) (fun e x _ hx => ?_) (fun _ _ => rfl) ?_
    ·rw [putI_row hx]
    ·exact sub
  ·obtain rfl : i = lv := by omega
   refine go ?_
   refine fin_mat 1046 (fun e x => [.val (.int .i64 (balR p i g e x))]) (fun e x he _ => ?_) (fun _ _ => rfl) ?_
   ·rw [putI_all (by omega)]
   ·refine fin_freezeM 1046 ?_
    refine fin ?_
    exact cv
theorem gdDigits_den (p : PD) (n lv : Nat) (hp : PFit p) (hg : Good p.par) (h : Lv p n lv) (g : Nat → Nat → Nat) (hv : Vg p lv g) : Den Tryz.prog 174 [.agg (parL true p), .val (.int .i64 31), .agg (elL true lv false lv n g)]
  (.tup [.fz false lv 1 (fun i => [.fz false n 1 (fun j => [.val (.int .i64 (balR p lv g i j))])]), .val (.int .i64 0)]) := by
 have := gdDigits0_den p n lv hp hg h g hv
 rw [Nat.mul_one] at this
 exact this
open Go.RowKit Go.Shelf
attribute [local go_sem] Oper.semAt_some
instance fi103 : FI Tryz.prog 103 Tryz.f103 := ⟨Tryz.func103, Tryz.call103⟩
instance fi173 : FI Tryz.prog 173 Tryz.f173 := ⟨Tryz.func173, Tryz.call173⟩
instance fi42 : FI Tryz.prog 42 Tryz.f42 := ⟨Tryz.func42, Tryz.call42⟩
instance fi34 : FI Tryz.prog 34 Tryz.f34 := ⟨Tryz.func34, Tryz.call34⟩
instance fi92 : FI Tryz.prog 92 Tryz.f92 := ⟨Tryz.func92, Tryz.call92⟩
instance fi94 : FI Tryz.prog 94 Tryz.f94 := ⟨Tryz.func94, Tryz.call94⟩
instance fi45 : FI Tryz.prog 45 Tryz.f45 := ⟨Tryz.func45, Tryz.call45⟩
/-- The rows, one by one. -/
abbrev digR (p : PD) (n lv : Nat) (g : Nat → Nat → Nat) (i : Nat) : D := .fz false n 1 (fun j => [.val (.int .i64 (balR p lv g i j))])
theorem rep_cells {Z0 : Nat → Prop} {W0 : World} {v : Value} {l : List D} (h : Rep (fun o b => o = true ∧ Z0 b) W0 noN v (.fptr true l)) : ∃ (b o : Nat) (us : List Value), v = .pointer (some ⟨b, o, none⟩) ∧ us.length = l.length ∧ ∀ c, c < l.length → W0.cell? ⟨b, o + c, none⟩ = some (us.getD c undef) ∧ (us.getD c undef).oneCell' = true ∧ Rep (fun o b => o = true ∧ Z0 b) W0 noN (us.getD c undef) (dl l c) := by
 cases h with | fptr _ _ b p _ vs ha hr =>
 refine ⟨b, p, (List.range l.length).map vs, rfl, by simp, fun c hc => ?_⟩
 have e : ((List.range l.length).map vs).getD c undef = vs c := by rw [List.getD_eq_getElem?_getD]; simp [hc]
 rw [e]
 exact ⟨(ha c hc).2.1, (ha c hc).2.2, hr c hc⟩
set_option maxRecDepth 100000 in
set_option maxHeartbeats 2000000 in
theorem swdigits1_itr (p : PD) (n lv : Nat) (hp : PFit p) (hg : Good p.par) (h : Lv p n lv) (g : Nat → Nat → Nat) (hv : Vg p lv g) : ItrD Tryz.prog 173 [.fptr true (parL true p), .fptr true (elL true lv false lv n g)] ((List.range lv).map fun i => [digR p n lv g i]) := fun l C0 Z0 W0 vs J Jx hJ hJx hJ0 hvs hY => by
 obtain ⟨v1, v2, rfl⟩ : ∃ v1 v2, vs = [v1, v2] := by
  have := hvs.1
  match vs, this with
  | [a, b], _ => exact ⟨a, b, rfl⟩
 obtain ⟨b1, o1, us, rfl, hl1, h1⟩ := rep_cells (hvs.2 0 (by simp))
 obtain ⟨b2, o2, ws, rfl, hl2, h2⟩ := rep_cells (hvs.2 1 (by simp))
 match us, hl1, ws, hl2 with
 | [a0, a1, a2, a3, a4, a5, a6], _, [e0, e1, e2], _ =>
 have ra := fun c (hc : c < 7) => h1 c hc
 have rb := fun c (hc : c < 3) => h2 c hc
 have c0 := (ra 0 (by omega)).1
 have c1 := (ra 1 (by omega)).1
 have c2 := (ra 2 (by omega)).1
 have c3 := (ra 3 (by omega)).1
 have c4 := (ra 4 (by omega)).1
 have c5 := (ra 5 (by omega)).1
 have c6 := (ra 6 (by omega)).1
 have d0 := (rb 0 (by omega)).1
 have d1 := (rb 1 (by omega)).1
 have d2 := (rb 2 (by omega)).1
 simp only [Nat.add_zero, List.getD_cons_zero, List.getD_cons_succ] at c0 c1 c2 c3 c4 c5 c6 d0 d1 d2
 have hlt := (hJ.lt hJ0)
 have HD := Lib.hid (gdDigits_den p n lv hp hg h g hv Z0 W0 noN [.agg #[a0, a1, a2, a3, a4, a5, a6], .int .i64 31, .agg #[e0, e1, e2]] hlt.2 (fun _ _ => rfl) ⟨fun k B hm => by simp at hm, fun k k' B B' b hm => by simp at hm⟩
  ⟨rfl, fun j hj => match j, hj with
   | 0, _ => .agg _ [a0, a1, a2, a3, a4, a5, a6] _ rfl (fun j hj => (ra j hj).2.1) (fun j hj => (ra j hj).2.2)
   | 1, _ => .val _ _
   | 2, _ => .agg _ [e0, e1, e2] _ rfl (fun j hj => (rb j hj).2.1) (fun j hj => (rb j hj).2.2)⟩)
 have HJ := Lib.hid hJ
 have HY := Lib.hid hY
 clear hJ hY ra rb h1 h2 hvs
 refine callsIn_of_wp Tryz.func173 rfl trivial ?_ rfl
 simp only [Tryz.ntmps173, List.size_toArray, List.length_cons, List.length_nil, Nat.reduceAdd, Nat.reduceSub, Array.replicate_succ, Array.replicate_zero, List.push_toArray, List.append_toArray, List.nil_append, List.cons_append]
 gi_wp2
 refine ⟨trivial, rfl, (callsIn_wide.2 HD.out).mono ?_⟩
 rintro e W1 ⟨v, i1, Zn, rfl, hkept, hzn, _, _, _, _, _, hrep⟩
 clear HD c0 c1 c2 c3 c4 c5 c6 d0 d1 d2
 have l1 := h.l1
 obtain ⟨ao, cap, rv, rfl, hcap, hcap2, hcells⟩ : ∃ (ao : Addr) (cap : Nat) (rv : Nat → Value), v = .tuple #[.slice (some ao) lv cap, .int .i64 0] ∧ lv ≤ cap ∧ cap ≤ 9223372036854775807 ∧ ∀ e, e < lv → ao = ⟨ao.block, ao.off, none⟩ ∧ Zn ao.block ∧ W1.cell? ⟨ao.block, ao.off + e, none⟩ = some (rv e) ∧ Rep (Z2 Z0 Zn) W1 noN (rv e) (digR p n lv g e) := by
  cases hrep with | tup _ vs _ hl hr =>
  match vs, hl with
  | [s, t], _ =>
   have r0 : Rep (Z2 Z0 Zn) W1 i1 s (.fz false lv 1 (fun i => [digR p n lv g i])) := hr 0 (by simp)
   have r1 : Rep (Z2 Z0 Zn) W1 i1 t (.val (.int .i64 0)) := hr 1 (by simp)
   obtain rfl := rep_val r1
   cases r0 with | fz _ _ ao _ cap _ _ us q1 q2 _ ha hb =>
   obtain ⟨b, o, e1, e2, _⟩ := ha 0 0 (by omega) (by omega)
   subst e1
   refine ⟨⟨b, o, none⟩, cap, fun e => us e 0, rfl, q1, q2, fun e he => ⟨rfl, e2, ?_, hb e 0 he (by omega)⟩⟩
   obtain ⟨b', o', e1', _, e3', _⟩ := ha e 0 he (by omega)
   cases e1'
   simpa using e3'
 obtain ⟨ab, aof, asp⟩ := ao
 obtain rfl : asp = none := by have := (hcells 0 (by omega)).1; cases this; rfl
 have hzb : Zn ab := (hcells 0 (by omega)).2.1
 have hkb : ∀ b, b < W0.heap.size → W1.heap[b]? = W0.heap[b]? := fun b hb => hkept.block b hb (fun ⟨_, _, hk, _⟩ => by simp [Hs.keys] at hk)
 have hJ1 : J 0 C0 Z0 W1 := HJ.out.stable hJ0 ⟨hkept.os, hkept.tape, hkept.output, hkept.size⟩ (fun b hb _ => hkb b hb)
 have hs1 := hkept.size
 have round : ∀ k C Z W, k < lv → J k C Z W → (∀ b, Z0 b ∨ Zn b → W.heap[b]? = W1.heap[b]?) → (∀ b, Z0 b → Z b) → (∀ b, Zn b → ¬ C b) → W1.heap.size ≤ W.heap.size → YieldAt (Fw none) 0 Tryz.prog l #[rv k] W fun e W' =>
   (e = .returned (.bool true) ∧ ∃ C' Z', J (k + 1) C' Z' W' ∧ (∀ b, Z0 b ∨ Zn b → W'.heap[b]? = W1.heap[b]?) ∧ (∀ b, Z0 b → Z' b) ∧ (∀ b, Zn b → ¬ C' b) ∧ W1.heap.size ≤ W'.heap.size) ∨ (e = .returned (.bool false) ∧ ∃ k' C' Z', Jx k' C' Z' W') := fun k C Z W hk hJk hm hz hc hsz => by
  have hJ := HJ.out
  have hlk := hJ.lt hJk
  refine (HY.out k C Z W [digR p n lv g k] [rv k] Zn (by simp [hk]) hJk (fun b hb => ⟨(hzn b hb).1, by have := (hzn b hb).2; omega, hc b hb⟩) ⟨rfl, fun j hj => ?_⟩ (by omega)).mono ?_
  ·obtain rfl : j = 0 := by simpa using hj
   refine (hcells k hk).2.2.2.mem (fun o b hb => ?_)
   cases o with
   | false => exact ⟨hb, hm b (.inr hb)⟩
   | true =>
    rcases hb with q | q
    ·exact ⟨.inl (hz b q), hm b (.inl q)⟩
    ·exact ⟨.inr q, hm b (.inr q)⟩
  ·rintro e W' (⟨rfl, C', Z', q1, q2, q3, q4⟩ | q)
   ·refine .inl ⟨rfl, C', Z', q1, fun b hb => ?_, fun b hb => q4 b (.inl (hz b hb)), fun b hb hcb => ?_, Nat.le_trans hsz q2.size⟩
    ·have hlt : b < W.heap.size := by
      rcases hb with q | q
      ·exact hlk.2 b (hz b q)
      ·have := (hzn b q).2; omega
     refine (q2.block b hlt (fun hcb => ?_)).trans (hm b hb)
     rcases hb with q | q
     ·exact (hlk.1 b hcb).2 (hz b q)
     ·exact hc b q hcb
    ·rcases q3 b hcb with q | q
     ·exact hc b hb q
     ·have := (hzn b hb).2; omega
   ·exact .inr q
 have HR := Lib.hid round
 clear round hrep HY
 gi_wp2
 gi_loopw [18] (fun i wr => ∃ (k : Nat) (C Z : Nat → Prop), k ≤ lv ∧ i = .int .i64 k ∧ J k C Z wr ∧ (∀ b, Z0 b ∨ Zn b → wr.heap[b]? = W1.heap[b]?) ∧ (∀ b, Z0 b → Z b) ∧ (∀ b, Zn b → ¬ C b) ∧ W1.heap.size ≤ wr.heap.size)
  (fun i _ => lv - (intOf i).toNat)
 case atStart => exact ⟨0, C0, Z0, Nat.zero_le _, rfl, hJ1, fun _ _ => rfl, fun _ h => h, fun b hb hc => by have := (hlt.1 b hc).1; have := (hzn b hb).1; omega, Nat.le_refl _⟩
 case round =>
  obtain ⟨k, C, Z, hk, rfl, hJs, hm, hzz, hnc, hsz⟩ := hrel
  by_cases hlt : k < lv
  ·obtain ⟨fn, tmps, assign, body, hy, hR⟩ := HR.out k C Z wr hlt hJs hm hzz hnc hsz
   have hcx : wr.cell? ⟨ab, aof + k, none⟩ = some (rv k) := (World.cell?_of_block (hm ab (.inr hzb))).trans (hcells k hlt).2.2.1
   gi_wp2
   refine ⟨rfl, hR.mono ?_⟩
   rintro e W3 (⟨rfl, C', Z', hJ3, q1, q2, q3, q4⟩ | ⟨rfl, hJx3⟩)
   ·gi_wp2
    go_roundw
    case rel => exact ⟨k + 1, C', Z', by omega, by simp, hJ3, q1, q2, q3, q4⟩
    case measure => simp [intOf]; omega
   ·gi_wp2
    refine bodyPost_ret (results_none rfl _ _ _) rfl ?_
    exact ⟨⟨_, rfl⟩, .inr hJx3⟩
  ·obtain rfl : k = lv := by omega
   gi_wp2
   go_end0
   exact ⟨⟨_, rfl⟩, .inl ⟨C, Z, by simpa using hJs⟩⟩
open Go.RowKit
set_option maxRecDepth 20000
set_option maxHeartbeats 4000000
open Go.RowKit
set_option maxRecDepth 20000
set_option maxHeartbeats 4000000
instance (p : PD) : NewDL (parL false p) := by unfold parL u32sD; infer_instance
/-- Four primes: the small parameters. -/
def p4 : PD := ⟨4, 17, 1, [2147481209], 2147483249, 4, 2⟩
theorem p4_good : Good p4.par := good4
theorem p4_fit : PFit p4 := ⟨by decide, by decide, by decide, by decide, by decide, fun i hi => by
 have : i = 0 := by simp [p4] at hi; omega
 subst this; decide, by decide, by decide, by decide, by decide⟩
theorem small13_den : Den Tryz.prog 41 [.val (.int .i64 1)] (.agg (parL false p4)) := by
 refine den_intro (fn := Tryz.f41) rfl rfl rfl rfl rfl ?_
 refine go ?_
 refine r_call (r12default_den 4 17 1 17 2147483249 1 [2147481209] (by omega) (by omega) (by omega) (by omega) (by omega) (by omega) (plainV_pos plain417) (by omega) (by omega) (by omega) (by omega) chain4 rfl) ?_
 refine go ?_
 refine fin ?_
 exact cv
theorem p4_n : p4.n = ((4 : Nat) : Int) := rfl
open Go.RowKit
set_option maxRecDepth 20000
set_option maxHeartbeats 4000000
/-- A valid ciphertext. -/
abbrev ciV (o : Bool) (lv ex k n : Nat) (G : Nat → Nat → Nat → Nat) : List D := [.val (.int .i64 (lv : Int)), .val (.int .i64 (ex : Int)), .fz o k 3 (fun i => elL o lv false lv n (G i))]
structure Cv (p : PD) (n lv ex : Nat) : Prop where
 fit : PFit p
 st : St p (lv : Int) (ex : Int)
 n : p.n = (n : Int)
theorem Cv.lv {p : PD} {n lv ex : Nat} (h : Cv p n lv ex) : Lv p n lv := st_Lv h.st h.n rfl
def Vc (p : PD) (lv : Nat) (G : Nat → Nat → Nat → Nat) : Prop := ∀ i, Vg p lv (G i)
theorem ciCheckV_den (p : PD) (n lv ex k : Nat) (h : Cv p n lv ex) (hk : k = 2 ∨ k = 3) (G : Nat → Nat → Nat → Nat) (hG : Vc p lv G) : Den Tryz.prog 59 [.agg (parL true p), .agg (ciV true lv ex k n G)] (.val (.int .i64 0)) := by
 have h32 := h.lv.n32
 have l2 := h.lv.l2
 have l24 := h.lv.vp.len2
 have := ciCheck_den p h.fit ⟨lv, ex, k, fun i => ⟨lv, false, lv, fun _ => n, G i⟩⟩ (by show k ≤ _; omega) (fun _ _ => by show n ≤ _; omega) (fun _ => by show lv ≤ _; omega)
 rw [ciOk_4 (stB_iff.2 h.st) hk (fun i _ => ?_)] at this
 ·exact this
 ·unfold partOk eOk
  rw [show elOk p (lv : Int) false lv (fun _ => n) (G i) = true from elOk_valid h.lv (hG i)]
  simp
abbrev zeroEl : List D := [.val (.int .i64 0), .val (.bool false), .val (.slice none 0 0)]
open Go.RowKit
set_option maxRecDepth 20000
set_option maxHeartbeats 4000000
def mulIntV (p : PD) (lv : Nat) (m : Int) (A : Nat → Nat → Nat) (r j : Nat) : Nat := (A r j * resI m (modQ p lv r)) % modQ p lv r
def addV (p : PD) (lv : Nat) (A B : Nat → Nat → Nat) (r j : Nat) : Nat := (A r j + B r j) % modQ p lv r
def subV (p : PD) (lv : Nat) (A B : Nat → Nat → Nat) (r j : Nat) : Nat := (A r j + modQ p lv r - B r j) % modQ p lv r
def intV (p : PD) (lv : Nat) (x : Nat → Int) (r j : Nat) : Nat := resI (x j) (modQ p lv r)
section
variable {p : PD} {n lv : Nat}
theorem Lv.q0 (h : Lv p n lv) (r : Nat) : 0 < modQ p lv r := by have := modQ_in h.vp h.sp h.l2 r; omega
theorem vg_mulInt (h : Lv p n lv) (m : Int) (A : Nat → Nat → Nat) : Vg p lv (mulIntV p lv m A) := fun r j => Nat.mod_lt _ (h.q0 r)
theorem vg_sub (h : Lv p n lv) (A B : Nat → Nat → Nat) : Vg p lv (subV p lv A B) := fun r j => Nat.mod_lt _ (h.q0 r)
theorem vg_int (h : Lv p n lv) (x : Nat → Int) : Vg p lv (intV p lv x) := fun r j => resI_lt (h.q0 r)
end
open Go.RowKit
set_option maxRecDepth 20000
set_option maxHeartbeats 4000000
open Go.RowKit
set_option maxRecDepth 20000
set_option maxHeartbeats 4000000
end Go.Proofs.YtmjildbdkecolaaGreat
