/- Slices of numbers of 32 bits that are read; the library's Clone, IndexFunc, ContainsFunc. -/
import Derived.Test.YtmjildbdkecolaaGreatPsr10
import Derived.Deep.QuietTactic
import Derived.Shelf.Abstract
import Derived.Lib.Slices
set_option linter.unusedSimpArgs false
set_option linter.unusedVariables false
set_option linter.unnecessarySimpa false
namespace Go.Proofs.YtmjildbdkecolaaGreat
open Go.RowKit Go.Shelf

/-- The slice at ao, of so many elements, reads l. -/
def Rd (w : World) (ao : Option Addr) (l : List Nat) : Prop :=
 ∀ k, k < l.length → ∃ b off, ao = some ⟨b, off, none⟩ ∧ ∀ j, j < l.length → w.cell? ⟨b, off + j, none⟩ = some (.int .u32 ((l.getD j 0 : Nat) : Int))
section
variable {w w' : World} {ao : Option Addr} {l : List Nat} {S : List Nat}
theorem Rd.nil (w : World) (ao : Option Addr) : Rd w ao [] := fun k hk => by simp at hk
theorem Rd.below (h : Rd w ao l) (hb : Below w.heap.size w w') : Rd w' ao l := fun k hk => by
 obtain ⟨b, off, e, hc⟩ := h k hk
 exact ⟨b, off, e, fun j hj => (hb.cell (World.block_lt_of_cell? w _ (hc j hj))).trans (hc j hj)⟩
theorem Rd.turn (h : Rd w ao l) (hb : Turn w w' []) : Rd w' ao l := h.below hb.below
theorem Rd.belowN {B : Nat} (h : Rd w ao l) (hb : Below B w w') (hB : w.heap.size ≤ B) : Rd w' ao l := h.below ⟨hb.os, hb.tape, hb.output, hb.size, fun k hk => hb.block k (by omega)⟩
end
theorem info_u32 : (Tryz.prog.info? 22).map (fun i => (i.zero, i.size, i.bytes)) = some (some (.int .u32 0), 1, 4) := by kernel_rfl

/-- A list as the sort has it. -/
def arrOf (l : List Nat) : Array Int := (l.map Int.ofNat).toArray
theorem arrOf_size (l : List Nat) : (arrOf l).size = l.length := by simp [arrOf]
set_option maxHeartbeats 1600000 in
set_option maxRecDepth 100000 in
theorem clone_walk (ao : Option Addr) (cap : Nat) (l : List Nat) (w : World) (h : Rd w ao l) (h1 : 1 ≤ l.length) (h2 : l.length ≤ 1000000) :
  Calls Tryz.prog 165 #[.slice ao l.length cap] w fun e w' => ∃ g cap', e = .returned (.slice (some ⟨g, 0, none⟩) l.length cap') ∧ w.heap.size ≤ g ∧ l.length ≤ cap' ∧ cap' ≤ 9223372036854775807 ∧ Arr w' g (arrOf l) ∧ Turn w w' [] := by
 obtain ⟨b, off, rfl, hc⟩ := h 0 h1
 obtain ⟨i0, hi, hz0, hz1, hz2⟩ := info_parts info_u32
 have hown : (w.alloc (.cells #[] 22)).ownsRow w.heap.size 22 1 (.slice (some ⟨w.heap.size, 0, none⟩) 0 0) 0 [] :=
  ⟨by simp, .inr ⟨w.heap.size, 0, #[], rfl, Nat.le_refl _, heap_alloc_new w _, Nat.le_refl _, Nat.zero_le _, by simp, by simp⟩⟩
 have hcells : ∀ j u, (l.map (fun x : Nat => Value.int .u32 (x : Int)))[j]? = some u → (w.alloc (.cells #[] 22)).cell? ((⟨b, off, none⟩ : Addr).add j) = some u := by
  intro j u hu
  simp only [List.getElem?_map, Option.map_eq_some_iff] at hu
  obtain ⟨x, hx, rfl⟩ := hu
  obtain ⟨hj, hx'⟩ := List.getElem?_eq_some_iff.1 hx
  have := hc j hj
  rw [List.getD_eq_getElem?_getD, hx, Option.getD_some] at this
  rw [add_zero_addr, World.cell?_alloc_lt w _ _ (World.block_lt_of_cell? w _ this)]
  exact this
 have HO := Lib.hid hown
 have HCL := Lib.hid hcells
 obtain ⟨n, hn⟩ : ∃ n, l.length = n := ⟨_, rfl⟩
 rw [hn] at h1 h2 ⊢
 have HN := Lib.hid hn
 clear hn h hc hown hcells
 have heq : ∀ w, (binOp .eql 23 (.slice (some ⟨b, off, none⟩) n cap) (.slice none 0 0)).run Tryz.prog w = .ok (.bool false) w := fun w =>
  Lib.run_eql_slice_nil w _ _ _ _ _ _ _ Tryz.underlying23
 have hlen : (l.map (fun x : Nat => Value.int .u32 (x : Int))).length = n * 1 := by rw [List.length_map, HN.out]; omega
 have HL := Lib.hid hlen
 clear hlen
 go_enter Tryz.func165, Tryz.ntmps165
 go_wp2_with (at_builtin; refine wpList_append_own _ rfl (.tmp 5) (.tmp 6) 23 rfl w.heap.size 22 i0 (.int .u32 0) 1 4 Tryz.underlying23 hi hz0 hz1 hz2 rfl (by decide) (.slice (some ⟨w.heap.size, 0, none⟩) 0 0) 0 [] rfl HO.out ⟨b, off, none⟩ n cap (l.map (fun x : Nat => Value.int .u32 (x : Int))) rfl HL.out HCL.out (by simp [Value.oneCell']) (by unfold maxLen; omega) (by omega) (by simp) ?_)
 intro v' w1 hown hg _
 have hg' := hg
 obtain ⟨g, cap', cur, rfl, hge, hh, hnc, hml, hcs, htk⟩ : ∃ g cap cur, v' = .slice (some ⟨g, 0, none⟩) n cap ∧ w.heap.size ≤ g ∧ w1.heap[g]? = some (.cells cur 22 (0, 0)) ∧ n ≤ cap ∧ cap ≤ maxLen ∧ cur.size = cap * 1 ∧ cur.toList.take (n * 1) = l.map (fun x : Nat => Value.int .u32 (x : Int)) := by
  rcases hown.2 with ⟨_, h⟩ | h
  ·omega
  ·exact h
 have HA : Hid (Arr w1 g (arrOf l)) := by
  refine ⟨(cur.toList.drop n).toArray, 22, ?_⟩
  rw [hh]
  congr 2
  apply Array.toList_inj.1
  rw [Nat.mul_one] at htk
  rw [Array.toList_append]
  conv => lhs; rw [← List.take_append_drop n cur.toList, htk]
  congr 1
  simp [arrOf, Function.comp_def]
 have HT : Hid (Turn w w1 []) := ((Turn.refl w []).alloc (.cells #[] 22)).new (Turn.of_grown (S := [w.heap.size]) hg (fun k hk => by simp [Value.ownBlock] at hk; exact .inl (by simp [hk]))) (fun j hj => .inl (by simp at hj; omega))
 unfold maxLen at hml
 clear hg hg' hown hh htk hcs
 go_wp2
 go_ret
 exact ⟨g, cap', rfl, hge, hnc, hml, HA.out, HT.out⟩

/-- What IndexFunc asks of the function that it is given: of each element it returns p, and turns nothing that is old. -/
def Asks (w : World) (g : FuncId) (caps : Array Value) (l : List Nat) (p : Nat → Bool) : Prop :=
 ∀ k wr, k < l.length → Below w.heap.size w wr → Calls Tryz.prog g (#[.int .u32 ((l.getD k 0 : Nat) : Int)] ++ caps) wr fun e w' => e = .returned (.bool (p (l.getD k 0))) ∧ Below w.heap.size w w'
theorem any_none {l : List Nat} {p : Nat → Bool} (h : ∀ j, j < l.length → p (l.getD j 0) = false) : l.any p = false := by
 rw [List.any_eq_false]
 intro x hx
 obtain ⟨i, hi, rfl⟩ := List.mem_iff_getElem.1 hx
 have := h i hi
 simp only [List.getD_eq_getElem?_getD, List.getElem?_eq_getElem hi, Option.getD_some] at this
 simp [this]
theorem any_some {l : List Nat} {p : Nat → Bool} {j : Nat} (hj : j < l.length) (h : p (l.getD j 0) = true) : l.any p = true := by
 rw [List.any_eq_true]
 simp only [List.getD_eq_getElem?_getD, List.getElem?_eq_getElem hj, Option.getD_some] at h
 exact ⟨_, List.getElem_mem hj, h⟩

set_option maxHeartbeats 1600000 in
set_option maxRecDepth 100000 in
theorem indexF_walk (ao : Option Addr) (cap : Nat) (l : List Nat) (w : World) (g : FuncId) (caps : Array Value) (p : Nat → Bool) (h : Rd w ao l) (h2 : l.length ≤ 1000000)
  (hg : ∀ args w, (callFunc g args).run Tryz.prog w = .ok (.enter g args) w) (hA : Asks w g caps l p) :
  Calls Tryz.prog 178 #[.slice ao l.length cap, .func (.func g) #[] caps] w fun e w' => ∃ r : Int, e = .returned (.int .i64 r) ∧ -1 ≤ r ∧ decide (0 ≤ r) = l.any p ∧ Below w.heap.size w w' := by
 obtain ⟨n, hn⟩ : ∃ n, l.length = n := ⟨_, rfl⟩
 rw [hn] at h2 ⊢
 have HN := Lib.hid hn
 have HR := Lib.hid h
 have HA := Lib.hid hA
 clear h hA hn
 go_enter Tryz.func178, Tryz.ntmps178
 go_wp2
 go_loopg [8] n (fun k vi wr => ∃ i : Nat, vi = .int .i64 i ∧ i ≤ n ∧ n - i ≤ k ∧ Hid (∀ j, j < i → p (l.getD j 0) = false) ∧ Hid (Below w.heap.size w wr))
 case atStart => exact ⟨0, rfl, by omega, by omega, Lib.hid (fun j hj => by omega), Lib.hid (Below.refl _ _)⟩
 case round =>
  obtain ⟨i, rfl, hi, hk, HP, HB⟩ := hrel
  by_cases hlt : i < n
  ·obtain ⟨b, off, rfl, hc⟩ := HR.out i (by rw [HN.out]; exact hlt)
   have c1 := (HB.out.cell (World.block_lt_of_cell? w _ (hc i (by rw [HN.out]; exact hlt)))).trans (hc i (by rw [HN.out]; exact hlt))
   have hcall := HA.out i wr (by rw [HN.out]; exact hlt) HB.out
   obtain ⟨x, hx⟩ : ∃ x, l.getD i 0 = x := ⟨_, rfl⟩
   rw [hx] at c1 hcall
   have HX := Lib.hid hx
   have HC := Lib.hid hcall
   clear hx hc hcall
   go_wp2_with fail
   (with_reducible refine Calls.mono HC.out ?_)
   rintro e w1 ⟨rfl, hb⟩
   have HB1 := Lib.hid hb
   clear hb
   obtain ⟨q, hq⟩ : ∃ q, p x = q := ⟨_, rfl⟩
   rw [hq]
   have HQ := Lib.hid hq
   clear hq
   cases q
   ·go_wp2
    go_roundg (n - (i + 1))
    case measure => omega
    case rel =>
     refine ⟨i + 1, by go_num, by omega, Nat.le_refl _, Lib.hid fun j hj => ?_, HB1⟩
     rcases Nat.lt_or_eq_of_le (Nat.le_of_lt_succ hj) with h | h
     ·exact HP.out j h
     ·subst h; rw [HX.out]; exact HQ.out
   ·go_wp2
    go_ret
    refine ⟨i, rfl, by omega, ?_, HB1.out⟩
    rw [any_some (j := i) (by rw [HN.out]; exact hlt) (by rw [HX.out]; exact HQ.out)]
    simp
  ·obtain rfl : i = n := by omega
   go_wp2
   go_ret
   refine ⟨-1, rfl, by omega, ?_, HB.out⟩
   rw [any_none (fun j hj => HP.out j (by rw [← HN.out]; exact hj))]
   rfl

set_option maxHeartbeats 800000 in
theorem containsF_walk (ao : Option Addr) (cap : Nat) (l : List Nat) (w : World) (g : FuncId) (caps : Array Value) (p : Nat → Bool) (h : Rd w ao l) (h2 : l.length ≤ 1000000)
  (hg : ∀ args w, (callFunc g args).run Tryz.prog w = .ok (.enter g args) w) (hA : Asks w g caps l p) :
  Calls Tryz.prog 107 #[.slice ao l.length cap, .func (.func g) #[] caps] w fun e w' => e = .returned (.bool (l.any p)) ∧ Below w.heap.size w w' := by
 have HI := Lib.hid (indexF_walk ao cap l w g caps p h h2 hg hA)
 clear h hA
 go_enter Tryz.func107, Tryz.ntmps107
 go_wp2_with fail
 (with_reducible refine Calls.mono HI.out ?_)
 rintro e w1 ⟨r, rfl, hr, hd, hb⟩
 have HD := Lib.hid hd
 have HB := Lib.hid hb
 clear hd hb
 go_wp2
 go_ret
 exact ⟨by rw [← HD.out]; rfl, HB.out⟩
end Go.Proofs.YtmjildbdkecolaaGreat
