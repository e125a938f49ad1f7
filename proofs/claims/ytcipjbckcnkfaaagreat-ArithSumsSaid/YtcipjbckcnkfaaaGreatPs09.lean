/- The program's iterator over the moduli of a level.
Blocks whose cells are all stored anew. No walk.
The program's 'each': an element whose rows a function fills. -/
import Derived.Test.YtcipjbckcnkfaaaGreatPs08
import Derived.Test.YtcipjbckcnkfaaaGreatPs06
import Derived.RangeFuncBox
import Derived.RangeFuncLeaves
import Derived.RangeFuncNested
import Derived.RangeFuncBound
import Derived.RangeFuncCalls
import Derived.RangeFuncWrites
import Derived.Shelf.Abstract
import Derived.Shelf.RegionOpen
import Derived.OwnWalkIn
import Derived.TacticsInMore
import Derived.LoopNIn
import Derived.LoopIn
import Derived.Sort.QuietIn
set_option linter.unusedSimpArgs false
set_option linter.unusedVariables false
namespace Go.Proofs.YtcipjbckcnkfaaaGreat
open Go.RowKit Go.Shelf
attribute [local go_sem] Oper.semAt_some

/-- What came when k rounds are over. -/
def upto {α : Type} (f : Nat → α) (k : Nat) : List α := (List.range k).map f
theorem upto_succ {α : Type} (f : Nat → α) (k : Nat) : upto f (k + 1) = upto f k ++ [f k] := by simp [upto, List.range_succ]
theorem upto_length {α : Type} (f : Nat → α) (k : Nat) : (upto f k).length = k := by simp [upto]
/-- What a round keeps: whatever lay below n₀, but block x. -/
def KpX (n₀ x : Nat) (A B : World) : Prop := A.heap.size ≤ B.heap.size ∧ ∀ k, k < n₀ → k ≠ x → B.heap[k]? = A.heap[k]?
theorem KpX.refl (n₀ x : Nat) (A : World) : KpX n₀ x A A := ⟨Nat.le_refl _, fun _ _ _ => rfl⟩
theorem KpX.t {n₀ x : Nat} {A B C : World} (h : KpX n₀ x A B) (k : KpX n₀ x B C) : KpX n₀ x A C := ⟨Nat.le_trans h.1 k.1, fun i hi hn => (k.2 i hi hn).trans (h.2 i hi hn)⟩
theorem KpX.b {n₀ x : Nat} {w : World} (hn : n₀ ≤ w.heap.size) (W : World) (l : Nat) (o o' : Obj) (hl : w.heap.size ≤ l) (_ : W.heap[l]? = some o) (_ : o.isCells = false) (_ : o.isWalk = false) : KpX n₀ x W (W.putObj l o') :=
  ⟨by simp [World.putObj], fun k hk _ => World.putObj_heap_other (by omega)⟩
theorem KpX.cell {n₀ x : Nat} {A B : World} (h : KpX n₀ x A B) {a : Addr} {v : Value} (hc : A.cell? a = some v) (h1 : a.block < n₀) (h2 : a.block ≠ x) : B.cell? a = some v :=
  (World.cell?_of_block (h.2 a.block h1 h2)).trans hc

/-- The number j among N. -/
def fi {N : Nat} (hN : 0 < N) (j : Nat) : Fin N := if h : j < N then ⟨j, h⟩ else ⟨0, hN⟩
theorem fi_val {N : Nat} (hN : 0 < N) {j : Nat} (h : j < N) : (fi hN j).val = j := by unfold fi; rw [dif_pos h]
/-- What an iterator over f 0, .., f (N - 1) leaves. -/
def IterPost {α : Type} (J Jx : List α → World → Prop) (f : Nat → α) (N : Nat) (e : Ending) (W' : World) : Prop :=
  (∃ v, e = .returned v) ∧ ((∃ ys, ys = upto f N ∧ J ys W') ∨ (∃ pre, (∃ k, k ≤ N ∧ pre = upto f k) ∧ Jx pre W'))
set_option maxRecDepth 100000 in
set_option maxHeartbeats 2000000 in
theorem moduli1_in (F : Fence) (n : Nat) (hf : F.fn 128) (hro : F.round = none) (hn : 1 ≤ n) (l n₀ x bp bl bs pb b off lv m cc : Nat) (sp : Bool) (qf : Nat → Nat) (s : Nat) (hlm : lv ≤ m) (hmc : m ≤ cc) (hcc : cc ≤ 9223372036854775807) (hqs : sp = true → qf lv = s) (N : Nat) (hN0 : sp = false → N = lv) (hN1 : sp = true → N = lv + 1) (hNp : 0 < N)
    (h1 : bp < n₀) (h2 : bl < n₀) (h3 : bs < n₀) (h4 : pb < n₀) (h5 : b < n₀) (g1 : bp ≠ x) (g2 : bl ≠ x) (g3 : bs ≠ x) (g4 : pb ≠ x) (g5 : b ≠ x) (J Jx : List (Fin N) → World → Prop)
    (hJ : ∀ t A B, J t A → A.grownBy B none → J t B)
    (hY : ∀ pre y W, J pre W → pre.length < N → YieldAt F (n - 1) Tryz.prog l #[.int .i64 (y.val : Int), .int .u32 (qf y.val : Int)] W fun e W' =>
      (e = .returned (.bool true) ∧ J (pre ++ [y]) W' ∧ KpX n₀ x W W') ∨ (e = .returned (.bool false) ∧ Jx (pre ++ [y]) W'))
    (W : World) (c1 : W.cell? ⟨bp, 0, none⟩ = some (.pointer (some ⟨pb, 0, none⟩))) (c2 : W.cell? ⟨bl, 0, none⟩ = some (.int .i64 lv)) (c3 : W.cell? ⟨bs, 0, none⟩ = some (.bool sp)) (c4 : W.cell? ⟨pb, 3, none⟩ = some (.slice (some ⟨b, off, none⟩) m cc)) (c5 : W.cell? ⟨pb, 4, none⟩ = some (.int .u32 s))
    (hc : ∀ j, j < lv → W.cell? ⟨b, off + j, none⟩ = some (.int .u32 ((qf j : Nat) : Int))) (h0 : J [] W) :
    CallsIn F n Tryz.prog 128 #[.func (.yield l) #[] #[], .pointer (some ⟨bp, 0, none⟩), .pointer (some ⟨bl, 0, none⟩), .pointer (some ⟨bs, 0, none⟩)] W (IterPost J Jx (fi hNp) N) := by
  have hNl : lv ≤ N := by cases sp <;> simp_all
  have HN0 := Lib.hid hN0
  have HN1 := Lib.hid hN1
  have HQS := Lib.hid hqs
  clear hN0 hN1 hqs
  refine callsIn_of_wp Tryz.func128 rfl hf ?_ hro
  simp only [Tryz.ntmps128, List.size_toArray, List.length_cons, List.length_nil, Nat.reduceAdd, Nat.reduceSub, Array.replicate_succ, Array.replicate_zero, List.push_toArray, List.append_toArray, List.nil_append, List.cons_append]
  have i0 : (0 : Int) ≤ (lv : Int) := Int.natCast_nonneg _
  have i1 : (lv : Int) ≤ (cc : Int) := by omega
  gi_wp2
  refine wpIn_region_quiet_lit hro (by kernel_rfl) (by kernel_rfl) ?_
  repeat (gi_big_quiet_step (fail))
  refine wpQuietIn_nil ?_
  intro _ hw'
  obtain ⟨nq, hw''⟩ := hw'
  subst hw''
  gi_wp2
  gi_loopw [14] (fun i wr => ∃ k : Nat, k ≤ lv ∧ i = .int .i64 k ∧ J (upto (fi hNp) k) wr ∧ KpX n₀ x W wr)
    (fun i _ => lv - (intOf i).toNat)
  case atStart => exact ⟨0, Nat.zero_le _, rfl, hJ _ _ _ h0 ⟨rfl, rfl, rfl, Nat.le_refl _, fun _ _ _ => rfl⟩, KpX.refl _ _ _⟩
  case round =>
    obtain ⟨k, hk, rfl, hJs, hnx⟩ := hrel
    by_cases hlt : k < lv
    · obtain ⟨fn, tmps, assign, body, hy, hR⟩ := hY _ (fi hNp k) wr hJs (by rw [upto_length]; omega)
      rw [fi_val hNp (by omega)] at hy
      have hcx := hnx.cell (hc k hlt) h5 g5
      gi_wp2
      refine hR.mono ?_
      rintro e W3 (⟨rfl, hJ3, hk3⟩ | ⟨rfl, hJx3⟩)
      · gi_wp2
        go_roundw
        case rel => exact ⟨k + 1, by omega, by simp, by rw [upto_succ]; exact hJ3, hnx.t hk3⟩
        case measure => simp [intOf]; omega
      · gi_wp2
        refine bodyPost_ret (results_none rfl _ _ _) rfl ?_
        exact ⟨⟨_, rfl⟩, .inr ⟨_, ⟨k + 1, by omega, (upto_succ _ _).symm⟩, hJx3⟩⟩
    · obtain rfl : k = lv := by omega
      have d3 := hnx.cell c3 h3 g3
      have d2 := hnx.cell c2 h2 g2
      have d1 := hnx.cell c1 h1 g1
      have d5 := hnx.cell c5 h4 g4
      cases sp with
      | false =>
        have hN := HN0.out rfl
        subst hN
        gi_wp2
        go_end0
        exact ⟨⟨_, rfl⟩, .inl ⟨_, rfl, hJs⟩⟩
      | true =>
        have hN := HN1.out rfl
        subst hN
        have hJd : J (upto (fi hNp) k) wr.drew := hJ _ _ _ hJs ⟨rfl, rfl, rfl, Nat.le_refl _, fun _ _ _ => rfl⟩
        obtain ⟨fn, tmps, assign, body, hy, hR⟩ := hY _ (fi hNp k) wr.drew hJd (by rw [upto_length]; omega)
        rw [fi_val hNp (by omega), HQS.out rfl] at hy
        have hR2 := hR.mono (R' := fun e W' => ∃ v, e = .returned (.bool v) ∧ ((v = true ∧ J (upto (fi hNp) k ++ [fi hNp k]) W') ∨ (v = false ∧ Jx (upto (fi hNp) k ++ [fi hNp k]) W'))) (fun e W' h => by
          rcases h with ⟨h1, h2, _⟩ | ⟨h1, h2⟩
          · exact ⟨true, h1, .inl ⟨rfl, h2⟩⟩
          · exact ⟨false, h1, .inr ⟨rfl, h2⟩⟩)
        gi_wp2
        gi_region_with (refine hR2.mono ?_; rintro e W3 ⟨v, rfl, hv⟩)
        all_goals (
          gi_wp2
          refine bodyPost_end (results_none rfl _ _ _) rfl ?_
          refine ⟨⟨_, rfl⟩, ?_⟩
          rcases hv with ⟨_, hv⟩ | ⟨_, hv⟩
          · exact .inl ⟨_, rfl, by rw [upto_succ]; exact hv⟩
          · exact .inr ⟨_, ⟨k + 1, Nat.le_refl _, (upto_succ _ _).symm⟩, hv⟩)

set_option maxHeartbeats 1000000 in
theorem moduli_in (F : Fence) (n : Nat) (hf : F.fn 101) (hro : F.round = none) (pb lv : Nat) (sp : Bool) (w : World) :
    CallsIn F n Tryz.prog 101 #[.pointer (some ⟨pb, 0, none⟩), .int .i64 lv, .bool sp] w fun e w' => e = .returned (.func (.func 128) #[] #[.pointer (some ⟨w.heap.size, 0, none⟩), .pointer (some ⟨w.heap.size + 1, 0, none⟩), .pointer (some ⟨w.heap.size + 1 + 1, 0, none⟩)]) ∧
      w' = ((w.alloc (.cells #[.pointer (some ⟨pb, 0, none⟩)] 84)).alloc (.cells #[.int .i64 lv] 3)).alloc (.cells #[.bool sp] 4) := by
  refine callsIn_of_wp Tryz.func101 rfl hf ?_ hro
  simp only [Tryz.ntmps101, List.size_toArray, List.length_cons, List.length_nil, Nat.reduceAdd, Nat.reduceSub, Array.replicate_succ, Array.replicate_zero, List.push_toArray, List.append_toArray, List.nil_append, List.cons_append]
  gi_wp2
  go_ret
  exact ⟨rfl, rfl⟩

/-- The iterator's contract. -/
theorem moduli_stops (F : Fence) (n : Nat) (hf : F.fn 128) (hro : F.round = none) (hn : 1 ≤ n) (n₀ x bp bl bs pb b off lv m cc : Nat) (sp : Bool) (qf : Nat → Nat) (s : Nat) (hlm : lv ≤ m) (hmc : m ≤ cc) (hcc : cc ≤ 9223372036854775807) (hqs : sp = true → qf lv = s) (N : Nat) (hN0 : sp = false → N = lv) (hN1 : sp = true → N = lv + 1) (hNp : 0 < N)
    (h1 : bp < n₀) (h2 : bl < n₀) (h3 : bs < n₀) (h4 : pb < n₀) (h5 : b < n₀) (g1 : bp ≠ x) (g2 : bl ≠ x) (g3 : bs ≠ x) (g4 : pb ≠ x) (g5 : b ≠ x) (w : World)
    (c1 : w.cell? ⟨bp, 0, none⟩ = some (.pointer (some ⟨pb, 0, none⟩))) (c2 : w.cell? ⟨bl, 0, none⟩ = some (.int .i64 lv)) (c3 : w.cell? ⟨bs, 0, none⟩ = some (.bool sp)) (c4 : w.cell? ⟨pb, 3, none⟩ = some (.slice (some ⟨b, off, none⟩) m cc)) (c5 : w.cell? ⟨pb, 4, none⟩ = some (.int .u32 s))
    (hc : ∀ j, j < lv → w.cell? ⟨b, off + j, none⟩ = some (.int .u32 ((qf j : Nat) : Int))) :
    SeqStopsK F n Tryz.prog 128 #[.pointer (some ⟨bp, 0, none⟩), .pointer (some ⟨bl, 0, none⟩), .pointer (some ⟨bs, 0, none⟩)] (fun y : Fin N => #[.int .i64 (y.val : Int), .int .u32 (qf y.val : Int)]) (KpX n₀ x)
      (fun ys => ys = upto (fi hNp) N) (fun pre => ∃ k, k ≤ N ∧ pre = upto (fi hNp) k) N w := fun l J Jx W hW hJ _ hY h0 => by
  have t : ∀ {a : Addr} {v : Value}, w.cell? a = some v → W.cell? a = some v := fun {a v} h => (hW.cell (World.block_lt_of_cell? w _ h)).trans h
  exact moduli1_in F n hf hro hn l n₀ x bp bl bs pb b off lv m cc sp qf s hlm hmc hcc hqs N hN0 hN1 hNp h1 h2 h3 h4 h5 g1 g2 g3 g4 g5 J Jx (fun t A B hs hg => hJ t A B none hs hg (fun r e => by cases e)) hY W (t c1) (t c2) (t c3) (t c4) (t c5) (fun j hj => t (hc j hj)) h0
end Go.Proofs.YtcipjbckcnkfaaaGreat

namespace Go.Proofs.YtcipjbckcnkfaaaGreat
open Go.RowKit
/-- What an append into one block leaves. -/
def TurnTo (x : Nat) (a b : World) : Prop := Turn a b [x]
theorem turnTo {x : Nat} {a b : World} (h : Turn a b [x]) : TurnTo x a b := h
section
variable {w : World} {b : Nat} {t : TypeId} {v0 v1 v2 v3 v4 v5 v6 v7 v8 z0 z1 z2 z3 z4 z5 z6 z7 z8 : Value}
theorem Blk.turnTo {w' : World} {x : Nat} {cs : Array Value} (h : Blk w b t cs) (hT : TurnTo x w w') (hx : b ≠ x) : Blk w' b t cs := h.turn hT (by simpa using hx)
theorem Blk.setL {cs cs' : Array Value} (h : Blk w b t cs) (i : Nat) (u : Value) (e : cs.setIfInBounds i u = cs') : Blk (w.setCell ⟨b, i, none⟩ u) b t cs' := e ▸ h.set i u
theorem Blk.cast {cs cs' : Array Value} (h : Blk w b t cs) (e : cs = cs') : Blk w b t cs' := e ▸ h
theorem Blk.three (h : Blk w b t #[z0, z1, z2]) : Blk (((w.setCell ⟨b, 0, none⟩ v0).setCell ⟨b, 1, none⟩ v1).setCell ⟨b, 2, none⟩ v2) b t #[v0, v1, v2] := by
  replace h := h.setL 0 v0 (cs' := #[v0, z1, z2]) (by simp)
  replace h := h.setL 1 v1 (cs' := #[v0, v1, z2]) (by simp)
  replace h := h.setL 2 v2 (cs' := #[v0, v1, v2]) (by simp)
  exact h
theorem Blk.seven (h : Blk w b t #[z0, z1, z2, z3, z4, z5, z6]) : Blk (((((((w.setCell ⟨b, 0, none⟩ v0).setCell ⟨b, 1, none⟩ v1).setCell ⟨b, 2, none⟩ v2).setCell ⟨b, 3, none⟩ v3).setCell ⟨b, 4, none⟩ v4).setCell ⟨b, 5, none⟩ v5).setCell ⟨b, 6, none⟩ v6) b t #[v0, v1, v2, v3, v4, v5, v6] := by
  replace h := h.setL 0 v0 (cs' := #[v0, z1, z2, z3, z4, z5, z6]) (by simp)
  replace h := h.setL 1 v1 (cs' := #[v0, v1, z2, z3, z4, z5, z6]) (by simp)
  replace h := h.setL 2 v2 (cs' := #[v0, v1, v2, z3, z4, z5, z6]) (by simp)
  replace h := h.setL 3 v3 (cs' := #[v0, v1, v2, v3, z4, z5, z6]) (by simp)
  replace h := h.setL 4 v4 (cs' := #[v0, v1, v2, v3, v4, z5, z6]) (by simp)
  replace h := h.setL 5 v5 (cs' := #[v0, v1, v2, v3, v4, v5, z6]) (by simp)
  replace h := h.setL 6 v6 (cs' := #[v0, v1, v2, v3, v4, v5, v6]) (by simp)
  exact h
theorem Blk.nine (h : Blk w b t #[z0, z1, z2, z3, z4, z5, z6, z7, z8]) : Blk (((((((((w.setCell ⟨b, 0, none⟩ v0).setCell ⟨b, 1, none⟩ v1).setCell ⟨b, 2, none⟩ v2).setCell ⟨b, 3, none⟩ v3).setCell ⟨b, 4, none⟩ v4).setCell ⟨b, 5, none⟩ v5).setCell ⟨b, 6, none⟩ v6).setCell ⟨b, 7, none⟩ v7).setCell ⟨b, 8, none⟩ v8) b t #[v0, v1, v2, v3, v4, v5, v6, v7, v8] := by
  replace h := h.setL 0 v0 (cs' := #[v0, z1, z2, z3, z4, z5, z6, z7, z8]) (by simp)
  replace h := h.setL 1 v1 (cs' := #[v0, v1, z2, z3, z4, z5, z6, z7, z8]) (by simp)
  replace h := h.setL 2 v2 (cs' := #[v0, v1, v2, z3, z4, z5, z6, z7, z8]) (by simp)
  replace h := h.setL 3 v3 (cs' := #[v0, v1, v2, v3, z4, z5, z6, z7, z8]) (by simp)
  replace h := h.setL 4 v4 (cs' := #[v0, v1, v2, v3, v4, z5, z6, z7, z8]) (by simp)
  replace h := h.setL 5 v5 (cs' := #[v0, v1, v2, v3, v4, v5, z6, z7, z8]) (by simp)
  replace h := h.setL 6 v6 (cs' := #[v0, v1, v2, v3, v4, v5, v6, z7, z8]) (by simp)
  replace h := h.setL 7 v7 (cs' := #[v0, v1, v2, v3, v4, v5, v6, v7, z8]) (by simp)
  replace h := h.setL 8 v8 (cs' := #[v0, v1, v2, v3, v4, v5, v6, v7, v8]) (by simp)
  exact h
end
end Go.Proofs.YtcipjbckcnkfaaaGreat

namespace Go.Proofs.YtcipjbckcnkfaaaGreat
open Go.RowKit Go.Shelf
attribute [local go_sem] Oper.semAt_some

theorem wpListIn_append_run {F : Fence} {n : Nat} {P : Program} (w : World) {ops : Array Oper} {rest : List Oper} {o : Oper} {a : Act} {Q : Exit → Act → World → Prop} (hg : o.guard = none) (s x : Operand) (t tn : TypeId)
    (hop : o.op = Op.call { callee := Callee.builtin Builtin.append, args := #[s, x], argTypes := #[t, tn] }) (vs vx : Value) (hs : a.eval s = vs) (hx : a.eval x = vx)
    (v' : Value) (w' : World) (hr : (Builtin.append_ #[t, tn] o.type #[vs, vx]).run P w = .ok v' w') (h : wpListIn F n P ops Q rest (a.put o.dst v') w') : wpListIn F n P ops Q (o :: rest) a w := by
  refine wpListIn_plain hg fun K hK' => ?_
  unfold Oper.wpIn
  refine ⟨?_, ?_⟩
  · simp [Oper.about, hop, resolve, Target.leads, Sem.run_pure]
  · rw [Oper.semAt_plain F _ _ (by rw [hop]; intro c hc'; cases hc')]
    simp [execOp, hop, resolve, invoke, builtin, hs, hx, hr, Result.andThen]
    exact hK' _ _ h

/-- A row that was made: its block known whole. -/
def RowB (w : World) (g : Nat) (l : List Nat) : Prop := Blk w g 22 (l.map fun x : Nat => Value.int .u32 (x : Int)).toArray
theorem RowB.rd {w : World} {g : Nat} {l : List Nat} (h : RowB w g l) : Rd w (some ⟨g, 0, none⟩) l := fun k hk => ⟨g, 0, rfl, fun j hj => by
  rw [Blk.cell h (0 + j), Nat.zero_add]
  simp [List.getD_eq_getElem?_getD, hj]⟩
theorem RowB.turn {w w' : World} {g : Nat} {l : List Nat} {S : List Nat} (h : RowB w g l) (hT : Turn w w' S) (hg : g ∉ S) : RowB w' g l := Blk.turn h hT hg
/-- What the function that fills a row does. -/
def Fills (w : World) (fn : FuncId) (caps : Array Value) (m n : Nat) (qf : Nat → Nat) (f : Nat → Nat → Nat) : Prop :=
  ∀ (i g : Nat) (wr : World), i < m → Below w.heap.size w wr → w.heap.size ≤ g → RowB wr g (List.replicate n 0) →
    Calls Tryz.prog fn (#[.int .i64 (i : Int), .int .u64 (qf i : Int), .slice (some ⟨g, 0, none⟩) n n] ++ caps) wr fun e w' => e = .returned (.tuple #[]) ∧ RowB w' g ((List.range n).map (f i)) ∧ Turn wr w' [g]

theorem OwR.kept {w w' : World} {base : Nat} {v : Value} {rows : List (List Nat)} (h : OwR w base v rows) (hk : ∀ (k : Nat) (o : Obj), w.heap[k]? = some o → o.isCells = true → w'.heap[k]? = some o) (hs : w.heap.size ≤ w'.heap.size) : OwR w' base v rows := by
  obtain ⟨vals, ho, hg, hr⟩ := h
  have hc : ∀ {a : Addr} {x : Value}, w.cell? a = some x → w'.cell? a = some x := by
    intro a x hx
    have hx' := hx
    unfold World.cell? at hx ⊢
    cases e : w.heap[a.block]? with
    | none => rw [e] at hx; cases hx
    | some o =>
      cases o with
      | cells cs t fr => rw [hk a.block _ e rfl]; rw [e] at hx; exact hx
      | _ => rw [e] at hx; cases hx
  refine ⟨vals, ⟨ho.1, ?_⟩, fun g h => Nat.lt_of_lt_of_le (hg g h) hs, fun j hj => ?_⟩
  · rcases ho.2 with h | ⟨g, cap, cur, rfl, h1, h2, h3⟩
    · exact .inl h
    · exact .inr ⟨g, cap, cur, rfl, h1, hk g _ h2 rfl, h3⟩
  · obtain ⟨ro, rc, h1, h2, h3, h4⟩ := hr j hj
    refine ⟨ro, rc, h1, fun k hk' => ?_, h3, fun a e => ⟨(h4 a e).1, (h4 a e).2.1.cells (fun _ ho => hk _ _ ho rfl), (h4 a e).2.2⟩⟩
    obtain ⟨b, off, e, hcc⟩ := h2 k hk'
    exact ⟨b, off, e, fun t ht => hc (hcc t ht)⟩
theorem grown_cells {W W' : World} {row : Option Nat} (hg : W.grownBy W' row) (hr : ∀ r, row = some r → ∃ o : Obj, W.heap[r]? = some o ∧ o.isCells = false) : ∀ (k : Nat) (o : Obj), W.heap[k]? = some o → o.isCells = true → W'.heap[k]? = some o := fun k o hk ho => by
  refine (hg.block k (block_lt hk) (fun e => ?_)).trans hk
  obtain ⟨o', h1, h2⟩ := hr k e.symm
  rw [hk] at h1
  cases h1
  rw [ho] at h2
  cases h2
/-- What holds between two rounds. -/
def EachI (W0 : World) (bo lv n : Nat) (sp : Bool) (f : Nat → Nat → Nat) {M : Nat} (pre : List (Fin M)) (W : World) : Prop :=
  ∃ ao c, Blk W bo 54 #[.int .i64 lv, .bool sp, .slice ao pre.length c] ∧ OwR W W0.heap.size (.slice ao pre.length c) (pre.map fun y => (List.range n).map (f y.val)) ∧ Turn W0 W [bo]
theorem EachI.own (W0 : World) (bo lv n : Nat) (sp : Bool) (f : Nat → Nat → Nat) {M : Nat} : OwnFrom W0.heap.size (EachI W0 bo lv n sp f (M := M)) := by
  rintro pre W W' row ⟨ao, c, h1, h2, h3⟩ hg hr
  have hk := grown_cells hg (fun r e => (hr r e).2)
  exact ⟨ao, c, hk bo _ h1 rfl, h2.kept hk hg.size, ⟨hg.os.trans h3.os, hg.tape.trans h3.tape, hg.output.trans h3.output, Nat.le_trans h3.size hg.size, fun i hi hn => (hg.block i (Nat.lt_of_lt_of_le hi h3.size) (fun e => by have := (hr i e.symm).1; omega)).trans (h3.block i hi hn)⟩⟩

theorem OwR.isCells {w : World} {base : Nat} {v : Value} {rows : List (List Nat)} (h : OwR w base v rows) {g : Nat} (hg : v.ownBlock = some g) : ∃ cs t, w.heap[g]? = some (.cells cs t (0, 0)) := by
  obtain ⟨vals, ho, _, _⟩ := h
  rcases ho.2 with ⟨rfl, _⟩ | ⟨g', cap, cur, rfl, h1, h2, h3⟩
  · simp [Value.ownBlock] at hg
  · simp [Value.ownBlock] at hg
    subst hg
    exact ⟨_, _, h2⟩
theorem keepsFrom_turn {B : Nat} {a b : World} {S : List Nat} (h : Turn a b S) (hS : ∀ g, g ∈ S → ∃ cs t, a.heap[g]? = some (.cells cs t (0, 0))) : KeepsFrom B a b :=
  ⟨h.size, fun k o _ hk ho => (h.block k (block_lt hk) (fun hc => by
    obtain ⟨cs, t, e⟩ := hS k hc
    rw [hk] at e
    cases e
    cases ho)).trans hk⟩
theorem zeros_eq (n : Nat) : madeCells (Value.int .u32 0).cells n = ((List.replicate n 0).map fun x : Nat => Value.int .u32 (x : Int)).toArray := by
  apply Array.ext
  · simp [madeCells]
  · intro i h1 h2
    have e : (Value.int .u32 0).cells = #[Value.int .u32 0] := rfl
    simp [madeCells, e, Nat.mod_one]
theorem makeRow (n : Nat) (h : n ≤ 32) (W : World) : (Instr.makeSlice 23 (.int .i64 n) (.int .i64 n)).run Tryz.prog W = .ok (.slice (some ⟨W.heap.size, 0, none⟩) n n) (W.alloc (.cells ((List.replicate n 0).map fun x : Nat => Value.int .u32 (x : Int)).toArray 22)) := by
  obtain ⟨i0, hi, hz0, hz1, hz2⟩ := info_parts info_u32
  have hr := run_makeSlice (P := Tryz.prog) W 23 22 i0 (.int .u32 0) Tryz.underlying23 hi hz0 .i64 .i64 n n (by omega) (Int.le_refl _) (by rw [hz1]; omega) (by rw [hz2]; omega) (by omega)
  rw [hz1, Nat.mul_one, zeros_eq, Int.toNat_natCast] at hr
  exact hr

set_option maxRecDepth 100000 in
set_option maxHeartbeats 4000000 in
theorem each_walk (pb b off lv cc : Nat) (sp : Bool) (p : Par) (fn : FuncId) (caps : Array Value) (n M : Nat) (qf : Nat → Nat) (f : Nat → Nat → Nat) (w : World) (hin : ParIn w p (some ⟨b, off, none⟩) cc) (hP : Blk w pb 25 (p.cells (some ⟨b, off, none⟩) cc))
    (hn : p.n = (n : Int)) (hn32 : n ≤ 32) (hlv1 : 1 ≤ lv) (hlv2 : lv ≤ p.chain.length) (hc24 : p.chain.length ≤ 24) (hM0 : sp = false → M = lv) (hM1 : sp = true → M = lv + 1) (hq : ∀ j, j < lv → qf j = p.chain.getD j 0) (hq2 : sp = true → qf lv = p.special) (hqb : ∀ i, i < M → qf i ≤ 4294967295)
    (hen : ∀ args w, (callFunc fn args).run Tryz.prog w = .ok (.enter fn args) w) (hF : Fills w fn caps M n qf f) :
    Calls Tryz.prog 71 #[.pointer (some ⟨pb, 0, none⟩), .int .i64 lv, .bool sp, .func (.func fn) #[] caps] w fun e w' => ∃ ao c, e = .returned (.agg #[.int .i64 lv, .bool sp, .slice ao M c]) ∧ OwR w' w.heap.size (.slice ao M c) (mkRows M n f) ∧ Below w.heap.size w w' := by
  refine (callsIn_wide (n := 6)).1 ?_
  refine callsIn_of_wp_marks Tryz.func71 rfl trivial ?_ rfl
  simp only [Tryz.ntmps71, List.size_toArray, List.length_cons, List.length_nil, Nat.reduceAdd, Nat.reduceSub, Array.replicate_succ, Array.replicate_zero, List.push_toArray, List.append_toArray, List.nil_append, List.cons_append]
  have hlen := hin.len
  have hroom := hin.room
  have hroom2 := hin.room2
  have HIN := Lib.hid hin
  have HP := Lib.hid hP
  have HF := Lib.hid hF
  have hpb : pb < w.heap.size := hP.lt
  have hbw : b < w.heap.size := by
    obtain ⟨b', o', e', hc'⟩ := hin.rd 0 (by omega)
    cases e'
    exact World.block_lt_of_cell? w _ (hc' 0 (by omega))
  clear hin hP hF
  gi_wp2_with (refine ⟨trivial, ?_⟩; refine (moduli_in Fence.wide 5 trivial rfl _ _ _ _).mono ?_; rintro e w' ⟨rfl, rfl⟩)
  obtain ⟨W0, hW0⟩ : ∃ W0, ((((((w.alloc (.cells #[.pointer (some ⟨pb, 0, none⟩)] 84)).alloc (.cells #[.func (.func fn) #[] caps] 86)).alloc (.cells #[.int .i64 0, .bool false, .slice none 0 0] 54)).alloc (.cells #[.int .i64 lv, .bool sp, .slice none 0 0] 54)).alloc
    (.cells #[.pointer (some ⟨pb, 0, none⟩)] 84)).alloc (.cells #[.int .i64 lv] 3)).alloc (.cells #[.bool sp] 4) = W0 := ⟨_, rfl⟩
  have hB0 : Below w.heap.size w W0 := by rw [← hW0]; exact (((((((Below.refl _ w).alloc (Nat.le_refl _) _).alloc (by simp) _).alloc (by simp; omega) _).alloc (by simp; omega) _).alloc (by simp; omega) _).alloc (by simp; omega) _).alloc (by simp; omega) _
  have hs0 : W0.heap.size = w.heap.size + 7 := by rw [← hW0]; simp
  have k0 : Blk W0 w.heap.size 84 #[.pointer (some ⟨pb, 0, none⟩)] := by rw [← hW0]; exact ((((((Blk.new _ _ _).alloc _).alloc _).alloc _).alloc _).alloc _).alloc _
  have k1 : Blk W0 (w.heap.size + 1) 86 #[.func (.func fn) #[] caps] := by
    rw [← hW0]
    have := Blk.new (w.alloc (.cells #[.pointer (some ⟨pb, 0, none⟩)] 84)) 86 #[.func (.func fn) #[] caps]
    rw [World.size_alloc] at this
    exact ((((this.alloc _).alloc _).alloc _).alloc _).alloc _
  obtain ⟨V2, hV2⟩ : ∃ V2, (w.alloc (.cells #[.pointer (some ⟨pb, 0, none⟩)] 84)).alloc (.cells #[.func (.func fn) #[] caps] 86) = V2 := ⟨_, rfl⟩
  have hs2 : V2.heap.size = w.heap.size + 1 + 1 := by rw [← hV2]; simp
  rw [hV2] at hW0
  have k2 : Blk W0 (w.heap.size + 1 + 1) 54 #[.int .i64 0, .bool false, .slice none 0 0] := by
    rw [← hW0, ← hs2]
    exact ((((Blk.new V2 _ _).alloc _).alloc _).alloc _).alloc _
  have k3 : Blk W0 (w.heap.size + 1 + 1 + 1) 54 #[.int .i64 lv, .bool sp, .slice none 0 0] := by
    rw [← hW0, ← hs2]
    have := Blk.new (V2.alloc (.cells #[.int .i64 0, .bool false, .slice none 0 0] 54)) 54 #[.int .i64 lv, .bool sp, .slice none 0 0]
    rw [World.size_alloc] at this
    exact ((this.alloc _).alloc _).alloc _
  obtain ⟨V4, hV4⟩ : ∃ V4, (V2.alloc (.cells #[.int .i64 0, .bool false, .slice none 0 0] 54)).alloc (.cells #[.int .i64 lv, .bool sp, .slice none 0 0] 54) = V4 := ⟨_, rfl⟩
  have hs4 : V4.heap.size = w.heap.size + 1 + 1 + 1 + 1 := by rw [← hV4]; simp [hs2]
  rw [hV4] at hW0
  have k4 : Blk W0 (w.heap.size + 1 + 1 + 1 + 1) 84 #[.pointer (some ⟨pb, 0, none⟩)] := by
    rw [← hW0, ← hs4]
    exact ((Blk.new V4 _ _).alloc _).alloc _
  have k5 : Blk W0 (w.heap.size + 1 + 1 + 1 + 1 + 1) 3 #[.int .i64 lv] := by
    rw [← hW0, ← hs4]
    have := Blk.new (V4.alloc (.cells #[.pointer (some ⟨pb, 0, none⟩)] 84)) 3 #[.int .i64 lv]
    rw [World.size_alloc] at this
    exact this.alloc _
  have k6 : Blk W0 (w.heap.size + 1 + 1 + 1 + 1 + 1 + 1) 4 #[.bool sp] := by
    rw [← hW0, ← hs4]
    have := Blk.new ((V4.alloc (.cells #[.pointer (some ⟨pb, 0, none⟩)] 84)).alloc (.cells #[.int .i64 lv] 3)) 4 #[.bool sp]
    rw [World.size_alloc, World.size_alloc] at this
    exact this
  rw [hV2, hV4, hW0]
  have hNp : 0 < M := by
    cases sp with
    | false => have := hM0 rfl; omega
    | true => have := hM1 rfl; omega
  have HP0 := Lib.hid (HP.out.below hB0)
  have HI0 := Lib.hid (HIN.out.below hB0)
  have hcq : ∀ j, j < lv → W0.cell? ⟨b, off + j, none⟩ = some (.int .u32 ((qf j : Nat) : Int)) := fun j hj => by
    obtain ⟨b', o', e', hc'⟩ := HI0.out.rd 0 (by omega)
    cases e'
    rw [hc' j (by omega), hq j hj]
  refine wpIn_rangeFunc_ownG (n := 6) rfl (by omega) (gf := 128) (lb := #[.pointer (some ⟨w.heap.size + 1 + 1 + 1 + 1, 0, none⟩), .pointer (some ⟨w.heap.size + 1 + 1 + 1 + 1 + 1, 0, none⟩), .pointer (some ⟨w.heap.size + 1 + 1 + 1 + 1 + 1 + 1, 0, none⟩)]) rfl trivial (enters_of Tryz.func128 (by kernel_rfl) rfl)
    (moduli_stops Fence.wide (6 - 1) trivial rfl (by omega) W0.heap.size (w.heap.size + 1 + 1 + 1) (w.heap.size + 1 + 1 + 1 + 1) (w.heap.size + 1 + 1 + 1 + 1 + 1) (w.heap.size + 1 + 1 + 1 + 1 + 1 + 1) pb b off lv p.chain.length cc sp qf p.special hlv2 hroom hroom2 hq2 M hM0 hM1 hNp (by omega) (by omega) (by omega) (by omega) (by omega) (by omega) (by omega) (by omega) (by omega) (by omega) W0 (k4.cell 0) (k5.cell 0) (k6.cell 0) (HP0.out.cell 3) (HP0.out.cell 4) hcq)
    KpX.t (KpX.b (Nat.le_refl _)) (Below.refl _ _) (fun _ => rfl)
    (EachI W0 (w.heap.size + 1 + 1 + 1) lv n sp f) (fun _ _ _ => False) (EachI.own _ _ _ _ _ _) (fun _ _ _ _ _ hs _ _ => hs) ⟨none, 0, k3, OwR.nil _ _, Turn.refl _ _⟩ ?a1 ?assign ?body ?done ?stop
  case assign =>
    intro l x W K hK
    gi_wp2
    exact hK
  case stop =>
    rintro D c pre W _ _ h _
    exact h.elim
  case body =>
    rintro l pre y W ⟨ao, c, hB, hO, hT⟩ hlen
    have c0 : W.cell? ⟨w.heap.size, 0, none⟩ = some (.pointer (some ⟨pb, 0, none⟩)) := (k0.turn hT (by simp <;> omega)).cell 0
    have c1 : W.cell? ⟨w.heap.size + 1, 0, none⟩ = some (.func (.func fn) #[] caps) := (k1.turn hT (by simp <;> omega)).cell 0
    have cp : W.cell? ⟨pb, 0, none⟩ = some (.int .i64 n) := by rw [← hn]; exact (HP0.out.turn hT (by simp <;> omega)).cell 0
    have hmk := makeRow n hn32
    have hz0 : W.heap.size < (W.alloc (.cells ((List.replicate n 0).map fun x : Nat => Value.int .u32 (x : Int)).toArray 22)).heap.size := by simp
    have hTs := hT.size
    have hFill := HF.out y.val W.heap.size (W.alloc (.cells ((List.replicate n 0).map fun x : Nat => Value.int .u32 (x : Int)).toArray 22)) y.isLt ((hB0.trans (hT.belowN hB0.size (fun x hx => by simp at hx; omega))).alloc (by omega) _) (by omega) (Blk.new W _ _)
    obtain ⟨Z, hZ⟩ : ∃ Z, ((List.replicate n 0).map fun x : Nat => Value.int .u32 (x : Int)).toArray = Z := ⟨_, rfl⟩
    rw [hZ] at hFill hmk
    have c1a : (W.alloc (.cells Z 22)).cell? ⟨w.heap.size + 1, 0, none⟩ = some (.func (.func fn) #[] caps) := ((k1.turn hT (by simp <;> omega)).alloc _).cell 0
    have hqy : ((qf y.val : Nat) : Int) ≤ 4294967295 := by have := hqb y.val y.isLt; omega
    have HFL := Lib.hid hFill
    have HBo := Lib.hid hB
    have HOr := Lib.hid hO
    have HTu := Lib.hid hT
    clear hFill hB hO hT hz0 hZ k0 k1 k2 k3 k4 k5 k6 hcq
    gi_wp2
    refine ⟨trivial, ?_⟩
    refine (CallsIn.inRound l (callsIn_wide.2 HFL.out)).mono ?_
    rintro e W2 ⟨rfl, hrow, hT2⟩
    have hbW : Below W.heap.size W W2 := ((Below.refl _ W).alloc (Nat.le_refl _) _).trans (hT2.belowN (by simp) (by simp))
    have hb2 := HBo.out.below hbW
    have e2 : W2.cell? ⟨w.heap.size + 1 + 1 + 1, 2, none⟩ = some (.slice ao pre.length c) := hb2.cell 2
    have f2 := hb2.free 2
    have hbo : w.heap.size + 1 + 1 + 1 < W2.heap.size := hb2.lt
    have hrl : ((List.range n).map (f y.val)).length = n := by simp
    have hpl : (pre.map fun y => (List.range n).map (f y.val)).length = pre.length := by simp
    have hal : Below W2.heap.size W2 (W2.alloc (.cells #[.slice (some ⟨W.heap.size, 0, none⟩) n n] 23)) := (Below.refl _ W2).alloc (Nat.le_refl _) _
    have hgl : W.heap.size < W2.heap.size := Nat.lt_of_lt_of_le (by simp) hT2.size
    obtain ⟨v', W4, hrun, hO4, hB4, hT4⟩ := ((HOr.out.below hbW).below hal).append (by simp; omega) (by rw [hpl]; have := hM0; have := hM1; cases sp <;> simp_all <;> omega) 52 ⟨W2.heap.size, 0, none⟩ 1 (some ⟨W.heap.size, 0, none⟩) n ((List.range n).map (f y.val)) (by rw [hrl]; exact (Blk.new W2 _ _).cell 0) ((RowB.rd hrow).below hal) (by rw [hrl]; exact Nat.le_refl _) (fun a ha => by
      cases ha
      obtain ⟨vals, ho1, hg1, _⟩ := HOr.out
      refine ⟨fun k => ?_, U32.below ⟨_, hrow⟩ hal, by simp only; omega⟩
      have := hg1 _ k
      simp only at this
      omega)
    have hcl := fun g (hg : (Value.slice ao pre.length c).ownBlock = some g) => ((HOr.out.below hbW).below hal).isCells hg
    obtain ⟨ao4, c4, rfl, _, _, _⟩ := hO4.shape
    have hl4 : ((pre.map fun y => (List.range n).map (f y.val)) ++ [(List.range n).map (f y.val)]).length = pre.length + 1 := by simp
    rw [hl4] at hrun hO4
    have HO4 := Lib.hid hO4
    have hbk4 : Blk W4 (w.heap.size + 1 + 1 + 1) 54 #[.int .i64 lv, .bool sp, .slice ao pre.length c] := (hB4.block _ (by omega)).trans (hb2.below hal)
    have HBK4 := Lib.hid hbk4
    have f2' := hbk4.free 2
    have e2' : W4.cell? ⟨w.heap.size + 1 + 1 + 1, 2, none⟩ = some (.slice ao pre.length c) := hbk4.cell 2
    have HBe : Hid (Below W0.heap.size W W4) := Lib.hid (((hbW.mono hTs).trans (hal.mono (by omega))).trans hB4)
    have HKF : Hid (KeepsFrom W0.heap.size W W4) := Lib.hid ((((KeepsOthers.alloc W _).from _).trans (keepsFrom_turn hT2 (fun g hg => by simp at hg; subst hg; exact ⟨_, _, Blk.new W _ _⟩))).trans (((KeepsOthers.alloc W2 _).from _).trans (keepsFrom_turn hT4 (fun g hg => by
      cases ho : (Value.slice ao pre.length c).ownBlock with
      | none => rw [ho] at hg; simp at hg
      | some g' => rw [ho] at hg; simp at hg; subst hg; exact hcl _ ho))))
    clear hb2 hal hO4 hB4 hT4 hbk4 hcl hbW hrow hT2
    gi_wp2_with (gi_at_builtin; refine wpListIn_append_run _ rfl (.tmp 34) (.tmp 36) 52 52 rfl _ _ rfl rfl _ _ hrun ?_)
    refine ⟨HKF.out.trans ((KeepsOthers.setCell _ _ _).from _), ⟨by simpa [World.setCell] using HBe.out.size, fun k hk hn => (Below.heap_setCell _ _ _ k hn).trans (HBe.out.block k hk)⟩, ao4, c4, ?_, ?_, ?_⟩
    · rw [List.length_append]
      exact HBK4.out.set 2 _
    · rw [List.length_append, List.map_append]
      exact HO4.out.turn (S := [w.heap.size + 1 + 1 + 1]) ((Turn.refl W4 _).setCell (p := ⟨w.heap.size + 1 + 1 + 1, 2, none⟩) (.inl (by simp)) _) (fun x hx => by simp at hx; omega)
    · exact (HTu.out.low HBe.out (Nat.le_refl _)).setCell (p := ⟨w.heap.size + 1 + 1 + 1, 2, none⟩) (.inl (by simp)) _
  case done =>
    rintro D xs W hD rfl ⟨ao, c, hB, hO, hT⟩ hK
    have hrows : ((upto (fi hNp) M).map fun y => (List.range n).map (f y.val)) = mkRows M n f := by
      unfold upto mkRows
      rw [List.map_map]
      apply List.map_congr_left
      intro j hj
      simp only [Function.comp, fi_val hNp (List.mem_range.1 hj)]
    rw [hrows] at hO
    rw [upto_length] at hB hO
    have hb2 := k2.turn hT (by simp)
    have e0 : W.cell? ⟨w.heap.size + 1 + 1 + 1, 0, none⟩ = some (.int .i64 lv) := hB.cell 0
    have e1 : W.cell? ⟨w.heap.size + 1 + 1 + 1, 1, none⟩ = some (.bool sp) := hB.cell 1
    have e2 : W.cell? ⟨w.heap.size + 1 + 1 + 1, 2, none⟩ = some (.slice ao M c) := hB.cell 2
    have g0 : W.cell? ⟨w.heap.size + 1 + 1, 0, none⟩ = some (.int .i64 0) := hb2.cell 0
    have g1 : W.cell? ⟨w.heap.size + 1 + 1, 1, none⟩ = some (.bool false) := hb2.cell 1
    have g2 : W.cell? ⟨w.heap.size + 1 + 1, 2, none⟩ = some (.slice none 0 0) := hb2.cell 2
    have f0 := hb2.free 0
    have f1 := hb2.free 1
    have f2 := hb2.free 2
    have HO := Lib.hid hO
    have HT := Lib.hid hT
    have HK := Lib.hid hK
    have HB2 := Lib.hid hb2
    clear hB hO hT hb2 k0 k1 k2 k3 k4 k5 k6 hcq hK
    gi_wp2
    refine ⟨by simp, .inl ⟨_, _, rfl, run_takeDeferred ?_, ?_⟩⟩
    · exact (KeepsOthers.setCell _ _ _).same D _ ((KeepsOthers.setCell _ _ _).same D _ ((KeepsOthers.setCell _ _ _).same D _ HK.out rfl) rfl) rfl
    · obtain ⟨W5, hW5⟩ : ∃ W5, ((W.setCell ⟨w.heap.size + 1 + 1, 0, none⟩ (.int .i64 lv)).setCell ⟨w.heap.size + 1 + 1, 1, none⟩ (.bool sp)).setCell ⟨w.heap.size + 1 + 1, 2, none⟩ (.slice ao M c) = W5 := ⟨_, rfl⟩
      have hK5 : W5.heap[D]? = some (.deferred (some [])) := by
        rw [← hW5]
        exact (KeepsOthers.setCell _ _ _).same D _ ((KeepsOthers.setCell _ _ _).same D _ ((KeepsOthers.setCell _ _ _).same D _ HK.out rfl) rfl) rfl
      have hT5 : Turn W W5 [w.heap.size + 1 + 1] := by
        rw [← hW5]
        repeat (first | exact Turn.refl _ _ | refine Turn.setCell ?_ (.inl (by simp)) _)
      have hB5 : Blk W5 (w.heap.size + 1 + 1) 54 #[.int .i64 lv, .bool sp, .slice ao M c] := by
        rw [← hW5]
        exact ((HB2.out.set 0 (.int .i64 lv)).set 1 (.bool sp)).set 2 (.slice ao M c)
      rw [hW5]
      have hB6 : Blk (W5.putObj D (.deferred none)) (w.heap.size + 1 + 1) 54 #[.int .i64 lv, .bool sp, .slice ao M c] := (World.putObj_heap_other (by omega)).trans hB5
      have r0 := hB6.cell 0
      have r1 := hB6.cell 1
      have r2 := hB6.cell 2
      have hO6 : OwR (W5.putObj D (.deferred none)) w.heap.size (.slice ao M c) (mkRows M n f) :=
        ((HO.out.turn hT5 (fun x hx => by simp at hx; omega)).kept (grown_cells (grownBy_putObj' W5 D (.deferred none)) (fun r e => by cases e; exact ⟨_, hK5, rfl⟩)) (grownBy_putObj' W5 D (.deferred none)).size).mono (by omega)
      have hbe : Below w.heap.size w (W5.putObj D (.deferred none)) :=
        ((hB0.trans (HT.out.belowN hB0.size (fun x hx => by simp at hx; omega))).trans (hT5.belowN (by have := HT.out.size; omega) (fun x hx => by simp at hx; omega))).trans (belowK_b (w := w) (Nat.le_refl _) W5 D _ _ (by omega) hK5 rfl rfl)
      exact ⟨.agg #[.int .i64 lv, .bool sp, .slice ao M c], by simp [results, Tryz.results71, go_sem, r0, r1, r2], ao, c, rfl, hO6, hbe⟩
end Go.Proofs.YtcipjbckcnkfaaaGreat
