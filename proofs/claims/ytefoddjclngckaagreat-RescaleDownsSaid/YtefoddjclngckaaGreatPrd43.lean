/- Equal lists, elements, ciphertexts: by data.
The reference's ring, by data: elements of integers, rows of the call's own.
The plain modulus: by data.
Plain polynomials: by data.
Ciphertexts without a key: by data.
Ciphertexts without a key: by data.
The reference's ciphertexts without a key: memory of the call's own.
The small parameters of the examples; literal lists as arguments: by data.
Arithmetic with ciphertexts, by data: valid ones, parts made one by one.
Arithmetic with ciphertexts, by data: multiples, plain polynomials, products. -/
import Derived.Test.YtefoddjclngckaaGreatPrd42
import Derived.Test.YtefoddjclngckaaGreatPrd25
import Derived.Test.YtefoddjclngckaaGreatPrd24
set_option linter.unusedSimpArgs false
set_option linter.unusedVariables false
set_option linter.unnecessarySimpa false
namespace Go.Proofs.YtefoddjclngckaaGreat
open Go.RowKit
set_option maxRecDepth 20000
set_option maxHeartbeats 4000000
instance ti108 : TI Tryz.prog 108 Tryz.t108 Tryz.t107.desc := ⟨by kernel_rfl, by kernel_rfl⟩
instance sz108 : SZ Tryz.prog 108 3 := SZ.of ti108 rfl
instance zr108 : ZR Tryz.prog 108 [.int .i64 0, .int .i64 0, .int .i64 0] := ZR.of ti108 rfl rfl rfl
instance bt108 : BT Tryz.prog 108 [(0, 1), (1, 1), (2, 1)] [.int .i64 0, .int .i64 0, .int .i64 0] := BT.of (ns := [1, 1, 1]) ti108 rfl zr108.zr ⟨sz3.sz, ⟨sz3.sz, ⟨sz3.sz, trivial⟩⟩⟩ (by intro j; repeat (first | rfl | cases j with | zero => rfl | succ j => ?_))
instance ft108_0 : FT Tryz.prog 108 0 0 := FT.of ti108 rfl ti3 rfl rfl
instance fv108_0 : FV Tryz.prog 108 0 0 1 false := FV.one ti108 rfl ti3 rfl rfl
instance ft108_1 : FT Tryz.prog 108 1 1 := FT.of ti108 rfl ti3 rfl rfl
instance fv108_1 : FV Tryz.prog 108 1 1 1 false := FV.one ti108 rfl ti3 rfl rfl
instance ft108_2 : FT Tryz.prog 108 2 2 := FT.of ti108 rfl ti3 rfl rfl
instance fv108_2 : FV Tryz.prog 108 2 2 1 false := FV.one ti108 rfl ti3 rfl rfl
instance fi177 : FI Tryz.prog 177 Tryz.f177 := ⟨Tryz.func177, Tryz.call177⟩
instance fi175 : FI Tryz.prog 175 Tryz.f175 := ⟨Tryz.func175, Tryz.call175⟩
instance fi41 : FI Tryz.prog 41 Tryz.f41 := ⟨Tryz.func41, Tryz.call41⟩
instance fi108 : FI Tryz.prog 108 Tryz.f108 := ⟨Tryz.func108, Tryz.call108⟩
instance fi154 : FI Tryz.prog 154 Tryz.f154 := ⟨Tryz.func154, Tryz.call154⟩
instance fi56 : FI Tryz.prog 56 Tryz.f56 := ⟨Tryz.func56, Tryz.call56⟩
instance fi20 : FI Tryz.prog 20 Tryz.f20 := ⟨Tryz.func20, Tryz.call20⟩
instance fi63 : FI Tryz.prog 63 Tryz.f63 := ⟨Tryz.func63, Tryz.call63⟩
/-- Equal lists. -/
def sameW (n m : Nat) (x y : Nat → Nat) : Bool := decide (n = m) && evry (fun j => decide (x j = y j)) n
theorem sameW_1 {n m : Nat} {x y : Nat → Nat} (h : n ≠ m) : sameW n m x y = false := by unfold sameW; rw [decide_eq_false h]; rfl
theorem sameW_2 {n j : Nat} {x y : Nat → Nat} (hj : j < n) (h : x j ≠ y j) : sameW n n x y = false := by unfold sameW; rw [evry_no hj (decide_eq_false h)]; simp
theorem sameW_3 {n : Nat} {x y : Nat → Nat} (h : ∀ j, j < n → x j = y j) : sameW n n x y = true := by unfold sameW; rw [evry_iff.2 (fun j hj => decide_eq_true (h j hj))]; simp
def sameR (m m' : Nat) (ln ln' : Nat → Nat) (g g' : Nat → Nat → Nat) : Bool := decide (m = m') && evry (fun k => sameW (ln k) (ln' k) (g k) (g' k)) m
theorem sameR_1 {m m' : Nat} {ln ln' : Nat → Nat} {g g' : Nat → Nat → Nat} (h : m ≠ m') : sameR m m' ln ln' g g' = false := by unfold sameR; rw [decide_eq_false h]; rfl
theorem sameR_2 {m j : Nat} {ln ln' : Nat → Nat} {g g' : Nat → Nat → Nat} (hj : j < m) (h : sameW (ln j) (ln' j) (g j) (g' j) = false) : sameR m m ln ln' g g' = false := by unfold sameR; rw [evry_no hj h]; simp
theorem sameR_3 {m : Nat} {ln ln' : Nat → Nat} {g g' : Nat → Nat → Nat} (h : ∀ j, j < m → sameW (ln j) (ln' j) (g j) (g' j) = true) : sameR m m ln ln' g g' = true := by unfold sameR; rw [evry_iff.2 h]; simp
/-- Equal elements. -/
def sameE (a b : EG) : Bool := decide (a.lv = b.lv) && (a.sp == b.sp) && sameR a.m b.m a.ln b.ln a.g b.g
def sameC (a b : CG) : Bool := decide (a.lv = b.lv) && decide (a.ex = b.ex) && decide (a.k = b.k) && evry (fun i => sameE (a.P i) (b.P i)) a.k
theorem sameC_2 {a b : CG} {j : Nat} (hj : j < a.k) (h : sameE (a.P j) (b.P j) = false) : sameC a b = false := by unfold sameC; rw [evry_no (f := fun i => sameE (a.P i) (b.P i)) hj h]; simp
abbrev rowsG (o : Bool) (m : Nat) (ln : Nat → Nat) (g : Nat → Nat → Nat) : D := .fz o m 1 (fun k => [.fz o (ln k) 1 (fun j => [.val (.int .u32 ((g k j : Nat) : Int))])])
theorem eqw_den (n m : Nat) (x y : Nat → Nat) (hn : n ≤ 1000000) (hm : m ≤ 1000000) : Den Tryz.prog 177 [u32sF true n x, u32sF true m y] (.val (.bool (sameW n m x y))) := by
  refine den_intro (fn := Tryz.f177) rfl rfl rfl rfl rfl ?_
  refine go ?_
  refine c_if (fun h1 => ?_) (fun h1 => ?_)
  · refine go ?_
    refine fin ?_
    rw [sameW_1 h1]
    exact cv
  · obtain rfl : n = m := by omega
    refine go ?_
    refine c_down (fun j => n - j) (fun j => j ≤ n ∧ ∀ k, k < j → x k = y k) (fun j : Nat => [(13, .val (.int .i64 (j : Int)))]) (fun _ => []) 0 (fun j ⟨hj, hp⟩ => ?_) ⟨by omega, fun e he => by omega⟩
    refine go ?_
    refine c_if (fun h3 => ?_) (fun h3 => ?_)
    · refine go ?_
      refine c_if (fun h4 => ?_) (fun h4 => ?_)
      · refine go ?_
        refine fin ?_
        rw [sameW_2 h3 h4]
        exact cv
      · refine go ?_
        refine ⟨j + 1, ⟨by omega, fun k hk => ?_⟩, by omega, ?_⟩
        · by_cases q : k < j
          · exact hp k q
          · obtain rfl : k = j := by omega
            omega
        · exact sub
    · refine go ?_
      obtain rfl : j = n := by omega
      refine fin ?_
      rw [sameW_3 hp]
      exact cv
theorem r05Same_den (n m : Nat) (x y : Nat → Nat) (hn : n ≤ 1000000) (hm : m ≤ 1000000) : Den Tryz.prog 154 [u32sF true n x, u32sF true m y] (.val (.bool (sameW n m x y))) := by
  refine den_intro (fn := Tryz.f154) rfl rfl rfl rfl rfl ?_
  refine go ?_
  refine c_if (fun h1 => ?_) (fun h1 => ?_)
  · refine go ?_
    refine fin ?_
    rw [sameW_1 h1]
    exact cv
  · obtain rfl : n = m := by omega
    refine go ?_
    refine c_down (fun j => n - j) (fun j => j ≤ n ∧ ∀ k, k < j → x k = y k) (fun j : Nat => [(5, .val (.int .i64 (j : Int)))]) (fun _ => []) 0 (fun j ⟨hj, hp⟩ => ?_) ⟨by omega, fun e he => by omega⟩
    refine go ?_
    refine c_if (fun h3 => ?_) (fun h3 => ?_)
    · refine go ?_
      refine c_if (fun h4 => ?_) (fun h4 => ?_)
      · refine go ?_
        refine fin ?_
        rw [sameW_2 h3 h4]
        exact cv
      · refine go ?_
        refine ⟨j + 1, ⟨by omega, fun k hk => ?_⟩, by omega, ?_⟩
        · by_cases q : k < j
          · exact hp k q
          · obtain rfl : k = j := by omega
            omega
        · exact sub
    · refine go ?_
      obtain rfl : j = n := by omega
      refine fin ?_
      rw [sameW_3 hp]
      exact cv
theorem sameWords_den (n m : Nat) (x y : Nat → Nat) (hn : n ≤ 1000000) (hm : m ≤ 1000000) : Den Tryz.prog 63 [u32sF true n x, u32sF true m y] (.val (.bool (sameW n m x y))) := by
  refine den_intro (fn := Tryz.f63) rfl rfl rfl rfl rfl ?_
  refine go ?_
  refine c_if (fun h1 => ?_) (fun h1 => ?_)
  · refine go ?_
    refine fin ?_
    rw [sameW_1 h1]
    exact cv
  · obtain rfl : n = m := by omega
    refine go ?_
    refine c_down (fun j => n - j) (fun j => j ≤ n ∧ ∀ k, k < j → x k = y k) (fun j : Nat => [(5, .val (.int .i64 (j : Int)))]) (fun _ => []) 0 (fun j ⟨hj, hp⟩ => ?_) ⟨by omega, fun e he => by omega⟩
    refine go ?_
    refine c_if (fun h3 => ?_) (fun h3 => ?_)
    · refine go ?_
      refine c_if (fun h4 => ?_) (fun h4 => ?_)
      · refine go ?_
        refine fin ?_
        rw [sameW_2 h3 h4]
        exact cv
      · refine go ?_
        refine ⟨j + 1, ⟨by omega, fun k hk => ?_⟩, by omega, ?_⟩
        · by_cases q : k < j
          · exact hp k q
          · obtain rfl : k = j := by omega
            omega
        · exact sub
    · refine go ?_
      obtain rfl : j = n := by omega
      refine fin ?_
      rw [sameW_3 hp]
      exact cv
theorem rgSame1_den (n m : Nat) (x y : Nat → Nat) (hn : n ≤ 1000000) (hm : m ≤ 1000000) : Den Tryz.prog 176 [u32sF true n x, u32sF true m y] (.val (.bool (sameW n m x y))) := by
  refine den_intro (fn := Tryz.f176) rfl rfl rfl rfl rfl ?_
  refine go ?_
  refine r_callO (eqw_den n m x y hn hm) ?_
  refine go ?_
  refine fin ?_
  exact cv
theorem eqF_den (m m' : Nat) (ln ln' : Nat → Nat) (g g' : Nat → Nat → Nat) (hm : m ≤ 1000000) (hm' : m' ≤ 1000000) (hl : ∀ k, ln k ≤ 1000000) (hl' : ∀ k, ln' k ≤ 1000000) : Den Tryz.prog 175 [rowsG true m ln g, rowsG true m' ln' g', .val (.func (.func 176) #[] #[])] (.val (.bool (sameR m m' ln ln' g g'))) := by
  refine den_intro (fn := Tryz.f175) rfl rfl rfl rfl rfl ?_
  refine go ?_
  refine c_if (fun h1 => ?_) (fun h1 => ?_)
  · refine go ?_
    refine fin ?_
    rw [sameR_1 h1]
    exact cv
  · obtain rfl : m = m' := by omega
    refine go ?_
    refine c_down (fun j => m - j) (fun j => j ≤ m ∧ ∀ k, k < j → sameW (ln k) (ln' k) (g k) (g' k) = true) (fun j : Nat => [(17, .val (.int .i64 (j : Int)))]) (fun _ => []) 0 (fun j ⟨hj, hp⟩ => ?_) ⟨by omega, fun e he => by omega⟩
    refine go ?_
    refine c_if (fun h3 => ?_) (fun h3 => ?_)
    · refine go ?_
      refine r_callO (rgSame1_den (ln j) (ln' j) (g j) (g' j) (hl j) (hl' j)) ?_
      refine go ?_
      refine c_ifB (fun h4 => ?_) (fun h4 => ?_)
      · refine go ?_
        refine fin ?_
        rw [sameR_2 h3 (by simpa using h4)]
        exact cv
      · refine go ?_
        refine ⟨j + 1, ⟨by omega, fun k hk => ?_⟩, by omega, ?_⟩
        · by_cases q : k < j
          · exact hp k q
          · obtain rfl : k = j := by omega
            simpa using h4
        · exact sub
    · refine go ?_
      obtain rfl : j = m := by omega
      refine fin ?_
      rw [sameR_3 hp]
      exact cv
theorem rgSame_den (a b : EG) (hm : a.m ≤ 1000000) (hm' : b.m ≤ 1000000) (hl : ∀ k, a.ln k ≤ 1000000) (hl' : ∀ k, b.ln k ≤ 1000000) : Den Tryz.prog 109 [.agg (elD true a), .agg (elD true b)] (.val (.bool (sameE a b))) := by
  refine den_intro (fn := Tryz.f109) rfl rfl rfl rfl rfl ?_
  refine go ?_
  refine g_callM (hl := fun hb => r_callO (eqF_den a.m b.m a.ln b.ln a.g b.g hm hm' hl hl') (run_fin rfl)) (h := ?_)
  refine go ?_
  refine fin ?_
  exact cv
theorem r09Same_den (a b : EG) (hm : a.m ≤ 1000000) (hm' : b.m ≤ 1000000) (hl : ∀ k, a.ln k ≤ 1000000) (hl' : ∀ k, b.ln k ≤ 1000000) : Den Tryz.prog 56 [.agg (elD true a), .agg (elD true b)] (.val (.bool (sameE a b))) := by
  refine den_intro (fn := Tryz.f56) rfl rfl rfl rfl rfl ?_
  refine go ?_
  refine c_ifB (fun h1 => ?_) (fun h1 => ?_)
  · refine go ?_
    refine fin ?_
    rw [show sameE a b = false by
      unfold sameE
      by_cases q1 : a.lv = b.lv
      · by_cases q2 : a.sp = b.sp
        · by_cases q3 : a.m = b.m
          · exfalso
            simp [q1, q2, q3] at h1
          · rw [sameR_1 q3]; simp
        · simp [q2]
      · simp [q1]]
    exact cv
  · have q : a.lv = b.lv ∧ a.sp = b.sp ∧ a.m = b.m := by
      simp at h1
      exact ⟨h1.1.1, h1.1.2, h1.2⟩
    have hE : sameE a b = sameR a.m a.m a.ln b.ln a.g b.g := by unfold sameE; rw [q.1, q.2.1, ← q.2.2]; simp
    refine go ?_
    refine c_down (fun j => a.m - j) (fun j => j ≤ a.m ∧ ∀ k, k < j → sameW (a.ln k) (b.ln k) (a.g k) (b.g k) = true) (fun j : Nat => [(5, .val (.int .i64 (j : Int)))]) (fun _ => []) 0 (fun j ⟨hj, hp⟩ => ?_) ⟨by omega, fun e he => by omega⟩
    refine go ?_
    refine c_if (fun h3 => ?_) (fun h3 => ?_)
    · have h3' : j < b.m := by omega
      refine go ?_
      refine r_callO (r05Same_den (a.ln j) (b.ln j) (a.g j) (b.g j) (hl j) (hl' j)) ?_
      refine go ?_
      refine c_ifB (fun h4 => ?_) (fun h4 => ?_)
      · refine go ?_
        refine fin ?_
        rw [hE, sameR_2 h3 (by simpa using h4)]
        exact cv
      · refine go ?_
        refine ⟨j + 1, ⟨by omega, fun k hk => ?_⟩, by omega, ?_⟩
        · by_cases q : k < j
          · exact hp k q
          · obtain rfl : k = j := by omega
            simpa using h4
        · exact sub
    · refine go ?_
      obtain rfl : j = a.m := by omega
      refine fin ?_
      rw [hE, sameR_3 hp]
      exact cv
end Go.Proofs.YtefoddjclngckaaGreat

namespace Go.Proofs.YtefoddjclngckaaGreat
open Go.RowKit
set_option maxRecDepth 20000
set_option maxHeartbeats 4000000
/-- An element whose rows are a box. -/
abbrev elM (lv : Nat) (sp : Bool) (k M : Nat) : List D := [.val (.int .i64 (lv : Int)), .val (.bool sp), .sl k 1 M]
abbrev u32M (M n : Nat) (g : Nat → Nat → Nat) : Box := .mat 23 22 M M 1 n (fun k j => [.val (.int .u32 ((g k j : Nat) : Int))])
theorem r09FromInts_own (p : PD) (n lv : Nat) (sp : Bool) (h : Lv p n lv) (x : Nat → Int) (hx : ∀ j, -9223372036854775808 ≤ x j ∧ x j ≤ 9223372036854775807) : DenH Tryz.prog 152 [.agg (parL true p), .val (.int .i64 (lv : Int)), .val (.bool sp), intsD true n x] [] (.tup [.agg (elM lv sp 1900 (modN p lv sp)), .val (.int .i64 0)]) [] [(1900, u32M (modN p lv sp) n (fun k j => resI (x j) (modQ p lv k)))] := by
  refine den_intro (fn := Tryz.f152) rfl rfl rfl rfl rfl ?_
  have hN : NatIs p.n n := h.n
  have h32 := h.n32
  have h4 := h.n4
  have l1 := h.l1
  have l2 := h.l2
  have l24 := h.vp.len2
  have hpl : placeB p (lv : Int) sp = true := h.place sp
  have hm := modQ_in h.vp h.sp h.l2
  have hm' : ∀ k, 0 < modQ p lv k := fun k => by have := hm k; omega
  have hM : modN p lv sp ≤ 1001 := by unfold modN; split <;> omega
  obtain ⟨M, hMM⟩ : ∃ M, M = modN p lv sp := ⟨_, rfl⟩
  refine go ?_
  refine r_call (r09Valid_den p h.vp h.sp) ?_
  refine go ?_
  refine g_callM (hl := fun hb => r_call (r09place_den p lv sp) (run_fin rfl)) (h := ?_)
  rw [hpl]
  refine go ?_
  refine r_call (r09Moduli_den p lv sp h.l2 (by omega)) ?_
  rw [← hMM] at hM ⊢
  refine go ?_
  refine c_nilcellM 1010 2 1900 23 22 1 n (fun k j => [.val (.int .u32 ((resI (x j) (modQ p lv k) : Nat) : Int))]) ?_
  refine c_up M (fun i => [(12, .val (.int .i64 (i : Nat)))]) (fun i => [(1010, some (.lit 31 [.val (.int .i64 (lv : Int)), .val (.bool sp), .sl 1900 1 i])), (1900, some (.mat 23 22 i i 1 n (fun k j => [.val (.int .u32 ((resI (x j) (modQ p lv k) : Nat) : Int))])))]) (fun i hi => ?_)
  refine go ?_
  have hq := hm i
  refine c_if (fun h3 => ?_) (fun h3 => ?_)
  · refine go ?_
    refine c_nil 13 1901 22 1 (fun j => [.val (.int .u32 ((resI (x j) (modQ p lv i) : Nat) : Int))]) ?_
    refine c_up n (fun j => [(13, .sl 1901 1 j), (14, .val (.int .i64 (j : Nat)))]) (fun j => [(1901, some (.arr 22 j 1 (fun j => [.val (.int .u32 ((resI (x j) (modQ p lv i) : Nat) : Int))])))]) (fun j hj => ?_)
    have hr := resI_lt (x := x j) (hm' i)
    refine go ?_
    refine c_if (fun h4 => ?_) (fun h4 => ?_)
    · refine go ?_
      refine r_callO (r09residue_den (x j) (modQ p lv i) (hm' i) (by omega) (hx j)) ?_
      refine go ?_
      refine ⟨h4, ?_⟩
      refine sub_arr (1000 + 64) (fun j => [.val (.int .u32 ((resI (x j) (modQ p lv i) : Nat) : Int))]) (appF_snoc rfl) (fun _ => rfl) ?_
      refine sub_toL [52] (1000 + 64) 1901 ?_
      exact sub
    · obtain rfl : j = n := by omega
      refine go ?_
      refine ⟨h3, ?_⟩
      refine sub_mat (1000 + 69) (fun k j => [.val (.int .u32 ((resI (x j) (modQ p lv k) : Nat) : Int))]) (putG_snoc (fun _ _ => rfl)) (fun _ _ => rfl) ?_
      refine sub_toL [66] (1000 + 69) 1900 ?_
      exact sub
  · obtain rfl : i = M := by omega
    refine go ?_
    exact finN
end Go.Proofs.YtefoddjclngckaaGreat

namespace Go.Proofs.YtefoddjclngckaaGreat
open Go.RowKit
set_option maxRecDepth 20000
set_option maxHeartbeats 4000000
theorem r13Plain_den (p : PD) (ex : Nat) (hb : ∀ i, i ≤ ex → p.prime ^ i ≤ 2147483647) (hx : ex ≤ 1000000) : Den Tryz.prog 80 [.agg (parL true p), .val (.int .i64 (ex : Int))] (.val (.int .i64 ((p.prime ^ ex : Nat) : Int))) := by
  refine den_intro (fn := Tryz.f80) rfl rfl rfl rfl rfl ?_
  refine go ?_
  obtain ⟨pw, h0, hs, he, hbw⟩ : ∃ pw : Nat → Nat, pw 0 = 1 ∧ (∀ j, pw (j + 1) = pw j * p.prime) ∧ pw ex = p.prime ^ ex ∧ ∀ i, i ≤ ex → pw i ≤ 2147483647 := ⟨fun j => p.prime ^ j, rfl, fun j => Nat.pow_succ .., rfl, hb⟩
  rw [← he]
  refine c_up ex (fun j => [(6, .val (.int .i64 (j : Nat))), (5, .val (.int .i64 ((pw j : Nat) : Int)))]) (fun _ => []) (fun j hj => ?_)
  refine go ?_
  refine c_if (fun h3 => ?_) (fun h3 => ?_)
  · have hq := hbw (j + 1) (by omega)
    rw [hs j] at hq
    have hp1 := hb 1 (by omega)
    rw [Nat.pow_one] at hp1
    refine go ?_
    exact ⟨h3, sub⟩
  · obtain rfl : j = ex := by omega
    refine go ?_
    refine fin ?_
    exact cv
theorem ciModulus_den (p : PD) (ex : Nat) (hb : ∀ i, i ≤ ex → p.prime ^ i ≤ 2147483647) (hx : ex ≤ 1000000) : Den Tryz.prog 180 [.agg (parL true p), .val (.int .i64 (ex : Int))] (.val (.int .i64 ((p.prime ^ ex : Nat) : Int))) := by
  refine den_intro (fn := Tryz.f180) rfl rfl rfl rfl rfl ?_
  refine go ?_
  obtain ⟨pw, h0, hs, he, hbw⟩ : ∃ pw : Nat → Nat, pw 0 = 1 ∧ (∀ j, pw (j + 1) = pw j * p.prime) ∧ pw ex = p.prime ^ ex ∧ ∀ i, i ≤ ex → pw i ≤ 2147483647 := ⟨fun j => p.prime ^ j, rfl, fun j => Nat.pow_succ .., rfl, hb⟩
  rw [← he]
  refine c_up ex (fun j => [(7, .val (.int .i64 (j : Nat))), (5, .val (.int .i64 ((pw j : Nat) : Int)))]) (fun _ => []) (fun j hj => ?_)
  refine go ?_
  refine c_if (fun h3 => ?_) (fun h3 => ?_)
  · have hq := hbw (j + 1) (by omega)
    rw [hs j] at hq
    have hp1 := hb 1 (by omega)
    rw [Nat.pow_one] at hp1
    refine go ?_
    exact ⟨h3, sub⟩
  · obtain rfl : j = ex := by omega
    refine go ?_
    refine fin ?_
    exact cv
end Go.Proofs.YtefoddjclngckaaGreat

namespace Go.Proofs.YtefoddjclngckaaGreat
open Go.RowKit
set_option maxRecDepth 20000
set_option maxHeartbeats 4000000
/-- Numbers. -/
abbrev intsF (o : Bool) (n : Nat) (x : Nat → Int) : D := .fz o n 1 (fun j => [.val (.int .i64 (x j))])
/-- A plain polynomial, of the plain modulus t. -/
def polyB (p : PD) (t : Nat) (n : Nat) (x : Nat → Int) : Bool := evry (fun j => !(decide (x j < -(((t - 1) / 2 : Nat) : Int)) || decide ((((t - 1) / 2 : Nat) : Int) < x j))) n && decide ((n : Int) = p.n)
theorem polyB_1 {p : PD} {t n j : Nat} {x : Nat → Int} (hj : j < n) (h : (decide (x j < -(((t - 1) / 2 : Nat) : Int)) || decide ((((t - 1) / 2 : Nat) : Int) < x j)) = true) : polyB p t n x = false := by
  unfold polyB
  rw [evry_no (k := j) hj (by show (!(_ || _)) = false; rw [h]; rfl)]; rfl
theorem polyB_2 {p : PD} {t n : Nat} {x : Nat → Int} (h : ∀ j, j < n → (!(decide (x j < -(((t - 1) / 2 : Nat) : Int)) || decide ((((t - 1) / 2 : Nat) : Int) < x j))) = true) : polyB p t n x = decide ((n : Int) = p.n) := by
  unfold polyB
  rw [evry_iff.2 h]; rfl
theorem r14Polynomial_den (p : PD) (ex : Nat) (hb : ∀ i, i ≤ ex → p.prime ^ i ≤ 2147483647) (hx : ex ≤ 1000000) (ht : 1 ≤ p.prime ^ ex) (n : Nat) (x : Nat → Int) (hn : n ≤ 1000000) (h64 : ∀ j, -9223372036854775808 ≤ x j ∧ x j ≤ 9223372036854775807) : Den Tryz.prog 37 [.agg (parL true p), intsF true n x, .val (.int .i64 (ex : Int))] (.val (.bool (polyB p (p.prime ^ ex) n x))) := by
  refine den_intro (fn := Tryz.f37) rfl rfl rfl rfl rfl ?_
  have hb2 := hb ex (by omega)
  obtain ⟨t, hT⟩ : ∃ t, t = p.prime ^ ex := ⟨_, rfl⟩
  refine go ?_
  refine r_call (r13Plain_den p ex hb hx) ?_
  rw [← hT] at hb2 ht ⊢
  have hb3 : (t - 1) / 2 ≤ 2147483647 := by omega
  refine go ?_
  refine c_down (fun j => n - j) (fun j => j ≤ n ∧ ∀ k, k < j → (!(decide (x k < -(((t - 1) / 2 : Nat) : Int)) || decide ((((t - 1) / 2 : Nat) : Int) < x k))) = true) (fun j : Nat => [(8, .val (.int .i64 (j : Int)))]) (fun _ => []) 0 (fun j ⟨hj, hF⟩ => ?_) ⟨by omega, fun e he => by omega⟩
  refine go ?_
  refine c_if (fun h3 => ?_) (fun h3 => ?_)
  · have hx1 := h64 j
    refine go ?_
    refine c_ifB (fun h4 => ?_) (fun h4 => ?_)
    · refine go ?_
      refine fin ?_
      rw [polyB_1 h3 h4]
      exact cv
    · refine go ?_
      refine ⟨j + 1, ⟨by omega, fun k hk => ?_⟩, by omega, ?_⟩
      · by_cases q : k < j
        · exact hF k q
        · obtain rfl : k = j := by omega
          rw [h4]; rfl
      · exact sub
  · obtain rfl : j = n := by omega
    refine go ?_
    refine fin ?_
    rw [polyB_2 hF]
    exact cv
theorem ciPlain_den (p : PD) (ex : Nat) (hb : ∀ i, i ≤ ex → p.prime ^ i ≤ 2147483647) (hx : ex ≤ 1000000) (ht : 1 ≤ p.prime ^ ex) (n : Nat) (x : Nat → Int) (hn : n ≤ 1000000) (h64 : ∀ j, -9223372036854775808 ≤ x j ∧ x j ≤ 9223372036854775807) : Den Tryz.prog 119 [.agg (parL true p), intsF true n x, .val (.int .i64 (ex : Int))] (.val (.bool (polyB p (p.prime ^ ex) n x))) := by
  refine den_intro (fn := Tryz.f119) rfl rfl rfl rfl rfl ?_
  have hb2 := hb ex (by omega)
  obtain ⟨t, hT⟩ : ∃ t, t = p.prime ^ ex := ⟨_, rfl⟩
  refine go ?_
  refine r_call (ciModulus_den p ex hb hx) ?_
  rw [← hT] at hb2 ht ⊢
  have hb3 : (t - 1) / 2 ≤ 2147483647 := by omega
  refine go ?_
  refine c_down (fun j => n - j) (fun j => j ≤ n ∧ ∀ k, k < j → (!(decide (x k < -(((t - 1) / 2 : Nat) : Int)) || decide ((((t - 1) / 2 : Nat) : Int) < x k))) = true) (fun j : Nat => [(17, .val (.int .i64 (j : Int)))]) (fun _ => []) 0 (fun j ⟨hj, hF⟩ => ?_) ⟨by omega, fun e he => by omega⟩
  refine go ?_
  refine c_if (fun h3 => ?_) (fun h3 => ?_)
  · have hx1 := h64 j
    refine go ?_
    refine c_ifB (fun h4 => ?_) (fun h4 => ?_)
    · refine go ?_
      refine fin ?_
      rw [polyB_1 h3 h4]
      exact cv
    · refine go ?_
      refine ⟨j + 1, ⟨by omega, fun k hk => ?_⟩, by omega, ?_⟩
      · by_cases q : k < j
        · exact hF k q
        · obtain rfl : k = j := by omega
          rw [h4]; rfl
      · exact sub
  · obtain rfl : j = n := by omega
    refine go ?_
    refine fin ?_
    rw [polyB_2 hF]
    exact cv
end Go.Proofs.YtefoddjclngckaaGreat

namespace Go.Proofs.YtefoddjclngckaaGreat
open Go.RowKit
set_option maxRecDepth 20000
set_option maxHeartbeats 4000000
instance fi156 : FI Tryz.prog 156 Tryz.f156 := ⟨Tryz.func156, Tryz.call156⟩
instance fi62 : FI Tryz.prog 62 Tryz.f62 := ⟨Tryz.func62, Tryz.call62⟩
instance fi45 : FI Tryz.prog 45 Tryz.f45 := ⟨Tryz.func45, Tryz.call45⟩
theorem st_Lv {p : PD} {lv ex : Int} (h : St p lv ex) {n l : Nat} (hn : p.n = (n : Int)) (hl : lv = (l : Int)) : Lv p n l := ⟨good_VP h.good, good_special h.good, hn, by have := h.l1; omega, by have := h.l2; omega⟩
theorem good_n {p : PD} (h : Good p.par) : ∃ n : Nat, p.n = (n : Int) ∧ 4 ≤ n ∧ n ≤ 32 := by
  rcases h.1 with q | q | q | q
  · exact ⟨4, q, by omega, by omega⟩
  · exact ⟨8, q, by omega, by omega⟩
  · exact ⟨16, q, by omega, by omega⟩
  · exact ⟨32, q, by omega, by omega⟩
theorem good_pow {p : PD} (h : Good p.par) {ex : Nat} (he : (ex : Int) ≤ p.power) : (∀ i, i ≤ ex → p.prime ^ i ≤ 2147483647) ∧ 3 ≤ p.prime ∧ 1 ≤ p.prime ^ ex := by
  have h7 := h.2.2.2.2.2.2.1
  obtain ⟨a, b, c, d, e, f⟩ := h7
  simp only [PD.par] at a f
  refine ⟨fun i hi => Nat.le_trans (Nat.pow_le_pow_right (by omega) (by omega)) f, a, Nat.pow_pos (by omega)⟩
theorem r13Of_den (p : PD) (n lv : Nat) (sp : Bool) (h : Lv p n lv) (r0 : D) [OldD r0] (hr0 : r0.one = true) (x : Nat → Int) (hx : ∀ j, -9223372036854775808 ≤ x j ∧ x j ≤ 9223372036854775807) : Den Tryz.prog 54 [.agg (parL true p), .agg [.val (.int .i64 (lv : Int)), .val (.bool sp), r0], intsD true n x] (.agg (elL false lv sp (modN p lv sp) n (fun k j => resI (x j) (modQ p lv k)))) := by
  refine den_intro (fn := Tryz.f54) rfl rfl rfl rfl rfl ?_
  refine go ?_
  refine r_call (r09FromInts_den p n lv sp h x hx) ?_
  refine go ?_
  refine fin ?_
  exact cv
end Go.Proofs.YtefoddjclngckaaGreat

namespace Go.Proofs.YtefoddjclngckaaGreat
open Go.RowKit
set_option maxRecDepth 20000
set_option maxHeartbeats 4000000
noncomputable abbrev zerosD (n : Nat) : D := .fz true n Tryz.t2.size (fun _ => valL (Value.int .i64 0).cells.toList)
instance (n : Nat) : OldD (zerosD n) := (inferInstance : OldD (intsD true n (fun _ => 0)))
theorem resI_0 (q : Nat) : resI 0 q = 0 := by unfold resI; simp
theorem resI_f (q : Nat → Nat) : (fun k (j : Nat) => resI ((fun _ : Nat => (0 : Int)) j) (q k)) = fun _ _ => 0 := by funext k j; exact resI_0 _
theorem rgZero_den (p : PD) (n lv : Nat) (sp : Bool) (h : Lv p n lv) : Den Tryz.prog 51 [.agg (parL true p), .val (.int .i64 (lv : Int)), .val (.bool sp), zerosD n] (.tup [.agg (elL false lv sp (modN p lv sp) n (fun _ _ => 0)), .val (.int .i64 0)]) := by
  have := rgFromInts_den p n lv sp h (fun _ => 0) (fun _ => by omega)
  rw [resI_f] at this
  exact this
theorem r13Zero_den (p : PD) (n lv : Nat) (sp : Bool) (h : Lv p n lv) (r0 : D) [OldD r0] (hr0 : r0.one = true) : Den Tryz.prog 54 [.agg (parL true p), .agg [.val (.int .i64 (lv : Int)), .val (.bool sp), r0], zerosD n] (.agg (elL false lv sp (modN p lv sp) n (fun _ _ => 0))) := by
  have := r13Of_den p n lv sp h r0 hr0 (fun _ => 0) (fun _ => by omega)
  rw [resI_f] at this
  exact this
theorem good_ex {b ex : Nat} (h : ∀ i, i ≤ ex → b ^ i ≤ 2147483647) (hb : 3 ≤ b) : ex ≤ 1000000 := by
  by_cases q : ex ≤ 1000000
  · exact q
  · have h1 := h 32 (by omega)
    have h2 := Nat.pow_le_pow_left hb 32
    omega
theorem ciTrivial_den (p : PD) (hp : PFit p) (n lv ex : Nat) (hst : St p (lv : Int) (ex : Int)) (hn : p.n = (n : Int)) (x : Nat → Int) (hx : ∀ j, -9223372036854775808 ≤ x j ∧ x j ≤ 9223372036854775807) (hpl : polyB p (p.prime ^ ex) n x = true) : Den Tryz.prog 45 [.agg (parL true p), intsD true n x, .val (.int .i64 (lv : Int)), .val (.int .i64 (ex : Int))]
    (.tup [.agg [.val (.int .i64 (lv : Int)), .val (.int .i64 (ex : Int)), .fz false 2 3 (fun i => elL false lv false lv n (fun k j => if i = 0 then resI (x j) (modQ p lv k) else 0))], .val (.int .i64 0)]) := by
  refine den_intro (fn := Tryz.f45) rfl rfl rfl rfl rfl ?_
  have hL := st_Lv hst hn rfl
  obtain ⟨b1, b2, b3⟩ := good_pow hst.good hst.e2
  have h32 := hL.n32
  have hN : NatIs p.n n := hn
  have hx2 := good_ex b1 b2
  refine go ?_
  refine r_call (ciState_den p hp lv ex) ?_
  rw [stB_iff.2 hst]
  refine go ?_
  refine g_callM (hl := fun hb => r_call (ciPlain_den p ex b1 hx2 b3 n x (by omega) hx) (run_fin rfl)) (h := ?_)
  rw [hpl]
  refine go ?_
  refine c_ifB (fun h => ?_) (fun _ => ?_)
  · exact absurd h (by decide)
  refine go ?_
  refine r_call (rgFromInts_den p n lv false hL x hx) ?_
  refine go ?_
  refine r_call (rgZero_den p n lv false hL) ?_
  refine go ?_
  refine fin_arr (1000 + 47) (fun i => elL false lv false lv n (fun k j => if i = 0 then resI (x j) (modQ p lv k) else 0)) (fun e he => ?_) (fun _ => rfl) ?_
  · match e, he with
    | 0, _ => rfl
    | 1, _ => rfl
  refine fin_freeze (1000 + 47) ?_
  refine fin ?_
  exact cv
theorem r14with_den (lv ex : Int) (k : Nat) (P : Nat → List D) [∀ i, OldDL (P i)] : DenH Tryz.prog 156 [.val (.int .i64 lv), .val (.int .i64 ex), .sl 0 3 k] [(0, .arr 31 k 3 P)] (.agg [.val (.int .i64 lv), .val (.int .i64 ex), .sl 0 3 k]) [(0, .arr 31 k 3 P)] [] := by
  refine den_intro (fn := Tryz.f156) rfl rfl rfl rfl rfl ?_
  refine go ?_
  exact finR
end Go.Proofs.YtefoddjclngckaaGreat

namespace Go.Proofs.YtefoddjclngckaaGreat
open Go.RowKit
set_option maxRecDepth 20000
set_option maxHeartbeats 4000000
theorem r13Of_own (p : PD) (n lv : Nat) (sp : Bool) (h : Lv p n lv) (r0 : D) [OldD r0] (hr0 : r0.one = true) (x : Nat → Int) (hx : ∀ j, -9223372036854775808 ≤ x j ∧ x j ≤ 9223372036854775807) : DenH Tryz.prog 54 [.agg (parL true p), .agg [.val (.int .i64 (lv : Int)), .val (.bool sp), r0], intsD true n x] [] (.agg (elM lv sp 1016 (modN p lv sp))) [] [(1016, u32M (modN p lv sp) n (fun k j => resI (x j) (modQ p lv k)))] := by
  refine den_intro (fn := Tryz.f54) rfl rfl rfl rfl rfl ?_
  refine go ?_
  refine r_callN (r09FromInts_own p n lv sp h x hx) (r' := .tup [.agg (elM lv sp 1016 (modN p lv sp)), .val (.int .i64 0)]) rfl ?_
  refine go ?_
  exact finN
theorem r13Zero_own (p : PD) (n lv : Nat) (sp : Bool) (h : Lv p n lv) (r0 : D) [OldD r0] (hr0 : r0.one = true) : DenH Tryz.prog 54 [.agg (parL true p), .agg [.val (.int .i64 (lv : Int)), .val (.bool sp), r0], zerosD n] [] (.agg (elM lv sp 1016 (modN p lv sp))) [] [(1016, u32M (modN p lv sp) n (fun _ _ => 0))] := by
  have := r13Of_own p n lv sp h r0 hr0 (fun _ => 0) (fun _ => by omega)
  rw [resI_f] at this
  exact this
theorem r14with_mk (lv ex : Int) (k n : Nat) : ∀ vs : List Value, vs.length = 3 → (∀ j, j < 3 → Shp (dl [.val (.int .i64 lv), .val (.int .i64 ex), .sl k 3 n] j) (vs.getD j undef)) → Den Tryz.prog 156 (valL vs) (.agg (valL vs)) := fun vs hl h1 => by
  match vs, hl with
  | [v1, v2, v3], _ =>
    obtain rfl : v1 = _ := h1 0 (by omega)
    obtain rfl : v2 = _ := h1 1 (by omega)
    obtain ⟨ao, n, c, rfl⟩ : ∃ ao n c, v3 = _ := h1 2 (by omega)
    show Den _ _ [.val (.int .i64 lv), .val (.int .i64 ex), .val (.slice ao n c)] (.agg [.val (.int .i64 lv), .val (.int .i64 ex), .val (.slice ao n c)])
    refine den_intro (fn := Tryz.f156) rfl rfl rfl rfl rfl ?_
    refine go ?_
    refine fin ?_
    exact cv
theorem r14Trivial_own (p : PD) (hp : PFit p) (n lv ex : Nat) (hst : St p (lv : Int) (ex : Int)) (hn : p.n = (n : Int)) (x : Nat → Int) (hx : ∀ j, -9223372036854775808 ≤ x j ∧ x j ≤ 9223372036854775807) (hpl : polyB p (p.prime ^ ex) n x = true) : DenH Tryz.prog 62 [.agg (parL true p), intsF true n x, .val (.int .i64 (lv : Int)), .val (.int .i64 (ex : Int))] []
    (.tup [.agg [.val (.int .i64 (lv : Int)), .val (.int .i64 (ex : Int)), .sl 1038 3 2], .val (.int .i64 0)]) [] [(1038, .lit 31 (elM lv false 1031 lv ++ elM lv false 1037 lv)), (1031, u32M lv n (fun k j => resI (x j) (modQ p lv k))), (1037, u32M lv n (fun _ _ => 0))] := by
  refine den_intro (fn := Tryz.f62) rfl rfl rfl rfl rfl ?_
  have hL := st_Lv hst hn rfl
  obtain ⟨b1, b2, b3⟩ := good_pow hst.good hst.e2
  have h32 := hL.n32
  have hN : NatIs p.n n := hn
  have hx2 := good_ex b1 b2
  refine go ?_
  refine r_call (r14State_den p hp lv ex) ?_
  rw [stB_iff.2 hst]
  refine go ?_
  refine g_callM (hl := fun hb => r_call (r14Polynomial_den p ex b1 hx2 b3 n x (by omega) hx) (run_fin rfl)) (h := ?_)
  rw [hpl]
  refine go ?_
  refine c_no ?_
  refine go ?_
  refine r_callN (r13Of_own p n lv false hL (.val (.slice none 0 0)) rfl x hx) (r' := .agg (elM lv false 1031 lv)) rfl ?_
  refine go ?_
  refine r_callN (r13Zero_own p n lv false hL (.val (.slice none 0 0)) rfl) (r' := .agg (elM lv false 1037 lv)) rfl ?_
  refine go ?_
  refine r_callP (ads := [.val (.int .i64 (lv : Int)), .val (.int .i64 (ex : Int)), .sl 1038 3 2]) (r14with_mk lv ex 1038 2) ?_
  refine go ?_
  exact finN
end Go.Proofs.YtefoddjclngckaaGreat

namespace Go.Proofs.YtefoddjclngckaaGreat
open Go.RowKit
set_option maxRecDepth 20000
set_option maxHeartbeats 4000000
instance (p : PD) : NewDL (parL false p) := by unfold parL u32sD; infer_instance
/-- Four primes: the small parameters. -/
def p4 : PD := ⟨4, 17, 1, [2147481209], 2147483249, 4, 2⟩
theorem p4_par : p4.par = par4 := rfl
theorem p4_good : Good p4.par := good4
theorem p4_fit : PFit p4 := ⟨by decide, by decide, by decide, by decide, by decide, fun i hi => by
  have : i = 0 := by simp [p4] at hi; omega
  subst this; decide, by decide, by decide, by decide, by decide⟩
theorem p4_st : St p4 (1 : Nat) (1 : Nat) := ⟨p4_good, by decide, by decide, by decide, by decide⟩
theorem small13_den : Den Tryz.prog 47 [.val (.int .i64 1)] (.agg (parL false p4)) := by
  refine den_intro (fn := Tryz.f47) rfl rfl rfl rfl rfl ?_
  refine go ?_
  refine r_call (r12default_den 4 17 1 17 2147483249 1 [2147481209] (by omega) (by omega) (by omega) (by omega) (by omega) (by omega) (plainV_pos plain417) (by omega) (by omega) (by omega) (by omega) chain4 rfl) ?_
  refine go ?_
  refine fin ?_
  exact cv
theorem p4_n : p4.n = ((4 : Nat) : Int) := rfl
theorem poly_iff4 {x : Nat → Int} (hx : ∀ j, -8 ≤ x j ∧ x j ≤ 8) : polyB p4 (p4.prime ^ 1) 4 x = true := by
  rw [polyB_2 (fun j hj => ?_)]
  · exact decide_eq_true rfl
  · have := hx j
    show (!(decide (x j < -8) || decide (8 < x j))) = true
    rw [decide_eq_false (by omega), decide_eq_false (by omega)]; rfl
/-- The reference's Trivial of a list of four that was written out. -/
theorem r14Trivial_lit (a b c d : Int) (x : Nat → Int) (h0 : x 0 = a) (h1 : x 1 = b) (h2 : x 2 = c) (h3 : x 3 = d) (hx : ∀ j, -8 ≤ x j ∧ x j ≤ 8) : DenH Tryz.prog 62 [.agg (parL true p4), litA Tryz.t2.size 4 [.val (.int .i64 a), .val (.int .i64 b), .val (.int .i64 c), .val (.int .i64 d)], .val (.int .i64 1), .val (.int .i64 1)] []
    (.tup [.agg [.val (.int .i64 1), .val (.int .i64 1), .sl 1038 3 2], .val (.int .i64 0)]) [] [(1038, .lit 31 [.val (.int .i64 1), .val (.bool false), .sl 1031 1 1, .val (.int .i64 1), .val (.bool false), .sl 1037 1 1]), (1031, u32M 1 4 (fun k j => resI (x j) (modQ p4 1 k))), (1037, u32M 1 4 (fun _ _ => 0))] :=
  (r14Trivial_own p4 p4_fit 4 1 1 p4_st p4_n x (fun j => by have := hx j; omega) (poly_iff4 hx)).arg (.cons (.of_eq rfl) (.cons (Cvt.litA (fun e he => by
    match e, he with
    | 0, _ => rw [h0]; rfl
    | 1, _ => rw [h1]; rfl
    | 2, _ => rw [h2]; rfl
    | 3, _ => rw [h3]; rfl) (fun _ _ => rfl)) (.cons (.of_eq rfl) (.cons (.of_eq rfl) .nil))))
end Go.Proofs.YtefoddjclngckaaGreat

namespace Go.Proofs.YtefoddjclngckaaGreat
open Go.RowKit
set_option maxRecDepth 20000
set_option maxHeartbeats 4000000
instance fi120 : FI Tryz.prog 120 Tryz.f120 := ⟨Tryz.func120, Tryz.call120⟩
instance fi111 : FI Tryz.prog 111 Tryz.f111 := ⟨Tryz.func111, Tryz.call111⟩
instance fi44 : FI Tryz.prog 44 Tryz.f44 := ⟨Tryz.func44, Tryz.call44⟩
instance fi117 : FI Tryz.prog 117 Tryz.f117 := ⟨Tryz.func117, Tryz.call117⟩
instance fi110 : FI Tryz.prog 110 Tryz.f110 := ⟨Tryz.func110, Tryz.call110⟩
instance fi42 : FI Tryz.prog 42 Tryz.f42 := ⟨Tryz.func42, Tryz.call42⟩
instance fi112 : FI Tryz.prog 112 Tryz.f112 := ⟨Tryz.func112, Tryz.call112⟩
instance fi43 : FI Tryz.prog 43 Tryz.f43 := ⟨Tryz.func43, Tryz.call43⟩
instance fi114 : FI Tryz.prog 114 Tryz.f114 := ⟨Tryz.func114, Tryz.call114⟩
instance fi46 : FI Tryz.prog 46 Tryz.f46 := ⟨Tryz.func46, Tryz.call46⟩
instance fi121 : FI Tryz.prog 121 Tryz.f121 := ⟨Tryz.func121, Tryz.call121⟩
instance fi39 : FI Tryz.prog 39 Tryz.f39 := ⟨Tryz.func39, Tryz.call39⟩
instance fi38 : FI Tryz.prog 38 Tryz.f38 := ⟨Tryz.func38, Tryz.call38⟩
instance fi40 : FI Tryz.prog 40 Tryz.f40 := ⟨Tryz.func40, Tryz.call40⟩
instance fi107 : FI Tryz.prog 107 Tryz.f107 := ⟨Tryz.func107, Tryz.call107⟩
instance fi174 : FI Tryz.prog 174 Tryz.f174 := ⟨Tryz.func174, Tryz.call174⟩
instance fi173 : FI Tryz.prog 173 Tryz.f173 := ⟨Tryz.func173, Tryz.call173⟩
/-- A valid ciphertext. -/
abbrev ciV (o : Bool) (lv ex k n : Nat) (G : Nat → Nat → Nat → Nat) : List D := [.val (.int .i64 (lv : Int)), .val (.int .i64 (ex : Int)), .fz o k 3 (fun i => elL o lv false lv n (G i))]
structure Cv (p : PD) (n lv ex : Nat) : Prop where
  fit : PFit p
  st : St p (lv : Int) (ex : Int)
  n : p.n = (n : Int)
theorem Cv.lv {p : PD} {n lv ex : Nat} (h : Cv p n lv ex) : Lv p n lv := st_Lv h.st h.n rfl
def Vc (p : PD) (lv : Nat) (G : Nat → Nat → Nat → Nat) : Prop := ∀ i, Vg p lv (G i)
theorem ciCheckV_den (p : PD) (n lv ex k : Nat) (h : Cv p n lv ex) (hk : k = 2 ∨ k = 3) (G : Nat → Nat → Nat → Nat) (hG : Vc p lv G) : Den Tryz.prog 116 [.agg (parL true p), .agg (ciV true lv ex k n G)] (.val (.int .i64 0)) := by
  have h32 := h.lv.n32
  have l2 := h.lv.l2
  have l24 := h.lv.vp.len2
  have := ciCheck_den p h.fit ⟨lv, ex, k, fun i => ⟨lv, false, lv, fun _ => n, G i⟩⟩ (by show k ≤ _; omega) (fun _ _ => by show n ≤ _; omega) (fun _ => by show lv ≤ _; omega)
  rw [ciOk_4 (stB_iff.2 h.st) hk (fun i _ => ?_)] at this
  · exact this
  · unfold partOk eOk
    rw [show elOk p (lv : Int) false lv (fun _ => n) (G i) = true from elOk_valid h.lv (hG i)]
    simp
theorem arMatch_den (p : PD) (n lv ex k k' : Nat) (h : Cv p n lv ex) (hk : k = 2 ∨ k = 3) (hk' : k' = 2 ∨ k' = 3) (A B : Nat → Nat → Nat → Nat) (hA : Vc p lv A) (hB : Vc p lv B) : Den Tryz.prog 120 [.agg (parL true p), .agg (ciV true lv ex k n A), .agg (ciV true lv ex k' n B)] (.val (.bool true)) := by
  refine den_intro (fn := Tryz.f120) rfl rfl rfl rfl rfl ?_
  refine go ?_
  refine r_call (ciCheckV_den p n lv ex k h hk A hA) ?_
  refine go ?_
  refine g_callM (hl := fun hb => r_call (ciCheckV_den p n lv ex k' h hk' B hB) (run_fin rfl)) (h := ?_)
  refine go ?_
  refine fin ?_
  rw [show (decide ((0 : Nat) = 0) && decide ((0 : Nat) = 0) && decide (lv = lv) && decide (ex = ex)) = true by simp]
  exact cv
abbrev zeroEl : List D := [.val (.int .i64 0), .val (.bool false), .val (.slice none 0 0)]
def fillP (A : Nat → List D) (j i : Nat) : List D := if i < j then A i else zeroEl
theorem setE_fillP {A : Nat → List D} {j : Nat} {x y z : D} (hA : A j = [x, y, z]) (e : Nat) : setE (fillP A j) j 0 [x, y, z] e = fillP A (j + 1) e := by
  unfold setE fillP
  by_cases q : e = j
  · subst q
    rw [if_pos rfl, if_neg (by omega), if_pos (by omega), hA]; rfl
  · rw [if_neg q]
    by_cases q2 : e < j
    · rw [if_pos q2, if_pos (by omega)]
    · rw [if_neg q2, if_neg (by omega)]
theorem fillP_len {A : Nat → List D} (hA : ∀ i, (A i).length = 3) (j e : Nat) : (fillP A j e).length = Tryz.t31.size := by
  unfold fillP
  split
  · exact hA e
  · rfl
theorem fillP_all {A : Nat → List D} {n e : Nat} (he : e < n) : fillP A n e = A e := by unfold fillP; rw [if_pos he]
theorem arMade3_den (lv ex k n many : Nat) (hm : many ≤ 3) (hlv : lv ≤ 1000) (hex : ex ≤ 1000000) (A G : Nat → Nat → Nat → Nat) {fl : FuncId} {fn : Func} [FI Tryz.prog fl fn] (l1 l2 l3 : List D) [OldDL l1] [OldDL l2] [OldDL l3]
    (hpart : ∀ i, i < many → Den Tryz.prog fl [.val (.int .i64 (i : Int)), .fptr true l1, .fptr true l2, .fptr true l3] (.tup [.agg (elL false lv false lv n (G i)), .val (.int .i64 0)])) :
    Den Tryz.prog 111 [.agg (ciV true lv ex k n A), .val (.int .i64 (many : Int)), .clo fl [.fptr true l1, .fptr true l2, .fptr true l3]] (.tup [.agg (ciV false lv ex many n G), .val (.int .i64 0)]) := by
  refine den_intro (fn := Tryz.f111) rfl rfl rfl rfl rfl ?_
  refine go ?_
  refine c_arr (1000 + 17) (fillP (fun i => elL false lv false lv n (G i)) 0) (fun e he => ?_) (fillP_len (fun _ => rfl) 0) ?_
  · exact (if_neg (Nat.not_lt_zero e)).symm
  refine c_up many (fun j => [(22, .val (.int .i64 (j : Nat)))]) (fun j => [(1017, some (.arr 31 many Tryz.t31.size (fillP (fun i => elL false lv false lv n (G i)) j)))]) (fun j hj => ?_)
  refine go ?_
  refine c_if (fun h3 => ?_) (fun h3 => ?_)
  · refine go ?_
    refine r_callO (hpart j h3) ?_
    refine go ?_
    refine ⟨h3, ?_⟩
    refine sub_arr 1017 (fillP (fun i => elL false lv false lv n (G i)) (j + 1)) (fun e _ => setE_fillP rfl e) (fillP_len (fun _ => rfl) (j + 1)) ?_
    exact sub
  · obtain rfl : j = many := by omega
    refine go ?_
    refine fin_arr 1017 (fun i => elL false lv false lv n (G i)) (fun e he => fillP_all he) (fun _ => rfl) ?_
    refine fin_freeze 1017 ?_
    refine fin ?_
    exact cv
end Go.Proofs.YtefoddjclngckaaGreat

namespace Go.Proofs.YtefoddjclngckaaGreat
open Go.RowKit
set_option maxRecDepth 20000
set_option maxHeartbeats 4000000
def mulIntV (p : PD) (lv : Nat) (m : Int) (A : Nat → Nat → Nat) (r j : Nat) : Nat := (A r j * resI m (modQ p lv r)) % modQ p lv r
def addV (p : PD) (lv : Nat) (A B : Nat → Nat → Nat) (r j : Nat) : Nat := (A r j + B r j) % modQ p lv r
def subV (p : PD) (lv : Nat) (A B : Nat → Nat → Nat) (r j : Nat) : Nat := (A r j + modQ p lv r - B r j) % modQ p lv r
def mulV (p : PD) (lv n : Nat) (A B : Nat → Nat → Nat) (r j : Nat) : Nat := mulR (A r) (B r) (modQ p lv r) n j
def intV (p : PD) (lv : Nat) (x : Nat → Int) (r j : Nat) : Nat := resI (x j) (modQ p lv r)
section
variable {p : PD} {n lv : Nat}
theorem Lv.q0 (h : Lv p n lv) (r : Nat) : 0 < modQ p lv r := by have := modQ_in h.vp h.sp h.l2 r; omega
theorem vg_mulInt (h : Lv p n lv) (m : Int) (A : Nat → Nat → Nat) : Vg p lv (mulIntV p lv m A) := fun r j => Nat.mod_lt _ (h.q0 r)
theorem vg_add (h : Lv p n lv) (A B : Nat → Nat → Nat) : Vg p lv (addV p lv A B) := fun r j => Nat.mod_lt _ (h.q0 r)
theorem vg_sub (h : Lv p n lv) (A B : Nat → Nat → Nat) : Vg p lv (subV p lv A B) := fun r j => Nat.mod_lt _ (h.q0 r)
theorem vg_mul (h : Lv p n lv) (A B : Nat → Nat → Nat) : Vg p lv (mulV p lv n A B) := fun r j => Nat.mod_lt _ (h.q0 r)
theorem vg_int (h : Lv p n lv) (x : Nat → Int) : Vg p lv (intV p lv x) := fun r j => resI_lt (h.q0 r)
end
theorem arTimes1_den (p : PD) (n lv ex k : Nat) (h : Cv p n lv ex) (hk : k ≤ 3) (A : Nat → Nat → Nat → Nat) (hA : Vc p lv A) (m : Int) (h64 : -9223372036854775808 ≤ m ∧ m ≤ 9223372036854775807) (i : Nat) (hi : i < k) : Den Tryz.prog 117 [.val (.int .i64 (i : Int)), .fptr true (parL true p), .fptr true (ciV true lv ex k n A), .fptr true [.val (.int .i64 m)]] (.tup [.agg (elL false lv false lv n (mulIntV p lv m (A i))), .val (.int .i64 0)]) := by
  refine den_intro (fn := Tryz.f117) rfl rfl rfl rfl rfl ?_
  refine go ?_
  refine r_callO (rgMulInt_den p n lv false h.lv m h64 (A i) (hA i)) ?_
  refine go ?_
  refine fin ?_
  exact cv
theorem arTimes_den (p : PD) (n lv ex k : Nat) (h : Cv p n lv ex) (hk : k = 2 ∨ k = 3) (A : Nat → Nat → Nat → Nat) (hA : Vc p lv A) (m : Int) (h64 : -9223372036854775808 ≤ m ∧ m ≤ 9223372036854775807) : Den Tryz.prog 44 [.agg (parL true p), .agg (ciV true lv ex k n A), .val (.int .i64 m)] (.tup [.agg (ciV false lv ex k n (fun i => mulIntV p lv m (A i))), .val (.int .i64 0)]) := by
  refine den_intro (fn := Tryz.f44) rfl rfl rfl rfl rfl ?_
  have l2 := h.lv.l2
  have l24 := h.lv.vp.len2
  obtain ⟨b1, b2, b3⟩ := good_pow h.st.good h.st.e2
  have hx2 := good_ex b1 b2
  refine go ?_
  refine r_call (ciCheckV_den p n lv ex k h hk A hA) ?_
  refine go ?_
  refine r_call (arMade3_den lv ex k n k (by omega) (by omega) hx2 A (fun i => mulIntV p lv m (A i)) (parL true p) (ciV true lv ex k n A) [.val (.int .i64 m)] (fun i hi => arTimes1_den p n lv ex k h (by omega) A hA m h64 i hi)) ?_
  refine go ?_
  refine fin ?_
  exact cv
theorem arNeg_den (p : PD) (n lv ex k : Nat) (h : Cv p n lv ex) (hk : k = 2 ∨ k = 3) (A : Nat → Nat → Nat → Nat) (hA : Vc p lv A) : Den Tryz.prog 39 [.agg (parL true p), .agg (ciV true lv ex k n A)] (.tup [.agg (ciV false lv ex k n (fun i => mulIntV p lv (-1) (A i))), .val (.int .i64 0)]) := by
  refine den_intro (fn := Tryz.f39) rfl rfl rfl rfl rfl ?_
  refine go ?_
  refine r_call (arTimes_den p n lv ex k h hk A hA (-1) (by omega)) ?_
  refine go ?_
  refine fin ?_
  exact cv
theorem arText_den (p : PD) (n lv ex k : Nat) (h : Cv p n lv ex) (hk : k = 2 ∨ k = 3) (A : Nat → Nat → Nat → Nat) (hA : Vc p lv A) (x : Nat → Int) (hx : ∀ j, -9223372036854775808 ≤ x j ∧ x j ≤ 9223372036854775807) (hpl : polyB p (p.prime ^ ex) n x = true) : Den Tryz.prog 110 [.agg (parL true p), .agg (ciV true lv ex k n A), intsD true n x] (.tup [.agg (elL false lv false lv n (intV p lv x)), .val (.bool true)]) := by
  refine den_intro (fn := Tryz.f110) rfl rfl rfl rfl rfl ?_
  refine go ?_
  refine r_call (ciCheckV_den p n lv ex k h hk A hA) ?_
  refine go ?_
  refine r_call (ciTrivial_den p h.fit n lv ex h.st h.n x hx hpl) ?_
  refine go ?_
  refine fin ?_
  exact cv
end Go.Proofs.YtefoddjclngckaaGreat
