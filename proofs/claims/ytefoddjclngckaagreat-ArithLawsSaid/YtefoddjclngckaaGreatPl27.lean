/- The program's ring, by data: Check.
The program's ring, by data: elements of integers. -/
import Derived.Test.YtefoddjclngckaaGreatPl26
set_option linter.unusedSimpArgs false
set_option linter.unusedVariables false
set_option linter.unnecessarySimpa false
namespace Go.Proofs.YtefoddjclngckaaGreat
open Go.RowKit
set_option maxRecDepth 20000
set_option maxHeartbeats 4000000
/-- A test of all numbers below n. -/
def evry (f : Nat → Bool) : Nat → Bool
  | 0 => true
  | n + 1 => evry f n && f n
theorem evry_iff {f : Nat → Bool} {n : Nat} : evry f n = true ↔ ∀ k, k < n → f k = true := by
  induction n with
  | zero => exact ⟨fun _ k h => by omega, fun _ => rfl⟩
  | succ n ih =>
    unfold evry
    rw [Bool.and_eq_true, ih]
    exact ⟨fun ⟨h1, h2⟩ k hk => by
      by_cases q : k < n
      · exact h1 k q
      · obtain rfl : k = n := by omega
        exact h2, fun h => ⟨fun k hk => h k (by omega), h n (by omega)⟩⟩
theorem evry_no {f : Nat → Bool} {n k : Nat} (hk : k < n) (h : f k = false) : evry f n = false := by
  cases q : evry f n with
  | false => rfl
  | true => rw [evry_iff.1 q k hk] at h; cases h
/-- An element: rows of any lengths. -/
abbrev elG (o : Bool) (lv : Int) (sp : Bool) (m : Nat) (ln : Nat → Nat) (g : Nat → Nat → Nat) : List D := [.val (.int .i64 lv), .val (.bool sp), .fz o m 1 (fun k => [.fz o (ln k) 1 (fun j => [.val (.int .u32 ((g k j : Nat) : Int))])])]
def rowOk (p : PD) (lv : Nat) (ln : Nat → Nat) (g : Nat → Nat → Nat) (k : Nat) : Bool := decide ((ln k : Int) = p.n) && !hasI (fun j => decide (modQ p lv k ≤ g k j)) (ln k)
def placeB (p : PD) (lv : Int) (sp : Bool) : Bool := decide (1 ≤ lv) && decide (lv ≤ (p.chain.length : Int)) && (!sp || decide (p.special ≠ 0))
/-- The element is valid. -/
def elOk (p : PD) (lv : Int) (sp : Bool) (m : Nat) (ln : Nat → Nat) (g : Nat → Nat → Nat) : Bool := placeB p lv sp && decide (m = modN p lv.toNat sp) && evry (rowOk p lv.toNat ln g) m
theorem elOk_1 {p : PD} {lv : Int} {sp : Bool} {m : Nat} {ln : Nat → Nat} {g : Nat → Nat → Nat} (h : placeB p lv sp = false) : elOk p lv sp m ln g = false := by unfold elOk; rw [h]; rfl
theorem elOk_2 {p : PD} {lv : Int} {sp : Bool} {m : Nat} {ln : Nat → Nat} {g : Nat → Nat → Nat} (h : m ≠ modN p lv.toNat sp) : elOk p lv sp m ln g = false := by unfold elOk; rw [decide_eq_false h]; simp
theorem elOk_3 {p : PD} {lv : Int} {sp : Bool} {m k : Nat} {ln : Nat → Nat} {g : Nat → Nat → Nat} (hk : k < m) (h : rowOk p lv.toNat ln g k = false) : elOk p lv sp m ln g = false := by unfold elOk; rw [evry_no hk h]; simp
theorem elOk_4 {p : PD} {lv : Nat} {sp : Bool} {m : Nat} {ln : Nat → Nat} {g : Nat → Nat → Nat} (h : placeB p (lv : Int) sp = true) (h2 : m = modN p lv sp) (h3 : ∀ k, k < m → rowOk p lv ln g k = true) : elOk p (lv : Int) sp m ln g = true := by unfold elOk; rw [h, Int.toNat_natCast, decide_eq_true h2, evry_iff.2 h3]; rfl
instance (p : PD) : CvtLI (parL true p) (parL true p) := ⟨CvtL.refl _⟩
abbrev errI (b : Bool) : Int := if b then 0 else 2
theorem b_ok {x : Bool} (h : (!true || !x) = false) : x = true := by cases x <;> simp_all
theorem b_no {x : Bool} (h : (!true || !x) = true) : x = false := by cases x <;> simp_all
theorem rgCheck_den (p : PD) (h : VP p) (lv : Int) (sp : Bool) (m : Nat) (ln : Nat → Nat) (g : Nat → Nat → Nat) (hln : ∀ k, ln k ≤ 1000000) (hm : m ≤ 1000000) : Den Tryz.prog 49 [.agg (parL true p), .agg (elG true lv sp m ln g)] (.val (.int .i64 (errI (elOk p lv sp m ln g)))) := by
  refine den_intro (fn := Tryz.f49) rfl rfl rfl rfl rfl ?_
  refine go ?_
  refine r_call (rgvalid_den p h) ?_
  refine go ?_
  refine g_callM (hl := fun hb => r_call (rgplace_den p lv sp) (run_fin rfl)) (h := ?_)
  refine go ?_
  refine c_ifB (fun h1 => ?_) (fun h1 => ?_)
  · refine go ?_
    refine fin ?_
    rw [elOk_1 (show placeB p lv sp = false from b_no h1)]
    exact cv
  · have hp : placeB p lv sp = true := b_ok h1
    have l2 := h.len2
    have hlv : 1 ≤ lv ∧ lv ≤ (p.chain.length : Int) := by
      simp only [placeB, Bool.and_eq_true, decide_eq_true_eq] at hp
      exact hp.1
    obtain ⟨lv, rfl⟩ := Int.eq_ofNat_of_zero_le (show 0 ≤ lv by omega)
    refine go ?_
    refine c_cut0 [(5, .val (.int .i64 ((modN p lv sp : Nat) : Int)))] ?_ ?_
    · refine c_ifB (fun h2 => ?_) (fun h2 => ?_)
      · subst h2
        refine go ?_
        exact sub
      · subst h2
        refine go ?_
        exact sub
    · have hM : modN p lv sp ≤ 1001 := by unfold modN; split <;> omega
      refine go ?_
      refine c_if (fun h3 => ?_) (fun h3 => ?_)
      · refine go ?_
        refine fin ?_
        rw [elOk_2 (show m ≠ modN p (lv : Int).toNat sp from fun e => h3 (by rw [e]; simp))]
        exact cv
      · obtain rfl : m = modN p lv sp := by omega
        refine c_frz (1000 + 2) ?_
        refine c_slot 2 (.fptr false (parL true p)) ?_
        refine go ?_
        refine r_callO (rgmoduli_den p lv sp) ?_
        refine go ?_
        refine c_range (α := Unit) [1003, 1004] (moduli1_itr p lv sp (by omega) (by omega)) _ (modL_len _ lv sp) (fun k => [.val (.int .i64 (k : Nat)), .val (.int .u32 ((modQ p lv k : Nat) : Int))]) (fun k hk => modL_at _ lv sp hk)
          (fun k => [(104, some (.lit 35 [.val (.int .i64 0)])), (103, some (.lit 31 (elG true (lv : Int) sp (modN p lv sp) ln g)))]) (fun _ => [(104, some (.lit 35 [.val (.int .i64 2)])), (103, some (.lit 31 (elG true (lv : Int) sp (modN p lv sp) ln g)))]) (fun _ => elOk p (lv : Int) sp (modN p lv sp) ln g = false) (fun _ => .ret) (fun k => ∀ j, j < k → rowOk p lv ln g j = true) (fun j hj => by omega) (fun k l hk hF => ?_) (fun hF => ?_) (fun y hy => ?_)
        · refine go ?_
          refine g_callM (hl := fun hb => r_call (containsF_den (ln k) (g k) (hln k) (fun j => decide (modQ p lv k ≤ g k j)) [.val (.int .u32 ((modQ p lv k : Nat) : Int))] (fun j _ => rgCheck1_den (g k j) (modQ p lv k))) (run_fin rfl)) (h := ?_)
          refine go ?_
          have hrow : rowOk p lv ln g k = !(decide ((ln k : Int) ≠ p.n) || hasI (fun j => decide (modQ p lv k ≤ g k j)) (ln k)) := by unfold rowOk; by_cases q : (ln k : Int) = p.n <;> simp [q]
          refine c_ifB (fun h4 => ?_) (fun h4 => ?_)
          · refine go ?_
            refine ⟨(), elOk_3 hk (by rw [Int.toNat_natCast, hrow, h4]; rfl), rfl, ?_⟩
            exact sub
          · refine go ?_
            refine ⟨fun j hj => ?_, ?_⟩
            · by_cases q : j < k
              · exact hF j q
              · obtain rfl : j = k := by omega
                rw [hrow, h4]; rfl
            · exact sub
        · refine go ?_
          refine fin ?_
          rw [show elOk p (lv : Int) sp (modN p lv sp) ln g = true from elOk_4 hp rfl hF]
          exact cv
        · refine go ?_
          refine fin ?_
          rw [hy]
          exact cv
end Go.Proofs.YtefoddjclngckaaGreat

namespace Go.Proofs.YtefoddjclngckaaGreat
open Go.RowKit
set_option maxRecDepth 20000
set_option maxHeartbeats 4000000
/-- A box renamed, where slots L are dropped. -/
theorem sub_toL (L : List Nat) (a b : Nat) {env env1 env' : List (Nat × D)} {box box1 box' : List (Nat × Option Box)} {E2 : Nat → D} {H2 : Nat → Option Box} (h : Sub (lk env') (hk box') E2 H2)
    (he : KeepE L env env1 := by (repeat (first | exact KeepE.nil | apply KeepE.drop rfl | (with_reducible apply KeepE.whn) | apply KeepE.keep))) (hE : RenEL (toN a b) env1 env' := by (repeat (first | exact RenEL.nil | (apply RenEL.cons; (focus ((first | exact D.ren_free _ rfl | exact ren_eptr (by first | exact to_y rfl | exact to_n rfl) | exact ren_sl (by first | exact to_y rfl | exact to_n rfl) | exact ren_clo (by (repeat (first | exact RenLL.nil | (apply RenLL.cons; (focus ((first | exact D.ren_free _ rfl | exact ren_eptr (by first | exact to_y rfl | exact to_n rfl) | exact ren_sl (by first | exact to_y rfl | exact to_n rfl)); done)))))) | exact ren_agg (by (repeat (first | exact RenLL.nil | (apply RenLL.cons; (focus ((first | exact D.ren_free _ rfl | exact ren_eptr (by first | exact to_y rfl | exact to_n rfl) | exact ren_sl (by first | exact to_y rfl | exact to_n rfl)); done)))))) | exact ren_tup (by (repeat (first | exact RenLL.nil | (apply RenLL.cons; (focus ((first | exact D.ren_free _ rfl | exact ren_eptr (by first | exact to_y rfl | exact to_n rfl) | exact ren_sl (by first | exact to_y rfl | exact to_n rfl)); done))))))); done)))))) (hbk : KeepB [b] box box1 := by (repeat (first | exact KeepB.nil | apply KeepB.drop rfl | apply KeepB.keep))) (hB : RenBL (toN a b) box1 box' := by (repeat (first | exact RenBL.nil | (apply RenBL.cons; (focus ((first | exact to_y rfl | exact to_n rfl); done)); (focus ((first | exact renb_free rfl | exact renb_lit (by (repeat (first | exact RenLL.nil | (apply RenLL.cons; (focus ((first | exact D.ren_free _ rfl | exact ren_eptr (by first | exact to_y rfl | exact to_n rfl) | exact ren_sl (by first | exact to_y rfl | exact to_n rfl)); done))))))); done)))))) (h1 : Nat.ble 1000 a = true := by rfl) (h2 : (box1.all fun x => Nat.beq (toN b a (toN a b x.1)) x.1) = true := by kernel_rfl) (h3 : Nat.ble 1000 b = true := by rfl)
    (hs : Sub (lk env) (hk box) (lk env1) (hk box1) := by exact sub) : Sub (lk env) (hk box) E2 H2 := by
  refine hs.trans (Sub.trans ?_ h)
  have := sub_ren (env := env1) (two_of (r := toN a b) (s := toN b a) (box := box1) (fun k hk => to_n (beq_ne (by have := Nat.le_of_ble_eq_true h1; omega))) h2) (fun k hk => to_n (beq_ne (by have := Nat.le_of_ble_eq_true h3; omega)))
  rw [hE.eq, hB.eq] at this
  exact this
/-- An integer's residue. -/
def resI (x : Int) (q : Nat) : Nat := (x % (q : Int)).toNat
theorem resI_cast {x : Int} {q : Nat} (h : 0 < q) : ((resI x q : Nat) : Int) = x % (q : Int) := Int.toNat_of_nonneg (Int.emod_nonneg x (by omega))
theorem resI_lt {x : Int} {q : Nat} (h : 0 < q) : resI x q < q := by
  have h1 := resI_cast (x := x) h
  have h2 := Int.emod_lt_of_pos x (show (0 : Int) < q by omega)
  omega
theorem resI_tmod {x : Int} {q : Nat} (h : 0 < q) : (if x.tmod q < 0 then x.tmod q + q else x.tmod q) = ((resI x q : Nat) : Int) := by
  rw [resI_cast h, Int.tmod_eq_emod]
  have h1 := Int.emod_nonneg x (show (q : Int) ≠ 0 by omega)
  have h2 := Int.emod_lt_of_pos x (show (0 : Int) < q by omega)
  by_cases c : 0 ≤ x ∨ (q : Int) ∣ x
  · rw [if_pos c, if_neg (by omega)]; omega
  · rw [if_neg c]
    have h3 : x % (q : Int) ≠ 0 := fun e => c (.inr (Int.dvd_of_emod_eq_zero e))
    rw [if_pos (by omega)]; omega
theorem modQ_in {p : PD} (h : VP p) (hs : p.special ≠ 0) {lv : Nat} (hl : lv ≤ p.chain.length) (k : Nat) : 3 ≤ modQ p lv k ∧ modQ p lv k ≤ 2147483647 ∧ modQ p lv k % 2 = 1 := by
  have q : modOk (modQ p lv k) = true := by
    unfold modQ
    split
    · exact h.mods k (by omega)
    · rcases h.special with q | q
      · exact absurd q hs
      · exact q.1
  unfold modOk at q
  simp only [Bool.and_eq_true, decide_eq_true_eq] at q
  exact ⟨q.1.1, q.1.2, q.2⟩
structure Lv (p : PD) (n lv : Nat) : Prop where
  vp : VP p
  sp : p.special ≠ 0
  n : p.n = (n : Int)
  l1 : 1 ≤ lv
  l2 : lv ≤ p.chain.length
theorem Lv.n32 {p : PD} {n lv : Nat} (h : Lv p n lv) : n ≤ 32 := by have := h.vp.n; have := h.n; omega
theorem Lv.n4 {p : PD} {n lv : Nat} (h : Lv p n lv) : 4 ≤ n := by have := h.vp.n; have := h.n; omega
theorem Lv.place {p : PD} {n lv : Nat} (h : Lv p n lv) (sp : Bool) : (decide (1 ≤ (lv : Int)) && decide ((lv : Int) ≤ (p.chain.length : Int)) && (!sp || decide (p.special ≠ 0))) = true := by
  have h1 := h.l1
  have h2 := h.l2
  rw [decide_eq_true (show 1 ≤ (lv : Int) by omega), decide_eq_true (show (lv : Int) ≤ (p.chain.length : Int) by omega), decide_eq_true h.sp]
  cases sp <;> rfl
theorem rgFromInts_den (p : PD) (n lv : Nat) (sp : Bool) (h : Lv p n lv) (x : Nat → Int) (hx : ∀ j, -9223372036854775808 ≤ x j ∧ x j ≤ 9223372036854775807) : Den Tryz.prog 51 [.agg (parL true p), .val (.int .i64 (lv : Int)), .val (.bool sp), intsD true n x] (.tup [.agg (elL false lv sp (modN p lv sp) n (fun k j => resI (x j) (modQ p lv k))), .val (.int .i64 0)]) := by
  refine den_intro (fn := Tryz.f51) rfl rfl rfl rfl rfl ?_
  have hN : NatIs p.n n := h.n
  have h32 := h.n32
  have l2 := h.vp.len2
  have hpl := h.place sp
  refine go ?_
  refine r_call (rgvalid_den p h.vp) ?_
  refine go ?_
  refine g_callM (hl := fun hb => r_call (rgplace_den p lv sp) (run_fin rfl)) (h := ?_)
  refine go ?_
  refine c_ifB (fun h1 => ?_) (fun h1 => ?_)
  · rw [hpl] at h1
    exfalso
    simp at h1
  · refine go ?_
    have hm := modQ_in h.vp h.sp h.l2
    have hm' : ∀ k, 0 < modQ p lv k := fun k => by have := hm k; omega
    refine r_call (rgeach1_den p n lv sp h.n h32 h.l1 h.l2 (by omega) (fun k => by have := hm k; omega) [intsD true n x] (fun k j => resI (x j) (modQ p lv k)) (fun k hk => rgFromInts1_den k (modQ p lv k) n x h32 (hm' k) (by have := hm k; omega) hx (fun j => resI (x j) (modQ p lv k)) (fun j => resI_tmod (hm' k)))) ?_
    refine go ?_
    refine fin ?_
    exact cv
end Go.Proofs.YtefoddjclngckaaGreat
