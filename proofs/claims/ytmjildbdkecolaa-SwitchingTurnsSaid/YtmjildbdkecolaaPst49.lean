/- Equal lists, elements, ciphertexts: by data.
The digits of an element, by data.
The digits of an element, one by one: what the iterator yields.
The small parameters of the examples; literal lists as arguments: by data.
Rescaling, by data: the parts that all its functions share.
Rescaling, by data: rows that are multiplied.
Rescaling, by data: the plain modulus's exponent.
Rescaling, by data: fewer primes.
Rescaling, by data: Drop and Down.
The reference's ring, by data: sums and multiples, rows of the call's own or not.
The reference's products of elements, by data.
The program's ring, by data: elements whose rows are the call's own.
Equal ciphertexts, the reference's; Restrict and Balanced: by data.
The reference's Restrict and Balanced: by data.
Elements modulo fewer primes, with the special prime, by data.
Elements modulo fewer primes, with the special prime, by data: the reference. -/
import Derived.Test.YtmjildbdkecolaaPst48
import Derived.Test.YtmjildbdkecolaaPst30
import Derived.Test.YtmjildbdkecolaaPst32
import Derived.Test.YtmjildbdkecolaaPst27
import Derived.Test.YtmjildbdkecolaaPst42
set_option linter.unusedSimpArgs false
set_option linter.unusedVariables false
set_option linter.unnecessarySimpa false
namespace Go.Proofs.Ytmjildbdkecolaa
open Go.RowKit
set_option maxRecDepth 20000
set_option maxHeartbeats 4000000
instance fi22 : FI Try.prog 22 Try.f22 := ⟨Try.func22, Try.call22⟩
instance fi10 : FI Try.prog 10 Try.f10 := ⟨Try.func10, Try.call10⟩
/-- Equal lists. -/
def sameW (n m : Nat) (x y : Nat → Nat) : Bool := decide (n = m) && evry (fun j => decide (x j = y j)) n
theorem sameW_1 {n m : Nat} {x y : Nat → Nat} (h : n ≠ m) : sameW n m x y = false := by unfold sameW; rw [decide_eq_false h]; rfl
theorem sameW_2 {n j : Nat} {x y : Nat → Nat} (hj : j < n) (h : x j ≠ y j) : sameW n n x y = false := by unfold sameW; rw [evry_no hj (decide_eq_false h)]; simp
theorem sameW_3 {n : Nat} {x y : Nat → Nat} (h : ∀ j, j < n → x j = y j) : sameW n n x y = true := by unfold sameW; rw [evry_iff.2 (fun j hj => decide_eq_true (h j hj))]; simp
def sameR (m m' : Nat) (ln ln' : Nat → Nat) (g g' : Nat → Nat → Nat) : Bool := decide (m = m') && evry (fun k => sameW (ln k) (ln' k) (g k) (g' k)) m
theorem sameR_1 {m m' : Nat} {ln ln' : Nat → Nat} {g g' : Nat → Nat → Nat} (h : m ≠ m') : sameR m m' ln ln' g g' = false := by unfold sameR; rw [decide_eq_false h]; rfl
theorem sameR_2 {m j : Nat} {ln ln' : Nat → Nat} {g g' : Nat → Nat → Nat} (hj : j < m) (h : sameW (ln j) (ln' j) (g j) (g' j) = false) : sameR m m ln ln' g g' = false := by unfold sameR; rw [evry_no hj h]; simp
theorem sameR_3 {m : Nat} {ln ln' : Nat → Nat} {g g' : Nat → Nat → Nat} (h : ∀ j, j < m → sameW (ln j) (ln' j) (g j) (g' j) = true) : sameR m m ln ln' g g' = true := by unfold sameR; rw [evry_iff.2 h]; simp
/-- Equal elements. -/
def sameE (a b : EG) : Bool := decide (a.lv = b.lv) && (a.sp == b.sp) && sameR a.m b.m a.ln b.ln a.g b.g
theorem r05Same_den (n m : Nat) (x y : Nat → Nat) (hn : n ≤ 1000000) (hm : m ≤ 1000000) : Den Try.prog 22 [u32sF true n x, u32sF true m y] (.val (.bool (sameW n m x y))) := by
 refine den_intro (fn := Try.f22) rfl rfl rfl rfl rfl ?_
 refine go ?_
 refine c_if (fun h1 => ?_) (fun h1 => ?_)
 ·refine go ?_
  refine fin ?_
  rw [sameW_1 h1]
  exact cv
 ·obtain rfl : n = m := by omega
  refine go ?_
  refine c_down (fun j => n - j) (fun j => j ≤ n ∧ ∀ k, k < j → x k = y k) (fun j : Nat => [(5, .val (.int .i64 (j : Int)))]) (fun _ => []) 0 (fun j ⟨hj, hp⟩ => ?_) ⟨by omega, fun e he => by omega⟩
  refine go ?_
  refine c_if (fun h3 => ?_) (fun h3 => ?_)
  ·refine go ?_
   refine c_if (fun h4 => ?_) (fun h4 => ?_)
   ·refine go ?_
    refine fin ?_
    rw [sameW_2 h3 h4]
    exact cv
   ·refine go ?_
    refine ⟨j + 1, ⟨by omega, fun k hk => ?_⟩, by omega, ?_⟩
    ·by_cases q : k < j
     ·exact hp k q
     ·obtain rfl : k = j := by omega
      omega
    ·exact sub
  ·refine go ?_
   obtain rfl : j = n := by omega
   refine fin ?_
   rw [sameW_3 hp]
   exact cv
theorem r09Same_den (a b : EG) (hm : a.m ≤ 1000000) (hm' : b.m ≤ 1000000) (hl : ∀ k, a.ln k ≤ 1000000) (hl' : ∀ k, b.ln k ≤ 1000000) : Den Try.prog 10 [.agg (elD true a), .agg (elD true b)] (.val (.bool (sameE a b))) := by
 refine den_intro (fn := Try.f10) rfl rfl rfl rfl rfl ?_
 refine go ?_
 refine c_ifB (fun h1 => ?_) (fun h1 => ?_)
 ·refine go ?_
  refine fin ?_
  rw [show sameE a b = false by
   unfold sameE
   by_cases q1 : a.lv = b.lv
   ·by_cases q2 : a.sp = b.sp
    ·by_cases q3 : a.m = b.m
     ·exfalso
      simp [q1, q2, q3] at h1
     ·rw [sameR_1 q3]; simp
    ·simp [q2]
   ·simp [q1]]
  exact cv
 ·have q : a.lv = b.lv ∧ a.sp = b.sp ∧ a.m = b.m := by
   simp at h1
   exact ⟨h1.1.1, h1.1.2, h1.2⟩
  have hE : sameE a b = sameR a.m a.m a.ln b.ln a.g b.g := by unfold sameE; rw [q.1, q.2.1, ← q.2.2]; simp
  refine go ?_
  refine c_down (fun j => a.m - j) (fun j => j ≤ a.m ∧ ∀ k, k < j → sameW (a.ln k) (b.ln k) (a.g k) (b.g k) = true) (fun j : Nat => [(5, .val (.int .i64 (j : Int)))]) (fun _ => []) 0 (fun j ⟨hj, hp⟩ => ?_) ⟨by omega, fun e he => by omega⟩
  refine go ?_
  refine c_if (fun h3 => ?_) (fun h3 => ?_)
  ·have h3' : j < b.m := by omega
   refine go ?_
   refine r_callO (r05Same_den (a.ln j) (b.ln j) (a.g j) (b.g j) (hl j) (hl' j)) ?_
   refine go ?_
   refine c_ifB (fun h4 => ?_) (fun h4 => ?_)
   ·refine go ?_
    refine fin ?_
    rw [hE, sameR_2 h3 (by simpa using h4)]
    exact cv
   ·refine go ?_
    refine ⟨j + 1, ⟨by omega, fun k hk => ?_⟩, by omega, ?_⟩
    ·by_cases q : k < j
     ·exact hp k q
     ·obtain rfl : k = j := by omega
      simpa using h4
    ·exact sub
  ·refine go ?_
   obtain rfl : j = a.m := by omega
   refine fin ?_
   rw [hE, sameR_3 hp]
   exact cv
open Go.RowKit
set_option maxRecDepth 20000
set_option maxHeartbeats 4000000
instance ti68 : TI Try.prog 68 Try.t68 (.slice 51) := ⟨by kernel_rfl, by kernel_rfl⟩
instance sz68 : SZ Try.prog 68 1 := SZ.of ti68 rfl
instance zr68 : ZR Try.prog 68 [.slice none 0 0] := ZR.of ti68 rfl rfl rfl
instance et68 : ET Try.prog 68 1 := ET.of ti68 ti51 rfl
theorem rgCheckV_den (p : PD) (n lv : Nat) (sp : Bool) (h : Lv p n lv) (g : Nat → Nat → Nat) (hg : Vg p lv g) : Den Try.prog 19 [.agg (parL true p), .agg (elL true lv sp (modN p lv sp) n g)] (.val (.int .i64 0)) := by
 have h32 := h.n32
 have l2 := h.l2
 have l24 := h.vp.len2
 have hM : modN p lv sp ≤ 1000000 := by unfold modN; split <;> omega
 have := rgCheck_den p h.vp (lv : Int) sp (modN p lv sp) (fun _ => n) g (fun _ => by show n ≤ _; omega) hM
 rw [elOk_valid h hg] at this
 exact this
/-- Rows of balanced residues. -/
abbrev balR (p : PD) (lv : Nat) (g : Nat → Nat → Nat) (i j : Nat) : Int := balI (g i j) (modQ p lv i)
/-- Digits put in, row by row. -/
abbrev putI (V : Nat → Nat → Int) (i j e x : Nat) : Int := if e < i ∨ e = i ∧ x < j then V e x else 0
theorem putI_step {V : Nat → Nat → Int} {i i' j : Nat} {v : Int} (hi : i' = i) (hv : v = V i j) (e x : Nat) : setG (fun e x => [.val (.int .i64 (putI V i j e x))]) i' (setE (fun x => [.val (.int .i64 (putI V i j i' x))]) j 0 [.val (.int .i64 v)]) e x = [.val (.int .i64 (putI V i (j + 1) e x))] := by
 subst hi hv
 unfold setG
 by_cases q : e = i'
 ·subst q
  rw [if_pos rfl]
  unfold setE
  by_cases q2 : x = j
  ·subst q2; simp [putI, setL, takeL, dropL]
  ·have : putI V e (j + 1) e x = putI V e j e x := by unfold putI; by_cases q3 : x < j <;> simp [q3] <;> omega
   simp only [q2, if_false, this]
 ·rw [if_neg q]
  simp [putI, q]
theorem putI_row {V : Nat → Nat → Int} {i n e x : Nat} (hx : x < n) : putI V i n e x = putI V (i + 1) 0 e x := by
 unfold putI
 by_cases q : e < i ∨ e = i
 ·rw [if_pos (by omega), if_pos (by omega)]
 ·rw [if_neg (by omega), if_neg (by omega)]
theorem putI_zero {V : Nat → Nat → Int} (e x : Nat) : putI V 0 0 e x = 0 := if_neg (by omega)
theorem putI_all {V : Nat → Nat → Int} {m e x : Nat} (h : e < m) : putI V m 0 e x = V e x := if_pos (.inl h)
theorem gdasked_ok (p : PD) (n lv : Nat) (hp : PFit p) (hg : Good p.par) (h : Lv p n lv) : Den Try.prog 57 [.fptr true (parL true p), .val (.int .i64 31), .val (.int .i64 (lv : Int)), .val (.func (.func 58) #[] #[])] (.tup [.fptr false [.fptr true (parL true p), .val (.int .i64 31), .val (.int .i64 1)], .val (.bool true)]) := by
 have l1 := h.l1
 have l2 := h.l2
 have := gdasked_den p n hp hg h.n (lv : Int)
 rw [decide_eq_true (show (1 : Int) ≤ (lv : Int) by omega), decide_eq_true (show (lv : Int) ≤ (p.chain.length : Int) by omega)] at this
 exact this
theorem gdDigits0_den (p : PD) (n lv : Nat) (hp : PFit p) (hg : Good p.par) (h : Lv p n lv) (g : Nat → Nat → Nat) (hv : Vg p lv g) : Den Try.prog 45 [.agg (parL true p), .val (.int .i64 31), .agg (elL true lv false lv n g)]
  (.tup [.fz false (lv * 1) 1 (fun i => [.fz false n 1 (fun j => [.val (.int .i64 (balR p lv g i j))])]), .val (.int .i64 0)]) := by
 refine den_intro (fn := Try.f45) rfl rfl rfl rfl rfl ?_
 have h32 := h.n32
 have hN : NatIs p.n n := h.n
 have l1 := h.l1
 have l2 := h.l2
 have l24 := h.vp.len2
 have n4 := h.n4
 refine c_sreg ?_
 refine gor ?_
 refine c_frz 1003 ?_
 refine c_frz 1005 ?_
 refine c_slot 3 (.fptr false (parL true p)) ?_
 refine c_slot 5 (.fptr false (elL true lv false lv n g)) ?_
 refine go ?_
 refine r_callO (gdasked_ok p n lv hp hg h) ?_
 refine go ?_
 refine r_eqS 33 (.val (.bool false)) rfl ?_
 refine r_eqS 34 (.agg (parL true p)) rfl ?_
 refine r_eqS 35 (.agg (elL true lv false lv n g)) rfl ?_
 refine go ?_
 refine r_call (rgCheckV_den p n lv false h g hv) ?_
 refine go ?_
 refine c_no ?_
 refine go ?_
 refine c_mat0 1046 2 Try.t2.size n (fun _ _ => [.val (.int .i64 0)]) ?_
 refine c_up (lv * 1) (fun i => [(49, .val (.int .i64 (i : Nat)))]) (fun i => [(1046, some (.mat 51 2 (lv * 1) i Try.t2.size n (fun _ _ => [.val (.int .i64 0)])))]) (fun i hi => ?_)
 refine go ?_
 refine c_if (fun h3 => ?_) (fun h3 => ?_)
 ·refine go ?_
  refine ⟨h3, ?_⟩
  refine sub_mat 1046 (fun _ _ => [.val (.int .i64 0)]) (putG_snoc (fun _ _ => rfl)) (fun _ _ => rfl) ?_
  exact sub
 ·obtain rfl : i = lv * 1 := by omega
  refine go ?_
  refine c_mat 1046 (fun e x => [.val (.int .i64 (putI (balR p lv g) 0 0 e x))]) (fun e x _ _ => by rw [putI_zero]) (fun _ _ => rfl) ?_
  refine c_up lv (fun i => [(62, .val (.int .i64 (i : Nat)))]) (fun i => [(1046, some (.mat 51 2 (lv * 1) (lv * 1) Try.t2.size n (fun e x => [.val (.int .i64 (putI (balR p lv g) i 0 e x))])))]) (fun i hi => ?_)
  refine go ?_
  refine c_if (fun h4 => ?_) (fun h4 => ?_)
  ·refine go ?_
   refine c_up n (fun j => [(69, .val (.int .i64 (j : Nat)))]) (fun j => [(1046, some (.mat 51 2 (lv * 1) (lv * 1) Try.t2.size n (fun e x => [.val (.int .i64 (putI (balR p lv g) i j e x))])))]) (fun j hj => ?_)
   refine go ?_
   refine c_if (fun h5 => ?_) (fun h5 => ?_)
   ·have hq := hv i j
    have hqe : modQ p lv i = p.chain.getD i 0 := if_pos h4
    have hm := h.vp.mods i (by omega)
    simp only [modOk, Bool.and_eq_true, decide_eq_true_eq] at hm
    have hbx : balR p lv g i j = balI (g i j) (p.chain.getD i 0) := by unfold balR; rw [hqe]
    rw [hqe] at hq
    refine go ?_
    refine c_cut0 [(16, .val (.int .i64 (balI (g i j) (p.chain.getD i 0))))] ?_ ?_
    ·refine c_if (fun h6 => ?_) (fun h6 => ?_)
     ·unfold balI
      rw [if_pos (by omega)]
      refine go ?_
      exact sub
     ·unfold balI
      rw [if_neg (by omega)]
      refine go ?_
      exact sub
    ·have hb : -1073741824 ≤ balI (g i j) (p.chain.getD i 0) ∧ balI (g i j) (p.chain.getD i 0) ≤ 1073741824 := by unfold balI; split <;> omega
     generalize balI (g i j) (p.chain.getD i 0) = X at *
     refine go ?_
     refine r_callL (gddigits_den p X) (r' := .clo 77 [.fptr false [.fptr true (cutL p)], .eptr 1091 0 0 0]) rfl rfl ?_
     refine go ?_
     refine c_rangeM (α := Empty) [1008, 1010, 1012, 1014, 1046, 1091] 1091 (gddigits1_itr p X hb.1 hb.2) 1 rfl (fun _ => [.val (.int .i64 0), .val (.int .i64 X)]) (fun k hk => match k, hk with | 0, _ => rfl)
      (fun k y => [(191, some (.lit 2 [.val (.int .i64 y)])), (146, some (.mat 51 2 (lv * 1) (lv * 1) Try.t2.size n (fun e x => [.val (.int .i64 (putI (balR p lv g) i (j + k) e x))]))), (110, some (.lit 68 [.sl 146 Try.t51.size (lv * 1)])), (112, some (.lit 3 [.val (.int .i64 (i : Int))])), (114, some (.lit 3 [.val (.int .i64 (j : Int))])), (108, some (.lit 85 [.fptr false [.fptr true (parL true p), .val (.int .i64 31), .val (.int .i64 1)]])), (1005, some (.ice 28 1 3 (fun _ => elL true lv false lv n g))), (1003, some (.ice 25 1 7 (fun _ => parL true p)))])
      (fun _ => []) (fun _ => False) (fun _ => .ret) (fun _ => True) trivial (fun k y l hk _ => ?_) (fun y _ => ?_) (fun y => y.elim)
     ·obtain rfl : k = 0 := by omega
      refine go ?_
      refine ⟨trivial, ?_⟩
      refine sub_mat 146 (fun e x => [.val (.int .i64 (putI (balR p lv g) i (j + (0 + 1)) e x))]) (fun e x _ _ => ?_) (fun _ _ => rfl) ?_
      ·exact putI_step (by omega) hbx.symm e x
      ·exact sub
     ·refine go ?_
      refine ⟨h5, ?_⟩
      exact sub
   ·obtain rfl : j = n := by omega
    refine go ?_
    refine ⟨h4, ?_⟩
    refine sub_mat 1046 (fun e x => [.val (.int .i64 (putI (balR p lv g) (i + 1) 0 e x))]) (fun e x _ hx => ?_) (fun _ _ => rfl) ?_
    ·rw [putI_row hx]
    ·exact sub
  ·obtain rfl : i = lv := by omega
   refine go ?_
   refine fin_mat 1046 (fun e x => [.val (.int .i64 (balR p i g e x))]) (fun e x he _ => ?_) (fun _ _ => rfl) ?_
   ·rw [putI_all (by omega)]
   ·refine fin_freezeM 1046 ?_
    refine fin ?_
    exact cv
theorem gdDigits_den (p : PD) (n lv : Nat) (hp : PFit p) (hg : Good p.par) (h : Lv p n lv) (g : Nat → Nat → Nat) (hv : Vg p lv g) : Den Try.prog 45 [.agg (parL true p), .val (.int .i64 31), .agg (elL true lv false lv n g)]
  (.tup [.fz false lv 1 (fun i => [.fz false n 1 (fun j => [.val (.int .i64 (balR p lv g i j))])]), .val (.int .i64 0)]) := by
 have := gdDigits0_den p n lv hp hg h g hv
 rw [Nat.mul_one] at this
 exact this
open Go.RowKit Go.Shelf
attribute [local go_sem] Oper.semAt_some
instance fi20 : FI Try.prog 20 Try.f20 := ⟨Try.func20, Try.call20⟩
instance fi44 : FI Try.prog 44 Try.f44 := ⟨Try.func44, Try.call44⟩
instance fi8 : FI Try.prog 8 Try.f8 := ⟨Try.func8, Try.call8⟩
/-- The rows, one by one. -/
abbrev digR (p : PD) (n lv : Nat) (g : Nat → Nat → Nat) (i : Nat) : D := .fz false n 1 (fun j => [.val (.int .i64 (balR p lv g i j))])
theorem rep_cells {Z0 : Nat → Prop} {W0 : World} {v : Value} {l : List D} (h : Rep (fun o b => o = true ∧ Z0 b) W0 noN v (.fptr true l)) : ∃ (b o : Nat) (us : List Value), v = .pointer (some ⟨b, o, none⟩) ∧ us.length = l.length ∧ ∀ c, c < l.length → W0.cell? ⟨b, o + c, none⟩ = some (us.getD c undef) ∧ (us.getD c undef).oneCell' = true ∧ Rep (fun o b => o = true ∧ Z0 b) W0 noN (us.getD c undef) (dl l c) := by
 cases h with | fptr _ _ b p _ vs ha hr =>
 refine ⟨b, p, (List.range l.length).map vs, rfl, by simp, fun c hc => ?_⟩
 have e : ((List.range l.length).map vs).getD c undef = vs c := by rw [List.getD_eq_getElem?_getD]; simp [hc]
 rw [e]
 exact ⟨(ha c hc).2.1, (ha c hc).2.2, hr c hc⟩
set_option maxRecDepth 100000 in
set_option maxHeartbeats 2000000 in
theorem swdigits1_itr (p : PD) (n lv : Nat) (hp : PFit p) (hg : Good p.par) (h : Lv p n lv) (g : Nat → Nat → Nat) (hv : Vg p lv g) : ItrD Try.prog 44 [.fptr true (parL true p), .fptr true (elL true lv false lv n g)] ((List.range lv).map fun i => [digR p n lv g i]) := fun l C0 Z0 W0 vs J Jx hJ hJx hJ0 hvs hY => by
 obtain ⟨v1, v2, rfl⟩ : ∃ v1 v2, vs = [v1, v2] := by
  have := hvs.1
  match vs, this with
  | [a, b], _ => exact ⟨a, b, rfl⟩
 obtain ⟨b1, o1, us, rfl, hl1, h1⟩ := rep_cells (hvs.2 0 (by simp))
 obtain ⟨b2, o2, ws, rfl, hl2, h2⟩ := rep_cells (hvs.2 1 (by simp))
 match us, hl1, ws, hl2 with
 | [a0, a1, a2, a3, a4, a5, a6], _, [e0, e1, e2], _ =>
 have ra := fun c (hc : c < 7) => h1 c hc
 have rb := fun c (hc : c < 3) => h2 c hc
 have c0 := (ra 0 (by omega)).1
 have c1 := (ra 1 (by omega)).1
 have c2 := (ra 2 (by omega)).1
 have c3 := (ra 3 (by omega)).1
 have c4 := (ra 4 (by omega)).1
 have c5 := (ra 5 (by omega)).1
 have c6 := (ra 6 (by omega)).1
 have d0 := (rb 0 (by omega)).1
 have d1 := (rb 1 (by omega)).1
 have d2 := (rb 2 (by omega)).1
 simp only [Nat.add_zero, List.getD_cons_zero, List.getD_cons_succ] at c0 c1 c2 c3 c4 c5 c6 d0 d1 d2
 have hlt := (hJ.lt hJ0)
 have HD := Lib.hid (gdDigits_den p n lv hp hg h g hv Z0 W0 noN [.agg #[a0, a1, a2, a3, a4, a5, a6], .int .i64 31, .agg #[e0, e1, e2]] hlt.2 (fun _ _ => rfl) ⟨fun k B hm => by simp at hm, fun k k' B B' b hm => by simp at hm⟩
  ⟨rfl, fun j hj => match j, hj with
   | 0, _ => .agg _ [a0, a1, a2, a3, a4, a5, a6] _ rfl (fun j hj => (ra j hj).2.1) (fun j hj => (ra j hj).2.2)
   | 1, _ => .val _ _
   | 2, _ => .agg _ [e0, e1, e2] _ rfl (fun j hj => (rb j hj).2.1) (fun j hj => (rb j hj).2.2)⟩)
 have HJ := Lib.hid hJ
 have HY := Lib.hid hY
 clear hJ hY ra rb h1 h2 hvs
 refine callsIn_of_wp Try.func44 rfl trivial ?_ rfl
 simp only [Try.ntmps44, List.size_toArray, List.length_cons, List.length_nil, Nat.reduceAdd, Nat.reduceSub, Array.replicate_succ, Array.replicate_zero, List.push_toArray, List.append_toArray, List.nil_append, List.cons_append]
 gi_wp2
 refine ⟨trivial, rfl, (callsIn_wide.2 HD.out).mono ?_⟩
 rintro e W1 ⟨v, i1, Zn, rfl, hkept, hzn, _, _, _, _, _, hrep⟩
 clear HD c0 c1 c2 c3 c4 c5 c6 d0 d1 d2
 have l1 := h.l1
 obtain ⟨ao, cap, rv, rfl, hcap, hcap2, hcells⟩ : ∃ (ao : Addr) (cap : Nat) (rv : Nat → Value), v = .tuple #[.slice (some ao) lv cap, .int .i64 0] ∧ lv ≤ cap ∧ cap ≤ 9223372036854775807 ∧ ∀ e, e < lv → ao = ⟨ao.block, ao.off, none⟩ ∧ Zn ao.block ∧ W1.cell? ⟨ao.block, ao.off + e, none⟩ = some (rv e) ∧ Rep (Z2 Z0 Zn) W1 noN (rv e) (digR p n lv g e) := by
  cases hrep with | tup _ vs _ hl hr =>
  match vs, hl with
  | [s, t], _ =>
   have r0 : Rep (Z2 Z0 Zn) W1 i1 s (.fz false lv 1 (fun i => [digR p n lv g i])) := hr 0 (by simp)
   have r1 : Rep (Z2 Z0 Zn) W1 i1 t (.val (.int .i64 0)) := hr 1 (by simp)
   obtain rfl := rep_val r1
   cases r0 with | fz _ _ ao _ cap _ _ us q1 q2 _ ha hb =>
   obtain ⟨b, o, e1, e2, _⟩ := ha 0 0 (by omega) (by omega)
   subst e1
   refine ⟨⟨b, o, none⟩, cap, fun e => us e 0, rfl, q1, q2, fun e he => ⟨rfl, e2, ?_, hb e 0 he (by omega)⟩⟩
   obtain ⟨b', o', e1', _, e3', _⟩ := ha e 0 he (by omega)
   cases e1'
   simpa using e3'
 obtain ⟨ab, aof, asp⟩ := ao
 obtain rfl : asp = none := by have := (hcells 0 (by omega)).1; cases this; rfl
 have hzb : Zn ab := (hcells 0 (by omega)).2.1
 have hkb : ∀ b, b < W0.heap.size → W1.heap[b]? = W0.heap[b]? := fun b hb => hkept.block b hb (fun ⟨_, _, hk, _⟩ => by simp [Hs.keys] at hk)
 have hJ1 : J 0 C0 Z0 W1 := HJ.out.stable hJ0 ⟨hkept.os, hkept.tape, hkept.output, hkept.size⟩ (fun b hb _ => hkb b hb)
 have hs1 := hkept.size
 have round : ∀ k C Z W, k < lv → J k C Z W → (∀ b, Z0 b ∨ Zn b → W.heap[b]? = W1.heap[b]?) → (∀ b, Z0 b → Z b) → (∀ b, Zn b → ¬ C b) → W1.heap.size ≤ W.heap.size → YieldAt (Fw none) 0 Try.prog l #[rv k] W fun e W' =>
   (e = .returned (.bool true) ∧ ∃ C' Z', J (k + 1) C' Z' W' ∧ (∀ b, Z0 b ∨ Zn b → W'.heap[b]? = W1.heap[b]?) ∧ (∀ b, Z0 b → Z' b) ∧ (∀ b, Zn b → ¬ C' b) ∧ W1.heap.size ≤ W'.heap.size) ∨ (e = .returned (.bool false) ∧ ∃ k' C' Z', Jx k' C' Z' W') := fun k C Z W hk hJk hm hz hc hsz => by
  have hJ := HJ.out
  have hlk := hJ.lt hJk
  refine (HY.out k C Z W [digR p n lv g k] [rv k] Zn (by simp [hk]) hJk (fun b hb => ⟨(hzn b hb).1, by have := (hzn b hb).2; omega, hc b hb⟩) ⟨rfl, fun j hj => ?_⟩ (by omega)).mono ?_
  ·obtain rfl : j = 0 := by simpa using hj
   refine (hcells k hk).2.2.2.mem (fun o b hb => ?_)
   cases o with
   | false => exact ⟨hb, hm b (.inr hb)⟩
   | true =>
    rcases hb with q | q
    ·exact ⟨.inl (hz b q), hm b (.inl q)⟩
    ·exact ⟨.inr q, hm b (.inr q)⟩
  ·rintro e W' (⟨rfl, C', Z', q1, q2, q3, q4⟩ | q)
   ·refine .inl ⟨rfl, C', Z', q1, fun b hb => ?_, fun b hb => q4 b (.inl (hz b hb)), fun b hb hcb => ?_, Nat.le_trans hsz q2.size⟩
    ·have hlt : b < W.heap.size := by
      rcases hb with q | q
      ·exact hlk.2 b (hz b q)
      ·have := (hzn b q).2; omega
     refine (q2.block b hlt (fun hcb => ?_)).trans (hm b hb)
     rcases hb with q | q
     ·exact (hlk.1 b hcb).2 (hz b q)
     ·exact hc b q hcb
    ·rcases q3 b hcb with q | q
     ·exact hc b hb q
     ·have := (hzn b hb).2; omega
   ·exact .inr q
 have HR := Lib.hid round
 clear round hrep HY
 gi_wp2
 gi_loopw [18] (fun i wr => ∃ (k : Nat) (C Z : Nat → Prop), k ≤ lv ∧ i = .int .i64 k ∧ J k C Z wr ∧ (∀ b, Z0 b ∨ Zn b → wr.heap[b]? = W1.heap[b]?) ∧ (∀ b, Z0 b → Z b) ∧ (∀ b, Zn b → ¬ C b) ∧ W1.heap.size ≤ wr.heap.size)
  (fun i _ => lv - (intOf i).toNat)
 case atStart => exact ⟨0, C0, Z0, Nat.zero_le _, rfl, hJ1, fun _ _ => rfl, fun _ h => h, fun b hb hc => by have := (hlt.1 b hc).1; have := (hzn b hb).1; omega, Nat.le_refl _⟩
 case round =>
  obtain ⟨k, C, Z, hk, rfl, hJs, hm, hzz, hnc, hsz⟩ := hrel
  by_cases hlt : k < lv
  ·obtain ⟨fn, tmps, assign, body, hy, hR⟩ := HR.out k C Z wr hlt hJs hm hzz hnc hsz
   have hcx : wr.cell? ⟨ab, aof + k, none⟩ = some (rv k) := (World.cell?_of_block (hm ab (.inr hzb))).trans (hcells k hlt).2.2.1
   gi_wp2
   refine ⟨rfl, hR.mono ?_⟩
   rintro e W3 (⟨rfl, C', Z', hJ3, q1, q2, q3, q4⟩ | ⟨rfl, hJx3⟩)
   ·gi_wp2
    go_roundw
    case rel => exact ⟨k + 1, C', Z', by omega, by simp, hJ3, q1, q2, q3, q4⟩
    case measure => simp [intOf]; omega
   ·gi_wp2
    refine bodyPost_ret (results_none rfl _ _ _) rfl ?_
    exact ⟨⟨_, rfl⟩, .inr hJx3⟩
  ·obtain rfl : k = lv := by omega
   gi_wp2
   go_end0
   exact ⟨⟨_, rfl⟩, .inl ⟨C, Z, by simpa using hJs⟩⟩
open Go.RowKit
set_option maxRecDepth 20000
set_option maxHeartbeats 4000000
instance (p : PD) : NewDL (parL false p) := by unfold parL u32sD; infer_instance
/-- Four primes: the small parameters. -/
def p4 : PD := ⟨4, 17, 1, [2147481209], 2147483249, 4, 2⟩
theorem p4_good : Good p4.par := good4
theorem p4_fit : PFit p4 := ⟨by decide, by decide, by decide, by decide, by decide, fun i hi => by
 have : i = 0 := by simp [p4] at hi; omega
 subst this; decide, by decide, by decide, by decide, by decide⟩
theorem small13_den : Den Try.prog 17 [.val (.int .i64 1)] (.agg (parL false p4)) := by
 refine den_intro (fn := Try.f17) rfl rfl rfl rfl rfl ?_
 refine go ?_
 refine r_call (r12default_den 4 17 1 17 2147483249 1 [2147481209] (by omega) (by omega) (by omega) (by omega) (by omega) (by omega) (plainV_pos plain417) (by omega) (by omega) (by omega) (by omega) chain4 rfl) ?_
 refine go ?_
 refine fin ?_
 exact cv
theorem p4_n : p4.n = ((4 : Nat) : Int) := rfl
open Go.RowKit
set_option maxRecDepth 20000
set_option maxHeartbeats 4000000
/-- A function is a closure that captured nothing. -/
instance (f : FuncId) : Cvt (.val (.func (.func f) #[] #[])) (.clo f []) := ⟨fun _ hv => by
 cases hv
 exact .clo _ f [] [] rfl (fun j hj => by simp at hj)⟩
theorem CvV.old {lend : Bool} {L ns : List Nat} {H : Nat → Option Box} {d : D} (h : d.free (fun _ => false) = true) : CvV lend L ns H d d := .id h
theorem ArgVL.old {lend : Bool} {L ns ks : List Nat} {ρ : Nat → Nat} {H : Nat → Option Box} : ∀ (l : List D), D.free.freeL (fun _ => false) l = true → ArgVL lend L ns ks ρ H l l
 | [], _ => .nil
 | d :: l, h => by
  simp only [D.free.freeL, Bool.and_eq_true] at h
  exact .cons (.cv (.id h.1)) (ArgVL.old l h.2)
open Go.RowKit
set_option maxRecDepth 20000
set_option maxHeartbeats 4000000
open Go.RowKit
set_option maxRecDepth 20000
set_option maxHeartbeats 4000000
open Go.RowKit
set_option maxRecDepth 20000
set_option maxHeartbeats 4000000
instance fi26 : FI Try.prog 26 Try.f26 := ⟨Try.func26, Try.call26⟩
theorem Cv.less {p : PD} {n lv ex lv' : Nat} (h : Cv p n lv ex) (h1 : 1 ≤ lv') (hl : lv' ≤ lv) : Cv p n lv' ex := ⟨h.fit, ⟨h.st.good, by omega, by have := h.st.l2; omega, h.st.e1, h.st.e2⟩, h.n⟩
open Go.RowKit
set_option maxRecDepth 20000
set_option maxHeartbeats 4000000
open Go.RowKit
set_option maxRecDepth 20000
set_option maxHeartbeats 4000000
theorem FrD.el {k n : Nat} {F : Nat → List D} (lv : Nat) (sp : Bool) : FrD k n F (.agg [.val (.int .i64 (lv : Int)), .val (.bool sp), .sl k 1 n]) (.agg [.val (.int .i64 (lv : Int)), .val (.bool sp), .fz false n 1 F]) := .agg1 (.id rfl) (.agg1 (.id rfl) (.agg1 (.sl (Nat.le_refl _)) .agg0))
open Go.RowKit
set_option maxRecDepth 20000
set_option maxHeartbeats 4000000
open Go.RowKit
set_option maxRecDepth 20000
set_option maxHeartbeats 4000000
open Go.RowKit
set_option maxRecDepth 20000
set_option maxHeartbeats 4000000
open Go.RowKit
set_option maxRecDepth 20000
set_option maxHeartbeats 4000000
open Go.RowKit
set_option maxRecDepth 20000
set_option maxHeartbeats 4000000
open Go.RowKit
set_option maxRecDepth 20000
set_option maxHeartbeats 4000000
end Go.Proofs.Ytmjildbdkecolaa
