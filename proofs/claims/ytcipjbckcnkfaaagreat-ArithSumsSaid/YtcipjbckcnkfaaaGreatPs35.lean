/- Ciphertexts: their data, their place in memory; which are valid; levels and exponents, plain polynomials. (Printed by genci.py.) -/
import Derived.Test.YtcipjbckcnkfaaaGreatPs15
import Derived.Test.YtcipjbckcnkfaaaGreatPs03
import Derived.Test.YtcipjbckcnkfaaaGreatPs34
import Derived.Test.YtcipjbckcnkfaaaGreatPs33
set_option linter.unusedSimpArgs false
set_option linter.unusedVariables false
namespace Go.Proofs.YtcipjbckcnkfaaaGreat
open Go.RowKit Go.Shelf

/-- A ciphertext. -/
structure Ci where
  level : Int
  exponent : Int
  parts : List El
def Ci.part (C : Ci) (i : Nat) : El := C.parts.getD i ⟨0, false, []⟩
/-- Its value. -/
abbrev Ci.val (C : Ci) (ao : Option Addr) (c : Nat) : Value := .agg #[.int .i64 C.level, .int .i64 C.exponent, .slice ao C.parts.length c]
/-- An element lies in three cells. -/
def ElAt (w : World) (b o : Nat) (E : El) : Prop := ∃ ro rc, w.cell? ⟨b, o, none⟩ = some (.int .i64 E.level) ∧ w.cell? ⟨b, o + 1, none⟩ = some (.bool E.special) ∧ w.cell? ⟨b, o + 2, none⟩ = some (.slice ro E.rows.length rc) ∧ RdR w ro E.rows ∧ E.rows.length ≤ rc ∧ rc ≤ 9223372036854775807
theorem ElAt.below {w w' : World} {b o : Nat} {E : El} (h : ElAt w b o E) (hb : Below w.heap.size w w') : ElAt w' b o E := by
  obtain ⟨ro, rc, h1, h2, h3, h4, h5⟩ := h
  have t : ∀ {a : Addr} {v : Value}, w.cell? a = some v → w'.cell? a = some v := fun {a v} h => (hb.cell (World.block_lt_of_cell? w _ h)).trans h
  exact ⟨ro, rc, t h1, t h2, t h3, h4.below hb, h5⟩
/-- Elements in memory, one behind the other. -/
def RdE (w : World) (ao : Option Addr) (l : List El) : Prop :=
  ∀ k, k < l.length → ∃ b off, ao = some ⟨b, off, none⟩ ∧ ∀ j, j < l.length → ElAt w b (off + j * 3) (l.getD j ⟨0, false, []⟩)
theorem RdE.nil (w : World) (ao : Option Addr) : RdE w ao [] := fun k hk => by simp at hk
theorem RdE.below {w w' : World} {ao : Option Addr} {l : List El} (h : RdE w ao l) (hb : Below w.heap.size w w') : RdE w' ao l := fun k hk => by
  obtain ⟨b, off, e, hc⟩ := h k hk
  exact ⟨b, off, e, fun j hj => (hc j hj).below hb⟩
/-- An element whose numbers fit. -/
structure ElFit (E : El) : Prop where
  l1 : -9223372036854775808 ≤ E.level
  l2 : E.level ≤ 9223372036854775807
  len : E.rows.length ≤ 9223372036854775807
  rows : ∀ i, i < E.rows.length → (E.row i).length ≤ 9223372036854775807 ∧ ∀ j, j < (E.row i).length → E.get i j ≤ 4294967295
theorem ElFit.elIn {w : World} {E : El} {ao : Option Addr} {c : Nat} (h : ElFit E) (hr : RdR w ao E.rows) : ElIn w E ao c := ⟨hr, h.l1, h.l2, h.len, h.rows⟩
/-- A ciphertext that came in. -/
structure CiIn (w : World) (C : Ci) (ao : Option Addr) (c : Nat) : Prop where
  rd : RdE w ao C.parts
  l1 : -9223372036854775808 ≤ C.level
  l2 : C.level ≤ 9223372036854775807
  e1 : -9223372036854775808 ≤ C.exponent
  e2 : C.exponent ≤ 9223372036854775807
  len : C.parts.length ≤ 9223372036854775807
  room : C.parts.length ≤ c
  room2 : c ≤ 9223372036854775807
  fit : ∀ i, i < C.parts.length → ElFit (C.part i)
theorem CiIn.below {w w' : World} {C : Ci} {ao : Option Addr} {c : Nat} (h : CiIn w C ao c) (hb : Below w.heap.size w w') : CiIn w' C ao c := { h with rd := h.rd.below hb }
/-- A level and an exponent of good parameters. -/
def StateOk (p : Par) (level exponent : Int) : Prop := Good p ∧ 1 ≤ level ∧ level ≤ (p.chain.length : Int) ∧ 1 ≤ exponent ∧ exponent ≤ p.power
/-- A part is valid. -/
def PartOk (p : Par) (level : Int) (E : El) : Prop := ElOk p E ∧ E.level = level ∧ E.special = false
/-- A ciphertext is valid. -/
def CiOk (p : Par) (C : Ci) : Prop := StateOk p C.level C.exponent ∧ (C.parts.length = 2 ∨ C.parts.length = 3) ∧ ∀ i, i < C.parts.length → PartOk p C.level (C.part i)
theorem Good.plain {p : Par} (h : Good p) : 3 ≤ p.prime ∧ p.prime < 65536 ∧ 1 ≤ p.power ∧ p.prime ^ p.power.toNat ≤ 2147483647 := by
  obtain ⟨_, _, _, _, _, _, h, _⟩ := h
  exact ⟨h.1, h.2.1, h.2.2.2.2.1, h.2.2.2.2.2⟩
theorem pow_le {p : Par} (h : Good p) {e : Nat} (he : (e : Int) ≤ p.power) : p.prime ^ e ≤ 2147483647 := Nat.le_trans (Nat.pow_le_pow_right (by have := h.plain.1; omega) (by omega)) h.plain.2.2.2
theorem pow_odd {p : Par} (h : Good p) (e : Nat) : p.prime ^ e % 2 = 1 := by
  obtain ⟨h4, _, _, _, _, _, h, _⟩ := h
  have h1 : p.prime % (2 * p.n.toNat) = 1 := h.2.2.2.1
  have h2 : p.prime % 2 = 1 := by
    have e2 : p.prime % 2 = p.prime % (2 * p.n.toNat) % 2 := (Nat.mod_mod_of_dvd _ ⟨p.n.toNat, rfl⟩).symm
    rw [e2, h1]
  induction e with
  | zero => rfl
  | succ k ih => rw [Nat.pow_succ, Nat.mul_mod, ih, h2]
/-- A plain polynomial of a modulus. -/
def PolyOk (p : Par) (e : Nat) (l : List Int) : Prop := (∀ j, j < l.length → -(((p.prime ^ e - 1) / 2 : Nat) : Int) ≤ l.getD j 0 ∧ l.getD j 0 ≤ (((p.prime ^ e - 1) / 2 : Nat) : Int)) ∧ (l.length : Int) = p.n

set_option maxHeartbeats 3200000 in
theorem ciState_walk (p : Par) (ca : Option Addr) (cc : Nat) (level exponent : Int) (w : World) (hin : ParIn w p ca cc) :
    Calls Tryz.prog 64 #[.agg (p.cells ca cc), .int .i64 level, .int .i64 exponent] w fun e w' => e = .returned (.bool (tr (StateOk p level exponent))) ∧ Below w.heap.size w w' := by
  have H1 := Lib.hid (fun (w' : World) (hb : Below w.heap.size w w') => pcheck_walk p ca cc w' (hin.below hb))
  have hlen := hin.len
  by_cases hg : Good p
  case neg =>
    rw [tr_neg (fun h => hg h.1)]
    rw [chk_neg hg] at H1
    unfold Par.cells at *
    clear hin hg
    go_enter Tryz.func64, Tryz.ntmps64
    go_wp2_with fail
    (with_reducible refine Calls.mono (H1.out _ (by with_reducible (repeat first | exact bR _ _ | assumption | exact ho (by assumption) | refine bD ?_ | refine bN ?_ _ | refine bA ?_ ?_ _ | refine bS ?_ ?_ _) <;> (first | omega | (simp <;> omega)))) ?_)
    rintro e w2 ⟨rfl, hb⟩
    obtain ⟨hc_w2, hf_w2⟩ := bcell hb
    have HB_w2 : Hid (Below w.heap.size w w2) := Lib.hid (below_step (by with_reducible (repeat first | exact bR _ _ | assumption | exact ho (by assumption) | refine bD ?_ | refine bN ?_ _ | refine bA ?_ ?_ _ | refine bS ?_ ?_ _) <;> (first | omega | (simp <;> omega))) hb)
    have hs_w2 := hb.size
    try simp only [World.size_alloc, sz_set, sz_drew, sz_drewN] at hs_w2
    have q0_w2 : w.heap.size < w2.heap.size := by omega
    have HK_w2 := Lib.hid hb
    clear hb
    go_wp2
    go_ret
    exact ⟨rfl, (by with_reducible (repeat first | exact bR _ _ | assumption | exact ho (by assumption) | refine bD ?_ | refine bN ?_ _ | refine bA ?_ ?_ _ | refine bS ?_ ?_ _) <;> (first | omega | (simp <;> omega)))⟩
  rw [chk_pos hg] at H1
  obtain ⟨n, hn⟩ : ∃ n, p.chain.length = n := ⟨_, rfl⟩
  have hT : tr (StateOk p level exponent) = tr (1 ≤ level ∧ level ≤ (n : Int) ∧ 1 ≤ exponent ∧ exponent ≤ p.power) := tr_iff ⟨fun h => by rw [← hn]; exact h.2, fun h => ⟨hg, by rw [hn]; exact h⟩⟩
  rw [hT]
  clear hT
  unfold Par.cells at *
  rw [hn] at H1 ⊢
  clear hin hg hn
  by_cases h1 : 1 ≤ level
  case' neg =>
    rw [tr_neg (fun h => h1 h.1)]
    have g : decide (1 ≤ level) = false := decide_eq_false h1
  case' pos =>
    have g : decide (1 ≤ level) = true := decide_eq_true h1
    by_cases h2 : level ≤ (n : Int)
    case' neg =>
      rw [tr_neg (fun h => h2 h.2.1)]
      have g2 : decide (level ≤ (n : Int)) = false := decide_eq_false h2
    case' pos =>
      have g2 : decide (level ≤ (n : Int)) = true := decide_eq_true h2
      by_cases h3 : 1 ≤ exponent
      case' neg =>
        rw [tr_neg (fun h => h3 h.2.2.1)]
        have g3 : decide (1 ≤ exponent) = false := decide_eq_false h3
      case' pos =>
        have g3 : decide (1 ≤ exponent) = true := decide_eq_true h3
        by_cases h4 : exponent ≤ p.power
        case' neg =>
          rw [tr_neg (fun h => h4 h.2.2.2)]
          have g4 : decide (exponent ≤ p.power) = false := decide_eq_false h4
        case' pos =>
          rw [tr_pos ⟨h1, h2, h3, h4⟩]
          have g4 : decide (exponent ≤ p.power) = true := decide_eq_true h4
  all_goals (
    go_enter Tryz.func64, Tryz.ntmps64
    go_wp2_with fail
    (with_reducible refine Calls.mono (H1.out _ (by with_reducible (repeat first | exact bR _ _ | assumption | exact ho (by assumption) | refine bD ?_ | refine bN ?_ _ | refine bA ?_ ?_ _ | refine bS ?_ ?_ _) <;> (first | omega | (simp <;> omega)))) ?_)
    rintro e w2 ⟨rfl, hb⟩
    obtain ⟨hc_w2, hf_w2⟩ := bcell hb
    have HB_w2 : Hid (Below w.heap.size w w2) := Lib.hid (below_step (by with_reducible (repeat first | exact bR _ _ | assumption | exact ho (by assumption) | refine bD ?_ | refine bN ?_ _ | refine bA ?_ ?_ _ | refine bS ?_ ?_ _) <;> (first | omega | (simp <;> omega))) hb)
    have hs_w2 := hb.size
    try simp only [World.size_alloc, sz_set, sz_drew, sz_drewN] at hs_w2
    have q0_w2 : w.heap.size < w2.heap.size := by omega
    have HK_w2 := Lib.hid hb
    clear hb
    go_wp2
    go_ret
    exact ⟨rfl, (by with_reducible (repeat first | exact bR _ _ | assumption | exact ho (by assumption) | refine bD ?_ | refine bN ?_ _ | refine bA ?_ ?_ _ | refine bS ?_ ?_ _) <;> (first | omega | (simp <;> omega)))⟩)

set_option maxHeartbeats 3200000 in
theorem ciModulus_walk (p : Par) (ca : Option Addr) (cc : Nat) (e : Nat) (w : World) (hg : Good p) (he : (e : Int) ≤ p.power) :
    Calls Tryz.prog 93 #[.agg (p.cells ca cc), .int .i64 e] w fun e' w' => e' = .returned (.int .i64 ((p.prime ^ e : Nat) : Int)) ∧ Below w.heap.size w w' := by
  have hpl := hg.plain
  have hle : e ≤ 2147483647 := by
    have h1 := pow_le hg he
    have h2 : e < p.prime ^ e := Nat.lt_pow_self (by omega)
    omega
  have HP : Hid (∀ k, k ≤ e → p.prime ^ k ≤ 2147483647) := Lib.hid (fun k hk => pow_le hg (by omega))
  unfold Par.cells
  obtain ⟨a, ha⟩ : ∃ a, p.prime = a := ⟨_, rfl⟩
  rw [ha] at HP hpl ⊢
  have ha2 := hpl.2.1
  clear hg hpl ha
  go_enter Tryz.func93, Tryz.ntmps93
  go_wp2
  go_loopg [5, 7] e (fun fu v5 v7 wr => ∃ k : Nat, v7 = .int .i64 k ∧ k ≤ e ∧ e - k ≤ fu ∧ v5 = .int .i64 ((a ^ k : Nat) : Int) ∧ Hid (wr = w.alloc (.cells (Par.cells ⟨p.n, a, p.power, p.chain, p.special, p.weight, p.err⟩ ca cc) 25)))
  case atStart => exact ⟨0, rfl, by omega, by omega, rfl, Lib.hid rfl⟩
  case round =>
    obtain ⟨k, rfl, hk, hfu, rfl, HW⟩ := hrel
    have hc : wr.cell? ⟨w.heap.size, 1, none⟩ = some (.int .u32 (a : Int)) := by rw [HW.out]; exact (Blk.newAt rfl).cell 1
    by_cases hkl : k < e
    · obtain ⟨x, hx⟩ : ∃ x, a ^ k = x := ⟨_, rfl⟩
      have hxs : a ^ (k + 1) = x * a := by rw [Nat.pow_succ, hx]
      have hxb := HP.out (k + 1) (by omega)
      have hxb0 := HP.out k (by omega)
      rw [hxs] at hxb
      rw [hx] at hxb0 ⊢
      obtain ⟨y, hy⟩ : ∃ y, x * a = y := ⟨_, rfl⟩
      rw [hy] at hxb hxs
      have hyi : (x : Int) * (a : Int) = (y : Int) := by rw [← hy]; simp
      have hw1 : IntKind.i64.wrap (a : Int) = (a : Int) := IntWalk.i64_in _ (by omega)
      have hw2 : IntKind.i64.wrap (y : Int) = (y : Int) := IntWalk.i64_in _ (by omega)
      have HX := Lib.hid hxs
      clear hxs hx hy
      go_wp2
      go_roundg (e - (k + 1))
      case measure => omega
      case rel => exact ⟨k + 1, by go_num, by omega, Nat.le_refl _, by rw [HX.out], HW⟩
    · obtain rfl : k = e := by omega
      go_wp2
      go_ret
      exact ⟨rfl, by rw [HW.out]; exact (Below.refl _ w).alloc (Nat.le_refl _) _⟩

set_option maxHeartbeats 6400000 in
theorem ciPlain_walk (p : Par) (ca : Option Addr) (cc : Nat) (e : Nat) (l : List Int) (al : Option Addr) (cl : Nat) (w : World) (hg : Good p) (he : (e : Int) ≤ p.power) (hl : l.length ≤ 9223372036854775807) (hrd : RdI w al l) :
    Calls Tryz.prog 65 #[.agg (p.cells ca cc), .slice al l.length cl, .int .i64 e] w fun e' w' => e' = .returned (.bool (tr (PolyOk p e l))) ∧ Below w.heap.size w w' := by
  have H1 := Lib.hid (fun (w' : World) => ciModulus_walk p ca cc e w' hg he)
  have hle := pow_le hg he
  have hpos : 1 ≤ p.prime ^ e := Nat.pow_pos (by have := hg.plain.1; omega)
  have hodd := pow_odd hg e
  have hn4 := hg.n
  obtain ⟨t, ht⟩ : ∃ t, p.prime ^ e = t := ⟨_, rfl⟩
  rw [ht] at H1 hle hpos hodd
  obtain ⟨hf, hhf⟩ : ∃ hf, (t - 1) / 2 = hf := ⟨_, rfl⟩
  have hti : (t : Int) - 1 = ((2 * hf : Nat) : Int) := by omega
  have hq1 : ((2 * hf : Nat) : Int) / 2 = (hf : Int) := by omega
  have hq2 : ((2 * hf : Nat) : Int).tdiv 2 = (hf : Int) := by rw [Int.tdiv_eq_ediv_of_nonneg (by omega)]; exact hq1
  have hfb : hf ≤ 2147483647 := by omega
  obtain ⟨n, hn⟩ : ∃ n, l.length = n := ⟨_, rfl⟩
  have HOK : Hid (PolyOk p e l ↔ (∀ j, j < n → -(hf : Int) ≤ l.getD j 0 ∧ l.getD j 0 ≤ (hf : Int)) ∧ (n : Int) = p.n) := Lib.hid (by unfold PolyOk; rw [ht, hhf, hn])
  have HRD := Lib.hid hrd
  have HL := Lib.hid hn
  unfold Par.cells at *
  rw [hn] at hl ⊢
  obtain ⟨th, hth⟩ : ∃ th : Nat, 2 * hf = th := ⟨_, rfl⟩
  rw [hth] at hti hq1 hq2
  clear hg he hrd ht hhf hn hodd hth
  go_enter Tryz.func65, Tryz.ntmps65
  go_wp2_with fail
  (with_reducible refine Calls.mono (H1.out _) ?_)
  rintro e w2 ⟨rfl, hb⟩
  obtain ⟨hc_w2, hf_w2⟩ := bcell hb
  have HB_w2 : Hid (Below w.heap.size w w2) := Lib.hid (below_step (by with_reducible (repeat first | exact bR _ _ | assumption | exact ho (by assumption) | refine bD ?_ | refine bN ?_ _ | refine bA ?_ ?_ _ | refine bS ?_ ?_ _) <;> (first | omega | (simp <;> omega))) hb)
  have hs_w2 := hb.size
  try simp only [World.size_alloc, sz_set, sz_drew, sz_drewN] at hs_w2
  have q0_w2 : w.heap.size < w2.heap.size := by omega
  have HK_w2 := Lib.hid hb
  clear hb
  go_wp2
  clear hti hq1 hq2
  go_loopg [17] n (fun fu v17 wr => ∃ k : Nat, v17 = .int .i64 k ∧ k ≤ n ∧ n - k ≤ fu ∧ Hid (∀ j, j < k → -(hf : Int) ≤ l.getD j 0 ∧ l.getD j 0 ≤ (hf : Int)) ∧ w2 = wr)
  case atStart => exact ⟨0, rfl, by omega, by omega, Lib.hid (fun j hj => by omega), rfl⟩
  case round =>
    obtain ⟨k, rfl, hk, hfu, HK, rfl⟩ := hrel
    by_cases hkl : k < n
    · obtain ⟨b1, o1, rfl, hcc⟩ := (HRD.out.below HB_w2.out) k (by rw [HL.out]; exact hkl)
      have c1 := hcc k (by rw [HL.out]; exact hkl)
      obtain ⟨x, hx⟩ : ∃ x, l.getD k 0 = x := ⟨_, rfl⟩
      rw [hx] at c1
      have HX := Lib.hid hx
      
      have i0 : (0 : Int) ≤ (k : Int) := Int.natCast_nonneg _
      have i1 : (k : Int) < (n : Int) := by omega
      clear hcc hx
      by_cases g1 : x < -(hf : Int)
      · have g1' : decide (x < -(hf : Int)) = true := decide_eq_true g1
        go_wp2
        go_ret
        exact ⟨congrArg (fun b => Ending.returned (Value.bool b)) (tr_neg (fun h => by have := ((HOK.out.1 h).1 k hkl).1; rw [HX.out] at this; omega)).symm, (by with_reducible (repeat first | exact bR _ _ | assumption | exact ho (by assumption) | refine bD ?_ | refine bN ?_ _ | refine bA ?_ ?_ _ | refine bS ?_ ?_ _) <;> (first | omega | (simp <;> omega)))⟩
      have g1' : decide (x < -(hf : Int)) = false := decide_eq_false g1
      by_cases g2 : (hf : Int) < x
      · have g2' : decide ((hf : Int) < x) = true := decide_eq_true g2
        go_wp2
        go_ret
        exact ⟨congrArg (fun b => Ending.returned (Value.bool b)) (tr_neg (fun h => by have := ((HOK.out.1 h).1 k hkl).2; rw [HX.out] at this; omega)).symm, (by with_reducible (repeat first | exact bR _ _ | assumption | exact ho (by assumption) | refine bD ?_ | refine bN ?_ _ | refine bA ?_ ?_ _ | refine bS ?_ ?_ _) <;> (first | omega | (simp <;> omega)))⟩
      have g2' : decide ((hf : Int) < x) = false := decide_eq_false g2
      go_wp2
      go_roundg (n - (k + 1))
      case measure => omega
      case rel =>
        refine ⟨k + 1, by go_num, by omega, Nat.le_refl _, Lib.hid fun j hj => ?_, rfl⟩
        rcases Nat.lt_or_eq_of_le (Nat.le_of_lt_succ hj) with h | h
        · exact HK.out j h
        · subst h; rw [HX.out]; exact ⟨by omega, by omega⟩
    · obtain rfl : k = n := by omega
      have g3 : tr (PolyOk p e l) = ((k : Int) == p.n) := by
        by_cases h : (k : Int) = p.n
        · rw [tr_pos (HOK.out.2 ⟨HK.out, h⟩)]; simp [h]
        · rw [tr_neg (fun k => h (HOK.out.1 k).2)]; simp [h]
      have G3 := Lib.hid g3
      clear g3
      go_wp2
      go_ret
      exact ⟨congrArg (fun b => Ending.returned (Value.bool b)) G3.out.symm, (by with_reducible (repeat first | exact bR _ _ | assumption | exact ho (by assumption) | refine bD ?_ | refine bN ?_ _ | refine bA ?_ ?_ _ | refine bS ?_ ?_ _) <;> (first | omega | (simp <;> omega)))⟩

set_option maxHeartbeats 3200000 in
theorem r14State_walk (p : Par) (ca : Option Addr) (cc : Nat) (level exponent : Int) (w : World) (hin : ParIn w p ca cc) :
    Calls Tryz.prog 53 #[.agg (p.cells ca cc), .int .i64 level, .int .i64 exponent] w fun e w' => e = .returned (.bool (tr (StateOk p level exponent))) ∧ Below w.heap.size w w' := by
  have H1 := Lib.hid (fun (w' : World) (hb : Below w.heap.size w w') => r12check_walk p ca cc w' (hin.below hb))
  have hlen := hin.len
  by_cases hg : Good p
  case neg =>
    rw [tr_neg (fun h => hg h.1)]
    rw [chk_neg hg] at H1
    unfold Par.cells at *
    clear hin hg
    go_enter Tryz.func53, Tryz.ntmps53
    go_wp2_with fail
    (with_reducible refine Calls.mono (H1.out _ (by with_reducible (repeat first | exact bR _ _ | assumption | exact ho (by assumption) | refine bD ?_ | refine bN ?_ _ | refine bA ?_ ?_ _ | refine bS ?_ ?_ _) <;> (first | omega | (simp <;> omega)))) ?_)
    rintro e w2 ⟨rfl, hb⟩
    obtain ⟨hc_w2, hf_w2⟩ := bcell hb
    have HB_w2 : Hid (Below w.heap.size w w2) := Lib.hid (below_step (by with_reducible (repeat first | exact bR _ _ | assumption | exact ho (by assumption) | refine bD ?_ | refine bN ?_ _ | refine bA ?_ ?_ _ | refine bS ?_ ?_ _) <;> (first | omega | (simp <;> omega))) hb)
    have hs_w2 := hb.size
    try simp only [World.size_alloc, sz_set, sz_drew, sz_drewN] at hs_w2
    have q0_w2 : w.heap.size < w2.heap.size := by omega
    have HK_w2 := Lib.hid hb
    clear hb
    go_wp2
    go_ret
    exact ⟨rfl, (by with_reducible (repeat first | exact bR _ _ | assumption | exact ho (by assumption) | refine bD ?_ | refine bN ?_ _ | refine bA ?_ ?_ _ | refine bS ?_ ?_ _) <;> (first | omega | (simp <;> omega)))⟩
  rw [chk_pos hg] at H1
  obtain ⟨n, hn⟩ : ∃ n, p.chain.length = n := ⟨_, rfl⟩
  have hT : tr (StateOk p level exponent) = tr (1 ≤ level ∧ level ≤ (n : Int) ∧ 1 ≤ exponent ∧ exponent ≤ p.power) := tr_iff ⟨fun h => by rw [← hn]; exact h.2, fun h => ⟨hg, by rw [hn]; exact h⟩⟩
  rw [hT]
  clear hT
  unfold Par.cells at *
  rw [hn] at H1 ⊢
  clear hin hg hn
  by_cases h1 : 1 ≤ level
  case' neg =>
    rw [tr_neg (fun h => h1 h.1)]
    have g : decide (1 ≤ level) = false := decide_eq_false h1
  case' pos =>
    have g : decide (1 ≤ level) = true := decide_eq_true h1
    by_cases h2 : level ≤ (n : Int)
    case' neg =>
      rw [tr_neg (fun h => h2 h.2.1)]
      have g2 : decide (level ≤ (n : Int)) = false := decide_eq_false h2
    case' pos =>
      have g2 : decide (level ≤ (n : Int)) = true := decide_eq_true h2
      by_cases h3 : 1 ≤ exponent
      case' neg =>
        rw [tr_neg (fun h => h3 h.2.2.1)]
        have g3 : decide (1 ≤ exponent) = false := decide_eq_false h3
      case' pos =>
        have g3 : decide (1 ≤ exponent) = true := decide_eq_true h3
        by_cases h4 : exponent ≤ p.power
        case' neg =>
          rw [tr_neg (fun h => h4 h.2.2.2)]
          have g4 : decide (exponent ≤ p.power) = false := decide_eq_false h4
        case' pos =>
          rw [tr_pos ⟨h1, h2, h3, h4⟩]
          have g4 : decide (exponent ≤ p.power) = true := decide_eq_true h4
  all_goals (
    go_enter Tryz.func53, Tryz.ntmps53
    go_wp2_with fail
    (with_reducible refine Calls.mono (H1.out _ (by with_reducible (repeat first | exact bR _ _ | assumption | exact ho (by assumption) | refine bD ?_ | refine bN ?_ _ | refine bA ?_ ?_ _ | refine bS ?_ ?_ _) <;> (first | omega | (simp <;> omega)))) ?_)
    rintro e w2 ⟨rfl, hb⟩
    obtain ⟨hc_w2, hf_w2⟩ := bcell hb
    have HB_w2 : Hid (Below w.heap.size w w2) := Lib.hid (below_step (by with_reducible (repeat first | exact bR _ _ | assumption | exact ho (by assumption) | refine bD ?_ | refine bN ?_ _ | refine bA ?_ ?_ _ | refine bS ?_ ?_ _) <;> (first | omega | (simp <;> omega))) hb)
    have hs_w2 := hb.size
    try simp only [World.size_alloc, sz_set, sz_drew, sz_drewN] at hs_w2
    have q0_w2 : w.heap.size < w2.heap.size := by omega
    have HK_w2 := Lib.hid hb
    clear hb
    go_wp2
    go_ret
    exact ⟨rfl, (by with_reducible (repeat first | exact bR _ _ | assumption | exact ho (by assumption) | refine bD ?_ | refine bN ?_ _ | refine bA ?_ ?_ _ | refine bS ?_ ?_ _) <;> (first | omega | (simp <;> omega)))⟩)

set_option maxHeartbeats 3200000 in
theorem r13Plain_walk (p : Par) (ca : Option Addr) (cc : Nat) (e : Nat) (w : World) (hg : Good p) (he : (e : Int) ≤ p.power) :
    Calls Tryz.prog 55 #[.agg (p.cells ca cc), .int .i64 e] w fun e' w' => e' = .returned (.int .i64 ((p.prime ^ e : Nat) : Int)) ∧ Below w.heap.size w w' := by
  have hpl := hg.plain
  have hle : e ≤ 2147483647 := by
    have h1 := pow_le hg he
    have h2 : e < p.prime ^ e := Nat.lt_pow_self (by omega)
    omega
  have HP : Hid (∀ k, k ≤ e → p.prime ^ k ≤ 2147483647) := Lib.hid (fun k hk => pow_le hg (by omega))
  unfold Par.cells
  obtain ⟨a, ha⟩ : ∃ a, p.prime = a := ⟨_, rfl⟩
  rw [ha] at HP hpl ⊢
  have ha2 := hpl.2.1
  clear hg hpl ha
  go_enter Tryz.func55, Tryz.ntmps55
  go_wp2
  go_loopg [5, 6] e (fun fu v5 v7 wr => ∃ k : Nat, v7 = .int .i64 k ∧ k ≤ e ∧ e - k ≤ fu ∧ v5 = .int .i64 ((a ^ k : Nat) : Int) ∧ Hid (wr = w.alloc (.cells (Par.cells ⟨p.n, a, p.power, p.chain, p.special, p.weight, p.err⟩ ca cc) 25)))
  case atStart => exact ⟨0, rfl, by omega, by omega, rfl, Lib.hid rfl⟩
  case round =>
    obtain ⟨k, rfl, hk, hfu, rfl, HW⟩ := hrel
    have hc : wr.cell? ⟨w.heap.size, 1, none⟩ = some (.int .u32 (a : Int)) := by rw [HW.out]; exact (Blk.newAt rfl).cell 1
    by_cases hkl : k < e
    · obtain ⟨x, hx⟩ : ∃ x, a ^ k = x := ⟨_, rfl⟩
      have hxs : a ^ (k + 1) = x * a := by rw [Nat.pow_succ, hx]
      have hxb := HP.out (k + 1) (by omega)
      have hxb0 := HP.out k (by omega)
      rw [hxs] at hxb
      rw [hx] at hxb0 ⊢
      obtain ⟨y, hy⟩ : ∃ y, x * a = y := ⟨_, rfl⟩
      rw [hy] at hxb hxs
      have hyi : (x : Int) * (a : Int) = (y : Int) := by rw [← hy]; simp
      have hw1 : IntKind.i64.wrap (a : Int) = (a : Int) := IntWalk.i64_in _ (by omega)
      have hw2 : IntKind.i64.wrap (y : Int) = (y : Int) := IntWalk.i64_in _ (by omega)
      have HX := Lib.hid hxs
      clear hxs hx hy
      go_wp2
      go_roundg (e - (k + 1))
      case measure => omega
      case rel => exact ⟨k + 1, by go_num, by omega, Nat.le_refl _, by rw [HX.out], HW⟩
    · obtain rfl : k = e := by omega
      go_wp2
      go_ret
      exact ⟨rfl, by rw [HW.out]; exact (Below.refl _ w).alloc (Nat.le_refl _) _⟩

set_option maxHeartbeats 6400000 in
theorem r14Polynomial_walk (p : Par) (ca : Option Addr) (cc : Nat) (e : Nat) (l : List Int) (al : Option Addr) (cl : Nat) (w : World) (hg : Good p) (he : (e : Int) ≤ p.power) (hl : l.length ≤ 9223372036854775807) (hrd : RdI w al l) :
    Calls Tryz.prog 23 #[.agg (p.cells ca cc), .slice al l.length cl, .int .i64 e] w fun e' w' => e' = .returned (.bool (tr (PolyOk p e l))) ∧ Below w.heap.size w w' := by
  have H1 := Lib.hid (fun (w' : World) => r13Plain_walk p ca cc e w' hg he)
  have hle := pow_le hg he
  have hpos : 1 ≤ p.prime ^ e := Nat.pow_pos (by have := hg.plain.1; omega)
  have hodd := pow_odd hg e
  have hn4 := hg.n
  obtain ⟨t, ht⟩ : ∃ t, p.prime ^ e = t := ⟨_, rfl⟩
  rw [ht] at H1 hle hpos hodd
  obtain ⟨hf, hhf⟩ : ∃ hf, (t - 1) / 2 = hf := ⟨_, rfl⟩
  have hti : (t : Int) - 1 = ((2 * hf : Nat) : Int) := by omega
  have hq1 : ((2 * hf : Nat) : Int) / 2 = (hf : Int) := by omega
  have hq2 : ((2 * hf : Nat) : Int).tdiv 2 = (hf : Int) := by rw [Int.tdiv_eq_ediv_of_nonneg (by omega)]; exact hq1
  have hfb : hf ≤ 2147483647 := by omega
  obtain ⟨n, hn⟩ : ∃ n, l.length = n := ⟨_, rfl⟩
  have HOK : Hid (PolyOk p e l ↔ (∀ j, j < n → -(hf : Int) ≤ l.getD j 0 ∧ l.getD j 0 ≤ (hf : Int)) ∧ (n : Int) = p.n) := Lib.hid (by unfold PolyOk; rw [ht, hhf, hn])
  have HRD := Lib.hid hrd
  have HL := Lib.hid hn
  unfold Par.cells at *
  rw [hn] at hl ⊢
  obtain ⟨th, hth⟩ : ∃ th : Nat, 2 * hf = th := ⟨_, rfl⟩
  rw [hth] at hti hq1 hq2
  clear hg he hrd ht hhf hn hodd hth
  go_enter Tryz.func23, Tryz.ntmps23
  go_wp2_with fail
  (with_reducible refine Calls.mono (H1.out _) ?_)
  rintro e w2 ⟨rfl, hb⟩
  obtain ⟨hc_w2, hf_w2⟩ := bcell hb
  have HB_w2 : Hid (Below w.heap.size w w2) := Lib.hid (below_step (by with_reducible (repeat first | exact bR _ _ | assumption | exact ho (by assumption) | refine bD ?_ | refine bN ?_ _ | refine bA ?_ ?_ _ | refine bS ?_ ?_ _) <;> (first | omega | (simp <;> omega))) hb)
  have hs_w2 := hb.size
  try simp only [World.size_alloc, sz_set, sz_drew, sz_drewN] at hs_w2
  have q0_w2 : w.heap.size < w2.heap.size := by omega
  have HK_w2 := Lib.hid hb
  clear hb
  go_wp2
  clear hti hq1 hq2
  go_loopg [8] n (fun fu v17 wr => ∃ k : Nat, v17 = .int .i64 k ∧ k ≤ n ∧ n - k ≤ fu ∧ Hid (∀ j, j < k → -(hf : Int) ≤ l.getD j 0 ∧ l.getD j 0 ≤ (hf : Int)) ∧ w2 = wr)
  case atStart => exact ⟨0, rfl, by omega, by omega, Lib.hid (fun j hj => by omega), rfl⟩
  case round =>
    obtain ⟨k, rfl, hk, hfu, HK, rfl⟩ := hrel
    by_cases hkl : k < n
    · obtain ⟨b1, o1, rfl, hcc⟩ := (HRD.out.below HB_w2.out) k (by rw [HL.out]; exact hkl)
      have c1 := hcc k (by rw [HL.out]; exact hkl)
      obtain ⟨x, hx⟩ : ∃ x, l.getD k 0 = x := ⟨_, rfl⟩
      rw [hx] at c1
      have HX := Lib.hid hx
      
      have i0 : (0 : Int) ≤ (k : Int) := Int.natCast_nonneg _
      have i1 : (k : Int) < (n : Int) := by omega
      clear hcc hx
      by_cases g1 : x < -(hf : Int)
      · have g1' : decide (x < -(hf : Int)) = true := decide_eq_true g1
        go_wp2
        go_ret
        exact ⟨congrArg (fun b => Ending.returned (Value.bool b)) (tr_neg (fun h => by have := ((HOK.out.1 h).1 k hkl).1; rw [HX.out] at this; omega)).symm, (by with_reducible (repeat first | exact bR _ _ | assumption | exact ho (by assumption) | refine bD ?_ | refine bN ?_ _ | refine bA ?_ ?_ _ | refine bS ?_ ?_ _) <;> (first | omega | (simp <;> omega)))⟩
      have g1' : decide (x < -(hf : Int)) = false := decide_eq_false g1
      by_cases g2 : (hf : Int) < x
      · have g2' : decide ((hf : Int) < x) = true := decide_eq_true g2
        go_wp2
        go_ret
        exact ⟨congrArg (fun b => Ending.returned (Value.bool b)) (tr_neg (fun h => by have := ((HOK.out.1 h).1 k hkl).2; rw [HX.out] at this; omega)).symm, (by with_reducible (repeat first | exact bR _ _ | assumption | exact ho (by assumption) | refine bD ?_ | refine bN ?_ _ | refine bA ?_ ?_ _ | refine bS ?_ ?_ _) <;> (first | omega | (simp <;> omega)))⟩
      have g2' : decide ((hf : Int) < x) = false := decide_eq_false g2
      go_wp2
      go_roundg (n - (k + 1))
      case measure => omega
      case rel =>
        refine ⟨k + 1, by go_num, by omega, Nat.le_refl _, Lib.hid fun j hj => ?_, rfl⟩
        rcases Nat.lt_or_eq_of_le (Nat.le_of_lt_succ hj) with h | h
        · exact HK.out j h
        · subst h; rw [HX.out]; exact ⟨by omega, by omega⟩
    · obtain rfl : k = n := by omega
      have g3 : tr (PolyOk p e l) = ((k : Int) == p.n) := by
        by_cases h : (k : Int) = p.n
        · rw [tr_pos (HOK.out.2 ⟨HK.out, h⟩)]; simp [h]
        · rw [tr_neg (fun k => h (HOK.out.1 k).2)]; simp [h]
      have G3 := Lib.hid g3
      clear g3
      go_wp2
      go_ret
      exact ⟨congrArg (fun b => Ending.returned (Value.bool b)) G3.out.symm, (by with_reducible (repeat first | exact bR _ _ | assumption | exact ho (by assumption) | refine bD ?_ | refine bN ?_ _ | refine bA ?_ ?_ _ | refine bS ?_ ?_ _) <;> (first | omega | (simp <;> omega)))⟩
end Go.Proofs.YtcipjbckcnkfaaaGreat
