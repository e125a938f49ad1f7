/- Which ciphertexts are valid: both sides, any ciphertext. (Printed by gencib.py.) -/
import Derived.Test.YtcipjbckcnkfaaaGreatPs35
set_option linter.unusedSimpArgs false
set_option linter.unusedVariables false
namespace Go.Proofs.YtcipjbckcnkfaaaGreat
open Go.RowKit Go.Shelf
attribute [local go_sem ↓] Go.wp_at_zero Go.wp_at_succ
theorem CiOk.of {p : Par} {C : Ci} (h1 : StateOk p C.level C.exponent) (h2 : C.parts.length = 2 ∨ C.parts.length = 3) (h3 : ∀ j, j < C.parts.length → PartOk p C.level (C.part j)) : CiOk p C := ⟨h1, h2, h3⟩

set_option maxHeartbeats 6400000 in
set_option maxRecDepth 100000 in
theorem ciCheck_walk (p : Par) (ca : Option Addr) (cc : Nat) (C : Ci) (ao : Option Addr) (c : Nat) (w : World) (hin : ParIn w p ca cc) (hC : CiIn w C ao c) :
    Calls Tryz.prog 62 #[.agg (p.cells ca cc), C.val ao c] w fun e w' => e = .returned (.int .i64 (chk (CiOk p C))) ∧ Below w.heap.size w w' := by
  have H1 := Lib.hid (fun (w' : World) (hb : Below w.heap.size w w') => ciState_walk p ca cc C.level C.exponent w' (hin.below hb))
  have hl1 := hC.l1
  have hl2 := hC.l2
  have hlen := hC.len
  obtain ⟨m, hm⟩ : ∃ m, C.parts.length = m := ⟨_, rfl⟩
  have HM := Lib.hid hm
  by_cases hs : StateOk p C.level C.exponent
  case neg =>
    have HQ : Hid (chk (CiOk p C) = 2) := Lib.hid (chk_neg (fun h => hs h.1))
    rw [tr_neg hs] at H1
    unfold Ci.val Par.cells at *
    rw [hm] at hlen ⊢
    clear hin hC hs hm
    go_enter Tryz.func62, Tryz.ntmps62
    go_wp2_with fail
    (with_reducible refine Calls.mono (H1.out _ (by with_reducible (repeat first | exact bR _ _ | assumption | exact ho (by assumption) | refine bD ?_ | refine bN ?_ _ | refine bA ?_ ?_ _ | refine bS ?_ ?_ _) <;> (first | omega | (simp <;> omega)))) ?_)
    rintro e w2 ⟨rfl, hb⟩
    obtain ⟨hc_w2, hf_w2⟩ := bcell hb
    have HB_w2 : Hid (Below w.heap.size w w2) := Lib.hid (below_step (by with_reducible (repeat first | exact bR _ _ | assumption | exact ho (by assumption) | refine bD ?_ | refine bN ?_ _ | refine bA ?_ ?_ _ | refine bS ?_ ?_ _) <;> (first | omega | (simp <;> omega))) hb)
    have hs_w2 := hb.size
    try simp only [World.size_alloc, sz_set, sz_drew, sz_drewN] at hs_w2
    have q0_w2 : w.heap.size < w2.heap.size := by omega
    have q1_w2 : w.heap.size + 1 < w2.heap.size := by omega
    have HK_w2 := Lib.hid hb
    clear hb
    go_wp2
    go_ret
    exact ⟨congrArg (fun b => Ending.returned (Value.int .i64 b)) HQ.out.symm, (by with_reducible (repeat first | exact bR _ _ | assumption | exact ho (by assumption) | refine bD ?_ | refine bN ?_ _ | refine bA ?_ ?_ _ | refine bS ?_ ?_ _) <;> (first | omega | (simp <;> omega)))⟩
  rw [tr_pos hs] at H1
  by_cases hm2 : m = 2 ∨ m = 3
  case neg =>
    have HQ : Hid (chk (CiOk p C) = 2) := Lib.hid (chk_neg (fun h => hm2 (by rw [← hm]; exact h.2.1)))
    unfold Ci.val Par.cells at *
    rw [hm] at hlen ⊢
    have g1 : m < 2 ∨ 3 < m := by omega
    have g2 : ((m : Int) != 2) = true := by simp; omega
    have g3 : ((m : Int) != 3) = true := by simp; omega
    clear hin hC hs hm hm2
    rcases g1 with g1 | g1
    case' inl => have g4 : decide ((m : Int) < 2) = true := decide_eq_true (by omega)
    case' inr =>
      have g4 : decide ((m : Int) < 2) = false := decide_eq_false (by omega)
      have g5 : decide ((3 : Int) < (m : Int)) = true := decide_eq_true (by omega)
    all_goals (
      go_enter Tryz.func62, Tryz.ntmps62
      go_wp2_with fail
      (with_reducible refine Calls.mono (H1.out _ (by with_reducible (repeat first | exact bR _ _ | assumption | exact ho (by assumption) | refine bD ?_ | refine bN ?_ _ | refine bA ?_ ?_ _ | refine bS ?_ ?_ _) <;> (first | omega | (simp <;> omega)))) ?_)
      rintro e w2 ⟨rfl, hb⟩
      obtain ⟨hc_w2, hf_w2⟩ := bcell hb
      have HB_w2 : Hid (Below w.heap.size w w2) := Lib.hid (below_step (by with_reducible (repeat first | exact bR _ _ | assumption | exact ho (by assumption) | refine bD ?_ | refine bN ?_ _ | refine bA ?_ ?_ _ | refine bS ?_ ?_ _) <;> (first | omega | (simp <;> omega))) hb)
      have hs_w2 := hb.size
      try simp only [World.size_alloc, sz_set, sz_drew, sz_drewN] at hs_w2
      have q0_w2 : w.heap.size < w2.heap.size := by omega
      have q1_w2 : w.heap.size + 1 < w2.heap.size := by omega
      have HK_w2 := Lib.hid hb
      clear hb
      go_wp2
      go_ret
      exact ⟨congrArg (fun b => Ending.returned (Value.int .i64 b)) HQ.out.symm, (by with_reducible (repeat first | exact bR _ _ | assumption | exact ho (by assumption) | refine bD ?_ | refine bN ?_ _ | refine bA ?_ ?_ _ | refine bS ?_ ?_ _) <;> (first | omega | (simp <;> omega)))⟩)
  have HS := Lib.hid hs
  have HM2 := Lib.hid hm2
  have HRC := Lib.hid (fun (k : Nat) (hk : k < m) (w' : World) (hb : Below w.heap.size w w') (ro : Option Addr) (rc : Nat) (hr : RdR w' ro (C.part k).rows) => rgCheck_walk p ca cc (C.part k) ro rc w' (hin.below hb) hs.1 ((hC.fit k (by omega)).elIn hr))
  have HRD := Lib.hid hC.rd
  have g1 : decide ((m : Int) < 2) = false := decide_eq_false (by omega)
  have g2 : decide ((3 : Int) < (m : Int)) = false := decide_eq_false (by omega)
  have g3 : ((m : Int) != 2) = true → ((m : Int) != 3) = false := by simp; omega
  have g3' : ((m : Int) != 2) = false ∨ (((m : Int) != 2) = true ∧ ((m : Int) != 3) = false) := by
    cases h : ((m : Int) != 2)
    · exact .inl rfl
    · exact .inr ⟨rfl, g3 h⟩
  unfold Ci.val Par.cells at *
  rw [hm] at hlen ⊢
  clear hin hC hs hm hm2 g3
  have g4 : ((m : Int) != 2) = false ∨ ((m : Int) != 3) = false := by
    rcases g3' with h | h
    · exact .inl h
    · exact .inr h.2
  rcases g3' with g3 | ⟨g3, g3b⟩
  all_goals (
    clear g4
    go_enter Tryz.func62, Tryz.ntmps62
    go_wp2_with fail
    (with_reducible refine Calls.mono (H1.out _ (by with_reducible (repeat first | exact bR _ _ | assumption | exact ho (by assumption) | refine bD ?_ | refine bN ?_ _ | refine bA ?_ ?_ _ | refine bS ?_ ?_ _) <;> (first | omega | (simp <;> omega)))) ?_)
    rintro e w2 ⟨rfl, hb⟩
    obtain ⟨hc_w2, hf_w2⟩ := bcell hb
    have HB_w2 : Hid (Below w.heap.size w w2) := Lib.hid (below_step (by with_reducible (repeat first | exact bR _ _ | assumption | exact ho (by assumption) | refine bD ?_ | refine bN ?_ _ | refine bA ?_ ?_ _ | refine bS ?_ ?_ _) <;> (first | omega | (simp <;> omega))) hb)
    have hs_w2 := hb.size
    try simp only [World.size_alloc, sz_set, sz_drew, sz_drewN] at hs_w2
    have q0_w2 : w.heap.size < w2.heap.size := by omega
    have q1_w2 : w.heap.size + 1 < w2.heap.size := by omega
    have HK_w2 := Lib.hid hb
    clear hb
    go_wp2
    go_loopg [29] m (fun fu v wr => ∃ k : Nat, v = .int .i64 k ∧ k ≤ m ∧ m - k ≤ fu ∧ Hid (∀ j, j < k → PartOk p C.level (C.part j)) ∧ Hid (Below w2.heap.size w2 wr))
    case atStart => exact ⟨0, rfl, by omega, by omega, Lib.hid (fun j hj => by omega), Lib.hid (Below.refl _ _)⟩
    case round =>
      obtain ⟨k, rfl, hk, hfu, HK, HB⟩ := hrel
      obtain ⟨hcr, hfr⟩ := bcell HB.out
      have HBW : Hid (Below w.heap.size w wr) := Lib.hid (below_step' HB_w2.out HB.out)
      have hsr := HB.out.size
      have q0_wr : w.heap.size < wr.heap.size := by omega
      have q1_wr : w.heap.size + 1 < wr.heap.size := by omega
      by_cases hkl : k < m
      case neg =>
        obtain rfl : k = m := by omega
        have HQ : Hid (chk (CiOk p C) = 0) := Lib.hid (chk_pos ⟨HS.out, by rw [HM.out]; exact HM2.out, fun i hi => HK.out i (by rw [← HM.out]; exact hi)⟩)
        go_wp2
        go_ret
        exact ⟨congrArg (fun b => Ending.returned (Value.int .i64 b)) HQ.out.symm, (by with_reducible (repeat first | exact bR _ _ | assumption | exact ho (by assumption) | refine bD ?_ | refine bN ?_ _ | refine bA ?_ ?_ _ | refine bS ?_ ?_ _) <;> (first | omega | (simp <;> omega)))⟩
      obtain ⟨b1, o1, rfl, hE⟩ := (HRD.out.below HBW.out) k (by rw [HM.out]; exact hkl)
      obtain ⟨ro, rc, c1, c2, c3, hrr, hrc, hrc2⟩ := hE k (by rw [HM.out]; exact hkl)
      have hRC := HRC.out k hkl
      have HP : Hid (PartOk p C.level (C.part k) ↔ ElOk p (C.part k) ∧ (C.part k).level = C.level ∧ (C.part k).special = false) := Lib.hid Iff.rfl
      have HE0 : Hid (C.parts.getD k ⟨0, false, []⟩ = C.part k) := Lib.hid rfl
      rw [HE0.out] at c1 c2 c3 hrr
      have HBAD : Hid (¬ PartOk p C.level (C.part k) → chk (CiOk p C) = 2) := Lib.hid (fun h => chk_neg (fun h2 => h (h2.2.2 k (by rw [HM.out]; exact hkl))))
      obtain ⟨E, hEE⟩ : ∃ E, C.part k = E := ⟨_, rfl⟩
      rw [hEE] at c1 c2 c3 hrr hRC HP HBAD
      have HEE := Lib.hid hEE
      have HRR := Lib.hid hrr
      have hRC' := Lib.hid (fun (w' : World) (hb : Below w.heap.size w w') (hb2 : Below wr.heap.size wr w') => hRC w' hb ro rc (hrr.below hb2))
      have i0 : (0 : Int) ≤ (k : Int) := Int.natCast_nonneg _
      have i1 : (k : Int) < (m : Int) := by omega
      clear hE hEE hrr hRC hrc hrc2 HE0
      unfold El.val at hRC'
      obtain ⟨es, hes⟩ : ∃ es, E.special = es := ⟨_, rfl⟩
      obtain ⟨el, hel⟩ : ∃ el, E.level = el := ⟨_, rfl⟩
      obtain ⟨en, hen⟩ : ∃ en, E.rows.length = en := ⟨_, rfl⟩
      rw [hes, hel, hen] at hRC'
      rw [hes] at c2 HP
      rw [hel] at c1 HP
      rw [hen] at c3
      clear hes hel hen
      obtain ⟨ok, hok⟩ : ∃ ok, tr (ElOk p E) = ok := ⟨_, rfl⟩
      have hck : chk (ElOk p E) = if ok then 0 else 2 := by unfold chk; rw [hok]
      rw [hck] at hRC'
      obtain ⟨ne, hne⟩ : ∃ ne, (el != C.level) = ne := ⟨_, rfl⟩
      have HP' : Hid (PartOk p C.level E ↔ (ok = true ∧ ne = false ∧ es = false)) := Lib.hid (by
        rw [HP.out, ← hok, ← hne]
        constructor
        · rintro ⟨h1, h2, h3⟩; exact ⟨tr_pos h1, by rw [h2]; simp, h3⟩
        · rintro ⟨h1, h2, h3⟩
          refine ⟨?_, by simpa using h2, h3⟩
          by_cases h : ElOk p E
          · exact h
          · rw [tr_neg h] at h1; cases h1)
      clear hok hck HP
      cases ne <;> cases es <;> cases ok
      all_goals (try simp only [if_true, if_false, Bool.false_eq_true] at hRC')
      all_goals (
        go_wp2_with (go_at_call 90; refine (hRC'.out _ (by with_reducible (repeat first | exact bR _ _ | assumption | exact ho (by assumption) | refine bD ?_ | refine bN ?_ _ | refine bA ?_ ?_ _ | refine bS ?_ ?_ _) <;> (first | omega | (simp <;> omega))) (by with_reducible (repeat first | exact bR _ _ | assumption | exact ho (by assumption) | refine bD ?_ | refine bN ?_ _ | refine bA ?_ ?_ _ | refine bS ?_ ?_ _) <;> (first | omega | (simp <;> omega)))).mono ?_; rintro e w3 ⟨rfl, hb3⟩; obtain ⟨hc3, hf3⟩ := bcell hb3; have HB3 : Hid (Below w.heap.size w w3) := Lib.hid (below_step' (by with_reducible (repeat first | exact bR _ _ | assumption | exact ho (by assumption) | refine bD ?_ | refine bN ?_ _ | refine bA ?_ ?_ _ | refine bS ?_ ?_ _) <;> (first | omega | (simp <;> omega))) hb3); have HB3' : Hid (Below w2.heap.size w2 w3) := Lib.hid (below_step' ((HB.out).alloc hsr _) hb3); clear hb3)
        first
        | (go_ret
           exact ⟨congrArg (fun b => Ending.returned (Value.int .i64 b)) (HBAD.out (fun h => by have := HP'.out.1 h; simp at this)).symm, (by with_reducible (repeat first | exact bR _ _ | assumption | exact ho (by assumption) | refine bD ?_ | refine bN ?_ _ | refine bA ?_ ?_ _ | refine bS ?_ ?_ _) <;> (first | omega | (simp <;> omega)))⟩)
        | (go_roundg (m - (k + 1))
           case measure => omega
           case rel =>
             refine ⟨k + 1, by go_num, by omega, Nat.le_refl _, Lib.hid fun j hj => ?_, HB3'⟩
             rcases Nat.lt_or_eq_of_le (Nat.le_of_lt_succ hj) with h | h
             · exact HK.out j h
             · subst h; rw [HEE.out]; exact HP'.out.2 (by simp))))

set_option maxHeartbeats 6400000 in
set_option maxRecDepth 100000 in
theorem r14Check_walk (p : Par) (ca : Option Addr) (cc : Nat) (C : Ci) (ao : Option Addr) (c : Nat) (w : World) (hin : ParIn w p ca cc) (hC : CiIn w C ao c) :
    Calls Tryz.prog 22 #[.agg (p.cells ca cc), C.val ao c] w fun e w' => e = .returned (.int .i64 (chk (CiOk p C))) ∧ Below w.heap.size w w' := by
  have H1 := Lib.hid (fun (w' : World) (hb : Below w.heap.size w w') => r14State_walk p ca cc C.level C.exponent w' (hin.below hb))
  have hl1 := hC.l1
  have hl2 := hC.l2
  have hlen := hC.len
  obtain ⟨m, hm⟩ : ∃ m, C.parts.length = m := ⟨_, rfl⟩
  have HM := Lib.hid hm
  by_cases hs : StateOk p C.level C.exponent
  case neg =>
    have HQ : Hid (chk (CiOk p C) = 2) := Lib.hid (chk_neg (fun h => hs h.1))
    rw [tr_neg hs] at H1
    unfold Ci.val Par.cells at *
    rw [hm] at hlen ⊢
    clear hin hC hs hm
    go_enter Tryz.func22, Tryz.ntmps22
    go_wp2_with fail
    (with_reducible refine Calls.mono (H1.out _ (by with_reducible (repeat first | exact bR _ _ | assumption | exact ho (by assumption) | refine bD ?_ | refine bN ?_ _ | refine bA ?_ ?_ _ | refine bS ?_ ?_ _) <;> (first | omega | (simp <;> omega)))) ?_)
    rintro e w2 ⟨rfl, hb⟩
    obtain ⟨hc_w2, hf_w2⟩ := bcell hb
    have HB_w2 : Hid (Below w.heap.size w w2) := Lib.hid (below_step (by with_reducible (repeat first | exact bR _ _ | assumption | exact ho (by assumption) | refine bD ?_ | refine bN ?_ _ | refine bA ?_ ?_ _ | refine bS ?_ ?_ _) <;> (first | omega | (simp <;> omega))) hb)
    have hs_w2 := hb.size
    try simp only [World.size_alloc, sz_set, sz_drew, sz_drewN] at hs_w2
    have q0_w2 : w.heap.size < w2.heap.size := by omega
    have q1_w2 : w.heap.size + 1 < w2.heap.size := by omega
    have HK_w2 := Lib.hid hb
    clear hb
    go_wp2
    go_ret
    exact ⟨congrArg (fun b => Ending.returned (Value.int .i64 b)) HQ.out.symm, (by with_reducible (repeat first | exact bR _ _ | assumption | exact ho (by assumption) | refine bD ?_ | refine bN ?_ _ | refine bA ?_ ?_ _ | refine bS ?_ ?_ _) <;> (first | omega | (simp <;> omega)))⟩
  rw [tr_pos hs] at H1
  by_cases hm2 : m = 2 ∨ m = 3
  case neg =>
    have HQ : Hid (chk (CiOk p C) = 2) := Lib.hid (chk_neg (fun h => hm2 (by rw [← hm]; exact h.2.1)))
    unfold Ci.val Par.cells at *
    rw [hm] at hlen ⊢
    have g1 : m < 2 ∨ 3 < m := by omega
    have g2 : ((m : Int) != 2) = true := by simp; omega
    have g3 : ((m : Int) != 3) = true := by simp; omega
    clear hin hC hs hm hm2
    rcases g1 with g1 | g1
    case' inl => have g4 : decide ((m : Int) < 2) = true := decide_eq_true (by omega)
    case' inr =>
      have g4 : decide ((m : Int) < 2) = false := decide_eq_false (by omega)
      have g5 : decide ((3 : Int) < (m : Int)) = true := decide_eq_true (by omega)
    all_goals (
      go_enter Tryz.func22, Tryz.ntmps22
      go_wp2_with fail
      (with_reducible refine Calls.mono (H1.out _ (by with_reducible (repeat first | exact bR _ _ | assumption | exact ho (by assumption) | refine bD ?_ | refine bN ?_ _ | refine bA ?_ ?_ _ | refine bS ?_ ?_ _) <;> (first | omega | (simp <;> omega)))) ?_)
      rintro e w2 ⟨rfl, hb⟩
      obtain ⟨hc_w2, hf_w2⟩ := bcell hb
      have HB_w2 : Hid (Below w.heap.size w w2) := Lib.hid (below_step (by with_reducible (repeat first | exact bR _ _ | assumption | exact ho (by assumption) | refine bD ?_ | refine bN ?_ _ | refine bA ?_ ?_ _ | refine bS ?_ ?_ _) <;> (first | omega | (simp <;> omega))) hb)
      have hs_w2 := hb.size
      try simp only [World.size_alloc, sz_set, sz_drew, sz_drewN] at hs_w2
      have q0_w2 : w.heap.size < w2.heap.size := by omega
      have q1_w2 : w.heap.size + 1 < w2.heap.size := by omega
      have HK_w2 := Lib.hid hb
      clear hb
      go_wp2
      go_ret
      exact ⟨congrArg (fun b => Ending.returned (Value.int .i64 b)) HQ.out.symm, (by with_reducible (repeat first | exact bR _ _ | assumption | exact ho (by assumption) | refine bD ?_ | refine bN ?_ _ | refine bA ?_ ?_ _ | refine bS ?_ ?_ _) <;> (first | omega | (simp <;> omega)))⟩)
  have HS := Lib.hid hs
  have HM2 := Lib.hid hm2
  have HRC := Lib.hid (fun (k : Nat) (hk : k < m) (w' : World) (hb : Below w.heap.size w w') (ro : Option Addr) (rc : Nat) (hr : RdR w' ro (C.part k).rows) => r09Check_walk p ca cc (C.part k) ro rc w' (hin.below hb) hs.1 ((hC.fit k (by omega)).elIn hr))
  have HRD := Lib.hid hC.rd
  have g1 : decide ((m : Int) < 2) = false := decide_eq_false (by omega)
  have g2 : decide ((3 : Int) < (m : Int)) = false := decide_eq_false (by omega)
  have g3 : ((m : Int) != 2) = true → ((m : Int) != 3) = false := by simp; omega
  have g3' : ((m : Int) != 2) = false ∨ (((m : Int) != 2) = true ∧ ((m : Int) != 3) = false) := by
    cases h : ((m : Int) != 2)
    · exact .inl rfl
    · exact .inr ⟨rfl, g3 h⟩
  unfold Ci.val Par.cells at *
  rw [hm] at hlen ⊢
  clear hin hC hs hm hm2 g3
  have g4 : ((m : Int) != 2) = false ∨ ((m : Int) != 3) = false := by
    rcases g3' with h | h
    · exact .inl h
    · exact .inr h.2
  rcases g3' with g3 | ⟨g3, g3b⟩
  all_goals (
    clear g4
    go_enter Tryz.func22, Tryz.ntmps22
    go_wp2_with fail
    (with_reducible refine Calls.mono (H1.out _ (by with_reducible (repeat first | exact bR _ _ | assumption | exact ho (by assumption) | refine bD ?_ | refine bN ?_ _ | refine bA ?_ ?_ _ | refine bS ?_ ?_ _) <;> (first | omega | (simp <;> omega)))) ?_)
    rintro e w2 ⟨rfl, hb⟩
    obtain ⟨hc_w2, hf_w2⟩ := bcell hb
    have HB_w2 : Hid (Below w.heap.size w w2) := Lib.hid (below_step (by with_reducible (repeat first | exact bR _ _ | assumption | exact ho (by assumption) | refine bD ?_ | refine bN ?_ _ | refine bA ?_ ?_ _ | refine bS ?_ ?_ _) <;> (first | omega | (simp <;> omega))) hb)
    have hs_w2 := hb.size
    try simp only [World.size_alloc, sz_set, sz_drew, sz_drewN] at hs_w2
    have q0_w2 : w.heap.size < w2.heap.size := by omega
    have q1_w2 : w.heap.size + 1 < w2.heap.size := by omega
    have HK_w2 := Lib.hid hb
    clear hb
    go_wp2
    go_loopg [5] m (fun fu v wr => ∃ k : Nat, v = .int .i64 k ∧ k ≤ m ∧ m - k ≤ fu ∧ Hid (∀ j, j < k → PartOk p C.level (C.part j)) ∧ Hid (Below w2.heap.size w2 wr))
    case atStart => exact ⟨0, rfl, by omega, by omega, Lib.hid (fun j hj => by omega), Lib.hid (Below.refl _ _)⟩
    case round =>
      obtain ⟨k, rfl, hk, hfu, HK, HB⟩ := hrel
      obtain ⟨hcr, hfr⟩ := bcell HB.out
      have HBW : Hid (Below w.heap.size w wr) := Lib.hid (below_step' HB_w2.out HB.out)
      have hsr := HB.out.size
      have q0_wr : w.heap.size < wr.heap.size := by omega
      have q1_wr : w.heap.size + 1 < wr.heap.size := by omega
      by_cases hkl : k < m
      case neg =>
        obtain rfl : k = m := by omega
        have HQ : Hid (chk (CiOk p C) = 0) := Lib.hid (chk_pos ⟨HS.out, by rw [HM.out]; exact HM2.out, fun i hi => HK.out i (by rw [← HM.out]; exact hi)⟩)
        go_wp2
        go_ret
        exact ⟨congrArg (fun b => Ending.returned (Value.int .i64 b)) HQ.out.symm, (by with_reducible (repeat first | exact bR _ _ | assumption | exact ho (by assumption) | refine bD ?_ | refine bN ?_ _ | refine bA ?_ ?_ _ | refine bS ?_ ?_ _) <;> (first | omega | (simp <;> omega)))⟩
      obtain ⟨b1, o1, rfl, hE⟩ := (HRD.out.below HBW.out) k (by rw [HM.out]; exact hkl)
      obtain ⟨ro, rc, c1, c2, c3, hrr, hrc, hrc2⟩ := hE k (by rw [HM.out]; exact hkl)
      have hRC := HRC.out k hkl
      have HP : Hid (PartOk p C.level (C.part k) ↔ ElOk p (C.part k) ∧ (C.part k).level = C.level ∧ (C.part k).special = false) := Lib.hid Iff.rfl
      have HE0 : Hid (C.parts.getD k ⟨0, false, []⟩ = C.part k) := Lib.hid rfl
      rw [HE0.out] at c1 c2 c3 hrr
      have HBAD : Hid (¬ PartOk p C.level (C.part k) → chk (CiOk p C) = 2) := Lib.hid (fun h => chk_neg (fun h2 => h (h2.2.2 k (by rw [HM.out]; exact hkl))))
      obtain ⟨E, hEE⟩ : ∃ E, C.part k = E := ⟨_, rfl⟩
      rw [hEE] at c1 c2 c3 hrr hRC HP HBAD
      have HEE := Lib.hid hEE
      have HRR := Lib.hid hrr
      have hRC' := Lib.hid (fun (w' : World) (hb : Below w.heap.size w w') (hb2 : Below wr.heap.size wr w') => hRC w' hb ro rc (hrr.below hb2))
      have i0 : (0 : Int) ≤ (k : Int) := Int.natCast_nonneg _
      have i1 : (k : Int) < (m : Int) := by omega
      clear hE hEE hrr hRC hrc hrc2 HE0
      unfold El.val at hRC'
      obtain ⟨es, hes⟩ : ∃ es, E.special = es := ⟨_, rfl⟩
      obtain ⟨el, hel⟩ : ∃ el, E.level = el := ⟨_, rfl⟩
      obtain ⟨en, hen⟩ : ∃ en, E.rows.length = en := ⟨_, rfl⟩
      rw [hes, hel, hen] at hRC'
      rw [hes] at c2 HP
      rw [hel] at c1 HP
      rw [hen] at c3
      clear hes hel hen
      obtain ⟨ok, hok⟩ : ∃ ok, tr (ElOk p E) = ok := ⟨_, rfl⟩
      have hck : chk (ElOk p E) = if ok then 0 else 2 := by unfold chk; rw [hok]
      rw [hck] at hRC'
      obtain ⟨ne, hne⟩ : ∃ ne, (el != C.level) = ne := ⟨_, rfl⟩
      have HP' : Hid (PartOk p C.level E ↔ (ok = true ∧ ne = false ∧ es = false)) := Lib.hid (by
        rw [HP.out, ← hok, ← hne]
        constructor
        · rintro ⟨h1, h2, h3⟩; exact ⟨tr_pos h1, by rw [h2]; simp, h3⟩
        · rintro ⟨h1, h2, h3⟩
          refine ⟨?_, by simpa using h2, h3⟩
          by_cases h : ElOk p E
          · exact h
          · rw [tr_neg h] at h1; cases h1)
      clear hok hck HP
      cases ne <;> cases es <;> cases ok
      all_goals (try simp only [if_true, if_false, Bool.false_eq_true] at hRC')
      all_goals (
        go_wp2_with (go_at_call 54; refine (hRC'.out _ (by with_reducible (repeat first | exact bR _ _ | assumption | exact ho (by assumption) | refine bD ?_ | refine bN ?_ _ | refine bA ?_ ?_ _ | refine bS ?_ ?_ _) <;> (first | omega | (simp <;> omega))) (by with_reducible (repeat first | exact bR _ _ | assumption | exact ho (by assumption) | refine bD ?_ | refine bN ?_ _ | refine bA ?_ ?_ _ | refine bS ?_ ?_ _) <;> (first | omega | (simp <;> omega)))).mono ?_; rintro e w3 ⟨rfl, hb3⟩; obtain ⟨hc3, hf3⟩ := bcell hb3; have HB3 : Hid (Below w.heap.size w w3) := Lib.hid (below_step' (by with_reducible (repeat first | exact bR _ _ | assumption | exact ho (by assumption) | refine bD ?_ | refine bN ?_ _ | refine bA ?_ ?_ _ | refine bS ?_ ?_ _) <;> (first | omega | (simp <;> omega))) hb3); have HB3' : Hid (Below w2.heap.size w2 w3) := Lib.hid (below_step' ((HB.out).alloc hsr _) hb3); clear hb3)
        first
        | (go_ret
           exact ⟨congrArg (fun b => Ending.returned (Value.int .i64 b)) (HBAD.out (fun h => by have := HP'.out.1 h; simp at this)).symm, (by with_reducible (repeat first | exact bR _ _ | assumption | exact ho (by assumption) | refine bD ?_ | refine bN ?_ _ | refine bA ?_ ?_ _ | refine bS ?_ ?_ _) <;> (first | omega | (simp <;> omega)))⟩)
        | (go_roundg (m - (k + 1))
           case measure => omega
           case rel =>
             refine ⟨k + 1, by go_num, by omega, Nat.le_refl _, Lib.hid fun j hj => ?_, HB3'⟩
             rcases Nat.lt_or_eq_of_le (Nat.le_of_lt_succ hj) with h | h
             · exact HK.out j h
             · subst h; rw [HEE.out]; exact HP'.out.2 (by simp))))
end Go.Proofs.YtcipjbckcnkfaaaGreat
